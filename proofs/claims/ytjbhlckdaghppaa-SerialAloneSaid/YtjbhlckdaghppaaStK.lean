/- store: the reference's store: Find, Get, Times. No condition. -/
import Derived.Test.YtjbhlckdaghppaaStI
set_option linter.unusedVariables false
set_option linter.unusedSimpArgs false
namespace Go.Proofs.Ytjbhlckdaghppaa
open Go.RowKit (wrap32 wrap64)
open Go.RowKit Go.Shelf Go.Sort Go.Lib
theorem own_keepB {w w1 : World} {S : Nat → Prop} {base : Nat} {e : TypeId} {size n : Nat} {v : Value} {xs : List Value} (ho : w.ownsRow base e size v n xs) (k : Keep S w w1) (hS : ∀ i, v.ownBlock = some i → ¬ S i) : w1.ownsRow base e size v n xs := by
  refine ⟨ho.1, ?_⟩
  rcases ho.2 with hn | ⟨g, cap', cur, hv, hb, hg, r⟩
  · exact .inl hn
  · exact .inr ⟨g, cap', cur, hv, hb, (k.block g (Array.getElem?_eq_some_iff.1 hg).1 (hS g (by rw [hv]; rfl))).trans hg, r⟩
/-- The reference's store: at block x its rows and how often each was set. -/
structure RfO (w : World) (x : Nat) (vL vC : Value) (E : List Cl) : Prop where
  bk : Bk w x 39 #[vL, vC]
  ls : w.ownsRow (x + 1) 30 6 vL E.length (flatV enRw (E.map rwOf))
  cs : w.ownsRow (x + 1) 3 1 vC E.length (E.map fun c => Value.int .i64 c.n)
  nil : E = [] → vL = .slice none 0 0 ∧ vC = .slice none 0 0
/-- The blocks that are its own. -/
def RS (x : Nat) (vL vC : Value) (i : Nat) : Prop := i = x ∨ vL.ownBlock = some i ∨ vC.ownBlock = some i
theorem RfO.lt_of {w : World} {x : Nat} {vL vC : Value} {E : List Cl} (h : RfO w x vL vC E) {i : Nat} (hi : RS x vL vC i) : x ≤ i ∧ i < w.heap.size := by
  rcases hi with rfl | hi | hi
  · exact ⟨Nat.le_refl _, h.bk.lt⟩
  · have := h.ls.lt i hi; omega
  · have := h.cs.lt i hi; omega
theorem RfO.keep {S : Nat → Prop} {w w1 : World} {x : Nat} {vL vC : Value} {E : List Cl} (h : RfO w x vL vC E) (k : Keep S w w1) (hS : ∀ i, RS x vL vC i → ¬ S i) : RfO w1 x vL vC E :=
  ⟨k.bk h.bk (hS x (.inl rfl)), own_keepB h.ls k (fun i hi => hS i (.inr (.inl hi))), own_keepB h.cs k (fun i hi => hS i (.inr (.inr hi))), h.nil⟩
theorem RfO.below {w w1 : World} {x : Nat} {vL vC : Value} {E : List Cl} (h : RfO w x vL vC E) (k : Below w.heap.size w w1) : RfO w1 x vL vC E :=
  h.keep (Keep.of_below k (fun _ => False)) (fun _ _ h => h)
theorem RfO.start (w : World) : RfO (w.alloc (.cells #[.slice none 0 0, .slice none 0 0] 39)) w.heap.size (.slice none 0 0) (.slice none 0 0) [] :=
  ⟨Bk.new w _ _, World.ownsRow_nil _ _ _ _, World.ownsRow_nil _ _ _ _, fun _ => ⟨rfl, rfl⟩⟩
theorem okE_rows {E : List Cl} {K : Nat} (h : OkE E K) : ∀ x ∈ E.map rwOf, okRw x := by
  intro x hx
  obtain ⟨c, hc, rfl⟩ := List.mem_map.1 hx
  obtain ⟨h0, h1, h2, h3, h4⟩ := (h.may c hc).2
  have hv := (h.cnt c hc).1
  exact ⟨h0, h1, h2, h3, h4, by show (decide _ && decide _) = true; simp [rwOf, IntKind.min, IntKind.max, IntKind.signed, IntKind.bits]; omega⟩
theorem RfO.row {w : World} {x : Nat} {vL vC : Value} {E : List Cl} {K : Nat} (h : RfO w x vL vC E) (hE : OkE E K) : ∃ A n c, vL = .slice A n c ∧ n = E.length ∧ Rws w A n (E.map rwOf) := by
  obtain ⟨A, c, e, hs, _, _⟩ := SR.own (ok := okRw) enRw_len (by omega) h.ls (okE_rows hE)
  exact ⟨A, E.length, c, e, rfl, hs⟩
theorem RfO.cnts {w : World} {x : Nat} {vL vC : Value} {E : List Cl} (h : RfO w x vL vC E) : ∃ A n c, vC = .slice A n c ∧ n = E.length ∧ Ints w A n (E.map Cl.n) := by
  obtain ⟨A, c, e, hs⟩ := own_ints (xs := E.map Cl.n) (by rw [List.map_map]; exact h.cs)
  exact ⟨A, E.length, c, e, rfl, hs⟩
def findE (E : List Cl) (p : Pt) : Int := match E.findIdx? (fun c => decide (c.p = p)) with | some i => (i : Int) | none => -1
theorem findE_at {E : List Cl} {p : Pt} {k : Nat} {c : Cl} (hc : E[k]? = some c) (hp : c.p = p) (h : ∀ j c, j < k → E[j]? = some c → c.p ≠ p) : findE E p = k := by
  obtain ⟨hk, he⟩ := List.getElem?_eq_some_iff.1 hc
  have : E.findIdx? (fun c => decide (c.p = p)) = some k := by
    rw [List.findIdx?_eq_some_iff_getElem]
    exact ⟨hk, by rw [he]; simpa using hp, fun j hj => by have := h j E[j] hj (List.getElem?_eq_getElem (by omega)); simpa using this⟩
  unfold findE
  rw [this]
theorem findE_no {E : List Cl} {p : Pt} (h : ∀ j c, j < E.length → E[j]? = some c → c.p ≠ p) : findE E p = -1 := by
  have : E.findIdx? (fun c => decide (c.p = p)) = none := by
    rw [List.findIdx?_eq_none_iff]
    intro c hc
    obtain ⟨j, hj, rfl⟩ := List.mem_iff_getElem.1 hc
    simpa using h j E[j] hj (List.getElem?_eq_getElem hj)
  unfold findE
  rw [this]
theorem findE_cases {E : List Cl} {K : Nat} (h : OkE E K) (p : Pt) : (findE E p = -1 ∧ hasE E p = false) ∨ ∃ (i : Nat) (c : Cl), findE E p = i ∧ i < E.length ∧ E[i]? = some c ∧ c.p = p ∧ getE E p = (c.v, c.n) := by
  unfold findE
  cases hf : E.findIdx? (fun c => decide (c.p = p)) with
  | none =>
    rw [List.findIdx?_eq_none_iff] at hf
    exact .inl ⟨rfl, has_none (fun c hc => by simpa using hf c hc)⟩
  | some i =>
    obtain ⟨hi, hp, _⟩ := List.findIdx?_eq_some_iff_getElem.1 hf
    have hp2 : E[i].p = p := by simpa using hp
    exact .inr ⟨i, E[i], rfl, hi, List.getElem?_eq_getElem hi, hp2, by rw [← hp2]; exact get_mem h (List.getElem_mem hi)⟩
set_option maxRecDepth 100000 in
set_option maxHeartbeats 4000000 in
theorem rfind_any (x : Nat) (vL vC : Value) (E : List Cl) (K : Nat) (p : Pt) (w : World) (h : RfO w x vL vC E) (hE : OkE E K) (hK : K ≤ 1000) :
    Calls Try.prog 38 #[.pointer (some ⟨x, 0, none⟩), .agg (ptA p)] w fun e w' => e = .returned (.int .i64 (findE E p)) ∧ Below w.heap.size w w' := by
  obtain ⟨A, n, c, rfl, hn, hs⟩ := h.row hE
  have hnK : n ≤ 1000 := by rw [hn]; exact Nat.le_trans hE.len hK
  have a1 := (Below.refl w.heap.size w).alloc (Nat.le_refl _) (PB p)
  have b1 := Bk.new w 25 (ptA p)
  have hx := h.bk.below a1
  have x0 := hx.cell 0
  have HS := Lib.hid hs
  have HN := Lib.hid hn
  clear h hx hs hE hn
  go_enter Try.func38, Try.ntmps38
  go_wp2_with fail
  go_loopw [12] (fun c wr => ∃ k : Nat, k ≤ n ∧ c = .int .i64 k ∧ Hid (∀ j c, j < k → E[j]? = some c → c.p ≠ p) ∧ Bk wr w.heap.size 25 (ptA p) ∧ Below w.heap.size w wr) (fun c _ => n - (intOf c).toNat)
  case atStart => exact ⟨0, by omega, rfl, Lib.hid (by intro j c hj; omega), b1, a1⟩
  case round =>
    clear x0 b1 a1
    obtain ⟨k, hk, rfl, HP, hBX, HB⟩ := hrel
    by_cases hlt : k < n
    · obtain ⟨b0, off, y, rfl, _, hy, hoky, d0, d1, d2, d3, d4, d5⟩ := Rw_at (HS.out.below HB) hlt
      obtain ⟨c, hc, hcy⟩ : ∃ c, E[k]? = some c ∧ rwOf c = y := by
        rw [List.getElem?_map] at hy
        cases hq : E[k]? with
        | none => rw [hq] at hy; cases hy
        | some c => rw [hq] at hy; injection hy with hy; exact ⟨c, rfl, hy⟩
      have hpy : rwP y = c.p := by rw [← hcy]; rfl
      have al := (Below.refl wr.heap.size wr).alloc (Nat.le_refl _) (.cells #[.int .i64 y.n0, .int .i64 y.n1, .int .i64 y.n2, .int .i64 y.n3, .int .i64 y.dep, .int .i64 y.val] 30)
      have hby := Bk.new wr 30 #[.int .i64 y.n0, .int .i64 y.n1, .int .i64 y.n2, .int .i64 y.n3, .int .i64 y.dep, .int .i64 y.val]
      have hbp := hBX.below al
      have HBP := Lib.hid hbp
      have HB2 := Lib.hid (bl_then HB (Nat.le_refl _) al)
      have q0 := hby.cell 0
      have q1 := hby.cell 1
      have q2 := hby.cell 2
      have q3 := hby.cell 3
      have q4 := hby.cell 4
      have q5 := hby.cell 5
      have y0 := hbp.cell 0
      have y1 := hbp.cell 1
      have y2 := hbp.cell 2
      have y3 := hbp.cell 3
      have y4 := hbp.cell 4
      have HEQ := fun w => eqlPt (rwP y) p w
      have HC := Lib.hid hc
      have HPY := Lib.hid hpy
      have hnx : c.p ≠ p → Hid (∀ j c, j < k + 1 → E[j]? = some c → c.p ≠ p) := fun hne => Lib.hid (by
        intro j c' hj hc'
        by_cases e : j = k
        · subst e
          rw [HC.out] at hc'
          injection hc' with hc'
          rw [← hc']; exact hne
        · exact HP.out j c' (by omega) hc')
      have h4 : ∀ w, (Op.equalIn 9999 23 (.agg #[.int .i64 y.n0, .int .i64 y.n1, .int .i64 y.n2, .int .i64 y.n3]) (.agg #[.int .i64 p.n0, .int .i64 p.n1, .int .i64 p.n2, .int .i64 p.n3])).run Try.prog w = .ok (decide (y.n0 = p.n0 ∧ y.n1 = p.n1 ∧ y.n2 = p.n2 ∧ y.n3 = p.n3)) w := fun w => eqN4Pt 9997 y.n0 y.n1 y.n2 y.n3 p.n0 p.n1 p.n2 p.n3 w
      clear al hby hbp hy hc hcy hpy hoky hBX HB
      by_cases e : rwP y = p
      · rw [decide_eq_true e] at HEQ
        have a4 : y.n0 = p.n0 ∧ y.n1 = p.n1 ∧ y.n2 = p.n2 ∧ y.n3 = p.n3 := by rw [← e]; exact ⟨rfl, rfl, rfl, rfl⟩
        rw [decide_eq_true a4] at h4
        have a6 : (y.dep == p.dep) = true := by rw [← e]; simp [rwP]
        have HF : Hid (findE E p = k) := Lib.hid (findE_at HC.out (by rw [← HPY.out]; exact e) HP.out)
        clear e a4 hnx HPY
        go_wp2
        go_ret
        exact ⟨by rw [HF.out]; rfl, HB2.out⟩
      · rw [decide_eq_false e] at HEQ
        have HNX := hnx (by rw [← HPY.out]; exact e)
        clear hnx HPY
        by_cases a4 : y.n0 = p.n0 ∧ y.n1 = p.n1 ∧ y.n2 = p.n2 ∧ y.n3 = p.n3
        · rw [decide_eq_true a4] at h4
          have a5 : y.dep ≠ p.dep := fun g => e (by
            obtain ⟨e0, e1, e2, e3⟩ := a4
            unfold rwP
            rw [e0, e1, e2, e3, g])
          have a6 : (y.dep == p.dep) = false := by simp [a5]
          clear e a4 a5
          go_wp2
          go_roundw
          case rel => exact ⟨k + 1, by omega, by go_num, HNX, HBP.out, HB2.out⟩
          case measure => simp [intOf]; omega
        · rw [decide_eq_false a4] at h4
          clear e a4
          go_wp2
          go_roundw
          case rel => exact ⟨k + 1, by omega, by go_num, HNX, HBP.out, HB2.out⟩
          case measure => simp [intOf]; omega
    · obtain rfl : k = n := by omega
      have HF : Hid (findE E p = -1) := Lib.hid (findE_no (fun j c hj => HP.out j c (by rw [HN.out]; exact hj)))
      go_wp2
      go_ret
      exact ⟨by rw [HF.out]; rfl, HB⟩
set_option maxRecDepth 100000 in
set_option maxHeartbeats 4000000 in
theorem rget_any (x : Nat) (vL vC : Value) (E : List Cl) (K : Nat) (p : Pt) (w : World) (h : RfO w x vL vC E) (hE : OkE E K) (hK : K ≤ 1000) :
    Calls Try.prog 15 #[.pointer (some ⟨x, 0, none⟩), .agg (ptA p)] w fun e w' => e = .returned (.int .i64 (getE E p).1) ∧ Below w.heap.size w w' := by
  have a1 := (Below.refl w.heap.size w).alloc (Nat.le_refl _) (PB p)
  have b1 := Bk.new w 25 (ptA p)
  have HFD := Lib.hid (rfind_any x vL vC E K p _ (h.below a1) hE hK)
  have e0 := b1.cell 0
  have e1 := b1.cell 1
  have e2 := b1.cell 2
  have e3 := b1.cell 3
  have e4 := b1.cell 4
  rcases findE_cases hE p with ⟨hf, hh⟩ | ⟨i, c, hf, hi, hc, hp, hg⟩
  · have HG : Hid ((getE E p).1 = 0) := Lib.hid (by rw [has_false_get hh])
    rw [hf] at HFD
    clear h hE b1 hf hh
    go_enter Try.func15, Try.ntmps15
    go_wp2_with (go_at_call 38; refine HFD.out.mono ?_; rintro e w1 ⟨rfl, hb1⟩)
    go_ret
    exact ⟨by rw [HG.out]; rfl, bl_then a1 (Nat.le_refl _) hb1⟩
  · have HG : Hid ((getE E p).1 = c.v) := Lib.hid (by rw [hg])
    rw [hf] at HFD
    obtain ⟨A, n, cc, rfl, hn, hs⟩ := h.row hE
    rw [← hn] at hi
    have hnK : n ≤ 1000 := by rw [hn]; exact Nat.le_trans hE.len hK
    have HX := Lib.hid (fun W1 (hb : Below w.heap.size w W1) => h.bk.below hb)
    have HV := Lib.hid (fun W1 (hb : Below w.heap.size w W1) => Rw_at (hs.below hb) hi)
    have HY : Hid ((E.map rwOf)[i]? = some (rwOf c)) := Lib.hid (by rw [List.getElem?_map, hc]; rfl)
    clear h hE b1 hf hp hg hc hn hs
    go_enter Try.func15, Try.ntmps15
    go_wp2_with (go_at_call 38; refine HFD.out.mono ?_; rintro e w1 ⟨rfl, hb1⟩; have HB := Lib.hid (bl_then a1 (Nat.le_refl _) hb1); have x0 := (HX.out _ HB.out).cell 0; obtain ⟨b, off, y, rfl, _, hy, _, _, _, _, _, _, d5⟩ := HV.out _ HB.out; have HYV : Hid (y.val = c.v) := Lib.hid (by have := hy.symm.trans HY.out; injection this with this; rw [this]; rfl); clear hy)
    go_ret
    exact ⟨by rw [HG.out, ← HYV.out]; rfl, HB.out⟩
set_option maxRecDepth 100000 in
set_option maxHeartbeats 4000000 in
theorem rtimes_any (x : Nat) (vL vC : Value) (E : List Cl) (K : Nat) (p : Pt) (w : World) (h : RfO w x vL vC E) (hE : OkE E K) (hK : K ≤ 1000) :
    Calls Try.prog 16 #[.pointer (some ⟨x, 0, none⟩), .agg (ptA p)] w fun e w' => e = .returned (.int .i64 (getE E p).2) ∧ Below w.heap.size w w' := by
  have a1 := (Below.refl w.heap.size w).alloc (Nat.le_refl _) (PB p)
  have b1 := Bk.new w 25 (ptA p)
  have HFD := Lib.hid (rfind_any x vL vC E K p _ (h.below a1) hE hK)
  have e0 := b1.cell 0
  have e1 := b1.cell 1
  have e2 := b1.cell 2
  have e3 := b1.cell 3
  have e4 := b1.cell 4
  rcases findE_cases hE p with ⟨hf, hh⟩ | ⟨i, c, hf, hi, hc, hp, hg⟩
  · have HG : Hid ((getE E p).2 = 0) := Lib.hid (by rw [has_false_get hh])
    rw [hf] at HFD
    clear h hE b1 hf hh
    go_enter Try.func16, Try.ntmps16
    go_wp2_with (go_at_call 38; refine HFD.out.mono ?_; rintro e w1 ⟨rfl, hb1⟩)
    go_ret
    exact ⟨by rw [HG.out]; rfl, bl_then a1 (Nat.le_refl _) hb1⟩
  · have HG : Hid ((getE E p).2 = c.n) := Lib.hid (by rw [hg])
    rw [hf] at HFD
    obtain ⟨A, n, cc, rfl, hn, hs⟩ := h.cnts
    rw [← hn] at hi
    have hnK : n ≤ 1000 := by rw [hn]; exact Nat.le_trans hE.len hK
    have HX := Lib.hid (fun W1 (hb : Below w.heap.size w W1) => h.bk.below hb)
    have HY : (E.map Cl.n).getD i 0 = c.n := by rw [List.getD_eq_getElem?_getD, List.getElem?_map, hc]; rfl
    have HV := Lib.hid (fun W1 (hb : Below w.heap.size w W1) => (hs.below hb).get hi)
    rw [HY] at HV
    clear h hE b1 hf hp hg hc hn hs HY
    go_enter Try.func16, Try.ntmps16
    go_wp2_with (go_at_call 38; refine HFD.out.mono ?_; rintro e w1 ⟨rfl, hb1⟩; have HB := Lib.hid (bl_then a1 (Nat.le_refl _) hb1); have x0 := (HX.out _ HB.out).cell 1; obtain ⟨b, off, rfl, d5⟩ := HV.out _ HB.out)
    go_ret
    exact ⟨by rw [HG.out]; rfl, HB.out⟩
end Go.Proofs.Ytjbhlckdaghppaa
