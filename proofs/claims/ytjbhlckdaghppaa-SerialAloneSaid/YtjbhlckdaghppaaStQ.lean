/- store: the reference's Under, Rows; store.Same. No condition. -/
import Derived.Test.YtjbhlckdaghppaaStK
set_option linter.unusedVariables false
set_option linter.unusedSimpArgs false
namespace Go.Proofs.Ytjbhlckdaghppaa
open Go.RowKit (wrap32 wrap64)
open Go.RowKit Go.Shelf Go.Sort Go.Lib
theorem goods_snoc {E : List Cl} {j : Nat} {c : Cl} (hc : E[j]? = some c) (g : Pt → Bool) : goodsE (E.take (j + 1)) g = goodsE (E.take j) g ++ (if goodC g c = true then [rwOf c] else []) := by
  unfold goodsE
  rw [take_snocG E j c hc, List.filter_append, List.map_append]
  congr 1
  cases h : goodC g c <;> simp [h]
set_option maxHeartbeats 1000000 in
theorem equalRw_any (a b : Option Addr) (n m cn cm : Nat) (xs ys : List Rw) (w : World) (ha : Rws w a n xs) (hb : Rws w b m ys) : Calls Try.prog 43 #[.slice a n cn, .slice b m cm] w fun e w' => e = .returned (.bool (decide (xs = ys))) ∧ Below w.heap.size w w' := by
  have hx := ha.len
  have hy := hb.len
  have hmx : n ≤ 9223372036854775807 := by have := ha.max; unfold maxLen at this; exact this
  by_cases hnm : n = m
  · subst hnm
    have HXL := Lib.hid hx
    have HYL := Lib.hid hy
    clear hx hy
    go_enter Try.func43, Try.ntmps43
    go_wp2
    go_loopw [13] (fun c wr => ∃ k : Nat, k ≤ n ∧ c = .int .i64 k ∧ Hid (xs.take k = ys.take k) ∧ Below w.heap.size w wr) (fun c _ => n - (intOf c).toNat)
    case atStart => exact ⟨0, by omega, rfl, Lib.hid rfl, Below.refl _ _⟩
    case round =>
      obtain ⟨k, hk, rfl, HEQ, HB⟩ := hrel
      by_cases hlt : k < n
      · obtain ⟨ba, oa, x, rfl, _, hx, _, d0, d1, d2, d3, d4, d5⟩ := Rw_at (ha.below HB) hlt
        obtain ⟨bb, ob, y, rfl, _, hy, _, e0, e1, e2, e3, e4, e5⟩ := Rw_at (hb.below HB) hlt
        have hq := neqRw x y
        have hg := gdRw
        by_cases he : x = y
        · subst he
          rw [decide_eq_true rfl] at hq
          have HE : Hid (xs.take (k + 1) = ys.take (k + 1)) := Lib.hid (by rw [take_snocG xs k x hx, take_snocG ys k x hy, HEQ.out])
          clear ha hb hx hy
          go_wp2
          go_quiet (fail)
          go_wp2
          go_roundw
          case rel => exact ⟨k + 1, by omega, by go_num, HE, by first | exact HB | exact ⟨HB.os, HB.tape, HB.output, HB.size, HB.block⟩⟩
          case measure => simp [intOf]; omega
        · rw [decide_eq_false he] at hq
          have hf : decide (xs = ys) = false := decide_eq_false (fun e => he (by rw [e] at hx; rw [hx] at hy; exact Option.some.inj hy))
          have HF := Lib.hid hf
          clear ha hb hx hy he hf
          go_wp2
          go_quiet (fail)
          go_wp2
          go_ret
          exact ⟨by rw [HF.out]; rfl, by first | exact HB | exact ⟨HB.os, HB.tape, HB.output, HB.size, HB.block⟩⟩
      · obtain rfl : k = n := by omega
        have hf : decide (xs = ys) = true := decide_eq_true (by have := HEQ.out; rw [List.take_of_length_le (by rw [HXL.out]; exact Nat.le_refl _), List.take_of_length_le (by rw [HYL.out]; exact Nat.le_refl _)] at this; exact this)
        have HF := Lib.hid hf
        clear hf ha hb
        go_wp2
        go_ret
        exact ⟨by rw [HF.out]; rfl, HB⟩
  · have hf : decide (xs = ys) = false := decide_eq_false (fun e => hnm (by rw [← hx, ← hy, e]))
    rw [hf]
    have hne : ((n : Int) != m) = true := by rw [bne_iff_ne]; omega
    clear hf ha hb hx hy
    go_enter Try.func43, Try.ntmps43
    go_wp2
    go_ret
    exact ⟨rfl, Below.refl _ _⟩
theorem same_any (a b : Option Addr) (n m cn cm : Nat) (xs ys : List Rw) (w : World) (ha : Rws w a n xs) (hb : Rws w b m ys) : Calls Try.prog 22 #[.slice a n cn, .slice b m cm] w fun e w' => e = .returned (.bool (decide (xs = ys))) ∧ Below w.heap.size w w' := by
  have HE := Lib.hid (equalRw_any a b n m cn cm xs ys w ha hb)
  clear ha hb
  go_enter Try.func22, Try.ntmps22
  go_wp2_with (go_at_call 43; refine HE.out.mono ?_; rintro e w1 ⟨rfl, hb1⟩)
  go_ret
  exact ⟨rfl, hb1⟩
set_option maxRecDepth 100000 in
set_option maxHeartbeats 4000000 in
theorem runder_any (x : Nat) (vL vC : Value) (E : List Cl) (K : Nat) (p : Pt) (w : World) (h : RfO w x vL vC E) (hE : OkE E K) (hK : K ≤ 1000) :
    Calls Try.prog 19 #[.pointer (some ⟨x, 0, none⟩), .agg (ptA p)] w (OwnRet enRw 30 6 w (goodsE E (fun q => withinP q p))) := by
  obtain ⟨A, n, cc, rfl, hn, hs⟩ := h.row hE
  have hnK : n ≤ 1000 := by rw [hn]; exact Nat.le_trans hE.len hK
  have a1 := (Below.refl w.heap.size w).alloc (Nat.le_refl _) (PB p)
  have b1 := Bk.new w 25 (ptA p)
  have hx := (h.bk.below a1).cell 0
  have HS := Lib.hid hs
  have HN0 := Lib.hid hn
  have HMY : Hid (∀ c ∈ E, mayP c.p = true ∧ okPt c.p) := Lib.hid hE.may
  obtain ⟨i0, hi, hz0, hz1, hz2⟩ := info_parts Try.infoRw
  clear h hs hE hn
  go_enter Try.func19, Try.ntmps19
  go_wp2_with fail
  go_loopw [5, 13] (fun v5 c wr => ∃ (j m : Nat), j ≤ n ∧ c = .int .i64 j ∧ m ≤ j ∧ Hid (m = (goodsE (E.take j) (fun q => withinP q p)).length) ∧ wr.ownsRow (w.heap.size + 1) 30 6 v5 m (flatV enRw (goodsE (E.take j) (fun q => withinP q p))) ∧ Below w.heap.size w wr ∧ Bk wr w.heap.size 25 (ptA p)) (fun _ c _ => n - (intOf c).toNat)
  case atStart => exact ⟨0, 0, by omega, rfl, by omega, Lib.hid rfl, World.ownsRow_nil _ _ _ _, a1, b1⟩
  case round =>
    clear hx b1 a1
    obtain ⟨j, m, hj, rfl, hmj, HN, ho, HBQ, hbp⟩ := hrel
    by_cases hlt : j < n
    · obtain ⟨b3, o3, y, rfl, _, hy, hoky, d0, d1, d2, d3, d4, d5⟩ := Rw_at (HS.out.below HBQ) hlt
      obtain ⟨c, hc, rfl⟩ : ∃ c, E[j]? = some c ∧ rwOf c = y := by
        rw [List.getElem?_map] at hy
        cases hq : E[j]? with
        | none => rw [hq] at hy; cases hy
        | some c => rw [hq] at hy; injection hy with hy; exact ⟨c, rfl, hy⟩
      have hmc := HMY.out c (List.mem_of_getElem? hc)
      have al := (Below.refl wr.heap.size wr).alloc (Nat.le_refl _) (.cells #[.int .i64 c.p.n0, .int .i64 c.p.n1, .int .i64 c.p.n2, .int .i64 c.p.n3, .int .i64 c.p.dep, .int .i64 c.v] 30)
      have hyb := Bk.new wr 30 #[.int .i64 c.p.n0, .int .i64 c.p.n1, .int .i64 c.p.n2, .int .i64 c.p.n3, .int .i64 c.p.dep, .int .i64 c.v]
      have HY1 := Lib.hid (bl_then HBQ (Nat.le_refl _) al)
      have x0 := hyb.cell 0
      have x1 := hyb.cell 1
      have x2 := hyb.cell 2
      have x3 := hyb.cell 3
      have x4 := hyb.cell 4
      have x5 := hyb.cell 5
      have HYB := Lib.hid hyb
      have HO1 := Lib.hid (ho.alloc (.cells #[.int .i64 c.p.n0, .int .i64 c.p.n1, .int .i64 c.p.n2, .int .i64 c.p.n3, .int .i64 c.p.dep, .int .i64 c.v] 30))
      have HC := Lib.hid hc
      unfold rwOf at d0 d1 d2 d3 d4 d5
      dsimp only at d0 d1 d2 d3 d4 d5
      have hbp9 := hbp.below al
      have HBP := Lib.hid hbp9
      have y0 := hbp9.cell 0
      have y1 := hbp9.cell 1
      have y2 := hbp9.cell 2
      have y3 := hbp9.cell 3
      have y4 := hbp9.cell 4
      have HWI := Lib.hid (fun W1 => rin_any c.p p hmc.2 W1)
      rw [in_eq] at HWI
      clear hbp hbp9
      clear hy hoky hyb ho HBQ hc al
      by_cases h0 : c.v = 0
      · have a6 : (c.v != 0) = false := by simp [h0]
        have hgc : goodC (fun q => withinP q p) c = false := by unfold goodC; rw [a6]; rfl
        clear h0 hmc
        have HST : Hid (goodsE (E.take (j + 1)) (fun q => withinP q p) = goodsE (E.take j) (fun q => withinP q p) ++ []) := Lib.hid (by rw [goods_snoc HC.out (fun q => withinP q p), hgc]; rfl)
        have HN' : Hid (m + 0 = (goodsE (E.take (j + 1)) (fun q => withinP q p)).length) := Lib.hid (by rw [HST.out, List.length_append, ← HN.out]; rfl)
        clear hgc
        have HO8 := HO1
        go_wp2
        go_roundw
        case rel => exact ⟨j + 1, m + 0, by omega, by go_num, by omega, HN', by rw [HST.out, List.append_nil]; exact HO8.out, HY1.out, HBP.out⟩
        case measure => simp [intOf]; omega
      · have a6 : (c.v != 0) = true := by simp [h0]
        clear h0 hmc
        cases hin : withinP c.p p with
        | true =>
          rw [hin] at HWI
          have hgc : goodC (fun q => withinP q p) c = true := by unfold goodC; rw [a6]; show (true && withinP c.p p) = _; rw [hin]; rfl
          clear hin
          have HST : Hid (goodsE (E.take (j + 1)) (fun q => withinP q p) = goodsE (E.take j) (fun q => withinP q p) ++ [rwOf c]) := Lib.hid (by rw [goods_snoc HC.out (fun q => withinP q p), hgc]; rfl)
          have HN' : Hid (m + 1 = (goodsE (E.take (j + 1)) (fun q => withinP q p)).length) := Lib.hid (by rw [HST.out, List.length_append, ← HN.out]; rfl)
          clear hgc
          go_wp2_with (first
            | (go_at_call 24; refine (HWI.out _).mono ?_; rintro e w8 ⟨rfl, hb8⟩; have hy8 := HYB.out.below hb8; have e0 := hy8.cell 0; have e1 := hy8.cell 1; have e2 := hy8.cell 2; have e3 := hy8.cell 3; have e4 := hy8.cell 4; have e5 := hy8.cell 5; have HO8 := Lib.hid (own_below HO1.out hb8); have hB8 := bl_then HY1.out (Nat.le_refl _) hb8; have HBP8 := Lib.hid (HBP.out.below hb8); clear x0 x1 x2 x3 x4 x5 y0 y1 y2 y3 y4 hy8)
            | (at_builtin; go_loud (refine wpList_append_one enRw_len (by omega) enRw_one rfl _ _ 22 rfl (w.heap.size + 1) 30 i0 _ 48 Try.underlying22 hi hz0 hz1 hz2 rfl _ m _ rfl HO8.out (rwOf c) #[.int .i64 c.p.n0, .int .i64 c.p.n1, .int .i64 c.p.n2, .int .i64 c.p.n3, .int .i64 c.p.dep, .int .i64 c.v] rfl 30 _ rfl (by simp) (by unfold maxLen; omega) (by omega) (Below.refl _ w8) HBP8.out.lt ?_; intro v' w9 hown9 HB9 hk9; rw [← HST.out] at hown9)))
          go_roundw
          case rel => exact ⟨j + 1, m + 1, by omega, by go_num, by omega, HN', hown9, bl_keep hB8 hk9 (fun i e => Nat.le_of_succ_le (HO8.out.lt i e).1), hk9.bk HBP8.out (fun e => by have := (HO8.out.lt _ e).1; omega)⟩
          case measure => simp [intOf]; omega
        | false =>
          rw [hin] at HWI
          have hgc : goodC (fun q => withinP q p) c = false := by unfold goodC; rw [a6]; show (true && withinP c.p p) = _; rw [hin]; rfl
          clear hin
          have HST : Hid (goodsE (E.take (j + 1)) (fun q => withinP q p) = goodsE (E.take j) (fun q => withinP q p) ++ []) := Lib.hid (by rw [goods_snoc HC.out (fun q => withinP q p), hgc]; rfl)
          have HN' : Hid (m + 0 = (goodsE (E.take (j + 1)) (fun q => withinP q p)).length) := Lib.hid (by rw [HST.out, List.length_append, ← HN.out]; rfl)
          clear hgc
          go_wp2_with (first
            | (go_at_call 24; refine (HWI.out _).mono ?_; rintro e w8 ⟨rfl, hb8⟩; have hy8 := HYB.out.below hb8; have e0 := hy8.cell 0; have e1 := hy8.cell 1; have e2 := hy8.cell 2; have e3 := hy8.cell 3; have e4 := hy8.cell 4; have e5 := hy8.cell 5; have HO8 := Lib.hid (own_below HO1.out hb8); have hB8 := bl_then HY1.out (Nat.le_refl _) hb8; have HBP8 := Lib.hid (HBP.out.below hb8); clear x0 x1 x2 x3 x4 x5 y0 y1 y2 y3 y4 hy8))
          go_roundw
          case rel => exact ⟨j + 1, m + 0, by omega, by go_num, by omega, HN', by rw [HST.out, List.append_nil]; exact HO8.out, hB8, HBP8.out⟩
          case measure => simp [intOf]; omega
    · obtain rfl : j = n := by omega
      have hfull : E.take j = E := List.take_of_length_le (by rw [HN0.out]; exact Nat.le_refl _)
      rw [hfull] at ho HN
      go_wp2
      go_ret
      exact ⟨_, rfl, by rw [← HN.out]; exact own_weaken ho (by omega), HBQ⟩
set_option maxRecDepth 100000 in
set_option maxHeartbeats 4000000 in
theorem rrows_any (x : Nat) (vL vC : Value) (E : List Cl) (K : Nat) (w : World) (h : RfO w x vL vC E) (hE : OkE E K) (hK : K ≤ 1000) :
    Calls Try.prog 21 #[.pointer (some ⟨x, 0, none⟩)] w (OwnRet enRw 30 6 w (goodsE E mayP)) := by
  obtain ⟨A, n, cc, rfl, hn, hs⟩ := h.row hE
  have hnK : n ≤ 1000 := by rw [hn]; exact Nat.le_trans hE.len hK
  have a1 := Below.refl w.heap.size w
  have hx := h.bk.cell 0
  have HS := Lib.hid hs
  have HN0 := Lib.hid hn
  have HMY : Hid (∀ c ∈ E, mayP c.p = true ∧ okPt c.p) := Lib.hid hE.may
  obtain ⟨i0, hi, hz0, hz1, hz2⟩ := info_parts Try.infoRw
  clear h hs hE hn
  go_enter Try.func21, Try.ntmps21
  go_wp2_with fail
  go_loopw [3, 11] (fun v5 c wr => ∃ (j m : Nat), j ≤ n ∧ c = .int .i64 j ∧ m ≤ j ∧ Hid (m = (goodsE (E.take j) mayP).length) ∧ wr.ownsRow w.heap.size 30 6 v5 m (flatV enRw (goodsE (E.take j) mayP)) ∧ Below w.heap.size w wr) (fun _ c _ => n - (intOf c).toNat)
  case atStart => exact ⟨0, 0, by omega, rfl, by omega, Lib.hid rfl, World.ownsRow_nil _ _ _ _, a1⟩
  case round =>
    clear hx a1
    obtain ⟨j, m, hj, rfl, hmj, HN, ho, HBQ⟩ := hrel
    by_cases hlt : j < n
    · obtain ⟨b3, o3, y, rfl, _, hy, hoky, d0, d1, d2, d3, d4, d5⟩ := Rw_at (HS.out.below HBQ) hlt
      obtain ⟨c, hc, rfl⟩ : ∃ c, E[j]? = some c ∧ rwOf c = y := by
        rw [List.getElem?_map] at hy
        cases hq : E[j]? with
        | none => rw [hq] at hy; cases hy
        | some c => rw [hq] at hy; injection hy with hy; exact ⟨c, rfl, hy⟩
      have hmc := HMY.out c (List.mem_of_getElem? hc)
      have al := (Below.refl wr.heap.size wr).alloc (Nat.le_refl _) (.cells #[.int .i64 c.p.n0, .int .i64 c.p.n1, .int .i64 c.p.n2, .int .i64 c.p.n3, .int .i64 c.p.dep, .int .i64 c.v] 30)
      have hyb := Bk.new wr 30 #[.int .i64 c.p.n0, .int .i64 c.p.n1, .int .i64 c.p.n2, .int .i64 c.p.n3, .int .i64 c.p.dep, .int .i64 c.v]
      have HY1 := Lib.hid (bl_then HBQ (Nat.le_refl _) al)
      have x0 := hyb.cell 0
      have x1 := hyb.cell 1
      have x2 := hyb.cell 2
      have x3 := hyb.cell 3
      have x4 := hyb.cell 4
      have x5 := hyb.cell 5
      have HYB := Lib.hid hyb
      have HO1 := Lib.hid (ho.alloc (.cells #[.int .i64 c.p.n0, .int .i64 c.p.n1, .int .i64 c.p.n2, .int .i64 c.p.n3, .int .i64 c.p.dep, .int .i64 c.v] 30))
      have HC := Lib.hid hc
      unfold rwOf at d0 d1 d2 d3 d4 d5
      dsimp only at d0 d1 d2 d3 d4 d5
      clear hy hoky hyb ho HBQ hc al
      by_cases h0 : c.v = 0
      · have a6 : (c.v != 0) = false := by simp [h0]
        have hgc : goodC mayP c = false := by unfold goodC; rw [a6]; rfl
        clear h0 hmc
        have HST : Hid (goodsE (E.take (j + 1)) mayP = goodsE (E.take j) mayP ++ []) := Lib.hid (by rw [goods_snoc HC.out mayP, hgc]; rfl)
        have HN' : Hid (m + 0 = (goodsE (E.take (j + 1)) mayP).length) := Lib.hid (by rw [HST.out, List.length_append, ← HN.out]; rfl)
        clear hgc
        go_wp2
        go_roundw
        case rel => exact ⟨j + 1, m + 0, by omega, by go_num, by omega, HN', by rw [HST.out, List.append_nil]; exact HO1.out, HY1.out⟩
        case measure => simp [intOf]; omega
      · have a6 : (c.v != 0) = true := by simp [h0]
        have hgc : goodC mayP c = true := by unfold goodC; rw [a6, hmc.1]; rfl
        clear h0 hmc
        have HST : Hid (goodsE (E.take (j + 1)) mayP = goodsE (E.take j) mayP ++ [rwOf c]) := Lib.hid (by rw [goods_snoc HC.out mayP, hgc]; rfl)
        have HN' : Hid (m + 1 = (goodsE (E.take (j + 1)) mayP).length) := Lib.hid (by rw [HST.out, List.length_append, ← HN.out]; rfl)
        clear hgc
        have HOr := HO1
        have hB8 := HY1.out
        go_wp2_with (first
          | (at_builtin; go_loud (refine wpList_append_one enRw_len (by omega) enRw_one rfl _ _ 22 rfl w.heap.size 30 i0 _ 48 Try.underlying22 hi hz0 hz1 hz2 rfl _ m _ rfl HOr.out (rwOf c) #[.int .i64 c.p.n0, .int .i64 c.p.n1, .int .i64 c.p.n2, .int .i64 c.p.n3, .int .i64 c.p.dep, .int .i64 c.v] rfl 30 _ rfl (by simp) (by unfold maxLen; omega) (by omega) hB8 hB8.size ?_; intro v' w9 hown9 HB9 hk9; rw [← HST.out] at hown9)))
        go_roundw
        case rel => exact ⟨j + 1, m + 1, by omega, by go_num, by omega, HN', hown9, HB9⟩
        case measure => simp [intOf]; omega
    · obtain rfl : j = n := by omega
      have hfull : E.take j = E := List.take_of_length_le (by rw [HN0.out]; exact Nat.le_refl _)
      rw [hfull] at ho HN
      go_wp2
      go_ret
      exact ⟨_, rfl, by rw [← HN.out]; exact own_weaken ho (by omega), HBQ⟩
end Go.Proofs.Ytjbhlckdaghppaa
