/- The reference's rows of places: what lies in memory; At, free, List, NewChain. No condition. -/
import Derived.Test.YthkjkmjcnphjgaaChnE
import Derived.Test.YthkjkmjcnphjgaaChnV
set_option linter.unusedVariables false
set_option linter.unusedSimpArgs false
namespace Go.Proofs.Ythkjkmjcnphjgaa
open Go.RowKit (wrap32 wrap64)
open Go.RowKit
structure Sl where
  a : Option Addr
  len : Nat
  cap : Nat
def enSl (s : Sl) : List Value := [.slice s.a s.len s.cap]
theorem enSl_len (s : Sl) : (enSl s).length = 1 := rfl
/-- A row's slice reads as l, and lies at B or behind it. -/
structure RowOk (B : Nat) (w : World) (s : Sl) (l : List Nat) : Prop where
  len : l.length = s.len
  lc : s.len ≤ s.cap
  cm : s.cap ≤ maxLen
  row : (s.a = none ∧ s.len = 0 ∧ s.cap = 0) ∨ ∃ b, s.a = some ⟨b, 0, none⟩ ∧ B ≤ b ∧ b < w.heap.size ∧ ∀ j x : Nat, l[j]? = some x → w.cell? ⟨b, j, none⟩ = some (.int .i64 x)
theorem RowOk.keep {S : Nat → Prop} {B : Nat} {w w1 : World} {s : Sl} {l : List Nat} (r : RowOk B w s l) (k : Keep S w w1) (hS : ∀ i, S i → i < B) : RowOk B w1 s l := by
  refine ⟨r.len, r.lc, r.cm, ?_⟩
  rcases r.row with h | ⟨b, ha, hB, hlt, hc⟩
  · exact .inl h
  · exact .inr ⟨b, ha, hB, Nat.lt_of_lt_of_le hlt k.size, fun j x hx => (World.cell?_of_block (k.block b hlt (fun h => by have := hS b h; omega))).trans (hc j x hx)⟩
theorem natI_get {l : List Nat} {j x : Nat} (h : l[j]? = some x) : (natI l).getD j 0 = x := by unfold natI; rw [List.getD_eq_getElem?_getD, List.getElem?_map, h]; rfl
theorem natI_len (l : List Nat) : (natI l).length = l.length := List.length_map _
theorem RowOk.ints {B : Nat} {w : World} {s : Sl} {l : List Nat} (r : RowOk B w s l) : Ints w s.a s.len (natI l) := by
  refine ⟨by rw [natI_len, r.len], Nat.le_trans r.lc r.cm, fun hn => ?_⟩
  rcases r.row with ⟨_, h, _⟩ | ⟨b, ha, hB, hlt, hc⟩
  · omega
  · refine ⟨b, 0, ha, hlt, fun i hi => ?_⟩
    have hx : l[i]? = some (l[i]'(by rw [r.len]; exact hi)) := List.getElem?_eq_getElem _
    rw [Nat.zero_add, hc i _ hx, natI_get hx]
theorem RowOk.nil0 (B : Nat) (w : World) : RowOk B w ⟨none, 0, 0⟩ [] := ⟨rfl, Nat.le_refl _, Nat.zero_le _, .inl ⟨rfl, rfl, rfl⟩⟩
theorem flatI_get (l : List Nat) (j x : Nat) (h : l[j]? = some x) : (flatV enI (natI l))[j]? = some (.int .i64 x) := by
  rw [flatI]
  unfold natI
  rw [List.getElem?_map, List.getElem?_map, h]; rfl
theorem RowOk.of_own {w : World} {base B E n : Nat} {v : Value} {l : List Nat} (h : w.ownsRow base E 1 v n (flatV enI (natI l))) (hB : B ≤ base) (hl : l.length = n) : ∃ A c, v = .slice A n c ∧ RowOk B w ⟨A, n, c⟩ l := by
  rcases h.2 with ⟨hv, hn⟩ | ⟨g, cap, cur, hv, hb, hg, hnc, hcm, hcs, ht⟩
  · subst hn
    exact ⟨_, _, hv, hl, Nat.le_refl _, Nat.zero_le _, .inl ⟨rfl, rfl, rfl⟩⟩
  · refine ⟨_, _, hv, hl, hnc, hcm, .inr ⟨g, rfl, Nat.le_trans hB hb, (Array.getElem?_eq_some_iff.1 hg).1, fun j x hx => ?_⟩⟩
    have h2 := h
    rw [hv] at h2
    have hj : j < n := by rw [← hl]; exact (List.getElem?_eq_some_iff.1 hx).1
    have := h2.cellAt j (by omega)
    rw [this]
    exact flatI_get l j x hx
theorem RowOk.cut {B : Nat} {w : World} {s : Sl} {l : List Nat} (r : RowOk B w s l) (k : Nat) (hk : k ≤ s.len) : RowOk B w ⟨s.a, k, k⟩ (l.take k) := by
  have h1 := r.lc
  have h2 := r.cm
  have h3 := r.len
  refine ⟨by rw [List.length_take]; show min k l.length = k; omega, Nat.le_refl _, by show k ≤ maxLen; omega, ?_⟩
  rcases r.row with ⟨ha, hn, hc⟩ | ⟨b, ha, hB, hlt, hc⟩
  · exact .inl ⟨ha, by show k = 0; omega, by show k = 0; omega⟩
  · refine .inr ⟨b, ha, hB, hlt, fun j x hx => hc j x ?_⟩
    rw [List.getElem?_take] at hx
    split at hx
    · exact hx
    · cases hx
structure RchAt (w : World) (gx h B n : Nat) (S : List Sl) (R : List (List Nat)) : Prop where
  bk : Bk w gx 44 #[.int .i64 n, .slice (some ⟨h, 0, none⟩) n n]
  row : RowAt enSl 22 1 w h n S
  sl : S.length = n
  rl : R.length = n
  gB : gx < B
  hB : h < B
  each : ∀ (i : Nat) s l, S[i]? = some s → R[i]? = some l → RowOk B w s l
  n4 : n ≤ 1000
/-- The reference's rows are R. -/
def Rch (w : World) (gx h B n : Nat) (R : List (List Nat)) : Prop := ∃ S, RchAt w gx h B n S R
theorem RchAt.keep {Z : Nat → Prop} {w w1 : World} {gx h B n : Nat} {S : List Sl} {R : List (List Nat)} (c : RchAt w gx h B n S R) (k : Keep Z w w1) (hZ : ∀ i, Z i → i < B) (hg : ¬ Z gx) (hh : ¬ Z h) : RchAt w1 gx h B n S R :=
  ⟨k.bk c.bk hg, c.row.keep k hh, c.sl, c.rl, c.gB, c.hB, fun i s l hs hl => (c.each i s l hs hl).keep k hZ, c.n4⟩
theorem Rch.keep {Z : Nat → Prop} {w w1 : World} {gx h B n : Nat} {R : List (List Nat)} (c : Rch w gx h B n R) (k : Keep Z w w1) (hZ : ∀ i, Z i → i < B) (hg : ¬ Z gx) (hh : ¬ Z h) : Rch w1 gx h B n R := by
  obtain ⟨S, c⟩ := c
  exact ⟨S, c.keep k hZ hg hh⟩
theorem Rch.below {w w1 : World} {gx h B n : Nat} {R : List (List Nat)} (c : Rch w gx h B n R) (k : Below w.heap.size w w1) : Rch w1 gx h B n R := c.keep (Keep.of_below k (fun _ => False)) (fun _ h => h.elim) (fun h => h) (fun h => h)
/-- One row anew. -/
theorem RchAt.put {w : World} {gx h B n : Nat} {S : List Sl} {R : List (List Nat)} (c : RchAt w gx h B n S R) (i : Nat) (hi : i < n) (s : Sl) (l : List Nat) (hs : RowOk B w s l) : RchAt (w.setCell ⟨h, i, none⟩ (.slice s.a s.len s.cap)) gx h B n (S.set i s) (R.set i l) ∧ Keep (fun k => k = h) w (w.setCell ⟨h, i, none⟩ (.slice s.a s.len s.cap)) := by
  have k1 : Keep (fun k => k = h) w (w.setCell ⟨h, i, none⟩ (.slice s.a s.len s.cap)) := Keep.set _ _ _ _ _ rfl
  have hne : gx ≠ h := by
    rintro rfl
    obtain ⟨cur, q, _⟩ := c.row
    have := c.bk
    rw [this] at q
    simp at q
  have hZ : ∀ k, k = h → k < B := fun k e => by rw [e]; exact c.hB
  obtain ⟨s0, hs0⟩ : ∃ s0, S[i]? = some s0 := ⟨_, List.getElem?_eq_getElem (by rw [c.sl]; exact hi)⟩
  refine ⟨⟨k1.bk c.bk hne, ?_, by rw [List.length_set]; exact c.sl, by rw [List.length_set]; exact c.rl, c.gB, c.hB, ?_, c.n4⟩, k1⟩
  · have := c.row.put1 enSl_len hs0 s 0 (by omega) (.slice s.a s.len s.cap) rfl
    rw [Nat.mul_one, Nat.add_zero] at this
    exact this
  · intro j s' l' h1 h2
    rw [List.getElem?_set] at h1 h2
    split at h1
    · rename_i e
      rw [if_pos e, if_pos (by rw [c.rl]; omega)] at h2
      rw [if_pos (by rw [c.sl]; omega)] at h1
      cases h1
      cases h2
      exact hs.keep k1 hZ
    · rename_i e
      rw [if_neg e] at h2
      exact (c.each j s' l' h1 h2).keep k1 hZ
theorem RchAt.get {w : World} {gx h B n : Nat} {S : List Sl} {R : List (List Nat)} (c : RchAt w gx h B n S R) {i : Nat} (hi : i < n) : ∃ s l, R[i]? = some l ∧ RowOk B w s l ∧ w.cell? ⟨h, i, none⟩ = some (.slice s.a s.len s.cap) := by
  have h1 : S[i]? = some (S[i]'(by rw [c.sl]; exact hi)) := List.getElem?_eq_getElem _
  have h2 : R[i]? = some (R[i]'(by rw [c.rl]; exact hi)) := List.getElem?_eq_getElem _
  refine ⟨_, _, h2, c.each i _ _ h1 h2, ?_⟩
  have := c.row.cell enSl_len h1 0 (by omega)
  rw [Nat.mul_one, Nat.add_zero] at this
  exact this
theorem at_none {R : List (List Nat)} {i : Int} (h : ∀ l ∈ R, hasI i l = false) : atI R i = -1 := idxB_miss _ _ h
theorem at_some {R : List (List Nat)} {i : Int} {r k : Nat} {l : List Nat} (hr : R[r]? = some l) (h1 : ∀ m ∈ R.take r, hasI i m = false) {x : Nat} (hx : l[k]? = some x) (hxi : (x : Int) = i) (h2 : ∀ y ∈ l.take k, isI i y = false) : atI R i = r ∧ poI R i = k := by
  have e : atI R i = r := idxB_hit _ _ r l hr (hasI_iff.2 ⟨x, List.mem_of_getElem? hx, hxi⟩) h1
  refine ⟨e, ?_⟩
  unfold poI
  rw [e, if_neg (by omega)]
  have : atR R (r : Int) = l := by
    unfold atR
    rw [if_pos (by omega), show (r : Int).toNat = r by omega, hr]; rfl
  rw [this]
  exact idxB_hit _ _ k x hx (isI_iff.2 hxi) h2
theorem hasI_all {i : Int} {l : List Nat} (h : ∀ y ∈ l, isI i y = false) : hasI i l = false := by
  cases hh : hasI i l with
  | false => rfl
  | true =>
    obtain ⟨x, hx, e⟩ := hasI_iff.1 hh
    have := h x hx
    rw [isI_iff.2 e] at this
    cases this
set_option maxRecDepth 100000 in
set_option maxHeartbeats 2000000 in
theorem rat_any (gx h B n : Nat) (R : List (List Nat)) (i : Int) (w : World) (hc : Rch w gx h B n R) :
    Calls Try.prog 27 #[.pointer (some ⟨gx, 0, none⟩), .int .i64 i] w fun e w' => e = .returned (.tuple #[.int .i64 (atI R i), .int .i64 (poI R i)]) ∧ Below w.heap.size w w' := by
  obtain ⟨S, hc⟩ := hc
  have c1 := hc.bk.cell 1
  have hn4 := hc.n4
  go_enter Try.func27, Try.ntmps27
  go_wp2
  go_loopw [15] (fun c wr => ∃ r : Nat, r ≤ n ∧ c = .int .i64 r ∧ (∀ l ∈ R.take r, hasI i l = false) ∧ Below w.heap.size w wr) (fun c _ => n - (intOf c).toNat)
  case atStart => exact ⟨0, by omega, rfl, by simp, Below.refl _ _⟩
  case round =>
    obtain ⟨r, hr, rfl, hno, hB0⟩ := hrel
    have HNO := Lib.hid hno
    have hcw := hc.keep (Keep.of_below hB0 (fun _ => False)) (fun _ h => h.elim) (fun h => h) (fun h => h)
    clear hno
    by_cases hlt : r < n
    · obtain ⟨⟨sa, sn, sc⟩, l, hl, hro, hcell⟩ := hcw.get hlt
      dsimp only at hcell
      have hri := hro.ints
      have hln := hro.len
      dsimp only at hri hln
      have HL := Lib.hid hl
      have HLN := Lib.hid hln
      have hsn : sn ≤ 9223372036854775807 := hri.le
      clear hl hro hcw hln
      generalize wr = wo at hB0 hcell hri ⊢
      go_wp2
      go_loopw [22] (fun c wr => ∃ k : Nat, k ≤ sn ∧ c = .int .i64 k ∧ (∀ y ∈ l.take k, isI i y = false) ∧ Below wo.heap.size wo wr) (fun c _ => sn - (intOf c).toNat)
      case atStart => exact ⟨0, by omega, rfl, by simp, Below.refl _ _⟩
      case round =>
        obtain ⟨k, hk, rfl, hno2, hB1⟩ := hrel
        have HNO2 := Lib.hid hno2
        clear hno2
        by_cases hlt2 : k < sn
        · obtain ⟨x, hx⟩ : ∃ x, l[k]? = some x := ⟨_, List.getElem?_eq_getElem (by rw [HLN.out]; exact hlt2)⟩
          obtain ⟨b, off, rfl, d0⟩ := (hri.below hB1).get hlt2
          rw [natI_get hx] at d0
          have HX := Lib.hid hx
          have HTK := Lib.hid (take_snocG l k x hx)
          clear hx hri hcell c1
          by_cases hxi : (x : Int) = i
          · obtain ⟨e1, e2⟩ := at_some HL.out HNO.out HX.out hxi HNO2.out
            have HE := Lib.hid (And.intro e1 e2)
            clear e1 e2
            have hbe : ((x : Int) == i) = true := beq_iff_eq.2 hxi
            clear hxi
            go_wp2
            go_ret2
            exact ⟨by rw [HE.out.1, HE.out.2]; rfl, bl_then hB0 (Nat.le_refl _) hB1⟩
          · have HNE : Hid (isI i x = false) := Lib.hid (by cases hh : isI i x with | false => rfl | true => exact absurd (isI_iff.1 hh) hxi)
            have hbe : ((x : Int) == i) = false := beq_eq_false_iff_ne.2 hxi
            clear hxi
            go_wp2
            go_roundw
            case rel => exact ⟨k + 1, by omega, by go_num, (fun y hy => by
              rw [HTK.out] at hy
              rcases List.mem_append.1 hy with h | h
              · exact HNO2.out y h
              · rw [List.mem_singleton.1 h]; exact HNE.out), hB1⟩
            case measure => simp [intOf]; omega
        · obtain rfl : k = sn := by omega
          have HALL : Hid (hasI i l = false) := Lib.hid (hasI_all (by have := HNO2.out; rw [List.take_of_length_le (by rw [HLN.out]; exact Nat.le_refl _)] at this; exact this))
          clear hri hcell
          go_wp2
          go_roundw
          case rel => exact ⟨r + 1, by omega, by go_num, (fun m hm => by
            rw [take_snocG R r l HL.out] at hm
            rcases List.mem_append.1 hm with h | h
            · exact HNO.out m h
            · rw [List.mem_singleton.1 h]; exact HALL.out), bl_then hB0 (Nat.le_refl _) hB1⟩
          case measure => simp [intOf]; omega
    · obtain rfl : r = n := by omega
      have e1 : atI R i = -1 := at_none (by have := HNO.out; rw [List.take_of_length_le (by rw [hcw.rl]; exact Nat.le_refl _)] at this; exact this)
      have e2 : poI R i = -1 := if_pos e1
      have HE := Lib.hid (And.intro e1 e2)
      clear e1 e2 hcw
      go_wp2
      go_ret2
      exact ⟨by rw [HE.out.1, HE.out.2]; rfl, hB0⟩
end Go.Proofs.Ythkjkmjcnphjgaa
