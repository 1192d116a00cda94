/- The contracts of Counts and Last. No condition. -/
import Derived.Test.YtgpkidffhglngaaOrder
set_option linter.unusedVariables false
set_option linter.unusedSimpArgs false
namespace Go.Proofs.Ytgpkidffhglngaa
open Go.RowKit (wrap32 wrap64)
open Go.RowKit Plain
def rowOf (n : Nat) (f : Nat → Int) : List Int := (List.range n).map f
theorem rowOf_length (n : Nat) (f : Nat → Int) : (rowOf n f).length = n := by simp [rowOf]
theorem rowOf_get (n : Nat) (f : Nat → Int) (k : Nat) (h : k < n) : (rowOf n f).getD k 0 = f k := by
  unfold rowOf; simp [List.getD_eq_getElem?_getD, h]
theorem rowOf_set (n : Nat) (f g : Nat → Int) (k : Nat) (v : Int) (hk : g k = v) (ho : ∀ j, j ≠ k → g j = f j) : (rowOf n f).set k v = rowOf n g := by
  unfold rowOf
  apply List.ext_getElem
  · simp
  · intro i h1 h2
    simp only [List.getElem_set, List.getElem_map, List.getElem_range]
    by_cases h : k = i
    · subst h; rw [if_pos rfl, hk]
    · rw [if_neg h]; exact (ho i (fun e => h e.symm)).symm
theorem rowOf_congr (n : Nat) (f g : Nat → Int) (h : ∀ k, k < n → f k = g k) : rowOf n f = rowOf n g := by
  unfold rowOf; exact List.map_congr_left fun k hk => h k (List.mem_range.1 hk)
/-- How often x stands there. -/
def cntI (l : List Int) (x : Int) : Int := ((l.filter fun y => decide (y = x)).length : Int)
theorem cntI_yes (l : List Int) (x : Int) : cntI (l ++ [x]) x = cntI l x + 1 := by unfold cntI; rw [List.filter_append]; simp
theorem cntI_no (l : List Int) (x y : Int) (h : y ≠ x) : cntI (l ++ [y]) x = cntI l x := by unfold cntI; rw [List.filter_append]; simp [h]
theorem cntI_le (l : List Int) (x : Int) : 0 ≤ cntI l x ∧ cntI l x ≤ l.length := by
  unfold cntI; have := List.length_filter_le (fun y => decide (y = x)) l; omega
theorem cntI_cut (n : Int) (l : List Int) (x : Int) (h : 0 ≤ x ∧ x < n) : cntI (cutL n l) x = cntI l x := by
  unfold cntI cutL
  rw [List.filter_filter]
  congr 2
  apply List.filter_congr
  intro y _
  by_cases e : y = x
  · subst e; simp [h]
  · simp [e]
/-- Where x stands last; -1: nowhere. -/
def lastI (l : List Int) (x : Int) : Int := (List.range l.length).foldl (fun a i => if l.getD i 0 = x then (i : Int) else a) (-1)
theorem getD_snoc (l : List Int) (y : Int) (i : Nat) (h : i < l.length) : (l ++ [y]).getD i 0 = l.getD i 0 := by
  rw [List.getD_eq_getElem?_getD, List.getD_eq_getElem?_getD, List.getElem?_append_left h]
theorem lastI_snoc (l : List Int) (x y : Int) : lastI (l ++ [y]) x = if y = x then (l.length : Int) else lastI l x := by
  unfold lastI
  rw [List.length_append, List.length_singleton, List.range_succ, List.foldl_append]
  have e : (List.range l.length).foldl (fun a i => if (l ++ [y]).getD i 0 = x then (i : Int) else a) (-1) = (List.range l.length).foldl (fun a i => if l.getD i 0 = x then (i : Int) else a) (-1) := by
    have : ∀ (k : List Nat) (a : Int), (∀ i ∈ k, i < l.length) → k.foldl (fun a i => if (l ++ [y]).getD i 0 = x then (i : Int) else a) a = k.foldl (fun a i => if l.getD i 0 = x then (i : Int) else a) a := by
      intro k
      induction k with
      | nil => intro a _; rfl
      | cons i k ih =>
        intro a hk
        rw [List.foldl_cons, List.foldl_cons, getD_snoc l y i (hk i (by simp))]
        exact ih _ (fun j hj => hk j (by simp [hj]))
    exact this _ _ (fun i hi => List.mem_range.1 hi)
  rw [e]
  have hg : (l ++ [y]).getD l.length 0 = y := by simp [List.getD_eq_getElem?_getD]
  simp [hg]
theorem lastI_range (l : List Int) (x : Int) : -1 ≤ lastI l x ∧ lastI l x ≤ l.length := by
  unfold lastI
  have : ∀ (k : List Nat) (a : Int), (-1 ≤ a ∧ a ≤ l.length) → (∀ i ∈ k, i < l.length) → -1 ≤ k.foldl (fun a i => if l.getD i 0 = x then (i : Int) else a) a ∧ k.foldl (fun a i => if l.getD i 0 = x then (i : Int) else a) a ≤ l.length := by
    intro k
    induction k with
    | nil => intro a h _; exact h
    | cons i k ih =>
      intro a h hk
      rw [List.foldl_cons]
      refine ih _ ?_ (fun j hj => hk j (by simp [hj]))
      have := hk i (by simp)
      split <;> omega
  exact this _ _ (by omega) (fun i hi => List.mem_range.1 hi)
def cntRow (n : Nat) (l : List Int) : List Int := rowOf n fun x => cntI l x
def lastRow (n : Nat) (l : List Int) : List Int := rowOf n fun x => lastI l x
theorem cntRow_set (n : Nat) (l : List Int) (y : Nat) : (cntRow n l).set y (cntI l y + 1) = cntRow n (l ++ [(y : Int)]) :=
  rowOf_set n _ _ y _ (cntI_yes l y) fun j hj => cntI_no l j y (by omega)
theorem lastRow_set (n : Nat) (l : List Int) (y : Nat) : (lastRow n l).set y (l.length : Int) = lastRow n (l ++ [(y : Int)]) :=
  rowOf_set n _ _ y _ (by rw [lastI_snoc, if_pos rfl]) fun j hj => by rw [lastI_snoc, if_neg (by omega)]
theorem lastRow_out (n : Nat) (l : List Int) (y : Int) (h : ¬ (0 ≤ y ∧ y < n)) : lastRow n (l ++ [y]) = lastRow n l :=
  rowOf_congr n _ _ fun k hk => by rw [lastI_snoc, if_neg (by omega)]
theorem cntRow_nil (n : Nat) : cntRow n [] = List.replicate n 0 := by
  unfold cntRow rowOf; rw [List.eq_replicate_iff]; simp [cntI]
theorem lastRow_nil (n : Nat) : lastRow n [] = rowOf n fun _ => -1 := rfl
theorem cntRow_cut (n : Nat) (l : List Int) : cntRow n (cutL n l) = cntRow n l := rowOf_congr n _ _ fun k hk => cntI_cut n l k (by omega)
theorem row_cell {w : World} {base g n : Nat} {e : TypeId} (f : Nat → Int) (h : w.ownsRow base e 1 (.slice (some ⟨g, 0, none⟩) n n) n ((rowOf n f).map (Value.int .i64))) (k : Nat) (hk : k < n) : w.cell? ⟨g, k, none⟩ = some (.int .i64 (f k)) := by
  rw [h.cellAt k (by omega)]
  unfold rowOf
  simp [hk]
set_option maxHeartbeats 400000 in
theorem counts_no (a : Option Addr) (len cap : Nat) (n : Int) (hm : oMay n 0 = false) (w : World) : Calls Try.prog 50 #[.slice a len cap, .int .i64 n] w fun e w' => e = .returned (.slice none 0 0) ∧ w = w' := by
  go_enter Try.func50, Try.ntmps50
  go_wp2_with (first
    | (go_at_call 52; refine (omay_any _ _ _).mono ?_; rintro e w' ⟨rfl, rfl⟩))
  go_ret
  exact ⟨rfl, rfl⟩
set_option maxHeartbeats 400000 in
theorem last_no (a : Option Addr) (len cap : Nat) (n : Int) (hm : oMay n 0 = false) (w : World) : Calls Try.prog 51 #[.slice a len cap, .int .i64 n] w fun e w' => e = .returned (.slice none 0 0) ∧ w = w' := by
  go_enter Try.func51, Try.ntmps51
  go_wp2_with (first
    | (go_at_call 52; refine (omay_any _ _ _).mono ?_; rintro e w' ⟨rfl, rfl⟩))
  go_ret
  exact ⟨rfl, rfl⟩
set_option maxHeartbeats 1000000 in
theorem counts_yes (a : Option Addr) (len cap : Nat) (xs : List Int) (n : Nat) (hm : oMay n 0 = true) (w : World) (hl : Ints w a len xs) (hlen : len ≤ 1000) : Calls Try.prog 50 #[.slice a len cap, .int .i64 n] w (OwnRet w n (cntRow n xs)) := by
  have hs := oMay_spec n 0 hm
  have hx := hl.len
  obtain ⟨i0, hi, hz0, hz1, hz2⟩ := info_parts Try.infoI
  have hh := Lib.hid hl
  clear hl
  go_enter Try.func50, Try.ntmps50
  go_wp2_with (first
    | (go_at_call 52; refine (omay_any _ _ _).mono ?_; rintro e w' ⟨rfl, rfl⟩)
    | (at_make; refine wpList_make_full _ rfl _ _ _ rfl w.heap.size 3 i0 (.int .i64 0) 1 Try.underlying26 hi hz0 hz1 .i64 .i64 n n n rfl rfl rfl rfl (by rw [hz2]; omega) (by unfold maxLen; omega) (Nat.le_refl _) ?_; intro w1 hown hgr; rw [made_zero, ← cntRow_nil] at hown))
  have hb1 : Below w.heap.size w w1 := (Below.refl _ _).grown hgr (Nat.le_refl _) (fun k h => by cases h)
  refine (cut_any _ _ _ xs n _ (hh.out.below hb1) (by omega)).mono ?_
  rintro e w2 ⟨v, rfl, ho2, hb2⟩
  have hown2 := own_below hown hb2
  have hb := bl_then hb1 (Nat.le_refl _) hb2
  obtain ⟨A2, k2, rfl⟩ := own_slice ho2
  have hcl := cutL_len n xs
  have hw1 : w.heap.size < w1.heap.size := (hown.lt w.heap.size rfl).2
  clear hown hgr hb1 hb2
  generalize hL : cutL n xs = L at ho2 hcl
  have HL := Lib.hid hL
  have hmem : ∀ y ∈ L, 0 ≤ y ∧ y < n := fun y hy => by
    rw [← HL.out] at hy; unfold cutL at hy; simp at hy; exact hy.2
  have HM := Lib.hid hmem
  clear hL hmem
  go_wp2_with fail
  go_loopw [17] (fun c wr => ∃ k : Nat, k ≤ L.length ∧ c = .int .i64 k ∧ wr.ownsRow w.heap.size 3 1 (.slice (some ⟨w.heap.size, 0, none⟩) n n) n ((cntRow n (L.take k)).map (Value.int .i64)) ∧ Below w.heap.size w wr ∧ wr.ownsRow w1.heap.size 3 1 (.slice A2 L.length k2) L.length (L.map (Value.int .i64))) (fun c _ => L.length - (intOf c).toNat)
  case atStart => exact ⟨0, by omega, rfl, hown2, hb, ho2⟩
  case round =>
    clear hown2 hb ho2
    obtain ⟨k, hk, rfl, hown, hb, ho2⟩ := hrel
    by_cases hlt : k < L.length
    · have ht := take_snoc L k hlt
      have hme := HM.out (L.getD k 0) (by rw [List.getD_eq_getElem?_getD, List.getElem?_eq_getElem hlt]; exact List.getElem_mem _)
      obtain ⟨A', k', he, i2⟩ := own_ints ho2
      injection he with he1 _ he2
      subst he1 he2
      obtain ⟨b, off, rfl, hc⟩ := i2.get hlt
      have O2 := Lib.hid (ownsRow_setCell_below ho2 (a := ⟨w.heap.size, (L.getD k 0).toNat, none⟩) hw1 (.int .i64 (cntI (L.take k) (L.getD k 0) + 1)))
      clear i2 ho2
      generalize L.getD k 0 = y at hc ht hme O2
      obtain ⟨y, rfl⟩ := Int.eq_ofNat_of_zero_le hme.1
      have hc2 := row_cell (fun x => cntI (L.take k) x) hown y (by omega)
      have hf := hown.frozenAt y
      have hcr := cntI_le (L.take k) y
      have hle : (L.take k).length ≤ k := List.length_take_le _ _
      have hst := hown.stored y (.int .i64 (cntI (L.take k) y + 1))
      rw [← List.map_set, cntRow_set, ← ht] at hst
      have HST := Lib.hid hst
      have HOWN := Lib.hid hown
      clear hst hown ht
      rw [Int.toNat_natCast] at O2
      go_wp2
      go_roundw
      case rel => exact ⟨k + 1, by omega, by go_num, HST.out.1, hb.setCell (Nat.le_refl _) _, O2.out⟩
      case measure => simp [intOf]; omega
    · obtain rfl : k = L.length := by omega
      rw [List.take_length, ← HL.out, cntRow_cut] at hown
      have HOWN := Lib.hid hown
      clear hown
      go_wp2
      go_ret
      exact ⟨_, rfl, HOWN.out, hb⟩
def oneRow (n k : Nat) : List Int := rowOf n fun x => if x < k then -1 else 0
theorem oneRow_zero (n : Nat) : oneRow n 0 = List.replicate n 0 := by
  unfold oneRow rowOf; rw [List.eq_replicate_iff]; simp
theorem oneRow_set (n k : Nat) : (oneRow n k).set k (-1) = oneRow n (k + 1) :=
  rowOf_set n _ _ k _ (by rw [if_pos (by omega)]) fun j hj => by
    by_cases h : j < k
    · rw [if_pos h, if_pos (by omega)]
    · rw [if_neg h, if_neg (by omega)]
theorem oneRow_all (n : Nat) : oneRow n n = lastRow n [] := by
  rw [lastRow_nil]; exact rowOf_congr n _ _ fun k hk => if_pos hk
set_option maxHeartbeats 1000000 in
theorem last_yes (a : Option Addr) (len cap : Nat) (xs : List Int) (n : Nat) (hm : oMay n 0 = true) (w : World) (hl : Ints w a len xs) (hlen : len ≤ 1000) : Calls Try.prog 51 #[.slice a len cap, .int .i64 n] w (OwnRet w n (lastRow n xs)) := by
  have hs := oMay_spec n 0 hm
  have hx := hl.len
  obtain ⟨i0, hi, hz0, hz1, hz2⟩ := info_parts Try.infoI
  have hh := Lib.hid hl
  clear hl
  go_enter Try.func51, Try.ntmps51
  go_wp2_with (first
    | (go_at_call 52; refine (omay_any _ _ _).mono ?_; rintro e w' ⟨rfl, rfl⟩)
    | (at_make; refine wpList_make_full _ rfl _ _ _ rfl w.heap.size 3 i0 (.int .i64 0) 1 Try.underlying26 hi hz0 hz1 .i64 .i64 n n n rfl rfl rfl rfl (by rw [hz2]; omega) (by unfold maxLen; omega) (Nat.le_refl _) ?_; intro w1 hown hgr; rw [made_zero, ← oneRow_zero] at hown))
  have hb1 : Below w.heap.size w w1 := (Below.refl _ _).grown hgr (Nat.le_refl _) (fun k h => by cases h)
  go_loopw [16] (fun c wr => ∃ k : Nat, k ≤ n ∧ c = .int .i64 k ∧ wr.ownsRow w.heap.size 3 1 (.slice (some ⟨w.heap.size, 0, none⟩) n n) n ((oneRow n k).map (Value.int .i64)) ∧ Below w.heap.size w wr) (fun c _ => n - (intOf c).toNat)
  case atStart => exact ⟨0, by omega, rfl, hown, hb1⟩
  case round =>
    clear hown hgr hb1
    obtain ⟨wo, rfl⟩ : ∃ wo : World, wo = wr := ⟨_, rfl⟩
    obtain ⟨k, hk, rfl, hown, hb⟩ := hrel
    by_cases hlt : k < n
    · have hc2 := row_cell (fun x => if x < k then -1 else 0) hown k hlt
      have hf := hown.frozenAt k
      have hst := hown.stored k (.int .i64 (-1))
      rw [← List.map_set, oneRow_set] at hst
      have HST := Lib.hid hst
      have HOWN := Lib.hid hown
      clear hst hown
      go_wp2
      go_roundw
      case rel => exact ⟨k + 1, by omega, by go_num, HST.out.1, hb.setCell (Nat.le_refl _) _⟩
      case measure => simp [intOf]; omega
    · obtain rfl : k = n := by omega
      rw [oneRow_all] at hown
      go_wp2_with fail
      go_loopw [25] (fun c wr => ∃ j : Nat, j ≤ len ∧ c = .int .i64 j ∧ wr.ownsRow w.heap.size 3 1 (.slice (some ⟨w.heap.size, 0, none⟩) k k) k ((lastRow k (xs.take j)).map (Value.int .i64)) ∧ Below w.heap.size w wr) (fun c _ => len - (intOf c).toNat)
      case atStart => exact ⟨0, by omega, rfl, hown, hb⟩
      case round =>
        clear hown hb
        obtain ⟨j, hj, rfl, hown, hb⟩ := hrel
        by_cases hjl : j < len
        · obtain ⟨b, off, rfl, hc⟩ := (hh.out.below hb).get hjl
          have ht := take_snoc xs j (by omega)
          generalize xs.getD j 0 = y at hc ht
          have hle : (xs.take j).length = j := by rw [List.length_take]; omega
          by_cases hy0 : 0 ≤ y
          · by_cases hy1 : y < k
            · obtain ⟨y, rfl⟩ := Int.eq_ofNat_of_zero_le hy0
              have hc2 := row_cell (fun x => lastI (xs.take j) x) hown y (by omega)
              have hf := hown.frozenAt y
              have hst := hown.stored y (.int .i64 ((xs.take j).length : Int))
              rw [← List.map_set, lastRow_set, ← ht, hle] at hst
              have HST := Lib.hid hst
              have HOWN := Lib.hid hown
              clear hst hown ht hle hx
              go_wp2
              go_roundw
              case rel => exact ⟨j + 1, by omega, by go_num, HST.out.1, hb.setCell (Nat.le_refl _) _⟩
              case measure => simp [intOf]; omega
            · have ho := lastRow_out k (xs.take j) y (by omega)
              rw [← ht] at ho
              have HO := Lib.hid ho
              have HOWN := Lib.hid hown
              clear ho ht hle hx hown
              go_wp2
              go_roundw
              case rel => exact ⟨j + 1, by omega, by go_num, by rw [HO.out]; exact HOWN.out, hb⟩
              case measure => simp [intOf]; omega
          · have ho := lastRow_out k (xs.take j) y (by omega)
            rw [← ht] at ho
            have HO := Lib.hid ho
            have HOWN := Lib.hid hown
            clear ho ht hle hx hown
            go_wp2
            go_roundw
            case rel => exact ⟨j + 1, by omega, by go_num, by rw [HO.out]; exact HOWN.out, hb⟩
            case measure => simp [intOf]; omega
        · obtain rfl : j = len := by omega
          have ht : xs.take xs.length = xs := List.take_length
          rw [hx] at ht
          rw [ht] at hown
          have HOWN := Lib.hid hown
          clear ht hown
          go_wp2
          go_ret
          exact ⟨_, rfl, HOWN.out, hb⟩
end Go.Proofs.Ytgpkidffhglngaa
