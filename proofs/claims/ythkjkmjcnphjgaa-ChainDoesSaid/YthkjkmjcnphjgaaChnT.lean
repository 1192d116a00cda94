/- chain: Len, First at the rows' level, the example. No condition. -/
import Derived.Test.YthkjkmjcnphjgaaChnS
import Derived.Test.YthkjkmjcnphjgaaSame
set_option linter.unusedVariables false
set_option linter.unusedSimpArgs false
namespace Go.Proofs.Ythkjkmjcnphjgaa
open Go.RowKit (wrap32 wrap64)
open Go.RowKit
set_option maxHeartbeats 1000000 in
theorem clen_any (g h1 h2 n : Nat) (R : List (List Nat)) (row : Int) (w : World) (hc : Chn w g h1 h2 n R) (hlen : (atR R row).length ≤ 1000) :
    Calls Try.prog 20 #[.pointer (some ⟨g, 0, none⟩), .int .i64 row] w fun e w' => e = .returned (.int .i64 (atR R row).length) ∧ Below w.heap.size w w' := by
  have HL := Lib.hid (clist_any g h1 h2 n R row w hc hlen)
  have hnl : (natI (atR R row)).length = (atR R row).length := List.length_map _
  generalize (atR R row).length = m at hnl hlen ⊢
  generalize natI (atR R row) = l at HL hnl
  have HNL := Lib.hid hnl
  clear hc hnl
  go_enter Try.func20, Try.ntmps20
  go_wp2_with (go_at_call 19; refine HL.out.mono ?_; rintro e w1 ⟨v, rfl, hown, hb⟩; rw [HNL.out] at hown; obtain ⟨A, c, rfl, _, _, _⟩ := SR.own (ok := fun _ => True) enI_len (by omega) hown (fun _ _ => trivial))
  go_ret
  exact ⟨rfl, hb⟩
theorem cfirstR_any (g h1 h2 n : Nat) (R : List (List Nat)) (row : Int) (w : World) (hc : Chn w g h1 h2 n R) :
    Calls Try.prog 16 #[.pointer (some ⟨g, 0, none⟩), .int .i64 row] w fun e w' => e = .returned (.tuple #[.int .i64 (z1 (hdI (atR R row))), .bool (hdI (atR R row) != -1)]) ∧ w = w' := by
  obtain ⟨T, E, hc, hrel⟩ := hc
  have h := cfirst_any g h1 h2 n T E row w hc
  rw [first_eq hrel row] at h
  exact h
theorem lit_ints (w : World) (t : TypeId) (xs : List Int) (h : xs.length ≤ 1000) : Ints (w.alloc (.cells (xs.map (Value.int .i64)).toArray t)) (some ⟨w.heap.size, 0, none⟩) xs.length xs := by
  refine ⟨rfl, by unfold maxLen; omega, fun _ => ⟨w.heap.size, 0, rfl, by simp, fun i hi => ?_⟩⟩
  rw [cell_of_row _ _ _ _ _ _ (heap_alloc_new _ _)]
  simp [List.getD_eq_getElem?_getD, hi]
set_option maxRecDepth 100000 in
set_option maxHeartbeats 2000000 in
theorem awake07 (w : World) : Calls Try.prog 13 #[] w fun e w' => e = .returned (.bool true) ∧ Below w.heap.size w w' := by
  have HN := Lib.hid (cnew_any 5 (by omega) w)
  have H1 := Lib.hid (fun g h1 h2 W hc => cback_any g h1 h2 5 [[], [], [], [], []] 0 3 W hc)
  have H2 := Lib.hid (fun g h1 h2 W hc => cback_any g h1 h2 5 [[3], [], [], [], []] 0 1 W hc)
  have H3 := Lib.hid (fun g h1 h2 W hc => cahead_any g h1 h2 5 [[3, 1], [], [], [], []] 0 1 2 W hc)
  have H4 := Lib.hid (fun g h1 h2 W hc => clist_any g h1 h2 5 [[3, 2, 1], [], [], [], []] 0 W hc (by decide))
  have E1 : Hid (freeR 5 [[], [], [], [], []] 0 3 = true ∧ backR 5 [[], [], [], [], []] 0 3 = [[3], [], [], [], []]) := Lib.hid (by decide)
  have E2 : Hid (freeR 5 [[3], [], [], [], []] 0 1 = true ∧ backR 5 [[3], [], [], [], []] 0 1 = [[3, 1], [], [], [], []]) := Lib.hid (by decide)
  have E3 : Hid (aheadB 5 [[3, 1], [], [], [], []] 0 1 2 = true ∧ aheadR 5 [[3, 1], [], [], [], []] 0 1 2 = [[3, 2, 1], [], [], [], []]) := Lib.hid (by decide)
  have E4 : Hid (natI (atR [[3, 2, 1], [], [], [], []] 0) = [3, 2, 1]) := Lib.hid (by decide)
  go_enter Try.func13, Try.ntmps13
  go_wp2_with (first
    | (go_at_call 14; refine HN.out.mono ?_; rintro e w1 ⟨g, h1, h2, rfl, hc1, lg, l1, l2, hb1⟩; have hS : ∀ i, LayS h1 h2 i → w.heap.size ≤ i := (fun i hi => by rcases hi with rfl | rfl; exact l1; exact l2))
    | (go_at_call_of 15 (Value.int .i64 3); refine (H1.out g h1 h2 _ hc1).mono ?_; rintro e w2 ⟨rfl, hc2, k2⟩; rw [E1.out.2] at hc2; rw [E1.out.1])
    | (go_at_call_of 15 (Value.int .i64 1); refine (H2.out g h1 h2 _ hc2).mono ?_; rintro e w3 ⟨rfl, hc3, k3⟩; rw [E2.out.2] at hc3; rw [E2.out.1])
    | (go_at_call 17; refine (H3.out g h1 h2 _ hc3).mono ?_; rintro e w4 ⟨rfl, hc4, k4⟩; rw [E3.out.2] at hc4; rw [E3.out.1])
    | (go_at_call 19; refine (H4.out g h1 h2 _ hc4).mono ?_; rintro e w5 ⟨v, rfl, hown, hb5⟩; rw [E4.out] at hown; obtain ⟨A, c, rfl, hi⟩ := ints_own hown; clear hown)
    | (go_at_call 18; refine (same_any _ _ _ _ _ _ [3, 2, 1] [3, 2, 1] _ (hi.below ((Below.refl _ _).alloc (Nat.le_refl _) _)) (lit_ints _ 3 [3, 2, 1] (by decide))).mono ?_; rintro e w6 ⟨rfl, hb6⟩; rw [show sameB [3, 2, 1] [3, 2, 1] = true by decide]))
  go_ret
  exact ⟨rfl, bl_then (bl_then (bl_keep (bl_keep (bl_keep hb1 k2 hS) k3 hS) k4 hS) (Nat.le_refl _) (hb5.alloc hb5.size _)) (Nat.le_refl _) hb6⟩
end Go.Proofs.Ythkjkmjcnphjgaa
