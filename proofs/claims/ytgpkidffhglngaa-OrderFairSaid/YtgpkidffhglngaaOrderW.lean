/- The statements OrderSeeds, OrderDraws: the walks. No condition. -/
import Derived.Test.YtgpkidffhglngaaOrder
import Derived.Test.YtgpkidffhglngaaSame
set_option linter.unusedVariables false
set_option linter.unusedSimpArgs false
namespace Go.Proofs.Ytgpkidffhglngaa
open Go.RowKit (wrap32 wrap64)
open Go.RowKit Plain
theorem lit_ints (w : World) (t : TypeId) (xs : List Int) (h : xs.length ≤ 1000) : Ints (w.alloc (.cells (xs.map (Value.int .i64)).toArray t)) (some ⟨w.heap.size, 0, none⟩) xs.length xs := by
  refine ⟨rfl, by unfold maxLen; omega, fun _ => ⟨w.heap.size, 0, rfl, by simp, fun i hi => ?_⟩⟩
  rw [cell_of_row _ _ _ _ _ _ (heap_alloc_new _ _)]
  simp [List.getD_eq_getElem?_getD, hi]
set_option maxHeartbeats 400000 in
theorem awake08 (w : World) : Calls Try.prog 13 #[] w fun e w' => e = .returned (.bool true) ∧ Below w.heap.size w w' := by
  have hs : sameB (roundL 2 3) [0, 1, 0] = true := by decide
  have hn : (nextG 1 != 1) = true := by decide
  have HN := Lib.hid hn
  clear hn
  go_enter Try.func13, Try.ntmps13
  go_wp2_with fail
  refine (round_yes 2 3 (by decide) _).mono ?_
  rintro e w1 ⟨v, rfl, hown, hb1⟩
  obtain ⟨A, c, rfl, hi⟩ := own_ints hown
  go_wp2_with fail
  have hl := lit_ints w1 3 [0, 1, 0] (by decide)
  refine (same_any _ _ _ _ _ _ (roundL 2 3) [0, 1, 0] _ (hi.below ((Below.refl _ _).alloc (Nat.le_refl _) _)) hl).mono ?_
  rintro e w2 ⟨rfl, hb2⟩
  rw [hs]
  go_wp2_with fail
  refine (next_any _ (by omega) (by omega) _).mono ?_
  rintro e w' ⟨rfl, rfl⟩
  go_wp2
  go_ret
  exact ⟨by rw [← HN.out]; rfl, bl_then (hb1.alloc hb1.size _) (Nat.le_refl _) hb2⟩
theorem nextG_inj (a b : Int) (ha : 0 < a ∧ a < 18446744073709551616) (hb : 0 < b ∧ b < 18446744073709551616) : (nextG a == nextG b) = (a == b) := by
  rw [nextG_pos a (by omega), nextG_pos b (by omega), Bool.eq_iff_iff, beq_iff_eq, beq_iff_eq]
  exact ⟨fun h => nextZ_inj a b (by omega) ha.2 (by omega) hb.2 h, fun h => by rw [h]⟩
set_option maxHeartbeats 400000 in
theorem orderSeeds_walk (a b : Int) (w : World) (wa : (Lit.int .u64 a).wf = true) (wb : (Lit.int .u64 b).wf = true) : Calls Try.prog 3 #[.int .u64 a, .int .u64 b] w fun e w' => e = .returned (.bool true) ∧ Below w.heap.size w w' := by
  have ra := wf_u64 wa
  have rb := wf_u64 wb
  clear wa wb
  have HB := Below.refl w.heap.size w
  by_cases h0 : a = 0 ∨ b = 0
  · have hz : nextG 0 = nextG 1 := rfl
    have HZ := Lib.hid hz
    clear hz
    rcases h0 with h | h
    · subst h
      go_enter Try.func3, Try.ntmps3
      go_wp2_with fail
      refine (awake08 _).mono ?_
      rintro e w1 ⟨rfl, b1⟩
      go_wp2_with fail
      refine (next_any _ (by omega) (by omega) _).mono ?_
      rintro e w' ⟨rfl, rfl⟩
      rw [HZ.out]
      go_wp2_with fail
      refine (next_any _ (by omega) (by omega) _).mono ?_
      rintro e w' ⟨rfl, rfl⟩
      go_wp2
      go_ret
      exact ⟨rfl, b1⟩
    · subst h
      by_cases ha : a = 0
      · subst ha
        go_enter Try.func3, Try.ntmps3
        go_wp2_with fail
        refine (awake08 _).mono ?_
        rintro e w2 ⟨rfl, b2⟩
        go_wp2_with fail
        refine (next_any _ (by omega) (by omega) _).mono ?_
        rintro e w' ⟨rfl, rfl⟩
        rw [HZ.out]
        go_wp2_with fail
        refine (next_any _ (by omega) (by omega) _).mono ?_
        rintro e w' ⟨rfl, rfl⟩
        go_wp2
        go_ret
        exact ⟨rfl, b2⟩
      · have hb : (a == 0) = false := beq_eq_false_iff_ne.2 ha
        go_enter Try.func3, Try.ntmps3
        go_wp2_with fail
        refine (awake08 _).mono ?_
        rintro e w3 ⟨rfl, b3⟩
        go_wp2_with fail
        refine (next_any _ (by omega) (by omega) _).mono ?_
        rintro e w' ⟨rfl, rfl⟩
        rw [HZ.out]
        go_wp2_with fail
        refine (next_any _ (by omega) (by omega) _).mono ?_
        rintro e w' ⟨rfl, rfl⟩
        go_wp2
        go_ret
        exact ⟨rfl, b3⟩
  · have h1 : (a == 0) = false := beq_eq_false_iff_ne.2 (by omega)
    have h2 : (b == 0) = false := beq_eq_false_iff_ne.2 (by omega)
    have h3 : ((nextG a == nextG b) == (a == b)) = true := by rw [nextG_inj a b (by omega) (by omega)]; simp
    have h4 : (nextG a != 0) = true := by rw [bne_iff_ne, nextG_pos a (by omega)]; exact nextZ_pos a (by omega) ra.2
    have H4 := Lib.hid h4
    clear h4 h0
    go_enter Try.func3, Try.ntmps3
    go_wp2_with fail
    refine (awake08 _).mono ?_
    rintro e w4 ⟨rfl, b4⟩
    go_wp2_with fail
    refine (next_any _ ra.1 ra.2 _).mono ?_
    rintro e w' ⟨rfl, rfl⟩
    go_wp2_with fail
    refine (next_any _ rb.1 rb.2 _).mono ?_
    rintro e w' ⟨rfl, rfl⟩
    go_wp2_with fail
    refine (next_any _ ra.1 ra.2 _).mono ?_
    rintro e w' ⟨rfl, rfl⟩
    go_wp2
    go_ret
    exact ⟨by rw [← H4.out]; rfl, b4⟩
end Go.Proofs.Ytgpkidffhglngaa
