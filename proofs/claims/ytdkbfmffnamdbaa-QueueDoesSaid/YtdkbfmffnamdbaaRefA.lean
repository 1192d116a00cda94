/- The contracts of the reference's functions on modes. No condition. -/
import Derived.Test.YtdkbfmffnamdbaaModeC
import Derived.Test.YtdkbfmffnamdbaaModeLaws
set_option linter.unusedVariables false
set_option linter.unusedSimpArgs false
namespace Go.Proofs.Ytdkbfmffnamdbaa
open Go.RowKit (wrap32 wrap64)
open Go.RowKit
theorem mayB_in (m : Int) (h : 0 ≤ m ∧ m ≤ 6) : mayB m = true := by unfold mayB; simp; omega
theorem mayB_out (m : Int) (h : ¬ (0 ≤ m ∧ m ≤ 6)) : mayB m = false := by unfold mayB; simp; omega
set_option maxHeartbeats 400000 in
theorem rmay_any (m : Int) (w : World) : Calls Try.prog 79 #[.int .i64 m] w fun e w' => e = .returned (.bool (mayB m)) ∧ w = w' := by
  by_cases h : 0 ≤ m ∧ m ≤ 6
  · rw [mayB_in m h]
    go_enter Try.func79, Try.ntmps79
    go_wp2
    go_ret
    exact ⟨rfl, rfl⟩
  · rw [mayB_out m h]
    by_cases h0 : 0 ≤ m
    · have h1 : ¬ m ≤ 6 := by omega
      clear h
      go_enter Try.func79, Try.ntmps79
      go_wp2
      go_ret
      exact ⟨by simp, rfl⟩
    · clear h
      go_enter Try.func79, Try.ntmps79
      go_wp2
      go_ret
      exact ⟨rfl, rfl⟩
set_option maxHeartbeats 400000 in
theorem rre_any (m : Int) (w : World) : Calls Try.prog 68 #[.int .i64 m] w fun e w' => e = .returned (.int .i64 (reT m)) ∧ Below w.heap.size w w' := by
  have HB := Below.refl w.heap.size w
  by_cases h : 0 ≤ m ∧ m ≤ 6
  · have h1 : mayB m = true := by unfold mayB; simp; omega
    revert h1
    refine seven (p := fun m => mayB m = true → Calls Try.prog 68 #[.int .i64 m] w fun e w' => e = .returned (.int .i64 (reT m)) ∧ Below w.heap.size w w') ?_ ?_ ?_ ?_ ?_ ?_ ?_ m h <;> intro h1
    all_goals
      go_enter Try.func68, Try.ntmps68
      go_wp2_with (first
        | (go_at_call 79; refine (rmay_any _ _).mono ?_; rintro e w' ⟨rfl, rfl⟩))
      go_ret
      exact ⟨rfl, HB.alloc (Nat.le_refl _) _⟩
  · have h1 : mayB m = false := by unfold mayB; simp; omega
    have e : reT m = 0 := by rw [← reT_rt, show rt m = 0 from if_neg h]; rfl
    rw [e]
    clear e
    go_enter Try.func68, Try.ntmps68
    go_wp2_with (first
      | (go_at_call 79; refine (rmay_any _ _).mono ?_; rintro e w' ⟨rfl, rfl⟩))
    go_ret
    exact ⟨rfl, HB.alloc (Nat.le_refl _) _⟩
set_option maxHeartbeats 400000 in
theorem rim_any (m : Int) (w : World) : Calls Try.prog 69 #[.int .i64 m] w fun e w' => e = .returned (.int .i64 (imT m)) ∧ Below w.heap.size w w' := by
  have HB := Below.refl w.heap.size w
  by_cases h : 0 ≤ m ∧ m ≤ 6
  · have h1 : mayB m = true := by unfold mayB; simp; omega
    revert h1
    refine seven (p := fun m => mayB m = true → Calls Try.prog 69 #[.int .i64 m] w fun e w' => e = .returned (.int .i64 (imT m)) ∧ Below w.heap.size w w') ?_ ?_ ?_ ?_ ?_ ?_ ?_ m h <;> intro h1
    all_goals
      go_enter Try.func69, Try.ntmps69
      go_wp2_with (first
        | (go_at_call 79; refine (rmay_any _ _).mono ?_; rintro e w' ⟨rfl, rfl⟩))
      go_ret
      exact ⟨rfl, HB.alloc (Nat.le_refl _) _⟩
  · have h1 : mayB m = false := by unfold mayB; simp; omega
    have e : imT m = 0 := by rw [← imT_rt, show rt m = 0 from if_neg h]; rfl
    rw [e]
    clear e
    go_enter Try.func69, Try.ntmps69
    go_wp2_with (first
      | (go_at_call 79; refine (rmay_any _ _).mono ?_; rintro e w' ⟨rfl, rfl⟩))
    go_ret
    exact ⟨rfl, HB.alloc (Nat.le_refl _) _⟩
set_option maxHeartbeats 400000 in
theorem rcovers_any (m n : Int) (w : World) : Calls Try.prog 42 #[.int .i64 m, .int .i64 n] w fun e w' => e = .returned (.bool (covT m n)) ∧ Below w.heap.size w w' := by
  have HB := Below.refl w.heap.size w
  have e : covT m n = (decide (reT n ≤ reT m) && decide (imT n ≤ imT m)) := rfl
  by_cases h : reT n ≤ reT m
  · have e : covT m n = decide (imT n ≤ imT m) := by unfold covT; simp [h]
    rw [e]
    clear e
    go_enter Try.func42, Try.ntmps42
    go_wp2_with (first
      | (go_at_call 68; refine (rre_any _ _).mono ?_; rintro e w1 ⟨rfl, b1⟩; replace HB := bl_then HB (Nat.le_refl _) b1; clear b1)
      | (go_at_call 69; refine (rim_any _ _).mono ?_; rintro e w1 ⟨rfl, b1⟩; replace HB := bl_then HB (Nat.le_refl _) b1; clear b1))
    go_ret
    exact ⟨rfl, HB⟩
  · have e : covT m n = false := by unfold covT; simp [h]
    rw [e]
    clear e
    go_enter Try.func42, Try.ntmps42
    go_wp2_with (first
      | (go_at_call 68; refine (rre_any _ _).mono ?_; rintro e w1 ⟨rfl, b1⟩; replace HB := bl_then HB (Nat.le_refl _) b1; clear b1)
      | (go_at_call 69; refine (rim_any _ _).mono ?_; rintro e w1 ⟨rfl, b1⟩; replace HB := bl_then HB (Nat.le_refl _) b1; clear b1))
    go_ret
    exact ⟨rfl, HB⟩
theorem comT_out (m n : Int) (h : ¬ (0 ≤ m ∧ m ≤ 6) ∨ ¬ (0 ≤ n ∧ n ≤ 6)) : comT m n = true := by
  unfold comT; rw [if_pos (by omega)]
set_option maxHeartbeats 400000 in
theorem rcompat_any (m n : Int) (w : World) : Calls Try.prog 70 #[.int .i64 m, .int .i64 n] w fun e w' => e = .returned (.bool (comT m n)) ∧ w = w' := by
  by_cases hm : 0 ≤ m ∧ m ≤ 6
  · have h1 := mayB_in m hm
    by_cases hn : 0 ≤ n ∧ n ≤ 6
    · have h2 := mayB_in n hn
      have hh := And.intro h1 h2
      clear h1 h2
      revert hh
      refine seven (p := fun m => (mayB m = true ∧ mayB n = true) → Calls Try.prog 70 #[.int .i64 m, .int .i64 n] w fun e w' => e = .returned (.bool (comT m n)) ∧ w = w') ?_ ?_ ?_ ?_ ?_ ?_ ?_ m hm <;>
      refine seven (p := fun n => (mayB _ = true ∧ mayB n = true) → Calls Try.prog 70 #[.int .i64 _, .int .i64 n] w fun e w' => e = .returned (.bool (comT _ n)) ∧ w = w') ?_ ?_ ?_ ?_ ?_ ?_ ?_ n hn <;>
      · as_aux_lemma =>
          rintro ⟨h1, h2⟩
          go_enter Try.func70, Try.ntmps70
          go_wp2_with (first
            | (go_at_call 79; refine (rmay_any _ _).mono ?_; rintro e w' ⟨rfl, rfl⟩))
          go_ret
          exact ⟨rfl, rfl⟩
    · have h2 := mayB_out n hn
      rw [comT_out m n (.inr hn)]
      go_enter Try.func70, Try.ntmps70
      go_wp2_with (first
        | (go_at_call 79; refine (rmay_any _ _).mono ?_; rintro e w' ⟨rfl, rfl⟩))
      go_ret
      exact ⟨rfl, rfl⟩
  · have h1 := mayB_out m hm
    rw [comT_out m n (.inl hm)]
    go_enter Try.func70, Try.ntmps70
    go_wp2_with (first
      | (go_at_call 79; refine (rmay_any _ _).mono ?_; rintro e w' ⟨rfl, rfl⟩))
    go_ret
    exact ⟨rfl, rfl⟩
end Go.Proofs.Ytdkbfmffnamdbaa
