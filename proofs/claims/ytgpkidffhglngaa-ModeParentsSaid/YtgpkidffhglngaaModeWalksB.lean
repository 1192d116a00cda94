/- The statements of chapter 1 (mode): more walks. No condition. -/
import Derived.Test.YtgpkidffhglngaaModeC
import Derived.Test.YtgpkidffhglngaaModeLaws
namespace Go.Proofs.Ytgpkidffhglngaa
open Go.RowKit (wrap32 wrap64)
open Go.RowKit

theorem sym_comm (m n : Int) : symT m n = symT n m := by unfold symT; exact Bool.or_comm _ _
set_option maxHeartbeats 1000000 in
theorem modeParents_walk (m n : Int) (w : World) : Calls Try.prog 10 #[.int .i64 m, .int .i64 n] w fun e w' => e = .returned (.bool true) ∧ Below w.heap.size w w' := by
  have hp := prs_nm m
  have h1 := hp.1
  have h2 := hp.2
  have h3 := par_sup m n
  have h4 := sym_comm m n
  have HB := Below.refl w.heap.size w
  by_cases hm : mayB m = true
  · have e : rt m = m := by unfold mayB at hm; simp at hm; exact if_pos (by omega)
    rw [e] at h2
    clear hp e hm
    go_enter Try.func10, Try.ntmps10
    go_wp2_with (first
      | (go_at_call 20; refine (awake01 _).mono ?_; rintro e w1 ⟨rfl, b1⟩; replace HB := below_then HB (Nat.le_refl _) b1; clear b1)
      | (go_at_call 39; refine (name_any _ _).mono ?_; rintro e w1 ⟨rfl, b1⟩; replace HB := below_then HB (Nat.le_refl _) b1; clear b1)
      | (go_at_call 38; refine (parse_any _ _).mono ?_; rintro e w1 ⟨rfl, b1⟩; replace HB := below_then HB (Nat.le_refl _) b1; clear b1)
      | (go_at_call 40; refine (may_any _ _).mono ?_; rintro e w' ⟨rfl, rfl⟩)
      | (go_at_call 35; refine (parent_any _ _).mono ?_; rintro e w' ⟨rfl, rfl⟩)
      | (go_at_call 21; refine (sup_any _ _ _).mono ?_; rintro e w1 ⟨rfl, b1⟩; replace HB := below_then HB (Nat.le_refl _) b1; clear b1)
      | (go_at_call 41; refine (sym_any _ _ _).mono ?_; rintro e w1 ⟨rfl, b1⟩; replace HB := below_then HB (Nat.le_refl _) b1; clear b1))
    go_ret
    exact ⟨rfl, HB⟩
  · have hm := Bool.eq_false_iff.2 hm
    have e : rt m = 0 := by unfold mayB at hm; simp at hm; exact if_neg (by omega)
    rw [e] at h2
    have h5 : ((0 : Int) == m) = false := by unfold mayB at hm; simp at hm; rw [beq_eq_false_iff_ne]; omega
    clear hp e
    go_enter Try.func10, Try.ntmps10
    go_wp2_with (first
      | (go_at_call 20; refine (awake01 _).mono ?_; rintro e w1 ⟨rfl, b1⟩; replace HB := below_then HB (Nat.le_refl _) b1; clear b1)
      | (go_at_call 39; refine (name_any _ _).mono ?_; rintro e w1 ⟨rfl, b1⟩; replace HB := below_then HB (Nat.le_refl _) b1; clear b1)
      | (go_at_call 38; refine (parse_any _ _).mono ?_; rintro e w1 ⟨rfl, b1⟩; replace HB := below_then HB (Nat.le_refl _) b1; clear b1)
      | (go_at_call 40; refine (may_any _ _).mono ?_; rintro e w' ⟨rfl, rfl⟩)
      | (go_at_call 35; refine (parent_any _ _).mono ?_; rintro e w' ⟨rfl, rfl⟩)
      | (go_at_call 21; refine (sup_any _ _ _).mono ?_; rintro e w1 ⟨rfl, b1⟩; replace HB := below_then HB (Nat.le_refl _) b1; clear b1)
      | (go_at_call 41; refine (sym_any _ _ _).mono ?_; rintro e w1 ⟨rfl, b1⟩; replace HB := below_then HB (Nat.le_refl _) b1; clear b1))
    go_ret
    exact ⟨rfl, HB⟩
end Go.Proofs.Ytgpkidffhglngaa
