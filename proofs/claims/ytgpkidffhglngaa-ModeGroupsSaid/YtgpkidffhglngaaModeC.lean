/- The statements of chapter 1 (mode): the walks. No condition. -/
import Derived.Test.YtgpkidffhglngaaModeB
namespace Go.Proofs.Ytgpkidffhglngaa
open Go.RowKit (wrap32 wrap64)
open Go.RowKit

set_option maxHeartbeats 400000 in
theorem awake01 (w : World) : Calls Try.prog 20 #[] w fun e w' => e = .returned (.bool true) ∧ Below w.heap.size w w' := by
  have e1 : supT 3 2 = 4 := by decide
  have e2 : supT 5 2 = 6 := by decide
  have e3 : comT 3 5 = true := by decide
  have e4 : comT 5 3 = false := by decide
  have e5 : ptv 4 = .complex .f64 4607182418800017408 4611686018427387904 := rfl
  go_enter Try.func20, Try.ntmps20
  go_wp2_with fail
  refine (sup_any _ _ _).mono ?_
  rintro e w1 ⟨rfl, hb1⟩
  rw [e1]
  go_wp2_with fail
  refine (sup_any _ _ _).mono ?_
  rintro e w2 ⟨rfl, hb2⟩
  rw [e2]
  go_wp2_with fail
  refine (compat_any _ _ _).mono ?_
  rintro e w3 ⟨rfl, hb3⟩
  rw [e3]
  go_wp2_with fail
  refine (compat_any _ _ _).mono ?_
  rintro e w4 ⟨rfl, hb4⟩
  rw [e4]
  go_wp2_with fail
  refine (at_any _ _).mono ?_
  rintro e w5 ⟨rfl, hb5⟩
  rw [e5]
  go_wp2
  go_ret
  exact ⟨by kernel_rfl, bl_then (bl_then (bl_then (bl_then hb1 (Nat.le_refl _) hb2) (Nat.le_refl _) hb3) (Nat.le_refl _) hb4) (Nat.le_refl _) hb5⟩
end Go.Proofs.Ytgpkidffhglngaa
