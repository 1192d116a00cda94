/- The draw behind a seed, by the program and the reference. No condition. -/
import Derived.Test.YtbdefhekkafihaaSl
import Derived.Test.YtbdefhekkafihaaBits
set_option linter.unusedVariables false
set_option linter.unusedSimpArgs false
namespace Go.Proofs.Ytbdefhekkafihaa
open Go.RowKit (wrap32 wrap64)
open Go.RowKit Plain
/-- The draw behind a seed. -/
def nextG (x : Int) : Int := nextZ (if x < 1 then 1 else x)
theorem nextG_pos (x : Int) (h : 1 ≤ x) : nextG x = nextZ x := by unfold nextG; rw [if_neg (by omega)]
theorem nextG_zero (x : Int) (h : x < 1) : nextG x = nextZ 1 := by unfold nextG; rw [if_pos h]
set_option maxHeartbeats 400000 in
theorem next_any (x : Int) (h0 : 0 ≤ x) (h1 : x < 18446744073709551616) (w : World) : Calls Try.prog 35 #[.int .u64 x] w fun e w' => e = .returned (.int .u64 (nextG x)) ∧ w = w' := by
  by_cases h : 1 ≤ x
  · rw [nextG_pos x h]
    have hz := Lib.hid (next_is x h0 h1)
    go_enter Try.func35, Try.ntmps35
    go_wp2
    go_ret
    exact ⟨congrArg (fun z => Ending.returned (.int .u64 z)) hz.out, rfl⟩
  · have h2 : x < 1 := by omega
    rw [nextG_zero x h2]
    have hz := Lib.hid (next_is 1 (by omega) (by omega))
    clear h
    go_enter Try.func35, Try.ntmps35
    go_wp2
    go_ret
    exact ⟨congrArg (fun z => Ending.returned (.int .u64 z)) hz.out, rfl⟩
set_option maxHeartbeats 400000 in
theorem rnext_any (x : Int) (h0 : 0 ≤ x) (h1 : x < 18446744073709551616) (w : World) : Calls Try.prog 14 #[.int .u64 x] w fun e w' => e = .returned (.int .u64 (nextG x)) ∧ w = w' := by
  by_cases h : x = 0
  · subst h
    rw [nextG_zero 0 (by omega)]
    have hz := Lib.hid (next_isd 1 (by omega) (by omega))
    go_enter Try.func14, Try.ntmps14
    go_wp2
    go_ret
    exact ⟨congrArg (fun z => Ending.returned (.int .u64 z)) hz.out, rfl⟩
  · rw [nextG_pos x (by omega)]
    have hb : (x == 0) = false := beq_eq_false_iff_ne.2 h
    have hz := Lib.hid (next_isd x h0 h1)
    go_enter Try.func14, Try.ntmps14
    go_wp2
    go_ret
    exact ⟨congrArg (fun z => Ending.returned (.int .u64 z)) hz.out, rfl⟩
theorem nextG_range (x : Int) : 0 ≤ nextG x ∧ nextG x < 18446744073709551616 := nextZ_range _
end Go.Proofs.Ytbdefhekkafihaa
