/- Nodes: those above, by the program and by the reference. No condition. -/
import Derived.Test.YtbdefhekkafihaaPth
import Derived.RegionTactic
import Derived.Deep.QuietTactic
import Derived.BigQuiet
set_option linter.unusedVariables false
set_option linter.unusedSimpArgs false
namespace Go.Proofs.Ytbdefhekkafihaa
open Go.RowKit (wrap32 wrap64)
open Go.RowKit Go.Shelf
set_option maxHeartbeats 1000000 in
theorem rpright_any (p : Pt) (w : World) : Calls Try.prog 19 #[.agg (ptA p)] w fun e w' => e = .returned (.bool (mayP p)) ∧ Below w.heap.size w w' := by
  obtain ⟨x0, x1, x2, x3, d⟩ := p
  have hO : Below w.heap.size w (w.alloc (.cells #[.int .i64 x0, .int .i64 x1, .int .i64 x2, .int .i64 x3, .int .i64 d] 50)) := (Below.refl _ _).alloc (Nat.le_refl _) _
  by_cases h1 : d < 1
  · have hf : mayP ⟨x0, x1, x2, x3, d⟩ = false := by unfold mayP; rw [decide_eq_false (show ¬ (1 ≤ d) by omega)]; rfl
    rw [hf]
    clear hf
    go_enter Try.func19, Try.ntmps19
    go_wp2
    go_ret
    exact ⟨rfl, hO⟩
  by_cases h2 : 4 < d
  · have hf : mayP ⟨x0, x1, x2, x3, d⟩ = false := by unfold mayP; rw [decide_eq_false (show ¬ (d ≤ 4) by omega), Bool.and_false]; rfl
    rw [hf]
    clear hf
    go_enter Try.func19, Try.ntmps19
    go_wp2
    go_ret
    exact ⟨rfl, hO⟩
  have hm : mayP ⟨x0, x1, x2, x3, d⟩ = okTo ⟨x0, x1, x2, x3, d⟩ 4 := by unfold mayP; rw [decide_eq_true (show 1 ≤ d by omega), decide_eq_true (show d ≤ 4 by omega)]; rfl
  rw [hm]
  clear hm
  have hB := Bk.new w 50 #[.int .i64 x0, .int .i64 x1, .int .i64 x2, .int .i64 x3, .int .i64 d]
  have q4 := hB.cell 4
  go_enter Try.func19, Try.ntmps19
  go_wp2_with fail
  go_loop [3] (fun c => ∃ k : Nat, k ≤ 4 ∧ c = .int .i64 k ∧ Hid (okTo ⟨x0, x1, x2, x3, d⟩ k = true)) (fun c => 4 - (intOf c).toNat)
  case atStart => exact ⟨0, by omega, rfl, Lib.hid rfl⟩
  case round =>
    obtain ⟨k, hk, rfl, HO⟩ := hrel
    by_cases hlt : k < 4
    · have hi := hB.cell k
      rw [ptA_num ⟨x0, x1, x2, x3, d⟩ k hlt] at hi
      have hlti : (k : Int) < 4 := by omega
      cases hok : okAt ⟨x0, x1, x2, x3, d⟩ k with
      | true =>
        have hs : okTo ⟨x0, x1, x2, x3, d⟩ (k + 1) = true := by unfold okTo; rw [HO.out, hok]; rfl
        have HS := Lib.hid hs
        unfold okAt at hok
        clear hs hB
        dsimp only at hok
        generalize num ⟨x0, x1, x2, x3, d⟩ k = x at hi hok
        have a1 : decide (x < 0) = false := by simp at hok ⊢; omega
        have a2 : decide (999 < x) = false := by simp at hok ⊢; omega
        by_cases hd : d ≤ (k : Int)
        · have a3 : decide (d ≤ (k : Int)) = true := by simp; omega
          have a4 : (x != 0) = false := by simp at hok ⊢; omega
          clear hok hd
          go_wp2
          go_round
          case rel => exact ⟨k + 1, by omega, by go_num, HS⟩
          case measure => simp [intOf]; omega
        · have a3 : decide (d ≤ (k : Int)) = false := by simp; omega
          clear hok hd
          go_wp2
          go_round
          case rel => exact ⟨k + 1, by omega, by go_num, HS⟩
          case measure => simp [intOf]; omega
      | false =>
        have hs := okTo_no ⟨x0, x1, x2, x3, d⟩ k 4 hlt hok
        have HS := Lib.hid hs
        unfold okAt at hok
        clear hs hB
        dsimp only at hok
        generalize num ⟨x0, x1, x2, x3, d⟩ k = x at hi hok
        have hcase : (decide (x < 0) = true) ∨ (decide (x < 0) = false ∧ decide (999 < x) = true) ∨ (decide (x < 0) = false ∧ decide (999 < x) = false ∧ decide (d ≤ (k : Int)) = true ∧ (x != 0) = true) := by
          simp at hok ⊢; omega
        clear hok
        rcases hcase with a1 | ⟨a1, a2⟩ | ⟨a1, a2, a3, a4⟩
        all_goals
          go_wp2
          go_ret
          exact ⟨by rw [HS.out]; rfl, hO⟩
    · obtain rfl : k = 4 := by omega
      clear hB
      go_wp2
      go_ret
      exact ⟨by rw [HO.out]; rfl, hO⟩
/-- The node of the first d numbers. -/
def front (p : Pt) (d : Nat) : Pt := ⟨if 0 < d then p.n0 else 0, if 1 < d then p.n1 else 0, if 2 < d then p.n2 else 0, if 3 < d then p.n3 else 0, d⟩
def ways (p : Pt) : List Pt := if mayP p then (List.range p.dep.toNat).map (fun i => front p (i + 1)) else []
end Go.Proofs.Ytbdefhekkafihaa
