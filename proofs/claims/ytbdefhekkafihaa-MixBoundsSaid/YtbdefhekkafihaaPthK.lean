/- Nodes: Key, by the program and by the reference. No condition. -/
import Derived.Test.YtbdefhekkafihaaPthF
set_option linter.unusedVariables false
set_option linter.unusedSimpArgs false
namespace Go.Proofs.Ytbdefhekkafihaa
open Go.RowKit (wrap32 wrap64)
open Go.RowKit Go.Shelf
theorem okTo_at (p : Pt) : ∀ (n k : Nat), k < n → okTo p n = true → okAt p k = true
  | 0, k, h, _ => absurd h (by omega)
  | n + 1, k, h, ho => by
    unfold okTo at ho
    rw [Bool.and_eq_true] at ho
    by_cases e : k = n
    · subst e; exact ho.2
    · exact okTo_at p n k (by omega) ho.1
theorem mayP_num (p : Pt) (h : mayP p = true) (k : Nat) (hk : k < 4) : 0 ≤ num p k ∧ num p k ≤ 999 ∧ (p.dep ≤ k → num p k = 0) := by
  unfold mayP at h
  rw [Bool.and_eq_true] at h
  have := okTo_at p 4 k hk h.2
  unfold okAt at this
  simp at this
  omega
def keyR (p : Pt) : Nat → Int
  | 0 => 0
  | k + 1 => keyR p k * 1001 + num p k + 1
def keyP (p : Pt) : Int := if mayP p then keyR p (depN p) else 0
theorem keyR_range (p : Pt) (h : mayP p = true) : ∀ k, k ≤ 4 → 0 ≤ keyR p k ∧ keyR p k < 1001 ^ k
  | 0, _ => by unfold keyR; omega
  | k + 1, hk => by
    have ih := keyR_range p h k (by omega)
    have hn := mayP_num p h k (by omega)
    unfold keyR
    rw [Int.pow_succ]
    omega
theorem keyR_small (p : Pt) (h : mayP p = true) (k : Nat) (hk : k < 4) : 0 ≤ keyR p k ∧ keyR p k < 1003003001 := by
  have ih := keyR_range p h k (by omega)
  obtain rfl | rfl | rfl | rfl : k = 0 ∨ k = 1 ∨ k = 2 ∨ k = 3 := by omega
  all_goals (constructor; exact ih.1; have := ih.2; simp at this; omega)
end Go.Proofs.Ytbdefhekkafihaa
