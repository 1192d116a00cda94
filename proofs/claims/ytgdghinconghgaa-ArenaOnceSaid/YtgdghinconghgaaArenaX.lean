/- What Used hands over, in order: each place is greater than those ahead of it, taken, with its value. No condition. -/
import Derived.Test.YtgdghinconghgaaArenaU
set_option linter.unusedVariables false
set_option linter.unusedSimpArgs false
namespace Go.Proofs.Ytgdghinconghgaa
open Go.RowKit
theorem usedTo_at (L : List Pl) (k : Nat) (hk : k ≤ L.length) (x : Nat × Int) (hx : x ∈ usedTo L k) : x.1 < k ∧ ∃ p, usA L x.1 = some p ∧ p.x = x.2 := by
  induction k with
  | zero => cases hx
  | succ k ih =>
    change x ∈ (match usA L k with | some p => usedTo L k ++ [(k, p.x)] | none => usedTo L k) at hx
    cases hu : usA L k with
    | none =>
      rw [hu] at hx
      obtain ⟨h1, h2⟩ := ih (by omega) hx
      exact ⟨by omega, h2⟩
    | some p =>
      rw [hu] at hx
      rcases List.mem_append.1 hx with hx | hx
      · obtain ⟨h1, h2⟩ := ih (by omega) hx
        exact ⟨by omega, h2⟩
      · simp at hx
        subst hx
        exact ⟨by simp, p, hu, rfl⟩
/-- The last place of a row of pairs; -1, where there is none. -/
def lastP (l : List (Nat × Int)) : Int := match l.getLast? with
  | some x => (x.1 : Int)
  | none => -1
theorem lastP_snoc (l : List (Nat × Int)) (x : Nat × Int) : lastP (l ++ [x]) = x.1 := by unfold lastP; simp
theorem usedTo_last (L : List Pl) (k : Nat) (hk : k ≤ L.length) : lastP (usedTo L k) < k := by
  induction k with
  | zero => show lastP [] < ((0 : Nat) : Int); unfold lastP; simp
  | succ k ih =>
    show lastP (match usA L k with | some p => usedTo L k ++ [(k, p.x)] | none => usedTo L k) < ((k + 1 : Nat) : Int)
    cases hu : usA L k with
    | none => have := ih (by omega); dsimp only; omega
    | some p => dsimp only; rw [lastP_snoc]; omega
/-- Of a row that Used begins with, the last one stands behind those ahead of it. -/
theorem usedTo_step (L : List Pl) (n : Nat) (hn : n ≤ L.length) (pre : List (Nat × Int)) (x : Nat × Int) (h : pre ++ [x] <+: usedTo L n) : lastP pre < x.1 ∧ ∃ p, usA L x.1 = some p ∧ p.x = x.2 := by
  induction n with
  | zero =>
    obtain ⟨t, ht⟩ := h
    have : (pre ++ [x] ++ t).length = 0 := by rw [ht]; rfl
    simp at this
  | succ n ih =>
    change pre ++ [x] <+: (match usA L n with | some p => usedTo L n ++ [(n, p.x)] | none => usedTo L n) at h
    cases hu : usA L n with
    | none => rw [hu] at h; exact ih (by omega) h
    | some p =>
      rw [hu] at h
      rcases List.prefix_concat_iff.1 h with h | h
      · obtain ⟨h1, h2⟩ := List.append_inj' h rfl
        simp at h2
        subst h2
        rw [h1]
        exact ⟨usedTo_last L n (by omega), p, hu, rfl⟩
      · exact ih (by omega) h
end Go.Proofs.Ytgdghinconghgaa
