/- Nodes: the reference's Ways, Within. No condition. -/
import Derived.Test.YtbdefhekkafihaaPthD
set_option linter.unusedVariables false
set_option linter.unusedSimpArgs false
namespace Go.Proofs.Ytbdefhekkafihaa
open Go.RowKit (wrap32 wrap64)
open Go.RowKit Go.Shelf
/-- Whether a node is q or within it. -/
def inP (p q : Pt) : Bool := (ways p).any fun a => decide (a = q)
theorem inP_bad (p q : Pt) (k : Nat) (x : Pt) (hx : (ways p)[k]? = some x) (h : x = q) : inP p q = true := List.any_eq_true.2 ⟨x, List.mem_of_getElem? hx, decide_eq_true h⟩
theorem inP_all (p q : Pt) (h : ∀ y ∈ ways p, decide (y = q) = false) : inP p q = false := List.any_eq_false.2 (fun x hx => by rw [h x hx]; simp)
theorem okPt_front (p : Pt) (d : Nat) (hd : d ≤ 4) (h : okPt p) : okPt (front p d) := by
  obtain ⟨a, b, c, e, f⟩ := h
  have z : (Lit.int .i64 0).wf = true := by decide
  have z4 : (Lit.int .i64 (d : Int)).wf = true := by
    obtain rfl | rfl | rfl | rfl | rfl : d = 0 ∨ d = 1 ∨ d = 2 ∨ d = 3 ∨ d = 4 := by omega
    all_goals decide
  refine ⟨?_, ?_, ?_, ?_, z4⟩ <;> (simp only [front]; split <;> assumption)
theorem okPt_ways (p : Pt) (h : okPt p) : ∀ x ∈ ways p, okPt x := by
  intro x hx
  cases hm : mayP p with
  | false => rw [ways_no p hm] at hx; simp at hx
  | true =>
    obtain ⟨D, hD, _, h4⟩ := mayP_dep p hm
    rw [ways_of p D hm hD] at hx
    obtain ⟨i, hi, rfl⟩ := List.mem_map.1 hx
    have := List.mem_range.1 hi
    exact okPt_front p (i + 1) (by omega) h
theorem ways_len (p : Pt) : (ways p).length ≤ 4 := by
  cases hm : mayP p with
  | false => rw [ways_no p hm]; simp
  | true =>
    obtain ⟨D, hD, _, h4⟩ := mayP_dep p hm
    rw [ways_of p D hm hD]; simpa using h4
end Go.Proofs.Ytbdefhekkafihaa
