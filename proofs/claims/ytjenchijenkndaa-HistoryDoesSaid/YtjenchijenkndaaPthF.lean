/- Nodes: Less, by the program and by the reference. No condition. -/
import Derived.Test.YtjenchijenkndaaPthE
import Derived.Deep.QuietTactic
import Derived.BigQuiet
set_option linter.unusedVariables false
set_option linter.unusedSimpArgs false
namespace Go.Proofs.Ytjenchijenkndaa
open Go.RowKit (wrap32 wrap64)
open Go.RowKit Go.Shelf
theorem two_box (p q : Pt) (w : World) : Below w.heap.size w ((w.alloc (.cells (ptA p) 27)).alloc (.cells (ptA q) 27)) ∧ Bk ((w.alloc (.cells (ptA p) 27)).alloc (.cells (ptA q) 27)) w.heap.size 27 (ptA p) ∧ Bk ((w.alloc (.cells (ptA p) 27)).alloc (.cells (ptA q) 27)) (w.heap.size + 1) 27 (ptA q) := by
  refine ⟨((Below.refl _ _).alloc (Nat.le_refl _) _).alloc (by simp) _, (Bk.new w 27 (ptA p)).below ((Below.refl _ _).alloc (Nat.le_refl _) (.cells (ptA q) 27)), ?_⟩
  have := Bk.new (w.alloc (.cells (ptA p) 27)) 27 (ptA q)
  rw [World.size_alloc] at this
  exact this
def depN (p : Pt) : Nat := p.dep.toNat
/-- From number k on, n numbers more: the first that differ; where none does, r. -/
def lessR (p q : Pt) (r : Bool) : Nat → Nat → Bool
  | _, 0 => r
  | k, n + 1 => if num p k = num q k then lessR p q r (k + 1) n else decide (num p k < num q k)
def lessP (p q : Pt) : Bool := mayP p && (mayP q && lessR p q (decide (depN p < depN q)) 0 (min (depN p) (depN q)))
def rlessP (p q : Pt) : Bool := mayP p && (mayP q && (!decide (p = q) && lessR p q (decide (depN p ≤ depN q ∧ depN p < 4)) 0 (min (depN p) (depN q))))
end Go.Proofs.Ytjenchijenkndaa
