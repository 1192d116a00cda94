/- A map of ints to bools, as the set of those that it holds true. No condition. -/
import Derived.Test.YtbdefhekkafihaaMem
import Derived.Maps.OwnIn
import Derived.Maps.Views
set_option linter.unusedVariables false
set_option linter.unusedSimpArgs false
namespace Go.Proofs.Ytbdefhekkafihaa
open Go.RowKit (wrap32 wrap64)
open Go.RowKit
def MapB (w : World) (b n : Nat) (p : Int → Bool) : Prop :=
  ∃ D : DataW Unit, w.ownsMap Try.prog 3 (plainElem Try.prog 4) b n D ∧ Maps.IsMap D ∧ ∀ x, (Lit.int .i64 x).wf = true → D.atKey (.int .i64 x) (.lit (.bool false)) = .lit (.bool (p x))
theorem MapB.made (w : World) : MapB (w.alloc (.map #[] 0)) w.heap.size 0 (fun _ => false) :=
  ⟨_, World.ownsMap_made w _ _ _, Maps.isMap_empty, fun x _ => rfl⟩
theorem MapB.keep {S : Nat → Prop} {w w1 : World} {b n : Nat} {p : Int → Bool} (h : MapB w b n p) (k : Keep S w w1) (hb : ¬ S b) : MapB w1 b n p := by
  obtain ⟨D, h, h2⟩ := h
  have hlt := h.lt
  obtain ⟨es, clock, hg, F, hs, hD⟩ := h
  exact ⟨D, ⟨es, clock, (k.block b hlt hb).trans hg, F, hs, hD⟩, h2⟩
theorem MapB.below {w w1 : World} {b n : Nat} {p : Int → Bool} (h : MapB w b n p) (k : Below w.heap.size w w1) : MapB w1 b n p := h.keep (Keep.of_below k (fun _ => False)) (fun h => h)
theorem MapB.lt {w : World} {b n : Nat} {p : Int → Bool} (h : MapB w b n p) : b < w.heap.size := by
  obtain ⟨D, h, _⟩ := h
  exact h.lt
theorem plainElem_bool_inv {H : Type} {P : Program} {e : TypeId} (he : P.underlying e = some .bool) {v : Value} {x : Bool} {ps : List MemPlace} (hv : plainElem (H := H) P e v = some (.lit (.bool x), ps)) : v = .bool x := by
  unfold plainElem at hv
  rw [he] at hv
  cases v <;> simp at hv
  rw [hv.1]
end Go.Proofs.Ytbdefhekkafihaa
