/- A map of ints to bools, as the set of those that it holds true. No condition. -/
import Derived.Test.YtjenchijenkndaaMem
import Derived.Maps.OwnIn
import Derived.Maps.Views
set_option linter.unusedVariables false
set_option linter.unusedSimpArgs false
namespace Go.Proofs.Ytjenchijenkndaa
open Go.RowKit (wrap32 wrap64)
open Go.RowKit
def MapB (w : World) (b n : Nat) (p : Int → Bool) : Prop :=
  ∃ D : DataW Unit, w.ownsMap Try.prog 3 (plainElem Try.prog 4) b n D ∧ Maps.IsMap D ∧ ∀ x, (Lit.int .i64 x).wf = true → D.atKey (.int .i64 x) (.lit (.bool false)) = .lit (.bool (p x))
theorem MapB.made (w : World) : MapB (w.alloc (.map #[] 0)) w.heap.size 0 (fun _ => false) :=
  ⟨_, World.ownsMap_made w _ _ _, Maps.isMap_empty, fun x _ => rfl⟩
theorem MapB.keep {S : Nat → Prop} {w w1 : World} {b n : Nat} {p : Int → Bool} (h : MapB w b n p) (k : Keep S w w1) (hb : ¬ S b) : MapB w1 b n p := by
  obtain ⟨D, h, h2⟩ := h
  have hlt := h.lt
  obtain ⟨es, clock, hg, F, hs, hD⟩ := h
  exact ⟨D, ⟨es, clock, (k.block b hlt hb).trans hg, F, hs, hD⟩, h2⟩
theorem MapB.below {w w1 : World} {b n : Nat} {p : Int → Bool} (h : MapB w b n p) (k : Below w.heap.size w w1) : MapB w1 b n p := h.keep (Keep.of_below k (fun _ => False)) (fun h => h)
theorem MapB.lt {w : World} {b n : Nat} {p : Int → Bool} (h : MapB w b n p) : b < w.heap.size := by
  obtain ⟨D, h, _⟩ := h
  exact h.lt
theorem plainElem_bool_inv {H : Type} {P : Program} {e : TypeId} (he : P.underlying e = some .bool) {v : Value} {x : Bool} {ps : List MemPlace} (hv : plainElem (H := H) P e v = some (.lit (.bool x), ps)) : v = .bool x := by
  unfold plainElem at hv
  rw [he] at hv
  cases v <;> simp at hv
  rw [hv.1]
theorem MapB.look {w : World} {b n : Nat} {p : Int → Bool} (h : MapB w b n p) (x : Int) (hx : (Lit.int .i64 x).wf = true) : (Instr.lookup 48 (.map (some b)) (.int .i64 x) false).run Try.prog w = .ok (.bool (p x)) w := by
  obtain ⟨D, h, _, h2⟩ := h
  obtain ⟨v, ps, hrun, hv⟩ := h.lookup (Maps.int_keyed Try.underlying3) Try.underlying48 (z := .bool false) (Try.zeroValue4 w) (plainElem_bool Try.underlying4 false) (Maps.keyOf_int_mk Try.underlying3 hx)
  rw [h2 x hx] at hv
  rw [plainElem_bool_inv Try.underlying4 hv] at hrun
  exact hrun
theorem wpList_putB {w : World} {ops : Array Oper} {rest : List Oper} {o : Oper} {a : Act} {Q : Exit → Act → World → Prop} {b n : Nat} {p : Int → Bool} (hg : o.guard = none) (m x v : Operand) (hop : o.op = Op.mapUpdate 48 m x v)
    (hm : a.eval m = .map (some b)) (h : MapB w b n p) (hn : n < maxLen) (y : Int) (hx : a.eval x = .int .i64 y) (hy : (Lit.int .i64 y).wf = true) (hv : a.eval v = .bool true)
    (hK : ∀ w', MapB w' b (n + 1) (fun z => z == y || p z) → Keep (fun k => k = b) w w' → wpList Try.prog ops Q rest (a.put o.dst undef) w') :
    wpList Try.prog ops Q (o :: rest) a w := by
  obtain ⟨D, h, hm2, h2⟩ := h
  refine wpList_mapUpdate_own w hg m x v _ hop 3 4 (Maps.int_keyed Try.underlying3) Try.underlying48 (plainElem Try.prog 4) b n D hm h hn _ _ (.int .i64 y) hx hv (Maps.keyOf_int_mk Try.underlying3 hy) (.lit (.bool true)) [] (plainElem_bool Try.underlying4 true) ?_
  intro w' ho hgr
  refine hK w' ⟨_, ho, ?_, fun z hz => ?_⟩ ⟨hgr.os, hgr.tape, hgr.output, hgr.size, fun i hi hne => hgr.block i hi (fun e => hne (Option.some.inj e))⟩
  · exact hm2.put _ _
  · by_cases e : z = y
    · subst e
      rw [Maps.atKey_put_same (k := .int .i64 z) hm2 trivial]
      simp
    · rw [Maps.atKey_put_other (fun e2 => e (by injection e2)), h2 z hz]
      have : (z == y) = false := beq_eq_false_iff_ne.2 e
      simp [this]
end Go.Proofs.Ytjenchijenkndaa
