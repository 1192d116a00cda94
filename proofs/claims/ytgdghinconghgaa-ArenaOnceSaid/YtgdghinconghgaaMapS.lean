/- A map of ints to bools as a set of numbers of known size; a queue of ints in memory. No condition. -/
import Derived.Test.YtgdghinconghgaaMem
import Derived.Maps.OwnIn
import Derived.Maps.Views
import Derived.Maps.OwnSet
set_option linter.unusedVariables false
set_option linter.unusedSimpArgs false
namespace Go.Proofs.Ytgdghinconghgaa
open Go.RowKit (wrap32 wrap64)
open Go.RowKit
def hasN (O : List Nat) (x : Int) : Bool := O.any fun y => (y : Int) == x
theorem hasN_nat (O : List Nat) (k : Nat) : hasN O (k : Int) = O.contains k := by
  unfold hasN
  rw [Bool.eq_iff_iff, List.any_eq_true, List.contains_iff_mem]
  constructor
  · rintro ⟨y, hy, e⟩
    have : (y : Int) = k := by simpa using e
    rw [show k = y by omega]; exact hy
  · intro h
    exact ⟨k, h, by simp⟩
theorem hasN_app (O : List Nat) (k : Nat) (x : Int) : hasN (O ++ [k]) x = (hasN O x || ((k : Int) == x)) := by unfold hasN; simp
theorem hasN_cons (O : List Nat) (k : Nat) (x : Int) : hasN (k :: O) x = (((k : Int) == x) || hasN O x) := by unfold hasN; simp
/-- The map at b holds just the numbers O, each at true. -/
def MapS (w : World) (b : Nat) (O : List Nat) : Prop :=
  ∃ D : DataW Unit, w.ownsMap Try.prog 3 (plainElem Try.prog 4) b O.length D ∧ (∀ x, (Lit.int .i64 x).wf = true → Maps.has D (.int .i64 x) = hasN O x ∧ D.atKey (.int .i64 x) (.lit (.bool false)) = .lit (.bool (hasN O x))) ∧ Maps.size D = O.length
theorem owns_tight {H : Type} {w : World} {P : Program} {k : TypeId} {R : Value → Option (DataW H × List MemPlace)} {b n m : Nat} {D : DataW H} (h : w.ownsMap P k R b n D) (hm : Maps.size D = m) : w.ownsMap P k R b m D := by
  obtain ⟨es, clock, hb, F, hs, rfl⟩ := h
  refine ⟨es, clock, hb, F, ?_, rfl⟩
  rw [Maps.size_eq, length_sorted] at hm
  simp at hm
  omega
theorem MapS.made (w : World) : MapS (w.alloc (.map #[] 0)) w.heap.size [] :=
  ⟨_, World.ownsMap_made w _ _ _, fun x _ => ⟨rfl, rfl⟩, rfl⟩
theorem MapS.keep {S : Nat → Prop} {w w1 : World} {b : Nat} {O : List Nat} (h : MapS w b O) (k : Keep S w w1) (hb : ¬ S b) : MapS w1 b O := by
  obtain ⟨D, h, h2⟩ := h
  have hlt := h.lt
  obtain ⟨es, clock, hg, F, hs, hD⟩ := h
  exact ⟨D, ⟨es, clock, (k.block b hlt hb).trans hg, F, hs, hD⟩, h2⟩
theorem MapS.below {w w1 : World} {b : Nat} {O : List Nat} (h : MapS w b O) (k : Below w.heap.size w w1) : MapS w1 b O := h.keep (Keep.of_below k (fun _ => False)) (fun h => h)
theorem MapS.lt {w : World} {b : Nat} {O : List Nat} (h : MapS w b O) : b < w.heap.size := by
  obtain ⟨D, h, _⟩ := h
  exact h.lt
theorem MapS.cells {w : World} {b : Nat} {O : List Nat} (h : MapS w b O) : ∃ es clock, w.heap[b]? = some (.map es clock) ∧ es.size = O.length := by
  obtain ⟨D, h, _, hs⟩ := h
  obtain ⟨es, clock, hb, F, _, rfl⟩ := h
  rw [Maps.size_eq, length_sorted] at hs
  exact ⟨es, clock, hb, by simpa using hs⟩
theorem plainElem_bool_inv {H : Type} {P : Program} {e : TypeId} (he : P.underlying e = some .bool) {v : Value} {x : Bool} {ps : List MemPlace} (hv : plainElem (H := H) P e v = some (.lit (.bool x), ps)) : v = .bool x := by
  unfold plainElem at hv
  rw [he] at hv
  cases v <;> simp at hv
  rw [hv.1]
theorem MapS.look {w : World} {b : Nat} {O : List Nat} (h : MapS w b O) (x : Int) (hx : (Lit.int .i64 x).wf = true) : (Instr.lookup 73 (.map (some b)) (.int .i64 x) false).run Try.prog w = .ok (.bool (hasN O x)) w := by
  obtain ⟨D, h, h2, _⟩ := h
  obtain ⟨v, ps, hrun, hv⟩ := h.lookup (Maps.int_keyed Try.underlying3) Try.underlying73 (z := .bool false) (Try.zeroValue4 w) (plainElem_bool Try.underlying4 false) (Maps.keyOf_int_mk Try.underlying3 hx)
  rw [(h2 x hx).2] at hv
  rw [plainElem_bool_inv Try.underlying4 hv] at hrun
  exact hrun
theorem wpList_putS {w : World} {ops : Array Oper} {rest : List Oper} {o : Oper} {a : Act} {Q : Exit → Act → World → Prop} {b : Nat} {O : List Nat} (hg : o.guard = none) (m x v : Operand) (hop : o.op = Op.mapUpdate 73 m x v)
    (hm : a.eval m = .map (some b)) (h : MapS w b O) (hn : O.length < maxLen) (y : Nat) (hx : a.eval x = .int .i64 y) (hy : (Lit.int .i64 (y : Int)).wf = true) (hv : a.eval v = .bool true) (hno : y ∉ O)
    (hK : ∀ w', MapS w' b (O ++ [y]) → Keep (fun k => k = b) w w' → wpList Try.prog ops Q rest (a.put o.dst undef) w') :
    wpList Try.prog ops Q (o :: rest) a w := by
  obtain ⟨D, h, h2, h3⟩ := h
  have ht := h.tidy (Maps.int_keyed Try.underlying3)
  refine wpList_mapUpdate_own w hg m x v _ hop 3 4 (Maps.int_keyed Try.underlying3) Try.underlying73 (plainElem Try.prog 4) b O.length D hm h hn _ _ (.int .i64 y) hx hv (Maps.keyOf_int_mk Try.underlying3 hy) (.lit (.bool true)) [] (plainElem_bool Try.underlying4 true) ?_
  intro w' ho hgr
  have hhas : Maps.has D (.int .i64 (y : Int)) = false := by
    rw [(h2 y hy).1, hasN_nat]
    simpa using hno
  have hsz : Maps.size (D.put (.int .i64 (y : Int)) (.lit (.bool true))) = (O ++ [y]).length := by
    rw [Maps.size_put ht, hhas, h3]; simp
  refine hK w' ⟨_, owns_tight ho hsz, fun z hz => ?_, hsz⟩ ⟨hgr.os, hgr.tape, hgr.output, hgr.size, fun i hi hne => hgr.block i hi (fun e => hne (Option.some.inj e))⟩
  rw [hasN_app]
  by_cases e : z = (y : Int)
  · subst e
    rw [Maps.has_put_same ht.isMap (k := .int .i64 (y : Int)) trivial, Maps.atKey_put_same (k := .int .i64 (y : Int)) ht.isMap trivial]
    simp
  · have hne : (Lit.int .i64 z) ≠ .int .i64 (y : Int) := fun e2 => e (by injection e2)
    rw [Maps.has_put_other hne, Maps.atKey_put_other hne, (h2 z hz).1, (h2 z hz).2]
    have : (((y : Nat) : Int) == z) = false := beq_eq_false_iff_ne.2 (fun e2 => e e2.symm)
    simp [this]
theorem wpList_delS {w : World} {ops : Array Oper} {rest : List Oper} {o : Oper} {a : Act} {Q : Exit → Act → World → Prop} {b : Nat} {O : List Nat} (hg : o.guard = none) (m x : Operand) (hop : o.op = Op.call { callee := Callee.builtin Builtin.delete, args := #[m, x], argTypes := #[73, 3] })
    (y : Nat) (hm : a.eval m = .map (some b)) (h : MapS w b (y :: O)) (hx : a.eval x = .int .i64 y) (hy : (Lit.int .i64 (y : Int)).wf = true) (hno : y ∉ O)
    (hK : ∀ w', MapS w' b O → Keep (fun k => k = b) w w' → wpList Try.prog ops Q rest (a.put o.dst (.tuple #[])) w') :
    wpList Try.prog ops Q (o :: rest) a w := by
  obtain ⟨D, h, h2, h3⟩ := h
  have ht := h.tidy (Maps.int_keyed Try.underlying3)
  refine wpList_delete_own w hg m x _ _ hop 4 (Maps.int_keyed Try.underlying3) Try.underlying73 (plainElem Try.prog 4) b _ D hm h _ (.int .i64 y) hx (Maps.keyOf_int_mk Try.underlying3 hy) ?_
  intro w' ho hturn
  have hgr := hturn.grown
  have hhas : Maps.has D (.int .i64 (y : Int)) = true := by
    rw [(h2 y hy).1, hasN_nat]
    simp
  have hsz : Maps.size (D.del (.int .i64 (y : Int))) = O.length := by
    have := Maps.size_del (k := .int .i64 (y : Int)) ht
    rw [hhas, h3] at this
    simp at this
    exact this
  refine hK w' ⟨_, owns_tight ho hsz, fun z hz => ?_, hsz⟩ ⟨hgr.os, hgr.tape, hgr.output, hgr.size, fun i hi hne => hgr.block i hi (fun e => hne (Option.some.inj e))⟩
  have hz2 := h2 z hz
  rw [hasN_cons] at hz2
  by_cases e : z = (y : Int)
  · subst e
    rw [Maps.has_del_same, Maps.atKey_del_same, hasN_nat]
    have : O.contains y = false := by simpa using hno
    rw [this]
    exact ⟨rfl, rfl⟩
  · have hne : (Lit.int .i64 z) ≠ .int .i64 (y : Int) := fun e2 => e (by injection e2)
    rw [Maps.has_del_other hne, Maps.atKey_del_other hne, hz2.1, hz2.2]
    have : (((y : Nat) : Int) == z) = false := beq_eq_false_iff_ne.2 (fun e2 => e e2.symm)
    simp [this]
/-- A slice of ints, pushed behind and popped ahead, in a block of the walk's own (or none). -/
def Que (w : World) (base : Nat) (v : Value) (O : List Nat) : Prop :=
  (v = .slice none 0 0 ∧ O = []) ∨ ∃ b off cap cur, v = .slice (some ⟨b, off, none⟩) O.length cap ∧ base ≤ b ∧ O.length ≤ cap ∧ cap ≤ maxLen ∧ w.heap[b]? = some (.cells cur 3 (0, 0)) ∧ off + cap ≤ cur.size ∧ ∀ j x : Nat, O[j]? = some x → cur[off + j]? = some (.int .i64 x)
theorem Que.keep {S : Nat → Prop} {w w1 : World} {base : Nat} {v : Value} {O : List Nat} (h : Que w base v O) (k : Keep S w w1) (hS : ∀ i, S i → i < base) : Que w1 base v O := by
  rcases h with h | ⟨b, off, cap, cur, hv, hb, hle, hm, hg, hs, hc⟩
  · exact .inl h
  · exact .inr ⟨b, off, cap, cur, hv, hb, hle, hm, (k.block b (Array.getElem?_eq_some_iff.1 hg).1 (fun e => by have := hS b e; omega)).trans hg, hs, hc⟩
theorem Que.below {w w1 : World} {base : Nat} {v : Value} {O : List Nat} (h : Que w base v O) (k : Below w.heap.size w w1) : Que w1 base v O := h.keep (Keep.of_below k (fun _ => False)) (fun _ h => h.elim)
theorem Que.shape {w : World} {base : Nat} {v : Value} {O : List Nat} (h : Que w base v O) : ∃ A cap, v = .slice A O.length cap ∧ O.length ≤ cap ∧ cap ≤ maxLen := by
  rcases h with ⟨rfl, rfl⟩ | ⟨b, off, cap, cur, hv, hb, hle, hm, _⟩
  · exact ⟨_, _, rfl, Nat.le_refl _, Nat.zero_le _⟩
  · exact ⟨_, _, hv, hle, hm⟩
theorem Que.head {w : World} {base n cap o : Nat} {A : Option Addr} {O : List Nat} (h : Que w base (.slice A n cap) (o :: O)) : ∃ b off, A = some ⟨b, off, none⟩ ∧ w.cell? ⟨b, off, none⟩ = some (.int .i64 o) ∧ b < w.heap.size ∧ base ≤ b := by
  rcases h with ⟨_, h⟩ | ⟨b, off, cap', cur, hv, hb, hle, hm, hg, hs, hc⟩
  · cases h
  · injection hv with hA hn hcap
    refine ⟨b, off, hA, ?_, (Array.getElem?_eq_some_iff.1 hg).1, hb⟩
    rw [cell_of_row w b off cur _ _ hg]
    have := hc 0 o rfl
    rwa [Nat.add_zero] at this
theorem Que.pop {w : World} {base n cap o b off : Nat} {O : List Nat} (h : Que w base (.slice (some ⟨b, off, none⟩) n cap) (o :: O)) : Que w base (.slice (some ⟨b, off + 1, none⟩) O.length (cap - 1)) O ∧ (cap = 1 → Que w base (.slice (some ⟨b, off, none⟩) O.length (cap - 1)) O) := by
  rcases h with ⟨_, h⟩ | ⟨b', off', cap', cur, hv, hb, hle, hm, hg, hs, hc⟩
  · cases h
  · injection hv with hA hn hcap
    injection hA with hA
    injection hA with e1 e2 _
    subst e1
    subst e2
    subst hcap
    simp only [List.length_cons] at hle
    refine ⟨.inr ⟨b, off + 1, cap - 1, cur, rfl, hb, by omega, by omega, hg, by omega, fun j x hx => ?_⟩, fun h1 => .inr ⟨b, off, cap - 1, cur, rfl, hb, by omega, by omega, hg, by omega, fun j x hx => ?_⟩⟩
    · have := hc (j + 1) x (by simpa using hx)
      rw [show off + 1 + j = off + (j + 1) by omega]
      exact this
    · have : O = [] := List.eq_nil_of_length_eq_zero (by omega)
      rw [this] at hx
      cases hx
end Go.Proofs.Ytgdghinconghgaa
