/- A map of edges to bools, as the set of those that it holds true. No condition. -/
import Derived.Test.YtjenchijenkndaaMapB
import Derived.Test.YtjenchijenkndaaRecEg
import Derived.DeepKeys4
set_option linter.unusedVariables false
set_option linter.unusedSimpArgs false
namespace Go.Proofs.Ytjenchijenkndaa
open Go.RowKit (wrap32 wrap64)
open Go.RowKit
theorem laidOutE : laidOutB Try.prog = true := by kernel_rfl
theorem egKeyed : Maps.Keyed Try.prog 40 := Maps.Keyed.of_law (deep_law_laid laidOutE (m := 3) (by omega) (by decide) (by kernel_rfl) (by kernel_rfl))
abbrev egA (p : Eg) : Array Value := #[.int .i64 p.src, .int .i64 p.dst]
def kyE (p : Eg) : Lit := .string (keyBytes [.int .i64 p.src, .int .i64 p.dst])
theorem kle_int (d : Nat) (n : Int) (h : (Lit.int .i64 n).wf = true) : Try.prog.keyLits (d + 1) 3 [.int .i64 n] = some [.int .i64 n] := by
  unfold Program.keyLits
  rw [Try.underlying3]
  simp [h]
theorem kle_eg (d : Nat) (p : Eg) (h : okEg p) : Try.prog.keyLits (d + 3) 40 (egA p).toList = some [.int .i64 p.src, .int .i64 p.dst] := by
  obtain ⟨h0, h1⟩ := h
  have c0 : Try.prog.cellsOf 40 = 2 := by kernel_rfl
  have c2 : Try.prog.cellsOf 3 = 1 := by kernel_rfl
  unfold Program.keyLits
  rw [Try.underlying40]
  simp only [c0, c2, egA, List.length_cons, List.length_nil, List.mapM_cons, List.mapM_nil, List.drop_zero, List.drop_succ_cons, List.take_succ_cons, List.take_zero]
  rw [kle_int (d + 1) p.src h0, kle_int (d + 1) p.dst h1]
  rw [if_pos ⟨trivial, by kernel_rfl⟩]
  rfl
theorem keyOf_eg (p : Eg) (h : okEg p) : keyOf Try.prog 40 (.agg (egA p)) = some (kyE p) := by
  have ef : (Value.agg (egA p)).formed Try.prog 40 = true := by kernel_rfl
  have ek : Try.prog.keyType 40 = true := by kernel_rfl
  have es : Try.prog.types.size + 1 = (Try.prog.types.size - 2) + 3 := by kernel_rfl
  unfold keyOf
  rw [Try.underlying40]
  simp only [ef, ek, Bool.and_self, if_true]
  rw [es, show (Value.agg (egA p)).cells = egA p from rfl, kle_eg _ p h]
  rfl
theorem egA_inj {p q : Eg} (h : egA p = egA q) : p = q := by
  obtain ⟨a, b⟩ := p
  obtain ⟨a', b'⟩ := q
  simp [egA] at h
  obtain ⟨rfl, rfl⟩ := h
  rfl
theorem kyE_inj {p q : Eg} (hp : okEg p) (hq : okEg q) (h : kyE p = kyE q) : p = q := by
  have h1 := keyOf_eg p hp
  rw [h] at h1
  have := egKeyed.inj h1 (keyOf_eg q hq)
  injection this with this
  exact egA_inj this
def MapE (w : World) (b n : Nat) (p : Eg → Bool) : Prop :=
  ∃ D : DataW Unit, w.ownsMap Try.prog 40 (plainElem Try.prog 4) b n D ∧ Maps.IsMap D ∧ ∀ x, okEg x → D.atKey (kyE x) (.lit (.bool false)) = .lit (.bool (p x))
theorem MapE.made (w : World) : MapE (w.alloc (.map #[] 0)) w.heap.size 0 (fun _ => false) :=
  ⟨_, World.ownsMap_made w _ _ _, Maps.isMap_empty, fun x _ => rfl⟩
theorem MapE.keep {S : Nat → Prop} {w w1 : World} {b n : Nat} {p : Eg → Bool} (h : MapE w b n p) (k : Keep S w w1) (hb : ¬ S b) : MapE w1 b n p := by
  obtain ⟨D, h, h2⟩ := h
  have hlt := h.lt
  obtain ⟨es, clock, hg, F, hs, hD⟩ := h
  exact ⟨D, ⟨es, clock, (k.block b hlt hb).trans hg, F, hs, hD⟩, h2⟩
theorem MapE.below {w w1 : World} {b n : Nat} {p : Eg → Bool} (h : MapE w b n p) (k : Below w.heap.size w w1) : MapE w1 b n p := h.keep (Keep.of_below k (fun _ => False)) (fun h => h)
theorem MapE.lt {w : World} {b n : Nat} {p : Eg → Bool} (h : MapE w b n p) : b < w.heap.size := by
  obtain ⟨D, h, _⟩ := h
  exact h.lt
theorem MapE.look {w : World} {b n : Nat} {p : Eg → Bool} (h : MapE w b n p) (x : Eg) (hx : okEg x) : (Instr.lookup 49 (.map (some b)) (.agg (egA x)) false).run Try.prog w = .ok (.bool (p x)) w := by
  obtain ⟨D, h, _, h2⟩ := h
  obtain ⟨v, ps, hrun, hv⟩ := h.lookup egKeyed Try.underlying49 (z := .bool false) (Try.zeroValue4 w) (plainElem_bool Try.underlying4 false) (keyOf_eg x hx)
  rw [h2 x hx] at hv
  rw [plainElem_bool_inv Try.underlying4 hv] at hrun
  exact hrun
theorem wpList_putE {w : World} {ops : Array Oper} {rest : List Oper} {o : Oper} {a : Act} {Q : Exit → Act → World → Prop} {b n : Nat} {p : Eg → Bool} (hg : o.guard = none) (m x v : Operand) (hop : o.op = Op.mapUpdate 49 m x v)
    (hm : a.eval m = .map (some b)) (h : MapE w b n p) (hn : n < maxLen) (y : Eg) (hx : a.eval x = .agg (egA y)) (hy : okEg y) (hv : a.eval v = .bool true)
    (hK : ∀ w', MapE w' b (n + 1) (fun z => decide (z = y) || p z) → Keep (fun k => k = b) w w' → wpList Try.prog ops Q rest (a.put o.dst undef) w') :
    wpList Try.prog ops Q (o :: rest) a w := by
  obtain ⟨D, h, hm2, h2⟩ := h
  refine wpList_mapUpdate_own w hg m x v _ hop 40 4 egKeyed Try.underlying49 (plainElem Try.prog 4) b n D hm h hn _ _ (kyE y) hx hv (keyOf_eg y hy) (.lit (.bool true)) [] (plainElem_bool Try.underlying4 true) ?_
  intro w' ho hgr
  refine hK w' ⟨_, ho, ?_, fun z hz => ?_⟩ ⟨hgr.os, hgr.tape, hgr.output, hgr.size, fun i hi hne => hgr.block i hi (fun e => hne (Option.some.inj e))⟩
  · exact hm2.put _ _
  · by_cases e : z = y
    · subst e
      rw [Maps.atKey_put_same (k := kyE z) hm2 (show WideAt.IsKeyLit (kyE z) from trivial)]
      simp
    · rw [Maps.atKey_put_other (fun e2 => e (kyE_inj hz hy e2)), h2 z hz]
      simp [e]
end Go.Proofs.Ytjenchijenkndaa
