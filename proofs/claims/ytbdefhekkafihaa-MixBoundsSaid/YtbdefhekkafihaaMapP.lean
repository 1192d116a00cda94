/- A map of nodes to bools, as the set of those that it holds true. No condition. -/
import Derived.Test.YtbdefhekkafihaaMapB
import Derived.Test.YtbdefhekkafihaaPthL
import Derived.DeepKeys4
set_option linter.unusedVariables false
set_option linter.unusedSimpArgs false
namespace Go.Proofs.Ytbdefhekkafihaa
open Go.RowKit (wrap32 wrap64)
open Go.RowKit
theorem laidOutP : laidOutB Try.prog = true := by kernel_rfl
theorem ptKeyed : Maps.Keyed Try.prog 50 := Maps.Keyed.of_law (deep_law_laid laidOutP (m := 3) (by omega) (by decide) (by kernel_rfl) (by kernel_rfl))
def kyP (p : Pt) : Lit := .string (keyBytes [.int .i64 p.n0, .int .i64 p.n1, .int .i64 p.n2, .int .i64 p.n3, .int .i64 p.dep])
theorem kl_int (d : Nat) (n : Int) (h : (Lit.int .i64 n).wf = true) : Try.prog.keyLits (d + 1) 3 [.int .i64 n] = some [.int .i64 n] := by
  unfold Program.keyLits
  rw [Try.underlying3]
  simp [h]
theorem kl_arr (d : Nat) (a b c e : Int) (h0 : (Lit.int .i64 a).wf = true) (h1 : (Lit.int .i64 b).wf = true) (h2 : (Lit.int .i64 c).wf = true) (h3 : (Lit.int .i64 e).wf = true) : Try.prog.keyLits (d + 2) 48 [.int .i64 a, .int .i64 b, .int .i64 c, .int .i64 e] = some [.int .i64 a, .int .i64 b, .int .i64 c, .int .i64 e] := by
  have c1 : Try.prog.cellsOf 48 = 4 := by kernel_rfl
  have c2 : Try.prog.cellsOf 3 = 1 := by kernel_rfl
  have r4 : List.range 4 = [0, 1, 2, 3] := by decide
  unfold Program.keyLits
  rw [Try.underlying48]
  simp only [c1, c2, r4, List.length_cons, List.length_nil, List.mapM_cons, List.mapM_nil, Nat.mul_one, List.drop_zero, List.drop_succ_cons, List.take_succ_cons, List.take_zero]
  rw [kl_int d a h0, kl_int d b h1, kl_int d c h2, kl_int d e h3]
  rfl
theorem kl_pt (d : Nat) (p : Pt) (h : okPt p) : Try.prog.keyLits (d + 3) 50 (ptA p).toList = some [.int .i64 p.n0, .int .i64 p.n1, .int .i64 p.n2, .int .i64 p.n3, .int .i64 p.dep] := by
  obtain ⟨h0, h1, h2, h3, h4⟩ := h
  have c0 : Try.prog.cellsOf 50 = 5 := by kernel_rfl
  have c1 : Try.prog.cellsOf 48 = 4 := by kernel_rfl
  have c2 : Try.prog.cellsOf 3 = 1 := by kernel_rfl
  unfold Program.keyLits
  rw [Try.underlying50]
  simp only [c0, c1, c2, ptA, List.length_cons, List.length_nil, List.mapM_cons, List.mapM_nil, List.drop_zero, List.drop_succ_cons, List.take_succ_cons, List.take_zero]
  rw [kl_arr d p.n0 p.n1 p.n2 p.n3 h0 h1 h2 h3, kl_int (d + 1) p.dep h4]
  rw [if_pos ⟨trivial, by kernel_rfl⟩]
  rfl
theorem keyOf_pt (p : Pt) (h : okPt p) : keyOf Try.prog 50 (.agg (ptA p)) = some (kyP p) := by
  have ef : (Value.agg (ptA p)).formed Try.prog 50 = true := by kernel_rfl
  have ek : Try.prog.keyType 50 = true := by kernel_rfl
  have es : Try.prog.types.size + 1 = (Try.prog.types.size - 2) + 3 := by kernel_rfl
  unfold keyOf
  rw [Try.underlying50]
  simp only [ef, ek, Bool.and_self, if_true]
  rw [es, show (Value.agg (ptA p)).cells = ptA p from rfl, kl_pt _ p h]
  rfl
theorem ptA_inj {p q : Pt} (h : ptA p = ptA q) : p = q := by
  obtain ⟨a, b, c, d, e⟩ := p
  obtain ⟨a', b', c', d', e'⟩ := q
  simp [ptA] at h
  obtain ⟨rfl, rfl, rfl, rfl, rfl⟩ := h
  rfl
theorem ky_inj {p q : Pt} (hp : okPt p) (hq : okPt q) (h : kyP p = kyP q) : p = q := by
  have h1 := keyOf_pt p hp
  rw [h] at h1
  have := ptKeyed.inj h1 (keyOf_pt q hq)
  injection this with this
  exact ptA_inj this
def MapP (w : World) (b n : Nat) (p : Pt → Bool) : Prop :=
  ∃ D : DataW Unit, w.ownsMap Try.prog 50 (plainElem Try.prog 4) b n D ∧ Maps.IsMap D ∧ ∀ x, okPt x → D.atKey (kyP x) (.lit (.bool false)) = .lit (.bool (p x))
theorem MapP.made (w : World) : MapP (w.alloc (.map #[] 0)) w.heap.size 0 (fun _ => false) :=
  ⟨_, World.ownsMap_made w _ _ _, Maps.isMap_empty, fun x _ => rfl⟩
theorem MapP.keep {S : Nat → Prop} {w w1 : World} {b n : Nat} {p : Pt → Bool} (h : MapP w b n p) (k : Keep S w w1) (hb : ¬ S b) : MapP w1 b n p := by
  obtain ⟨D, h, h2⟩ := h
  have hlt := h.lt
  obtain ⟨es, clock, hg, F, hs, hD⟩ := h
  exact ⟨D, ⟨es, clock, (k.block b hlt hb).trans hg, F, hs, hD⟩, h2⟩
theorem MapP.below {w w1 : World} {b n : Nat} {p : Pt → Bool} (h : MapP w b n p) (k : Below w.heap.size w w1) : MapP w1 b n p := h.keep (Keep.of_below k (fun _ => False)) (fun h => h)
theorem MapP.lt {w : World} {b n : Nat} {p : Pt → Bool} (h : MapP w b n p) : b < w.heap.size := by
  obtain ⟨D, h, _⟩ := h
  exact h.lt
theorem MapP.look {w : World} {b n : Nat} {p : Pt → Bool} (h : MapP w b n p) (x : Pt) (hx : okPt x) : (Instr.lookup 71 (.map (some b)) (.agg (ptA x)) false).run Try.prog w = .ok (.bool (p x)) w := by
  obtain ⟨D, h, _, h2⟩ := h
  obtain ⟨v, ps, hrun, hv⟩ := h.lookup ptKeyed Try.underlying71 (z := .bool false) (Try.zeroValue4 w) (plainElem_bool Try.underlying4 false) (keyOf_pt x hx)
  rw [h2 x hx] at hv
  rw [plainElem_bool_inv Try.underlying4 hv] at hrun
  exact hrun
theorem wpList_putP {w : World} {ops : Array Oper} {rest : List Oper} {o : Oper} {a : Act} {Q : Exit → Act → World → Prop} {b n : Nat} {p : Pt → Bool} (hg : o.guard = none) (m x v : Operand) (hop : o.op = Op.mapUpdate 71 m x v)
    (hm : a.eval m = .map (some b)) (h : MapP w b n p) (hn : n < maxLen) (y : Pt) (hx : a.eval x = .agg (ptA y)) (hy : okPt y) (hv : a.eval v = .bool true)
    (hK : ∀ w', MapP w' b (n + 1) (fun z => decide (z = y) || p z) → Keep (fun k => k = b) w w' → wpList Try.prog ops Q rest (a.put o.dst undef) w') :
    wpList Try.prog ops Q (o :: rest) a w := by
  obtain ⟨D, h, hm2, h2⟩ := h
  refine wpList_mapUpdate_own w hg m x v _ hop 50 4 ptKeyed Try.underlying71 (plainElem Try.prog 4) b n D hm h hn _ _ (kyP y) hx hv (keyOf_pt y hy) (.lit (.bool true)) [] (plainElem_bool Try.underlying4 true) ?_
  intro w' ho hgr
  refine hK w' ⟨_, ho, ?_, fun z hz => ?_⟩ ⟨hgr.os, hgr.tape, hgr.output, hgr.size, fun i hi hne => hgr.block i hi (fun e => hne (Option.some.inj e))⟩
  · exact hm2.put _ _
  · by_cases e : z = y
    · subst e
      rw [Maps.atKey_put_same (k := kyP z) hm2 (show WideAt.IsKeyLit (kyP z) from trivial)]
      simp
    · rw [Maps.atKey_put_other (fun e2 => e (ky_inj hz hy e2)), h2 z hz]
      simp [e]
end Go.Proofs.Ytbdefhekkafihaa
