/- Records of type api.Lock: when two are alike, and when two rows of them are. No condition. -/
import Derived.Test.YthkjkmjcnphjgaaRecLk
import Derived.Laws.StructEq
import Derived.ChangeKeysEq
import Derived.Deep.QuietTactic
import Derived.BigQuiet
set_option linter.unusedVariables false
set_option linter.unusedSimpArgs false
namespace Go.Proofs.Ythkjkmjcnphjgaa
open Go.RowKit (wrap32 wrap64)
open Go.RowKit
theorem eqN4Lk (d : Nat) (x0 x1 x2 x3 y0 y1 y2 y3 : Int) (w : World) : (Op.equalIn (d + 2) 49 (.agg #[.int .i64 x0, .int .i64 x1, .int .i64 x2, .int .i64 x3]) (.agg #[.int .i64 y0, .int .i64 y1, .int .i64 y2, .int .i64 y3])).run Try.prog w = .ok (decide (x0 = y0 ∧ x1 = y1 ∧ x2 = y2 ∧ x3 = y3)) w := by
  obtain ⟨i, hi⟩ : ∃ i, Try.prog.info? 3 = some i := Option.isSome_iff_exists.1 (by kernel_rfl : (Try.prog.info? 3).isSome = true)
  have hc : Try.prog.cellsOf 3 = 1 := by kernel_rfl
  have a3 := Try.isAgg3
  have z3 := Try.sizeOf3
  have u3 := Try.underlying3
  rw [run_equalIn_array w (d + 1) _ _ Try.underlying49 hi, hc, show List.range 4 = [0, 1, 2, 3] from rfl]
  simp only [Op.eqItems]
  go_simp
  by_cases h0 : x0 = y0 <;> by_cases h1 : x1 = y1 <;> by_cases h2 : x2 = y2 <;> by_cases h3 : x3 = y3 <;> simp [h0, h1, h2, h3, go_sem]
theorem eqiLk (x y : Lk) (w : World) : (Op.equalIn 10000 57 (.agg #[.int .i64 x.n0, .int .i64 x.n1, .int .i64 x.n2, .int .i64 x.n3, .int .i64 x.dep, .int .i64 x.mode]) (.agg #[.int .i64 y.n0, .int .i64 y.n1, .int .i64 y.n2, .int .i64 y.n3, .int .i64 y.dep, .int .i64 y.mode])).run Try.prog w = .ok (decide (x = y)) w := by
  have u3 := Try.underlying3
  have a3 := Try.isAgg3
  have z3 := Try.sizeOf3
  have hS : Try.prog.underlying 57 = some (.struct (Try.prog.fieldsOf 57)) := by kernel_rfl
  have hp : Try.prog.stoodInHeld 57 = false := by kernel_rfl
  rw [show (10000 : Nat) = 9999 + 1 from rfl, run_equalIn_agg w 9999 57 _ _ hS hp]
  simp only [Program.fieldsOf, Try.underlying57]
  go_simp
  rw [show (9998 : Nat) = 9996 + 2 from rfl, eqN4Lk]
  obtain ⟨x0, x1, x2, x3, x4, x5⟩ := x
  obtain ⟨y0, y1, y2, y3, y4, y5⟩ := y
  by_cases h : x0 = y0 ∧ x1 = y1 ∧ x2 = y2 ∧ x3 = y3
  · obtain ⟨rfl, rfl, rfl, rfl⟩ := h
    by_cases h4 : x4 = y4 <;> by_cases h5 : x5 = y5 <;> simp [h4, h5, Result.andThen]
  · have hn : ¬ (Lk.mk x0 x1 x2 x3 x4 x5 = Lk.mk y0 y1 y2 y3 y4 y5) := by
      intro e
      simp only [Lk.mk.injEq] at e
      exact h ⟨e.1, e.2.1, e.2.2.1, e.2.2.2.1⟩
    simp only [decide_eq_false h, Result.andThen, if_true]
    rw [decide_eq_false hn]
theorem eqlLk (x y : Lk) (w : World) : (binOp .eql 57 (.agg #[.int .i64 x.n0, .int .i64 x.n1, .int .i64 x.n2, .int .i64 x.n3, .int .i64 x.dep, .int .i64 x.mode]) (.agg #[.int .i64 y.n0, .int .i64 y.n1, .int .i64 y.n2, .int .i64 y.n3, .int .i64 y.dep, .int .i64 y.mode])).run Try.prog w = .ok (.bool (decide (x = y))) w := by rw [run_eql_struct, eqiLk]; rfl
theorem neqLk (x y : Lk) (w : World) : (binOp .neq 57 (.agg #[.int .i64 x.n0, .int .i64 x.n1, .int .i64 x.n2, .int .i64 x.n3, .int .i64 x.dep, .int .i64 x.mode]) (.agg #[.int .i64 y.n0, .int .i64 y.n1, .int .i64 y.n2, .int .i64 y.n3, .int .i64 y.dep, .int .i64 y.mode])).run Try.prog w = .ok (.bool (!decide (x = y))) w := by rw [run_neq_struct, eqiLk]; rfl
theorem gdLk (op : BinOp) (a b : Operand) (x y : Array Value) (w : World) : (eqGuard op 57 a b (.agg x) (.agg y)).run Try.prog w = .ok () w := run_eqGuard_agg w op 57 a b _ _ (by kernel_rfl)
end Go.Proofs.Ythkjkmjcnphjgaa
