/- Records of type api.Path: when two are alike, and when two rows of them are. No condition. -/
import Derived.Test.YtjenchijenkndaaRecPt
import Derived.Laws.StructEq
import Derived.ChangeKeysEq
import Derived.Deep.QuietTactic
import Derived.BigQuiet
set_option linter.unusedVariables false
set_option linter.unusedSimpArgs false
namespace Go.Proofs.Ytjenchijenkndaa
open Go.RowKit (wrap32 wrap64)
open Go.RowKit
theorem eqN4Pt (d : Nat) (x0 x1 x2 x3 y0 y1 y2 y3 : Int) (w : World) : (Op.equalIn (d + 2) 25 (.agg #[.int .i64 x0, .int .i64 x1, .int .i64 x2, .int .i64 x3]) (.agg #[.int .i64 y0, .int .i64 y1, .int .i64 y2, .int .i64 y3])).run Try.prog w = .ok (decide (x0 = y0 ∧ x1 = y1 ∧ x2 = y2 ∧ x3 = y3)) w := by
  obtain ⟨i, hi⟩ : ∃ i, Try.prog.info? 3 = some i := Option.isSome_iff_exists.1 (by kernel_rfl : (Try.prog.info? 3).isSome = true)
  have hc : Try.prog.cellsOf 3 = 1 := by kernel_rfl
  have a3 := Try.isAgg3
  have z3 := Try.sizeOf3
  have u3 := Try.underlying3
  rw [run_equalIn_array w (d + 1) _ _ Try.underlying25 hi, hc, show List.range 4 = [0, 1, 2, 3] from rfl]
  simp only [Op.eqItems]
  go_simp
  by_cases h0 : x0 = y0 <;> by_cases h1 : x1 = y1 <;> by_cases h2 : x2 = y2 <;> by_cases h3 : x3 = y3 <;> simp [h0, h1, h2, h3, go_sem]
theorem eqiPt (x y : Pt) (w : World) : (Op.equalIn 10000 27 (.agg #[.int .i64 x.n0, .int .i64 x.n1, .int .i64 x.n2, .int .i64 x.n3, .int .i64 x.dep]) (.agg #[.int .i64 y.n0, .int .i64 y.n1, .int .i64 y.n2, .int .i64 y.n3, .int .i64 y.dep])).run Try.prog w = .ok (decide (x = y)) w := by
  have u3 := Try.underlying3
  have a3 := Try.isAgg3
  have z3 := Try.sizeOf3
  have hS : Try.prog.underlying 27 = some (.struct (Try.prog.fieldsOf 27)) := by kernel_rfl
  have hp : Try.prog.stoodInHeld 27 = false := by kernel_rfl
  rw [show (10000 : Nat) = 9999 + 1 from rfl, run_equalIn_agg w 9999 27 _ _ hS hp]
  simp only [Program.fieldsOf, Try.underlying27]
  go_simp
  rw [show (9999 : Nat) = 9997 + 2 from rfl, eqN4Pt]
  obtain ⟨x0, x1, x2, x3, x4⟩ := x
  obtain ⟨y0, y1, y2, y3, y4⟩ := y
  by_cases h : x0 = y0 ∧ x1 = y1 ∧ x2 = y2 ∧ x3 = y3
  · obtain ⟨rfl, rfl, rfl, rfl⟩ := h
    by_cases h4 : x4 = y4 <;> simp [h4, Result.andThen]
  · have hn : ¬ (Pt.mk x0 x1 x2 x3 x4 = Pt.mk y0 y1 y2 y3 y4) := by
      intro e
      simp only [Pt.mk.injEq] at e
      exact h ⟨e.1, e.2.1, e.2.2.1, e.2.2.2.1⟩
    simp only [decide_eq_false h, Result.andThen, if_true]
    rw [decide_eq_false hn]
theorem eqlPt (x y : Pt) (w : World) : (binOp .eql 27 (.agg #[.int .i64 x.n0, .int .i64 x.n1, .int .i64 x.n2, .int .i64 x.n3, .int .i64 x.dep]) (.agg #[.int .i64 y.n0, .int .i64 y.n1, .int .i64 y.n2, .int .i64 y.n3, .int .i64 y.dep])).run Try.prog w = .ok (.bool (decide (x = y))) w := by rw [run_eql_struct, eqiPt]; rfl
theorem neqPt (x y : Pt) (w : World) : (binOp .neq 27 (.agg #[.int .i64 x.n0, .int .i64 x.n1, .int .i64 x.n2, .int .i64 x.n3, .int .i64 x.dep]) (.agg #[.int .i64 y.n0, .int .i64 y.n1, .int .i64 y.n2, .int .i64 y.n3, .int .i64 y.dep])).run Try.prog w = .ok (.bool (!decide (x = y))) w := by rw [run_neq_struct, eqiPt]; rfl
theorem gdPt (op : BinOp) (a b : Operand) (x y : Array Value) (w : World) : (eqGuard op 27 a b (.agg x) (.agg y)).run Try.prog w = .ok () w := run_eqGuard_agg w op 27 a b _ _ (by kernel_rfl)
end Go.Proofs.Ytjenchijenkndaa
