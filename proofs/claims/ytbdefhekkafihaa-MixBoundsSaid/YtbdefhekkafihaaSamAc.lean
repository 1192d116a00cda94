/- Records of type api.Op: when two are alike, and when two rows of them are. No condition. -/
import Derived.Test.YtbdefhekkafihaaRecAc
import Derived.Laws.StructEq
import Derived.ChangeKeysEq
import Derived.Deep.QuietTactic
import Derived.BigQuiet
set_option linter.unusedVariables false
set_option linter.unusedSimpArgs false
namespace Go.Proofs.Ytbdefhekkafihaa
open Go.RowKit (wrap32 wrap64)
open Go.RowKit
theorem eqN4Ac (d : Nat) (x0 x1 x2 x3 y0 y1 y2 y3 : Int) (w : World) : (Op.equalIn (d + 2) 48 (.agg #[.int .i64 x0, .int .i64 x1, .int .i64 x2, .int .i64 x3]) (.agg #[.int .i64 y0, .int .i64 y1, .int .i64 y2, .int .i64 y3])).run Try.prog w = .ok (decide (x0 = y0 ∧ x1 = y1 ∧ x2 = y2 ∧ x3 = y3)) w := by
  obtain ⟨i, hi⟩ : ∃ i, Try.prog.info? 3 = some i := Option.isSome_iff_exists.1 (by kernel_rfl : (Try.prog.info? 3).isSome = true)
  have hc : Try.prog.cellsOf 3 = 1 := by kernel_rfl
  have a3 := Try.isAgg3
  have z3 := Try.sizeOf3
  have u3 := Try.underlying3
  rw [run_equalIn_array w (d + 1) _ _ Try.underlying48 hi, hc, show List.range 4 = [0, 1, 2, 3] from rfl]
  simp only [Op.eqItems]
  go_simp
  by_cases h0 : x0 = y0 <;> by_cases h1 : x1 = y1 <;> by_cases h2 : x2 = y2 <;> by_cases h3 : x3 = y3 <;> simp [h0, h1, h2, h3, go_sem]
theorem eqiAc (x y : Ac) (w : World) : (Op.equalIn 10000 52 (.agg #[.int .i64 x.kind, .int .i64 x.n0, .int .i64 x.n1, .int .i64 x.n2, .int .i64 x.n3, .int .i64 x.dep, .int .i64 x.val]) (.agg #[.int .i64 y.kind, .int .i64 y.n0, .int .i64 y.n1, .int .i64 y.n2, .int .i64 y.n3, .int .i64 y.dep, .int .i64 y.val])).run Try.prog w = .ok (decide (x = y)) w := by
  have u3 := Try.underlying3
  have a3 := Try.isAgg3
  have z3 := Try.sizeOf3
  have hS : Try.prog.underlying 52 = some (.struct (Try.prog.fieldsOf 52)) := by kernel_rfl
  have hp : Try.prog.stoodInHeld 52 = false := by kernel_rfl
  rw [show (10000 : Nat) = 9999 + 1 from rfl, run_equalIn_agg w 9999 52 _ _ hS hp]
  simp only [Program.fieldsOf, Try.underlying52]
  go_simp
  rw [show (9998 : Nat) = 9996 + 2 from rfl, eqN4Ac]
  obtain ⟨x0, x1, x2, x3, x4, x5, x6⟩ := x
  obtain ⟨y0, y1, y2, y3, y4, y5, y6⟩ := y
  by_cases h : x1 = y1 ∧ x2 = y2 ∧ x3 = y3 ∧ x4 = y4
  · obtain ⟨rfl, rfl, rfl, rfl⟩ := h
    by_cases h0 : x0 = y0 <;> by_cases h5 : x5 = y5 <;> by_cases h6 : x6 = y6 <;> simp [h0, h5, h6, Result.andThen]
  · have hn : ¬ (Ac.mk x0 x1 x2 x3 x4 x5 x6 = Ac.mk y0 y1 y2 y3 y4 y5 y6) := by
      intro e
      simp only [Ac.mk.injEq] at e
      exact h ⟨e.2.1, e.2.2.1, e.2.2.2.1, e.2.2.2.2.1⟩
    simp only [decide_eq_false h, Result.andThen, if_true]
    rw [decide_eq_false hn]
    by_cases h0 : x0 = y0 <;> simp [h0]
theorem eqlAc (x y : Ac) (w : World) : (binOp .eql 52 (.agg #[.int .i64 x.kind, .int .i64 x.n0, .int .i64 x.n1, .int .i64 x.n2, .int .i64 x.n3, .int .i64 x.dep, .int .i64 x.val]) (.agg #[.int .i64 y.kind, .int .i64 y.n0, .int .i64 y.n1, .int .i64 y.n2, .int .i64 y.n3, .int .i64 y.dep, .int .i64 y.val])).run Try.prog w = .ok (.bool (decide (x = y))) w := by rw [run_eql_struct, eqiAc]; rfl
theorem neqAc (x y : Ac) (w : World) : (binOp .neq 52 (.agg #[.int .i64 x.kind, .int .i64 x.n0, .int .i64 x.n1, .int .i64 x.n2, .int .i64 x.n3, .int .i64 x.dep, .int .i64 x.val]) (.agg #[.int .i64 y.kind, .int .i64 y.n0, .int .i64 y.n1, .int .i64 y.n2, .int .i64 y.n3, .int .i64 y.dep, .int .i64 y.val])).run Try.prog w = .ok (.bool (!decide (x = y))) w := by rw [run_neq_struct, eqiAc]; rfl
theorem gdAc (op : BinOp) (a b : Operand) (x y : Array Value) (w : World) : (eqGuard op 52 a b (.agg x) (.agg y)).run Try.prog w = .ok () w := run_eqGuard_agg w op 52 a b _ _ (by kernel_rfl)
set_option maxHeartbeats 1000000 in
theorem sameAc_any (a b : Option Addr) (n m cn cm : Nat) (xs ys : List Ac) (w : World) (ha : Acs w a n xs) (hb : Acs w b m ys) : Calls Try.prog 11 #[.slice a n cn, .slice b m cm] w fun e w' => e = .returned (.bool (decide (xs = ys))) ∧ Below w.heap.size w w' := by
  have hx := ha.len
  have hy := hb.len
  have hmx : n ≤ 9223372036854775807 := by have := ha.max; unfold maxLen at this; exact this
  by_cases hnm : n = m
  · subst hnm
    have HXL := Lib.hid hx
    have HYL := Lib.hid hy
    clear hx hy
    go_enter Try.func11, Try.ntmps11
    go_wp2
    go_loopw [13] (fun c wr => ∃ k : Nat, k ≤ n ∧ c = .int .i64 k ∧ Hid (xs.take k = ys.take k) ∧ Below w.heap.size w wr) (fun c _ => n - (intOf c).toNat)
    case atStart => exact ⟨0, by omega, rfl, Lib.hid rfl, Below.refl _ _⟩
    case round =>
      obtain ⟨k, hk, rfl, HEQ, HB⟩ := hrel
      by_cases hlt : k < n
      · obtain ⟨ba, oa, x, rfl, _, hx, _, d0, d1, d2, d3, d4, d5, d6⟩ := Ac_at (ha.below HB) hlt
        obtain ⟨bb, ob, y, rfl, _, hy, _, e0, e1, e2, e3, e4, e5, e6⟩ := Ac_at (hb.below HB) hlt
        have hq := neqAc x y
        have hg := gdAc
        by_cases he : x = y
        · subst he
          rw [decide_eq_true rfl] at hq
          have HE : Hid (xs.take (k + 1) = ys.take (k + 1)) := Lib.hid (by rw [take_snocG xs k x hx, take_snocG ys k x hy, HEQ.out])
          clear ha hb hx hy
          go_wp2
          go_quiet (fail)
          go_wp2
          go_roundw
          case rel => exact ⟨k + 1, by omega, by go_num, HE, by first | exact HB | exact ⟨HB.os, HB.tape, HB.output, HB.size, HB.block⟩⟩
          case measure => simp [intOf]; omega
        · rw [decide_eq_false he] at hq
          have hf : decide (xs = ys) = false := decide_eq_false (fun e => he (by rw [e] at hx; rw [hx] at hy; exact Option.some.inj hy))
          have HF := Lib.hid hf
          clear ha hb hx hy he hf
          go_wp2
          go_quiet (fail)
          go_wp2
          go_ret
          exact ⟨by rw [HF.out]; rfl, by first | exact HB | exact ⟨HB.os, HB.tape, HB.output, HB.size, HB.block⟩⟩
      · obtain rfl : k = n := by omega
        have hf : decide (xs = ys) = true := decide_eq_true (by have := HEQ.out; rw [List.take_of_length_le (by rw [HXL.out]; exact Nat.le_refl _), List.take_of_length_le (by rw [HYL.out]; exact Nat.le_refl _)] at this; exact this)
        have HF := Lib.hid hf
        clear hf ha hb
        go_wp2
        go_ret
        exact ⟨by rw [HF.out]; rfl, HB⟩
  · have hf : decide (xs = ys) = false := decide_eq_false (fun e => hnm (by rw [← hx, ← hy, e]))
    rw [hf]
    have hne : ((n : Int) != m) = true := by rw [bne_iff_ne]; omega
    clear hf ha hb hx hy
    go_enter Try.func11, Try.ntmps11
    go_wp2
    go_ret
    exact ⟨rfl, Below.refl _ _⟩
end Go.Proofs.Ytbdefhekkafihaa
