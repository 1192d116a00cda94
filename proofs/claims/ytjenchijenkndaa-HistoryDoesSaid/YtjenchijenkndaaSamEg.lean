/- Records of type api.Edge: when two are alike, and when two rows of them are. No condition. -/
import Derived.Test.YtjenchijenkndaaRecEg
import Derived.Laws.StructEq
import Derived.ChangeKeysEq
import Derived.Deep.QuietTactic
import Derived.BigQuiet
set_option linter.unusedVariables false
set_option linter.unusedSimpArgs false
namespace Go.Proofs.Ytjenchijenkndaa
open Go.RowKit (wrap32 wrap64)
open Go.RowKit
theorem eqiEg (x y : Eg) (w : World) : (Op.equalIn 10000 40 (.agg #[.int .i64 x.src, .int .i64 x.dst]) (.agg #[.int .i64 y.src, .int .i64 y.dst])).run Try.prog w = .ok (decide (x = y)) w := by
  have u3 := Try.underlying3
  have a3 := Try.isAgg3
  have z3 := Try.sizeOf3
  have hS : Try.prog.underlying 40 = some (.struct (Try.prog.fieldsOf 40)) := by kernel_rfl
  have hp : Try.prog.stoodInHeld 40 = false := by kernel_rfl
  rw [show (10000 : Nat) = 9999 + 1 from rfl, run_equalIn_agg w 9999 40 _ _ hS hp]
  simp only [Program.fieldsOf, Try.underlying40]
  go_simp
  obtain ⟨x0, x1⟩ := x
  obtain ⟨y0, y1⟩ := y
  by_cases h0 : x0 = y0 <;> by_cases h1 : x1 = y1 <;> simp [h0, h1]
theorem eqlEg (x y : Eg) (w : World) : (binOp .eql 40 (.agg #[.int .i64 x.src, .int .i64 x.dst]) (.agg #[.int .i64 y.src, .int .i64 y.dst])).run Try.prog w = .ok (.bool (decide (x = y))) w := by rw [run_eql_struct, eqiEg]; rfl
theorem neqEg (x y : Eg) (w : World) : (binOp .neq 40 (.agg #[.int .i64 x.src, .int .i64 x.dst]) (.agg #[.int .i64 y.src, .int .i64 y.dst])).run Try.prog w = .ok (.bool (!decide (x = y))) w := by rw [run_neq_struct, eqiEg]; rfl
theorem gdEg (op : BinOp) (a b : Operand) (x y : Array Value) (w : World) : (eqGuard op 40 a b (.agg x) (.agg y)).run Try.prog w = .ok () w := run_eqGuard_agg w op 40 a b _ _ (by kernel_rfl)
set_option maxHeartbeats 1000000 in
theorem sameEg_any (a b : Option Addr) (n m cn cm : Nat) (xs ys : List Eg) (w : World) (ha : Egs w a n xs) (hb : Egs w b m ys) : Calls Try.prog 17 #[.slice a n cn, .slice b m cm] w fun e w' => e = .returned (.bool (decide (xs = ys))) ∧ Below w.heap.size w w' := by
  have hx := ha.len
  have hy := hb.len
  have hmx : n ≤ 9223372036854775807 := by have := ha.max; unfold maxLen at this; exact this
  by_cases hnm : n = m
  · subst hnm
    have HXL := Lib.hid hx
    have HYL := Lib.hid hy
    clear hx hy
    go_enter Try.func17, Try.ntmps17
    go_wp2
    go_loopw [13] (fun c wr => ∃ k : Nat, k ≤ n ∧ c = .int .i64 k ∧ Hid (xs.take k = ys.take k) ∧ Below w.heap.size w wr) (fun c _ => n - (intOf c).toNat)
    case atStart => exact ⟨0, by omega, rfl, Lib.hid rfl, Below.refl _ _⟩
    case round =>
      obtain ⟨k, hk, rfl, HEQ, HB⟩ := hrel
      by_cases hlt : k < n
      · obtain ⟨ba, oa, x, rfl, _, hx, _, d0, d1⟩ := Eg_at (ha.below HB) hlt
        obtain ⟨bb, ob, y, rfl, _, hy, _, e0, e1⟩ := Eg_at (hb.below HB) hlt
        have hq := neqEg x y
        have hg := gdEg
        by_cases he : x = y
        · subst he
          rw [decide_eq_true rfl] at hq
          have HE : Hid (xs.take (k + 1) = ys.take (k + 1)) := Lib.hid (by rw [take_snocG xs k x hx, take_snocG ys k x hy, HEQ.out])
          clear ha hb hx hy
          go_wp2
          go_quiet (fail)
          go_wp2
          go_roundw
          case rel => exact ⟨k + 1, by omega, by go_num, HE, by first | exact HB | exact ⟨HB.os, HB.tape, HB.output, HB.size, HB.block⟩⟩
          case measure => simp [intOf]; omega
        · rw [decide_eq_false he] at hq
          have hf : decide (xs = ys) = false := decide_eq_false (fun e => he (by rw [e] at hx; rw [hx] at hy; exact Option.some.inj hy))
          have HF := Lib.hid hf
          clear ha hb hx hy he hf
          go_wp2
          go_quiet (fail)
          go_wp2
          go_ret
          exact ⟨by rw [HF.out]; rfl, by first | exact HB | exact ⟨HB.os, HB.tape, HB.output, HB.size, HB.block⟩⟩
      · obtain rfl : k = n := by omega
        have hf : decide (xs = ys) = true := decide_eq_true (by have := HEQ.out; rw [List.take_of_length_le (by rw [HXL.out]; exact Nat.le_refl _), List.take_of_length_le (by rw [HYL.out]; exact Nat.le_refl _)] at this; exact this)
        have HF := Lib.hid hf
        clear hf ha hb
        go_wp2
        go_ret
        exact ⟨by rw [HF.out]; rfl, HB⟩
  · have hf : decide (xs = ys) = false := decide_eq_false (fun e => hnm (by rw [← hx, ← hy, e]))
    rw [hf]
    have hne : ((n : Int) != m) = true := by rw [bne_iff_ne]; omega
    clear hf ha hb hx hy
    go_enter Try.func17, Try.ntmps17
    go_wp2
    go_ret
    exact ⟨rfl, Below.refl _ _⟩
end Go.Proofs.Ytjenchijenkndaa
