/- SameInts, Same: whether two rows of ints are alike. No condition. -/
import Derived.Test.YtjenchijenkndaaSl
import Derived.Deep.QuietTactic
import Derived.BigQuiet
set_option linter.unusedVariables false
set_option linter.unusedSimpArgs false
namespace Go.Proofs.Ytjenchijenkndaa
open Go.RowKit (wrap32 wrap64)
open Go.RowKit
def sameB (xs ys : List Int) : Bool := decide (xs = ys)
set_option maxHeartbeats 400000 in
theorem sameInts_any (a b : Option Addr) (n m cn cm : Nat) (xs ys : List Int) (w : World) (ha : Ints w a n xs) (hb : Ints w b m ys) : Calls Try.prog 14 #[.slice a n cn, .slice b m cm] w fun e w' => e = .returned (.bool (sameB xs ys)) ∧ Below w.heap.size w w' := by
  have hx := ha.len
  have hy := hb.len
  by_cases hnm : n = m
  · subst hnm
    go_enter Try.func14, Try.ntmps14
    go_wp2
    go_loopw [13] (fun c wr => ∃ k : Nat, k ≤ n ∧ c = .int .i64 k ∧ (∀ i, i < k → xs.getD i 0 = ys.getD i 0) ∧ Below w.heap.size w wr) (fun c _ => n - (intOf c).toNat)
    case atStart => exact ⟨0, by omega, rfl, fun i h => absurd h (by omega), Below.refl _ _⟩
    case round =>
      obtain ⟨k, hk, rfl, heq, hb0⟩ := hrel
      have HEQ := Lib.hid heq
      clear heq
      have haw := ha.below hb0
      have hbw := hb.below hb0
      by_cases hlt : k < n
      · obtain ⟨ba, oa, rfl, hca⟩ := haw.get hlt
        obtain ⟨bb, ob, rfl, hcb⟩ := hbw.get hlt
        clear haw hbw
        have hn0 := ha.le
        by_cases he : xs.getD k 0 = ys.getD k 0
        · rw [he] at hca
          have HE := Lib.hid he
          clear he
          generalize ys.getD k 0 = y at hca hcb
          go_wp2
          go_quiet (fail)
          go_wp2
          go_roundw
          case rel => exact ⟨k + 1, by omega, by go_num, fun i hi => by
            by_cases h : i = k
            · rw [h]; exact HE.out
            · exact HEQ.out i (by omega), by first | exact hb0 | exact ⟨hb0.os, hb0.tape, hb0.output, hb0.size, hb0.block⟩⟩
          case measure => simp [intOf]; omega
        · have hf : sameB xs ys = false := by unfold sameB; simp; intro e; exact he (by rw [e])
          have HF := Lib.hid hf
          clear hf
          have hne : (xs.getD k 0 != ys.getD k 0) = true := by rw [bne_iff_ne]; exact he
          clear he
          generalize xs.getD k 0 = x at hca hne
          generalize ys.getD k 0 = y at hcb hne
          go_wp2
          go_quiet (fail)
          go_wp2
          go_ret
          exact ⟨by rw [HF.out]; rfl, by first | exact hb0 | exact ⟨hb0.os, hb0.tape, hb0.output, hb0.size, hb0.block⟩⟩
      · obtain rfl : k = n := by omega
        have hf : sameB xs ys = true := by
          unfold sameB; simp
          apply List.ext_getElem (by omega)
          intro i h1 h2
          have := HEQ.out i (by omega)
          simpa [List.getD_eq_getElem?_getD, h1, h2] using this
        have HF := Lib.hid hf
        clear hf
        go_wp2
        go_ret
        exact ⟨by rw [HF.out]; rfl, hb0⟩
  · have hf : sameB xs ys = false := by
      unfold sameB; simp; intro e; exact hnm (by rw [← hx, ← hy, e])
    rw [hf]
    have hne : ((n : Int) != m) = true := by rw [bne_iff_ne]; omega
    clear hf
    go_enter Try.func14, Try.ntmps14
    go_wp2
    go_ret
    exact ⟨rfl, Below.refl _ _⟩
end Go.Proofs.Ytjenchijenkndaa
