/- The reference's book of transactions: Live. No condition. -/
import Derived.Test.YtgdghinconghgaaTxnV
set_option linter.unusedVariables false
set_option linter.unusedSimpArgs false
namespace Go.Proofs.Ytgdghinconghgaa
open Go.RowKit (wrap32 wrap64)
open Go.RowKit
set_option maxRecDepth 100000 in
set_option maxHeartbeats 2000000 in
theorem xlive_any (g c : Nat) (A : Option Addr) (L : List Tx) (w : World) (hb : XBook w g A c L) (hL : L.length ≤ 900) (hok : okL (txZero :: L)) :
    Calls Try.prog 63 #[.pointer (some ⟨g, 0, none⟩)] w (OwnRet w (liveTo (txZero :: L) (L.length + 1)).length (liveTo (txZero :: L) (L.length + 1))) := by
  obtain ⟨i0, hi, hz0, hz1, hz2⟩ := info_parts Try.infoI
  have hc := hb.cell
  have HOK := Lib.hid hok
  have HB0 := Lib.hid hb
  generalize hN : L.length = N at hc hL ⊢
  have HN := Lib.hid hN
  clear hN hok hb
  go_enter Try.func63, Try.ntmps63
  go_wp2
  go_loopw [3, 11] (fun o cc wr => ∃ k : Nat, k ≤ N ∧ cc = .int .i64 k ∧ wr.ownsRow w.heap.size 3 1 o (liveTo (txZero :: L) (k + 1)).length ((liveTo (txZero :: L) (k + 1)).map (Value.int .i64)) ∧ Below w.heap.size w wr) (fun _ cc _ => N - (intOf cc).toNat)
  case atStart => exact ⟨0, by omega, rfl, World.ownsRow_nil _ _ _ _, Below.refl _ _⟩
  case round =>
    obtain ⟨k, hk, rfl, hown, HB⟩ := hrel
    have hbw := HB0.out.below HB
    by_cases hlt : k < N
    · have hkl : k < L.length := by rw [HN.out]; exact hlt
      rcases hbw.form with ⟨_, e, _⟩ | ⟨h, rfl, _⟩
      · rw [e] at hkl; simp at hkl
      have hx : L[k]? = some L[k] := List.getElem?_eq_getElem hkl
      have hx1 : (txZero :: L)[k + 1]? = some L[k] := hx
      have hrg := HOK.out (k + 1) _ (by omega) hx1
      have hal : aliveT (txZero :: L) (k + 1) = (!(L[k].state == 5) && !(L[k].state == 6)) := by unfold aliveT; rw [hx1]
      have hst : liveTo (txZero :: L) (k + 1 + 1) = if aliveT (txZero :: L) (k + 1) = true then liveTo (txZero :: L) (k + 1) ++ [((k + 1 : Nat) : Int)] else liveTo (txZero :: L) (k + 1) := by
        show (if 1 ≤ k + 1 ∧ aliveT (txZero :: L) (k + 1) = true then _ else _) = _
        simp
      have hle := liveTo_le (txZero :: L) (k + 1)
      obtain ⟨⟨d0, d1, d2⟩, _⟩ := xcells hbw k _ hx
      clear hx1
      generalize L[k] = x at d0 d1 d2 hal hx hrg
      obtain ⟨xi, xs, xt, xw⟩ := x
      dsimp only at d0 d1 d2 hal hrg
      have HST := Lib.hid hst
      have HAL := Lib.hid hal
      clear hst hal
      have hb3 := HB.alloc HB.size (.cells #[.int .i64 xs, .int .i64 xt, .int .i64 xw] 98)
      have hown3 := hown.alloc (.cells #[.int .i64 xs, .int .i64 xt, .int .i64 xw] 98)
      have hbs3 := hb3.size
      by_cases h5 : xt < 5
      · have ha : aliveT (txZero :: L) (k + 1) = true := by
          rw [HAL.out, beq_eq_false_iff_ne.2 (show xt ≠ 5 by omega), beq_eq_false_iff_ne.2 (show xt ≠ 6 by omega)]; rfl
        have hs : liveTo (txZero :: L) (k + 1 + 1) = liveTo (txZero :: L) (k + 1) ++ [((k + 1 : Nat) : Int)] := by rw [HST.out, if_pos ha]
        have HS := Lib.hid hs
        clear hs ha
        go_wp2_with (at_builtin; refine wpList_append_own _ rfl _ _ 54 rfl w.heap.size 3 i0 (.int .i64 0) 1 8 Try.underlying54 hi hz0 hz1 hz2 rfl (by decide) _ _ _ rfl (hown3.alloc _) ⟨wr.heap.size + 1, 0, none⟩ 1 1 [.int .i64 (k + 1)] rfl rfl (by have := cell_one_new (wr.alloc (.cells #[.int .i64 xs, .int .i64 xt, .int .i64 xw] 98)) (.int .i64 (k + 1)) 3; simpa using this) (by simp [Value.oneCell']) (by unfold maxLen; omega) (by omega) (by simp at hbs3 ⊢; omega) ?_; intro v' w2 hown' hgr' _)
        go_roundw
        case rel => exact ⟨k + 1, by omega, by go_num, by rw [HS.out, List.length_append, List.map_append]; exact hown', (hb3.alloc hbs3 _).grown hgr' (by simp at hbs3 ⊢; omega) (fun k h => ((hown3.lt k h).1))⟩
        case measure => simp [intOf]; omega
      · have ha : ¬ (aliveT (txZero :: L) (k + 1) = true) := by
          rw [HAL.out]
          have : xt = 5 ∨ xt = 6 := by omega
          rcases this with rfl | rfl <;> decide
        have hs : liveTo (txZero :: L) (k + 1 + 1) = liveTo (txZero :: L) (k + 1) := by rw [HST.out, if_neg ha]
        have HS := Lib.hid hs
        clear hs ha
        go_wp2
        go_roundw
        case rel => exact ⟨k + 1, by omega, by go_num, by rw [HS.out]; exact hown3, hb3⟩
        case measure => simp [intOf]; omega
    · obtain rfl : k = N := by omega
      have HO := Lib.hid hown
      clear hown
      go_wp2
      go_ret
      exact ⟨_, rfl, HO.out, HB⟩
end Go.Proofs.Ytgdghinconghgaa
