/- The stamps of a book. No condition. -/
import Derived.Test.YtgdghinconghgaaTxnO
set_option linter.unusedVariables false
set_option linter.unusedSimpArgs false
namespace Go.Proofs.Ytgdghinconghgaa
open Go.RowKit (wrap32 wrap64)
open Go.RowKit
theorem Try.infoJ : (Try.prog.info? 2).map (fun i => (i.zero, i.size, i.bytes)) = some (some (.int .i64 0), 1, 8) := by kernel_rfl
def OwnRet64 (w : World) (M : Nat) (xs : List Int) (e : Ending) (w' : World) : Prop := ∃ v, e = .returned v ∧ w'.ownsRow w.heap.size 2 1 v M (xs.map (Value.int .i64)) ∧ Below w.heap.size w w'
def stampsL (L : List Tx) : List Int := L.map fun x => x.stamp
theorem stampsL_take (L : List Tx) (k : Nat) (hk : k < L.length) : stampsL (L.take (k + 1)) = stampsL (L.take k) ++ [L[k].stamp] := by
  unfold stampsL; rw [List.take_succ_eq_append_getElem hk, List.map_append]; rfl
theorem stampsL_len (L : List Tx) : (stampsL L).length = L.length := by unfold stampsL; simp
set_option maxRecDepth 100000 in
set_option maxHeartbeats 2000000 in
theorem tstamps_any (g h cap : Nat) (L : List Tx) (w : World) (hb : Book w g h cap L) (h0 : 1 ≤ L.length) (h2 : L.length ≤ 1000) :
    Calls Try.prog 61 #[.pointer (some ⟨g, 0, none⟩)] w (OwnRet64 w L.length (stampsL L)) := by
  obtain ⟨i0, hi, hz0, hz1, hz2⟩ := info_parts Try.infoJ
  have hc := hb.cell
  have hsl := stampsL_len L
  generalize hN : L.length = N at hc h0 h2 hsl ⊢
  have HN := Lib.hid hN
  have HSL := Lib.hid hsl
  clear hN hsl
  go_enter Try.func61, Try.ntmps61
  go_wp2_with (first | (go_at_call 70; refine (tok_yes _ _ _ _ _ hc h0).mono ?_; rintro e w' ⟨rfl, rfl⟩))
  go_loopw [3, 15] (fun o c wr => ∃ k : Nat, k ≤ N ∧ c = .int .i64 k ∧ wr.ownsRow w.heap.size 2 1 o k ((stampsL (L.take k)).map (Value.int .i64)) ∧ Below w.heap.size w wr) (fun _ c _ => N - (intOf c).toNat)
  case atStart => exact ⟨0, by omega, rfl, World.ownsRow_nil _ _ _ _, Below.refl _ _⟩
  case round =>
    obtain ⟨k, hk, rfl, hown, HB⟩ := hrel
    by_cases hlt : k < N
    · have hkl : k < L.length := by rw [HN.out]; exact hlt
      have hx : L[k]? = some L[k] := List.getElem?_eq_getElem hkl
      have hst := stampsL_take L k hkl
      obtain ⟨⟨d0, d1, d2, d3⟩, _⟩ := tx_cells (hb.below HB) k _ hx
      generalize L[k] = x at d0 d1 d2 d3 hst hx
      obtain ⟨xi, xs, xt, xw⟩ := x
      dsimp only at d0 d1 d2 d3 hst
      have HST := Lib.hid hst
      clear hst hx hkl
      have hb3 := HB.alloc HB.size (.cells #[.int .i64 xi, .int .i64 xs, .int .i64 xt, .int .i64 xw] 57)
      have hown3 := hown.alloc (.cells #[.int .i64 xi, .int .i64 xs, .int .i64 xt, .int .i64 xw] 57)
      have hbs3 := hb3.size
      go_wp2_with (at_builtin; refine wpList_append_own _ rfl _ _ 22 rfl w.heap.size 2 i0 (.int .i64 0) 1 8 Try.underlying22 hi hz0 hz1 hz2 rfl (by decide) _ _ _ rfl (hown3.alloc _) ⟨wr.heap.size + 1, 0, none⟩ 1 1 [.int .i64 xs] rfl rfl (by have := cell_one_new (wr.alloc (.cells #[.int .i64 xi, .int .i64 xs, .int .i64 xt, .int .i64 xw] 57)) (.int .i64 xs) 2; simpa using this) (by simp [Value.oneCell']) (by unfold maxLen; omega) (by omega) (by simp at hbs3 ⊢; omega) ?_; intro v' w2 hown' hgr' _)
      go_roundw
      case rel => exact ⟨k + 1, by omega, by go_num, by rw [HST.out, List.map_append]; exact hown', (hb3.alloc hbs3 _).grown hgr' (by simp at hbs3 ⊢; omega) (fun k h => ((hown3.lt k h).1))⟩
      case measure => simp [intOf]; omega
    · obtain rfl : k = N := by omega
      rw [List.take_of_length_le (by rw [HN.out]; exact Nat.le_refl _)] at hown
      have HO := Lib.hid hown
      clear hown
      go_wp2
      go_ret
      exact ⟨_, rfl, HO.out, HB⟩
end Go.Proofs.Ytgdghinconghgaa
