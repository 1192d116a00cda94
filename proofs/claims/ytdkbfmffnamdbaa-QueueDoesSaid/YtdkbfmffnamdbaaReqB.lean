/- request: Check, Place, Right. No condition. -/
import Derived.Test.YtdkbfmffnamdbaaReq
set_option linter.unusedVariables false
set_option linter.unusedSimpArgs false
namespace Go.Proofs.Ytdkbfmffnamdbaa
open Go.RowKit (wrap32 wrap64)
open Go.RowKit
def checkT (tx m : Int) : Int := if 1 ≤ tx ∧ 1 ≤ m ∧ m ≤ 6 then 0 else 1
theorem rightW_iff (L : List Wt) : RightW L ↔ ∀ (i : Nat) x, L[i]? = some x → okReq x ∧ idxB (ofTx x.tx) L = i ∧ ∀ y, 0 < i → x.conv = true → L[i - 1]? = some y → y.conv = true := by
  constructor
  · rintro ⟨h1, h2, h3⟩ i x hx
    obtain ⟨hi, hxe⟩ := List.getElem?_eq_some_iff.1 hx
    refine ⟨h1 x (List.mem_of_getElem? hx), idxB_hit _ L i x hx (by unfold ofTx; simp) (fun y hy => ?_), fun y h0 hc hy => ?_⟩
    · obtain ⟨j, hj, rfl⟩ := List.mem_take_iff_getElem.1 hy
      have := List.pairwise_iff_getElem.1 h2 j i (by omega) hi (by omega)
      rw [hxe] at this
      unfold ofTx
      exact beq_eq_false_iff_ne.2 this
    · obtain ⟨hj, hye⟩ := List.getElem?_eq_some_iff.1 hy
      have := List.pairwise_iff_getElem.1 h3 (i - 1) i hj hi (by omega)
      rw [hxe, hye] at this
      exact this hc
  · intro h
    refine ⟨fun x hx => ?_, ?_, ?_⟩
    · obtain ⟨i, hi, rfl⟩ := List.getElem_of_mem hx
      exact (h i _ (List.getElem?_eq_getElem hi)).1
    · rw [List.pairwise_iff_getElem]
      intro i j hi hj hij he
      have hx := (h j _ (List.getElem?_eq_getElem hj)).2.1
      rcases idxB_spec (ofTx L[j].tx) L with ⟨e, hm⟩ | ⟨k, z, e, hz, hp, hb⟩
      · omega
      · obtain rfl : k = j := by omega
        have := hb L[i] (List.mem_take_iff_getElem.2 ⟨i, by omega, rfl⟩)
        unfold ofTx at this
        rw [beq_eq_false_iff_ne] at this
        exact this he
    · rw [List.pairwise_iff_getElem]
      intro i j hi hj hij
      induction j with
      | zero => omega
      | succ j ih =>
        intro hc
        have hy := (h (j + 1) _ (List.getElem?_eq_getElem hj)).2.2 L[j] (by omega) hc (List.getElem?_eq_getElem (by omega))
        rcases Nat.eq_or_lt_of_le (Nat.lt_succ_iff.1 hij) with rfl | hlt
        · exact hy
        · exact ih (by omega) hlt hy
set_option maxHeartbeats 1000000 in
theorem qcheck_any (tx m : Int) (w : World) : Calls Try.prog 31 #[.int .i64 tx, .int .i64 m, .int .i64 0] w fun e w' => e = .returned (.int .i64 (checkT tx m)) ∧ w = w' := by
  have hmo := fun W => may_any m W
  by_cases h1 : tx < 1
  · have e : checkT tx m = 1 := if_neg (by omega)
    rw [e]
    clear hmo e
    go_enter Try.func31, Try.ntmps31
    go_wp2
    go_ret
    exact ⟨rfl, rfl⟩
  · by_cases h2 : 0 ≤ m ∧ m < 7
    · have hmb : mayB m = true := by unfold mayB; simp; omega
      rw [hmb] at hmo
      have HMO := Lib.hid hmo
      by_cases h3 : m = 0
      · subst h3
        have e : checkT tx 0 = 1 := if_neg (by omega)
        rw [e]
        clear hmo hmb e h2
        go_enter Try.func31, Try.ntmps31
        go_wp2_with (go_at_call 53; refine (HMO.out _).mono ?_; rintro e _ ⟨rfl, rfl⟩)
        go_ret
        exact ⟨rfl, rfl⟩
      · have e : checkT tx m = 0 := if_pos (by omega)
        rw [e]
        clear hmo hmb e h2
        go_enter Try.func31, Try.ntmps31
        go_wp2_with (go_at_call 53; refine (HMO.out _).mono ?_; rintro e _ ⟨rfl, rfl⟩)
        go_ret
        exact ⟨rfl, rfl⟩
    · have hmb : mayB m = false := by unfold mayB; simp; omega
      rw [hmb] at hmo
      have HMO := Lib.hid hmo
      have e : checkT tx m = 1 := if_neg (by omega)
      rw [e]
      clear hmo hmb e h2
      go_enter Try.func31, Try.ntmps31
      go_wp2_with (go_at_call 53; refine (HMO.out _).mono ?_; rintro e _ ⟨rfl, rfl⟩)
      go_ret
      exact ⟨rfl, rfl⟩
set_option maxHeartbeats 1000000 in
theorem qplace_any (a : Option Addr) (len cap : Nat) (L : List Wt) (c : Bool) (w : World) (hl : Wts w a len L) (hn : len ≤ 1000) :
    Calls Try.prog 61 #[.slice a len cap, .bool c] w fun e w' => e = .returned (.int .i64 (placeT L c)) ∧ Below w.heap.size w w' := by
  have hll := hl.len
  cases c with
  | false =>
    have e : placeT L false = len := hll
    rw [e]
    clear hl e hll
    go_enter Try.func61, Try.ntmps61
    go_wp2
    go_ret
    exact ⟨rfl, Below.refl _ _⟩
  | true =>
    have HE : Hid (placeT L true = lastC (L.take len)) := Lib.hid (by rw [List.take_of_length_le (by omega)]; rfl)
    have HLL := Lib.hid hll
    clear hll
    go_enter Try.func61, Try.ntmps61
    go_wp2
    go_loopw [5, 14] (fun v c wr => ∃ k : Nat, k ≤ len ∧ c = .int .i64 k ∧ v = .int .i64 (lastC (L.take k)) ∧ Below w.heap.size w wr) (fun _ c _ => len - (intOf c).toNat)
    case atStart => exact ⟨0, by omega, rfl, rfl, Below.refl _ _⟩
    case round =>
      obtain ⟨k, hk, rfl, rfl, HB⟩ := hrel
      by_cases hlt : k < len
      · obtain ⟨b, off, x, rfl, _, hx, _, d0, d1, d2, d3⟩ := Wt_at (hl.below HB) hlt
        have hOx : Below wr.heap.size wr (wr.alloc (.cells #[.int .i64 x.tx, .int .i64 x.mode, .bool x.conv, .bool x.inst] 37)) := (Below.refl _ _).alloc (Nat.le_refl _) _
        have HB1 := bl_then HB (Nat.le_refl _) hOx
        have hst := lastC_snoc (L.take k) x
        rw [← take_snocG L k x hx, show (L.take k).length = k by rw [List.length_take, HLL.out]; omega] at hst
        generalize lastC (L.take k) = z0 at hst
        cases hc : x.conv with
        | true =>
          rw [hc, if_pos rfl] at hst
          rw [hc] at d2 HB1
          have HST := Lib.hid hst
          clear hst hx hOx hl
          go_wp2
          go_roundw
          case rel => exact ⟨k + 1, by omega, by go_num, by rw [HST.out]; go_num, HB1⟩
          case measure => simp [intOf]; omega
        | false =>
          rw [hc, if_neg (by simp)] at hst
          rw [hc] at d2 HB1
          have HST := Lib.hid hst
          clear hst hx hOx hl
          go_wp2
          go_roundw
          case rel => exact ⟨k + 1, by omega, by go_num, by rw [HST.out], HB1⟩
          case measure => simp [intOf]; omega
      · obtain rfl : k = len := by omega
        clear hl
        go_wp2
        go_ret
        exact ⟨by rw [HE.out]; rfl, HB⟩
end Go.Proofs.Ytdkbfmffnamdbaa
