/- The walk of TxnLive. No condition. -/
import Derived.Test.YtgdghinconghgaaTxnD
import Derived.Test.YtgdghinconghgaaFlat
set_option linter.unusedVariables false
set_option linter.unusedSimpArgs false
namespace Go.Proofs.Ytgdghinconghgaa
open Go.RowKit (wrap32 wrap64)
open Go.RowKit
/-- A deed's five cells. -/
structure D5 where
  kind : Int
  id : Int
  st : Int
  why : Int
  stamp : Int
def ksD : List CK := [.int .i64, .int .i64, .int .i64, .int .i64, .int .i64]
theorem d5_of {c : List Value} (hl : c.length = ksD.length) (h : PW ksD c) : ∃ d : D5, c = [.int .i64 d.kind, .int .i64 d.id, .int .i64 d.st, .int .i64 d.why, .int .i64 d.stamp] := by
  match c, hl with
  | [v0, v1, v2, v3, v4], _ =>
    obtain ⟨n0, rfl, _⟩ := h 0 _ v0 rfl rfl
    obtain ⟨n1, rfl, _⟩ := h 1 _ v1 rfl rfl
    obtain ⟨n2, rfl, _⟩ := h 2 _ v2 rfl rfl
    obtain ⟨n3, rfl, _⟩ := h 3 _ v3 rfl rfl
    obtain ⟨n4, rfl, _⟩ := h 4 _ v4 rfl rfl
    exact ⟨⟨n0, n1, n2, n3, n4⟩, rfl⟩
theorem deed_at {w : World} {a : Option Addr} {len cap : Nat} {css : List (List Value)} (h : FlatRow w ksD a len cap css) {i : Nat} (hi : i < len) :
    ∃ b off, ∃ d : D5, a = some ⟨b, off, none⟩ ∧ css[i]? = some [.int .i64 d.kind, .int .i64 d.id, .int .i64 d.st, .int .i64 d.why, .int .i64 d.stamp] ∧
      w.cell? ⟨b, off + i * 5, none⟩ = some (.int .i64 d.kind) ∧ w.cell? ⟨b, off + i * 5 + 1, none⟩ = some (.int .i64 d.id) ∧ w.cell? ⟨b, off + i * 5 + 2, none⟩ = some (.int .i64 d.st) ∧
      w.cell? ⟨b, off + i * 5 + 3, none⟩ = some (.int .i64 d.why) ∧ w.cell? ⟨b, off + i * 5 + 4, none⟩ = some (.int .i64 d.stamp) := by
  obtain ⟨b, off, c, ha, hc, hl, hp, hcell⟩ := h.get hi
  obtain ⟨d, rfl⟩ := d5_of hl hp
  have e : ksD.length = 5 := rfl
  rw [e] at hcell
  exact ⟨b, off, d, ha, hc, hcell 0 (by omega), hcell 1 (by omega), hcell 2 (by omega), hcell 3 (by omega), hcell 4 (by omega)⟩
theorem liveTo_split (L : List Tx) (k n : Nat) (h : k ≤ n) : ∃ r, liveTo L n = liveTo L k ++ r := by
  induction n with
  | zero => obtain rfl : k = 0 := by omega
            exact ⟨[], by simp⟩
  | succ n ih =>
    by_cases hk : k = n + 1
    · subst hk; exact ⟨[], by simp⟩
    · obtain ⟨r, hr⟩ := ih (by omega)
      show ∃ r, (if 1 ≤ n ∧ aliveT L n = true then liveTo L n ++ [(n : Int)] else liveTo L n) = _
      split
      · exact ⟨r ++ [(n : Int)], by rw [hr]; simp⟩
      · exact ⟨r, hr⟩
theorem liveTo_at (L : List Tx) (k n : Nat) (h1 : 1 ≤ k) (h : k < n) (ha : aliveT L k = true) : (liveTo L k).length < (liveTo L n).length ∧ (liveTo L n).getD (liveTo L k).length 0 = k := by
  obtain ⟨r, hr⟩ := liveTo_split L (k + 1) n h
  have e : liveTo L (k + 1) = liveTo L k ++ [(k : Int)] := by
    show (if 1 ≤ k ∧ aliveT L k = true then _ else _) = _
    rw [if_pos ⟨h1, ha⟩]
  rw [hr, e]
  constructor
  · simp
  · simp [List.getD_eq_getElem?_getD]
set_option maxRecDepth 100000 in
set_option maxHeartbeats 4000000 in
theorem live_any (a : Option Addr) (len cap : Nat) (css : List (List Value)) (w : World) (hl : FlatRow w ksD a len cap css) :
    Calls Try.prog 7 #[.slice a len cap] w fun e w' => e = .returned (.bool true) ∧ Below w.heap.size w w' := by
  have hlc := hl.2.1
  have hcm : cap ≤ 9223372036854775807 := hl.2.2.1
  by_cases h1 : 60 < len
  · go_enter Try.func7, Try.ntmps7
    go_wp2_with fail
    refine (awake22 _).mono ?_
    rintro e w1 ⟨rfl, hb1⟩
    go_wp2
    go_ret
    exact ⟨rfl, hb1⟩
  go_enter Try.func7, Try.ntmps7
  go_wp2_with fail
  refine (awake22 _).mono ?_
  rintro e w1 ⟨rfl, hb1⟩
  go_wp2_with fail
  refine (tnew_any _).mono ?_
  rintro e w2 ⟨g, h, rfl, hB, hg, hh, bel⟩
  have hb2 := bl_then hb1 (Nat.le_refl _) bel
  have hs1 := hb1.size
  have hg0 : w.heap.size ≤ g := by omega
  have hh0 : w.heap.size ≤ h := by omega
  clear bel hb1 hg hh hs1
  go_wp2_with fail
  go_loopw [20] (fun c wr => ∃ (k h cap : Nat) (L : List Tx), k ≤ len ∧ c = .int .i64 k ∧ Book wr g h cap L ∧ 1 ≤ L.length ∧ L.length ≤ k + 1 ∧ w.heap.size ≤ h ∧ Below w.heap.size w wr) (fun c _ => len - (intOf c).toNat)
  case atStart => exact ⟨0, h, 1, [⟨0, 0, 0, 0⟩], by omega, rfl, hB, Nat.le_refl _, Nat.le_refl _, hh0, hb2⟩
  case round =>
    clear hB hb2 hh0
    obtain ⟨k, h, cp, L, hk, rfl, hB, hL1, hL2, hh0, HB⟩ := hrel
    by_cases hlt : k < len
    · obtain ⟨b, off, d, rfl, _, d0, d1, d2, d3, d4⟩ := deed_at (hl.below HB) hlt
      clear hl
      have hBa : Book (wr.alloc (.cells #[.int .i64 d.kind, .int .i64 d.id, .int .i64 d.st, .int .i64 d.why, .int .i64 d.stamp] 52)) g h cp L := hB.below ((Below.refl _ _).alloc (Nat.le_refl _) _)
      have HBa : Below w.heap.size w (wr.alloc (.cells #[.int .i64 d.kind, .int .i64 d.id, .int .i64 d.st, .int .i64 d.why, .int .i64 d.stamp] 52)) := HB.alloc HB.size _
      have hca := hBa.cell
      obtain ⟨m, hm⟩ : ∃ m, L.length = m + 1 := ⟨L.length - 1, by omega⟩
      rw [hm] at hca
      have hlm : L.length = m + 1 := hm
      have HM := Lib.hid hm
      clear hm hlm
      by_cases hk0 : d.kind = 0
      · rw [hk0] at d0 hBa HBa hca
        have hmm : m ≤ 4097 := by have := HM.out; omega
        clear hk0
        go_wp2_with (first | (go_at_call 34; refine (tlen_yes _ _ _ _ _ hca hmm).mono ?_; rintro e w' ⟨rfl, rfl⟩))
        refine (tbegin_any _ _ _ _ _ _ hBa hL1 (by omega)).mono ?_
        rintro e w3 ⟨h3, cap3, rfl, hB3, k3, hh3⟩
        have hb3 := bl_keep HBa k3 (fun i hi => by rcases hi with rfl | rfl <;> omega)
        have hsz := HBa.size
        rw [HM.out]
        go_wp2
        go_roundw
        case rel => exact ⟨k + 1, h3, cap3, _, by omega, by go_num, hB3, by simp, by simp; have := HM.out; omega, by omega, hb3⟩
        case measure => simp [intOf]; omega
      · have hk1 : (d.kind == 0) = false := beq_eq_false_iff_ne.2 hk0
        clear hk0
        go_wp2_with fail
        refine (tturn_any _ _ _ _ _ _ _ _ hBa hL1 (by omega)).mono ?_
        rintro e w3 ⟨rfl, hB3, k3⟩
        have hb3 := bl_keep HBa k3 (fun i hi => by subst hi; omega)
        go_wp2
        go_roundw
        case rel => exact ⟨k + 1, h, cp, _, by omega, by go_num, hB3, by rw [trnL_len]; omega, by rw [trnL_len]; omega, hh0, hb3⟩
        case measure => simp [intOf]; omega
    · obtain rfl : k = len := by omega
      clear hl
      obtain ⟨m, hm⟩ : ∃ m, L.length = m + 1 := ⟨L.length - 1, by omega⟩
      have hmm : m ≤ 60 := by omega
      go_wp2_with fail
      refine (tlive_any _ _ _ _ _ hB hL1 (by omega)).mono ?_
      rintro e w3 ⟨v, rfl, hown, bel3⟩
      have hB3 := hB.below bel3
      have hb3 := bl_then HB (Nat.le_refl _) bel3
      obtain ⟨A3, c3, rfl, hI3⟩ := own_ints hown
      rw [hm] at hI3
      have HM := Lib.hid hm
      clear hown bel3 hB HB hm
      have hll := liveTo_le L (m + 1)
      generalize hN : (liveTo L (m + 1)).length = N at hI3 hll
      rw [HM.out, hN]
      have HN := Lib.hid hN
      clear hN
      go_wp2_with fail
      go_loopw [8, 9] (fun kc c wr => ∃ i : Nat, 1 ≤ i ∧ i ≤ m + 1 ∧ c = .int .i64 i ∧ kc = .int .i64 (liveTo L i).length ∧ Below w3.heap.size w3 wr) (fun _ c _ => m + 1 - (intOf c).toNat)
      case atStart => exact ⟨1, by omega, by omega, rfl, rfl, Below.refl _ _⟩
      case round =>
        obtain ⟨i, hi1, hi, rfl, rfl, HBr⟩ := hrel
        have hBr := hB3.below HBr
        have hcr := hBr.cell
        rw [HM.out] at hcr
        by_cases hlt2 : i < m + 1
        · have hil : i < L.length := by rw [HM.out]; omega
          have hx : L[i]? = some L[i] := List.getElem?_eq_getElem hil
          have hal : aliveT L i = (!(L[i].state == 5) && !(L[i].state == 6)) := by unfold aliveT; rw [hx]
          have hst : liveTo L (i + 1) = if aliveT L i = true then liveTo L i ++ [(i : Int)] else liveTo L i := by
            show (if 1 ≤ i ∧ aliveT L i = true then _ else _) = _
            simp [hi1]
          have hget := tget_yes _ _ _ _ _ _ _ hBr hi1 hx (by rw [HM.out]; omega)
          have hat := liveTo_at L i (m + 1) hi1 hlt2
          rw [HN.out] at hat
          have hIr := hI3.below HBr
          generalize L[i] = x at hal hget
          have HG := Lib.hid hget
          have HAL := Lib.hid hal
          have HST := Lib.hid hst
          have HAT := Lib.hid hat
          clear hx hal hst hget hat hil
          go_wp2_with (first | (go_at_call 34; refine (tlen_yes _ _ _ _ _ hcr (by omega)).mono ?_; rintro e w' ⟨rfl, rfl⟩))
          refine HG.out.mono ?_
          rintro e w5 ⟨rfl, hb5⟩
          have hb6 := bl_then HBr (Nat.le_refl _) hb5
          have hI5 := hIr.below hb5
          unfold aggT
          obtain ⟨xi, xs, xt, xw⟩ := x
          dsimp only at HAL ⊢
          by_cases e5 : xt = 5
          · have hs : liveTo L (i + 1) = liveTo L i := by rw [HST.out, HAL.out, e5]; rfl
            have HS := Lib.hid hs
            clear hs
            rw [e5]
            go_wp2
            go_roundw
            case rel => exact ⟨i + 1, by omega, by omega, by go_num, by rw [HS.out], hb6.alloc hb6.size _⟩
            case measure => simp [intOf]; omega
          · have n5 : (xt == 5) = false := beq_eq_false_iff_ne.2 e5
            by_cases e6 : xt = 6
            · have hs : liveTo L (i + 1) = liveTo L i := by rw [HST.out, HAL.out, e6]; rfl
              have HS := Lib.hid hs
              clear hs n5 e5
              rw [e6]
              go_wp2
              go_roundw
              case rel => exact ⟨i + 1, by omega, by omega, by go_num, by rw [HS.out], hb6.alloc hb6.size _⟩
              case measure => simp [intOf]; omega
            · have n6 : (xt == 6) = false := beq_eq_false_iff_ne.2 e6
              have ht : aliveT L i = true := by rw [HAL.out, n5, n6]; rfl
              have hs : liveTo L (i + 1) = liveTo L i ++ [(i : Int)] := by rw [HST.out, if_pos ht]
              obtain ⟨hA1, hA2⟩ := HAT.out ht
              have HS := Lib.hid hs
              clear hs e5 e6 HAL HST HAT ht
              obtain ⟨b5, o5, rfl, hc5⟩ := (hI5.below ((Below.refl _ _).alloc (Nat.le_refl _) (.cells #[.int .i64 xi, .int .i64 xs, .int .i64 xt, .int .i64 xw] 57))).get hA1
              rw [hA2] at hc5
              generalize hq : (liveTo L i).length = q at hA1 hc5 ⊢
              have HQ := Lib.hid hq
              clear hq
              go_wp2
              go_roundw
              case rel => exact ⟨i + 1, by omega, by omega, by go_num, by rw [HS.out, List.length_append, HQ.out]; simp, hb6.alloc hb6.size _⟩
              case measure => simp [intOf]; omega
        · obtain rfl : i = m + 1 := by omega
          rw [HN.out]
          go_wp2_with (first | (go_at_call 34; refine (tlen_yes _ _ _ _ _ hcr (by omega)).mono ?_; rintro e w' ⟨rfl, rfl⟩))
          go_ret
          exact ⟨by simp, bl_then hb3 (Nat.le_refl _) HBr⟩
end Go.Proofs.Ytgdghinconghgaa
