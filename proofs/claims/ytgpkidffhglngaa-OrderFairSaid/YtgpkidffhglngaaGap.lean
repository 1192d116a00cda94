/- The contracts of Gap and Fair. No condition. -/
import Derived.Test.YtgpkidffhglngaaOrder
import Derived.Test.YtgpkidffhglngaaGapLaw
set_option linter.unusedVariables false
set_option linter.unusedSimpArgs false
namespace Go.Proofs.Ytgpkidffhglngaa
open Go.RowKit (wrap32 wrap64)
open Go.RowKit Plain
def GapRet (l : List Int) (n : Nat) (w : World) (e : Ending) (w' : World) : Prop := ∃ g : Nat, e = .returned (.int .i64 g) ∧ IsGap l n g ∧ g ≤ max n (l.length + 1) ∧ w = w'
theorem run_max_int {P : Program} {w : World} (ts : Array TypeId) (t : TypeId) (a b : Int) : (Builtin.max_ ts t #[.int .i64 a, .int .i64 b]).run P w = .ok (.int .i64 (mx2 a b)) w := by
  have e : Builtin.max_ ts t #[.int .i64 a, .int .i64 b] = pure (.int .i64 (if b > a then b else a)) := rfl
  rw [e]; rfl
set_option maxHeartbeats 400000 in
theorem gap_zero (a : Option Addr) (len cap : Nat) (n : Int) (hn : n < 1) (w : World) : Calls Try.prog 32 #[.slice a len cap, .int .i64 n] w fun e w' => e = .returned (.int .i64 0) ∧ w = w' := by
  go_enter Try.func32, Try.ntmps32
  go_wp2
  go_step3
  go_wp2
  rw [Exit.noGoto_ret]
  go_ret
  exact ⟨rfl, rfl⟩
set_option maxHeartbeats 1000000 in
theorem gap_any (a : Option Addr) (len cap : Nat) (xs : List Int) (n : Nat) (hn : 1 ≤ n) (hn2 : (n : Int) ≤ 9223372036854775807) (w : World) (hl : Ints w a len xs) (hlen : len ≤ 1000) : Calls Try.prog 32 #[.slice a len cap, .int .i64 n] w (GapRet xs n w) := by
  have hx := hl.len
  by_cases hnl : len < n
  · have hg := Lib.hid (IsGap.short (l := xs) (n := n) (by omega))
    go_enter Try.func32, Try.ntmps32
    go_wp2
    go_step3
    go_wp2
    rw [Exit.noGoto_ret]
    go_ret
    exact ⟨n, rfl, hg.out, by omega, rfl⟩
  · have hmx := fun (w : World) ts t a b => run_max_int (P := Try.prog) (w := w) ts t a b
    go_enter Try.func32, Try.ntmps32
    go_wp2
    go_step3
    go_wp2
    go_step3
    go_wp2
    go_loop [5, 19] (fun o c => ∃ (x : Nat) (v : Int), x ≤ n ∧ o = .int .i64 v ∧ c = .int .i64 x ∧ Hid (OutAt xs n x v) ∧ (n : Int) ≤ v ∧ v ≤ 1001) (fun _ c => n - (intOf c).toNat)
    case atStart => exact ⟨0, n, by omega, rfl, rfl, OutAt.zero xs n (by omega), by omega, by omega⟩
    case round =>
      obtain ⟨x, v, hk, rfl, rfl, hout, hv1, hv2⟩ := hrel
      by_cases hlt : x < n
      · have hst := Lib.hid (hout.out.start hn)
        clear hout
        go_wp2
        go_loop [5, 7, 24] (fun o la c => ∃ (i : Nat) (v last : Int), i ≤ len ∧ o = .int .i64 v ∧ la = .int .i64 last ∧ c = .int .i64 i ∧ Hid (OutTo xs n x last v) ∧ Hid (LastAt xs x i last) ∧ (n : Int) ≤ v ∧ v ≤ 1001 ∧ -1 ≤ last ∧ last < i) (fun _ _ c => len - (intOf c).toNat)
        case atStart => exact ⟨0, v, -1, by omega, rfl, rfl, rfl, hst, LastAt.zero _ _, hv1, hv2, by omega, by omega⟩
        case round =>
          clear hst hv1 hv2
          obtain ⟨i, v, last, hi, rfl, rfl, rfl, ho, hla, hv1, hv2, hl1, hl2⟩ := hrel
          by_cases hil : i < len
          · obtain ⟨b, off, rfl, hc⟩ := hl.get hil
            by_cases he : xs.getD i 0 = x
            · have ho2 := OutTo.here ho.out hla.out he (by omega) hn
              have hr := ho2.2.1
              have hr0 := ho2.1
              have HO2 := Lib.hid ho2
              have HL2 := Lib.hid (LastAt.here he)
              rw [he] at hc
              clear ho hla he ho2
              go_wp2
              go_round
              case rel => exact ⟨i + 1, _, i, by omega, rfl, rfl, by go_num, HO2, HL2, hr0, by omega, by omega, by omega⟩
              case measure => simp [intOf]; omega
            · have HL2 := Lib.hid (hla.out.past he)
              have hb : (xs.getD i 0 == (x : Int)) = false := beq_eq_false_iff_ne.2 he
              clear he hla
              generalize xs.getD i 0 = y at hc hb
              go_wp2
              go_round
              case rel => exact ⟨i + 1, v, last, by omega, rfl, rfl, by go_num, ho, HL2, hv1, hv2, hl1, by omega⟩
              case measure => simp [intOf]; omega
          · obtain rfl : i = len := by omega
            by_cases h0 : last < 0
            · obtain rfl : last = -1 := by omega
              have hd := ho.out.doneNone (by rw [hx]; exact hla.out)
              rw [hx] at hd
              have hr := hd.2.1
              have hr0 := hd.1
              have HD := Lib.hid hd
              clear ho hla hd
              go_wp2
              exact ⟨⟨x + 1, _, by omega, rfl, by go_num, HD, hr0, by omega⟩, by simp [intOf]; omega⟩
            · have hd := ho.out.done (by rw [hx]; exact hla.out) (by omega)
              rw [hx] at hd
              have hr := hd.2.1
              have hr0 := hd.1
              have HD := Lib.hid hd
              clear ho hla hd
              go_wp2
              exact ⟨⟨x + 1, _, by omega, rfl, by go_num, HD, hr0, by omega⟩, by simp [intOf]; omega⟩
      · obtain rfl : x = n := by omega
        have hg := Lib.hid hout.out.gap
        have hr := hout.out.2.1
        clear hout
        obtain ⟨g, rfl⟩ := Int.eq_ofNat_of_zero_le (show 0 ≤ v by omega)
        go_wp2
        go_ret
        exact ⟨g, rfl, hg.out, by omega, rfl⟩
/-- Fair: g is the least window. -/
def FairRet (l : List Int) (n win : Int) (w : World) (e : Ending) (w' : World) : Prop := ∃ b : Bool, e = .returned (.bool b) ∧ (b = true ↔ 1 ≤ n ∧ n ≤ win ∧ fairW l n.toNat win.toNat) ∧ w = w'
theorem fair_long (l : List Int) (n w : Nat) (h : l.length < w) : fairW l n w := fun x _ => winX_long l x w h
set_option maxHeartbeats 1000000 in
theorem fair_any (a : Option Addr) (len cap : Nat) (xs : List Int) (n win : Int) (w : World) (hl : Ints w a len xs) (hlen : len ≤ 900) : Calls Try.prog 33 #[.slice a len cap, .int .i64 n, .int .i64 win] w (FairRet xs n win w) := by
  have hx := hl.len
  by_cases hn : n < 1
  · have hs : (false = true ↔ 1 ≤ n ∧ n ≤ win ∧ fairW xs n.toNat win.toNat) := ⟨fun h => (by cases h), fun h => (by omega)⟩
    have HS := Lib.hid hs
    clear hs
    go_enter Try.func33, Try.ntmps33
    go_wp2_with fail
    go_ret
    exact ⟨false, rfl, HS.out, rfl⟩
  by_cases hw : win < n
  · have hs : (false = true ↔ 1 ≤ n ∧ n ≤ win ∧ fairW xs n.toNat win.toNat) := ⟨fun h => (by cases h), fun h => (by omega)⟩
    have HS := Lib.hid hs
    clear hs
    go_enter Try.func33, Try.ntmps33
    go_wp2_with fail
    go_ret
    exact ⟨false, rfl, HS.out, rfl⟩
  by_cases hw2 : (len : Int) < win
  · have hs : (True ↔ 1 ≤ n ∧ n ≤ win ∧ fairW xs n.toNat win.toNat) := ⟨fun _ => ⟨by omega, by omega, fair_long _ _ _ (by omega)⟩, fun _ => trivial⟩
    have HS := Lib.hid hs
    clear hs
    go_enter Try.func33, Try.ntmps33
    go_wp2_with fail
    go_ret
    exact ⟨true, rfl, by simpa using HS.out, rfl⟩
  obtain ⟨n, rfl⟩ := Int.eq_ofNat_of_zero_le (show 0 ≤ n by omega)
  obtain ⟨win, rfl⟩ := Int.eq_ofNat_of_zero_le (show 0 ≤ win by omega)
  have hh := Lib.hid hl
  clear hx
  go_enter Try.func33, Try.ntmps33
  go_wp2_with fail
  refine (gap_any _ _ _ xs n (by omega) (by omega) _ hh.out (by omega)).mono ?_
  rintro e w1 ⟨g, rfl, hg, hgm, rfl⟩
  have hs : (decide (g ≤ win) = true ↔ 1 ≤ (n : Int) ∧ (n : Int) ≤ win ∧ fairW xs (n : Int).toNat (win : Int).toNat) := by
    rw [Int.toNat_natCast, Int.toNat_natCast, ← hg.2 win (by omega)]
    simp; omega
  have HS := Lib.hid hs
  clear hs
  go_wp2
  go_ret
  exact ⟨_, rfl, HS.out, rfl⟩
end Go.Proofs.Ytgpkidffhglngaa
