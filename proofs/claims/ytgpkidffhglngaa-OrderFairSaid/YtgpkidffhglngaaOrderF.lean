/- The statement OrderFair: the walk. No condition. -/
import Derived.Test.YtgpkidffhglngaaOrderX
import Derived.Test.YtgpkidffhglngaaGapR
import Derived.Test.YtgpkidffhglngaaCount
set_option linter.unusedVariables false
set_option linter.unusedSimpArgs false
namespace Go.Proofs.Ytgpkidffhglngaa
open Go.RowKit (wrap32 wrap64)
open Go.RowKit Plain
def nM (n : Int) : Nat := if oMay n 0 = true then n.toNat else 0
theorem nM_cases (n : Int) : (n < 1 ∧ nM n ≤ 0) ∨ (1 ≤ n ∧ 64 < n ∧ nM n ≤ 0) ∨ (1 ≤ n ∧ n ≤ 64 ∧ (nM n : Int) = n) := by
  unfold nM oMay
  by_cases h : 1 ≤ n ∧ n ≤ 64
  · have : (decide (1 ≤ n) && decide (n ≤ 64) && decide ((0 : Int) ≤ 0) && decide ((0 : Int) ≤ 65536)) = true := by simp; omega
    rw [if_pos this]; omega
  · have : ¬ (decide (1 ≤ n) && decide (n ≤ 64) && decide ((0 : Int) ≤ 0) && decide ((0 : Int) ≤ 65536)) = true := by simp; omega
    rw [if_neg this]; omega
theorem counts_all (a : Option Addr) (len cap : Nat) (xs : List Int) (n : Int) (w : World) (hl : Ints w a len xs) (hlen : len ≤ 1000) : Calls Try.prog 50 #[.slice a len cap, .int .i64 n] w (OwnRet w (nM n) (cntRow (nM n) xs)) := by
  cases h : oMay n 0
  · have e : nM n = 0 := by unfold nM; rw [h]; rfl
    rw [e]
    refine (counts_no a len cap n h w).mono ?_
    rintro e w' ⟨rfl, rfl⟩
    exact ⟨_, rfl, World.ownsRow_nil _ _ _ _, Below.refl _ _⟩
  · have hs := oMay_spec n 0 h
    obtain ⟨n, rfl⟩ := Int.eq_ofNat_of_zero_le (show 0 ≤ n by omega)
    have e : nM n = n := by unfold nM; rw [h]; rfl
    rw [e]
    exact counts_yes a len cap xs n h w hl hlen
theorem last_all (a : Option Addr) (len cap : Nat) (xs : List Int) (n : Int) (w : World) (hl : Ints w a len xs) (hlen : len ≤ 1000) : Calls Try.prog 51 #[.slice a len cap, .int .i64 n] w (OwnRet w (nM n) (lastRow (nM n) xs)) := by
  cases h : oMay n 0
  · have e : nM n = 0 := by unfold nM; rw [h]; rfl
    rw [e]
    refine (last_no a len cap n h w).mono ?_
    rintro e w' ⟨rfl, rfl⟩
    exact ⟨_, rfl, World.ownsRow_nil _ _ _ _, Below.refl _ _⟩
  · have hs := oMay_spec n 0 h
    obtain ⟨n, rfl⟩ := Int.eq_ofNat_of_zero_le (show 0 ≤ n by omega)
    have e : nM n = n := by unfold nM; rw [h]; rfl
    rw [e]
    exact last_yes a len cap xs n h w hl hlen
/-- Both gaps in one: the same number. -/
def GapBoth (xs : List Int) (n : Int) (g : Int) : Prop := (n < 1 ∧ g = 0) ∨ (1 ≤ n ∧ ∃ k : Nat, g = k ∧ IsGap xs n.toNat k)
theorem GapBoth.uniq {xs : List Int} {n g k : Int} (h : GapBoth xs n g) (h' : GapBoth xs n k) : g = k := by
  rcases h with ⟨h1, rfl⟩ | ⟨h1, g, rfl, hg⟩
  · rcases h' with ⟨_, rfl⟩ | ⟨h2, _⟩
    · rfl
    · omega
  · rcases h' with ⟨h2, _⟩ | ⟨_, k, rfl, hk⟩
    · omega
    · rw [hg.uniq hk]
def GapBothRet (xs : List Int) (n : Int) (w : World) (e : Ending) (w' : World) : Prop := ∃ g : Int, e = .returned (.int .i64 g) ∧ GapBoth xs n g ∧ w = w'
theorem gap_all (a : Option Addr) (len cap : Nat) (xs : List Int) (n : Int) (rn : n ≤ 9223372036854775807) (w : World) (hl : Ints w a len xs) (hlen : len ≤ 900) : Calls Try.prog 32 #[.slice a len cap, .int .i64 n] w (GapBothRet xs n w) := by
  by_cases hn : n < 1
  · refine (gap_zero a len cap n hn w).mono ?_
    rintro e w' ⟨rfl, rfl⟩
    exact ⟨0, rfl, .inl ⟨hn, rfl⟩, rfl⟩
  · obtain ⟨n, rfl⟩ := Int.eq_ofNat_of_zero_le (show 0 ≤ n by omega)
    refine (gap_any a len cap xs n (by omega) rn w hl (by omega)).mono ?_
    rintro e w' ⟨g, rfl, hg, _, rfl⟩
    exact ⟨g, rfl, .inr ⟨by omega, g, rfl, by rw [Int.toNat_natCast]; exact hg⟩, rfl⟩
theorem rgap_all (a : Option Addr) (len cap : Nat) (xs : List Int) (n : Int) (rn : n ≤ 9223372036854775807) (w : World) (hl : Ints w a len xs) (hlen : len ≤ 900) (hcap : len ≤ cap) (hcm : cap ≤ maxLen) : Calls Try.prog 49 #[.slice a len cap, .int .i64 n] w (GapBothRet xs n w) := by
  by_cases hn : n < 1
  · refine (rgap_zero a len cap n hn w).mono ?_
    rintro e w' ⟨rfl, rfl⟩
    exact ⟨0, rfl, .inl ⟨hn, rfl⟩, rfl⟩
  · obtain ⟨n, rfl⟩ := Int.eq_ofNat_of_zero_le (show 0 ≤ n by omega)
    refine (rgap_any a len cap xs n (by omega) w hl hlen hcap hcm rn).mono ?_
    rintro e w' ⟨g, rfl, hg, _, rfl⟩
    exact ⟨g, rfl, .inr ⟨by omega, g, rfl, by rw [Int.toNat_natCast]; exact hg⟩, rfl⟩
theorem lastRow_get (n : Nat) (l : List Int) (k : Nat) (h : k < n) : (lastRow n l).getD k 0 = lastI l k := rowOf_get n _ k h
theorem cntRow_get (n : Nat) (l : List Int) (k : Nat) (h : k < n) : (cntRow n l).getD k 0 = cntI l k := rowOf_get n _ k h
set_option maxHeartbeats 2000000 in
theorem orderFair_walk (la : Option Addr) (len cap : Nat) (zs : List Int) (n win : Int) (w : World) (hz : IsRow .i64 w la len cap zs) (wn : (Lit.int .i64 n).wf = true) :
    Calls Try.prog 12 #[.slice la len cap, .int .i64 n, .int .i64 win] w fun e w' => e = .returned (.bool true) ∧ Below w.heap.size w w' := by
  obtain ⟨hl, hwf, hlc, hcm⟩ := hz.ints
  have rn := wf_i64 wn
  clear wn hz hwf
  generalize zs.take len = xs at hl
  clear zs
  by_cases hlen : 40 < len
  · go_enter Try.func12, Try.ntmps12
    go_wp2_with fail
    refine (awake08 _).mono ?_
    rintro e w1 ⟨rfl, b1⟩
    go_wp2
    go_ret
    exact ⟨rfl, b1⟩
  have hh := Lib.hid hl
  have hhc := Lib.hid hcm
  have hx := hl.len
  clear hl hcm
  have hcs := nM_cases n
  have hd : ∃ M, nM n = M := ⟨_, rfl⟩
  have c1 := fun w h => counts_all la len cap xs n w h (by omega)
  have c2 := fun w h => last_all la len cap xs n w h (by omega)
  obtain ⟨M, eM⟩ := hd
  rw [eM] at hcs c1 c2
  have C1 := Lib.hid c1
  have C2 := Lib.hid c2
  clear eM c1 c2
  go_enter Try.func12, Try.ntmps12
  go_wp2_with fail
  refine (awake08 _).mono ?_
  rintro e w2 ⟨rfl, b2⟩
  have hl1 := Lib.hid (hh.out.below b2)
  have b1 := b2
  go_wp2_with fail
  refine (fair_any _ _ _ xs n win _ hl1.out (by omega)).mono ?_
  rintro e w3 ⟨bb, rfl, hb, rfl⟩
  have HB1 := Lib.hid hb
  clear hb
  go_wp2_with fail
  refine (rfair_any _ _ _ xs n win _ hl1.out (by omega) hlc hhc.out).mono ?_
  rintro e w3 ⟨bb2, rfl, hb, rfl⟩
  have hbb : bb2 = bb := by
    have a1 := HB1.out
    rw [← hb] at a1
    cases bb <;> cases bb2 <;> simp at a1 <;> rfl
  subst hbb
  clear hb HB1
  have hne : (bb2 != bb2) = false := by simp
  go_wp2_with fail
  refine (gap_all _ _ _ xs n rn.2 _ hl1.out (by omega)).mono ?_
  rintro e w3 ⟨g, rfl, hg, rfl⟩
  have HG := Lib.hid hg
  clear hg
  go_wp2_with fail
  refine (rgap_all _ _ _ xs n rn.2 _ hl1.out (by omega) hlc hhc.out).mono ?_
  rintro e w3 ⟨g2, rfl, hg, rfl⟩
  have hgg := HG.out.uniq hg
  subst hgg
  clear hg HG
  go_wp2_with fail
  refine (C1.out _ hl1.out).mono ?_
  rintro e w4 ⟨v1, rfl, o1, b4⟩
  have hl4 := Lib.hid (hl1.out.below b4)
  replace b4 := bl_then b1 (Nat.le_refl _) b4
  obtain ⟨A1, k1, rfl, i1⟩ := own_ints o1
  clear o1 hl1 b1 C1
  go_wp2_with fail
  refine (C2.out _ hl4.out).mono ?_
  rintro e w5 ⟨v2, rfl, o2, b5⟩
  have hl5 := Lib.hid (hl4.out.below b5)
  have i1 := i1.below b5
  replace b5 := bl_then b4 (Nat.le_refl _) b5
  obtain ⟨A2, k2, rfl, i2⟩ := own_ints o2
  clear o2 hl4 b4 C2
  have I1 := Lib.hid i1
  have I2 := Lib.hid i2
  clear i1 i2
  rcases hcs with ⟨h1, hM⟩ | ⟨h1, h2, hM⟩ | ⟨h1, h2, hM⟩
  · go_wp2
    go_ret
    exact ⟨by simp; omega, b5⟩
  · go_wp2
    go_ret
    exact ⟨by simp; omega, b5⟩
  · subst hM
    go_wp2_with fail
    go_loop [66] (fun c => ∃ x : Nat, x ≤ M ∧ c = .int .i64 x) (fun c => M - (intOf c).toNat)
    case atStart => exact ⟨0, by omega, rfl⟩
    case round =>
      obtain ⟨x, hk, rfl⟩ := hrel
      by_cases hlt : x < M
      · go_wp2
        go_loop [10, 11, 71] (fun kk aa c => ∃ i : Nat, i ≤ len ∧ kk = .int .i64 (cntI (xs.take i) x) ∧ aa = .int .i64 (lastI (xs.take i) x) ∧ c = .int .i64 i) (fun _ _ c => len - (intOf c).toNat)
        case atStart => exact ⟨0, by omega, rfl, rfl, rfl⟩
        case round =>
          obtain ⟨i, hi, rfl, rfl, rfl⟩ := hrel
          by_cases hil : i < len
          · obtain ⟨b, off, rfl, hc⟩ := hl5.out.get hil
            have ht := take_snoc xs i (by omega)
            have hcl := cntI_le (xs.take i) x
            have hle : (xs.take i).length = i := by rw [List.length_take]; omega
            by_cases he : xs.getD i 0 = x
            · have e1 := cntI_yes (xs.take i) x
              have e2 := lastI_snoc (xs.take i) x x
              rw [if_pos rfl, hle] at e2
              rw [he] at ht hc
              rw [← ht] at e1 e2
              have E1 := Lib.hid e1
              have E2 := Lib.hid e2
              clear ht he e1 e2 hx
              go_wp2
              go_round
              case rel => exact ⟨i + 1, by omega, by rw [E1.out], by rw [E2.out], by go_num⟩
              case measure => simp [intOf]; omega
            · have e1 := cntI_no (xs.take i) x _ he
              have e2 := lastI_snoc (xs.take i) x (xs.getD i 0)
              rw [if_neg he] at e2
              rw [← ht] at e1 e2
              have E1 := Lib.hid e1
              have E2 := Lib.hid e2
              have hb : (xs.getD i 0 == (x : Int)) = false := beq_eq_false_iff_ne.2 he
              generalize xs.getD i 0 = y at hb hc
              clear ht he e1 e2 hx
              go_wp2
              go_round
              case rel => exact ⟨i + 1, by omega, by rw [E1.out], by rw [E2.out], by go_num⟩
              case measure => simp [intOf]; omega
          · obtain rfl : i = len := by omega
            have ht : xs.take xs.length = xs := List.take_length
            rw [hx] at ht
            rw [ht]
            obtain ⟨b1, o1, rfl, g1⟩ := I1.out.get hlt
            obtain ⟨b2, o2, rfl, g2⟩ := I2.out.get hlt
            rw [cntRow_get _ _ _ hlt] at g1
            rw [lastRow_get _ _ _ hlt] at g2
            clear ht
            go_wp2
            exact ⟨⟨x + 1, by omega, by go_num⟩, by simp [intOf]; omega⟩
      · obtain rfl : x = M := by omega
        go_wp2
        go_ret
        exact ⟨rfl, b5⟩
end Go.Proofs.Ytgpkidffhglngaa
