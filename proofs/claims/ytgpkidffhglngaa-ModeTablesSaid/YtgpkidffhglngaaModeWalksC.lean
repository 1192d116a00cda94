/- The statements of chapter 1 (mode): ModeTables, ModeGroups: the walks. No condition. -/
import Derived.Test.YtgpkidffhglngaaRefB
namespace Go.Proofs.Ytgpkidffhglngaa
open Go.RowKit (wrap32 wrap64)
open Go.RowKit
def wantT (s : ByteArray) (i : Nat) : Int := if prsT s < i then (prsT s : Int) else 0
def wasT (s : ByteArray) (i : Nat) : Bool := decide (prsT s < i)
set_option maxHeartbeats 1000000 in
theorem modeTables_walk (m n : Int) (s : ByteArray) (w : World) : Calls Try.prog 11 #[.int .i64 m, .int .i64 n, .string s] w fun e w' => e = .returned (.bool true) ∧ Below w.heap.size w w' := by
  have HB := Below.refl w.heap.size w
  by_cases hs : 20 < s.size
  · go_enter Try.func11, Try.ntmps11
    go_wp2_with (first
      | (go_at_call 20; refine (awake01 _).mono ?_; rintro e w1 ⟨rfl, b1⟩; replace HB := below_then HB (Nat.le_refl _) b1; clear b1))
    go_ret
    exact ⟨rfl, HB⟩
  · go_enter Try.func11, Try.ntmps11
    go_wp2_with (first
      | (go_at_call 20; refine (awake01 _).mono ?_; rintro e w1 ⟨rfl, b1⟩; replace HB := below_then HB (Nat.le_refl _) b1; clear b1)
      | (go_at_call 38; refine (parse_any _ _).mono ?_; rintro e w1 ⟨rfl, b1⟩; replace HB := below_then HB (Nat.le_refl _) b1; clear b1))
    go_loopw [9, 10, 11] (fun a b c wr => ∃ i : Nat, i ≤ 7 ∧ a = .int .i64 (wantT s i) ∧ b = .bool (wasT s i) ∧ c = .int .i64 i ∧ Below w.heap.size w wr) (fun _ _ c _ => 7 - (intOf c).toNat)
    case atStart => exact ⟨0, by omega, by unfold wantT; rw [if_neg (by omega)], by unfold wasT; rw [decide_eq_false (by omega)], rfl, HB⟩
    case round =>
      clear HB
      obtain ⟨i, hi, rfl, rfl, rfl, HB⟩ := hrel
      by_cases hlt : i < 7
      · by_cases he : prsT s = i
        · have hst : ((nmB i).toList == s.toList) = true := by rw [← he]; exact str_eq (prsT_eq s (by omega))
          have e1 : wantT s (i + 1) = i := by unfold wantT; rw [if_pos (by omega), he]
          have e2 : wasT s (i + 1) = true := by unfold wasT; rw [decide_eq_true (by omega)]
          have E1 := Lib.hid e1
          have E2 := Lib.hid e2
          clear e1 e2 he
          go_wp2_with (first
            | (go_at_call 42; refine (rname_any _ _).mono ?_; rintro e w' ⟨rfl, rfl⟩))
          go_roundw
          case rel => exact ⟨i + 1, by omega, by rw [E1.out], by rw [E2.out], by go_num, HB⟩
          case measure => simp [intOf]; omega
        · have hst : ((nmB i).toList == s.toList) = false := str_ne (fun e => he (by rw [← e]; exact prsT_nm i (by omega)))
          have e1 : wantT s (i + 1) = wantT s i := by
            unfold wantT
            by_cases h : prsT s < i
            · rw [if_pos h, if_pos (by omega)]
            · rw [if_neg h, if_neg (by omega)]
          have e2 : wasT s (i + 1) = wasT s i := by unfold wasT; exact decide_eq_decide.2 (by omega)
          have E1 := Lib.hid e1
          have E2 := Lib.hid e2
          clear e1 e2
          go_wp2_with (first
            | (go_at_call 42; refine (rname_any _ _).mono ?_; rintro e w' ⟨rfl, rfl⟩))
          go_roundw
          case rel => exact ⟨i + 1, by omega, by rw [E1.out], by rw [E2.out], by go_num, HB⟩
          case measure => simp [intOf]; omega
      · obtain rfl : i = 7 := by omega
        rw [show wantT s 7 = prsI s from rfl, show wasT s 7 = prsB s from rfl]
        have hr := reT_range m
        have hw : decide (3 ≤ reT m) = (reT m == 3) := by
          rw [Bool.eq_iff_iff]; simp; omega
        have HW := Lib.hid hw
        clear hw hr hlt hi hs
        go_wp2_with (first
          | (go_at_call 40; refine (may_any _ _).mono ?_; rintro e w' ⟨rfl, rfl⟩)
          | (go_at_call 43; refine (rmay_any _ _).mono ?_; rintro e w' ⟨rfl, rfl⟩)
          | (go_at_call 34; refine (compat_any _ _ _).mono ?_; rintro e w1 ⟨rfl, b1⟩; replace HB := below_then HB (Nat.le_refl _) b1; clear b1)
          | (go_at_call 44; refine (rcompat_any _ _ _).mono ?_; rintro e w' ⟨rfl, rfl⟩)
          | (go_at_call 41; refine (sym_any _ _ _).mono ?_; rintro e w1 ⟨rfl, b1⟩; replace HB := below_then HB (Nat.le_refl _) b1; clear b1)
          | (go_at_call 45; refine (rsym_any _ _ _).mono ?_; rintro e w' ⟨rfl, rfl⟩)
          | (go_at_call 35; refine (parent_any _ _).mono ?_; rintro e w' ⟨rfl, rfl⟩)
          | (go_at_call 46; refine (rparent_any _ _).mono ?_; rintro e w' ⟨rfl, rfl⟩)
          | (go_at_call 36; refine (reads_any _ _).mono ?_; rintro e w1 ⟨rfl, b1⟩; replace HB := below_then HB (Nat.le_refl _) b1; clear b1)
          | (go_at_call 37; refine (writes_any _ _).mono ?_; rintro e w1 ⟨rfl, b1⟩; replace HB := below_then HB (Nat.le_refl _) b1; clear b1; rw [HW.out])
          | (go_at_call 47; refine (rre_any _ _).mono ?_; rintro e w1 ⟨rfl, b1⟩; replace HB := below_then HB (Nat.le_refl _) b1; clear b1)
          | (go_at_call 39; refine (name_any _ _).mono ?_; rintro e w1 ⟨rfl, b1⟩; replace HB := below_then HB (Nat.le_refl _) b1; clear b1)
          | (go_at_call 42; refine (rname_any _ _).mono ?_; rintro e w' ⟨rfl, rfl⟩))
        go_ret
        exact ⟨rfl, HB⟩
end Go.Proofs.Ytgpkidffhglngaa
