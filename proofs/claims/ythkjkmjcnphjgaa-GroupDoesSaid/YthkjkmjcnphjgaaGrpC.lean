/- The statements GroupLess, GroupStays: the walks. No condition. -/
import Derived.Test.YthkjkmjcnphjgaaGrpB
import Derived.Lib.QuietBelow
import Derived.Deep.QuietTactic
import Derived.BigQuiet
set_option linter.unusedVariables false
set_option linter.unusedSimpArgs false
namespace Go.Proofs.Ythkjkmjcnphjgaa
open Go.RowKit (wrap32 wrap64)
open Go.RowKit Go.Shelf Go.Sort
theorem few11 (a : Option Addr) (len cap : Nat) (w : World) (h : len ≤ maxLen) : Calls Try.prog 37 #[.slice a len cap] w fun e w' => e = .returned (.bool (decide ((len : Int) ≤ 30))) ∧ w = w' := by
  unfold maxLen at h
  go_enter Try.func37, Try.ntmps37
  go_wp2
  go_ret
  exact ⟨rfl, rfl⟩
set_option maxHeartbeats 1000000 in
theorem awake11 (w : World) : Calls Try.prog 36 #[] w fun e w' => e = .returned (.bool true) ∧ Below w.heap.size w w' := by
  have h1 := SR.made (ok := okHd) enHd_len w 65 #[.int .i64 1, .int .i64 3, .int .i64 2, .int .i64 2] [⟨1, 3⟩, ⟨2, 2⟩] rfl (by decide) (by decide)
  have hO : Below w.heap.size w (w.alloc (.cells #[.int .i64 1, .int .i64 3, .int .i64 2, .int .i64 2] 65)) := (Below.refl _ _).alloc (Nat.le_refl _) _
  have c1 := gmode_any _ 2 2 _ _ h1 (by omega)
  have e1 : modeT [⟨1, 3⟩, ⟨2, 2⟩] = 4 := by decide +kernel
  rw [e1] at c1
  have C1 := Lib.hid c1
  have h2 := fun W => SR.made (ok := okHd) enHd_len W 65 #[.int .i64 1, .int .i64 6] [⟨1, 6⟩] rfl (by decide) (by decide)
  have c2 := fun W => ggoes_any _ 1 1 _ 2 1 _ (h2 W) (by omega)
  have e2 : goesT [⟨1, 6⟩] 2 1 = false := by decide +kernel
  rw [e2] at c2
  have C2 := Lib.hid c2
  clear h1 c1 e1 h2 c2 e2
  go_enter Try.func36, Try.ntmps36
  go_wp2_with (first
    | (go_at_call 40; refine C1.out.mono ?_; rintro e w1 ⟨rfl, hb1⟩)
    | (go_at_call 41; refine (C2.out _).mono ?_; rintro e w2 ⟨rfl, hb2⟩))
  go_ret
  have hb1' := bl_then hO (Nat.le_refl _) hb1
  exact ⟨rfl, bl_then (bl_then hb1' (Nat.le_refl _) ((Below.refl _ _).alloc (Nat.le_refl _) (.cells #[.int .i64 1, .int .i64 6] 65))) (Nat.le_refl _) hb2⟩
set_option maxHeartbeats 2000000 in
theorem groupLess_walk (a : Option Addr) (len cap : Nat) (css : List (List Value)) (tx m away : Int) (w : World) (hf : FlatRow w ksHd a len cap css) :
    Calls Try.prog 7 #[.slice a len cap, .int .i64 tx, .int .i64 m, .int .i64 away] w fun e w' => e = .returned (.bool true) ∧ Below w.heap.size w w' := by
  obtain ⟨L, hl, hlc, hcm, hnil⟩ := SR.flat (s := 2) rfl (by omega) enHd_len decHd hf
  clear hf
  have hmax := hl.max
  by_cases h30 : 30 < len
  · have hd : decide ((len : Int) ≤ 30) = false := by simp; omega
    have hfew := fun w => few11 a len cap w hmax
    rw [hd] at hfew
    have HF := Lib.hid hfew
    clear hd hfew hl h30
    go_enter Try.func7, Try.ntmps7
    go_wp2_with (first
      | (go_at_call 36; refine (awake11 _).mono ?_; rintro e w1 ⟨rfl, hb1⟩)
      | (go_at_call 37; refine (HF.out _).mono ?_; rintro e _ ⟨rfl, rfl⟩))
    go_ret
    exact ⟨rfl, hb1⟩
  · have hd : decide ((len : Int) ≤ 30) = true := by simp; omega
    have hfew := fun w => few11 a len cap w hmax
    rw [hd] at hfew
    have HF := Lib.hid hfew
    have hll := hl.len
    have HLL := Lib.hid hll
    clear hd hfew hll
    go_enter Try.func7, Try.ntmps7
    go_wp2_with (first
      | (go_at_call 36; refine (awake11 _).mono ?_; rintro e w1 ⟨rfl, hb1⟩)
      | (go_at_call 37; refine (HF.out _).mono ?_; rintro e _ ⟨rfl, rfl⟩)
      | (go_at_call 38; refine (gdrop_any a len cap L away _ (hl.below hb1) hnil (by omega)).mono ?_; rintro e w2 ⟨v, rfl, hown, hb2⟩; obtain ⟨A, c, rfl, hsl, hAn, _⟩ := SR.own (ok := okHd) enHd_len (by omega) hown (fun x hx => hl.all x (List.mem_filter.1 hx).1)))
    have HB2 := bl_then hb1 (Nat.le_refl _) hb2
    have hlw := hl.below HB2
    have hdl : (dropT L away).length ≤ 30 := Nat.le_trans (List.length_filter_le _ _) (by rw [HLL.out]; omega)
    clear hown hb1 hb2 hl
    go_loopw [22] (fun c wr => ∃ k : Nat, k ≤ len ∧ c = .int .i64 k ∧ Below w2.heap.size w2 wr) (fun c _ => len - (intOf c).toNat)
    case atStart => exact ⟨0, by omega, rfl, Below.refl _ _⟩
    case round =>
      obtain ⟨k, hk, rfl, HC⟩ := hrel
      by_cases hlt : k < len
      · obtain ⟨b, off, x, rfl, _, hx, _, d0, d1⟩ := Hd_at (hlw.below HC) hlt
        have hO : Below wr.heap.size wr (wr.alloc (.cells #[.int .i64 x.tx, .int .i64 x.mode] 65)) := (Below.refl _ _).alloc (Nat.le_refl _) _
        have HC1 := bl_then HC (Nat.le_refl _) hO
        have q1 := (Bk.new wr 65 #[.int .i64 x.tx, .int .i64 x.mode]).cell 1
        have hcov := mode_cov L x (List.mem_of_getElem? hx)
        have hmode := fun dq osq => gmode_any _ len cap L (grow (redrawn (wr.alloc (.cells #[.int .i64 x.tx, .int .i64 x.mode] 65)) dq) osq) (hlw.below (bl_then HC1 (Nat.le_refl _) (below_regrown _ _ _))) (by omega)
        have hcv := fun W => rcovers_any (modeT L) x.mode W
        rw [hcov] at hcv
        have hmay := fun W => rmay_any x.mode W
        have HM := Lib.hid hmode
        have HV := Lib.hid hcv
        have z1 := fun dq osq => cell_regrown q1 dq osq
        clear hx hO hcov hmode hcv hlw
        generalize modeT L = M at HM HV
        cases hmb : mayB x.mode with
        | true =>
          rw [hmb] at hmay
          have HY := Lib.hid hmay
          clear hmay hmb
          go_wp2_with fail
          refine wp_region_quiet_below (by kernel_rfl) (by kernel_rfl) ?_
          repeat (go_big_quiet_step (first
            | (go_at_call 39; exact Calls.regrown_of ((HY.out _).mono fun _ _ h => ⟨h.1, by rw [← h.2]; exact Below.refl _ _⟩))
            | (go_at_call 40; exact Calls.regrown_of (HM.out _ _))
            | (go_at_call 34; exact Calls.regrown_of (HV.out _))))
          refine wpQuiet_nil ?_
          intro _ hw'
          obtain ⟨⟨dq, osq⟩, hw''⟩ := hw'
          subst hw''
          go_wp2
          go_roundw
          case rel => exact ⟨k + 1, by omega, by go_num, bl_then HC1 (Nat.le_refl _) (below_regrown _ _ _)⟩
          case measure => simp [intOf]; omega
        | false =>
          rw [hmb] at hmay
          have HY := Lib.hid hmay
          clear hmay hmb
          go_wp2_with fail
          refine wp_region_quiet_below (by kernel_rfl) (by kernel_rfl) ?_
          repeat (go_big_quiet_step (first
            | (go_at_call 39; exact Calls.regrown_of ((HY.out _).mono fun _ _ h => ⟨h.1, by rw [← h.2]; exact Below.refl _ _⟩))))
          refine wpQuiet_nil ?_
          intro _ hw'
          obtain ⟨⟨dq, osq⟩, hw''⟩ := hw'
          subst hw''
          go_wp2
          go_roundw
          case rel => exact ⟨k + 1, by omega, by go_num, bl_then HC1 (Nat.le_refl _) (below_regrown _ _ _)⟩
          case measure => simp [intOf]; omega
      · obtain rfl : k = len := by omega
        have hG1 := ggoes_any a k cap L tx m _ (hlw.below HC) (by omega)
        have hG2 := fun W (hb : Below w2.heap.size w2 W) => ggoes_any A _ c (dropT L away) tx m W (hsl.below hb) (by omega)
        have hM1 := fun W (hb : Below w2.heap.size w2 W) => gmode_any a k cap L W (hlw.below hb) (by omega)
        have hM2 := fun W (hb : Below w2.heap.size w2 W) => gmode_any A _ c (dropT L away) W (hsl.below hb) (by omega)
        have hV := fun W => rcovers_any (modeT L) (modeT (dropT L away)) W
        rw [drop_cov L away] at hV
        have hO := fun W (hb : Below w2.heap.size w2 W) => gof_any A _ c (dropT L away) away W (hsl.below hb) (by omega)
        rw [drop_of L away] at hO
        have hgg := drop_goes L tx m away
        have HM1 := Lib.hid hM1
        have HM2 := Lib.hid hM2
        have HV := Lib.hid hV
        have HO := Lib.hid hO
        cases hg : goesT L tx m with
        | true =>
          rw [hg] at hG1
          have h2 := hgg hg
          rw [h2] at hG2
          have HG1 := Lib.hid hG1
          have HG2 := Lib.hid hG2
          clear hM1 hM2 hV hO hgg hG1 hG2 hg h2 hlw hsl
          go_wp2_with (first
            | (go_at_call_of 41 (Value.slice a k cap); refine HG1.out.mono ?_; rintro e w3 ⟨rfl, hb3⟩; have HC3 := bl_then HC (Nat.le_refl _) hb3)
            | (go_at_call_of 41 (Value.slice A (dropT L away).length c); refine (HG2.out _ HC3).mono ?_; rintro e w4 ⟨rfl, hb4⟩; have HC4 := bl_then HC3 (Nat.le_refl _) hb4)
            | (go_at_call_of 40 (Value.slice a k cap); refine (HM1.out _ HC4).mono ?_; rintro e w5 ⟨rfl, hb5⟩; have HC5 := bl_then HC4 (Nat.le_refl _) hb5)
            | (go_at_call_of 40 (Value.slice A (dropT L away).length c); refine (HM2.out _ HC5).mono ?_; rintro e w6 ⟨rfl, hb6⟩; have HC6 := bl_then HC5 (Nat.le_refl _) hb6)
            | (go_at_call 34; refine (HV.out _).mono ?_; rintro e w7 ⟨rfl, hb7⟩; have HC7 := bl_then HC6 (Nat.le_refl _) hb7)
            | (go_at_call 42; refine (HO.out _ HC7).mono ?_; rintro e w8 ⟨rfl, hb8⟩; have HC8 := bl_then HC7 (Nat.le_refl _) hb8))
          go_ret
          exact ⟨rfl, bl_then HB2 (Nat.le_refl _) HC8⟩
        | false =>
          rw [hg] at hG1
          have HG1 := Lib.hid hG1
          clear hM1 hM2 hV hO hgg hG1 hG2 hg hlw hsl
          go_wp2_with (first
            | (go_at_call_of 41 (Value.slice a k cap); refine HG1.out.mono ?_; rintro e w3 ⟨rfl, hb3⟩; have HC3 := bl_then HC (Nat.le_refl _) hb3)
            | (go_at_call_of 40 (Value.slice a k cap); refine (HM1.out _ HC3).mono ?_; rintro e w5 ⟨rfl, hb5⟩; have HC5 := bl_then HC3 (Nat.le_refl _) hb5)
            | (go_at_call_of 40 (Value.slice A (dropT L away).length c); refine (HM2.out _ HC5).mono ?_; rintro e w6 ⟨rfl, hb6⟩; have HC6 := bl_then HC5 (Nat.le_refl _) hb6)
            | (go_at_call 34; refine (HV.out _).mono ?_; rintro e w7 ⟨rfl, hb7⟩; have HC7 := bl_then HC6 (Nat.le_refl _) hb7)
            | (go_at_call 42; refine (HO.out _ HC7).mono ?_; rintro e w8 ⟨rfl, hb8⟩; have HC8 := bl_then HC7 (Nat.le_refl _) hb8))
          go_ret
          exact ⟨rfl, bl_then HB2 (Nat.le_refl _) HC8⟩
end Go.Proofs.Ythkjkmjcnphjgaa
