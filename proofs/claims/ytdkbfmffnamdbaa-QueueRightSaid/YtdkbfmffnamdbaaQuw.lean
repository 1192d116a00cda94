/- The statement QueueRight: its walk. No condition. -/
import Derived.Test.YtdkbfmffnamdbaaQuv
import Derived.BigQuiet
set_option linter.unusedVariables false
set_option linter.unusedSimpArgs false
namespace Go.Proofs.Ytdkbfmffnamdbaa
open Go.RowKit (wrap32 wrap64)
open Go.RowKit Go.Shelf Go.Sort
set_option maxRecDepth 100000 in
set_option maxHeartbeats 8000000 in
theorem queueRight_walk (a : Option Addr) (len cap : Nat) (css : List (List Value)) (w : World) (hf : FlatRow w ksQd a len cap css) :
    Calls Try.prog 6 #[.slice a len cap] w fun e w' => e = .returned (.bool true) ∧ Below w.heap.size w w' := by
  obtain ⟨L, hl, hcap, hcm, hnil⟩ := SR.flat (ks := ksQd) (enc := enQd) (ok := okQd) (s := 4) rfl (by omega) enQd_len decQd hf
  clear hf hnil
  by_cases hmany : (60 : Int) < len
  · clear hl hcap hcm
    go_enter Try.func6, Try.ntmps6
    go_wp2_with (go_at_call 7; refine (awake12 _).mono ?_; rintro e w1 ⟨rfl, hb1⟩)
    go_ret
    exact ⟨rfl, hb1⟩
  have hfew : ¬ ((len : Int) > 60) := hmany
  have hle : len ≤ 60 := by omega
  have hcm' : cap ≤ 9223372036854775807 := by unfold maxLen at hcm; exact hcm
  clear hmany hcm
  go_enter Try.func6, Try.ntmps6
  go_wp2_with (go_at_call 7; refine (awake12 _).mono ?_; rintro e w1 ⟨rfl, hb1⟩)
  have hq0 := QA.new w1
  have HB1 := bl_then hb1 (Nat.le_refl _) ((Below.refl w1.heap.size w1).alloc (Nat.le_refl _) (.cells #[.slice none 0 0, .slice none 0 0] 29))
  obtain ⟨q, hqe⟩ : ∃ q, q = w1.heap.size := ⟨_, rfl⟩
  rw [← hqe] at hq0 ⊢
  generalize w1.alloc (.cells #[.slice none 0 0, .slice none 0 0] 29) = w2 at hq0 HB1 ⊢
  have HQL : Hid (w.heap.size ≤ q) := Lib.hid (by rw [hqe]; exact hb1.size)
  clear hqe hb1
  go_loopw [26] (fun c wr => ∃ (k : Nat) (H : List Hd) (W : List Wt), k ≤ len ∧ c = .int .i64 k ∧ QA wr q H W ∧ QOk H W ∧ Stuck H W ∧ H.length + W.length ≤ k ∧ Below w.heap.size w wr) (fun c _ => len - (intOf c).toNat)
  case atStart => exact ⟨0, [], [], by omega, rfl, hq0, ⟨by decide, ⟨by simp, by simp, by simp⟩, by simp⟩, (by intro x h; cases h), by simp, HB1⟩
  case round =>
    clear hq0 HB1
    obtain ⟨k, H, W, hk, rfl, hq, hok, hst, hn, HB⟩ := hrel
    by_cases hlt : k < len
    · obtain ⟨b, off, x, rfl, _, hx, hokx, d0, d1, d2, d3⟩ := Qd_at (hl.below HB) hlt
      have al := (Below.refl wr.heap.size wr).alloc (Nat.le_refl _) (.cells #[.int .i64 x.kind, .int .i64 x.tx, .int .i64 x.mode, .int .i64 x.fl] 31)
      have hbx := Bk.new wr 31 #[.int .i64 x.kind, .int .i64 x.tx, .int .i64 x.mode, .int .i64 x.fl]
      have q0 := hbx.cell 0
      have q1 := hbx.cell 1
      have q2 := hbx.cell 2
      have q3 := hbx.cell 3
      have hqa := hq.below al
      have HBA := bl_then HB (Nat.le_refl _) al
      have HQA := Lib.hid hqa
      have HBX := Lib.hid HBA
      have HAL := Lib.hid al
      clear hbx hqa HBA al hx hq HB
      by_cases g3 : x.kind = 3
      · have g3' : (x.kind == 3) = true := by simp [g3]
        have hn4 : (releaseT H W x.tx).H.length + (releaseT H W x.tx).W.length ≤ k + 1 := by have := release_len H W x.tx; omega
        obtain ⟨ok4, st4⟩ := release_ok hok hst x.tx
        clear hok hst g3 hokx
        go_wp2_with fail
        refine (qrelease_any q H W x.tx _ HQA.out (by omega)).mono ?_
        rintro e w4 ⟨v, rfl, _, hq4, hk4⟩
        have HB4 := bl_keep HBX.out hk4 (fun i hi => by rw [hi]; exact HQL.out)
        generalize (releaseT H W x.tx).H = H4 at *
        generalize (releaseT H W x.tx).W = W4 at *
        clear HAL HBX HQA q0 q1 q2 q3 hk4 d0 d1 d2 d3
        have HOKH := Lib.hid hq4.okH
        have HOKW := Lib.hid hq4.okW
        have HHO := Lib.hid (qholds_any q H4 W4 w4 hq4 (by omega))
        have HWA := Lib.hid (fun W1 (hb : Below w4.heap.size w4 W1) => qwaits_any q H4 W4 W1 (hq4.below hb) (by omega))
        have HQ4 := Lib.hid hq4
        have HN4 := Lib.hid hn4
        have HOK4 := Lib.hid ok4
        have HST4 := Lib.hid st4
        have HB9 := Lib.hid HB4
        clear hq4 hn4 ok4 st4 HB4
        go_wp2_with (first
          | (go_at_call 25; refine HHO.out.mono ?_; rintro e w5 ⟨v, rfl, hown5, hb5⟩; have hcap1 := own_caps (s := 2) (A := none) (n := 0) (c := 0) (w := w5) (base := 0) (e := 82) (xs := []) (World.ownsRow_nil _ _ _ _); obtain ⟨A1, c1, rfl, hs1, _, _⟩ := SR.own (ok := okHd) enHd_len (by omega) hown5 HOKH.out; clear hcap1; have hcap1 := own_caps hown5; clear hown5)
          | (go_at_call 9; refine (HWA.out _ hb5).mono ?_; rintro e w6 ⟨v, rfl, hown6, hb6⟩; obtain ⟨A2, c2, rfl, hs2, _, _⟩ := SR.own (ok := okWt) enWt_len (by omega) hown6 HOKW.out; clear hown6; replace hs1 := hs1.below hb6; have hb7 := bl_then hb5 (Nat.le_refl _) hb6; clear hb5 hb6 HHO HWA))
        have hn1 : H4.length ≤ 900 := by have := HN4.out; omega
        have hn2 : W4.length ≤ 900 := by have := HN4.out; omega
        have HGR := Lib.hid (fun dq osq => gright_any A1 _ c1 H4 (grow (redrawn w6 dq) osq) (hs1.below (below_regrown _ _ _)) (by omega) hcap1.1 (by have := hcap1.2.1; unfold maxLen at this; exact this))
        rw [HOK4.out.h] at HGR
        have HRR := Lib.hid (fun dq osq => qright_yes A2 _ c2 W4 (grow (redrawn w6 dq) osq) (hs2.below (below_regrown _ _ _)) (by omega) HOK4.out.w)
        have HS1 := Lib.hid hs1
        have HS2 := Lib.hid hs2
        have HNN := Lib.hid hn1
        have HB7 := Lib.hid hb7
        obtain ⟨n1, hn1e⟩ : ∃ n1, n1 = H4.length := ⟨_, rfl⟩
        obtain ⟨n2, hn2e⟩ : ∃ n2, n2 = W4.length := ⟨_, rfl⟩
        rw [← hn1e] at HS1 HGR HNN ⊢
        rw [← hn2e] at HS2 HRR hn2 ⊢
        have HN2E := Lib.hid hn2e
        clear hs1 hs2 hn1 hb7 hcap1 hn1e hn2e
        have hreg : ∀ (F : Prop), F → F := fun _ h => h
        clear hreg
        by_cases hz2 : n2 = 0
        · subst hz2
          refine wp_region_quiet_below (by kernel_rfl) (by kernel_rfl) ?_
          repeat (go_big_quiet_step (first
            | (go_at_call 27; exact Calls.regrown_of (HGR.out _ _))
            | (go_at_call 28; exact Calls.regrown_of (HRR.out _ _))))
          refine wpQuiet_nil ?_
          intro _ hw'
          obtain ⟨⟨dq, osq⟩, hw''⟩ := hw'
          subst hw''
          have HE9 := Lib.hid (bl_then HB7.out (Nat.le_refl _) (below_regrown w6 dq osq))
          have hs1 := HS1.out.below (below_regrown w6 dq osq)
          have hs2 := HS2.out.below (below_regrown w6 dq osq)
          generalize grow (redrawn w6 dq) osq = w8 at HE9 hs1 hs2 ⊢
          clear HGR HRR HB7 HS1 HS2
          go_wp2
          go_loopw [83] (fun c wr => ∃ j : Nat, j ≤ 0 ∧ c = .int .i64 j ∧ Below w8.heap.size w8 wr) (fun c _ => 0 - (intOf c).toNat)
          case atStart => exact ⟨0, by omega, rfl, Below.refl _ _⟩
          case round =>
            obtain ⟨j, hj, rfl, HY⟩ := hrel
            by_cases hlt2 : j < 0
            · exact absurd hlt2 (Nat.not_lt_zero _)
            · obtain rfl : j = 0 := by omega
              have HEND := Lib.hid (bl_then HE9.out (Nat.le_refl _) HY)
              clear hs1 hs2 HE9 HY
              go_wp2
              go_roundw
              case rel => exact ⟨k + 1, H4, W4, by omega, by go_num, HQ4.out.below HEND.out, HOK4.out, HST4.out, HN4.out, bl_then HB9.out (Nat.le_refl _) HEND.out⟩
              case measure => simp [intOf]; omega
        · have hz3 : (0 : Int) < (n2 : Int) := by omega
          have hz4 : 0 < n2 := by omega
          have hz5 : decide ((0 : Int) < (n2 : Int)) = true := decide_eq_true hz3
          obtain ⟨b3, o3, z, rfl, _, hz0, _, d0, d1, d2, d3⟩ := Wt_at HS2.out (i := 0) (by omega)
          have hstk := HST4.out z (by rw [List.head?_eq_getElem?]; exact hz0)
          have HGO := Lib.hid (fun dq osq => ggoes_any A1 _ c1 H4 z.tx z.mode (grow (redrawn w6 dq) osq) (HS1.out.below (below_regrown _ _ _)) (by have := HNN.out; omega))
          rw [hstk] at HGO
          simp only [Nat.zero_mul, Nat.add_zero] at d0 d1
          have x0 := fun dq osq => cell_regrown d0 dq osq
          have x1 := fun dq osq => cell_regrown d1 dq osq
          clear hz2 hstk hz0 d0 d1 d2 d3
          refine wp_region_quiet_below (by kernel_rfl) (by kernel_rfl) ?_
          repeat (go_big_quiet_step (first
            | (go_at_call 27; exact Calls.regrown_of (HGR.out _ _))
            | (go_at_call 28; exact Calls.regrown_of (HRR.out _ _))
            | (go_at_call 29; exact Calls.regrown_of (HGO.out _ _))))
          refine wpQuiet_nil ?_
          intro _ hw'
          obtain ⟨⟨dq, osq⟩, hw''⟩ := hw'
          subst hw''
          clear x0 x1 HGO
          have HE9 := Lib.hid (bl_then HB7.out (Nat.le_refl _) (below_regrown w6 dq osq))
          have hs1 := HS1.out.below (below_regrown w6 dq osq)
          have hs2 := HS2.out.below (below_regrown w6 dq osq)
          generalize grow (redrawn w6 dq) osq = w8 at HE9 hs1 hs2 ⊢
          clear HGR HRR HB7 HS1 HS2
          go_wp2
          go_loopw [83] (fun c wr => ∃ j : Nat, j ≤ n2 ∧ c = .int .i64 j ∧ Below w8.heap.size w8 wr) (fun c _ => n2 - (intOf c).toNat)
          case atStart => exact ⟨0, by omega, rfl, Below.refl _ _⟩
          case round =>
            obtain ⟨j, hj, rfl, HY⟩ := hrel
            by_cases hlt2 : j < n2
            · obtain ⟨b4, o4, y, hA, _, hy, _, d0, d1, d2, d3⟩ := Wt_at (hs2.below HY) hlt2
              obtain ⟨rfl, rfl⟩ : b3 = b4 ∧ o3 = o4 := by simpa using hA
              have hyc := HOK4.out.c y (List.mem_of_getElem? hy)
              have hO9 := (Below.refl wr.heap.size wr).alloc (Nat.le_refl _) (.cells #[.int .i64 y.tx, .int .i64 y.mode, .bool y.conv, .bool y.inst] 37)
              have hyb := Bk.new wr 37 #[.int .i64 y.tx, .int .i64 y.mode, .bool y.conv, .bool y.inst]
              have HY1 := bl_then HY (Nat.le_refl _) hO9
              have HOF := Lib.hid (fun dq osq => gof_any A1 _ c1 H4 y.tx (grow (redrawn (wr.alloc (.cells #[.int .i64 y.tx, .int .i64 y.mode, .bool y.conv, .bool y.inst] 37)) dq) osq) (hs1.below (bl_then HY1 (Nat.le_refl _) (below_regrown _ _ _))) (by have := HNN.out; omega))
              have hcv : y.conv = (ofT H4 y.tx != 0) := hyc
              generalize ofT H4 y.tx = of9 at HOF hcv
              have x0 := fun dq osq => cell_regrown (v := .int .i64 y.tx) (hyb.cell 0) dq osq
              have HCV := Lib.hid hcv
              clear hyc hy hO9 hcv
              go_wp2_with fail
              clear d0 d1 d2 d3
              generalize wr.alloc (.cells #[.int .i64 y.tx, .int .i64 y.mode, .bool y.conv, .bool y.inst] 37) = wz at hyb HY1 HOF x0 ⊢
              generalize wr.heap.size = Bz at hyb x0 ⊢
              rcases Bool.eq_false_or_eq_true (of9 != 0) with hz | hz
              · -- the hold: true
                have x2 := fun dq osq => cell_regrown (v := .bool true) (by have h := hyb.cell 2; rw [HCV.out, hz] at h; exact h) dq osq
                clear hyb
                refine wp_region_quiet_below (by kernel_rfl) (by kernel_rfl) ?_
                repeat (go_big_quiet_step (first
                  | (go_at_call 30; exact Calls.regrown_of (HOF.out _ _))))
                refine wpQuiet_nil ?_
                intro _ hw'
                obtain ⟨⟨dq, osq⟩, hw''⟩ := hw'
                subst hw''
                go_wp2
                go_roundw
                case rel => exact ⟨j + 1, by omega, by go_num, bl_then HY1 (Nat.le_refl _) (below_regrown _ _ _)⟩
                case measure => simp [intOf]; omega
              · -- the hold: false
                have x2 := fun dq osq => cell_regrown (v := .bool false) (by have h := hyb.cell 2; rw [HCV.out, hz] at h; exact h) dq osq
                clear hyb
                refine wp_region_quiet_below (by kernel_rfl) (by kernel_rfl) ?_
                repeat (go_big_quiet_step (first
                  | (go_at_call 30; exact Calls.regrown_of (HOF.out _ _))))
                refine wpQuiet_nil ?_
                intro _ hw'
                obtain ⟨⟨dq, osq⟩, hw''⟩ := hw'
                subst hw''
                go_wp2
                go_roundw
                case rel => exact ⟨j + 1, by omega, by go_num, bl_then HY1 (Nat.le_refl _) (below_regrown _ _ _)⟩
                case measure => simp [intOf]; omega
            · obtain rfl : j = n2 := by omega
              have HEND := Lib.hid (bl_then HE9.out (Nat.le_refl _) HY)
              clear hs1 hs2 HE9 HY
              go_wp2
              go_roundw
              case rel => exact ⟨k + 1, H4, W4, by omega, by go_num, HQ4.out.below HEND.out, HOK4.out, HST4.out, HN4.out, bl_then HB9.out (Nat.le_refl _) HEND.out⟩
              case measure => simp [intOf]; omega
      have g3' : (x.kind == 3) = false := by simp [g3]
      by_cases g4 : x.kind = 4
      · have g4' : (x.kind == 4) = true := by simp [g4]
        have hn4 : (cancelT H W x.tx).H.length + (cancelT H W x.tx).W.length ≤ k + 1 := by have := cancel_len H W x.tx; omega
        obtain ⟨ok4, st4⟩ := cancel_ok hok hst x.tx
        clear hok hst g3 g4 hokx
        go_wp2_with fail
        refine (qcancel_any q H W x.tx _ HQA.out (by omega)).mono ?_
        rintro e w4 ⟨v, rfl, _, hq4, hk4⟩
        have HB4 := bl_keep HBX.out hk4 (fun i hi => by rw [hi]; exact HQL.out)
        generalize (cancelT H W x.tx).H = H4 at *
        generalize (cancelT H W x.tx).W = W4 at *
        clear HAL HBX HQA q0 q1 q2 q3 hk4 d0 d1 d2 d3
        have HOKH := Lib.hid hq4.okH
        have HOKW := Lib.hid hq4.okW
        have HHO := Lib.hid (qholds_any q H4 W4 w4 hq4 (by omega))
        have HWA := Lib.hid (fun W1 (hb : Below w4.heap.size w4 W1) => qwaits_any q H4 W4 W1 (hq4.below hb) (by omega))
        have HQ4 := Lib.hid hq4
        have HN4 := Lib.hid hn4
        have HOK4 := Lib.hid ok4
        have HST4 := Lib.hid st4
        have HB9 := Lib.hid HB4
        clear hq4 hn4 ok4 st4 HB4
        go_wp2_with (first
          | (go_at_call 25; refine HHO.out.mono ?_; rintro e w5 ⟨v, rfl, hown5, hb5⟩; have hcap1 := own_caps (s := 2) (A := none) (n := 0) (c := 0) (w := w5) (base := 0) (e := 82) (xs := []) (World.ownsRow_nil _ _ _ _); obtain ⟨A1, c1, rfl, hs1, _, _⟩ := SR.own (ok := okHd) enHd_len (by omega) hown5 HOKH.out; clear hcap1; have hcap1 := own_caps hown5; clear hown5)
          | (go_at_call 9; refine (HWA.out _ hb5).mono ?_; rintro e w6 ⟨v, rfl, hown6, hb6⟩; obtain ⟨A2, c2, rfl, hs2, _, _⟩ := SR.own (ok := okWt) enWt_len (by omega) hown6 HOKW.out; clear hown6; replace hs1 := hs1.below hb6; have hb7 := bl_then hb5 (Nat.le_refl _) hb6; clear hb5 hb6 HHO HWA))
        have hn1 : H4.length ≤ 900 := by have := HN4.out; omega
        have hn2 : W4.length ≤ 900 := by have := HN4.out; omega
        have HGR := Lib.hid (fun dq osq => gright_any A1 _ c1 H4 (grow (redrawn w6 dq) osq) (hs1.below (below_regrown _ _ _)) (by omega) hcap1.1 (by have := hcap1.2.1; unfold maxLen at this; exact this))
        rw [HOK4.out.h] at HGR
        have HRR := Lib.hid (fun dq osq => qright_yes A2 _ c2 W4 (grow (redrawn w6 dq) osq) (hs2.below (below_regrown _ _ _)) (by omega) HOK4.out.w)
        have HS1 := Lib.hid hs1
        have HS2 := Lib.hid hs2
        have HNN := Lib.hid hn1
        have HB7 := Lib.hid hb7
        obtain ⟨n1, hn1e⟩ : ∃ n1, n1 = H4.length := ⟨_, rfl⟩
        obtain ⟨n2, hn2e⟩ : ∃ n2, n2 = W4.length := ⟨_, rfl⟩
        rw [← hn1e] at HS1 HGR HNN ⊢
        rw [← hn2e] at HS2 HRR hn2 ⊢
        have HN2E := Lib.hid hn2e
        clear hs1 hs2 hn1 hb7 hcap1 hn1e hn2e
        have hreg : ∀ (F : Prop), F → F := fun _ h => h
        clear hreg
        by_cases hz2 : n2 = 0
        · subst hz2
          refine wp_region_quiet_below (by kernel_rfl) (by kernel_rfl) ?_
          repeat (go_big_quiet_step (first
            | (go_at_call 27; exact Calls.regrown_of (HGR.out _ _))
            | (go_at_call 28; exact Calls.regrown_of (HRR.out _ _))))
          refine wpQuiet_nil ?_
          intro _ hw'
          obtain ⟨⟨dq, osq⟩, hw''⟩ := hw'
          subst hw''
          have HE9 := Lib.hid (bl_then HB7.out (Nat.le_refl _) (below_regrown w6 dq osq))
          have hs1 := HS1.out.below (below_regrown w6 dq osq)
          have hs2 := HS2.out.below (below_regrown w6 dq osq)
          generalize grow (redrawn w6 dq) osq = w8 at HE9 hs1 hs2 ⊢
          clear HGR HRR HB7 HS1 HS2
          go_wp2
          go_loopw [83] (fun c wr => ∃ j : Nat, j ≤ 0 ∧ c = .int .i64 j ∧ Below w8.heap.size w8 wr) (fun c _ => 0 - (intOf c).toNat)
          case atStart => exact ⟨0, by omega, rfl, Below.refl _ _⟩
          case round =>
            obtain ⟨j, hj, rfl, HY⟩ := hrel
            by_cases hlt2 : j < 0
            · exact absurd hlt2 (Nat.not_lt_zero _)
            · obtain rfl : j = 0 := by omega
              have HEND := Lib.hid (bl_then HE9.out (Nat.le_refl _) HY)
              clear hs1 hs2 HE9 HY
              go_wp2
              go_roundw
              case rel => exact ⟨k + 1, H4, W4, by omega, by go_num, HQ4.out.below HEND.out, HOK4.out, HST4.out, HN4.out, bl_then HB9.out (Nat.le_refl _) HEND.out⟩
              case measure => simp [intOf]; omega
        · have hz3 : (0 : Int) < (n2 : Int) := by omega
          have hz4 : 0 < n2 := by omega
          have hz5 : decide ((0 : Int) < (n2 : Int)) = true := decide_eq_true hz3
          obtain ⟨b3, o3, z, rfl, _, hz0, _, d0, d1, d2, d3⟩ := Wt_at HS2.out (i := 0) (by omega)
          have hstk := HST4.out z (by rw [List.head?_eq_getElem?]; exact hz0)
          have HGO := Lib.hid (fun dq osq => ggoes_any A1 _ c1 H4 z.tx z.mode (grow (redrawn w6 dq) osq) (HS1.out.below (below_regrown _ _ _)) (by have := HNN.out; omega))
          rw [hstk] at HGO
          simp only [Nat.zero_mul, Nat.add_zero] at d0 d1
          have x0 := fun dq osq => cell_regrown d0 dq osq
          have x1 := fun dq osq => cell_regrown d1 dq osq
          clear hz2 hstk hz0 d0 d1 d2 d3
          refine wp_region_quiet_below (by kernel_rfl) (by kernel_rfl) ?_
          repeat (go_big_quiet_step (first
            | (go_at_call 27; exact Calls.regrown_of (HGR.out _ _))
            | (go_at_call 28; exact Calls.regrown_of (HRR.out _ _))
            | (go_at_call 29; exact Calls.regrown_of (HGO.out _ _))))
          refine wpQuiet_nil ?_
          intro _ hw'
          obtain ⟨⟨dq, osq⟩, hw''⟩ := hw'
          subst hw''
          clear x0 x1 HGO
          have HE9 := Lib.hid (bl_then HB7.out (Nat.le_refl _) (below_regrown w6 dq osq))
          have hs1 := HS1.out.below (below_regrown w6 dq osq)
          have hs2 := HS2.out.below (below_regrown w6 dq osq)
          generalize grow (redrawn w6 dq) osq = w8 at HE9 hs1 hs2 ⊢
          clear HGR HRR HB7 HS1 HS2
          go_wp2
          go_loopw [83] (fun c wr => ∃ j : Nat, j ≤ n2 ∧ c = .int .i64 j ∧ Below w8.heap.size w8 wr) (fun c _ => n2 - (intOf c).toNat)
          case atStart => exact ⟨0, by omega, rfl, Below.refl _ _⟩
          case round =>
            obtain ⟨j, hj, rfl, HY⟩ := hrel
            by_cases hlt2 : j < n2
            · obtain ⟨b4, o4, y, hA, _, hy, _, d0, d1, d2, d3⟩ := Wt_at (hs2.below HY) hlt2
              obtain ⟨rfl, rfl⟩ : b3 = b4 ∧ o3 = o4 := by simpa using hA
              have hyc := HOK4.out.c y (List.mem_of_getElem? hy)
              have hO9 := (Below.refl wr.heap.size wr).alloc (Nat.le_refl _) (.cells #[.int .i64 y.tx, .int .i64 y.mode, .bool y.conv, .bool y.inst] 37)
              have hyb := Bk.new wr 37 #[.int .i64 y.tx, .int .i64 y.mode, .bool y.conv, .bool y.inst]
              have HY1 := bl_then HY (Nat.le_refl _) hO9
              have HOF := Lib.hid (fun dq osq => gof_any A1 _ c1 H4 y.tx (grow (redrawn (wr.alloc (.cells #[.int .i64 y.tx, .int .i64 y.mode, .bool y.conv, .bool y.inst] 37)) dq) osq) (hs1.below (bl_then HY1 (Nat.le_refl _) (below_regrown _ _ _))) (by have := HNN.out; omega))
              have hcv : y.conv = (ofT H4 y.tx != 0) := hyc
              generalize ofT H4 y.tx = of9 at HOF hcv
              have x0 := fun dq osq => cell_regrown (v := .int .i64 y.tx) (hyb.cell 0) dq osq
              have HCV := Lib.hid hcv
              clear hyc hy hO9 hcv
              go_wp2_with fail
              clear d0 d1 d2 d3
              generalize wr.alloc (.cells #[.int .i64 y.tx, .int .i64 y.mode, .bool y.conv, .bool y.inst] 37) = wz at hyb HY1 HOF x0 ⊢
              generalize wr.heap.size = Bz at hyb x0 ⊢
              rcases Bool.eq_false_or_eq_true (of9 != 0) with hz | hz
              · -- the hold: true
                have x2 := fun dq osq => cell_regrown (v := .bool true) (by have h := hyb.cell 2; rw [HCV.out, hz] at h; exact h) dq osq
                clear hyb
                refine wp_region_quiet_below (by kernel_rfl) (by kernel_rfl) ?_
                repeat (go_big_quiet_step (first
                  | (go_at_call 30; exact Calls.regrown_of (HOF.out _ _))))
                refine wpQuiet_nil ?_
                intro _ hw'
                obtain ⟨⟨dq, osq⟩, hw''⟩ := hw'
                subst hw''
                go_wp2
                go_roundw
                case rel => exact ⟨j + 1, by omega, by go_num, bl_then HY1 (Nat.le_refl _) (below_regrown _ _ _)⟩
                case measure => simp [intOf]; omega
              · -- the hold: false
                have x2 := fun dq osq => cell_regrown (v := .bool false) (by have h := hyb.cell 2; rw [HCV.out, hz] at h; exact h) dq osq
                clear hyb
                refine wp_region_quiet_below (by kernel_rfl) (by kernel_rfl) ?_
                repeat (go_big_quiet_step (first
                  | (go_at_call 30; exact Calls.regrown_of (HOF.out _ _))))
                refine wpQuiet_nil ?_
                intro _ hw'
                obtain ⟨⟨dq, osq⟩, hw''⟩ := hw'
                subst hw''
                go_wp2
                go_roundw
                case rel => exact ⟨j + 1, by omega, by go_num, bl_then HY1 (Nat.le_refl _) (below_regrown _ _ _)⟩
                case measure => simp [intOf]; omega
            · obtain rfl : j = n2 := by omega
              have HEND := Lib.hid (bl_then HE9.out (Nat.le_refl _) HY)
              clear hs1 hs2 HE9 HY
              go_wp2
              go_roundw
              case rel => exact ⟨k + 1, H4, W4, by omega, by go_num, HQ4.out.below HEND.out, HOK4.out, HST4.out, HN4.out, bl_then HB9.out (Nat.le_refl _) HEND.out⟩
              case measure => simp [intOf]; omega
      have g4' : (x.kind == 4) = false := by simp [g4]
      have hn4 : (askT H W x.tx x.mode x.fl).H.length + (askT H W x.tx x.mode x.fl).W.length ≤ k + 1 := by have := ask_len H W x.tx x.mode x.fl; omega
      obtain ⟨ok4, st4⟩ := ask_ok hok hst x.tx x.mode x.fl
      have htx := hokx.2.1
      clear hok hst g3 g4 hokx
      go_wp2_with fail
      refine (qask_any q H W x.tx x.mode x.fl htx _ HQA.out (by omega) (by omega)).mono ?_
      rintro e w4 ⟨rfl, hq4, hk4⟩
      have HB4 := bl_keep HBX.out hk4 (fun i hi => by rw [hi]; exact HQL.out)
      generalize (askT H W x.tx x.mode x.fl).H = H4 at *
      generalize (askT H W x.tx x.mode x.fl).W = W4 at *
      clear HAL HBX HQA q0 q1 q2 q3 hk4 d0 d1 d2 d3
      have HOKH := Lib.hid hq4.okH
      have HOKW := Lib.hid hq4.okW
      have HHO := Lib.hid (qholds_any q H4 W4 w4 hq4 (by omega))
      have HWA := Lib.hid (fun W1 (hb : Below w4.heap.size w4 W1) => qwaits_any q H4 W4 W1 (hq4.below hb) (by omega))
      have HQ4 := Lib.hid hq4
      have HN4 := Lib.hid hn4
      have HOK4 := Lib.hid ok4
      have HST4 := Lib.hid st4
      have HB9 := Lib.hid HB4
      clear hq4 hn4 ok4 st4 HB4
      go_wp2_with (first
        | (go_at_call 25; refine HHO.out.mono ?_; rintro e w5 ⟨v, rfl, hown5, hb5⟩; have hcap1 := own_caps (s := 2) (A := none) (n := 0) (c := 0) (w := w5) (base := 0) (e := 82) (xs := []) (World.ownsRow_nil _ _ _ _); obtain ⟨A1, c1, rfl, hs1, _, _⟩ := SR.own (ok := okHd) enHd_len (by omega) hown5 HOKH.out; clear hcap1; have hcap1 := own_caps hown5; clear hown5)
        | (go_at_call 9; refine (HWA.out _ hb5).mono ?_; rintro e w6 ⟨v, rfl, hown6, hb6⟩; obtain ⟨A2, c2, rfl, hs2, _, _⟩ := SR.own (ok := okWt) enWt_len (by omega) hown6 HOKW.out; clear hown6; replace hs1 := hs1.below hb6; have hb7 := bl_then hb5 (Nat.le_refl _) hb6; clear hb5 hb6 HHO HWA))
      have hn1 : H4.length ≤ 900 := by have := HN4.out; omega
      have hn2 : W4.length ≤ 900 := by have := HN4.out; omega
      have HGR := Lib.hid (fun dq osq => gright_any A1 _ c1 H4 (grow (redrawn w6 dq) osq) (hs1.below (below_regrown _ _ _)) (by omega) hcap1.1 (by have := hcap1.2.1; unfold maxLen at this; exact this))
      rw [HOK4.out.h] at HGR
      have HRR := Lib.hid (fun dq osq => qright_yes A2 _ c2 W4 (grow (redrawn w6 dq) osq) (hs2.below (below_regrown _ _ _)) (by omega) HOK4.out.w)
      have HS1 := Lib.hid hs1
      have HS2 := Lib.hid hs2
      have HNN := Lib.hid hn1
      have HB7 := Lib.hid hb7
      obtain ⟨n1, hn1e⟩ : ∃ n1, n1 = H4.length := ⟨_, rfl⟩
      obtain ⟨n2, hn2e⟩ : ∃ n2, n2 = W4.length := ⟨_, rfl⟩
      rw [← hn1e] at HS1 HGR HNN ⊢
      rw [← hn2e] at HS2 HRR hn2 ⊢
      have HN2E := Lib.hid hn2e
      clear hs1 hs2 hn1 hb7 hcap1 hn1e hn2e
      have hreg : ∀ (F : Prop), F → F := fun _ h => h
      clear hreg
      by_cases hz2 : n2 = 0
      · subst hz2
        refine wp_region_quiet_below (by kernel_rfl) (by kernel_rfl) ?_
        repeat (go_big_quiet_step (first
          | (go_at_call 27; exact Calls.regrown_of (HGR.out _ _))
          | (go_at_call 28; exact Calls.regrown_of (HRR.out _ _))))
        refine wpQuiet_nil ?_
        intro _ hw'
        obtain ⟨⟨dq, osq⟩, hw''⟩ := hw'
        subst hw''
        have HE9 := Lib.hid (bl_then HB7.out (Nat.le_refl _) (below_regrown w6 dq osq))
        have hs1 := HS1.out.below (below_regrown w6 dq osq)
        have hs2 := HS2.out.below (below_regrown w6 dq osq)
        generalize grow (redrawn w6 dq) osq = w8 at HE9 hs1 hs2 ⊢
        clear HGR HRR HB7 HS1 HS2
        go_wp2
        go_loopw [83] (fun c wr => ∃ j : Nat, j ≤ 0 ∧ c = .int .i64 j ∧ Below w8.heap.size w8 wr) (fun c _ => 0 - (intOf c).toNat)
        case atStart => exact ⟨0, by omega, rfl, Below.refl _ _⟩
        case round =>
          obtain ⟨j, hj, rfl, HY⟩ := hrel
          by_cases hlt2 : j < 0
          · exact absurd hlt2 (Nat.not_lt_zero _)
          · obtain rfl : j = 0 := by omega
            have HEND := Lib.hid (bl_then HE9.out (Nat.le_refl _) HY)
            clear hs1 hs2 HE9 HY
            go_wp2
            go_roundw
            case rel => exact ⟨k + 1, H4, W4, by omega, by go_num, HQ4.out.below HEND.out, HOK4.out, HST4.out, HN4.out, bl_then HB9.out (Nat.le_refl _) HEND.out⟩
            case measure => simp [intOf]; omega
      · have hz3 : (0 : Int) < (n2 : Int) := by omega
        have hz4 : 0 < n2 := by omega
        have hz5 : decide ((0 : Int) < (n2 : Int)) = true := decide_eq_true hz3
        obtain ⟨b3, o3, z, rfl, _, hz0, _, d0, d1, d2, d3⟩ := Wt_at HS2.out (i := 0) (by omega)
        have hstk := HST4.out z (by rw [List.head?_eq_getElem?]; exact hz0)
        have HGO := Lib.hid (fun dq osq => ggoes_any A1 _ c1 H4 z.tx z.mode (grow (redrawn w6 dq) osq) (HS1.out.below (below_regrown _ _ _)) (by have := HNN.out; omega))
        rw [hstk] at HGO
        simp only [Nat.zero_mul, Nat.add_zero] at d0 d1
        have x0 := fun dq osq => cell_regrown d0 dq osq
        have x1 := fun dq osq => cell_regrown d1 dq osq
        clear hz2 hstk hz0 d0 d1 d2 d3
        refine wp_region_quiet_below (by kernel_rfl) (by kernel_rfl) ?_
        repeat (go_big_quiet_step (first
          | (go_at_call 27; exact Calls.regrown_of (HGR.out _ _))
          | (go_at_call 28; exact Calls.regrown_of (HRR.out _ _))
          | (go_at_call 29; exact Calls.regrown_of (HGO.out _ _))))
        refine wpQuiet_nil ?_
        intro _ hw'
        obtain ⟨⟨dq, osq⟩, hw''⟩ := hw'
        subst hw''
        clear x0 x1 HGO
        have HE9 := Lib.hid (bl_then HB7.out (Nat.le_refl _) (below_regrown w6 dq osq))
        have hs1 := HS1.out.below (below_regrown w6 dq osq)
        have hs2 := HS2.out.below (below_regrown w6 dq osq)
        generalize grow (redrawn w6 dq) osq = w8 at HE9 hs1 hs2 ⊢
        clear HGR HRR HB7 HS1 HS2
        go_wp2
        go_loopw [83] (fun c wr => ∃ j : Nat, j ≤ n2 ∧ c = .int .i64 j ∧ Below w8.heap.size w8 wr) (fun c _ => n2 - (intOf c).toNat)
        case atStart => exact ⟨0, by omega, rfl, Below.refl _ _⟩
        case round =>
          obtain ⟨j, hj, rfl, HY⟩ := hrel
          by_cases hlt2 : j < n2
          · obtain ⟨b4, o4, y, hA, _, hy, _, d0, d1, d2, d3⟩ := Wt_at (hs2.below HY) hlt2
            obtain ⟨rfl, rfl⟩ : b3 = b4 ∧ o3 = o4 := by simpa using hA
            have hyc := HOK4.out.c y (List.mem_of_getElem? hy)
            have hO9 := (Below.refl wr.heap.size wr).alloc (Nat.le_refl _) (.cells #[.int .i64 y.tx, .int .i64 y.mode, .bool y.conv, .bool y.inst] 37)
            have hyb := Bk.new wr 37 #[.int .i64 y.tx, .int .i64 y.mode, .bool y.conv, .bool y.inst]
            have HY1 := bl_then HY (Nat.le_refl _) hO9
            have HOF := Lib.hid (fun dq osq => gof_any A1 _ c1 H4 y.tx (grow (redrawn (wr.alloc (.cells #[.int .i64 y.tx, .int .i64 y.mode, .bool y.conv, .bool y.inst] 37)) dq) osq) (hs1.below (bl_then HY1 (Nat.le_refl _) (below_regrown _ _ _))) (by have := HNN.out; omega))
            have hcv : y.conv = (ofT H4 y.tx != 0) := hyc
            generalize ofT H4 y.tx = of9 at HOF hcv
            have x0 := fun dq osq => cell_regrown (v := .int .i64 y.tx) (hyb.cell 0) dq osq
            have HCV := Lib.hid hcv
            clear hyc hy hO9 hcv
            go_wp2_with fail
            clear d0 d1 d2 d3
            generalize wr.alloc (.cells #[.int .i64 y.tx, .int .i64 y.mode, .bool y.conv, .bool y.inst] 37) = wz at hyb HY1 HOF x0 ⊢
            generalize wr.heap.size = Bz at hyb x0 ⊢
            rcases Bool.eq_false_or_eq_true (of9 != 0) with hz | hz
            · -- the hold: true
              have x2 := fun dq osq => cell_regrown (v := .bool true) (by have h := hyb.cell 2; rw [HCV.out, hz] at h; exact h) dq osq
              clear hyb
              refine wp_region_quiet_below (by kernel_rfl) (by kernel_rfl) ?_
              repeat (go_big_quiet_step (first
                | (go_at_call 30; exact Calls.regrown_of (HOF.out _ _))))
              refine wpQuiet_nil ?_
              intro _ hw'
              obtain ⟨⟨dq, osq⟩, hw''⟩ := hw'
              subst hw''
              go_wp2
              go_roundw
              case rel => exact ⟨j + 1, by omega, by go_num, bl_then HY1 (Nat.le_refl _) (below_regrown _ _ _)⟩
              case measure => simp [intOf]; omega
            · -- the hold: false
              have x2 := fun dq osq => cell_regrown (v := .bool false) (by have h := hyb.cell 2; rw [HCV.out, hz] at h; exact h) dq osq
              clear hyb
              refine wp_region_quiet_below (by kernel_rfl) (by kernel_rfl) ?_
              repeat (go_big_quiet_step (first
                | (go_at_call 30; exact Calls.regrown_of (HOF.out _ _))))
              refine wpQuiet_nil ?_
              intro _ hw'
              obtain ⟨⟨dq, osq⟩, hw''⟩ := hw'
              subst hw''
              go_wp2
              go_roundw
              case rel => exact ⟨j + 1, by omega, by go_num, bl_then HY1 (Nat.le_refl _) (below_regrown _ _ _)⟩
              case measure => simp [intOf]; omega
          · obtain rfl : j = n2 := by omega
            have HEND := Lib.hid (bl_then HE9.out (Nat.le_refl _) HY)
            clear hs1 hs2 HE9 HY
            go_wp2
            go_roundw
            case rel => exact ⟨k + 1, H4, W4, by omega, by go_num, HQ4.out.below HEND.out, HOK4.out, HST4.out, HN4.out, bl_then HB9.out (Nat.le_refl _) HEND.out⟩
            case measure => simp [intOf]; omega
    · obtain rfl : k = len := by omega
      have HZ := Lib.hid HB
      clear hq hok hst hl HB
      go_wp2_with (first
        | (go_at_call 8; refine (qask_nil _ _ _ _).mono ?_; rintro e _ ⟨rfl, rfl⟩)
        | (go_at_call 11; refine (qrelease_nil _ _).mono ?_; rintro e _ ⟨rfl, rfl⟩)
        | (go_at_call 21; refine (qcancel_nil _ _).mono ?_; rintro e _ ⟨rfl, rfl⟩)
        | (go_at_call 14; refine (qsize_nil _).mono ?_; rintro e w5 ⟨rfl, hb5⟩; have hz5 := bl_then HZ.out (Nat.le_refl _) hb5)
        | (go_at_call 13; refine (qmode_nil _ _).mono ?_; rintro e w6 ⟨rfl, hb6⟩; have hz6 := bl_then hz5 (Nat.le_refl _) hb6)
        | (go_at_call 23; refine (qcopy_nil _).mono ?_; rintro e _ ⟨rfl, rfl⟩)
        | (go_at_call 25; refine (qholds_nil _).mono ?_; rintro e w7 ⟨v, rfl, hown7, hb7⟩; have hz7 := bl_then hz6 (Nat.le_refl _) hb7; obtain ⟨A7, c7, rfl, _, _, _⟩ := SR.own (ok := okHd) enHd_len (by omega) hown7 (by intro x h; cases h))
        | (go_at_call 9; refine (qwaits_nil _).mono ?_; rintro e w8 ⟨v, rfl, hown8, hb8⟩; have hz8 := bl_then hz7 (Nat.le_refl _) hb8; obtain ⟨A8, c8, rfl, _, _, _⟩ := SR.own (ok := okWt) enWt_len (by omega) hown8 (by intro x h; cases h)))
      go_ret
      exact ⟨rfl, hz8⟩
end Go.Proofs.Ytdkbfmffnamdbaa
