/- need: Plan. No condition. -/
import Derived.Test.YthkjkmjcnphjgaaNeed
import Derived.Deep.DeepCutAuto
set_option linter.unusedVariables false
set_option linter.unusedSimpArgs false
namespace Go.Proofs.Ythkjkmjcnphjgaa
open Go.RowKit (wrap32 wrap64)
open Go.RowKit Go.Shelf
theorem planW_at (L : List Lk) (p : Pt) (m : Int) (a : Pt) (ws : List Pt) (had : Int) (hh : needOf L a = had) (ha : a = p) : planW L p m (a :: ws) = (if covT had (supT had m) then [] else [⟨a.n0, a.n1, a.n2, a.n3, a.dep, supT had m⟩]) ++ planW L p m ws := by
  conv => lhs; unfold planW
  rw [if_pos ha, hh]
theorem planW_stop (L : List Lk) (p : Pt) (m : Int) (a : Pt) (ws : List Pt) (had : Int) (hh : needOf L a = had) (ha : ¬ a = p) (hr : reT m ≤ reT had) : planW L p m (a :: ws) = [] := by
  conv => lhs; unfold planW
  rw [if_neg ha, hh, if_pos hr]
theorem planW_go (L : List Lk) (p : Pt) (m : Int) (a : Pt) (ws : List Pt) (had : Int) (hh : needOf L a = had) (ha : ¬ a = p) (hr : ¬ reT m ≤ reT had) : planW L p m (a :: ws) = (if covT had (supT had (parT m)) then [] else [⟨a.n0, a.n1, a.n2, a.n3, a.dep, supT had (parT m)⟩]) ++ planW L p m ws := by
  conv => lhs; unfold planW
  rw [if_neg ha, hh, if_neg hr]
set_option maxRecDepth 100000 in
set_option maxHeartbeats 4000000 in
theorem plan_yes (a : Option Addr) (len cap : Nat) (L : List Lk) (p : Pt) (m : Int) (hp : okPt p) (w : World) (hl : Lks w a len L) (hn : len ≤ 1000) (hm : mayP p = true) (ho : okMode m = true) :
    Calls Try.prog 32 #[.slice a len cap, .agg (ptA p), .int .i64 m] w (PlanRet w L p m) := by
  have hO : Below w.heap.size w (w.alloc (.cells (ptA p) 51)) := (Below.refl _ _).alloc (Nat.le_refl _) _
  have hb := Bk.new w 51 (ptA p)
  have c0 := hb.cell 0
  have c1 := hb.cell 1
  have c2 := hb.cell 2
  have c3 := hb.cell 3
  have c4 := hb.cell 4
  have hmay := fun W => pmay_any p W
  rw [hm] at hmay
  have HM := Lib.hid hmay
  have hall := okPt_ways p hp
  have hwl := ways_len p
  have hret : ∀ v W, W.ownsRow w.heap.size 57 6 v (planW L p m (ways p)).length (flatV enLk (planW L p m (ways p))) → Below w.heap.size w W → PlanRet w L p m (.returned (.tuple #[v, .int .i64 0])) W := by
    intro v W h1 h2
    have e1 : planT L p m = planW L p m (ways p) := by unfold planT; rw [hm, ho]; rfl
    have e2 : planE p m = 0 := by unfold planE; rw [hm, ho]; rfl
    exact ⟨v, by rw [e2], by rw [e1]; exact h1, h2⟩
  have HW := Lib.hid (fun W => pways_any p W)
  have HRT := Lib.hid hret
  have HAll := Lib.hid hall
  have h0 : (m == 3) = true ∨ ((m == 3) = false ∧ (m == 5) = true) ∨ ((m == 3) = false ∧ (m == 5) = false ∧ (m == 6) = true) := by
    unfold okMode at ho
    cases h3 : (m == 3) <;> cases h5 : (m == 5) <;> cases h6 : (m == 6) <;> simp_all
  have h3 : ((m != 3) = false) ∨ ((m != 3) = true ∧ (m != 5) = false) ∨ ((m != 3) = true ∧ (m != 5) = true ∧ (m != 6) = false) := by unfold bne; simpa using h0
  clear hmay hall hret h0 ho hm
  generalize hwp : ways p = ws at HW HRT HAll hwl
  obtain ⟨i0, hi, hz0, hz1, hz2⟩ := info_parts Try.infoLk
  clear hwp
  go_enter Try.func32, Try.ntmps32
  go_wp2
  go_step3
  go_upto_region 1 with fail
  go_cut [28] from 14 to 28 (fun s28 wx => s28 = .bool false ∧ Bk wx w.heap.size 51 (ptA p) ∧ Below w.heap.size w wx)
  case first =>
    clear hl
    rcases h3 with h3 | ⟨h3, h5⟩ | ⟨h3, h5, h6⟩
    all_goals
      go_wp2_with (go_at_call 74; refine (HM.out _).mono ?_; rintro e w1 ⟨rfl, hb1⟩; have hbp1 := hb.below hb1; clear c0 c1 c2 c3 c4)
      go_meet
      exact ⟨rfl, hbp1, bl_then hO (Nat.le_refl _) hb1⟩
  case rest =>
    obtain ⟨rfl, hbp1, HB1⟩ := hcut
    clear c0 c1 c2 c3 c4 hO hb h3
    have q0 := hbp1.cell 0
    have q1 := hbp1.cell 1
    have q2 := hbp1.cell 2
    have q3 := hbp1.cell 3
    have q4 := hbp1.cell 4
    go_wp2
    go_step3
    go_wp2_with (go_at_call 75; refine (HW.out _).mono ?_; rintro e wq ⟨vw, rfl, hownw, hb2⟩; obtain ⟨A, c, rfl, hs, _, _⟩ := SR.own (ok := okPt) enPt_len (by omega) hownw HAll.out; clear hownw)
    have HB2 := bl_then HB1 (Nat.le_refl _) hb2
    have hbp2 := hbp1.below hb2
    have hlw := hl.below HB2
    clear q0 q1 q2 q3 q4 HB1 hb2 hbp1 hl
    have HQ := hbp2.lt
    go_loopw [8, 32] (fun v c wr => ∃ (k n : Nat) (M : List Lk), k ≤ ws.length ∧ c = .int .i64 k ∧ n ≤ k ∧ Hid (M ++ planW L p m (ws.drop k) = planW L p m ws) ∧ wr.ownsRow wq.heap.size 57 6 v n (flatV enLk M) ∧ Bk wr w.heap.size 51 (ptA p) ∧ Below wq.heap.size wq wr) (fun _ c _ => ws.length - (intOf c).toNat)
    case atStart => exact ⟨0, 0, [], by omega, rfl, by omega, Lib.hid rfl, World.ownsRow_nil _ _ _ _, hbp2, Below.refl _ _⟩
    case round =>
      clear hbp2
      obtain ⟨k, n, M, hk, rfl, hnk, HMM, hown, hbp, HC⟩ := hrel
      have hpl0 := hbp.lt
      have hown0 := hown
      by_cases hlt : k < ws.length
      · obtain ⟨b, off, x, rfl, _, hx, _, d0, d1, d2, d3, d4⟩ := Pt_at (hs.below HC) hlt
        have hOx : Below wr.heap.size wr (wr.alloc (.cells (ptA x) 51)) := (Below.refl _ _).alloc (Nat.le_refl _) _
        have HC1 := bl_then HC (Nat.le_refl _) hOx
        have hbx := Bk.new wr 51 (ptA x)
        have hbpa := hbp.below hOx
        have a0 := hbx.cell 0
        have a1 := hbx.cell 1
        have a2 := hbx.cell 2
        have a3 := hbx.cell 3
        have a4 := hbx.cell 4
        have p0 := hbpa.cell 0
        have p1 := hbpa.cell 1
        have p2 := hbpa.cell 2
        have p3 := hbpa.cell 3
        have p4 := hbpa.cell 4
        have hof := nof_any _ len cap L x _ (hlw.below HC1) hn
        have hdr := drop_cons ws k x hx
        have hM := HMM.out
        rw [hdr] at hM
        generalize hhad : needOf L x = had at hof
        have HOF := Lib.hid hof
        have HPA := Lib.hid (fun W => parent_any m W)
        have he := eqlPt x p
        have hg := gdPt
        have hown1 := own_below hown hOx
        clear hx hof hdr hs hOx hown hbp HMM
        by_cases hxp : x = p
        · have hpl := planW_at L p m x (ws.drop (k + 1)) had hhad hxp
          rw [decide_eq_true hxp] at he
          clear hhad hxp
          go_upto_region 12 with (first
            | (go_at_call 35; refine HOF.out.mono ?_; rintro e w2 ⟨rfl, hb2⟩; have hbx2 := hbx.below hb2; have hbp2 := hbpa.below hb2; have x0 := hbx2.cell 0; have x1 := hbx2.cell 1; have x2 := hbx2.cell 2; have x3 := hbx2.cell 3; have x4 := hbx2.cell 4; have q0 := hbp2.cell 0; have q1 := hbp2.cell 1; have q2 := hbp2.cell 2; have q3 := hbp2.cell 3; have q4 := hbp2.cell 4; clear a0 a1 a2 a3 a4 p0 p1 p2 p3 p4)
            | (go_at_call 76; refine (HPA.out _).mono ?_; rintro e _ ⟨rfl, rfl⟩))
          have HOW := own_below hown1 hb2
          have HBX := hbx2
          have HBP := hbp2
          have HBW := bl_then HC1 (Nat.le_refl _) hb2
          have HMHID := Lib.hid hM
          cases hcv : covT had (supT had m) with
          | true =>
            have hcvs := fun W => covers_any had (supT had m) W
            rw [hcv] at hcvs
            have HCV := Lib.hid hcvs
            rw [hcv, if_pos rfl, List.nil_append] at hpl
            rw [hpl] at hM
            have HM2 := Lib.hid hM
            clear hcvs hcv hpl hM
            go_wp2_with (first
              | (go_at_call 78; refine (sup_any had m _).mono ?_; rintro e w5 ⟨rfl, hb5⟩)
              | (go_at_call 79; refine (HCV.out _).mono ?_; rintro e w6 ⟨rfl, hb6⟩))
            go_roundw
            case rel => exact ⟨k + 1, n, M, by omega, by go_num, by omega, HM2, own_below (own_below HOW hb5) hb6, (HBP.below hb5).below hb6, bl_then (bl_then HBW (Nat.le_refl _) hb5) (Nat.le_refl _) hb6⟩
            case measure => simp [intOf]; omega
          | false =>
            have hcvs := fun W => covers_any had (supT had m) W
            rw [hcv] at hcvs
            have HCV := Lib.hid hcvs
            rw [hcv, if_neg (by simp)] at hpl
            rw [hpl, ← List.append_assoc] at hM
            have HM2 := Lib.hid hM
            clear hcvs hcv hpl hM
            obtain ⟨z0, z1, z2, z3, z4⟩ := x
            go_wp2_with (first
              | (go_at_call 78; refine (sup_any had m _).mono ?_; rintro e w5 ⟨rfl, hb5⟩)
              | (go_at_call 79; refine (HCV.out _).mono ?_; rintro e w6 ⟨rfl, hb6⟩; have hbx6 := (HBX.below hb5).below hb6; have y0 := hbx6.cell 0; have y1 := hbx6.cell 1; have y2 := hbx6.cell 2; have y3 := hbx6.cell 3; have y4 := hbx6.cell 4; clear x0 x1 x2 x3 x4)
              | (at_builtin; refine wpList_append_one enLk_len (by omega) enLk_one rfl _ _ 48 rfl wq.heap.size 57 i0 _ 48 Try.underlying48 hi hz0 hz1 hz2 rfl _ n M rfl (own_below (own_below HOW hb5) hb6) ⟨z0, z1, z2, z3, z4, (supT had m)⟩ #[.int .i64 z0, .int .i64 z1, .int .i64 z2, .int .i64 z3, .int .i64 z4, .int .i64 (supT had m)] rfl 57 _ rfl rfl (by unfold maxLen; omega) (by omega) (Below.refl _ _) (by have := hb5.size; have := hb6.size; have := HBW.size; omega) ?_; intro v' w7 hown7 HB7 hk7))
            have hbp7 := hk7.bk ((HBP.below hb5).below hb6) (fun hh => by have := ((own_below (own_below HOW hb5) hb6).lt _ hh).1; have := HQ; omega)
            have HB6 := bl_then (bl_then HBW (Nat.le_refl _) hb5) (Nat.le_refl _) hb6
            have HB8 := HB6.trans HB7
            go_roundw
            case rel => exact ⟨k + 1, n + 1, _, by omega, by go_num, by omega, HM2, hown7, hbp7, HB8⟩
            case measure => simp [intOf]; omega
        · rw [decide_eq_false hxp] at he
          by_cases hr : reT m ≤ reT had
          · have hpl := planW_stop L p m x (ws.drop (k + 1)) had hhad hxp hr
            rw [hpl, List.append_nil] at hM
            have hord := order_fb (reT had) (reT m) (reT_range _) (reT_range _)
            have hor : cmpI (reT had) (reT m) = .eq ∨ cmpI (reT had) (reT m) = .gt := by
              unfold cmpI
              by_cases e : reT had = reT m
              · left; rw [if_neg (by omega), if_pos e]
              · right; rw [if_neg (by omega), if_neg e]
            have HM2 := Lib.hid hM
            have hfin : n = (planW L p m ws).length := by have := hown1.1; rw [← hM]; rw [flatV_len enLk_len] at this; omega
            have HFI := Lib.hid hfin
            clear hhad hxp hpl hM hr hfin
            rcases hor with hor | hor
            all_goals
              rw [hor] at hord
              go_wp2_with (first
                | (go_at_call 35; refine HOF.out.mono ?_; rintro e w2 ⟨rfl, hb2⟩; have hbx2 := hbx.below hb2; have hbp2 := hbpa.below hb2; have x0 := hbx2.cell 0; have x1 := hbx2.cell 1; have x2 := hbx2.cell 2; have x3 := hbx2.cell 3; have x4 := hbx2.cell 4; have q0 := hbp2.cell 0; have q1 := hbp2.cell 1; have q2 := hbp2.cell 2; have q3 := hbp2.cell 3; have q4 := hbp2.cell 4; clear a0 a1 a2 a3 a4 p0 p1 p2 p3 p4)
                | (go_at_call 76; refine (HPA.out _).mono ?_; rintro e _ ⟨rfl, rfl⟩)
                | (go_at_call_of 77 (Value.int .i64 had); refine (does_any had _).mono ?_; rintro e w3 ⟨rfl, hb3⟩)
                | (go_at_call_of 77 (Value.int .i64 m); refine (does_any m _).mono ?_; rintro e w4 ⟨rfl, hb4⟩; have hbx4 := (hbx2.below hb3).below hb4; have u0 := hbx4.cell 0; have u1 := hbx4.cell 1; have u2 := hbx4.cell 2; have u3 := hbx4.cell 3; have u4 := hbx4.cell 4; clear x0 x1 x2 x3 x4 q0 q1 q2 q3 q4))
              have hown5 := own_weaken (own_below (own_below (own_below hown1 hb2) hb3) hb4) HB2.size
              rw [HM2.out] at hown5
              rw [Exit.noGoto_ret]
              go_ret2
              exact HRT.out _ _ (by rw [← HFI.out]; exact hown5) (bl_then (bl_then (bl_then (bl_then HB2 (Nat.le_refl _) HC1) (Nat.le_refl _) hb2) (Nat.le_refl _) hb3) (Nat.le_refl _) hb4)
          · have hpl := planW_go L p m x (ws.drop (k + 1)) had hhad hxp hr
            have hord := order_fb (reT had) (reT m) (reT_range _) (reT_range _)
            rw [show cmpI (reT had) (reT m) = .lt from if_pos (by omega)] at hord
            clear hhad hxp hr
            go_upto_region 12 with (first
              | (go_at_call 35; refine HOF.out.mono ?_; rintro e w2 ⟨rfl, hb2⟩; have hbx2 := hbx.below hb2; have hbp2 := hbpa.below hb2; have x0 := hbx2.cell 0; have x1 := hbx2.cell 1; have x2 := hbx2.cell 2; have x3 := hbx2.cell 3; have x4 := hbx2.cell 4; have q0 := hbp2.cell 0; have q1 := hbp2.cell 1; have q2 := hbp2.cell 2; have q3 := hbp2.cell 3; have q4 := hbp2.cell 4; clear a0 a1 a2 a3 a4 p0 p1 p2 p3 p4)
              | (go_at_call 76; refine (HPA.out _).mono ?_; rintro e _ ⟨rfl, rfl⟩)
              | (go_at_call_of 77 (Value.int .i64 had); refine (does_any had _).mono ?_; rintro e w3 ⟨rfl, hb3⟩)
              | (go_at_call_of 77 (Value.int .i64 m); refine (does_any m _).mono ?_; rintro e w4 ⟨rfl, hb4⟩; have hbx4 := (hbx2.below hb3).below hb4; have u0 := hbx4.cell 0; have u1 := hbx4.cell 1; have u2 := hbx4.cell 2; have u3 := hbx4.cell 3; have u4 := hbx4.cell 4; clear x0 x1 x2 x3 x4 q0 q1 q2 q3 q4))
            have HOW := own_below (own_below (own_below hown1 hb2) hb3) hb4
            have HBX := hbx4
            have HBP := (hbp2.below hb3).below hb4
            have HBW := bl_then (bl_then (bl_then HC1 (Nat.le_refl _) hb2) (Nat.le_refl _) hb3) (Nat.le_refl _) hb4
            have HMHID := Lib.hid hM
            cases hcv : covT had (supT had (parT m)) with
            | true =>
              have hcvs := fun W => covers_any had (supT had (parT m)) W
              rw [hcv] at hcvs
              have HCV := Lib.hid hcvs
              rw [hcv, if_pos rfl, List.nil_append] at hpl
              rw [hpl] at hM
              have HM2 := Lib.hid hM
              clear hcvs hcv hpl hM
              go_wp2_with (first
                | (go_at_call 78; refine (sup_any had (parT m) _).mono ?_; rintro e w5 ⟨rfl, hb5⟩)
                | (go_at_call 79; refine (HCV.out _).mono ?_; rintro e w6 ⟨rfl, hb6⟩))
              go_roundw
              case rel => exact ⟨k + 1, n, M, by omega, by go_num, by omega, HM2, own_below (own_below HOW hb5) hb6, (HBP.below hb5).below hb6, bl_then (bl_then HBW (Nat.le_refl _) hb5) (Nat.le_refl _) hb6⟩
              case measure => simp [intOf]; omega
            | false =>
              have hcvs := fun W => covers_any had (supT had (parT m)) W
              rw [hcv] at hcvs
              have HCV := Lib.hid hcvs
              rw [hcv, if_neg (by simp)] at hpl
              rw [hpl, ← List.append_assoc] at hM
              have HM2 := Lib.hid hM
              clear hcvs hcv hpl hM
              obtain ⟨z0, z1, z2, z3, z4⟩ := x
              go_wp2_with (first
                | (go_at_call 78; refine (sup_any had (parT m) _).mono ?_; rintro e w5 ⟨rfl, hb5⟩)
                | (go_at_call 79; refine (HCV.out _).mono ?_; rintro e w6 ⟨rfl, hb6⟩; have hbx6 := (HBX.below hb5).below hb6; have y0 := hbx6.cell 0; have y1 := hbx6.cell 1; have y2 := hbx6.cell 2; have y3 := hbx6.cell 3; have y4 := hbx6.cell 4; clear u0 u1 u2 u3 u4)
                | (at_builtin; refine wpList_append_one enLk_len (by omega) enLk_one rfl _ _ 48 rfl wq.heap.size 57 i0 _ 48 Try.underlying48 hi hz0 hz1 hz2 rfl _ n M rfl (own_below (own_below HOW hb5) hb6) ⟨z0, z1, z2, z3, z4, (supT had (parT m))⟩ #[.int .i64 z0, .int .i64 z1, .int .i64 z2, .int .i64 z3, .int .i64 z4, .int .i64 (supT had (parT m))] rfl 57 _ rfl rfl (by unfold maxLen; omega) (by omega) (Below.refl _ _) (by have := hb5.size; have := hb6.size; have := HBW.size; omega) ?_; intro v' w7 hown7 HB7 hk7))
              have hbp7 := hk7.bk ((HBP.below hb5).below hb6) (fun hh => by have := ((own_below (own_below HOW hb5) hb6).lt _ hh).1; have := HQ; omega)
              have HB6 := bl_then (bl_then HBW (Nat.le_refl _) hb5) (Nat.le_refl _) hb6
              have HB8 := HB6.trans HB7
              go_roundw
              case rel => exact ⟨k + 1, n + 1, _, by omega, by go_num, by omega, HM2, hown7, hbp7, HB8⟩
              case measure => simp [intOf]; omega
      · obtain rfl : k = ws.length := by omega
        have hM := HMM.out
        rw [List.drop_length] at hM
        rw [show planW L p m [] = [] from rfl, List.append_nil] at hM
        have hfin : n = (planW L p m ws).length := by have := hown.1; rw [← hM]; rw [flatV_len enLk_len] at this; omega
        have HM2 := Lib.hid hM
        have HFI := Lib.hid hfin
        clear hM hfin hs
        go_wp2
        rw [Exit.noGoto_ret]
        have hown5 := own_weaken hown HB2.size
        rw [HM2.out] at hown5
        go_ret2
        exact HRT.out _ _ (by rw [← HFI.out]; exact hown5) (bl_then HB2 (Nat.le_refl _) HC)
end Go.Proofs.Ythkjkmjcnphjgaa
