/- The statement NeedEnough: the walk. No condition. -/
import Derived.Test.YthkjkmjcnphjgaaNeedT
set_option linter.unusedVariables false
set_option linter.unusedSimpArgs false
namespace Go.Proofs.Ythkjkmjcnphjgaa
open Go.RowKit (wrap32 wrap64)
open Go.RowKit Go.Shelf Go.Sort
theorem nowT_snoc (L PL : List Lk) (k : Nat) (x : Lk) (hx : PL[k]? = some x) : nowT L (PL.take (k + 1)) = withT x (nowT L (PL.take k)) := by
  unfold nowT
  rw [take_snocG PL k x hx, List.foldl_append]; rfl
theorem withT_len (x : Lk) (L : List Lk) : (withT x L).length ≤ L.length + 1 := by
  induction L with
  | nil => exact Nat.le_refl _
  | cons y l ih => unfold withT; split <;> simp <;> omega
theorem enough_lev (L : List Lk) (p : Pt) (m : Int) (hm : mayP p = true) (k : Nat) (x : Lk) (hx : (planW L p m (ways p))[k]? = some x) (q : Pt) :
    levT (nowT L ((planW L p m (ways p)).take k)) q ≤ levT (withT x (nowT L ((planW L p m (ways p)).take k))) q := by
  obtain ⟨R, _⟩ := road p hm
  refine lev_mono _ _ (fun a => ?_) _ _ _ (Int.le_refl _)
  rw [needOf_with]
  split
  · rename_i e
    have hnd : ((planW L p m (ways p)).map pathOf).Nodup := R.nodup.sublist (planW_sub L p m (ways p))
    have hoff : needOf (nowT L ((planW L p m (ways p)).take k)) a = needOf L a := nowT_off _ _ _ (fun y hy => by
      obtain ⟨i, hi, rfl⟩ := List.mem_take_iff_getElem.1 hy
      obtain ⟨hk, hxe⟩ := List.getElem?_eq_some_iff.1 hx
      intro hh
      rw [e] at hh
      have h3 := (List.pairwise_iff_getElem.1 hnd) i k (by rw [List.length_map]; omega) (by rw [List.length_map]; exact hk) (by omega)
      rw [List.getElem_map, List.getElem_map, hxe] at h3
      exact h3 hh)
    rw [hoff, e]
    exact cov_re _ _ (planW_mode L p m (ways p) x (List.mem_of_getElem? hx)).2
  · exact Int.le_refl _
theorem withT_ok (x : Lk) (L : List Lk) (h : ∀ y ∈ L, okLk y) (hx : okLk x) : ∀ y ∈ withT x L, okLk y := by
  intro y hy
  rcases withT_mem x L y hy with rfl | hy
  · exact hx
  · exact h y hy
set_option maxRecDepth 100000 in
set_option maxHeartbeats 8000000 in
theorem needEnough_walk (a : Option Addr) (len cap : Nat) (css : List (List Value)) (p : Pt) (m : Int) (q : Pt) (w : World) (hf : FlatRow w ksLk a len cap css) (hp : okPt p) (hq : okPt q) :
    Calls Try.prog 10 #[.slice a len cap, .agg (ptA p), .int .i64 m, .agg (ptA q)] w fun e w' => e = .returned (.bool true) ∧ Below w.heap.size w w' := by
  obtain ⟨L, hl, hlc, hcm, hnil⟩ := SR.flat (s := 6) rfl (by omega) enLk_len decLk hf
  clear hf
  have hmax := hl.max
  have hll := hl.len
  have HLL := Lib.hid hll
  have hO : Below w.heap.size w ((w.alloc (.cells (ptA p) 51)).alloc (.cells (ptA q) 51)) := ((Below.refl _ _).alloc (Nat.le_refl _) _).alloc (by simp) _
  have hb0 := (Bk.new w 51 (ptA p)).below ((Below.refl _ _).alloc (Nat.le_refl _) (.cells (ptA q) 51))
  have hb1 : Bk ((w.alloc (.cells (ptA p) 51)).alloc (.cells (ptA q) 51)) (w.heap.size + 1) 51 (ptA q) := by
    have := Bk.new (w.alloc (.cells (ptA p) 51)) 51 (ptA q)
    rw [World.size_alloc] at this
    exact this
  by_cases h30 : 30 < len
  · have HF := few17 a len cap false (by simp; omega) hmax
    clear hl h30 hb0 hb1 hll
    go_enter Try.func10, Try.ntmps10
    go_wp2_with (first
      | (go_at_call 30; refine (awake17 _).mono ?_; rintro e w1 ⟨rfl, hbx⟩)
      | (go_at_call 31; refine (HF.out _).mono ?_; rintro e _ ⟨rfl, rfl⟩))
    go_ret
    exact ⟨rfl, bl_then hO (Nat.le_refl _) hbx⟩
  have HF := few17 a len cap true (by simp; omega) hmax
  have HR := Lib.hid (fun W (hb : Below w.heap.size w W) => nright_any a len cap L W (hl.below hb) (by omega))
  by_cases hrt : RightL L
  case neg =>
    have HN := Lib.hid hrt
    clear hl h30 hb0 hb1 hll hrt
    go_enter Try.func10, Try.ntmps10
    go_wp2_with (first
      | (go_at_call 30; refine (awake17 _).mono ?_; rintro e w1 ⟨rfl, hbx⟩; have HB1 := bl_then hO (Nat.le_refl _) hbx)
      | (go_at_call 31; refine (HF.out _).mono ?_; rintro e _ ⟨rfl, rfl⟩)
      | (go_at_call 53; refine (HR.out _ HB1).mono ?_; rintro e w2 ⟨bb, rfl, hbb, hb2⟩; obtain rfl : bb = false := (by cases bb with | false => rfl | true => exact absurd (hbb.1 rfl) HN.out); clear hbb))
    go_ret
    exact ⟨rfl, bl_then HB1 (Nat.le_refl _) hb2⟩
  have HYES := Lib.hid hrt
  have HPL := Lib.hid (fun W (hb : Below w.heap.size w W) => plan_any a len cap L p m hp W (hl.below hb) (by omega))
  have HOK := Lib.hid (okLk_plan L p m hp)
  cases hpo : (mayP p && okMode m) with
  | false =>
    have e1 : planT L p m = [] := by unfold planT; rw [hpo]; rfl
    have e2 : planE p m = 1 := by unfold planE; rw [hpo]; rfl
    have E1 := Lib.hid e1
    have E2 := Lib.hid e2
    clear hl h30 hll hrt e1 e2 hpo
    go_enter Try.func10, Try.ntmps10
    go_wp2_with (first
      | (go_at_call 30; refine (awake17 _).mono ?_; rintro e w1 ⟨rfl, hbx⟩; have HB1 := bl_then hO (Nat.le_refl _) hbx)
      | (go_at_call 31; refine (HF.out _).mono ?_; rintro e _ ⟨rfl, rfl⟩)
      | (go_at_call 53; refine (HR.out _ HB1).mono ?_; rintro e w2 ⟨bb, rfl, hbb, hb2⟩; obtain rfl : bb = true := hbb.2 HYES.out; have HB2 := bl_then HB1 (Nat.le_refl _) hb2; have k0 := (hb0.below hbx).below hb2; have c0 := k0.cell 0; have c1 := k0.cell 1; have c2 := k0.cell 2; have c3 := k0.cell 3; have c4 := k0.cell 4; clear hbb)
      | (go_at_call 32; refine (HPL.out _ HB2).mono ?_; rintro e w3 ⟨v, rfl, hown, hb3⟩; rw [E1.out] at hown; rw [E2.out]; obtain ⟨A, c, rfl, hs, _, _⟩ := SR.own (ok := okLk) enLk_len (by omega) hown (by simp); clear hown hs))
    go_ret
    exact ⟨rfl, bl_then HB2 (Nat.le_refl _) hb3⟩
  | true =>
    have hmp : mayP p = true := by rw [Bool.and_eq_true] at hpo; exact hpo.1
    have e1 : planT L p m = planW L p m (ways p) := by unfold planT; rw [hpo]; rfl
    have e2 : planE p m = 0 := by unfold planE; rw [hpo]; rfl
    have hplen : (planT L p m).length ≤ 4 := by rw [e1]; exact Nat.le_trans (planW_len _ _ _ _) (ways_len p)
    obtain ⟨R, hpw⟩ := road p hmp
    obtain ⟨P1, P2, P3⟩ := plan_run L p m (ways p) R (ways p) [] L rfl hrt (fun a ha => by cases ha) (fun a _ => rfl)
    have HLEV := Lib.hid (fun k x hx q => enough_lev L p m hmp k x hx q)
    rw [← e1] at P1 P2 P3 HLEV
    have hend : planT (nowT L (planT L p m)) p m = [] := by unfold planT at P2 ⊢; rw [hpo] at P2 ⊢; exact P2
    have hlast : reT m ≤ levT (nowT L (planT L p m)) p := by
      obtain ⟨a, ha, har⟩ := P3 hpw
      exact Int.le_trans har (lev_ge _ _ a ha 0)
    have HP1 := Lib.hid P1
    have HEND := Lib.hid hend
    have HLAST := Lib.hid hlast
    have E2 := Lib.hid e2
    have HALL := Lib.hid hl.all
    clear P1 P2 P3 hend hlast e1 e2 hpo hrt R hpw
    generalize hPL : planT L p m = PL at HPL HOK HLEV HP1 HEND HLAST hplen
    have HPLN := Lib.hid hPL
    clear hPL
    go_enter Try.func10, Try.ntmps10
    go_wp2_with (first
      | (go_at_call 30; refine (awake17 _).mono ?_; rintro e w1 ⟨rfl, hbx⟩; have HB1 := bl_then hO (Nat.le_refl _) hbx)
      | (go_at_call 31; refine (HF.out _).mono ?_; rintro e _ ⟨rfl, rfl⟩)
      | (go_at_call 53; refine (HR.out _ HB1).mono ?_; rintro e w2 ⟨bb, rfl, hbb, hb2⟩; obtain rfl : bb = true := hbb.2 HYES.out; have HB2 := bl_then HB1 (Nat.le_refl _) hb2; have hbp2 := (hb0.below hbx).below hb2; have hbq2 := (hb1.below hbx).below hb2; have c0 := hbp2.cell 0; have c1 := hbp2.cell 1; have c2 := hbp2.cell 2; have c3 := hbp2.cell 3; have c4 := hbp2.cell 4; clear hbb hb0 hb1)
      | (go_at_call 32; refine (HPL.out _ HB2).mono ?_; rintro e w3 ⟨v, rfl, hown, hb3⟩; rw [HPLN.out] at hown; obtain ⟨A, cA, rfl, hs, _, _⟩ := SR.own (ok := okLk) enLk_len (by omega) hown HOK.out; rw [E2.out]; clear hown))
    have HB3 := bl_then HB2 (Nat.le_refl _) hb3
    have hlw := hl.below HB3
    have hbp := hbp2.below hb3
    have hbq := hbq2.below hb3
    clear c0 c1 c2 c3 c4 hbp2 hbq2 hb2 hb3 hbx HB1 HB2 hO hl HF HR HPL
    go_loopw [11, 42] (fun v c wr => ∃ (k : Nat) (B : Option Addr) (n cB : Nat) (M : List Lk), k ≤ PL.length ∧ c = .int .i64 k ∧ v = .slice B n cB ∧ Lks wr B n M ∧ (B = none → n = 0 ∧ cB = 0) ∧ n ≤ 30 + k ∧ Hid (M = nowT L (PL.take k)) ∧ Below w3.heap.size w3 wr) (fun _ c _ => PL.length - (intOf c).toNat)
    case atStart => exact ⟨0, _, _, _, L, by omega, rfl, rfl, hlw, hnil, by omega, Lib.hid rfl, Below.refl _ _⟩
    case round =>
      obtain ⟨k, B, n, cB, M, hk, rfl, rfl, hM, hMn, hn, HM, HC⟩ := hrel
      by_cases hlt : k < PL.length
      · obtain ⟨b, off, x, rfl, _, hx, hokx, d0, d1, d2, d3, d4, d5⟩ := Lk_at (hs.below HC) hlt
        have hOx : Below wr.heap.size wr (wr.alloc (.cells #[.int .i64 x.n0, .int .i64 x.n1, .int .i64 x.n2, .int .i64 x.n3, .int .i64 x.dep, .int .i64 x.mode] 57)) := (Below.refl _ _).alloc (Nat.le_refl _) _
        have HC1 := bl_then HC (Nat.le_refl _) hOx
        have hbx := Bk.new wr 57 #[.int .i64 x.n0, .int .i64 x.n1, .int .i64 x.n2, .int .i64 x.n3, .int .i64 x.dep, .int .i64 x.mode]
        have hM1 := hM.below hOx
        have hbq1 := (hbq.below HC).below hOx
        have q0 := hbq1.cell 0
        have q1 := hbq1.cell 1
        have q2 := hbq1.cell 2
        have q3 := hbq1.cell 3
        have q4 := hbq1.cell 4
        have hms := nowT_snoc L PL k x hx
        rw [← HM.out] at hms
        have hlv := HLEV.out k x hx q
        rw [← HM.out] at hlv
        have hmok := withT_ok x M hM.all hokx
        have hwl := withT_len x M
        have hrr := HP1.out (k + 1)
        rw [hms] at hrr
        have hml := hM.len
        have hlv1 := fun W (hb : Below (wr.heap.size + 1) (wr.alloc (.cells #[.int .i64 x.n0, .int .i64 x.n1, .int .i64 x.n2, .int .i64 x.n3, .int .i64 x.dep, .int .i64 x.mode] 57)) W) => nlevel_any B n cB M q hq W (hM1.below (by rw [World.size_alloc]; exact hb)) (by omega)
        have hwi := fun W (hb : Below (wr.heap.size + 1) (wr.alloc (.cells #[.int .i64 x.n0, .int .i64 x.n1, .int .i64 x.n2, .int .i64 x.n3, .int .i64 x.dep, .int .i64 x.mode] 57)) W) => nwith_any B n cB M x W (hM1.below (by rw [World.size_alloc]; exact hb)) hMn (by omega)
        generalize hz1 : levT M q = z1 at hlv1 hlv
        generalize hz2 : levT (withT x M) q = z2 at hlv
        have hdec : decide (z2 < z1) = false := by simp; omega
        have HL1 := Lib.hid hlv1
        have HWI := Lib.hid hwi
        have HMOK := Lib.hid hmok
        have HRR := Lib.hid hrr
        have HZ2 := Lib.hid hz2
        have HHX := Lib.hid hx
        have HMS := Lib.hid hms
        have HHM := Lib.hid hM
        have HXB := Lib.hid hbx
        have HQB := Lib.hid hbq1
        have HSS := Lib.hid hs
        have HC1H := Lib.hid HC1
        clear hlv1 hwi hmok hrr hz1 hz2 hx hms hM hM1 hbx hbq1 hs hlv hOx HM
        go_wp2_with (first
          | (go_at_call 54; refine (HL1.out _ (Below.refl _ _)).mono ?_; rintro e w4 ⟨rfl, hb4⟩; have x0 := (HXB.out.below hb4).cell 0; have x1 := (HXB.out.below hb4).cell 1; have x2 := (HXB.out.below hb4).cell 2; have x3 := (HXB.out.below hb4).cell 3; have x4 := (HXB.out.below hb4).cell 4; have x5 := (HXB.out.below hb4).cell 5; clear d0 d1 d2 d3 d4 d5 q0 q1 q2 q3 q4)
          | (go_at_call 55; refine (HWI.out _ (by rw [World.size_alloc] at hb4; exact hb4)).mono ?_; rintro e w5 ⟨v, rfl, hown, hb5⟩; obtain ⟨C, cC, rfl, hsC, hCn, _⟩ := SR.own (ok := okLk) enLk_len (by omega) hown HMOK.out; have hb45 := bl_then hb4 (Nat.le_refl _) hb5; clear hown x0 x1 x2 x3 x4 x5))
        have hnr := nright_any C (withT x M).length cC (withT x M) w5 hsC (by omega)
        have HNR := Lib.hid hnr
        clear hnr
        have y0 := (HQB.out.below hb45)
        have hlv2 := fun W (hb : Below w5.heap.size w5 W) => nlevel_any C (withT x M).length cC (withT x M) q hq W (hsC.below hb) (by omega)
        rw [HZ2.out] at hlv2
        have HL2 := Lib.hid hlv2
        clear hlv2
        have HSC := Lib.hid hsC
        clear hsC
        go_wp2_with (first
          | (go_at_call 53; refine HNR.out.mono ?_; rintro e w6 ⟨bb, rfl, hbb, hb6⟩; obtain rfl : bb = true := hbb.2 HRR.out; have hbq6 := y0.below hb6; have q0 := hbq6.cell 0; have q1 := hbq6.cell 1; have q2 := hbq6.cell 2; have q3 := hbq6.cell 3; have q4 := hbq6.cell 4; clear hbb y0 hbq6)
          | (go_at_call 54; refine (HL2.out _ hb6).mono ?_; rintro e w7 ⟨rfl, hb7⟩; clear q0 q1 q2 q3 q4))
        have hC1s : w3.heap.size ≤ (wr.alloc (.cells #[.int .i64 x.n0, .int .i64 x.n1, .int .i64 x.n2, .int .i64 x.n3, .int .i64 x.dep, .int .i64 x.mode] 57)).heap.size := HC1H.out.size
        go_roundw
        case rel =>
          have hb67 := bl_then hb6 (Nat.le_refl _) hb7
          refine ⟨k + 1, C, _, cC, withT x M, by omega, by go_num, rfl, HSC.out.below hb67, hCn, by omega, Lib.hid HMS.out.symm, bl_then (bl_then HC1H.out (Nat.le_refl _) hb45) (Nat.le_refl _) hb67⟩
        case measure => simp [intOf]; omega
      · obtain rfl : k = PL.length := by omega
        have hMM := HM.out
        rw [List.take_length] at hMM
        have hml := hM.len
        have HPL2 := plan_any B n cB M p m hp wr hM (by omega)
        unfold PlanRet at HPL2
        rw [hMM, HEND.out] at HPL2
        have HP2 := Lib.hid HPL2
        have hbp2 := hbp.below HC
        have c0 := hbp2.cell 0
        have c1 := hbp2.cell 1
        have c2 := hbp2.cell 2
        have c3 := hbp2.cell 3
        have c4 := hbp2.cell 4
        have hlv3 := fun W (hb : Below wr.heap.size wr W) => nlevel_any B n cB M p hp W (hM.below hb) (by omega)
        rw [hMM] at hlv3
        have hla := HLAST.out
        generalize levT (nowT L PL) p = z3 at hlv3 hla
        have HL3 := Lib.hid hlv3
        have hge : decide (reT m ≤ z3) = true := by simp; omega
        generalize hrm : reT m = rm at hge
        have HRM := Lib.hid hrm
        have HSS := Lib.hid hs
        clear HPL2 hlv3 hs hla hM hrm HLEV HALL hMM
        go_wp2_with (first
          | (go_at_call 32; refine HP2.out.mono ?_; rintro e w4 ⟨v, rfl, hown, hb4⟩; rw [E2.out]; obtain ⟨D, cD, rfl, hsD, hDn, _⟩ := SR.own (ok := okLk) enLk_len (by omega) hown (by simp); clear hown hsD; have d0 := (hbp2.below hb4).cell 0; have d1 := (hbp2.below hb4).cell 1; have d2 := (hbp2.below hb4).cell 2; have d3 := (hbp2.below hb4).cell 3; have d4 := (hbp2.below hb4).cell 4; clear c0 c1 c2 c3 c4)
          | (go_at_call 54; refine (HL3.out _ hb4).mono ?_; rintro e w5 ⟨rfl, hb5⟩)
          | (go_at_call 56; refine (rre_any _ _).mono ?_; rintro e w6 ⟨rfl, hb6⟩; rw [HRM.out]))
        go_ret
        exact ⟨rfl, bl_then (bl_then (bl_then (bl_then HB3 (Nat.le_refl _) HC) (Nat.le_refl _) hb4) (Nat.le_refl _) hb5) (Nat.le_refl _) hb6⟩
end Go.Proofs.Ythkjkmjcnphjgaa
