/- The statement StoreOwn: its walk. No condition. -/
import Derived.Test.YtjbhlckdaghppaaStI
import Derived.Deep.RegionHeld3
set_option linter.unusedVariables false
set_option linter.unusedSimpArgs false
namespace Go.Proofs.Ytjbhlckdaghppaa
open Go.RowKit (wrap32 wrap64)
open Go.RowKit Go.Shelf Go.Sort Go.Lib
abbrev RB (r : Rw) : Obj := .cells #[.int .i64 r.n0, .int .i64 r.n1, .int .i64 r.n2, .int .i64 r.n3, .int .i64 r.dep, .int .i64 r.val] 30
theorem okRw_p {x : Rw} (h : okRw x) : okPt (rwP x) := ⟨h.1, h.2.1, h.2.2.1, h.2.2.2.1, h.2.2.2.2.1⟩
set_option maxRecDepth 100000 in
set_option maxHeartbeats 8000000 in
theorem storeOwn_walk (a : Option Addr) (len cap : Nat) (css : List (List Value)) (r : Rw) (p : Pt) (w : World) (hf : FlatRow w ksRw a len cap css) (hr : okRw r) (hp : okPt p) :
    Calls Try.prog 5 #[.slice a len cap, .agg #[.int .i64 r.n0, .int .i64 r.n1, .int .i64 r.n2, .int .i64 r.n3, .int .i64 r.dep, .int .i64 r.val], .agg (ptA p)] w fun e w' => e = .returned (.bool true) ∧ Below w.heap.size w w' := by
  obtain ⟨L, hl, hcap, hcm, hnil⟩ := SR.flat (ks := ksRw) (enc := enRw) (ok := okRw) (s := 6) rfl (by omega) enRw_len decRw hf
  clear hf hnil
  have a1 := (Below.refl w.heap.size w).alloc (Nat.le_refl _) (RB r)
  have a2 := (Below.refl (w.alloc (RB r)).heap.size (w.alloc (RB r))).alloc (Nat.le_refl _) (PB p)
  have b1 := (Bk.new w 30 #[.int .i64 r.n0, .int .i64 r.n1, .int .i64 r.n2, .int .i64 r.n3, .int .i64 r.dep, .int .i64 r.val]).below a2
  have b2 := Bk.new (w.alloc (RB r)) 25 (ptA p)
  rw [World.size_alloc] at b2
  have aW := bl_then a1 (Nat.le_refl _) a2
  by_cases hmany : (60 : Int) < len
  · clear hl hcap hcm b1 b2
    go_enter Try.func5, Try.ntmps5
    go_wp2_with (go_at_call 9; refine (awake20 _).mono ?_; rintro e w1 ⟨rfl, hb1⟩)
    go_ret
    exact ⟨rfl, bl_then aW (Nat.le_refl _) hb1⟩
  have hfew : ¬ ((len : Int) > 60) := hmany
  have hle : len ≤ 60 := by omega
  have hcm' : cap ≤ 9223372036854775807 := by unfold maxLen at hcm; exact hcm
  have HL := Lib.hid hl
  have HBR := Lib.hid b1
  have HBP := Lib.hid b2
  have HAW := Lib.hid aW
  clear hmany hcm hl b1 b2 a1 a2 aW
  go_enter Try.func5, Try.ntmps5
  go_wp2_with fail
  obtain ⟨w0, hw0⟩ : ∃ w0, (w.alloc (RB r)).alloc (PB p) = w0 := ⟨_, rfl⟩
  change Hid (Bk ((w.alloc (RB r)).alloc (PB p)) _ _ _) at HBR
  change Hid (Bk ((w.alloc (RB r)).alloc (PB p)) _ _ _) at HBP
  rw [hw0] at HBR HBP HAW ⊢
  clear hw0
  refine (awake20 _).mono ?_
  rintro e w1 ⟨rfl, hb1⟩
  go_wp2_with fail
  refine (stnew_any _).mono ?_
  rintro e w2 ⟨s, b, rfl, hO, hs, hb, hsb, hb2⟩
  have hB2 := bl_then hb1 (Nat.le_refl _) hb2
  have hss : w0.heap.size ≤ s := Nat.le_trans hb1.size hs
  have hbb : w0.heap.size ≤ b := Nat.le_trans hb1.size hb
  clear hb1 hb2 hs hb
  go_wp2
  go_loopw [26] (fun c wr => ∃ (k : Nat) (E : List Cl), k ≤ len ∧ c = .int .i64 k ∧ StO wr s b E ∧ OkE E k ∧ Below w0.heap.size w0 wr) (fun c _ => len - (intOf c).toNat)
  case atStart => exact ⟨0, [], by omega, rfl, hO, ok0, hB2⟩
  case round =>
    clear hO hB2
    obtain ⟨k, E, hk, rfl, hO, hE, HB⟩ := hrel
    by_cases hlt : k < len
    · obtain ⟨b0, off, x, rfl, _, hx, hokx, d0, d1, d2, d3, d4, d5⟩ := Rw_at ((HL.out.below HAW.out).below HB) hlt
      have al := (Below.refl wr.heap.size wr).alloc (Nat.le_refl _) (RB x)
      have hbx := Bk.new wr 30 #[.int .i64 x.n0, .int .i64 x.n1, .int .i64 x.n2, .int .i64 x.n3, .int .i64 x.dep, .int .i64 x.val]
      have HW := Lib.hid (stset_any s b E k (rwP x) x.val (okRw_p hokx) _ (hO.below al) hE (by omega) hsb)
      have HPK := Lib.hid (putT_ok hE (okRw_p hokx) x.val)
      have HB3 := Lib.hid (bl_then HB (Nat.le_refl _) al)
      have q0 := hbx.cell 0
      have q1 := hbx.cell 1
      have q2 := hbx.cell 2
      have q3 := hbx.cell 3
      have q4 := hbx.cell 4
      have q5 := hbx.cell 5
      generalize putT E (rwP x) x.val = R at HW HPK
      clear al hbx hx hokx hO hE HB
      go_wp2_with fail
      refine HW.out.mono ?_
      rintro e w4 ⟨rfl, hO4, k4⟩
      have HB4 := bl_keep HB3.out k4 (fun i hi => by rw [hi]; exact hbb)
      clear q0 q1 q2 q3 q4 q5 d0 d1 d2 d3 d4 d5 k4
      go_wp2
      go_roundw
      case rel => exact ⟨k + 1, R.E, by omega, by go_num, hO4, HPK.out, HB4⟩
      case measure => simp [intOf]; omega
    · obtain rfl : k = len := by omega
      generalize wr = w3 at hO HB ⊢
      have hlb := hO.mp.lt
      have hls := hO.bk.lt
      have HCP := Lib.hid (stcopy_any s b E w3 hO)
      have HO := Lib.hid hO
      have HE := Lib.hid hE
      have HB3 := Lib.hid HB
      clear hO hE HB HL
      go_wp2_with (go_at_call 23; refine HCP.out.mono ?_; rintro e w4 ⟨s2, b2, rfl, hO4, hs4, hb4, hsb4, hbb4⟩)
      have HR1 := Lib.hid (strows_any s2 b2 E k w4 hO4 HE.out (by omega))
      go_wp2_with fail
      refine HR1.out.mono ?_
      rintro e w5 ⟨v5, rfl, ho5, hb5⟩
      have hb35 := bl_then hbb4 (Nat.le_refl _) hb5
      have hO5 := HO.out.below hb35
      have HSET := Lib.hid (stset_any s b E k (rwP r) r.val (okRw_p hr) w5 hO5 HE.out (by omega) hsb)
      have HPK := Lib.hid (putT_ok HE.out (okRw_p hr) r.val)
      generalize putT E (rwP r) r.val = R at HSET HPK
      have hB5 := bl_then HB3.out (Nat.le_refl _) hb35
      have hbr5 := HBR.out.below hB5
      have z0 := hbr5.cell 0
      have z1 := hbr5.cell 1
      have z2 := hbr5.cell 2
      have z3 := hbr5.cell 3
      have z4 := hbr5.cell 4
      have z5 := hbr5.cell 5
      have HO25 := Lib.hid (hO4.below hb5)
      have HO5R := Lib.hid ho5
      have HB5 := Lib.hid hB5
      have hbs2 : b < s2 := by omega
      have hbb2 : b < b2 := by omega
      have hb4s : b < w4.heap.size := by have := hbb4.size; omega
      clear hO4 hs4 hb4 hb5 ho5 hb35 hO5 hB5 hbr5 hbb4
      go_wp2_with fail
      refine HSET.out.mono ?_
      rintro e w6 ⟨rfl, hO6, k6⟩
      have HO26 := Lib.hid (HO25.out.keep k6 (show ¬ s2 = b by omega) (show ¬ b2 = b by omega))
      have ho6 := own_keepS HO5R.out k6 (fun i hi => by rw [hi]; exact hb4s)
      obtain ⟨A6, c6, rfl, hs6, _, _⟩ := SR.own (ok := okRw) enRw_len (by omega) ho6 (goods_ok HE.out mayP)
      have HS6 := Lib.hid hs6
      have HB6 := Lib.hid (bl_keep HB5.out k6 (fun i hi => by rw [hi]; exact hbb))
      have HR2 := Lib.hid (strows_any s b R.E (k + 1) w6 hO6 HPK.out (by omega))
      have HO6 := Lib.hid hO6
      have hgl := Nat.le_trans (goods_len R.E mayP) HPK.out.len
      have HOKG := Lib.hid (goods_ok HPK.out mayP)
      have HGW := Lib.hid (goods_within HPK.out p)
      have HOKW := Lib.hid (goods_ok HPK.out (fun q => withinP q p))
      generalize goodsE R.E mayP = G at HR2 hgl HOKG HGW
      clear z0 z1 z2 z3 z4 z5 hO6 k6 ho6 hs6
      go_wp2_with (go_at_call 20; refine HR2.out.mono ?_; rintro e w7 ⟨v7, rfl, ho7, hb7⟩; obtain ⟨A7, c7, rfl, hs7, _, _⟩ := SR.own (ok := okRw) enRw_len (by omega) ho7 HOKG.out; clear ho7)
      obtain ⟨m, hme⟩ : ∃ m, m = G.length := ⟨_, rfl⟩
      rw [← hme] at hs7 hgl ⊢
      have HME := Lib.hid hme
      have HO67 := Lib.hid (HO6.out.below hb7)
      have HO27 := Lib.hid (HO26.out.below hb7)
      have HS67 := Lib.hid (HS6.out.below hb7)
      have HB7 := Lib.hid (bl_then HB6.out (Nat.le_refl _) hb7)
      have HBP7 := Lib.hid (HBP.out.below HB7.out)
      obtain ⟨i0, hi, hz0, hz1, hz2⟩ := info_parts Try.infoRw
      clear hme hb7 HO6 HO26 HS6 HB6 HB5 HO25 HR1 HR2 HSET HCP
      go_loopw [12, 50] (fun v12 c wr => ∃ (j n : Nat), j ≤ m ∧ c = .int .i64 j ∧ n ≤ j ∧ Hid (n = ((G.take j).filter (fun x => withinP (rwP x) p)).length) ∧ wr.ownsRow w7.heap.size 30 6 v12 n (flatV enRw ((G.take j).filter (fun x => withinP (rwP x) p))) ∧ Below w7.heap.size w7 wr) (fun _ c _ => m - (intOf c).toNat)
      case atStart => exact ⟨0, 0, by omega, rfl, by omega, Lib.hid rfl, World.ownsRow_nil _ _ _ _, Below.refl _ _⟩
      case round =>
        obtain ⟨j, n, hj, rfl, hnj, HN, ho, HBQ⟩ := hrel
        by_cases hlt2 : j < m
        · obtain ⟨b3, o3, x, rfl, _, hx, hokx, d0, d1, d2, d3, d4, d5⟩ := Rw_at (hs7.below HBQ) hlt2
          have hO9 := (Below.refl wr.heap.size wr).alloc (Nat.le_refl _) (RB x)
          have hyb := Bk.new wr 30 #[.int .i64 x.n0, .int .i64 x.n1, .int .i64 x.n2, .int .i64 x.n3, .int .i64 x.dep, .int .i64 x.val]
          have HY1 := Lib.hid (bl_then HBQ (Nat.le_refl _) hO9)
          have hbp9 := HBP7.out.below HY1.out
          have x0 := hyb.cell 0
          have x1 := hyb.cell 1
          have x2 := hyb.cell 2
          have x3 := hyb.cell 3
          have x4 := hyb.cell 4
          have y0 := hbp9.cell 0
          have y1 := hbp9.cell 1
          have y2 := hbp9.cell 2
          have y3 := hbp9.cell 3
          have y4 := hbp9.cell 4
          have HYB := Lib.hid hyb
          have HO1 := Lib.hid (ho.alloc (RB x))
          have HWI := Lib.hid (fun W1 => rin_any (rwP x) p (okRw_p hokx) W1)
          have hst : (G.take (j + 1)).filter (fun x => withinP (rwP x) p) = (G.take j).filter (fun x => withinP (rwP x) p) ++ (if withinP (rwP x) p = true then [x] else []) := by
            rw [take_snocG G j x hx, List.filter_append]
            congr 1
            simp [List.filter_cons]
          rw [in_eq] at HWI
          clear hx hokx hO9 hyb hbp9 ho HBQ
          cases hin : withinP (rwP x) p with
          | true =>
            rw [hin] at HWI
            rw [hin, if_pos rfl] at hst
            have HST := Lib.hid hst
            have HN' : Hid (n + 1 = ((G.take (j + 1)).filter (fun x => withinP (rwP x) p)).length) := Lib.hid (by rw [hst, List.length_append, ← HN.out]; rfl)
            clear hst hin
            go_wp2_with (first
              | (go_at_call 24; refine (HWI.out _).mono ?_; rintro e w8 ⟨rfl, hb8⟩; have hy8 := HYB.out.below hb8; have e0 := hy8.cell 0; have e1 := hy8.cell 1; have e2 := hy8.cell 2; have e3 := hy8.cell 3; have e4 := hy8.cell 4; have e5 := hy8.cell 5; have HO8 := Lib.hid (own_below HO1.out hb8); have hB8 := bl_then HY1.out (Nat.le_refl _) hb8; clear x0 x1 x2 x3 x4 y0 y1 y2 y3 y4 hy8)
              | (at_builtin; go_loud (refine wpList_append_one enRw_len (by omega) enRw_one rfl _ _ 22 rfl w7.heap.size 30 i0 _ 48 Try.underlying22 hi hz0 hz1 hz2 rfl _ n _ rfl HO8.out x #[.int .i64 x.n0, .int .i64 x.n1, .int .i64 x.n2, .int .i64 x.n3, .int .i64 x.dep, .int .i64 x.val] rfl 30 _ rfl (by simp) (by unfold maxLen; omega) (by omega) hB8 hB8.size ?_; intro v' w9 hown9 HB9 hk9; rw [← HST.out] at hown9)))
            go_roundw
            case rel => exact ⟨j + 1, n + 1, by omega, by go_num, by omega, HN', hown9, HB9⟩
            case measure => simp [intOf]; omega
          | false =>
            rw [hin] at HWI
            rw [hin, if_neg (by simp), List.append_nil] at hst
            have HST := Lib.hid hst
            have HN' : Hid (n = ((G.take (j + 1)).filter (fun x => withinP (rwP x) p)).length) := Lib.hid (by rw [hst]; exact HN.out)
            clear hst hin
            go_wp2_with (go_at_call 24; refine (HWI.out _).mono ?_; rintro e w8 ⟨rfl, hb8⟩; have HO8 := Lib.hid (own_below HO1.out hb8); have hB8 := bl_then HY1.out (Nat.le_refl _) hb8; clear x0 x1 x2 x3 x4 y0 y1 y2 y3 y4)
            go_roundw
            case rel => exact ⟨j + 1, n, by omega, by go_num, by omega, HN', by rw [HST.out]; exact HO8.out, hB8⟩
            case measure => simp [intOf]; omega
        · obtain rfl : j = m := by omega
          have hfull : (G.take j).filter (fun x => withinP (rwP x) p) = goodsE R.E (fun q => withinP q p) := by rw [List.take_of_length_le (by rw [HME.out]; exact Nat.le_refl _)]; exact HGW.out
          rw [hfull] at ho HN
          obtain ⟨A8, c8, rfl, hs8, _, _⟩ := SR.own (ok := okRw) enRw_len (by omega) ho HOKW.out
          generalize wr = wb at ho HBQ hs8 ⊢
          have hO9 := HO67.out.below HBQ
          have hO29 := HO27.out.below HBQ
          have hs69 := HS67.out.below HBQ
          have HBE := Lib.hid (bl_then HAW.out (Nat.le_refl _) (bl_then HB7.out (Nat.le_refl _) HBQ))
          have hbp9 := HBP7.out.below HBQ
          have hbr9 := HBR.out.below (bl_then HB7.out (Nat.le_refl _) HBQ)
          have HRC := Lib.hid (fun W1 (hb : Below wb.heap.size wb W1) => strows_any s2 b2 E k W1 (hO29.below hb) HE.out (by omega))
          have HUN := Lib.hid (fun W1 (hb : Below wb.heap.size wb W1) => stunder_any s b R.E (k + 1) p W1 (hO9.below hb) HPK.out (by omega))
          have HSA := Lib.hid (fun W1 (hb : Below wb.heap.size wb W1) => hs69.below hb)
          have HSB := Lib.hid (fun W1 (hb : Below wb.heap.size wb W1) => hs8.below hb)
          have HOKE := Lib.hid (goods_ok HE.out mayP)
          have HBP9 := Lib.hid hbp9
          have z0 := hbr9.cell 0
          have z1 := hbr9.cell 1
          have z2 := hbr9.cell 2
          have z3 := hbr9.cell 3
          have z4 := hbr9.cell 4
          have z5 := hbr9.cell 5
          clear ho HBQ hs8 hO9 hO29 hs69 hbp9 hbr9 hs7 hfull HO67 HO27 HS67 HB7 HBP7 HPK HE HGW HME HN HOKG HB3 HO HBR HBP HAW
          go_wp2_with fail
          refine (stset_nil (rwP r) r.val _).mono ?_
          rintro e wd ⟨rfl, hbd⟩
          have hr9 := hbd
          have hd9 := bl_then hbd (Nat.le_refl _) (below_drew wd)
          have hbpd := HBP9.out.below hbd
          have y0 := hbpd.cell 0
          have y1 := hbpd.cell 1
          have y2 := hbpd.cell 2
          have y3 := hbpd.cell 3
          have y4 := hbpd.cell 4
          have M1 : True := trivial
          have M2 : True := trivial
          clear z0 z1 z2 z3 z4 z5 hbd hbpd
          go_wp2_with fail
          go_region_held3 (fun w' => w'.cell? ⟨w.heap.size + 1, 0, none⟩ = some (.int .i64 p.n0) ∧ w'.cell? ⟨w.heap.size + 1, 1, none⟩ = some (.int .i64 p.n1) ∧ w'.cell? ⟨w.heap.size + 1, 2, none⟩ = some (.int .i64 p.n2) ∧ w'.cell? ⟨w.heap.size + 1, 3, none⟩ = some (.int .i64 p.n3) ∧ w'.cell? ⟨w.heap.size + 1, 4, none⟩ = some (.int .i64 p.dep))
            (first | exact ⟨(HBP9.out.below (by assumption)).cell 0, (HBP9.out.below (by assumption)).cell 1, (HBP9.out.below (by assumption)).cell 2, (HBP9.out.below (by assumption)).cell 3, (HBP9.out.below (by assumption)).cell 4⟩)
            (first
              | (go_at_call 20; (have m_ := M1; clear M1 m_); refine (HRC.out _ (by assumption)).mono ?_; rintro e w5 ⟨v5, rfl, hown5, hb5⟩; obtain ⟨A5, c5, rfl, hs5, _, _⟩ := SR.own (ok := okRw) enRw_len (by omega) hown5 HOKE.out; clear hown5; have hB5 : Below wb.heap.size wb w5 := bl_then (by assumption) (Nat.le_refl _) hb5)
              | (go_at_call 17; (have m_ := M2; clear M2 m_); refine (sameRw_yes _ _ _ _ _ _ _ _ hs5 (HSA.out _ (by assumption))).mono ?_; rintro e w6 ⟨rfl, hb6⟩; have hB6 : Below wb.heap.size wb w6 := bl_then (by assumption) (Nat.le_refl _) hb6)
              | (go_at_call 18; refine (HUN.out _ (by assumption)).mono ?_; rintro e w7 ⟨v7, rfl, hown7, hb7⟩; obtain ⟨A9, c9, rfl, hs9, _, _⟩ := SR.own (ok := okRw) enRw_len (by omega) hown7 HOKW.out; clear hown7 HUN; have hB7 : Below wb.heap.size wb w7 := bl_then (by assumption) (Nat.le_refl _) hb7)
              | (go_at_call 17; refine (sameRw_yes _ _ _ _ _ _ _ _ hs9 (HSB.out _ (by assumption))).mono ?_; rintro e w8 ⟨rfl, hb8⟩; have hB8 : Below wb.heap.size wb w8 := bl_then (by assumption) (Nat.le_refl _) hb8)
              | (go_at_call 12; refine (stget_nil p _).mono ?_; rintro e w9 ⟨rfl, hb9⟩; have hB9 : Below wb.heap.size wb w9 := bl_then (by assumption) (Nat.le_refl _) hb9)
              | (go_at_call 13; refine (stcount_nil p _).mono ?_; rintro e w10 ⟨rfl, hb10⟩; have hB10 : Below wb.heap.size wb w10 := bl_then (by assumption) (Nat.le_refl _) hb10)
              | (go_at_call 20; refine (strows_nil _).mono ?_; rintro e w11 ⟨v11, rfl, hown11, hb11⟩; obtain ⟨A11, c11, rfl⟩ := own_slice hown11; clear hown11; have hB11 : Below wb.heap.size wb w11 := bl_then (by assumption) (Nat.le_refl _) hb11)
              | (go_at_call 18; refine (stunder_nil p _).mono ?_; rintro e w12 ⟨v12, rfl, hown12, hb12⟩; obtain ⟨A12, c12, rfl⟩ := own_slice hown12; clear hown12; have hB12 : Below wb.heap.size wb w12 := bl_then (by assumption) (Nat.le_refl _) hb12)
              | (go_at_call 23; refine (stcopy_nil _).mono ?_; rintro e _ ⟨rfl, rfl⟩))
          all_goals
            go_wp2
            go_ret
            exact ⟨rfl, bl_then HBE.out (Nat.le_refl _) (by assumption)⟩
end Go.Proofs.Ytjbhlckdaghppaa
