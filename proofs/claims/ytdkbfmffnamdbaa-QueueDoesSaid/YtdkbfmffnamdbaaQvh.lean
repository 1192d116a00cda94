/- The statement QueueDoes: its walk. No condition. -/
import Derived.Test.YtdkbfmffnamdbaaQvd
import Derived.Test.YtdkbfmffnamdbaaQve
import Derived.Test.YtdkbfmffnamdbaaQvg
import Derived.Test.YtdkbfmffnamdbaaQuv
import Derived.Deep.RegionHeld3
import Derived.Deep.CutBlock
set_option linter.unusedVariables false
set_option linter.unusedSimpArgs false
namespace Go.Proofs.Ytdkbfmffnamdbaa
open Go.RowKit (wrap32 wrap64)
open Go.RowKit Go.Shelf Go.Sort
theorem of_range (H : List Hd) (tx : Int) (h : rightT H = true) : 0 ≤ ofT H tx ∧ ofT H tx ≤ 6 := by
  rcases idxB_spec (isTx tx) H with ⟨_, hm⟩ | ⟨k, y, _, hy, hp, hb⟩
  · rw [ofT_miss tx H hm]; omega
  · rw [ofT_hit tx H k y hy hp hb]
    have := ((right_iff H).1 h).1 y (List.mem_of_getElem? hy)
    unfold okHd1 at this
    simp at this
    omega
theorem sweep_mem (W : List Wt) (H : List Hd) : ∀ y ∈ (sweepT H W).o, y ∈ W := fun y hy => by
  have := sweep_app W H
  rw [← this]
  exact List.mem_append_left _ hy
theorem release_mem (W : List Wt) (H : List Hd) (tx : Int) : ∀ y ∈ (releaseT H W tx).o, y ∈ W := fun y hy => by
  unfold releaseT at hy
  split at hy
  · cases hy
  · exact (List.mem_filter.1 (sweep_mem _ _ y hy)).1
theorem cancel_mem (W : List Wt) (H : List Hd) (tx : Int) : ∀ y ∈ (cancelT H W tx).o, y ∈ W := fun y hy => by
  unfold cancelT at hy
  split at hy
  · cases hy
  · exact (List.mem_filter.1 (sweep_mem _ _ y hy)).1
theorem sameHd_yes (a b : Option Addr) (n m cn cm : Nat) (xs : List Hd) (w : World) (ha : Hds w a n xs) (hb : Hds w b m xs) : Calls Try.prog 24 #[.slice a n cn, .slice b m cm] w fun e w' => e = .returned (.bool true) ∧ Below w.heap.size w w' :=
  (sameHd_any a b n m cn cm xs xs w ha hb).mono fun e w' ⟨h1, h2⟩ => ⟨by rw [h1, decide_eq_true rfl], h2⟩
theorem sameWt_yes (a b : Option Addr) (n m cn cm : Nat) (xs : List Wt) (w : World) (ha : Wts w a n xs) (hb : Wts w b m xs) : Calls Try.prog 20 #[.slice a n cn, .slice b m cm] w fun e w' => e = .returned (.bool true) ∧ Below w.heap.size w w' :=
  (sameWt_any a b n m cn cm xs xs w ha hb).mono fun e w' ⟨h1, h2⟩ => ⟨by rw [h1, decide_eq_true rfl], h2⟩
/-- Both queues alike, and the deed's box. -/
structure QSt (w wx : World) (x D : Nat) (d : Qd) (q : Nat) (H : List Hd) (W : List Wt) : Prop where
  qa : QA wx q H W
  rq : RQ wx x H W
  bx : Bk wx D 31 #[.int .i64 d.kind, .int .i64 d.tx, .int .i64 d.mode, .int .i64 d.fl]
  bl : Below w.heap.size w wx
  lq : w.heap.size ≤ q
  lx : w.heap.size ≤ x
theorem QSt.below {w wx wy : World} {x D q : Nat} {d : Qd} {H : List Hd} {W : List Wt} (h : QSt w wx x D d q H W) (b : Below wx.heap.size wx wy) : QSt w wy x D d q H W :=
  ⟨h.qa.below b, h.rq.below b, h.bx.below b, bl_then h.bl (Nat.le_refl _) b, h.lq, h.lx⟩
theorem QSt.apart {w wx : World} {x D q : Nat} {d : Qd} {H : List Hd} {W : List Wt} (h : QSt w wx x D d q H W) : q ≠ x ∧ D ≠ q ∧ D ≠ x := by
  obtain ⟨⟨_, _, b1, _⟩, ⟨_, _, b2, _⟩, b3, _, _, _⟩ := h
  exact ⟨Bk.ne b1 b2 (by decide), Bk.ne b3 b1 (by decide), Bk.ne b3 b2 (by decide)⟩
/-- The program's queue, then the reference's, does something. -/
theorem QSt.both {w wx wy wz : World} {x D q : Nat} {d : Qd} {H H2 : List Hd} {W W2 : List Wt} (h : QSt w wx x D d q H W) (hq : QA wy q H2 W2) (k1 : Keep (fun i => i = q) wx wy) (hx : RQ wz x H2 W2) (k2 : Keep (fun i => i = x) wy wz) : QSt w wz x D d q H2 W2 := by
  obtain ⟨n1, n2, n3⟩ := h.apart
  obtain ⟨_, _, b2, _⟩ := h.rq
  have b2' := k1.bk b2 (Ne.symm n1)
  exact ⟨hq.keep k2 n1 b2' (by decide) (by decide), hx, k2.bk (k1.bk h.bx n2) n3, bl_keep (bl_keep h.bl k1 (fun i hi => by rw [hi]; exact h.lq)) k2 (fun i hi => by rw [hi]; exact h.lx), h.lq, h.lx⟩
theorem QSt.rqAt {w wx wy : World} {x D q : Nat} {d : Qd} {H : List Hd} {W : List Wt} (h : QSt w wx x D d q H W) (k1 : Keep (fun i => i = q) wx wy) : RQ wy x H W := by
  obtain ⟨n1, _, _⟩ := h.apart
  obtain ⟨_, _, b1, _⟩ := h.qa
  exact h.rq.keep k1 (Ne.symm n1) b1 (by decide) (by decide)
set_option maxRecDepth 100000 in
set_option maxHeartbeats 16000000 in
theorem queueDoes_walk (a : Option Addr) (len cap : Nat) (css : List (List Value)) (w : World) (hf : FlatRow w ksQd a len cap css) :
    Calls Try.prog 5 #[.slice a len cap] w fun e w' => e = .returned (.bool true) ∧ Below w.heap.size w w' := by
  obtain ⟨L, hl, hcap, hcm, hnil⟩ := SR.flat (ks := ksQd) (enc := enQd) (ok := okQd) (s := 4) rfl (by omega) enQd_len decQd hf
  clear hf hnil
  by_cases hmany : (50 : Int) < len
  · clear hl hcap hcm
    go_enter Try.func5, Try.ntmps5
    go_wp2_with (go_at_call 7; refine (awake12 _).mono ?_; rintro e w1 ⟨rfl, hb1⟩)
    go_ret
    exact ⟨rfl, hb1⟩
  have hfew : ¬ ((len : Int) > 50) := hmany
  have hle : len ≤ 50 := by omega
  have hcm' : cap ≤ 9223372036854775807 := by unfold maxLen at hcm; exact hcm
  clear hmany hcm
  go_enter Try.func5, Try.ntmps5
  go_wp2_with (go_at_call 7; refine (awake12 _).mono ?_; rintro e w1 ⟨rfl, hb1⟩)
  have al1 := (Below.refl w1.heap.size w1).alloc (Nat.le_refl _) (.cells #[.slice none 0 0, .slice none 0 0] 29)
  have al2 := (Below.refl (w1.alloc (.cells #[.slice none 0 0, .slice none 0 0] 29)).heap.size (w1.alloc (.cells #[.slice none 0 0, .slice none 0 0] 29))).alloc (Nat.le_refl _) (.cells #[.int .i64 0, .int .i64 0, .int .i64 0, .int .i64 0, .int .i64 0, .slice none 0 0, .slice none 0 0] 51)
  have hq0 := (QA.new w1).below al2
  have hx0 := RQ.new (w1.alloc (.cells #[.slice none 0 0, .slice none 0 0] 29))
  have HB1 := bl_then (bl_then hb1 (Nat.le_refl _) al1) (Nat.le_refl _) al2
  have hsz1 : (w1.alloc (.cells #[.slice none 0 0, .slice none 0 0] 29)).heap.size = w1.heap.size + 1 := by simp
  rw [hsz1] at hx0
  obtain ⟨q0, hqe⟩ : ∃ q, q = w1.heap.size := ⟨_, rfl⟩
  obtain ⟨x, hxe⟩ : ∃ x, x = w1.heap.size + 1 := ⟨_, rfl⟩
  rw [← hqe] at hq0
  rw [← hxe] at hx0
  have HQL : Hid (w.heap.size ≤ q0) := Lib.hid (by rw [hqe]; exact hb1.size)
  have HXL : Hid (w.heap.size ≤ x) := Lib.hid (by rw [hxe]; have := hb1.size; omega)
  rw [← hxe, ← hqe]
  generalize (w1.alloc (.cells #[.slice none 0 0, .slice none 0 0] 29)).alloc (.cells #[.int .i64 0, .int .i64 0, .int .i64 0, .int .i64 0, .int .i64 0, .slice none 0 0, .slice none 0 0] 51) = w2 at hq0 hx0 HB1 ⊢
  clear al1 al2 hqe hxe hb1 hsz1
  go_loopw [3, 36] (fun s3 c wr => ∃ (k q : Nat) (H : List Hd) (W : List Wt), k ≤ len ∧ c = .int .i64 k ∧ s3 = .pointer (some ⟨q, 0, none⟩) ∧ QA wr q H W ∧ RQ wr x H W ∧ QOk H W ∧ Stuck H W ∧ H.length + W.length ≤ k ∧ w.heap.size ≤ q ∧ Below w.heap.size w wr) (fun _ c _ => len - (intOf c).toNat)
  case atStart => exact ⟨0, q0, [], [], by omega, rfl, rfl, hq0, hx0, ⟨by decide, ⟨by simp, by simp, by simp⟩, by simp⟩, (by intro x h; cases h), by simp, HQL.out, HB1⟩
  case round =>
    clear hq0 hx0 HB1 HQL
    obtain ⟨k, q, H, W, hk, rfl, rfl, hq, hx, hok, hst, hn, hlq, HB⟩ := hrel
    by_cases hlt : k < len
    case neg =>
      obtain rfl : k = len := by omega
      clear hl hq hx hok hst hn
      go_wp2
      go_ret
      exact ⟨rfl, HB⟩
    obtain ⟨b, off, d, rfl, _, _, hokd, d0, d1, d2, d3⟩ := Qd_at (hl.below HB) hlt
    have al := (Below.refl wr.heap.size wr).alloc (Nat.le_refl _) (.cells #[.int .i64 d.kind, .int .i64 d.tx, .int .i64 d.mode, .int .i64 d.fl] 31)
    have hbx := Bk.new wr 31 #[.int .i64 d.kind, .int .i64 d.tx, .int .i64 d.mode, .int .i64 d.fl]
    have hS : QSt w (wr.alloc (.cells #[.int .i64 d.kind, .int .i64 d.tx, .int .i64 d.mode, .int .i64 d.fl] 31)) x wr.heap.size d q H W := ⟨hq.below al, hx.below al, hbx, bl_then HB (Nat.le_refl _) al, hlq, HXL.out⟩
    have q0 := hbx.cell 0
    have q1 := hbx.cell 1
    have q2 := hbx.cell 2
    have q3 := hbx.cell 3
    have htx := hokd.2.1
    have hr := of_range H d.tx hok.h
    have hal := ask_len H W d.tx d.mode d.fl
    have HS := Lib.hid hS
    have HL := Lib.hid hl
    clear hbx al hq hx HB hlq hl hokd hS
    have HCO := Lib.hid (fun W1 (hq : QA W1 q H W) => qcost_any q H W d.tx d.mode d.fl htx W1 hq (by omega))
    have HCP := Lib.hid (fun W1 (hx : RQ W1 x H W) => rqcopy_any x H W W1 hx (by omega) (by omega))
    have HYA := Lib.hid (fun r W1 (hy : RQ W1 r H W) => rqask_any r H W d.tx d.mode d.fl htx W1 hy hr (by omega) (by omega))
    have HN := Lib.hid hn
    have HOK := Lib.hid hok
    have HST := Lib.hid hst
    have HTX := Lib.hid htx
    have HR := Lib.hid hr
    have hct : Hid (costT H W d.tx d.mode d.fl = if (askT H W d.tx d.mode d.fl).e ≠ 0 then (0, (askT H W d.tx d.mode d.fl).e) else (((askT H W d.tx d.mode d.fl).H.length + (askT H W d.tx d.mode d.fl).W.length : Int) - (H.length + W.length : Int), 0)) := Lib.hid rfl
    generalize costT H W d.tx d.mode d.fl = cc at HCO hct
    obtain ⟨c1, c2⟩ := cc
    generalize hRa : askT H W d.tx d.mode d.fl = Ra at HYA hct hal
    have HRA := Lib.hid hRa
    obtain ⟨ya, ye, yH, yW⟩ := Ra
    dsimp only at hct hal HCO
    have HAL := Lib.hid hal
    clear hn hok hst htx hr hRa hal

    go_upto_region 13 with (first
      | (go_at_call 15; refine (HCO.out _ HS.out.qa).mono ?_; rintro e w3 ⟨rfl, hb3⟩; have hS3 := HS.out.below hb3; have HS3 := Lib.hid hS3; clear hS3 q0 q1 q2 q3)
      | (go_at_call 16; refine (HCP.out _ HS3.out.rq).mono ?_; rintro e w4 ⟨r, rfl, hr4, hy4, hb4⟩; have hS4 := HS3.out.below hb4; have q1 := hS4.bx.cell 1; have q2 := hS4.bx.cell 2; have q3 := hS4.bx.cell 3; have HS4 := Lib.hid hS4; have HY4 := Lib.hid hy4; have HR4 := Lib.hid hr4; clear hS4 hy4 hr4)
      | (go_at_call 17; refine (HYA.out r w4 HY4.out).mono ?_; rintro e w5 ⟨rfl, hy5, hk5⟩))
    have hS5 := HS3.out.below (bl_keep hb4 hk5 (fun i hi => by rw [hi]; exact HR4.out))
    have HS5 := Lib.hid hS5
    have HY5 := Lib.hid hy5
    clear hS5 hy5 hk5 hb4 hb3 q1 q2 q3 HS HS3 HS4 HY4 HR4 HCO HCP HYA d0 d1 d2 d3
    have HZ1 := Lib.hid (fun W1 (hb : Below w5.heap.size w5 W1) => rqsize_any r yH yW W1 (HY5.out.below hb) (by have := HAL.out; have := HN.out; omega))
    have HZ2 := Lib.hid (fun W1 (hb : Below w5.heap.size w5 W1) => rqsize_any x H W W1 (HS5.out.rq.below hb) (by have := HN.out; omega))
    go_cut [87] from 40 to 87 (fun s87 wx => s87 = .bool false ∧ Below w5.heap.size w5 wx)
    case first =>
      have HAL2 := HAL.out
      have HN2 := HN.out
      have hct2 := hct.out
      by_cases g : ye = 0
      · subst g
        rw [if_neg (by simp)] at hct2
        injection hct2 with h1 h2
        subst h2
        have hw : IntKind.i64.wrap ((((yH.length + yW.length : Nat) : Int)) - (((H.length + W.length : Nat) : Int))) = c1 := by rw [h1, IntKind.wrap_i64] <;> omega
        generalize (((yH.length + yW.length : Nat) : Int)) = sa at hw HZ1
        generalize (((H.length + W.length : Nat) : Int)) = sb at hw HZ2
        clear h1 HAL2 HN2
        have hr5 := Below.refl w5.heap.size w5
        go_wp2_with fail
        refine (HZ1.out _ hr5).mono ?_
        rintro e w6 ⟨rfl, hb6⟩
        go_wp2_with fail
        refine (HZ2.out _ hb6).mono ?_
        rintro e w7 ⟨rfl, hb7⟩
        go_wp2
        go_meet
        exact ⟨rfl, bl_then hb6 (Nat.le_refl _) hb7⟩
      · rw [if_pos g] at hct2
        injection hct2 with h1 h2
        subst h1 h2
        have g' : (c2 == 0) = false := by simp [g]
        have g'' : (c2 != 0) = true := by simp [g]
        clear HAL2 HN2 g
        go_wp2
        go_meet
        exact ⟨rfl, Below.refl _ _⟩
    case rest =>
      obtain ⟨rfl, hbc⟩ := hcut
      generalize wc = wa at hbc ⊢
      have HSc := Lib.hid (HS5.out.below hbc)
      have q0 := HSc.out.bx.cell 0
      have q1 := HSc.out.bx.cell 1
      have q2 := HSc.out.bx.cell 2
      have q3 := HSc.out.bx.cell 3
      clear HZ1 HZ2 HS5 HY5 hct HAL HRA hbc
      go_upto_block 2 with fail
      go_cut [3, 7, 13, 14, 15, 16, 17, 18, 19, 20, 21, 22, 23, 24] from 88 to 171 (fun s3 s7 _ _ _ _ _ _ _ _ _ _ _ _ wx => s7 = .bool true ∧ ∃ (q9 : Nat) (H9 : List Hd) (W9 : List Wt), s3 = .pointer (some ⟨q9, 0, none⟩) ∧ QSt w wx x wr.heap.size d q9 H9 W9 ∧ QOk H9 W9 ∧ Stuck H9 W9 ∧ H9.length + W9.length ≤ k + 1)
      case first =>
        have hlx : x < wa.heap.size := HSc.out.rq.lt
        by_cases g3 : d.kind = 3
        · have g3' : (d.kind == 3) = true := by simp [g3]
          have HRL := Lib.hid (qrelease_any q H W d.tx wa HSc.out.qa (by have := HN.out; omega))
          have HRX := Lib.hid (fun W1 (hx : RQ W1 x H W) => rqrelease_any x H W d.tx W1 hx (by have := HN.out; omega))
          have HOO : Hid (∀ y ∈ (releaseT H W d.tx).o, okWt y) := Lib.hid (fun y hy => HSc.out.qa.okW y (release_mem W H d.tx y hy))
          have HLN : Hid ((releaseT H W d.tx).H.length + (releaseT H W d.tx).W.length ≤ k + 1) := Lib.hid (by have := release_len H W d.tx; have := HN.out; omega)
          have HOS := Lib.hid (release_ok HOK.out HST.out d.tx)
          generalize releaseT H W d.tx = R at HRL HRX HOO HLN HOS
          clear g3 HOK HST HN HTX HR
          go_wp2_with (first
            | (go_at_call 11; refine HRL.out.mono ?_; rintro e w6 ⟨v6, rfl, hown6, hq6, hk6⟩; obtain ⟨A6, c6, rfl, _, _, _⟩ := SR.own (ok := okWt) enWt_len (by omega) hown6 HOO.out; have hx6 := HSc.out.rqAt hk6; have z1 := (hk6.bk HSc.out.bx HSc.out.apart.2.1).cell 1; clear q0 q1 q2 q3)
            | (go_at_call 19; refine (HRX.out w6 hx6).mono ?_; rintro e w7 ⟨v7, rfl, hown7, hx7, hk7⟩; obtain ⟨A7, c7, rfl, hs7, _, _⟩ := SR.own (ok := okWt) enWt_len (by omega) hown7 HOO.out; have hown6' := own_keepS hown6 hk7 (fun i hi => by subst hi; exact hlx); obtain ⟨A6', c6', e6, hs6, _, _⟩ := SR.own (ok := okWt) enWt_len (by omega) hown6' HOO.out; obtain ⟨rfl, rfl⟩ : A6 = A6' ∧ c6 = c6' := (by injection e6 with e1 _ e2; exact ⟨e1, e2⟩); clear hown6 hown6' hown7 e6)
            | (go_at_call 20; refine (sameWt_yes _ _ _ _ _ _ _ _ hs6 hs7).mono ?_; rintro e w8 ⟨rfl, hb8⟩))
          go_meet
          exact ⟨rfl, q, R.H, R.W, rfl, (HSc.out.both hq6 hk6 hx7 hk7).below hb8, HOS.out.1, HOS.out.2, HLN.out⟩
        have g3' : (d.kind == 3) = false := by simp [g3]
        by_cases g4 : d.kind = 4
        · have g4' : (d.kind == 4) = true := by simp [g4]
          have HRL := Lib.hid (qcancel_any q H W d.tx wa HSc.out.qa (by have := HN.out; omega))
          have HRX := Lib.hid (fun W1 (hx : RQ W1 x H W) => rqcancel_any x H W d.tx W1 hx (by have := HN.out; omega))
          have HOO : Hid (∀ y ∈ (cancelT H W d.tx).o, okWt y) := Lib.hid (fun y hy => HSc.out.qa.okW y (cancel_mem W H d.tx y hy))
          have HLN : Hid ((cancelT H W d.tx).H.length + (cancelT H W d.tx).W.length ≤ k + 1) := Lib.hid (by have := cancel_len H W d.tx; have := HN.out; omega)
          have HOS := Lib.hid (cancel_ok HOK.out HST.out d.tx)
          generalize cancelT H W d.tx = R at HRL HRX HOO HLN HOS
          clear g4 HOK HST HN HTX HR
          go_wp2_with (first
            | (go_at_call 21; refine HRL.out.mono ?_; rintro e w6 ⟨v6, rfl, hown6, hq6, hk6⟩; obtain ⟨A6, c6, rfl, _, _, _⟩ := SR.own (ok := okWt) enWt_len (by omega) hown6 HOO.out; have hx6 := HSc.out.rqAt hk6; have z1 := (hk6.bk HSc.out.bx HSc.out.apart.2.1).cell 1; clear q0 q1 q2 q3)
            | (go_at_call 22; refine (HRX.out w6 hx6).mono ?_; rintro e w7 ⟨v7, rfl, hown7, hx7, hk7⟩; obtain ⟨A7, c7, rfl, hs7, _, _⟩ := SR.own (ok := okWt) enWt_len (by omega) hown7 HOO.out; have hown6' := own_keepS hown6 hk7 (fun i hi => by subst hi; exact hlx); obtain ⟨A6', c6', e6, hs6, _, _⟩ := SR.own (ok := okWt) enWt_len (by omega) hown6' HOO.out; obtain ⟨rfl, rfl⟩ : A6 = A6' ∧ c6 = c6' := (by injection e6 with e1 _ e2; exact ⟨e1, e2⟩); clear hown6 hown6' hown7 e6)
            | (go_at_call 20; refine (sameWt_yes _ _ _ _ _ _ _ _ hs6 hs7).mono ?_; rintro e w8 ⟨rfl, hb8⟩))
          go_meet
          exact ⟨rfl, q, R.H, R.W, rfl, (HSc.out.both hq6 hk6 hx7 hk7).below hb8, HOS.out.1, HOS.out.2, HLN.out⟩
        have g4' : (d.kind == 4) = false := by simp [g4]
        by_cases g5 : d.kind = 5
        · have g5' : (d.kind == 5) = true := by simp [g5]
          have HCP := Lib.hid (qcopy_any q H W wa HSc.out.qa (by have := HN.out; omega) (by have := HN.out; omega))
          clear g5 g3 g4
          go_wp2_with (go_at_call 23; refine HCP.out.mono ?_; rintro e w6 ⟨r6, rfl, hr6, hq6, hb6⟩)
          go_meet
          exact ⟨rfl, r6, H, W, rfl, ⟨hq6, HSc.out.rq.below hb6, HSc.out.bx.below hb6, bl_then HSc.out.bl (Nat.le_refl _) hb6, Nat.le_trans HSc.out.bl.size hr6, HSc.out.lx⟩, HOK.out, HST.out, by have := HN.out; omega⟩
        have g5' : (d.kind == 5) = false := by simp [g5]
        have HRL := Lib.hid (qask_any q H W d.tx d.mode d.fl HTX.out wa HSc.out.qa (by have := HN.out; omega) (by have := HN.out; omega))
        have HRX := Lib.hid (fun W1 (hx : RQ W1 x H W) => rqask_any x H W d.tx d.mode d.fl HTX.out W1 hx HR.out (by have := HN.out; omega) (by have := HN.out; omega))
        have HLN : Hid ((askT H W d.tx d.mode d.fl).H.length + (askT H W d.tx d.mode d.fl).W.length ≤ k + 1) := Lib.hid (by have := ask_len H W d.tx d.mode d.fl; have := HN.out; omega)
        have HOS := Lib.hid (ask_ok HOK.out HST.out d.tx d.mode d.fl)
        generalize askT H W d.tx d.mode d.fl = R at HRL HRX HLN HOS
        clear g3 g4 g5 HOK HST HN HTX HR
        go_wp2_with (first
          | (go_at_call 8; refine HRL.out.mono ?_; rintro e w6 ⟨rfl, hq6, hk6⟩; have hx6 := HSc.out.rqAt hk6; have hbx6 := hk6.bk HSc.out.bx HSc.out.apart.2.1; have z1 := hbx6.cell 1; have z2 := hbx6.cell 2; have z3 := hbx6.cell 3; clear q0 q1 q2 q3 hbx6)
          | (go_at_call 17; refine (HRX.out w6 hx6).mono ?_; rintro e w7 ⟨rfl, hx7, hk7⟩))
        go_meet
        exact ⟨rfl, q, R.H, R.W, rfl, HSc.out.both hq6 hk6 hx7 hk7, HOS.out.1, HOS.out.2, HLN.out⟩
      case rest =>
        obtain ⟨rfl, q9, H9, W9, rfl, hS9, hok9, hst9, hn9⟩ := hcut
        obtain ⟨vH, vW, hbX, ⟨aH, nH, cH, rfl, hsH, _⟩, ⟨aW, nW, cW, rfl, hsW, _⟩⟩ := id hS9.rq
        generalize wc = wb at hS9 hbX hsH hsW ⊢
        have HXB := Lib.hid hbX
        have HDB := Lib.hid hS9.bx
        have HHO := Lib.hid (fun W1 (hb : Below wb.heap.size wb W1) => qholds_any q9 H9 W9 W1 (hS9.qa.below hb) (by omega))
        have HWA := Lib.hid (fun W1 (hb : Below wb.heap.size wb W1) => qwaits_any q9 H9 W9 W1 (hS9.qa.below hb) (by omega))
        have HZQ := Lib.hid (fun W1 (hb : Below wb.heap.size wb W1) => qsize_any q9 H9 W9 W1 (hS9.qa.below hb) (by omega))
        have HZX := Lib.hid (fun W1 (hb : Below wb.heap.size wb W1) => rqsize_any x H9 W9 W1 (hS9.rq.below hb) (by omega))
        have HMQ := Lib.hid (fun W1 (hb : Below wb.heap.size wb W1) => qmode_any q9 H9 W9 d.tx W1 (hS9.qa.below hb) (by omega))
        have HMX := Lib.hid (fun W1 (hb : Below wb.heap.size wb W1) => rmode_any aH nH cH H9 d.tx W1 (hsH.below hb))
        have HSH := Lib.hid (fun W1 (hb : Below wb.heap.size wb W1) => hsH.below hb)
        have HSW := Lib.hid (fun W1 (hb : Below wb.heap.size wb W1) => hsW.below hb)
        have HOKH := Lib.hid hS9.qa.okH
        have HOKW := Lib.hid hS9.qa.okW
        have HS9 := Lib.hid hS9
        have HE9 := Lib.hid (And.intro hok9 (And.intro hst9 hn9))
        generalize ((H9.length + W9.length : Nat) : Int) = sz at HZQ HZX
        generalize ofT H9 d.tx = md at HMQ HMX
        have hr9 := Below.refl wb.heap.size wb
        have hd9 := below_drew wb
        have cx5 := hbX.cell 5
        have cx6 := hbX.cell 6
        have cd1 := hS9.bx.cell 1
        clear hbX hsH hsW hS9 hok9 hst9 hn9 q0 q1 q2 q3 HSc HOK HST HN HTX HR
        go_wp2_with fail
        go_region_held3 (fun w' => w'.cell? ⟨x, 5, none⟩ = some (.slice aH nH cH) ∧ w'.cell? ⟨x, 6, none⟩ = some (.slice aW nW cW) ∧ w'.cell? ⟨wr.heap.size, 1, none⟩ = some (.int .i64 d.tx))
          (first | exact ⟨(HXB.out.below (by assumption)).cell 5, (HXB.out.below (by assumption)).cell 6, (HDB.out.below (by assumption)).cell 1⟩)
          (first
            | (go_at_call 25; refine (HHO.out _ (by assumption)).mono ?_; rintro e w5 ⟨v5, rfl, hown5, hb5⟩; obtain ⟨A5, c5, rfl, hs5, _, _⟩ := SR.own (ok := okHd) enHd_len (by omega) hown5 HOKH.out; clear hown5; have hB5 : Below wb.heap.size wb w5 := bl_then (by assumption) (Nat.le_refl _) hb5)
            | (go_at_call 24; refine (sameHd_yes _ _ _ _ _ _ _ _ hs5 (HSH.out _ (by assumption))).mono ?_; rintro e w6 ⟨rfl, hb6⟩; have hB6 : Below wb.heap.size wb w6 := bl_then (by assumption) (Nat.le_refl _) hb6)
            | (go_at_call 9; refine (HWA.out _ (by assumption)).mono ?_; rintro e w7 ⟨v7, rfl, hown7, hb7⟩; obtain ⟨A7, c7, rfl, hs7, _, _⟩ := SR.own (ok := okWt) enWt_len (by omega) hown7 HOKW.out; clear hown7; have hB7 : Below wb.heap.size wb w7 := bl_then (by assumption) (Nat.le_refl _) hb7)
            | (go_at_call 20; refine (sameWt_yes _ _ _ _ _ _ _ _ hs7 (HSW.out _ (by assumption))).mono ?_; rintro e w8 ⟨rfl, hb8⟩; have hB8 : Below wb.heap.size wb w8 := bl_then (by assumption) (Nat.le_refl _) hb8)
            | (go_at_call 14; refine (HZQ.out _ (by assumption)).mono ?_; rintro e w9 ⟨rfl, hb9⟩; have hB9 : Below wb.heap.size wb w9 := bl_then (by assumption) (Nat.le_refl _) hb9)
            | (go_at_call 18; refine (HZX.out _ (by assumption)).mono ?_; rintro e w10 ⟨rfl, hb10⟩; have hB10 : Below wb.heap.size wb w10 := bl_then (by assumption) (Nat.le_refl _) hb10)
            | (go_at_call 13; refine (HMQ.out _ (by assumption)).mono ?_; rintro e w11 ⟨rfl, hb11⟩; have hB11 : Below wb.heap.size wb w11 := bl_then (by assumption) (Nat.le_refl _) hb11)
            | (go_at_call 26; refine (HMX.out _ (by assumption)).mono ?_; rintro e w12 ⟨rfl, hb12⟩; have hB12 : Below wb.heap.size wb w12 := bl_then (by assumption) (Nat.le_refl _) hb12))
        all_goals
          go_wp2
          go_roundw
          case rel => exact ⟨k + 1, q9, H9, W9, by omega, by go_num, rfl, (HS9.out.below (by assumption)).qa, (HS9.out.below (by assumption)).rq, HE9.out.1, HE9.out.2.1, HE9.out.2.2, HS9.out.lq, (HS9.out.below (by assumption)).bl⟩
          case measure => simp [intOf]; omega
end Go.Proofs.Ytdkbfmffnamdbaa
