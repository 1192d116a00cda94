/- queue: the reference's Cancel, Release. No condition. -/
import Derived.Test.YtdkbfmffnamdbaaQvf
import Derived.Test.YtdkbfmffnamdbaaQut
set_option linter.unusedVariables false
set_option linter.unusedSimpArgs false
namespace Go.Proofs.Ytdkbfmffnamdbaa
open Go.RowKit (wrap32 wrap64)
open Go.RowKit Go.Shelf Go.Sort
def RToldRet (q : Nat) (w : World) (r : Told) (e : Ending) (w' : World) : Prop := ∃ v, e = .returned (.tuple #[v, .int .i64 r.e]) ∧ w'.ownsRow w.heap.size 37 4 v r.o.length (flatV enWt r.o) ∧ RQ w' q r.H r.W ∧ Keep (fun i => i = q) w w'
set_option maxRecDepth 100000 in
set_option maxHeartbeats 4000000 in
theorem rqcancel_any (q : Nat) (H : List Hd) (W : List Wt) (tx : Int) (w : World) (h : RQ w q H W) (hn : H.length + W.length ≤ 900) : Calls Try.prog 22 #[.pointer (some ⟨q, 0, none⟩), .int .i64 tx] w (RToldRet q w (cancelT H W tx)) := by
  have h0 := h
  obtain ⟨vH, vW, hb, hsH, ⟨a2, n2, c2, rfl, hs2, hc2, hcm2, ht2⟩⟩ := h
  have HF := Lib.hid (rfindW_any a2 n2 c2 W tx w hs2)
  have c1 := hb.cell 6
  unfold cancelT
  by_cases g : idxB (ofTx tx) W < 0
  · rw [if_pos g]
    generalize idxB (ofTx tx) W = z at g HF
    have HQ := Lib.hid h0
    clear h0 hb hsH hs2 hc2 ht2
    go_enter Try.func22, Try.ntmps22
    go_wp2_with (go_at_call 44; refine HF.out.mono ?_; rintro e w1 ⟨rfl, hb1⟩)
    go_ret2
    exact ⟨_, rfl, World.ownsRow_nil _ _ _ _, HQ.out.below hb1, Keep.of_below hb1 _⟩
  · rw [if_neg g]
    have HW := Lib.hid (fun W1 (hb1 : Below w.heap.size w W1) => rwithoutW_any a2 n2 c2 W tx W1 (hs2.below hb1) (by have := hs2.len; omega))
    have hl : (outT tx W).length ≤ W.length := List.length_filter_le _ _
    have HSW := Lib.hid (fun (W1 : World) (hq : RQ W1 q H (outT tx W)) => rqsweep_any q H (outT tx W) W1 hq (by omega))
    have HOK : Hid (∀ x ∈ outT tx W, okWt x) := Lib.hid (fun x hx => h0.okW x (List.mem_filter.1 hx).1)
    have HB := Lib.hid hb
    have HQ := Lib.hid h0
    have HE := Lib.hid (sweep_e (outT tx W) H)
    change Hid (∀ W1, Below w.heap.size w W1 → Calls Try.prog 50 #[.slice a2 n2 c2, .int .i64 tx] W1 (OwnRet enWt 37 4 W1 (outT tx W))) at HW
    generalize outT tx W = W2 at HW HSW HOK HE ⊢
    generalize hR : sweepT H W2 = R at HSW HE ⊢
    generalize idxB (ofTx tx) W = z at g HF
    clear h0 hb hsH hs2 hc2 ht2 hl hn hR
    go_enter Try.func22, Try.ntmps22
    go_wp2_with (first
      | (go_at_call 44; refine HF.out.mono ?_; rintro e w1 ⟨rfl, hb1⟩; have b1 := (HB.out.below hb1).cell 6)
      | (go_at_call 50; refine (HW.out _ hb1).mono ?_; rintro e w5 ⟨v, rfl, hown, hb5⟩; have hv := RF.own (ok := okWt) enWt_len (by omega) hown HOK.out; replace hb5 := bl_then hb1 (Nat.le_refl _) hb5; have hq5 := HQ.out.below hb5; have f1 := (HB.out.below hb5).frozen 6; have d1 := (HB.out.below hb5).cell 6; obtain ⟨A1, n1, p1, rfl, _⟩ := id hv; have HQ6 := Lib.hid (hq5.setW hv); have HK6 := Lib.hid ((Keep.of_below hb5 (fun i => i = q)).trans (keep_set w5 q 6 (.slice A1 n1 p1))); clear hown hv hq5)
      | (go_at_call 51; refine (HSW.out _ HQ6.out).mono ?_; rintro e w7 ⟨v7, rfl, hown7, hq7, hk7⟩))
    go_ret2
    exact ⟨v7, by rw [HE.out]; rfl, own_weaken hown7 HK6.out.size, hq7, HK6.out.trans hk7⟩
set_option maxRecDepth 100000 in
set_option maxHeartbeats 4000000 in
theorem rqrelease_any (q : Nat) (H : List Hd) (W : List Wt) (tx : Int) (w : World) (h : RQ w q H W) (hn : H.length + W.length ≤ 900) : Calls Try.prog 19 #[.pointer (some ⟨q, 0, none⟩), .int .i64 tx] w (RToldRet q w (releaseT H W tx)) := by
  have h0 := h
  obtain ⟨vH, vW, hb, ⟨a, n, cp, rfl, hs, hc, hcm, ht⟩, ⟨a2, n2, c2, rfl, hs2, hc2, hcm2, ht2⟩⟩ := h
  have HM := Lib.hid (rmode_any a n cp H tx w hs)
  have HF := Lib.hid (fun W1 (hb1 : Below w.heap.size w W1) => rfindW_any a2 n2 c2 W tx W1 (hs2.below hb1))
  have c0 := hb.cell 5
  have c1 := hb.cell 6
  have HB := Lib.hid hb
  have HQ := Lib.hid h0
  have HD := Lib.hid (fun W1 (hb1 : Below w.heap.size w W1) => rdrop_any a n cp H tx W1 (hs.below hb1) (by have := hs.len; omega))
  have HW := Lib.hid (fun W1 (hb1 : Below w.heap.size w W1) => rwithoutW_any a2 n2 c2 W tx W1 (hs2.below hb1) (by have := hs2.len; omega))
  have hl : (outT tx W).length ≤ W.length := List.length_filter_le _ _
  have hl2 : (dropT H tx).length ≤ H.length := List.length_filter_le _ _
  have HSW := Lib.hid (fun (W1 : World) (hq : RQ W1 q (dropT H tx) (outT tx W)) => rqsweep_any q (dropT H tx) (outT tx W) W1 hq (by omega))
  have HOK : Hid (∀ x ∈ outT tx W, okWt x) := Lib.hid (fun x hx => h0.okW x (List.mem_filter.1 hx).1)
  have HOKH : Hid (∀ x ∈ dropT H tx, okHd x) := Lib.hid (fun x hx => h0.okH x (List.mem_filter.1 hx).1)
  have HE := Lib.hid (sweep_e (outT tx W) (dropT H tx))
  change Hid (∀ W1, Below w.heap.size w W1 → Calls Try.prog 50 #[.slice a2 n2 c2, .int .i64 tx] W1 (OwnRet enWt 37 4 W1 (outT tx W))) at HW
  unfold releaseT
  generalize outT tx W = W2 at HW HSW HOK HE ⊢
  generalize dropT H tx = H2 at HD HSW HOKH HE ⊢
  generalize hR : sweepT H2 W2 = R at HSW HE ⊢
  generalize ofT H tx = md at HM ⊢
  generalize idxB (ofTx tx) W = z at HF ⊢
  clear h0 hb hs hc ht hs2 hc2 ht2 hl hl2 hn hR
  by_cases g1 : md = 0
  · have g1' : (md == 0) = true := by simp [g1]
    by_cases g2 : z < 0
    · rw [if_pos ⟨g1, g2⟩]
      clear g1 HD HW HSW HOK HOKH HE
      go_enter Try.func19, Try.ntmps19
      go_wp2_with (first
        | (go_at_call 26; refine HM.out.mono ?_; rintro e w1 ⟨rfl, hb1⟩; have b1 := (HB.out.below hb1).cell 6)
        | (go_at_call 44; refine (HF.out _ hb1).mono ?_; rintro e w2 ⟨rfl, hb2⟩))
      go_ret2
      have hb3 := bl_then hb1 (Nat.le_refl _) hb2
      exact ⟨_, rfl, World.ownsRow_nil _ _ _ _, HQ.out.below hb3, Keep.of_below hb3 _⟩
    · rw [if_neg (fun h => g2 h.2)]
      clear g1
      go_enter Try.func19, Try.ntmps19
      go_wp2_with (first
        | (go_at_call 26; refine HM.out.mono ?_; rintro e w1 ⟨rfl, hb1⟩; have b1 := (HB.out.below hb1).cell 6)
        | (go_at_call 44; refine (HF.out _ hb1).mono ?_; rintro e w2 ⟨rfl, hb2⟩; replace hb2 := bl_then hb1 (Nat.le_refl _) hb2))
      have hd2 := bl_then hb2 (Nat.le_refl _) (below_drew w2)
      have e0 := (HB.out.below hb2).cell 5
      have e1 := (HB.out.below hb2).cell 6
      clear c0 c1
      (try clear b1)
      go_region_with (first
        | (go_at_call 49; refine (HD.out _ hd2).mono ?_; rintro e w3 ⟨v3, rfl, hown3, hb3⟩; have hs3 := RF.own (ok := okHd) enHd_len (by omega) hown3 HOKH.out; obtain ⟨a3, n3, p3, rfl, _⟩ := id hs3; have hd3 := bl_then hd2 (Nat.le_refl _) hb3; have x1 := (HB.out.below hd3).cell 6; have HS3 := Lib.hid hs3; clear hown3 hs3)
        | (go_at_call 50; refine (HW.out _ hd3).mono ?_; rintro e w5 ⟨v5, rfl, hown5, hb5⟩; have hs5 := RF.own (ok := okWt) enWt_len (by omega) hown5 HOK.out; obtain ⟨a5, n5, p5, rfl, _⟩ := id hs5; have hd5 := bl_then hd3 (Nat.le_refl _) hb5; have hb9 := HB.out.below hd5; have f0 := hb9.frozen 5; have f1 := hb9.frozen 6; have y0 := hb9.cell 5; have y1 := hb9.cell 6; have hq6 := (HQ.out.below hd5).setH (HS3.out.below hb5); have hq7 := hq6.setW (hs5.keep (keep_set w5 q 5 (.slice a3 n3 p3)) (fun i hi => by subst hi; exact ⟨_, _, hb9, by decide⟩)); have HQ7 := Lib.hid hq7; have HK7 := Lib.hid (((Keep.of_below hd5 (fun i => i = q)).trans (keep_set w5 q 5 (.slice a3 n3 p3))).trans (keep_set _ q 6 (.slice a5 n5 p5))); clear hown5 hs5 hb9 hq6 hq7))
      all_goals
        go_wp2_with (go_at_call 51; refine (HSW.out _ HQ7.out).mono ?_; rintro e w7 ⟨v7, rfl, hown7, hq7, hk7⟩)
        go_ret2
        exact ⟨v7, by rw [HE.out]; rfl, own_weaken hown7 HK7.out.size, hq7, HK7.out.trans hk7⟩
  · have g1' : (md == 0) = false := by simp [g1]
    rw [if_neg (fun h => g1 h.1)]
    clear g1
    go_enter Try.func19, Try.ntmps19
    go_wp2_with (go_at_call 26; refine HM.out.mono ?_; rintro e w2 ⟨rfl, hb2⟩)
    have hd2 := bl_then hb2 (Nat.le_refl _) (below_drew w2)
    have e0 := (HB.out.below hb2).cell 5
    have e1 := (HB.out.below hb2).cell 6
    clear c0 c1
    (try clear b1)
    go_region_with (first
      | (go_at_call 49; refine (HD.out _ hd2).mono ?_; rintro e w3 ⟨v3, rfl, hown3, hb3⟩; have hs3 := RF.own (ok := okHd) enHd_len (by omega) hown3 HOKH.out; obtain ⟨a3, n3, p3, rfl, _⟩ := id hs3; have hd3 := bl_then hd2 (Nat.le_refl _) hb3; have x1 := (HB.out.below hd3).cell 6; have HS3 := Lib.hid hs3; clear hown3 hs3)
      | (go_at_call 50; refine (HW.out _ hd3).mono ?_; rintro e w5 ⟨v5, rfl, hown5, hb5⟩; have hs5 := RF.own (ok := okWt) enWt_len (by omega) hown5 HOK.out; obtain ⟨a5, n5, p5, rfl, _⟩ := id hs5; have hd5 := bl_then hd3 (Nat.le_refl _) hb5; have hb9 := HB.out.below hd5; have f0 := hb9.frozen 5; have f1 := hb9.frozen 6; have y0 := hb9.cell 5; have y1 := hb9.cell 6; have hq6 := (HQ.out.below hd5).setH (HS3.out.below hb5); have hq7 := hq6.setW (hs5.keep (keep_set w5 q 5 (.slice a3 n3 p3)) (fun i hi => by subst hi; exact ⟨_, _, hb9, by decide⟩)); have HQ7 := Lib.hid hq7; have HK7 := Lib.hid (((Keep.of_below hd5 (fun i => i = q)).trans (keep_set w5 q 5 (.slice a3 n3 p3))).trans (keep_set _ q 6 (.slice a5 n5 p5))); clear hown5 hs5 hb9 hq6 hq7))
    all_goals
      go_wp2_with (go_at_call 51; refine (HSW.out _ HQ7.out).mono ?_; rintro e w7 ⟨v7, rfl, hown7, hq7, hk7⟩)
      go_ret2
      exact ⟨v7, by rw [HE.out]; rfl, own_weaken hown7 HK7.out.size, hq7, HK7.out.trans hk7⟩
def costT (H : List Hd) (W : List Wt) (tx m fl : Int) : Int × Int := if (askT H W tx m fl).e ≠ 0 then (0, (askT H W tx m fl).e) else (((askT H W tx m fl).H.length + (askT H W tx m fl).W.length : Int) - (H.length + W.length : Int), 0)
set_option maxRecDepth 100000 in
set_option maxHeartbeats 4000000 in
theorem qcost_any (q : Nat) (H : List Hd) (W : List Wt) (tx m fl : Int) (htx : (Lit.int .i64 tx).wf = true) (w : World) (h : QA w q H W) (hn : H.length + W.length ≤ 800) :
    Calls Try.prog 15 #[.pointer (some ⟨q, 0, none⟩), .int .i64 tx, .int .i64 m, .int .i64 fl] w fun e w' => e = .returned (.tuple #[.int .i64 (costT H W tx m fl).1, .int .i64 (costT H W tx m fl).2]) ∧ Below w.heap.size w w' := by
  have hal := ask_len H W tx m fl
  have HC := Lib.hid (qcopy_any q H W w h (by omega) (by omega))
  have HQ := Lib.hid h
  have HA := Lib.hid (fun r W1 (hr : QA W1 r H W) => qask_any r H W tx m fl htx W1 hr (by omega) (by omega))
  have HS := Lib.hid (fun W1 (hb : Below w.heap.size w W1) => qsize_any q H W W1 (h.below hb) (by omega))
  unfold costT
  generalize askT H W tx m fl = R at HA hal ⊢
  obtain ⟨Ra, Re, RH, RW⟩ := R
  dsimp only at hal ⊢
  by_cases g : Re = 0
  · subst g
    rw [if_neg (by simp)]
    have HS2 := Lib.hid (fun r W1 (hr : QA W1 r RH RW) => qsize_any r RH RW W1 hr (by omega))
    have hw : IntKind.i64.wrap ((((RH.length + RW.length : Nat) : Int)) - (((H.length + W.length : Nat) : Int))) = ((RH.length : Int) + RW.length) - ((H.length : Int) + W.length) := by rw [IntKind.wrap_i64] <;> omega
    generalize ((RH.length : Int) + RW.length) - ((H.length : Int) + W.length) = d at hw ⊢
    generalize (((RH.length + RW.length : Nat) : Int)) = sa at hw HS2
    generalize (((H.length + W.length : Nat) : Int)) = sb at hw HS
    clear hal h hn
    go_enter Try.func15, Try.ntmps15
    go_wp2_with (go_at_call 23; refine HC.out.mono ?_; rintro e w1 ⟨r, rfl, hr, hq1, hb1⟩)
    have HR := Lib.hid hr
    clear hr
    go_wp2_with fail
    refine (HA.out r w1 hq1).mono ?_
    rintro e w2 ⟨rfl, hq2, hk2⟩
    have hb2 := bl_keep hb1 hk2 (fun i hi => by rw [hi]; exact HR.out)
    have HQ2 : Hid (QA w2 r RH RW) := Lib.hid hq2
    clear hq1 hq2 hb1 hk2
    go_wp2_with fail
    refine (HS2.out r w2 HQ2.out).mono ?_
    rintro e w3 ⟨rfl, hb3⟩
    have hb4 := bl_then hb2 (Nat.le_refl _) hb3
    go_wp2_with fail
    refine (HS.out w3 hb4).mono ?_
    rintro e w5 ⟨rfl, hb5⟩
    go_wp2
    go_ret2
    exact ⟨rfl, bl_then hb4 (Nat.le_refl _) hb5⟩
  · rw [if_pos g]
    have g' : (Re != 0) = true := by simp [g]
    clear hal h hn HS g
    go_enter Try.func15, Try.ntmps15
    go_wp2_with (go_at_call 23; refine HC.out.mono ?_; rintro e w1 ⟨r, rfl, hr, hq1, hb1⟩)
    have HR := Lib.hid hr
    clear hr
    go_wp2_with fail
    refine (HA.out r w1 hq1).mono ?_
    rintro e w2 ⟨rfl, hq2, hk2⟩
    have hb2 := bl_keep hb1 hk2 (fun i hi => by rw [hi]; exact HR.out)
    clear hq1 hq2 hb1 hk2
    go_wp2
    go_ret2
    exact ⟨rfl, hb2⟩
end Go.Proofs.Ytdkbfmffnamdbaa
