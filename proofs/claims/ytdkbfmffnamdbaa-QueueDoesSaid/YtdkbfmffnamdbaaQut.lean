/- queue: Cancel, Release, Cost. No condition. -/
import Derived.Test.YtdkbfmffnamdbaaQus
set_option linter.unusedVariables false
set_option linter.unusedSimpArgs false
namespace Go.Proofs.Ytdkbfmffnamdbaa
open Go.RowKit (wrap32 wrap64)
open Go.RowKit Go.Shelf Go.Sort
def ToldRet (q : Nat) (w : World) (r : Told) (e : Ending) (w' : World) : Prop := ∃ v, e = .returned (.tuple #[v, .int .i64 r.e]) ∧ w'.ownsRow w.heap.size 37 4 v r.o.length (flatV enWt r.o) ∧ QA w' q r.H r.W ∧ Keep (fun i => i = q) w w'
theorem sweep_e (W : List Wt) : ∀ H, (sweepT H W).e = 0 := by
  intro H
  cases W with
  | nil => rfl
  | cons x W => unfold sweepT; split <;> rfl
theorem own_kp {w w1 : World} {q base base' n s : Nat} {e : TypeId} {v : Value} {xs : List Value} (h : w1.ownsRow base e s v n xs) (hb : base' ≤ base) : w1.ownsRow base' e s v n xs := own_weaken h hb
theorem qcancel_nil (tx : Int) (w : World) : Calls Try.prog 21 #[.pointer none, .int .i64 tx] w fun e w' => e = .returned (.tuple #[.slice none 0 0, .int .i64 70]) ∧ w = w' := by
  go_enter Try.func21, Try.ntmps21
  go_wp2
  go_ret2
  exact ⟨rfl, rfl⟩
theorem qrelease_nil (tx : Int) (w : World) : Calls Try.prog 11 #[.pointer none, .int .i64 tx] w fun e w' => e = .returned (.tuple #[.slice none 0 0, .int .i64 70]) ∧ w = w' := by
  go_enter Try.func11, Try.ntmps11
  go_wp2
  go_ret2
  exact ⟨rfl, rfl⟩
set_option maxRecDepth 100000 in
set_option maxHeartbeats 4000000 in
theorem qcancel_any (q : Nat) (H : List Hd) (W : List Wt) (tx : Int) (w : World) (h : QA w q H W) (hn : H.length + W.length ≤ 900) : Calls Try.prog 21 #[.pointer (some ⟨q, 0, none⟩), .int .i64 tx] w (ToldRet q w (cancelT H W tx)) := by
  have h0 := h
  obtain ⟨vH, vW, hb, hsH, ⟨a2, n2, c2, rfl, hs2, hc2, ht2⟩⟩ := h
  have HF := Lib.hid (qfind_any a2 n2 c2 W tx w hs2 (by have := hs2.len; omega))
  have c1 := hb.cell 1
  unfold cancelT
  by_cases g : idxB (ofTx tx) W < 0
  · rw [if_pos g]
    generalize idxB (ofTx tx) W = z at g HF
    have HQ := Lib.hid h0
    clear h0 hb hsH hs2 hc2 ht2
    go_enter Try.func21, Try.ntmps21
    go_wp2_with (go_at_call 10; refine HF.out.mono ?_; rintro e w1 ⟨rfl, hb1⟩)
    go_ret2
    exact ⟨_, rfl, World.ownsRow_nil _ _ _ _, HQ.out.below hb1, Keep.of_below hb1 _⟩
  · rw [if_neg g]
    have HW := Lib.hid (fun W1 (hb1 : Below w.heap.size w W1) => qwithout_any a2 n2 c2 W tx W1 (hs2.below hb1) hc2.2.2 (by have := hs2.len; omega))
    have hl : (outT tx W).length ≤ W.length := List.length_filter_le _ _
    have HSW := Lib.hid (fun (W1 : World) (hq : QA W1 q H (outT tx W)) => qsweep_any q H (outT tx W) W1 hq (by omega))
    have HOK : Hid (∀ x ∈ outT tx W, okWt x) := Lib.hid (fun x hx => h0.okW x (List.mem_filter.1 hx).1)
    have HB := Lib.hid hb
    have HQ := Lib.hid h0
    have HE := Lib.hid (sweep_e (outT tx W) H)
    change Hid (∀ W1, Below w.heap.size w W1 → Calls Try.prog 40 #[.slice a2 n2 c2, .int .i64 tx] W1 (OwnRet enWt 37 4 W1 (outT tx W))) at HW
    generalize outT tx W = W2 at HW HSW HOK HE ⊢
    generalize hR : sweepT H W2 = R at HSW HE ⊢
    generalize idxB (ofTx tx) W = z at g HF
    clear h0 hb hsH hs2 hc2 ht2 hl hn hR
    go_enter Try.func21, Try.ntmps21
    go_wp2_with (first
      | (go_at_call 10; refine HF.out.mono ?_; rintro e w1 ⟨rfl, hb1⟩; have b1 := (HB.out.below hb1).cell 1)
      | (go_at_call 40; refine (HW.out _ hb1).mono ?_; rintro e w5 ⟨v, rfl, hown, hb5⟩; have hv := SF.own (ok := okWt) enWt_len (by omega) hown HOK.out; replace hb5 := bl_then hb1 (Nat.le_refl _) hb5; have hq5 := HQ.out.below hb5; have f1 := (HB.out.below hb5).frozen 1; have d1 := (HB.out.below hb5).cell 1; obtain ⟨A1, n1, p1, rfl, _⟩ := id hv; have HQ6 := Lib.hid (hq5.setW hv); have HK6 := Lib.hid ((Keep.of_below hb5 (fun i => i = q)).trans (keep_set w5 q 1 (.slice A1 n1 p1))); clear hown hv hq5)
      | (go_at_call 41; refine (HSW.out _ HQ6.out).mono ?_; rintro e w7 ⟨v7, rfl, hown7, hq7, hk7⟩))
    go_ret2
    exact ⟨v7, by rw [HE.out]; rfl, own_weaken hown7 HK6.out.size, hq7, HK6.out.trans hk7⟩
set_option maxRecDepth 100000 in
set_option maxHeartbeats 4000000 in
theorem qrelease_any (q : Nat) (H : List Hd) (W : List Wt) (tx : Int) (w : World) (h : QA w q H W) (hn : H.length + W.length ≤ 900) : Calls Try.prog 11 #[.pointer (some ⟨q, 0, none⟩), .int .i64 tx] w (ToldRet q w (releaseT H W tx)) := by
  have h0 := h
  have HM := Lib.hid (qmode_any q H W tx w h (by omega))
  obtain ⟨vH, vW, hb, ⟨a, n, cp, rfl, hs, hc, ht⟩, ⟨a2, n2, c2, rfl, hs2, hc2, ht2⟩⟩ := h
  have HF := Lib.hid (fun W1 (hb1 : Below w.heap.size w W1) => qfind_any a2 n2 c2 W tx W1 (hs2.below hb1) (by have := hs2.len; omega))
  have c0 := hb.cell 0
  have c1 := hb.cell 1
  have HB := Lib.hid hb
  have HQ := Lib.hid h0
  have HD := Lib.hid (fun W1 (hb1 : Below w.heap.size w W1) => gdrop_any a n cp H tx W1 (hs.below hb1) hc.2.2 (by have := hs.len; omega))
  have HW := Lib.hid (fun W1 (hb1 : Below w.heap.size w W1) => qwithout_any a2 n2 c2 W tx W1 (hs2.below hb1) hc2.2.2 (by have := hs2.len; omega))
  have hl : (outT tx W).length ≤ W.length := List.length_filter_le _ _
  have hl2 : (dropT H tx).length ≤ H.length := List.length_filter_le _ _
  have HSW := Lib.hid (fun (W1 : World) (hq : QA W1 q (dropT H tx) (outT tx W)) => qsweep_any q (dropT H tx) (outT tx W) W1 hq (by omega))
  have HOK : Hid (∀ x ∈ outT tx W, okWt x) := Lib.hid (fun x hx => h0.okW x (List.mem_filter.1 hx).1)
  have HOKH : Hid (∀ x ∈ dropT H tx, okHd x) := Lib.hid (fun x hx => h0.okH x (List.mem_filter.1 hx).1)
  have HE := Lib.hid (sweep_e (outT tx W) (dropT H tx))
  change Hid (∀ W1, Below w.heap.size w W1 → Calls Try.prog 40 #[.slice a2 n2 c2, .int .i64 tx] W1 (OwnRet enWt 37 4 W1 (outT tx W))) at HW
  unfold releaseT
  generalize outT tx W = W2 at HW HSW HOK HE ⊢
  generalize dropT H tx = H2 at HD HSW HOKH HE ⊢
  generalize hR : sweepT H2 W2 = R at HSW HE ⊢
  generalize ofT H tx = md at HM ⊢
  generalize idxB (ofTx tx) W = z at HF ⊢
  clear h0 hb hs hc ht hs2 hc2 ht2 hl hl2 hn hR
  by_cases g1 : md = 0
  · have g1' : (md == 0) = true := by simp [g1]
    by_cases g2 : z < 0
    · rw [if_pos ⟨g1, g2⟩]
      clear g1 HD HW HSW HOK HOKH HE
      go_enter Try.func11, Try.ntmps11
      go_wp2_with (first
        | (go_at_call 13; refine HM.out.mono ?_; rintro e w1 ⟨rfl, hb1⟩; have b1 := (HB.out.below hb1).cell 1)
        | (go_at_call 10; refine (HF.out _ hb1).mono ?_; rintro e w2 ⟨rfl, hb2⟩))
      go_ret2
      have hb3 := bl_then hb1 (Nat.le_refl _) hb2
      exact ⟨_, rfl, World.ownsRow_nil _ _ _ _, HQ.out.below hb3, Keep.of_below hb3 _⟩
    · rw [if_neg (fun h => g2 h.2)]
      clear g1
      go_enter Try.func11, Try.ntmps11
      go_wp2_with (first
        | (go_at_call 13; refine HM.out.mono ?_; rintro e w1 ⟨rfl, hb1⟩; have b1 := (HB.out.below hb1).cell 1)
        | (go_at_call 10; refine (HF.out _ hb1).mono ?_; rintro e w2 ⟨rfl, hb2⟩; replace hb2 := bl_then hb1 (Nat.le_refl _) hb2))
      have hd2 := bl_then hb2 (Nat.le_refl _) (below_drew w2)
      have e0 := (HB.out.below hb2).cell 0
      have e1 := (HB.out.below hb2).cell 1
      clear c0 c1
      (try clear b1)
      go_region_with (first
        | (go_at_call 39; refine (HD.out _ hd2).mono ?_; rintro e w3 ⟨v3, rfl, hown3, hb3⟩; have hs3 := SF.own (ok := okHd) enHd_len (by omega) hown3 HOKH.out; obtain ⟨a3, n3, p3, rfl, _⟩ := id hs3; have hd3 := bl_then hd2 (Nat.le_refl _) hb3; have x1 := (HB.out.below hd3).cell 1; have HS3 := Lib.hid hs3; clear hown3 hs3)
        | (go_at_call 40; refine (HW.out _ hd3).mono ?_; rintro e w5 ⟨v5, rfl, hown5, hb5⟩; have hs5 := SF.own (ok := okWt) enWt_len (by omega) hown5 HOK.out; obtain ⟨a5, n5, p5, rfl, _⟩ := id hs5; have hd5 := bl_then hd3 (Nat.le_refl _) hb5; have hb9 := HB.out.below hd5; have f0 := hb9.frozen 0; have f1 := hb9.frozen 1; have y0 := hb9.cell 0; have y1 := hb9.cell 1; have hq6 := (HQ.out.below hd5).setH (HS3.out.below hb5); have hq7 := hq6.setW (hs5.keep (keep_set w5 q 0 (.slice a3 n3 p3)) (fun i hi => by subst hi; exact ⟨_, _, hb9, by decide⟩)); have HQ7 := Lib.hid hq7; have HK7 := Lib.hid (((Keep.of_below hd5 (fun i => i = q)).trans (keep_set w5 q 0 (.slice a3 n3 p3))).trans (keep_set _ q 1 (.slice a5 n5 p5))); clear hown5 hs5 hb9 hq6 hq7))
      all_goals
        go_wp2_with (go_at_call 41; refine (HSW.out _ HQ7.out).mono ?_; rintro e w7 ⟨v7, rfl, hown7, hq7, hk7⟩)
        go_ret2
        exact ⟨v7, by rw [HE.out]; rfl, own_weaken hown7 HK7.out.size, hq7, HK7.out.trans hk7⟩
  · have g1' : (md == 0) = false := by simp [g1]
    rw [if_neg (fun h => g1 h.1)]
    clear g1
    go_enter Try.func11, Try.ntmps11
    go_wp2_with (go_at_call 13; refine HM.out.mono ?_; rintro e w2 ⟨rfl, hb2⟩)
    have hd2 := bl_then hb2 (Nat.le_refl _) (below_drew w2)
    have e0 := (HB.out.below hb2).cell 0
    have e1 := (HB.out.below hb2).cell 1
    clear c0 c1
    (try clear b1)
    go_region_with (first
      | (go_at_call 39; refine (HD.out _ hd2).mono ?_; rintro e w3 ⟨v3, rfl, hown3, hb3⟩; have hs3 := SF.own (ok := okHd) enHd_len (by omega) hown3 HOKH.out; obtain ⟨a3, n3, p3, rfl, _⟩ := id hs3; have hd3 := bl_then hd2 (Nat.le_refl _) hb3; have x1 := (HB.out.below hd3).cell 1; have HS3 := Lib.hid hs3; clear hown3 hs3)
      | (go_at_call 40; refine (HW.out _ hd3).mono ?_; rintro e w5 ⟨v5, rfl, hown5, hb5⟩; have hs5 := SF.own (ok := okWt) enWt_len (by omega) hown5 HOK.out; obtain ⟨a5, n5, p5, rfl, _⟩ := id hs5; have hd5 := bl_then hd3 (Nat.le_refl _) hb5; have hb9 := HB.out.below hd5; have f0 := hb9.frozen 0; have f1 := hb9.frozen 1; have y0 := hb9.cell 0; have y1 := hb9.cell 1; have hq6 := (HQ.out.below hd5).setH (HS3.out.below hb5); have hq7 := hq6.setW (hs5.keep (keep_set w5 q 0 (.slice a3 n3 p3)) (fun i hi => by subst hi; exact ⟨_, _, hb9, by decide⟩)); have HQ7 := Lib.hid hq7; have HK7 := Lib.hid (((Keep.of_below hd5 (fun i => i = q)).trans (keep_set w5 q 0 (.slice a3 n3 p3))).trans (keep_set _ q 1 (.slice a5 n5 p5))); clear hown5 hs5 hb9 hq6 hq7))
    all_goals
      go_wp2_with (go_at_call 41; refine (HSW.out _ HQ7.out).mono ?_; rintro e w7 ⟨v7, rfl, hown7, hq7, hk7⟩)
      go_ret2
      exact ⟨v7, by rw [HE.out]; rfl, own_weaken hown7 HK7.out.size, hq7, HK7.out.trans hk7⟩
end Go.Proofs.Ytdkbfmffnamdbaa
