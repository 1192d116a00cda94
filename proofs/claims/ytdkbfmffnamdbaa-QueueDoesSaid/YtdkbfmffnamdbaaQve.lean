/- queue: the reference's Ask. No condition. -/
import Derived.Test.YtdkbfmffnamdbaaQvc
set_option linter.unusedVariables false
set_option linter.unusedSimpArgs false
namespace Go.Proofs.Ytdkbfmffnamdbaa
open Go.RowKit (wrap32 wrap64)
open Go.RowKit
theorem cov_anti6 (a b : Int) (ha : 0 ≤ a ∧ a ≤ 6) (hb : 0 ≤ b ∧ b ≤ 6) (h1 : covT a b = true) (h2 : covT b a = true) : a = b := by
  have hd : ∀ i j : Fin 7, covT (i.val : Int) (j.val : Int) = true → covT (j.val : Int) (i.val : Int) = true → i = j := by decide +kernel
  have ea : (((⟨a.toNat, by omega⟩ : Fin 7).val : Nat) : Int) = a := by show ((a.toNat : Nat) : Int) = a; omega
  have eb : (((⟨b.toNat, by omega⟩ : Fin 7).val : Nat) : Int) = b := by show ((b.toNat : Nat) : Int) = b; omega
  have := hd ⟨a.toNat, by omega⟩ ⟨b.toNat, by omega⟩ (by rw [ea, eb]; exact h1) (by rw [ea, eb]; exact h2)
  have h3 := congrArg Fin.val this
  have h4 : a.toNat = b.toNat := h3
  omega
theorem oth_eq (had m : Int) (hr : 0 ≤ had ∧ had ≤ 6) : othT had m = !(supT had m == had) := by
  have h1 := cov_sup_l had m
  have h2 := supT_range had m
  unfold othT
  rw [h1, Bool.true_and]
  congr 1
  by_cases e : supT had m = had
  · rw [e] at h1
    rw [e, h1]; simp
  · rw [beq_false_of_ne e]
    cases hc : covT had (supT had m) with
    | false => rfl
    | true => exact absurd (cov_anti6 _ _ h2 hr h1 hc) e
section
variable {H : List Hd} {W : List Wt} {tx m fl : Int}
theorem ask_l0 (h : chkT tx m fl ≠ 0) : askT H W tx m fl = ⟨0, 1, H, W⟩ := if_pos h
theorem ask_l1 (h0 : chkT tx m fl = 0) (h1 : 0 ≤ idxB (ofTx tx) W) : askT H W tx m fl = ⟨0, 3, H, W⟩ := by
  unfold askT; rw [if_neg (by simp [h0]), if_pos h1]
theorem ask_l2 (h0 : chkT tx m fl = 0) (h1 : ¬ 0 ≤ idxB (ofTx tx) W) (hr : 0 ≤ ofT H tx ∧ ofT H tx ≤ 6) (hc : (ofT H tx != 0) = true) (hs : (supT (ofT H tx) m == ofT H tx) = true) : askT H W tx m fl = ⟨1, 0, H, W⟩ := by
  unfold askT convT
  rw [if_neg (by simp [h0]), if_neg h1, if_pos (by rw [hc, oth_eq _ _ hr, hs]; rfl)]
theorem ask_l3 (h0 : chkT tx m fl = 0) (h1 : ¬ 0 ≤ idxB (ofTx tx) W) (hr : 0 ≤ ofT H tx ∧ ofT H tx ≤ 6) {c : Bool} (hc : (ofT H tx != 0) = c) (hs : c = true → (supT (ofT H tx) m == ofT H tx) = false) (hp : (if c then placeT W true else W.length) = 0) (hg : goesT H tx (supT (ofT H tx) m) = true) :
    askT H W tx m fl = ⟨1, 0, if fl = 2 then H else setT tx (supT (ofT H tx) m) H, W⟩ := by
  have e : (convT H tx && !othT (ofT H tx) m) = false := by
    unfold convT
    rw [hc]
    cases c with
    | false => rfl
    | true => rw [oth_eq _ _ hr, hs rfl]; rfl
  unfold askT nowT tgtT
  rw [if_neg (by simp [h0]), if_neg h1, if_neg (by rw [e]; simp), if_pos (by unfold convT; rw [hc, hp, hg]; rfl)]
theorem ask_no (h0 : chkT tx m fl = 0) (h1 : ¬ 0 ≤ idxB (ofTx tx) W) (hr : 0 ≤ ofT H tx ∧ ofT H tx ≤ 6) {c : Bool} (hc : (ofT H tx != 0) = c) (hs : c = true → (supT (ofT H tx) m == ofT H tx) = false) (hp : (if c then placeT W true else W.length) ≠ 0 ∨ goesT H tx (supT (ofT H tx) m) = false) :
    askT H W tx m fl = if fl = 1 then ⟨0, 40, H, W⟩ else ⟨2, 0, H, insT ⟨tx, supT (ofT H tx) m, c, decide (fl = 2)⟩ W⟩ := by
  have e : (convT H tx && !othT (ofT H tx) m) = false := by
    unfold convT
    rw [hc]
    cases c with
    | false => rfl
    | true => rw [oth_eq _ _ hr, hs rfl]; rfl
  have e2 : nowT H W tx (supT (ofT H tx) m) (convT H tx) = false := by
    unfold nowT convT
    rw [hc]
    rcases hp with hp | hp
    · rw [decide_eq_false hp]; rfl
    · rw [hp, Bool.and_false]
  unfold askT tgtT
  rw [if_neg (by simp [h0]), if_neg h1, if_neg (by rw [e]; simp), if_neg (by rw [e2]; simp)]
  rw [show convT H tx = c from hc]
end
def RAskRet (x : Nat) (w : World) (r : Ans) (e : Ending) (w' : World) : Prop := e = .returned (.tuple #[.int .i64 r.a, .int .i64 r.e]) ∧ RQ w' x r.H r.W ∧ Keep (fun i => i = x) w w'
set_option maxRecDepth 100000 in
set_option maxHeartbeats 8000000 in
theorem rqask_any (x : Nat) (H : List Hd) (W : List Wt) (tx m fl : Int) (htx : (Lit.int .i64 tx).wf = true) (w : World) (h : RQ w x H W) (hr : 0 ≤ ofT H tx ∧ ofT H tx ≤ 6) (hn : H.length ≤ 900) (hn2 : W.length ≤ 900) :
    Calls Try.prog 17 #[.pointer (some ⟨x, 0, none⟩), .int .i64 tx, .int .i64 m, .int .i64 fl] w (RAskRet x w (askT H W tx m fl)) := by
  have HCK := Lib.hid (fun W1 => rchk_any tx m fl W1)
  by_cases g1 : chkT tx m fl = 0
  case neg =>
    rw [ask_l0 g1]
    have e1 : chkT tx m fl = 1 := by unfold chkT at g1 ⊢; split <;> simp_all
    rw [e1] at HCK
    have HQ := Lib.hid h
    clear h g1 e1
    go_enter Try.func17, Try.ntmps17
    go_wp2_with (go_at_call 43; refine (HCK.out _).mono ?_; rintro e w' ⟨rfl, rfl⟩)
    go_ret2
    exact ⟨rfl, HQ.out, Keep.refl _ _⟩
  rw [g1] at HCK
  have h0 := h
  obtain ⟨vH, vW, hb, ⟨a, n, cp, rfl, hs, hc, hcm, hfm⟩, ⟨a2, n2, c2, rfl, hs2, hc2, hcm2, hfm2⟩⟩ := h
  have hln := hs.len
  have hln2 := hs2.len
  have HF := Lib.hid (rfindW_any a2 n2 c2 W tx w hs2)
  have c6 := hb.cell 6
  by_cases g2 : 0 ≤ idxB (ofTx tx) W
  · rw [ask_l1 g1 g2]
    have g2' : idxB (ofTx tx) W ≥ 0 := g2
    generalize idxB (ofTx tx) W = z at *
    have HQ := Lib.hid h0
    clear h0 hb hs hs2 hc hc2 hfm hfm2 g1 hln hln2
    go_enter Try.func17, Try.ntmps17
    go_wp2_with (first
      | (go_at_call 43; refine (HCK.out _).mono ?_; rintro e w' ⟨rfl, rfl⟩)
      | (go_at_call 44; refine HF.out.mono ?_; rintro e w1 ⟨rfl, hb1⟩))
    go_ret2
    exact ⟨rfl, HQ.out.below hb1, Keep.of_below hb1 _⟩
  have hwt := wf_sup (ofT H tx) m
  have HM := Lib.hid (fun W1 (hb1 : Below w.heap.size w W1) => rmode_any a n cp H tx W1 (hs.below hb1))
  have HS := Lib.hid (fun W1 => rsup_any (ofT H tx) m W1)
  have HP := Lib.hid (fun W1 (hb1 : Below w.heap.size w W1) => rplaceW_any a2 n2 c2 W true W1 (hs2.below hb1) (by omega))
  have HG := Lib.hid (fun W1 (hb1 : Below w.heap.size w W1) => rgoes_any a n cp H tx (supT (ofT H tx) m) W1 (hs.below hb1))
  have HSET := Lib.hid (fun W1 (hb1 : Below w.heap.size w W1) => rset_any a n cp H tx (supT (ofT H tx) m) W1 (hs.below hb1) (by omega))
  have HINS := Lib.hid (fun (c i : Bool) W1 (hb1 : Below w.heap.size w W1) => rinsertW_any a2 n2 c2 W ⟨tx, supT (ofT H tx) m, c, i⟩ W1 (hs2.below hb1) (hfm2.imp id (fun ⟨b, off, _, e, _⟩ => ⟨b, off, e⟩)) hc2 hcm2 ⟨htx, hwt⟩ (by omega))
  have HOH := Lib.hid (setT_ok tx (supT (ofT H tx) m) H h0.okH htx hwt)
  have HOW := Lib.hid (fun (c i : Bool) => insT_ok ⟨tx, supT (ofT H tx) m, c, i⟩ W h0.okW ⟨htx, hwt⟩)
  have HB := Lib.hid hb
  have HQ := Lib.hid h0
  have L2 := fun hc hs => Lib.hid (ask_l2 (H := H) (W := W) g1 g2 hr hc hs)
  have L3 := fun (c : Bool) hc hs hp hg => Lib.hid (ask_l3 (H := H) (W := W) g1 g2 hr (c := c) hc hs hp hg)
  have L4 := fun (c : Bool) hc hs hp => Lib.hid (ask_no (H := H) (W := W) g1 g2 hr (c := c) hc hs hp)
  have hgl : W.length = n2 := hln2
  generalize askT H W tx m fl = R at L2 L3 L4 ⊢
  generalize idxB (ofTx tx) W = z at g2 HF
  generalize ofT H tx = had at *
  generalize supT had m = tg at *
  generalize goesT H tx tg = gs at *
  generalize placeT W true = pl at *
  rw [hgl] at L3 L4
  have g2' : ¬ z ≥ 0 := g2
  clear h0 hb hs hs2 htx hwt hn hn2 hfm hfm2 g1 hln hln2 hgl hr
  cases hcv : (had != 0) with
  | true =>
    rw [hcv] at L2 L3 L4
    by_cases g3 : tg = had
    · have g3' : (tg == had) = true := by simp [g3]
      rw [(L2 rfl g3').out]
      clear g3 L2 L3 L4 HSET HINS HOH HOW HP HG
      go_enter Try.func17, Try.ntmps17
      go_wp2_with (first
        | (go_at_call 43; refine (HCK.out _).mono ?_; rintro e w' ⟨rfl, rfl⟩)
        | (go_at_call 44; refine HF.out.mono ?_; rintro e w1 ⟨rfl, hb1⟩; have b5 := (HB.out.below hb1).cell 5)
        | (go_at_call 26; refine (HM.out _ hb1).mono ?_; rintro e w2 ⟨rfl, hb2⟩; replace hb2 := bl_then hb1 (Nat.le_refl _) hb2)
        | (go_at_call 12; refine (HS.out _).mono ?_; rintro e w3 ⟨rfl, hb3⟩; replace hb3 := bl_then hb2 (Nat.le_refl _) hb3; have d5 := (HB.out.below hb3).cell 5; have d6 := (HB.out.below hb3).cell 6)
        | (go_at_call 45; refine (HP.out _ hb3).mono ?_; rintro e _ ⟨rfl, rfl⟩))
      go_ret2
      exact ⟨rfl, HQ.out.below hb3, Keep.of_below hb3 _⟩
    have g3' : (tg == had) = false := beq_false_of_ne g3
    clear g3
    by_cases g0 : pl = 0
    · subst g0
      cases gs with
      | true =>
        have hR := (L3 true rfl (fun _ => g3') rfl rfl).out
        by_cases g4 : fl = 2
        · rw [if_pos g4] at hR
          rw [hR]
          have g5 : (fl != 2) = false := by simp [g4]
          clear hR g4 L2 L3 L4 HSET HINS HOH HOW
          go_enter Try.func17, Try.ntmps17
          go_wp2_with (first
            | (go_at_call 43; refine (HCK.out _).mono ?_; rintro e w' ⟨rfl, rfl⟩)
            | (go_at_call 44; refine HF.out.mono ?_; rintro e w1 ⟨rfl, hb1⟩; have b5 := (HB.out.below hb1).cell 5)
            | (go_at_call 26; refine (HM.out _ hb1).mono ?_; rintro e w2 ⟨rfl, hb2⟩; replace hb2 := bl_then hb1 (Nat.le_refl _) hb2)
            | (go_at_call 12; refine (HS.out _).mono ?_; rintro e w3 ⟨rfl, hb3⟩; replace hb3 := bl_then hb2 (Nat.le_refl _) hb3; have d5 := (HB.out.below hb3).cell 5; have d6 := (HB.out.below hb3).cell 6)
            | (go_at_call 45; refine (HP.out _ hb3).mono ?_; rintro e _ ⟨rfl, rfl⟩)
            | (go_at_call 46; refine (HG.out _ hb3).mono ?_; rintro e w4 ⟨rfl, hb4⟩; replace hb4 := bl_then hb3 (Nat.le_refl _) hb4; have e5 := (HB.out.below hb4).cell 5; have e6 := (HB.out.below hb4).cell 6))
          go_ret2
          exact ⟨rfl, HQ.out.below hb4, Keep.of_below hb4 _⟩
        · rw [if_neg g4] at hR
          rw [hR]
          have g5 : (fl != 2) = true := by simp [g4]
          clear hR g4 L2 L3 L4 HINS HOW
          go_enter Try.func17, Try.ntmps17
          go_wp2_with (first
            | (go_at_call 43; refine (HCK.out _).mono ?_; rintro e w' ⟨rfl, rfl⟩)
            | (go_at_call 44; refine HF.out.mono ?_; rintro e w1 ⟨rfl, hb1⟩; have b5 := (HB.out.below hb1).cell 5)
            | (go_at_call 26; refine (HM.out _ hb1).mono ?_; rintro e w2 ⟨rfl, hb2⟩; replace hb2 := bl_then hb1 (Nat.le_refl _) hb2)
            | (go_at_call 12; refine (HS.out _).mono ?_; rintro e w3 ⟨rfl, hb3⟩; replace hb3 := bl_then hb2 (Nat.le_refl _) hb3; have d5 := (HB.out.below hb3).cell 5; have d6 := (HB.out.below hb3).cell 6)
            | (go_at_call 45; refine (HP.out _ hb3).mono ?_; rintro e _ ⟨rfl, rfl⟩)
            | (go_at_call 46; refine (HG.out _ hb3).mono ?_; rintro e w4 ⟨rfl, hb4⟩; replace hb4 := bl_then hb3 (Nat.le_refl _) hb4; have e5 := (HB.out.below hb4).cell 5; have e6 := (HB.out.below hb4).cell 6)
            | (go_at_call 47; refine (HSET.out _ hb4).mono ?_; rintro e w5 ⟨v, rfl, hown, hb5⟩; have hv := RF.own (ok := okHd) enHd_len (by omega) hown HOH.out; replace hb5 := bl_then hb4 (Nat.le_refl _) hb5; have hq5 := HQ.out.below hb5; have f5 := (HB.out.below hb5).frozen 5; have k5 := (HB.out.below hb5).cell 5; obtain ⟨A1, n1, p1, rfl, _⟩ := id hv; have HV := Lib.hid hv; have HQ5 := Lib.hid hq5; clear hown hv hq5))
          go_ret2
          exact ⟨rfl, HQ5.out.setH HV.out, (Keep.of_below hb5 _).trans (keep_set _ _ _ _)⟩
      | false =>
        have hR := (L4 true rfl (fun _ => g3') (.inr rfl)).out
        by_cases g4 : fl = 1
        · rw [if_pos g4] at hR
          rw [hR]
          have g5 : (fl == 1) = true := by simp [g4]
          clear hR g4 L2 L3 L4 HSET HINS HOH HOW
          go_enter Try.func17, Try.ntmps17
          go_wp2_with (first
            | (go_at_call 43; refine (HCK.out _).mono ?_; rintro e w' ⟨rfl, rfl⟩)
            | (go_at_call 44; refine HF.out.mono ?_; rintro e w1 ⟨rfl, hb1⟩; have b5 := (HB.out.below hb1).cell 5)
            | (go_at_call 26; refine (HM.out _ hb1).mono ?_; rintro e w2 ⟨rfl, hb2⟩; replace hb2 := bl_then hb1 (Nat.le_refl _) hb2)
            | (go_at_call 12; refine (HS.out _).mono ?_; rintro e w3 ⟨rfl, hb3⟩; replace hb3 := bl_then hb2 (Nat.le_refl _) hb3; have d5 := (HB.out.below hb3).cell 5; have d6 := (HB.out.below hb3).cell 6)
            | (go_at_call 45; refine (HP.out _ hb3).mono ?_; rintro e _ ⟨rfl, rfl⟩)
            | (go_at_call 46; refine (HG.out _ hb3).mono ?_; rintro e w4 ⟨rfl, hb4⟩; replace hb4 := bl_then hb3 (Nat.le_refl _) hb4; have e5 := (HB.out.below hb4).cell 5; have e6 := (HB.out.below hb4).cell 6))
          go_ret2
          exact ⟨rfl, HQ.out.below hb4, Keep.of_below hb4 _⟩
        · rw [if_neg g4] at hR
          have g5 : (fl == 1) = false := by simp [g4]
          by_cases g6 : fl = 2
          · rw [show decide (fl = 2) = true from by simp [g6]] at hR
            rw [hR]
            have g7 : (fl == 2) = true := by simp [g6]
            clear hR g4 g6 L2 L3 L4 HSET HOH
            go_enter Try.func17, Try.ntmps17
            go_wp2_with (first
              | (go_at_call 43; refine (HCK.out _).mono ?_; rintro e w' ⟨rfl, rfl⟩)
              | (go_at_call 44; refine HF.out.mono ?_; rintro e w1 ⟨rfl, hb1⟩; have b5 := (HB.out.below hb1).cell 5)
              | (go_at_call 26; refine (HM.out _ hb1).mono ?_; rintro e w2 ⟨rfl, hb2⟩; replace hb2 := bl_then hb1 (Nat.le_refl _) hb2)
              | (go_at_call 12; refine (HS.out _).mono ?_; rintro e w3 ⟨rfl, hb3⟩; replace hb3 := bl_then hb2 (Nat.le_refl _) hb3; have d5 := (HB.out.below hb3).cell 5; have d6 := (HB.out.below hb3).cell 6)
              | (go_at_call 45; refine (HP.out _ hb3).mono ?_; rintro e _ ⟨rfl, rfl⟩)
              | (go_at_call 46; refine (HG.out _ hb3).mono ?_; rintro e w4 ⟨rfl, hb4⟩; replace hb4 := bl_then hb3 (Nat.le_refl _) hb4; have e5 := (HB.out.below hb4).cell 5; have e6 := (HB.out.below hb4).cell 6)
              | (go_at_call 48; refine (HINS.out true true _ hb4).mono ?_; rintro e w5 ⟨v, rfl, hown, hb5⟩; have hv := RF.own (ok := okWt) enWt_len (by omega) hown (HOW.out true true); replace hb5 := bl_then hb4 (Nat.le_refl _) hb5; have hq5 := HQ.out.below hb5; have f6 := (HB.out.below hb5).frozen 6; have k6 := (HB.out.below hb5).cell 6; obtain ⟨A1, n1, p1, rfl, _⟩ := id hv; have HV := Lib.hid hv; have HQ5 := Lib.hid hq5; clear hown hv hq5))
            go_ret2
            exact ⟨rfl, HQ5.out.setW HV.out, (Keep.of_below hb5 _).trans (keep_set _ _ _ _)⟩
          · rw [show decide (fl = 2) = false from by simp [g6]] at hR
            rw [hR]
            have g7 : (fl == 2) = false := by simp [g6]
            clear hR g4 g6 L2 L3 L4 HSET HOH
            go_enter Try.func17, Try.ntmps17
            go_wp2_with (first
              | (go_at_call 43; refine (HCK.out _).mono ?_; rintro e w' ⟨rfl, rfl⟩)
              | (go_at_call 44; refine HF.out.mono ?_; rintro e w1 ⟨rfl, hb1⟩; have b5 := (HB.out.below hb1).cell 5)
              | (go_at_call 26; refine (HM.out _ hb1).mono ?_; rintro e w2 ⟨rfl, hb2⟩; replace hb2 := bl_then hb1 (Nat.le_refl _) hb2)
              | (go_at_call 12; refine (HS.out _).mono ?_; rintro e w3 ⟨rfl, hb3⟩; replace hb3 := bl_then hb2 (Nat.le_refl _) hb3; have d5 := (HB.out.below hb3).cell 5; have d6 := (HB.out.below hb3).cell 6)
              | (go_at_call 45; refine (HP.out _ hb3).mono ?_; rintro e _ ⟨rfl, rfl⟩)
              | (go_at_call 46; refine (HG.out _ hb3).mono ?_; rintro e w4 ⟨rfl, hb4⟩; replace hb4 := bl_then hb3 (Nat.le_refl _) hb4; have e5 := (HB.out.below hb4).cell 5; have e6 := (HB.out.below hb4).cell 6)
              | (go_at_call 48; refine (HINS.out true false _ hb4).mono ?_; rintro e w5 ⟨v, rfl, hown, hb5⟩; have hv := RF.own (ok := okWt) enWt_len (by omega) hown (HOW.out true false); replace hb5 := bl_then hb4 (Nat.le_refl _) hb5; have hq5 := HQ.out.below hb5; have f6 := (HB.out.below hb5).frozen 6; have k6 := (HB.out.below hb5).cell 6; obtain ⟨A1, n1, p1, rfl, _⟩ := id hv; have HV := Lib.hid hv; have HQ5 := Lib.hid hq5; clear hown hv hq5))
            go_ret2
            exact ⟨rfl, HQ5.out.setW HV.out, (Keep.of_below hb5 _).trans (keep_set _ _ _ _)⟩
    · have g0' : ((pl : Int) == 0) = false := by simp; omega
      have hR := (L4 true rfl (fun _ => g3') (.inl (by simpa using g0))).out
      by_cases g4 : fl = 1
      · rw [if_pos g4] at hR
        rw [hR]
        have g5 : (fl == 1) = true := by simp [g4]
        clear hR g4 L2 L3 L4 HSET HINS HOH HOW
        go_enter Try.func17, Try.ntmps17
        go_wp2_with (first
          | (go_at_call 43; refine (HCK.out _).mono ?_; rintro e w' ⟨rfl, rfl⟩)
          | (go_at_call 44; refine HF.out.mono ?_; rintro e w1 ⟨rfl, hb1⟩; have b5 := (HB.out.below hb1).cell 5)
          | (go_at_call 26; refine (HM.out _ hb1).mono ?_; rintro e w2 ⟨rfl, hb2⟩; replace hb2 := bl_then hb1 (Nat.le_refl _) hb2)
          | (go_at_call 12; refine (HS.out _).mono ?_; rintro e w3 ⟨rfl, hb3⟩; replace hb3 := bl_then hb2 (Nat.le_refl _) hb3; have d5 := (HB.out.below hb3).cell 5; have d6 := (HB.out.below hb3).cell 6)
          | (go_at_call 45; refine (HP.out _ hb3).mono ?_; rintro e _ ⟨rfl, rfl⟩))
        go_ret2
        exact ⟨rfl, HQ.out.below hb3, Keep.of_below hb3 _⟩
      · rw [if_neg g4] at hR
        have g5 : (fl == 1) = false := by simp [g4]
        by_cases g6 : fl = 2
        · rw [show decide (fl = 2) = true from by simp [g6]] at hR
          rw [hR]
          have g7 : (fl == 2) = true := by simp [g6]
          clear hR g4 g6 L2 L3 L4 HSET HOH
          go_enter Try.func17, Try.ntmps17
          go_wp2_with (first
            | (go_at_call 43; refine (HCK.out _).mono ?_; rintro e w' ⟨rfl, rfl⟩)
            | (go_at_call 44; refine HF.out.mono ?_; rintro e w1 ⟨rfl, hb1⟩; have b5 := (HB.out.below hb1).cell 5)
            | (go_at_call 26; refine (HM.out _ hb1).mono ?_; rintro e w2 ⟨rfl, hb2⟩; replace hb2 := bl_then hb1 (Nat.le_refl _) hb2)
            | (go_at_call 12; refine (HS.out _).mono ?_; rintro e w3 ⟨rfl, hb3⟩; replace hb3 := bl_then hb2 (Nat.le_refl _) hb3; have d5 := (HB.out.below hb3).cell 5; have d6 := (HB.out.below hb3).cell 6)
            | (go_at_call 45; refine (HP.out _ hb3).mono ?_; rintro e _ ⟨rfl, rfl⟩)
            | (go_at_call 48; refine (HINS.out true true _ hb3).mono ?_; rintro e w5 ⟨v, rfl, hown, hb5⟩; have hv := RF.own (ok := okWt) enWt_len (by omega) hown (HOW.out true true); replace hb5 := bl_then hb3 (Nat.le_refl _) hb5; have hq5 := HQ.out.below hb5; have f6 := (HB.out.below hb5).frozen 6; have k6 := (HB.out.below hb5).cell 6; obtain ⟨A1, n1, p1, rfl, _⟩ := id hv; have HV := Lib.hid hv; have HQ5 := Lib.hid hq5; clear hown hv hq5))
          go_ret2
          exact ⟨rfl, HQ5.out.setW HV.out, (Keep.of_below hb5 _).trans (keep_set _ _ _ _)⟩
        · rw [show decide (fl = 2) = false from by simp [g6]] at hR
          rw [hR]
          have g7 : (fl == 2) = false := by simp [g6]
          clear hR g4 g6 L2 L3 L4 HSET HOH
          go_enter Try.func17, Try.ntmps17
          go_wp2_with (first
            | (go_at_call 43; refine (HCK.out _).mono ?_; rintro e w' ⟨rfl, rfl⟩)
            | (go_at_call 44; refine HF.out.mono ?_; rintro e w1 ⟨rfl, hb1⟩; have b5 := (HB.out.below hb1).cell 5)
            | (go_at_call 26; refine (HM.out _ hb1).mono ?_; rintro e w2 ⟨rfl, hb2⟩; replace hb2 := bl_then hb1 (Nat.le_refl _) hb2)
            | (go_at_call 12; refine (HS.out _).mono ?_; rintro e w3 ⟨rfl, hb3⟩; replace hb3 := bl_then hb2 (Nat.le_refl _) hb3; have d5 := (HB.out.below hb3).cell 5; have d6 := (HB.out.below hb3).cell 6)
            | (go_at_call 45; refine (HP.out _ hb3).mono ?_; rintro e _ ⟨rfl, rfl⟩)
            | (go_at_call 48; refine (HINS.out true false _ hb3).mono ?_; rintro e w5 ⟨v, rfl, hown, hb5⟩; have hv := RF.own (ok := okWt) enWt_len (by omega) hown (HOW.out true false); replace hb5 := bl_then hb3 (Nat.le_refl _) hb5; have hq5 := HQ.out.below hb5; have f6 := (HB.out.below hb5).frozen 6; have k6 := (HB.out.below hb5).cell 6; obtain ⟨A1, n1, p1, rfl, _⟩ := id hv; have HV := Lib.hid hv; have HQ5 := Lib.hid hq5; clear hown hv hq5))
          go_ret2
          exact ⟨rfl, HQ5.out.setW HV.out, (Keep.of_below hb5 _).trans (keep_set _ _ _ _)⟩
  | false =>
    rw [hcv] at L2 L3 L4
    by_cases g0 : n2 = 0
    · subst g0
      cases gs with
      | true =>
        have hR := (L3 false rfl (fun h => by cases h) rfl rfl).out
        by_cases g4 : fl = 2
        · rw [if_pos g4] at hR
          rw [hR]
          have g5 : (fl != 2) = false := by simp [g4]
          clear hR g4 L2 L3 L4 HSET HINS HOH HOW
          go_enter Try.func17, Try.ntmps17
          go_wp2_with (first
            | (go_at_call 43; refine (HCK.out _).mono ?_; rintro e w' ⟨rfl, rfl⟩)
            | (go_at_call 44; refine HF.out.mono ?_; rintro e w1 ⟨rfl, hb1⟩; have b5 := (HB.out.below hb1).cell 5)
            | (go_at_call 26; refine (HM.out _ hb1).mono ?_; rintro e w2 ⟨rfl, hb2⟩; replace hb2 := bl_then hb1 (Nat.le_refl _) hb2)
            | (go_at_call 12; refine (HS.out _).mono ?_; rintro e w3 ⟨rfl, hb3⟩; replace hb3 := bl_then hb2 (Nat.le_refl _) hb3; have d5 := (HB.out.below hb3).cell 5; have d6 := (HB.out.below hb3).cell 6)
            | (go_at_call 45; refine (HP.out _ hb3).mono ?_; rintro e _ ⟨rfl, rfl⟩)
            | (go_at_call 46; refine (HG.out _ hb3).mono ?_; rintro e w4 ⟨rfl, hb4⟩; replace hb4 := bl_then hb3 (Nat.le_refl _) hb4; have e5 := (HB.out.below hb4).cell 5; have e6 := (HB.out.below hb4).cell 6))
          go_ret2
          exact ⟨rfl, HQ.out.below hb4, Keep.of_below hb4 _⟩
        · rw [if_neg g4] at hR
          rw [hR]
          have g5 : (fl != 2) = true := by simp [g4]
          clear hR g4 L2 L3 L4 HINS HOW
          go_enter Try.func17, Try.ntmps17
          go_wp2_with (first
            | (go_at_call 43; refine (HCK.out _).mono ?_; rintro e w' ⟨rfl, rfl⟩)
            | (go_at_call 44; refine HF.out.mono ?_; rintro e w1 ⟨rfl, hb1⟩; have b5 := (HB.out.below hb1).cell 5)
            | (go_at_call 26; refine (HM.out _ hb1).mono ?_; rintro e w2 ⟨rfl, hb2⟩; replace hb2 := bl_then hb1 (Nat.le_refl _) hb2)
            | (go_at_call 12; refine (HS.out _).mono ?_; rintro e w3 ⟨rfl, hb3⟩; replace hb3 := bl_then hb2 (Nat.le_refl _) hb3; have d5 := (HB.out.below hb3).cell 5; have d6 := (HB.out.below hb3).cell 6)
            | (go_at_call 45; refine (HP.out _ hb3).mono ?_; rintro e _ ⟨rfl, rfl⟩)
            | (go_at_call 46; refine (HG.out _ hb3).mono ?_; rintro e w4 ⟨rfl, hb4⟩; replace hb4 := bl_then hb3 (Nat.le_refl _) hb4; have e5 := (HB.out.below hb4).cell 5; have e6 := (HB.out.below hb4).cell 6)
            | (go_at_call 47; refine (HSET.out _ hb4).mono ?_; rintro e w5 ⟨v, rfl, hown, hb5⟩; have hv := RF.own (ok := okHd) enHd_len (by omega) hown HOH.out; replace hb5 := bl_then hb4 (Nat.le_refl _) hb5; have hq5 := HQ.out.below hb5; have f5 := (HB.out.below hb5).frozen 5; have k5 := (HB.out.below hb5).cell 5; obtain ⟨A1, n1, p1, rfl, _⟩ := id hv; have HV := Lib.hid hv; have HQ5 := Lib.hid hq5; clear hown hv hq5))
          go_ret2
          exact ⟨rfl, HQ5.out.setH HV.out, (Keep.of_below hb5 _).trans (keep_set _ _ _ _)⟩
      | false =>
        have hR := (L4 false rfl (fun h => by cases h) (.inr rfl)).out
        by_cases g4 : fl = 1
        · rw [if_pos g4] at hR
          rw [hR]
          have g5 : (fl == 1) = true := by simp [g4]
          clear hR g4 L2 L3 L4 HSET HINS HOH HOW
          go_enter Try.func17, Try.ntmps17
          go_wp2_with (first
            | (go_at_call 43; refine (HCK.out _).mono ?_; rintro e w' ⟨rfl, rfl⟩)
            | (go_at_call 44; refine HF.out.mono ?_; rintro e w1 ⟨rfl, hb1⟩; have b5 := (HB.out.below hb1).cell 5)
            | (go_at_call 26; refine (HM.out _ hb1).mono ?_; rintro e w2 ⟨rfl, hb2⟩; replace hb2 := bl_then hb1 (Nat.le_refl _) hb2)
            | (go_at_call 12; refine (HS.out _).mono ?_; rintro e w3 ⟨rfl, hb3⟩; replace hb3 := bl_then hb2 (Nat.le_refl _) hb3; have d5 := (HB.out.below hb3).cell 5; have d6 := (HB.out.below hb3).cell 6)
            | (go_at_call 45; refine (HP.out _ hb3).mono ?_; rintro e _ ⟨rfl, rfl⟩)
            | (go_at_call 46; refine (HG.out _ hb3).mono ?_; rintro e w4 ⟨rfl, hb4⟩; replace hb4 := bl_then hb3 (Nat.le_refl _) hb4; have e5 := (HB.out.below hb4).cell 5; have e6 := (HB.out.below hb4).cell 6))
          go_ret2
          exact ⟨rfl, HQ.out.below hb4, Keep.of_below hb4 _⟩
        · rw [if_neg g4] at hR
          have g5 : (fl == 1) = false := by simp [g4]
          by_cases g6 : fl = 2
          · rw [show decide (fl = 2) = true from by simp [g6]] at hR
            rw [hR]
            have g7 : (fl == 2) = true := by simp [g6]
            clear hR g4 g6 L2 L3 L4 HSET HOH
            go_enter Try.func17, Try.ntmps17
            go_wp2_with (first
              | (go_at_call 43; refine (HCK.out _).mono ?_; rintro e w' ⟨rfl, rfl⟩)
              | (go_at_call 44; refine HF.out.mono ?_; rintro e w1 ⟨rfl, hb1⟩; have b5 := (HB.out.below hb1).cell 5)
              | (go_at_call 26; refine (HM.out _ hb1).mono ?_; rintro e w2 ⟨rfl, hb2⟩; replace hb2 := bl_then hb1 (Nat.le_refl _) hb2)
              | (go_at_call 12; refine (HS.out _).mono ?_; rintro e w3 ⟨rfl, hb3⟩; replace hb3 := bl_then hb2 (Nat.le_refl _) hb3; have d5 := (HB.out.below hb3).cell 5; have d6 := (HB.out.below hb3).cell 6)
              | (go_at_call 45; refine (HP.out _ hb3).mono ?_; rintro e _ ⟨rfl, rfl⟩)
              | (go_at_call 46; refine (HG.out _ hb3).mono ?_; rintro e w4 ⟨rfl, hb4⟩; replace hb4 := bl_then hb3 (Nat.le_refl _) hb4; have e5 := (HB.out.below hb4).cell 5; have e6 := (HB.out.below hb4).cell 6)
              | (go_at_call 48; refine (HINS.out false true _ hb4).mono ?_; rintro e w5 ⟨v, rfl, hown, hb5⟩; have hv := RF.own (ok := okWt) enWt_len (by omega) hown (HOW.out false true); replace hb5 := bl_then hb4 (Nat.le_refl _) hb5; have hq5 := HQ.out.below hb5; have f6 := (HB.out.below hb5).frozen 6; have k6 := (HB.out.below hb5).cell 6; obtain ⟨A1, n1, p1, rfl, _⟩ := id hv; have HV := Lib.hid hv; have HQ5 := Lib.hid hq5; clear hown hv hq5))
            go_ret2
            exact ⟨rfl, HQ5.out.setW HV.out, (Keep.of_below hb5 _).trans (keep_set _ _ _ _)⟩
          · rw [show decide (fl = 2) = false from by simp [g6]] at hR
            rw [hR]
            have g7 : (fl == 2) = false := by simp [g6]
            clear hR g4 g6 L2 L3 L4 HSET HOH
            go_enter Try.func17, Try.ntmps17
            go_wp2_with (first
              | (go_at_call 43; refine (HCK.out _).mono ?_; rintro e w' ⟨rfl, rfl⟩)
              | (go_at_call 44; refine HF.out.mono ?_; rintro e w1 ⟨rfl, hb1⟩; have b5 := (HB.out.below hb1).cell 5)
              | (go_at_call 26; refine (HM.out _ hb1).mono ?_; rintro e w2 ⟨rfl, hb2⟩; replace hb2 := bl_then hb1 (Nat.le_refl _) hb2)
              | (go_at_call 12; refine (HS.out _).mono ?_; rintro e w3 ⟨rfl, hb3⟩; replace hb3 := bl_then hb2 (Nat.le_refl _) hb3; have d5 := (HB.out.below hb3).cell 5; have d6 := (HB.out.below hb3).cell 6)
              | (go_at_call 45; refine (HP.out _ hb3).mono ?_; rintro e _ ⟨rfl, rfl⟩)
              | (go_at_call 46; refine (HG.out _ hb3).mono ?_; rintro e w4 ⟨rfl, hb4⟩; replace hb4 := bl_then hb3 (Nat.le_refl _) hb4; have e5 := (HB.out.below hb4).cell 5; have e6 := (HB.out.below hb4).cell 6)
              | (go_at_call 48; refine (HINS.out false false _ hb4).mono ?_; rintro e w5 ⟨v, rfl, hown, hb5⟩; have hv := RF.own (ok := okWt) enWt_len (by omega) hown (HOW.out false false); replace hb5 := bl_then hb4 (Nat.le_refl _) hb5; have hq5 := HQ.out.below hb5; have f6 := (HB.out.below hb5).frozen 6; have k6 := (HB.out.below hb5).cell 6; obtain ⟨A1, n1, p1, rfl, _⟩ := id hv; have HV := Lib.hid hv; have HQ5 := Lib.hid hq5; clear hown hv hq5))
            go_ret2
            exact ⟨rfl, HQ5.out.setW HV.out, (Keep.of_below hb5 _).trans (keep_set _ _ _ _)⟩
    · have g0' : ((n2 : Int) == 0) = false := by simp; omega
      have hR := (L4 false rfl (fun h => by cases h) (.inl (by simpa using g0))).out
      by_cases g4 : fl = 1
      · rw [if_pos g4] at hR
        rw [hR]
        have g5 : (fl == 1) = true := by simp [g4]
        clear hR g4 L2 L3 L4 HSET HINS HOH HOW
        go_enter Try.func17, Try.ntmps17
        go_wp2_with (first
          | (go_at_call 43; refine (HCK.out _).mono ?_; rintro e w' ⟨rfl, rfl⟩)
          | (go_at_call 44; refine HF.out.mono ?_; rintro e w1 ⟨rfl, hb1⟩; have b5 := (HB.out.below hb1).cell 5)
          | (go_at_call 26; refine (HM.out _ hb1).mono ?_; rintro e w2 ⟨rfl, hb2⟩; replace hb2 := bl_then hb1 (Nat.le_refl _) hb2)
          | (go_at_call 12; refine (HS.out _).mono ?_; rintro e w3 ⟨rfl, hb3⟩; replace hb3 := bl_then hb2 (Nat.le_refl _) hb3; have d5 := (HB.out.below hb3).cell 5; have d6 := (HB.out.below hb3).cell 6)
          | (go_at_call 45; refine (HP.out _ hb3).mono ?_; rintro e _ ⟨rfl, rfl⟩))
        go_ret2
        exact ⟨rfl, HQ.out.below hb3, Keep.of_below hb3 _⟩
      · rw [if_neg g4] at hR
        have g5 : (fl == 1) = false := by simp [g4]
        by_cases g6 : fl = 2
        · rw [show decide (fl = 2) = true from by simp [g6]] at hR
          rw [hR]
          have g7 : (fl == 2) = true := by simp [g6]
          clear hR g4 g6 L2 L3 L4 HSET HOH
          go_enter Try.func17, Try.ntmps17
          go_wp2_with (first
            | (go_at_call 43; refine (HCK.out _).mono ?_; rintro e w' ⟨rfl, rfl⟩)
            | (go_at_call 44; refine HF.out.mono ?_; rintro e w1 ⟨rfl, hb1⟩; have b5 := (HB.out.below hb1).cell 5)
            | (go_at_call 26; refine (HM.out _ hb1).mono ?_; rintro e w2 ⟨rfl, hb2⟩; replace hb2 := bl_then hb1 (Nat.le_refl _) hb2)
            | (go_at_call 12; refine (HS.out _).mono ?_; rintro e w3 ⟨rfl, hb3⟩; replace hb3 := bl_then hb2 (Nat.le_refl _) hb3; have d5 := (HB.out.below hb3).cell 5; have d6 := (HB.out.below hb3).cell 6)
            | (go_at_call 45; refine (HP.out _ hb3).mono ?_; rintro e _ ⟨rfl, rfl⟩)
            | (go_at_call 48; refine (HINS.out false true _ hb3).mono ?_; rintro e w5 ⟨v, rfl, hown, hb5⟩; have hv := RF.own (ok := okWt) enWt_len (by omega) hown (HOW.out false true); replace hb5 := bl_then hb3 (Nat.le_refl _) hb5; have hq5 := HQ.out.below hb5; have f6 := (HB.out.below hb5).frozen 6; have k6 := (HB.out.below hb5).cell 6; obtain ⟨A1, n1, p1, rfl, _⟩ := id hv; have HV := Lib.hid hv; have HQ5 := Lib.hid hq5; clear hown hv hq5))
          go_ret2
          exact ⟨rfl, HQ5.out.setW HV.out, (Keep.of_below hb5 _).trans (keep_set _ _ _ _)⟩
        · rw [show decide (fl = 2) = false from by simp [g6]] at hR
          rw [hR]
          have g7 : (fl == 2) = false := by simp [g6]
          clear hR g4 g6 L2 L3 L4 HSET HOH
          go_enter Try.func17, Try.ntmps17
          go_wp2_with (first
            | (go_at_call 43; refine (HCK.out _).mono ?_; rintro e w' ⟨rfl, rfl⟩)
            | (go_at_call 44; refine HF.out.mono ?_; rintro e w1 ⟨rfl, hb1⟩; have b5 := (HB.out.below hb1).cell 5)
            | (go_at_call 26; refine (HM.out _ hb1).mono ?_; rintro e w2 ⟨rfl, hb2⟩; replace hb2 := bl_then hb1 (Nat.le_refl _) hb2)
            | (go_at_call 12; refine (HS.out _).mono ?_; rintro e w3 ⟨rfl, hb3⟩; replace hb3 := bl_then hb2 (Nat.le_refl _) hb3; have d5 := (HB.out.below hb3).cell 5; have d6 := (HB.out.below hb3).cell 6)
            | (go_at_call 45; refine (HP.out _ hb3).mono ?_; rintro e _ ⟨rfl, rfl⟩)
            | (go_at_call 48; refine (HINS.out false false _ hb3).mono ?_; rintro e w5 ⟨v, rfl, hown, hb5⟩; have hv := RF.own (ok := okWt) enWt_len (by omega) hown (HOW.out false false); replace hb5 := bl_then hb3 (Nat.le_refl _) hb5; have hq5 := HQ.out.below hb5; have f6 := (HB.out.below hb5).frozen 6; have k6 := (HB.out.below hb5).cell 6; obtain ⟨A1, n1, p1, rfl, _⟩ := id hv; have HV := Lib.hid hv; have HQ5 := Lib.hid hq5; clear hown hv hq5))
          go_ret2
          exact ⟨rfl, HQ5.out.setW HV.out, (Keep.of_below hb5 _).trans (keep_set _ _ _ _)⟩
end Go.Proofs.Ytdkbfmffnamdbaa
