/- queue: asking. No condition. -/
import Derived.Test.YtdkbfmffnamdbaaQup
set_option linter.unusedVariables false
set_option linter.unusedSimpArgs false
namespace Go.Proofs.Ytdkbfmffnamdbaa
open Go.RowKit (wrap32 wrap64)
open Go.RowKit
def AskRet (q : Nat) (w : World) (r : Ans) (e : Ending) (w' : World) : Prop := e = .returned (.tuple #[.int .i64 r.a, .int .i64 r.e]) ∧ QA w' q r.H r.W ∧ Keep (fun i => i = q) w w'
theorem setT_ok (tx m : Int) (L : List Hd) (h : ∀ x ∈ L, okHd x) (htx : (Lit.int .i64 tx).wf = true) (hm : (Lit.int .i64 m).wf = true) : ∀ x ∈ setT tx m L, okHd x := by
  induction L with
  | nil => intro x hx; unfold setT at hx; rw [List.mem_singleton.1 hx]; exact ⟨htx, hm⟩
  | cons y l ih =>
    intro x hx
    unfold setT at hx
    split at hx
    · rcases List.mem_cons.1 hx with rfl | hx
      · exact ⟨(h y (by simp)).1, hm⟩
      · exact h x (by simp [hx])
    · rcases List.mem_cons.1 hx with rfl | hx
      · exact h x (by simp)
      · exact ih (fun z hz => h z (by simp [hz])) x hx
theorem wf_small {m : Int} (h : 0 ≤ m ∧ m ≤ 6) : (Lit.int .i64 m).wf = true := by
  simp [Lit.wf, IntKind.min, IntKind.max, IntKind.signed, IntKind.bits]; omega
theorem wf_sup (a b : Int) : (Lit.int .i64 (supT a b)).wf = true := wf_small (supT_range a b)
theorem insT_ok (x : Wt) (L : List Wt) (h : ∀ y ∈ L, okWt y) (hx : okWt x) : ∀ y ∈ insT x L, okWt y := fun y hy => by
  rcases insT_mem x L y hy with rfl | hy
  · exact hx
  · exact h y hy
theorem qask_nil (tx m fl : Int) (w : World) : Calls Try.prog 8 #[.pointer none, .int .i64 tx, .int .i64 m, .int .i64 fl] w fun e w' => e = .returned (.tuple #[.int .i64 0, .int .i64 70]) ∧ w = w' := by
  go_enter Try.func8, Try.ntmps8
  go_wp2
  go_ret2
  exact ⟨rfl, rfl⟩
set_option maxRecDepth 100000 in
set_option maxHeartbeats 4000000 in
theorem qask_any (q : Nat) (H : List Hd) (W : List Wt) (tx m fl : Int) (htx : (Lit.int .i64 tx).wf = true) (w : World) (h : QA w q H W) (hn : H.length ≤ 900) (hn2 : W.length ≤ 900) :
    Calls Try.prog 8 #[.pointer (some ⟨q, 0, none⟩), .int .i64 tx, .int .i64 m, .int .i64 fl] w (AskRet q w (askT H W tx m fl)) := by
  unfold askT
  have HCK := Lib.hid (fun W1 => qchk_any tx m fl W1)
  by_cases g1 : chkT tx m fl = 0
  case neg =>
    have e1 : chkT tx m fl = 1 := by unfold chkT at g1 ⊢; split <;> simp_all
    rw [if_pos g1]
    rw [e1] at HCK
    have HQ := Lib.hid h
    clear h g1 e1
    go_enter Try.func8, Try.ntmps8
    go_wp2_with (go_at_call 31; refine (HCK.out _).mono ?_; rintro e w' ⟨rfl, rfl⟩)
    go_ret2
    exact ⟨rfl, HQ.out, Keep.refl _ _⟩
  rw [if_neg (by simp [g1])]
  rw [g1] at HCK
  clear g1
  have h0 := h
  obtain ⟨vH, vW, hb, ⟨a, n, cp, rfl, hs, hc, _⟩, ⟨a2, n2, c2, rfl, hs2, hc2, _⟩⟩ := h
  have HF := Lib.hid (qfind_any a2 n2 c2 W tx w hs2 (by have := hs2.len; omega))
  have c1 := hb.cell 1
  by_cases g2 : 0 ≤ idxB (ofTx tx) W
  · rw [if_pos g2]
    have g2' : idxB (ofTx tx) W ≥ 0 := g2
    generalize idxB (ofTx tx) W = z at *
    have HQ := Lib.hid h0
    clear h0 hb hs hs2 hc hc2 g2'
    go_enter Try.func8, Try.ntmps8
    go_wp2_with (first
      | (go_at_call 31; refine (HCK.out _).mono ?_; rintro e w' ⟨rfl, rfl⟩)
      | (go_at_call 10; refine HF.out.mono ?_; rintro e w1 ⟨rfl, hb1⟩))
    go_ret2
    exact ⟨rfl, HQ.out.below hb1, Keep.of_below hb1 _⟩
  rw [if_neg g2]
  generalize idxB (ofTx tx) W = z at g2 HF
  have HM := Lib.hid (fun W1 (hb1 : Below w.heap.size w W1) => qmode_any q H W tx W1 (h0.below hb1) (by omega))
  have HT := Lib.hid (fun W1 => qtgt_any (ofT H tx) m W1)
  have HN := Lib.hid (fun W1 (hb1 : Below w.heap.size w W1) => qnow_any q H W tx (tgtT H tx m) (convT H tx) W1 (h0.below hb1) (by omega) (by omega))
  have hwt := wf_sup (ofT H tx) m
  have HSET := Lib.hid (fun W1 (hb1 : Below w.heap.size w W1) => gset_any a n cp H tx (tgtT H tx m) W1 (hs.below hb1) hc.2.2 (by have := hs.len; omega))
  have HINS := Lib.hid (fun W1 (hb1 : Below w.heap.size w W1) => qinsert_any a2 n2 c2 W ⟨tx, tgtT H tx m, convT H tx, decide (fl = 2)⟩ W1 (hs2.below hb1) hc2.2.2 ⟨htx, hwt⟩ (by have := hs2.len; omega))
  have HOH := Lib.hid (setT_ok tx (tgtT H tx m) H h0.okH htx hwt)
  have HOW := Lib.hid (insT_ok ⟨tx, tgtT H tx m, convT H tx, decide (fl = 2)⟩ W h0.okW ⟨htx, hwt⟩)
  have HB := Lib.hid hb
  have HQ := Lib.hid h0
  have hne : convT H tx = (ofT H tx != 0) := rfl
  unfold tgtT at *
  generalize ofT H tx = had at *
  generalize supT had m = tg at *
  generalize othT had m = ot at *
  generalize nowT H W tx tg (convT H tx) = nw at *
  generalize convT H tx = cv at *
  clear h0 hb hs hs2 hc hc2 htx hwt hn hn2
  by_cases g3 : cv = true ∧ ot = false
  · obtain ⟨rfl, rfl⟩ := g3
    rw [if_pos (by rfl)]
    have hne2 : (had != 0) = true := hne.symm
    clear HN HSET HINS HOH HOW hne
    go_enter Try.func8, Try.ntmps8
    go_wp2_with (first
      | (go_at_call 31; refine (HCK.out _).mono ?_; rintro e w' ⟨rfl, rfl⟩)
      | (go_at_call 10; refine HF.out.mono ?_; rintro e w1 ⟨rfl, hb1⟩)
      | (go_at_call 13; refine (HM.out _ hb1).mono ?_; rintro e w2 ⟨rfl, hb2⟩; replace hb2 := bl_then hb1 (Nat.le_refl _) hb2)
      | (go_at_call 32; refine (HT.out _).mono ?_; rintro e w3 ⟨rfl, hb3⟩; replace hb3 := bl_then hb2 (Nat.le_refl _) hb3))
    go_ret2
    exact ⟨rfl, HQ.out.below hb3, Keep.of_below hb3 _⟩
  have g3' : (cv && !ot) = false := by cases cv <;> cases ot <;> simp_all
  rw [g3', if_neg (by simp)]
  -- leaves
  rcases Bool.eq_false_or_eq_true cv with rfl | rfl
  · -- convert: true
    obtain rfl : ot = true := by simpa using g3'
    have hne2 : (had != 0) = true := hne.symm
    clear hne g3 g3'
    cases nw with
    | true =>
      rw [if_pos rfl]
      by_cases g4 : fl = 2
      · rw [if_pos g4]
        have g5 : (fl != 2) = false := by simp [g4]
        clear HSET HINS HOH HOW g4
        go_enter Try.func8, Try.ntmps8
        go_wp2_with (first
          | (go_at_call 31; refine (HCK.out _).mono ?_; rintro e w' ⟨rfl, rfl⟩)
          | (go_at_call 10; refine HF.out.mono ?_; rintro e w1 ⟨rfl, hb1⟩)
          | (go_at_call 13; refine (HM.out _ hb1).mono ?_; rintro e w2 ⟨rfl, hb2⟩; replace hb2 := bl_then hb1 (Nat.le_refl _) hb2)
          | (go_at_call 32; refine (HT.out _).mono ?_; rintro e w3 ⟨rfl, hb3⟩; replace hb3 := bl_then hb2 (Nat.le_refl _) hb3)
          | (go_at_call 33; refine (HN.out _ hb3).mono ?_; rintro e w4 ⟨rfl, hb4⟩; replace hb4 := bl_then hb3 (Nat.le_refl _) hb4; have b0 := (HB.out.below hb4).cell 0; have b1 := (HB.out.below hb4).cell 1))
        go_ret2
        exact ⟨rfl, HQ.out.below hb4, Keep.of_below hb4 _⟩
      · rw [if_neg g4]
        have g5 : (fl != 2) = true := by simp [g4]
        clear HINS HOW g4
        go_enter Try.func8, Try.ntmps8
        go_wp2_with (first
          | (go_at_call 31; refine (HCK.out _).mono ?_; rintro e w' ⟨rfl, rfl⟩)
          | (go_at_call 10; refine HF.out.mono ?_; rintro e w1 ⟨rfl, hb1⟩)
          | (go_at_call 13; refine (HM.out _ hb1).mono ?_; rintro e w2 ⟨rfl, hb2⟩; replace hb2 := bl_then hb1 (Nat.le_refl _) hb2)
          | (go_at_call 32; refine (HT.out _).mono ?_; rintro e w3 ⟨rfl, hb3⟩; replace hb3 := bl_then hb2 (Nat.le_refl _) hb3)
          | (go_at_call 33; refine (HN.out _ hb3).mono ?_; rintro e w4 ⟨rfl, hb4⟩; replace hb4 := bl_then hb3 (Nat.le_refl _) hb4; have b0 := (HB.out.below hb4).cell 0; have b1 := (HB.out.below hb4).cell 1)
          | (go_at_call 34; refine (HSET.out _ hb4).mono ?_; rintro e w5 ⟨v, rfl, hown, hb5⟩; have hv := SF.own (ok := okHd) enHd_len (by omega) hown HOH.out; replace hb5 := bl_then hb4 (Nat.le_refl _) hb5; have hq5 := HQ.out.below hb5; have f0 := (HB.out.below hb5).frozen 0; have d0 := (HB.out.below hb5).cell 0; obtain ⟨A1, n1, p1, rfl, _⟩ := id hv; have HV := Lib.hid hv; have HQ5 := Lib.hid hq5; clear hown hv hq5))
        go_ret2
        exact ⟨rfl, HQ5.out.setH HV.out, (Keep.of_below hb5 _).trans (keep_set _ _ _ _)⟩
    | false =>
      rw [if_neg Bool.false_ne_true]
      by_cases g4 : fl = 1
      · rw [if_pos g4]
        have g5 : (fl == 1) = true := by simp [g4]
        clear HSET HINS HOH HOW g4
        go_enter Try.func8, Try.ntmps8
        go_wp2_with (first
          | (go_at_call 31; refine (HCK.out _).mono ?_; rintro e w' ⟨rfl, rfl⟩)
          | (go_at_call 10; refine HF.out.mono ?_; rintro e w1 ⟨rfl, hb1⟩)
          | (go_at_call 13; refine (HM.out _ hb1).mono ?_; rintro e w2 ⟨rfl, hb2⟩; replace hb2 := bl_then hb1 (Nat.le_refl _) hb2)
          | (go_at_call 32; refine (HT.out _).mono ?_; rintro e w3 ⟨rfl, hb3⟩; replace hb3 := bl_then hb2 (Nat.le_refl _) hb3)
          | (go_at_call 33; refine (HN.out _ hb3).mono ?_; rintro e w4 ⟨rfl, hb4⟩; replace hb4 := bl_then hb3 (Nat.le_refl _) hb4; have b0 := (HB.out.below hb4).cell 0; have b1 := (HB.out.below hb4).cell 1))
        go_ret2
        exact ⟨rfl, HQ.out.below hb4, Keep.of_below hb4 _⟩
      · rw [if_neg g4]
        have g5 : (fl == 1) = false := by simp [g4]
        by_cases g6 : fl = 2
        · have g7 : (fl == 2) = true := by simp [g6]
          rw [show decide (fl = 2) = true from by simp [g6]] at HINS HOW ⊢
          clear HSET HOH g4 g6
          go_enter Try.func8, Try.ntmps8
          go_wp2_with (first
            | (go_at_call 31; refine (HCK.out _).mono ?_; rintro e w' ⟨rfl, rfl⟩)
            | (go_at_call 10; refine HF.out.mono ?_; rintro e w1 ⟨rfl, hb1⟩)
            | (go_at_call 13; refine (HM.out _ hb1).mono ?_; rintro e w2 ⟨rfl, hb2⟩; replace hb2 := bl_then hb1 (Nat.le_refl _) hb2)
            | (go_at_call 32; refine (HT.out _).mono ?_; rintro e w3 ⟨rfl, hb3⟩; replace hb3 := bl_then hb2 (Nat.le_refl _) hb3)
            | (go_at_call 33; refine (HN.out _ hb3).mono ?_; rintro e w4 ⟨rfl, hb4⟩; replace hb4 := bl_then hb3 (Nat.le_refl _) hb4; have b0 := (HB.out.below hb4).cell 0; have b1 := (HB.out.below hb4).cell 1)
            | (go_at_call 35; refine (HINS.out _ hb4).mono ?_; rintro e w5 ⟨v, rfl, hown, hb5⟩; have hv := SF.own (ok := okWt) enWt_len (by omega) hown HOW.out; replace hb5 := bl_then hb4 (Nat.le_refl _) hb5; have hq5 := HQ.out.below hb5; have f1 := (HB.out.below hb5).frozen 1; have d1 := (HB.out.below hb5).cell 1; obtain ⟨A1, n1, p1, rfl, _⟩ := id hv; have HV := Lib.hid hv; have HQ5 := Lib.hid hq5; clear hown hv hq5))
          go_ret2
          exact ⟨rfl, HQ5.out.setW HV.out, (Keep.of_below hb5 _).trans (keep_set _ _ _ _)⟩
        · have g7 : (fl == 2) = false := by simp [g6]
          rw [show decide (fl = 2) = false from by simp [g6]] at HINS HOW ⊢
          clear HSET HOH g4 g6
          go_enter Try.func8, Try.ntmps8
          go_wp2_with (first
            | (go_at_call 31; refine (HCK.out _).mono ?_; rintro e w' ⟨rfl, rfl⟩)
            | (go_at_call 10; refine HF.out.mono ?_; rintro e w1 ⟨rfl, hb1⟩)
            | (go_at_call 13; refine (HM.out _ hb1).mono ?_; rintro e w2 ⟨rfl, hb2⟩; replace hb2 := bl_then hb1 (Nat.le_refl _) hb2)
            | (go_at_call 32; refine (HT.out _).mono ?_; rintro e w3 ⟨rfl, hb3⟩; replace hb3 := bl_then hb2 (Nat.le_refl _) hb3)
            | (go_at_call 33; refine (HN.out _ hb3).mono ?_; rintro e w4 ⟨rfl, hb4⟩; replace hb4 := bl_then hb3 (Nat.le_refl _) hb4; have b0 := (HB.out.below hb4).cell 0; have b1 := (HB.out.below hb4).cell 1)
            | (go_at_call 35; refine (HINS.out _ hb4).mono ?_; rintro e w5 ⟨v, rfl, hown, hb5⟩; have hv := SF.own (ok := okWt) enWt_len (by omega) hown HOW.out; replace hb5 := bl_then hb4 (Nat.le_refl _) hb5; have hq5 := HQ.out.below hb5; have f1 := (HB.out.below hb5).frozen 1; have d1 := (HB.out.below hb5).cell 1; obtain ⟨A1, n1, p1, rfl, _⟩ := id hv; have HV := Lib.hid hv; have HQ5 := Lib.hid hq5; clear hown hv hq5))
          go_ret2
          exact ⟨rfl, HQ5.out.setW HV.out, (Keep.of_below hb5 _).trans (keep_set _ _ _ _)⟩
  · -- convert: false
    have hne2 : (had != 0) = false := hne.symm
    clear hne g3 g3'
    cases nw with
    | true =>
      rw [if_pos rfl]
      by_cases g4 : fl = 2
      · rw [if_pos g4]
        have g5 : (fl != 2) = false := by simp [g4]
        clear HSET HINS HOH HOW g4
        go_enter Try.func8, Try.ntmps8
        go_wp2_with (first
          | (go_at_call 31; refine (HCK.out _).mono ?_; rintro e w' ⟨rfl, rfl⟩)
          | (go_at_call 10; refine HF.out.mono ?_; rintro e w1 ⟨rfl, hb1⟩)
          | (go_at_call 13; refine (HM.out _ hb1).mono ?_; rintro e w2 ⟨rfl, hb2⟩; replace hb2 := bl_then hb1 (Nat.le_refl _) hb2)
          | (go_at_call 32; refine (HT.out _).mono ?_; rintro e w3 ⟨rfl, hb3⟩; replace hb3 := bl_then hb2 (Nat.le_refl _) hb3)
          | (go_at_call 33; refine (HN.out _ hb3).mono ?_; rintro e w4 ⟨rfl, hb4⟩; replace hb4 := bl_then hb3 (Nat.le_refl _) hb4; have b0 := (HB.out.below hb4).cell 0; have b1 := (HB.out.below hb4).cell 1))
        go_ret2
        exact ⟨rfl, HQ.out.below hb4, Keep.of_below hb4 _⟩
      · rw [if_neg g4]
        have g5 : (fl != 2) = true := by simp [g4]
        clear HINS HOW g4
        go_enter Try.func8, Try.ntmps8
        go_wp2_with (first
          | (go_at_call 31; refine (HCK.out _).mono ?_; rintro e w' ⟨rfl, rfl⟩)
          | (go_at_call 10; refine HF.out.mono ?_; rintro e w1 ⟨rfl, hb1⟩)
          | (go_at_call 13; refine (HM.out _ hb1).mono ?_; rintro e w2 ⟨rfl, hb2⟩; replace hb2 := bl_then hb1 (Nat.le_refl _) hb2)
          | (go_at_call 32; refine (HT.out _).mono ?_; rintro e w3 ⟨rfl, hb3⟩; replace hb3 := bl_then hb2 (Nat.le_refl _) hb3)
          | (go_at_call 33; refine (HN.out _ hb3).mono ?_; rintro e w4 ⟨rfl, hb4⟩; replace hb4 := bl_then hb3 (Nat.le_refl _) hb4; have b0 := (HB.out.below hb4).cell 0; have b1 := (HB.out.below hb4).cell 1)
          | (go_at_call 34; refine (HSET.out _ hb4).mono ?_; rintro e w5 ⟨v, rfl, hown, hb5⟩; have hv := SF.own (ok := okHd) enHd_len (by omega) hown HOH.out; replace hb5 := bl_then hb4 (Nat.le_refl _) hb5; have hq5 := HQ.out.below hb5; have f0 := (HB.out.below hb5).frozen 0; have d0 := (HB.out.below hb5).cell 0; obtain ⟨A1, n1, p1, rfl, _⟩ := id hv; have HV := Lib.hid hv; have HQ5 := Lib.hid hq5; clear hown hv hq5))
        go_ret2
        exact ⟨rfl, HQ5.out.setH HV.out, (Keep.of_below hb5 _).trans (keep_set _ _ _ _)⟩
    | false =>
      rw [if_neg Bool.false_ne_true]
      by_cases g4 : fl = 1
      · rw [if_pos g4]
        have g5 : (fl == 1) = true := by simp [g4]
        clear HSET HINS HOH HOW g4
        go_enter Try.func8, Try.ntmps8
        go_wp2_with (first
          | (go_at_call 31; refine (HCK.out _).mono ?_; rintro e w' ⟨rfl, rfl⟩)
          | (go_at_call 10; refine HF.out.mono ?_; rintro e w1 ⟨rfl, hb1⟩)
          | (go_at_call 13; refine (HM.out _ hb1).mono ?_; rintro e w2 ⟨rfl, hb2⟩; replace hb2 := bl_then hb1 (Nat.le_refl _) hb2)
          | (go_at_call 32; refine (HT.out _).mono ?_; rintro e w3 ⟨rfl, hb3⟩; replace hb3 := bl_then hb2 (Nat.le_refl _) hb3)
          | (go_at_call 33; refine (HN.out _ hb3).mono ?_; rintro e w4 ⟨rfl, hb4⟩; replace hb4 := bl_then hb3 (Nat.le_refl _) hb4; have b0 := (HB.out.below hb4).cell 0; have b1 := (HB.out.below hb4).cell 1))
        go_ret2
        exact ⟨rfl, HQ.out.below hb4, Keep.of_below hb4 _⟩
      · rw [if_neg g4]
        have g5 : (fl == 1) = false := by simp [g4]
        by_cases g6 : fl = 2
        · have g7 : (fl == 2) = true := by simp [g6]
          rw [show decide (fl = 2) = true from by simp [g6]] at HINS HOW ⊢
          clear HSET HOH g4 g6
          go_enter Try.func8, Try.ntmps8
          go_wp2_with (first
            | (go_at_call 31; refine (HCK.out _).mono ?_; rintro e w' ⟨rfl, rfl⟩)
            | (go_at_call 10; refine HF.out.mono ?_; rintro e w1 ⟨rfl, hb1⟩)
            | (go_at_call 13; refine (HM.out _ hb1).mono ?_; rintro e w2 ⟨rfl, hb2⟩; replace hb2 := bl_then hb1 (Nat.le_refl _) hb2)
            | (go_at_call 32; refine (HT.out _).mono ?_; rintro e w3 ⟨rfl, hb3⟩; replace hb3 := bl_then hb2 (Nat.le_refl _) hb3)
            | (go_at_call 33; refine (HN.out _ hb3).mono ?_; rintro e w4 ⟨rfl, hb4⟩; replace hb4 := bl_then hb3 (Nat.le_refl _) hb4; have b0 := (HB.out.below hb4).cell 0; have b1 := (HB.out.below hb4).cell 1)
            | (go_at_call 35; refine (HINS.out _ hb4).mono ?_; rintro e w5 ⟨v, rfl, hown, hb5⟩; have hv := SF.own (ok := okWt) enWt_len (by omega) hown HOW.out; replace hb5 := bl_then hb4 (Nat.le_refl _) hb5; have hq5 := HQ.out.below hb5; have f1 := (HB.out.below hb5).frozen 1; have d1 := (HB.out.below hb5).cell 1; obtain ⟨A1, n1, p1, rfl, _⟩ := id hv; have HV := Lib.hid hv; have HQ5 := Lib.hid hq5; clear hown hv hq5))
          go_ret2
          exact ⟨rfl, HQ5.out.setW HV.out, (Keep.of_below hb5 _).trans (keep_set _ _ _ _)⟩
        · have g7 : (fl == 2) = false := by simp [g6]
          rw [show decide (fl = 2) = false from by simp [g6]] at HINS HOW ⊢
          clear HSET HOH g4 g6
          go_enter Try.func8, Try.ntmps8
          go_wp2_with (first
            | (go_at_call 31; refine (HCK.out _).mono ?_; rintro e w' ⟨rfl, rfl⟩)
            | (go_at_call 10; refine HF.out.mono ?_; rintro e w1 ⟨rfl, hb1⟩)
            | (go_at_call 13; refine (HM.out _ hb1).mono ?_; rintro e w2 ⟨rfl, hb2⟩; replace hb2 := bl_then hb1 (Nat.le_refl _) hb2)
            | (go_at_call 32; refine (HT.out _).mono ?_; rintro e w3 ⟨rfl, hb3⟩; replace hb3 := bl_then hb2 (Nat.le_refl _) hb3)
            | (go_at_call 33; refine (HN.out _ hb3).mono ?_; rintro e w4 ⟨rfl, hb4⟩; replace hb4 := bl_then hb3 (Nat.le_refl _) hb4; have b0 := (HB.out.below hb4).cell 0; have b1 := (HB.out.below hb4).cell 1)
            | (go_at_call 35; refine (HINS.out _ hb4).mono ?_; rintro e w5 ⟨v, rfl, hown, hb5⟩; have hv := SF.own (ok := okWt) enWt_len (by omega) hown HOW.out; replace hb5 := bl_then hb4 (Nat.le_refl _) hb5; have hq5 := HQ.out.below hb5; have f1 := (HB.out.below hb5).frozen 1; have d1 := (HB.out.below hb5).cell 1; obtain ⟨A1, n1, p1, rfl, _⟩ := id hv; have HV := Lib.hid hv; have HQ5 := Lib.hid hq5; clear hown hv hq5))
          go_ret2
          exact ⟨rfl, HQ5.out.setW HV.out, (Keep.of_below hb5 _).trans (keep_set _ _ _ _)⟩
end Go.Proofs.Ytdkbfmffnamdbaa
