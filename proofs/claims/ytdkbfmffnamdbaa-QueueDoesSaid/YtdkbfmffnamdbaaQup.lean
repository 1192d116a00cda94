/- queue: a queue in the world, and what only reads it. No condition. -/
import Derived.Test.YtdkbfmffnamdbaaQuL
import Derived.Test.YtdkbfmffnamdbaaReqI
import Derived.Test.YtdkbfmffnamdbaaGrpB
import Derived.RegionTactic
import Derived.Deep.QuietTactic
import Derived.Lib.QuietBelow
set_option linter.unusedVariables false
set_option linter.unusedSimpArgs false
namespace Go.Proofs.Ytdkbfmffnamdbaa
open Go.RowKit (wrap32 wrap64)
open Go.RowKit
/-- A cell's slice reads as a list of records; its block, if it has one, is of its own type. -/
def SF {α : Type} (enc : α → List Value) (ok : α → Prop) (s : Nat) (E : TypeId) (w : World) (v : Value) (L : List α) : Prop :=
  ∃ a n c, v = .slice a n c ∧ SR enc ok s w a n L ∧ (n ≤ c ∧ c ≤ maxLen ∧ (a = none → n = 0 ∧ c = 0)) ∧ ∀ x, a = some x → ∃ cs, Bk w x.block E cs
theorem SF.keep {α : Type} {enc : α → List Value} {ok : α → Prop} {s : Nat} {E : TypeId} {S : Nat → Prop} {w w1 : World} {v : Value} {L : List α} (h : SF enc ok s E w v L) (k : Keep S w w1) (hS : ∀ i, S i → ∃ t cs, Bk w i t cs ∧ t ≠ E) : SF enc ok s E w1 v L := by
  obtain ⟨a, n, c, rfl, hs, hc, ht⟩ := h
  have hn : ∀ x, a = some x → ¬ S x.block := fun x hx hSx => by
    obtain ⟨cs, hb⟩ := ht x hx
    obtain ⟨t, ds, hb2, hne⟩ := hS _ hSx
    exact (Bk.ne hb2 hb hne) rfl
  exact ⟨a, n, c, rfl, hs.keep k hn, hc, fun x hx => (ht x hx).imp fun cs hb => k.bk hb (hn x hx)⟩
theorem SF.below {α : Type} {enc : α → List Value} {ok : α → Prop} {s : Nat} {E : TypeId} {w w1 : World} {v : Value} {L : List α} (h : SF enc ok s E w v L) (b : Below w.heap.size w w1) : SF enc ok s E w1 v L :=
  h.keep (Keep.of_below b (fun _ => False)) (fun _ h => h.elim)
theorem SF.own {α : Type} {enc : α → List Value} {ok : α → Prop} {s : Nat} {E : TypeId} (he : ∀ a, (enc a).length = s) (hs : 0 < s) {w : World} {base : Nat} {v : Value} {L : List α} (h : w.ownsRow base E s v L.length (flatV enc L)) (hR : ∀ x ∈ L, ok x) : SF enc ok s E w v L := by
  have h2 := h
  obtain ⟨A, c, rfl, hs, hn, _⟩ := SR.own he hs h hR
  have hc := own_caps h2
  refine ⟨A, _, c, rfl, hs, ⟨hc.1, hc.2.1, hn⟩, fun x hx => ?_⟩
  rcases h2.2 with ⟨hv, _⟩ | ⟨g, cap', cur, hv, _, h1, _⟩
  · injection hv with e1 _ _; rw [e1] at hx; cases hx
  · injection hv with e1 _ _; rw [e1] at hx; cases hx; exact ⟨cur, h1⟩
theorem SF.nil {α : Type} {enc : α → List Value} {ok : α → Prop} {s : Nat} {E : TypeId} (w : World) : SF enc ok s E w (.slice none 0 0) [] :=
  ⟨none, 0, 0, rfl, ⟨rfl, Nat.zero_le _, (by intro x h; cases h), fun h => absurd h (Nat.lt_irrefl _)⟩, ⟨Nat.le_refl _, Nat.zero_le _, fun _ => ⟨rfl, rfl⟩⟩, (by intro x h; cases h)⟩
/-- A queue: two slices behind a pointer. -/
def QA (w : World) (q : Nat) (H : List Hd) (W : List Wt) : Prop :=
  ∃ vH vW, Bk w q 29 #[vH, vW] ∧ SF enHd okHd 2 82 w vH H ∧ SF enWt okWt 4 37 w vW W
theorem QA.below {w w1 : World} {q : Nat} {H : List Hd} {W : List Wt} (h : QA w q H W) (b : Below w.heap.size w w1) : QA w1 q H W := by
  obtain ⟨vH, vW, h1, h2, h3⟩ := h
  exact ⟨vH, vW, h1.below b, h2.below b, h3.below b⟩
theorem QA.lt {w : World} {q : Nat} {H : List Hd} {W : List Wt} (h : QA w q H W) : q < w.heap.size := by
  obtain ⟨vH, vW, h1, _⟩ := h
  exact h1.lt
/-- What another queue's deed leaves of this one. -/
theorem QA.keep {w w1 : World} {q r : Nat} {H : List Hd} {W : List Wt} {t : TypeId} {cs : Array Value} (h : QA w q H W) (k : Keep (fun i => i = r) w w1) (hne : q ≠ r) (hr : Bk w r t cs) (h1 : t ≠ 82) (h2 : t ≠ 37) : QA w1 q H W := by
  obtain ⟨vH, vW, b, s1, s2⟩ := h
  exact ⟨vH, vW, k.bk b hne, s1.keep k (fun i hi => by subst hi; exact ⟨t, cs, hr, h1⟩), s2.keep k (fun i hi => by subst hi; exact ⟨t, cs, hr, h2⟩)⟩
theorem keep_set (w : World) (q i : Nat) (v : Value) : Keep (fun j => j = q) w (w.setCell ⟨q, i, none⟩ v) := Keep.set w q i v _ rfl
theorem QA.setH {w : World} {q : Nat} {H H2 : List Hd} {W : List Wt} {v : Value} (h : QA w q H W) (s : SF enHd okHd 2 82 w v H2) : QA (w.setCell ⟨q, 0, none⟩ v) q H2 W := by
  obtain ⟨vH, vW, b, s1, s2⟩ := h
  exact ⟨v, vW, b.set 0 v, s.keep (keep_set w q 0 v) (fun i hi => by subst hi; exact ⟨_, _, b, by decide⟩), s2.keep (keep_set w q 0 v) (fun i hi => by subst hi; exact ⟨_, _, b, by decide⟩)⟩
theorem QA.setW {w : World} {q : Nat} {H : List Hd} {W W2 : List Wt} {v : Value} (h : QA w q H W) (s : SF enWt okWt 4 37 w v W2) : QA (w.setCell ⟨q, 1, none⟩ v) q H W2 := by
  obtain ⟨vH, vW, b, s1, s2⟩ := h
  exact ⟨vH, v, b.set 1 v, s1.keep (keep_set w q 1 v) (fun i hi => by subst hi; exact ⟨_, _, b, by decide⟩), s.keep (keep_set w q 1 v) (fun i hi => by subst hi; exact ⟨_, _, b, by decide⟩)⟩
theorem QA.okH {w : World} {q : Nat} {H : List Hd} {W : List Wt} (h : QA w q H W) : ∀ x ∈ H, okHd x := by
  obtain ⟨_, _, _, ⟨_, _, _, _, hs, _⟩, _⟩ := h
  exact hs.all
theorem QA.okW {w : World} {q : Nat} {H : List Hd} {W : List Wt} (h : QA w q H W) : ∀ x ∈ W, okWt x := by
  obtain ⟨_, _, _, _, ⟨_, _, _, _, hs, _⟩⟩ := h
  exact hs.all
theorem qholds_any (q : Nat) (H : List Hd) (W : List Wt) (w : World) (h : QA w q H W) (hn : H.length ≤ 1000) : Calls Try.prog 25 #[.pointer (some ⟨q, 0, none⟩)] w (OwnRet enHd 82 2 w H) := by
  obtain ⟨vH, vW, hb, ⟨a, n, c, rfl, hs, hc, ht⟩, _⟩ := h
  have HC := Lib.hid (cloneHd_any a n c H w hs hc.2.2 (by have := hs.len; omega))
  have c0 := hb.cell 0
  clear hb hs hc ht
  go_enter Try.func25, Try.ntmps25
  go_wp2_with (go_at_call 52; refine HC.out.mono ?_; rintro e w1 ⟨v, rfl, hown, hb1⟩)
  go_ret
  exact ⟨v, rfl, hown, hb1⟩
theorem qholds_nil (w : World) : Calls Try.prog 25 #[.pointer none] w (OwnRet enHd 82 2 w []) := by
  go_enter Try.func25, Try.ntmps25
  go_wp2
  go_ret
  exact ⟨_, rfl, World.ownsRow_nil _ _ _ _, Below.refl _ _⟩
theorem qwaits_any (q : Nat) (H : List Hd) (W : List Wt) (w : World) (h : QA w q H W) (hn : W.length ≤ 1000) : Calls Try.prog 9 #[.pointer (some ⟨q, 0, none⟩)] w (OwnRet enWt 37 4 w W) := by
  obtain ⟨vH, vW, hb, _, ⟨a, n, c, rfl, hs, hc, ht⟩⟩ := h
  have HC := Lib.hid (cloneWt_any a n c W w hs hc.2.2 (by have := hs.len; omega))
  have c0 := hb.cell 1
  clear hb hs hc ht
  go_enter Try.func9, Try.ntmps9
  go_wp2_with (go_at_call 36; refine HC.out.mono ?_; rintro e w1 ⟨v, rfl, hown, hb1⟩)
  go_ret
  exact ⟨v, rfl, hown, hb1⟩
theorem qwaits_nil (w : World) : Calls Try.prog 9 #[.pointer none] w (OwnRet enWt 37 4 w []) := by
  go_enter Try.func9, Try.ntmps9
  go_wp2
  go_ret
  exact ⟨_, rfl, World.ownsRow_nil _ _ _ _, Below.refl _ _⟩
theorem qmode_any (q : Nat) (H : List Hd) (W : List Wt) (tx : Int) (w : World) (h : QA w q H W) (hn : H.length ≤ 1000) : Calls Try.prog 13 #[.pointer (some ⟨q, 0, none⟩), .int .i64 tx] w fun e w' => e = .returned (.int .i64 (ofT H tx)) ∧ Below w.heap.size w w' := by
  have HC := Lib.hid (qholds_any q H W w h hn)
  have HO := Lib.hid h.okH
  clear h
  go_enter Try.func13, Try.ntmps13
  go_wp2_with (first
    | (go_at_call 25; refine HC.out.mono ?_; rintro e w1 ⟨v, rfl, hown, hb1⟩; obtain ⟨A, c, rfl, hsr, _, _⟩ := SR.own (ok := okHd) enHd_len (by omega) hown HO.out; have HG := Lib.hid (gof_any A _ c H tx w1 hsr hn); clear hown hsr)
    | (go_at_call 30; refine HG.out.mono ?_; rintro e w2 ⟨rfl, hb2⟩))
  go_ret
  exact ⟨rfl, bl_then hb1 (Nat.le_refl _) hb2⟩
theorem qmode_nil (tx : Int) (w : World) : Calls Try.prog 13 #[.pointer none, .int .i64 tx] w fun e w' => e = .returned (.int .i64 0) ∧ Below w.heap.size w w' := by
  go_enter Try.func13, Try.ntmps13
  go_wp2_with (first
    | (go_at_call 25; refine (qholds_nil _).mono ?_; rintro e w1 ⟨v, rfl, hown, hb1⟩; obtain ⟨A, c, rfl, hsr, _, _⟩ := SR.own (ok := okHd) enHd_len (by omega) hown (by intro x h; cases h); have HG := Lib.hid (gof_any A _ c [] tx w1 hsr (Nat.zero_le _)); clear hown hsr)
    | (go_at_call 30; refine HG.out.mono ?_; rintro e w2 ⟨rfl, hb2⟩))
  go_ret
  exact ⟨rfl, bl_then hb1 (Nat.le_refl _) hb2⟩
theorem qsize_any (q : Nat) (H : List Hd) (W : List Wt) (w : World) (h : QA w q H W) (hn : H.length + W.length ≤ 1000) : Calls Try.prog 14 #[.pointer (some ⟨q, 0, none⟩)] w fun e w' => e = .returned (.int .i64 ((H.length + W.length : Nat) : Int)) ∧ Below w.heap.size w w' := by
  obtain ⟨vH, vW, hb, ⟨a, n, c, rfl, hs, _⟩, ⟨a2, n2, c2, rfl, hs2, _⟩⟩ := h
  have e1 := hs.len
  have e2 := hs2.len
  have c0 := hb.cell 0
  have c1 := hb.cell 1
  rw [e1, e2] at hn ⊢
  have t1 : IntKind.i64.wrap ((n : Int) + n2) = ((n + n2 : Nat) : Int) := by rw [IntKind.wrap_i64] <;> omega
  clear hb hs hs2 e1 e2
  go_enter Try.func14, Try.ntmps14
  go_wp2
  go_quiet (fail)
  go_wp2
  go_ret
  exact ⟨rfl, by first | exact Below.refl _ _ | exact below_drew _ | exact below_drewN _ _⟩
theorem qsize_nil (w : World) : Calls Try.prog 14 #[.pointer none] w fun e w' => e = .returned (.int .i64 0) ∧ Below w.heap.size w w' := by
  go_enter Try.func14, Try.ntmps14
  go_wp2
  go_ret
  exact ⟨rfl, Below.refl _ _⟩
theorem qchk_any (tx m fl : Int) (w : World) : Calls Try.prog 31 #[.int .i64 tx, .int .i64 m, .int .i64 fl] w fun e w' => e = .returned (.int .i64 (chkT tx m fl)) ∧ w = w' := by
  have HM := Lib.hid (fun W => may_any m W)
  by_cases h1 : 1 ≤ tx
  case neg =>
    rw [show chkT tx m fl = 1 from if_neg (fun h => h1 h.1)]
    have g1 : tx < 1 := by omega
    clear h1
    go_enter Try.func31, Try.ntmps31
    go_wp2
    go_ret
    exact ⟨rfl, rfl⟩
  have g1 : ¬ tx < 1 := by omega
  by_cases h2 : 0 ≤ m ∧ m < 7
  case neg =>
    rw [show chkT tx m fl = 1 from if_neg (fun h => h2 ⟨by omega, by omega⟩)]
    have e : mayB m = false := by unfold mayB; simp; omega
    rw [e] at HM
    clear h1 h2 e
    go_enter Try.func31, Try.ntmps31
    go_wp2_with (go_at_call 53; refine (HM.out _).mono ?_; rintro e w' ⟨rfl, rfl⟩)
    go_ret
    exact ⟨rfl, rfl⟩
  have e : mayB m = true := by unfold mayB; simp; omega
  rw [e] at HM
  by_cases h3 : m = 0
  · rw [show chkT tx m fl = 1 from if_neg (fun h => by omega)]
    have g3 : (m == 0) = true := by simp [h3]
    clear h1 h2 e h3
    go_enter Try.func31, Try.ntmps31
    go_wp2_with (go_at_call 53; refine (HM.out _).mono ?_; rintro e w' ⟨rfl, rfl⟩)
    go_ret
    exact ⟨rfl, rfl⟩
  have g3 : (m == 0) = false := by simp [h3]
  by_cases h4 : 0 ≤ fl
  case neg =>
    rw [show chkT tx m fl = 1 from if_neg (fun h => by omega)]
    have g4 : fl < 0 := by omega
    clear h1 h2 e h3 h4
    go_enter Try.func31, Try.ntmps31
    go_wp2_with (go_at_call 53; refine (HM.out _).mono ?_; rintro e w' ⟨rfl, rfl⟩)
    go_ret
    exact ⟨rfl, rfl⟩
  have g4 : ¬ fl < 0 := by omega
  by_cases h5 : fl ≤ 2
  case neg =>
    rw [show chkT tx m fl = 1 from if_neg (fun h => by omega)]
    have g5 : 2 < fl := by omega
    clear h1 h2 e h3 h4 h5
    go_enter Try.func31, Try.ntmps31
    go_wp2_with (go_at_call 53; refine (HM.out _).mono ?_; rintro e w' ⟨rfl, rfl⟩)
    go_ret
    exact ⟨rfl, rfl⟩
  have g5 : ¬ 2 < fl := by omega
  rw [show chkT tx m fl = 0 from if_pos ⟨h1, by omega, by omega⟩]
  clear h1 h2 e h3 h4 h5
  go_enter Try.func31, Try.ntmps31
  go_wp2_with (go_at_call 53; refine (HM.out _).mono ?_; rintro e w' ⟨rfl, rfl⟩)
  go_ret
  exact ⟨rfl, rfl⟩
theorem qtgt_any (had m : Int) (w : World) : Calls Try.prog 32 #[.int .i64 had, .int .i64 m] w fun e w' => e = .returned (.tuple #[.int .i64 (supT had m), .bool (othT had m)]) ∧ Below w.heap.size w w' := by
  have hc := cov_sup_l had m
  have HV1 := Lib.hid (fun W => covers_any (supT had m) had W)
  have HV2 := Lib.hid (fun W => covers_any had (supT had m) W)
  have HS := Lib.hid (fun W => sup_any had m W)
  unfold othT
  rw [hc] at HV1 ⊢
  generalize supT had m = z at *
  clear hc
  go_enter Try.func32, Try.ntmps32
  go_wp2_with fail
  refine (HS.out _).mono ?_
  rintro e w1 ⟨rfl, hb1⟩
  go_wp2_with fail
  refine (HV1.out _).mono ?_
  rintro e w2 ⟨rfl, hb2⟩
  go_wp2_with fail
  refine (HV2.out _).mono ?_
  rintro e w3 ⟨rfl, hb3⟩
  go_wp2
  go_ret2
  exact ⟨rfl, bl_then (bl_then hb1 (Nat.le_refl _) hb2) (Nat.le_refl _) hb3⟩
def CopyRet (w : World) (H : List Hd) (W : List Wt) (e : Ending) (w' : World) : Prop := ∃ r, e = .returned (.pointer (some ⟨r, 0, none⟩)) ∧ w.heap.size ≤ r ∧ QA w' r H W ∧ Below w.heap.size w w'
theorem qcopy_any (q : Nat) (H : List Hd) (W : List Wt) (w : World) (h : QA w q H W) (hn : H.length ≤ 1000) (hn2 : W.length ≤ 1000) : Calls Try.prog 23 #[.pointer (some ⟨q, 0, none⟩)] w (CopyRet w H W) := by
  have HC := Lib.hid (qholds_any q H W w h hn)
  have HW := Lib.hid (fun W1 (hb : Below w.heap.size w W1) => qwaits_any q H W W1 (h.below hb) hn2)
  have HO := Lib.hid h.okH
  have HO2 := Lib.hid h.okW
  clear h
  go_enter Try.func23, Try.ntmps23
  go_wp2_with (first
    | (go_at_call 25; refine HC.out.mono ?_; rintro e w1 ⟨v, rfl, hown, hb1⟩; have hs := SF.own (ok := okHd) enHd_len (by omega) hown HO.out; obtain ⟨A1, n1, p1, rfl, _⟩ := id hs; have HS := Lib.hid hs; clear hown hs)
    | (go_at_call 9; refine (HW.out _ hb1).mono ?_; rintro e w2 ⟨v2, rfl, hown, hb2⟩; have hs := SF.own (ok := okWt) enWt_len (by omega) hown HO2.out; obtain ⟨A2, n2, p2, rfl, _⟩ := id hs; have HS2 := Lib.hid hs; clear hown hs))
  go_ret
  have al := (Below.refl w2.heap.size w2).alloc (Nat.le_refl _) (.cells #[.slice A1 n1 p1, .slice A2 n2 p2] 29)
  have hb3 := bl_then hb1 (Nat.le_refl _) hb2
  exact ⟨_, rfl, hb3.size, ⟨_, _, Bk.new w2 _ _, (HS.out.below hb2).below al, HS2.out.below al⟩, bl_then hb3 (Nat.le_refl _) al⟩
theorem qcopy_nil (w : World) : Calls Try.prog 23 #[.pointer none] w fun e w' => e = .returned (.pointer none) ∧ w = w' := by
  go_enter Try.func23, Try.ntmps23
  go_wp2
  go_ret
  exact ⟨rfl, rfl⟩
theorem qnow_any (q : Nat) (H : List Hd) (W : List Wt) (tx t : Int) (c : Bool) (w : World) (h : QA w q H W) (hn : H.length ≤ 1000) (hn2 : W.length ≤ 1000) : Calls Try.prog 33 #[.pointer (some ⟨q, 0, none⟩), .int .i64 tx, .int .i64 t, .bool c] w fun e w' => e = .returned (.bool (nowT H W tx t c)) ∧ Below w.heap.size w w' := by
  have h0 := h
  obtain ⟨vH, vW, hb, ⟨a, n, cp, rfl, hs, _⟩, ⟨a2, n2, c2, rfl, hs2, hc2, _⟩⟩ := h
  have e2 := hs2.len
  have e1 := hs.len
  have c1 := hb.cell 1
  have HG := Lib.hid (fun W1 (hb : Below w.heap.size w W1) => ggoes_any a n cp H tx t W1 (hs.below hb) (by omega))
  have HP := Lib.hid (qplace_any a2 n2 c2 W true w hs2 (by omega))
  have HB := Lib.hid hb
  unfold nowT
  cases c with
  | false =>
    simp only [if_neg Bool.false_ne_true]
    rw [e2]
    have c0 := hb.cell 0
    by_cases hz : n2 = 0
    · subst hz
      have hd : decide ((0 : Nat) = 0) = true := by decide
      rw [hd, Bool.true_and]
      have hr := Below.refl w.heap.size w
      clear h0 hb hs hs2 hc2 e1 e2 hd
      go_enter Try.func33, Try.ntmps33
      go_wp2_with (go_at_call 29; refine (HG.out _ hr).mono ?_; rintro e w2 ⟨rfl, hb2⟩)
      go_ret
      exact ⟨rfl, hb2⟩
    · have hd : decide (n2 = 0) = false := decide_eq_false hz
      have g1 : ((n2 : Int) == 0) = false := by simp; omega
      rw [hd, Bool.false_and]
      clear h0 hb hs hs2 hc2 e1 e2 hd hz
      go_enter Try.func33, Try.ntmps33
      go_wp2
      go_ret
      exact ⟨rfl, Below.refl _ _⟩
  | true =>
    simp only [if_pos]
    have hp := placeT_le W true
    rw [e2] at hp
    generalize placeT W true = p at hp HP ⊢
    have hcm : c2 ≤ 9223372036854775807 := by have := hc2.2.1; unfold maxLen at this; exact this
    have hpc : p ≤ c2 := by have := hc2.1; omega
    by_cases hz : p = 0
    · subst hz
      have hd : decide ((0 : Nat) = 0) = true := by decide
      rw [hd, Bool.true_and]
      clear h0 hb hs hs2 hc2 e1 e2 hd
      go_enter Try.func33, Try.ntmps33
      go_wp2_with (first
        | (go_at_call 61; refine HP.out.mono ?_; rintro e w1 ⟨rfl, hb1⟩; have c0 := (HB.out.below hb1).cell 0; clear c1; have c1 := (HB.out.below hb1).cell 1)
        | (go_at_call 29; refine (HG.out _ hb1).mono ?_; rintro e w2 ⟨rfl, hb2⟩))
      go_ret
      exact ⟨rfl, bl_then hb1 (Nat.le_refl _) hb2⟩
    · have hd : decide (p = 0) = false := decide_eq_false hz
      have g1 : ((p : Int) == 0) = false := by simp; omega
      rw [hd, Bool.false_and]
      clear h0 hb hs hs2 hc2 e1 e2 hd hz
      go_enter Try.func33, Try.ntmps33
      go_wp2_with (go_at_call 61; refine HP.out.mono ?_; rintro e w1 ⟨rfl, hb1⟩; have c0 := (HB.out.below hb1).cell 0; clear c1; have c1 := (HB.out.below hb1).cell 1)
      go_ret
      exact ⟨rfl, hb1⟩
end Go.Proofs.Ytdkbfmffnamdbaa
