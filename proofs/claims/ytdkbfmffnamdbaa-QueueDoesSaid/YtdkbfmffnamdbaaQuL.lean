/- queue: what its functions come to, and the plain laws. No condition. -/
import Derived.Test.YtdkbfmffnamdbaaReqE
import Derived.Test.YtdkbfmffnamdbaaGrpL
set_option linter.unusedVariables false
set_option linter.unusedSimpArgs false
namespace Go.Proofs.Ytdkbfmffnamdbaa
open Go.RowKit (wrap32 wrap64)
open Go.RowKit
def chkT (tx m fl : Int) : Int := if 1 ≤ tx ∧ (1 ≤ m ∧ m ≤ 6) ∧ 0 ≤ fl ∧ fl ≤ 2 then 0 else 1
def convT (H : List Hd) (tx : Int) : Bool := ofT H tx != 0
def tgtT (H : List Hd) (tx m : Int) : Int := supT (ofT H tx) m
def othT (had m : Int) : Bool := covT (supT had m) had && !covT had (supT had m)
def nowT (H : List Hd) (W : List Wt) (tx t : Int) (c : Bool) : Bool := decide ((if c then placeT W true else W.length) = 0) && goesT H tx t
structure Ans where
  a : Int
  e : Int
  H : List Hd
  W : List Wt
def askT (H : List Hd) (W : List Wt) (tx m fl : Int) : Ans :=
  if chkT tx m fl ≠ 0 then ⟨0, 1, H, W⟩
  else if 0 ≤ idxB (ofTx tx) W then ⟨0, 3, H, W⟩
  else if (convT H tx && !othT (ofT H tx) m) = true then ⟨1, 0, H, W⟩
  else if nowT H W tx (tgtT H tx m) (convT H tx) = true then ⟨1, 0, if fl = 2 then H else setT tx (tgtT H tx m) H, W⟩
  else if fl = 1 then ⟨0, 40, H, W⟩
  else ⟨2, 0, H, insT ⟨tx, tgtT H tx m, convT H tx, decide (fl = 2)⟩ W⟩
structure Told where
  o : List Wt
  e : Int
  H : List Hd
  W : List Wt
def sweepT : List Hd → List Wt → Told
  | H, [] => ⟨[], 0, H, []⟩
  | H, w :: W => if goesT H w.tx w.mode = true then ⟨w :: (sweepT (if w.inst then H else setT w.tx w.mode H) W).o, 0, (sweepT (if w.inst then H else setT w.tx w.mode H) W).H, (sweepT (if w.inst then H else setT w.tx w.mode H) W).W⟩ else ⟨[], 0, H, w :: W⟩
def releaseT (H : List Hd) (W : List Wt) (tx : Int) : Told := if ofT H tx = 0 ∧ idxB (ofTx tx) W < 0 then ⟨[], 2, H, W⟩ else sweepT (dropT H tx) (outT tx W)
def cancelT (H : List Hd) (W : List Wt) (tx : Int) : Told := if idxB (ofTx tx) W < 0 then ⟨[], 2, H, W⟩ else sweepT H (outT tx W)
/-- What is told, and what still waits, are together all that waited. -/
theorem sweep_app (W : List Wt) : ∀ H, (sweepT H W).o ++ (sweepT H W).W = W := by
  induction W with
  | nil => intro H; rfl
  | cons w W ih =>
    intro H
    unfold sweepT
    split
    · show w :: ((sweepT _ W).o ++ (sweepT _ W).W) = w :: W
      rw [ih]
    · rfl
theorem setT_len (tx m : Int) (H : List Hd) : (setT tx m H).length ≤ H.length + 1 := by
  induction H with
  | nil => simp [setT]
  | cons h l ih => unfold setT; split <;> simp <;> omega
theorem sweep_len (W : List Wt) : ∀ H, (sweepT H W).H.length + (sweepT H W).W.length ≤ H.length + W.length := by
  induction W with
  | nil => intro H; simp [sweepT]
  | cons w W ih =>
    intro H
    unfold sweepT
    split
    · have := ih (if w.inst then H else setT w.tx w.mode H)
      have h2 : (if w.inst then H else setT w.tx w.mode H).length ≤ H.length + 1 := by
        split
        · omega
        · exact setT_len _ _ _
      simp only [List.length_cons]
      omega
    · simp
theorem ask_len (H : List Hd) (W : List Wt) (tx m fl : Int) : (askT H W tx m fl).H.length + (askT H W tx m fl).W.length ≤ H.length + W.length + 1 := by
  unfold askT
  repeat' split
  all_goals first | exact Nat.le_succ _ | skip
  · have := setT_len tx (tgtT H tx m) H
    show (setT tx (tgtT H tx m) H).length + W.length ≤ _
    omega
  · show H.length + (insT _ W).length ≤ _
    rw [insT_len]; omega
theorem release_len (H : List Hd) (W : List Wt) (tx : Int) : (releaseT H W tx).H.length + (releaseT H W tx).W.length ≤ H.length + W.length := by
  unfold releaseT
  split
  · exact Nat.le_refl _
  · have h1 := sweep_len (outT tx W) (dropT H tx)
    have h2 : (dropT H tx).length ≤ H.length := List.length_filter_le _ _
    have h3 : (outT tx W).length ≤ W.length := List.length_filter_le _ _
    omega
theorem cancel_len (H : List Hd) (W : List Wt) (tx : Int) : (cancelT H W tx).H.length + (cancelT H W tx).W.length ≤ H.length + W.length := by
  unfold cancelT
  split
  · exact Nat.le_refl _
  · have h1 := sweep_len (outT tx W) H
    have h3 : (outT tx W).length ≤ W.length := List.length_filter_le _ _
    omega
theorem find_none (tx : Int) (W : List Wt) (h : idxB (ofTx tx) W < 0) : ∀ x ∈ W, ofTx tx x = false := by
  rcases idxB_spec (ofTx tx) W with ⟨_, h2⟩ | ⟨k, x, h1, _⟩
  · exact h2
  · omega
theorem out_self (tx : Int) (W : List Wt) (h : ∀ x ∈ W, ofTx tx x = false) : outT tx W = W := List.filter_eq_self.2 (fun y hy => by rw [h y hy]; rfl)
theorem of_set_ne (tx m u : Int) (H : List Hd) (h : u ≠ tx) : ofT (setT tx m H) u = ofT H u := by
  induction H with
  | nil => simp [setT, ofT, isTx, show (tx == u) = false by simp; omega]
  | cons x l ih =>
    unfold setT
    split
    · rename_i hx
      have e : x.tx = tx := by unfold isTx at hx; simpa using hx
      have e1 : isTx u x = false := by unfold isTx; simp; omega
      have e2 : isTx u ⟨x.tx, m⟩ = false := by unfold isTx; simp; omega
      unfold ofT
      rw [List.find?_cons, List.find?_cons, e1, e2]
    · unfold ofT at ih ⊢
      rw [List.find?_cons, List.find?_cons]
      cases isTx u x with
      | true => rfl
      | false => exact ih
theorem of_drop_ne (tx u : Int) (H : List Hd) (h : u ≠ tx) : ofT (dropT H tx) u = ofT H u := by
  unfold dropT
  induction H with
  | nil => rfl
  | cons x l ih =>
    rw [List.filter_cons]
    split
    · unfold ofT at ih ⊢
      rw [List.find?_cons, List.find?_cons]
      cases isTx u x with
      | true => rfl
      | false => exact ih
    · rename_i hx
      have e : x.tx = tx := by unfold isTx at hx; simpa using hx
      have e1 : isTx u x = false := by unfold isTx; simp; omega
      unfold ofT at ih ⊢
      rw [List.find?_cons, e1]
      exact ih
theorem goes_set_self (tx m t : Int) (H : List Hd) : goesT (setT tx m H) tx t = goesT H tx t := by
  unfold goesT
  congr 1
  induction H with
  | nil => simp [setT, hits]
  | cons x l ih =>
    unfold setT
    split
    · rename_i hx
      have e : x.tx = tx := by unfold isTx at hx; simpa using hx
      simp [hits, e]
    · rw [List.any_cons, List.any_cons, ih]
/-- What does not go ahead of a hold's growth does not go behind it. -/
theorem not_goes_set (tx m u t : Int) (H : List Hd) (hc : covT m (ofT H tx) = true) (h : goesT H u t = false) : goesT (setT tx m H) u t = false := by
  unfold goesT at h ⊢
  rw [Bool.not_eq_false', List.any_eq_true] at h ⊢
  obtain ⟨x, hx, hh⟩ := h
  by_cases hxt : isTx tx x = true
  · rcases idxB_spec (isTx tx) H with ⟨_, hm⟩ | ⟨k, y, _, hy, hp, hb⟩
    · rw [hm x hx] at hxt; cases hxt
    · rw [setT_hit tx m H k y hy hp hb]
      have he : x.tx = tx := by unfold isTx at hxt; simpa using hxt
      have hk := (List.getElem?_eq_some_iff.1 hy).1
      by_cases hxy : x = y
      · subst hxy
        refine ⟨⟨x.tx, m⟩, List.mem_iff_getElem?.2 ⟨k, List.getElem?_set_self hk⟩, ?_⟩
        rw [ofT_hit tx H k x hy hp hb] at hc
        unfold hits at hh ⊢
        rw [Bool.and_eq_true] at hh ⊢
        refine ⟨hh.1, ?_⟩
        cases hq : comT m t with
        | false => rfl
        | true => rw [com_less_l m x.mode t hc hq] at hh; exact absurd hh.2 (by simp)
      · refine ⟨x, ?_, hh⟩
        obtain ⟨j, hj⟩ := List.mem_iff_getElem?.1 hx
        have hjk : k ≠ j := fun e => hxy (by subst e; rw [hj] at hy; injection hy)
        exact List.mem_iff_getElem?.2 ⟨j, by rw [List.getElem?_set_ne hjk]; exact hj⟩
  · refine ⟨x, ?_, hh⟩
    clear hc hh
    induction H with
    | nil => cases hx
    | cons y l ih =>
      unfold setT
      rcases List.mem_cons.1 hx with rfl | hx
      · rw [if_neg hxt]; simp
      · split
        · exact List.mem_cons_of_mem _ hx
        · exact List.mem_cons_of_mem _ (ih hx)
/-- What is right whenever a queue rests: holds, waits, and who converts. -/
structure QOk (H : List Hd) (W : List Wt) : Prop where
  h : rightT H = true
  w : RightW W
  c : ∀ x ∈ W, x.conv = convT H x.tx
/-- The first one that waits can't be granted. -/
def Stuck (H : List Hd) (W : List Wt) : Prop := ∀ x, W.head? = some x → goesT H x.tx x.mode = false
theorem qok_tail {H : List Hd} {x : Wt} {W : List Wt} (q : QOk H (x :: W)) (g : goesT H x.tx x.mode = true) : QOk (if x.inst then H else setT x.tx x.mode H) W := by
  obtain ⟨hh, ⟨w1, w2, w3⟩, hc⟩ := q
  have hx := w1 x (by simp)
  rw [List.pairwise_cons] at w2 w3
  have hw : RightW W := ⟨fun y hy => w1 y (by simp [hy]), w2.2, w3.2⟩
  cases hi : x.inst with
  | true => exact ⟨hh, hw, fun y hy => hc y (by simp [hy])⟩
  | false =>
    refine ⟨(set_right H x.tx x.mode hh hx.1 hx.2.1 hx.2.2 g).1, hw, fun y hy => ?_⟩
    rw [hc y (by simp [hy])]
    unfold convT
    rw [if_neg (by simp), of_set_ne _ _ _ _ (fun e => w2.1 y hy e.symm)]
theorem sweep_ok (W : List Wt) : ∀ H, QOk H W → QOk (sweepT H W).H (sweepT H W).W ∧ Stuck (sweepT H W).H (sweepT H W).W := by
  induction W with
  | nil => intro H q; exact ⟨q, fun x hx => by cases hx⟩
  | cons w W ih =>
    intro H q
    unfold sweepT
    split
    · rename_i g
      exact ih _ (qok_tail q g)
    · rename_i g
      refine ⟨q, fun x hx => ?_⟩
      injection hx with hx
      subst hx
      simpa using g
theorem qok_out {H : List Hd} {W : List Wt} (q : QOk H W) (tx : Int) : QOk (dropT H tx) (outT tx W) ∧ QOk H (outT tx W) := by
  have hm : ∀ x ∈ outT tx W, x ∈ W ∧ x.tx ≠ tx := fun x hx => ⟨(List.mem_filter.1 hx).1, by have := outT_mem tx W x hx; unfold ofTx at this; simpa using this⟩
  refine ⟨⟨drop_right H tx q.h, rightW_out tx W q.w, fun x hx => ?_⟩, ⟨q.h, rightW_out tx W q.w, fun x hx => q.c x (hm x hx).1⟩⟩
  rw [q.c x (hm x hx).1]
  unfold convT
  rw [of_drop_ne _ _ _ (hm x hx).2]
theorem release_ok {H : List Hd} {W : List Wt} (q : QOk H W) (s : Stuck H W) (tx : Int) : QOk (releaseT H W tx).H (releaseT H W tx).W ∧ Stuck (releaseT H W tx).H (releaseT H W tx).W := by
  unfold releaseT
  split
  · exact ⟨q, s⟩
  · exact sweep_ok _ _ (qok_out q tx).1
theorem cancel_ok {H : List Hd} {W : List Wt} (q : QOk H W) (s : Stuck H W) (tx : Int) : QOk (cancelT H W tx).H (cancelT H W tx).W ∧ Stuck (cancelT H W tx).H (cancelT H W tx).W := by
  unfold cancelT
  split
  · exact ⟨q, s⟩
  · exact sweep_ok _ _ (qok_out q tx).2
theorem sup_pos (a m : Int) (h : 1 ≤ m ∧ m ≤ 6) : 1 ≤ supT a m ∧ supT a m ≤ 6 := by
  refine ⟨?_, (supT_range a m).2⟩
  have hz := (supT_range a m).1
  have hc := cov_sup_r a m
  by_cases h0 : supT a m = 0
  · rw [h0] at hc
    exfalso
    have hd : ∀ k : Fin 7, 1 ≤ k.val → covT 0 (k.val : Int) = false := by decide +kernel
    have := hd ⟨m.toNat, by omega⟩ (by show 1 ≤ m.toNat; omega)
    rw [show (((⟨m.toNat, by omega⟩ : Fin 7).val : Nat) : Int) = m from by show ((m.toNat : Nat) : Int) = m; omega] at this
    rw [hc] at this; cases this
  · omega
theorem ask_ok {H : List Hd} {W : List Wt} (q : QOk H W) (s : Stuck H W) (tx m fl : Int) : QOk (askT H W tx m fl).H (askT H W tx m fl).W ∧ Stuck (askT H W tx m fl).H (askT H W tx m fl).W := by
  unfold askT
  split
  · exact ⟨q, s⟩
  rename_i hc
  have hck : 1 ≤ tx ∧ (1 ≤ m ∧ m ≤ 6) ∧ 0 ≤ fl ∧ fl ≤ 2 := by unfold chkT at hc; split at hc <;> simp_all
  split
  · exact ⟨q, s⟩
  rename_i hf
  have hno := find_none tx W (by omega)
  have hne : ∀ x ∈ W, x.tx ≠ tx := fun x hx => by have := hno x hx; unfold ofTx at this; simpa using this
  split
  · exact ⟨q, s⟩
  have hsp := sup_pos (ofT H tx) m hck.2.1
  split
  · rename_i hn
    unfold nowT at hn
    rw [Bool.and_eq_true] at hn
    split
    · exact ⟨q, s⟩
    · refine ⟨⟨(set_right H tx _ q.h hck.1 hsp.1 hsp.2 hn.2).1, q.w, fun x hx => ?_⟩, fun x hx => ?_⟩
      · rw [q.c x hx]; unfold convT; rw [of_set_ne _ _ _ _ (hne x hx)]
      · exact not_goes_set _ _ _ _ _ (cov_sup_l _ _) (s x hx)
  rename_i hn
  split
  · exact ⟨q, s⟩
  refine ⟨⟨q.h, rightW_ins _ W q.w ⟨hck.1, hsp.1, hsp.2⟩ hno, fun x hx => ?_⟩, fun x hx => ?_⟩
  · rcases insT_mem _ W x hx with rfl | hx
    · rfl
    · exact q.c x hx
  · have hhead : (insT ⟨tx, tgtT H tx m, convT H tx, decide (fl = 2)⟩ W).head? = some x := hx
    unfold insT at hhead
    by_cases hp : placeT W (convT H tx) = 0
    · rw [show placeT W (Wt.conv ⟨tx, tgtT H tx m, convT H tx, decide (fl = 2)⟩) = 0 from hp] at hhead
      injection hhead with hhead
      subst hhead
      have hd : (decide ((if convT H tx = true then placeT W true else W.length) = 0)) = true := by
        cases hcv : convT H tx with
        | true => rw [hcv] at hp; simpa using hp
        | false => rw [hcv] at hp; simpa [placeT] using hp
      unfold nowT at hn
      rw [hd, Bool.true_and] at hn
      simpa using hn
    · have hlt : placeT W (convT H tx) ≤ W.length := placeT_le _ _
      cases W with
      | nil => simp at hlt; omega
      | cons y l =>
        obtain ⟨p, hp2⟩ : ∃ p, placeT (y :: l) (convT H tx) = p + 1 := ⟨placeT (y :: l) (convT H tx) - 1, by omega⟩
        rw [show placeT (y :: l) (Wt.conv ⟨tx, tgtT H tx m, convT H tx, decide (fl = 2)⟩) = p + 1 from hp2] at hhead
        injection hhead with hhead
        subst hhead
        exact s _ rfl
/-- Whom a queue knows. -/
def Known (T : Int → Prop) (H : List Hd) (W : List Wt) : Prop := (∀ x ∈ H, T x.tx) ∧ ∀ x ∈ W, T x.tx
theorem set_mem (tx m : Int) (H : List Hd) : ∀ x ∈ setT tx m H, x.tx = tx ∨ ∃ y ∈ H, x.tx = y.tx := by
  induction H with
  | nil => intro x hx; unfold setT at hx; rw [List.mem_singleton.1 hx]; exact .inl rfl
  | cons y l ih =>
    intro x hx
    unfold setT at hx
    split at hx
    · rcases List.mem_cons.1 hx with rfl | hx
      · exact .inr ⟨y, by simp, rfl⟩
      · exact .inr ⟨x, by simp [hx], rfl⟩
    · rcases List.mem_cons.1 hx with rfl | hx
      · exact .inr ⟨x, by simp, rfl⟩
      · rcases ih x hx with h | ⟨z, hz, h⟩
        · exact .inl h
        · exact .inr ⟨z, by simp [hz], h⟩
theorem sweep_known {T : Int → Prop} (W : List Wt) : ∀ H, Known T H W → Known T (sweepT H W).H (sweepT H W).W := by
  induction W with
  | nil => intro H k; exact k
  | cons w W ih =>
    intro H k
    unfold sweepT
    split
    · refine ih _ ⟨?_, fun x hx => k.2 x (by simp [hx])⟩
      split
      · exact k.1
      · intro x hx
        rcases set_mem _ _ _ x hx with h | ⟨y, hy, h⟩
        · rw [h]; exact k.2 w (by simp)
        · rw [h]; exact k.1 y hy
    · exact k
theorem ask_known {T : Int → Prop} {H : List Hd} {W : List Wt} (k : Known T H W) (tx m fl : Int) (ht : T tx) : Known T (askT H W tx m fl).H (askT H W tx m fl).W := by
  unfold askT
  repeat' split
  all_goals first | exact k | skip
  · refine ⟨fun x hx => ?_, k.2⟩
    rcases set_mem _ _ _ x hx with h | ⟨y, hy, h⟩
    · rw [h]; exact ht
    · rw [h]; exact k.1 y hy
  · refine ⟨k.1, fun x hx => ?_⟩
    rcases insT_mem _ W x hx with rfl | hx
    · exact ht
    · exact k.2 x hx
/-- Who lets go is known no more, and nobody comes to be known. -/
theorem release_known {T : Int → Prop} {H : List Hd} {W : List Wt} (q : QOk H W) (k : Known T H W) (tx : Int) : Known (fun u => T u ∧ u ≠ tx) (releaseT H W tx).H (releaseT H W tx).W := by
  unfold releaseT
  split
  · rename_i hb
    refine ⟨fun x hx => ⟨k.1 x hx, fun e => ?_⟩, fun x hx => ⟨k.2 x hx, fun e => ?_⟩⟩
    · have h0 := hb.1
      rcases idxB_spec (isTx tx) H with ⟨_, hm⟩ | ⟨j, y, _, hy, hp, hbf⟩
      · have := hm x hx; unfold isTx at this; simp [e] at this
      · rw [ofT_hit tx H j y hy hp hbf] at h0
        have := ((right_iff H).1 q.h).1 y (List.mem_of_getElem? hy)
        unfold okHd1 at this
        simp at this
        omega
    · have := find_none tx W hb.2 x hx
      unfold ofTx at this
      simp [e] at this
  · refine sweep_known _ _ ⟨fun x hx => ?_, fun x hx => ?_⟩
    · have := List.mem_filter.1 hx
      refine ⟨k.1 x this.1, fun e => ?_⟩
      have h2 := this.2
      unfold isTx at h2
      simp [e] at h2
    · have := List.mem_filter.1 hx
      refine ⟨k.2 x this.1, fun e => ?_⟩
      have h2 := this.2
      unfold ofTx at h2
      simp [e] at h2
end Go.Proofs.Ytdkbfmffnamdbaa
