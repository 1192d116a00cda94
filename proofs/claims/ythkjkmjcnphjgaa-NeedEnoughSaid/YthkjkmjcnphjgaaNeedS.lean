/- need: the plain laws of NeedEnough. No condition. -/
import Derived.Test.YthkjkmjcnphjgaaNeedQ
set_option linter.unusedVariables false
set_option linter.unusedSimpArgs false
namespace Go.Proofs.Ythkjkmjcnphjgaa
open Go.RowKit
def withT (x : Lk) : List Lk → List Lk
  | [] => [x]
  | l :: r => if isAt (pathOf x) l then x :: r else l :: withT x r
theorem withT_miss (x : Lk) (L : List Lk) (h : ∀ y ∈ L, isAt (pathOf x) y = false) : withT x L = L ++ [x] := by
  induction L with
  | nil => rfl
  | cons y l ih => unfold withT; rw [h y (by simp), ih (fun z hz => h z (by simp [hz]))]; rfl
theorem withT_hit (x : Lk) (L : List Lk) (k : Nat) (y : Lk) (hx : L[k]? = some y) (hp : isAt (pathOf x) y = true) (h : ∀ z ∈ L.take k, isAt (pathOf x) z = false) : withT x L = L.set k x := by
  induction L generalizing k with
  | nil => simp at hx
  | cons z l ih =>
    cases k with
    | zero => simp at hx; subst hx; unfold withT; rw [hp]; rfl
    | succ k =>
      unfold withT
      rw [h z (by simp), ih k (by simpa using hx) (fun u hu => h u (by simp [hu]))]; rfl
theorem needOf_cons (l : Lk) (r : List Lk) (a : Pt) : needOf (l :: r) a = if isAt a l then l.mode else needOf r a := by
  unfold needOf
  rw [List.find?_cons]
  cases isAt a l <;> rfl
theorem needOf_with (x : Lk) (L : List Lk) (a : Pt) : needOf (withT x L) a = if a = pathOf x then x.mode else needOf L a := by
  have hself : isAt (pathOf x) x = true := decide_eq_true rfl
  have hne : ∀ a, a ≠ pathOf x → isAt a x = false := fun a h => decide_eq_false (fun e => h e.symm)
  induction L with
  | nil =>
    show needOf [x] a = _
    rw [needOf_cons]
    by_cases h : a = pathOf x
    · subst h; rw [hself]; simp
    · rw [hne a h, if_neg h]; rfl
  | cons l r ih =>
    unfold withT
    cases hl : isAt (pathOf x) l with
    | true =>
      rw [if_pos rfl, needOf_cons, needOf_cons]
      by_cases h : a = pathOf x
      · subst h; rw [hself]; simp
      · rw [hne a h, if_neg h]
        have : isAt a l = false := decide_eq_false (fun e => h (by rw [← e]; exact of_decide_eq_true hl))
        rw [this]; rfl
    | false =>
      rw [if_neg (by simp), needOf_cons, ih, needOf_cons]
      by_cases h : a = pathOf x
      · subst h; rw [hl]; simp
      · rw [if_neg h, if_neg h]
def upOf (a : Pt) : Pt := front a (a.dep.toNat - 1)
/-- What Right asks of one lock. -/
def okLock (L : List Lk) (x : Lk) : Prop := mayP (pathOf x) = true ∧ 1 ≤ x.mode ∧ x.mode ≤ 6 ∧ (2 ≤ x.dep → covT (needOf L (upOf (pathOf x))) (parT x.mode) = true)
def RightL (L : List Lk) : Prop := (∀ x ∈ L, okLock L x) ∧ L.Pairwise fun a b => pathOf a ≠ pathOf b
theorem needOf_mem (L : List Lk) (h : L.Pairwise fun a b => pathOf a ≠ pathOf b) (x : Lk) (hx : x ∈ L) : needOf L (pathOf x) = x.mode := by
  induction L with
  | nil => cases hx
  | cons l r ih =>
    rw [needOf_cons]
    rw [List.pairwise_cons] at h
    rcases List.mem_cons.1 hx with rfl | hx
    · rw [show isAt (pathOf x) x = true from decide_eq_true rfl]; rfl
    · have : isAt (pathOf x) l = false := decide_eq_false (h.1 x hx)
      rw [this]; exact ih h.2 hx
theorem needOf_some (L : List Lk) (a : Pt) (h : needOf L a ≠ 0) : ∃ x ∈ L, pathOf x = a ∧ x.mode = needOf L a := by
  unfold needOf at h ⊢
  cases hf : L.find? (isAt a) with
  | none => rw [hf] at h; exact absurd rfl h
  | some x => exact ⟨x, List.mem_of_find?_eq_some hf, of_decide_eq_true (show isAt a x = true from List.find?_some hf), rfl⟩
theorem withT_mem (x : Lk) (L : List Lk) (y : Lk) (hy : y ∈ withT x L) : y = x ∨ (y ∈ L) := by
  rcases idxB_spec (isAt (pathOf x)) L with ⟨_, hm⟩ | ⟨k, z, _, hz, hp, hb⟩
  · rw [withT_miss x L hm] at hy
    rcases List.mem_append.1 hy with hy | hy
    · exact .inr hy
    · exact .inl (List.mem_singleton.1 hy)
  · rw [withT_hit x L k z hz hp hb] at hy
    rcases List.mem_or_eq_of_mem_set hy with hy | hy
    · exact .inr hy
    · exact .inl hy
theorem withT_pw (x : Lk) (L : List Lk) (h : L.Pairwise fun a b => pathOf a ≠ pathOf b) : (withT x L).Pairwise fun a b => pathOf a ≠ pathOf b := by
  induction L with
  | nil => exact List.pairwise_singleton _ _
  | cons l r ih =>
    rw [List.pairwise_cons] at h
    unfold withT
    cases hl : isAt (pathOf x) l with
    | true =>
      have e : pathOf l = pathOf x := of_decide_eq_true hl
      rw [if_pos rfl, List.pairwise_cons]
      exact ⟨fun b hb => by rw [← e]; exact h.1 b hb, h.2⟩
    | false =>
      have e : pathOf l ≠ pathOf x := of_decide_eq_false hl
      rw [if_neg (by simp), List.pairwise_cons]
      refine ⟨fun b hb => ?_, ih h.2⟩
      rcases withT_mem x r b hb with rfl | hb
      · exact e
      · exact h.1 b hb
/-- One lock put to right ones, more than what was there: right again. -/
theorem with_right (x : Lk) (L : List Lk) (h : RightL L) (hm : mayP (pathOf x) = true) (h1 : 1 ≤ x.mode) (h6 : x.mode ≤ 6) (hup : 2 ≤ x.dep → covT (needOf L (upOf (pathOf x))) (parT x.mode) = true) (hge : covT x.mode (needOf L (pathOf x)) = true)
    (hne : ∀ a, mayP a = true → 2 ≤ a.dep → upOf a ≠ a) : RightL (withT x L) := by
  refine ⟨fun y hy => ?_, withT_pw x L h.2⟩
  have hcov : ∀ a t, covT (needOf L a) t = true → covT (needOf (withT x L) a) t = true := fun a t ht => by
    rw [needOf_with]
    split
    · rename_i e; rw [e] at ht; exact cov_trans _ _ _ hge ht
    · exact ht
  rcases withT_mem x L y hy with rfl | hy
  · exact ⟨hm, h1, h6, fun hd => hcov _ _ (hup hd)⟩
  · obtain ⟨a1, a2, a3, a4⟩ := h.1 y hy
    exact ⟨a1, a2, a3, fun hd => hcov _ _ (a4 hd)⟩
theorem cov_zero0 (M : Int) : covT M 0 = true := by
  unfold covT
  have h1 := reT_range M
  have h2 := imT_range M
  have e1 : reT 0 = 0 := rfl
  have e2 : imT 0 = 0 := rfl
  rw [e1, e2]; simp; omega
theorem mx_l (i j : Int) : i ≤ mxI i j := by unfold mxI; split <;> omega
theorem mx_r (i j : Int) : j ≤ mxI i j := by unfold mxI; split <;> omega
theorem mx_mono (i j k l : Int) (h1 : i ≤ k) (h2 : j ≤ l) : mxI i j ≤ mxI k l := by unfold mxI; split <;> split <;> omega
theorem par_par (m : Int) : parT (parT m) = parT m := by
  have : ∀ a : Fin 7, parT (parT (a.val : Int)) = parT (a.val : Int) := by decide +kernel
  have h := this (f7 m)
  rw [f7_rt, parT_rt] at h
  exact h
theorem par_zero : parT 0 = 0 := rfl
theorem cov_re (a b : Int) (h : covT a b = true) : reT b ≤ reT a := by
  unfold covT at h
  simp only [Bool.and_eq_true, decide_eq_true_eq] at h
  exact h.1
theorem sup_ge1 (a b : Int) (h : covT a (supT a b) = false) : 1 ≤ supT a b ∧ supT a b ≤ 6 := by
  obtain ⟨h0, h6⟩ := supT_range a b
  refine ⟨?_, h6⟩
  by_cases e : supT a b = 0
  · rw [e, cov_zero0] at h; cases h
  · omega
def levT (L : List Lk) (q : Pt) : Int := (ways q).foldl (fun m a => mxI m (reT (needOf L a))) 0
theorem lev_mono (L M : List Lk) (h : ∀ a, reT (needOf L a) ≤ reT (needOf M a)) (ws : List Pt) (i j : Int) (hij : i ≤ j) : ws.foldl (fun m a => mxI m (reT (needOf L a))) i ≤ ws.foldl (fun m a => mxI m (reT (needOf M a))) j := by
  induction ws generalizing i j with
  | nil => exact hij
  | cons a ws ih =>
    refine ih _ _ ?_
    exact mx_mono _ _ _ _ hij (h a)
theorem lev_ge (L : List Lk) (ws : List Pt) (a : Pt) (ha : a ∈ ws) (i : Int) : reT (needOf L a) ≤ ws.foldl (fun m a => mxI m (reT (needOf L a))) i := by
  have up : ∀ (ws : List Pt) i, i ≤ ws.foldl (fun m a => mxI m (reT (needOf L a))) i := by
    intro ws
    induction ws with
    | nil => intro i; exact Int.le_refl _
    | cons b ws ih => intro i; exact Int.le_trans (mx_l _ _) (ih _)
  induction ws generalizing i with
  | nil => cases ha
  | cons b ws ih =>
    rcases List.mem_cons.1 ha with rfl | ha
    · exact Int.le_trans (mx_r _ _) (up ws _)
    · exact ih ha _
def nowT (L : List Lk) (X : List Lk) : List Lk := X.foldl (fun L x => withT x L) L
theorem nowT_off (X : List Lk) (M : List Lk) (a : Pt) (h : ∀ x ∈ X, pathOf x ≠ a) : needOf (nowT M X) a = needOf M a := by
  induction X generalizing M with
  | nil => rfl
  | cons x X ih =>
    show needOf (nowT (withT x M) X) a = _
    rw [ih _ (fun y hy => h y (by simp [hy])), needOf_with, if_neg (fun e => h x (by simp) e.symm)]
theorem cov_absorb (x y : Int) (h : covT x y = true) : covT x (supT x y) = true := cov_least _ _ _ (cov_self x) h
structure Road (p : Pt) (W : List Pt) : Prop where
  up : ∀ r a s, W = r ++ a :: s → 2 ≤ a.dep → upOf a ∈ r
  last : ∀ r a s, W = r ++ a :: s → a = p → s = []
  may : ∀ a ∈ W, mayP a = true
  ne : ∀ a, mayP a = true → 2 ≤ a.dep → upOf a ≠ a
  nodup : W.Nodup
/-- The plan, put to what is held: every step is right; nothing more is needed; enough is there. -/
theorem plan_run (L : List Lk) (p : Pt) (m : Int) (W : List Pt) (R : Road p W) :
    ∀ (ws pre : List Pt) (M : List Lk), W = pre ++ ws → RightL M → (∀ a ∈ pre, covT (needOf M a) (parT m) = true) → (∀ a ∈ ws, needOf M a = needOf L a) →
      (∀ k, RightL (nowT M ((planW L p m ws).take k))) ∧ planW (nowT M (planW L p m ws)) p m ws = [] ∧ (p ∈ ws → ∃ a ∈ ws, reT m ≤ reT (needOf (nowT M (planW L p m ws)) a)) := by
  intro ws
  induction ws with
  | nil =>
    intro pre M _ hM _ _
    refine ⟨fun k => ?_, rfl, fun h => by cases h⟩
    show RightL (nowT M (([] : List Lk).take k))
    rw [List.take_nil]; exact hM
  | cons a ws ih =>
    intro pre M hW hM hpre hws
    have hamem : a ∈ W := by rw [hW]; simp
    have hma := R.may a hamem
    have hsub : ∀ x ∈ planW L p m ws, pathOf x ≠ a := fun x hx e => by
      have h1 : a ∈ ws := e ▸ (planW_sub L p m ws).subset (List.mem_map_of_mem hx)
      have h2 := R.nodup
      rw [hW, List.nodup_append] at h2
      exact (List.nodup_cons.1 h2.2.1).1 h1
    have hh : needOf M a = needOf L a := hws a (by simp)
    generalize hhad : needOf L a = had at hh
    have hparent : ∀ t, covT (parT had) 0 = true → (2 ≤ a.dep → covT (needOf M (upOf a)) (parT t) = true) → 2 ≤ a.dep → covT (needOf M (upOf a)) (parT (supT had t)) = true := by
      intro t _ ht hd
      rw [par_sup]
      refine cov_least _ _ _ ?_ (ht hd)
      by_cases h0 : had = 0
      · rw [h0, par_zero]; exact cov_zero0 _
      · obtain ⟨x, hx, hp, hmo⟩ := needOf_some M a (by rw [hh]; exact h0)
        obtain ⟨_, _, _, h4⟩ := hM.1 x hx
        rw [hp, hmo, hh] at h4
        exact h4 (by rw [← hp] at hd; exact hd)
    have hstep : ∀ t, covT had (supT had t) = false → (2 ≤ a.dep → covT (needOf M (upOf a)) (parT t) = true) → RightL (withT ⟨a.n0, a.n1, a.n2, a.n3, a.dep, supT had t⟩ M) := by
      intro t hc ht
      obtain ⟨q1, q6⟩ := sup_ge1 had t hc
      refine with_right ⟨a.n0, a.n1, a.n2, a.n3, a.dep, supT had t⟩ M hM hma q1 q6 (hparent t (cov_zero0 _) ht) ?_ R.ne
      show covT (supT had t) (needOf M a) = true
      rw [hh]; exact cov_sup_l _ _
    have hupin : 2 ≤ a.dep → upOf a ∈ pre := fun hd => R.up pre a ws hW hd
    by_cases hap : a = p
    · have hnil : ws = [] := R.last pre a ws hW hap
      subst hnil
      rw [planW_at L p m a [] had hhad hap]
      have hw2 : (2 ≤ a.dep → covT (needOf M (upOf a)) (parT m) = true) := fun hd => hpre _ (hupin hd)
      cases hc : covT had (supT had m) with
      | true =>
        have hcm : covT had m = true := cov_trans _ _ _ hc (cov_sup_r _ _)
        rw [if_pos rfl]
        show (∀ k, RightL (nowT M (([] : List Lk).take k))) ∧ planW M p m [a] = [] ∧ (p ∈ [a] → ∃ b ∈ [a], reT m ≤ reT (needOf M b))
        refine ⟨fun k => by rw [List.take_nil]; exact hM, ?_, fun _ => ⟨a, by simp, by rw [hh]; exact cov_re _ _ hcm⟩⟩
        rw [planW_at M p m a [] had hh hap, hc]; rfl
      | false =>
        have hr := hstep m hc hw2
        rw [if_neg (by simp)]
        have hno : needOf (withT ⟨a.n0, a.n1, a.n2, a.n3, a.dep, supT had m⟩ M) a = supT had m := by rw [needOf_with]; exact if_pos rfl
        show (∀ k, RightL (nowT M ([(⟨a.n0, a.n1, a.n2, a.n3, a.dep, supT had m⟩ : Lk)].take k))) ∧ planW (withT ⟨a.n0, a.n1, a.n2, a.n3, a.dep, supT had m⟩ M) p m [a] = [] ∧ (p ∈ [a] → ∃ b ∈ [a], reT m ≤ reT (needOf (withT ⟨a.n0, a.n1, a.n2, a.n3, a.dep, supT had m⟩ M) b))
        refine ⟨fun k => ?_, ?_, fun _ => ⟨a, by simp, by rw [hno]; exact cov_re _ _ (cov_sup_r _ _)⟩⟩
        · cases k with
          | zero => exact hM
          | succ k => rw [List.take_succ_cons, List.take_nil]; exact hr
        · rw [planW_at _ p m a [] _ hno hap, cov_absorb _ _ (cov_sup_r _ _)]; rfl
    · by_cases hr : reT m ≤ reT had
      · rw [planW_stop L p m a ws had hhad hap hr]
        show (∀ k, RightL (nowT M (([] : List Lk).take k))) ∧ planW M p m (a :: ws) = [] ∧ (p ∈ (a :: ws) → ∃ b ∈ (a :: ws), reT m ≤ reT (needOf M b))
        exact ⟨fun k => by rw [List.take_nil]; exact hM, planW_stop M p m a ws had hh hap hr, fun _ => ⟨a, by simp, by rw [hh]; exact hr⟩⟩
      · rw [planW_go L p m a ws had hhad hap hr]
        have hw2 : (2 ≤ a.dep → covT (needOf M (upOf a)) (parT (parT m)) = true) := fun hd => by rw [par_par]; exact hpre _ (hupin hd)
        cases hc : covT had (supT had (parT m)) with
        | true =>
          have hcp : covT had (parT m) = true := cov_trans _ _ _ hc (cov_sup_r _ _)
          rw [if_pos rfl, List.nil_append]
          obtain ⟨i1, i2, i3⟩ := ih (pre ++ [a]) M (by rw [hW]; simp) hM (fun b hb => by
            rcases List.mem_append.1 hb with hb | hb
            · exact hpre b hb
            · rw [List.mem_singleton.1 hb, hh]; exact hcp) (fun b hb => hws b (by simp [hb]))
          refine ⟨i1, ?_, fun hp => ?_⟩
          · have hN : needOf (nowT M (planW L p m ws)) a = had := by rw [nowT_off _ _ _ hsub, hh]
            rw [planW_go _ p m a ws had hN hap hr, hc, if_pos rfl, i2]; rfl
          · rcases List.mem_cons.1 hp with e | hp
            · exact absurd e.symm hap
            · obtain ⟨b, hb, hbr⟩ := i3 hp
              exact ⟨b, by simp [hb], hbr⟩
        | false =>
          have hrt := hstep (parT m) hc hw2
          rw [if_neg (by simp)]
          obtain ⟨x, hx⟩ : ∃ x : Lk, x = ⟨a.n0, a.n1, a.n2, a.n3, a.dep, supT had (parT m)⟩ := ⟨_, rfl⟩
          have hpx : pathOf x = a := by rw [hx]; rfl
          have hxm : x.mode = supT had (parT m) := by rw [hx]
          rw [← hx] at hrt ⊢
          have hge : covT x.mode (needOf M a) = true := by rw [hxm, hh]; exact cov_sup_l _ _
          have hnd : a ∉ ws := by
            have h2 := R.nodup
            rw [hW, List.nodup_append] at h2
            exact (List.nodup_cons.1 h2.2.1).1
          have hself : needOf (withT x M) a = x.mode := by rw [needOf_with, hpx, if_pos rfl]
          obtain ⟨i1, i2, i3⟩ := ih (pre ++ [a]) (withT x M) (by rw [hW]; simp) hrt (fun b hb => by
            rcases List.mem_append.1 hb with hb | hb
            · rw [needOf_with]
              split
              · rename_i e
                rw [e, hpx] at hb
                have := hpre a hb
                exact cov_trans _ _ _ hge this
              · exact hpre b hb
            · rw [List.mem_singleton.1 hb, hself, hxm]; exact cov_sup_r _ _) (fun b hb => by
            rw [needOf_with, if_neg (fun e => hnd (by rw [hpx] at e; rw [← e]; exact hb))]
            exact hws b (by simp [hb]))
          show (∀ k, RightL (nowT M ((x :: planW L p m ws).take k))) ∧ planW (nowT (withT x M) (planW L p m ws)) p m (a :: ws) = [] ∧ _
          refine ⟨fun k => ?_, ?_, fun hp => ?_⟩
          · cases k with
            | zero => exact hM
            | succ k => rw [List.take_succ_cons]; exact i1 k
          · have hN : needOf (nowT (withT x M) (planW L p m ws)) a = x.mode := by rw [nowT_off _ _ _ hsub, hself]
            by_cases hr2 : reT m ≤ reT x.mode
            · exact planW_stop _ p m a ws x.mode hN hap hr2
            · rw [planW_go _ p m a ws x.mode hN hap hr2, cov_absorb _ _ (by rw [hxm]; exact cov_sup_r _ _), if_pos rfl, i2]; rfl
          · rcases List.mem_cons.1 hp with e | hp
            · exact absurd e.symm hap
            · obtain ⟨b, hb, hbr⟩ := i3 hp
              exact ⟨b, by simp [hb], hbr⟩
theorem front_front (p : Pt) (d e : Nat) (h : e ≤ d) : front (front p d) e = front p e := by
  unfold front
  simp only [Pt.mk.injEq]
  refine ⟨?_, ?_, ?_, ?_, trivial⟩
  · by_cases h0 : 0 < e
    · rw [if_pos h0, if_pos h0, if_pos (by omega)]
    · rw [if_neg h0, if_neg h0]
  · by_cases h0 : 1 < e
    · rw [if_pos h0, if_pos h0, if_pos (by omega)]
    · rw [if_neg h0, if_neg h0]
  · by_cases h0 : 2 < e
    · rw [if_pos h0, if_pos h0, if_pos (by omega)]
    · rw [if_neg h0, if_neg h0]
  · by_cases h0 : 3 < e
    · rw [if_pos h0, if_pos h0, if_pos (by omega)]
    · rw [if_neg h0, if_neg h0]
theorem okAt_of (p : Pt) (h : mayP p = true) (k : Nat) (hk : k < 4) : okAt p k = true := by
  have h4 : okTo p 4 = true := by unfold mayP at h; simp only [Bool.and_eq_true] at h; exact h.2
  cases ho : okAt p k with
  | true => rfl
  | false => rw [okTo_no p k 4 hk ho] at h4; cases h4
theorem num_zero (p : Pt) (h : mayP p = true) (k : Nat) (hk : k < 4) (hd : p.dep ≤ k) : num p k = 0 := by
  have := okAt_of p h k hk
  unfold okAt at this
  simp at this
  rcases this.2 with h2 | h2
  · omega
  · exact h2
theorem front_self (p : Pt) (D : Nat) (h : mayP p = true) (hd : p.dep = D) : front p D = p := by
  have z0 := fun (h' : p.dep ≤ ((0 : Nat) : Int)) => num_zero p h 0 (by omega) h'
  have z1 := fun (h' : p.dep ≤ ((1 : Nat) : Int)) => num_zero p h 1 (by omega) h'
  have z2 := fun (h' : p.dep ≤ ((2 : Nat) : Int)) => num_zero p h 2 (by omega) h'
  have z3 := fun (h' : p.dep ≤ ((3 : Nat) : Int)) => num_zero p h 3 (by omega) h'
  obtain ⟨a, b, c, d, e⟩ := p
  dsimp only [num] at hd z0 z1 z2 z3
  unfold front
  simp only [Pt.mk.injEq]
  refine ⟨?_, ?_, ?_, ?_, hd.symm⟩
  · split
    · rfl
    · exact (z0 (by omega)).symm
  · split
    · rfl
    · exact (z1 (by omega)).symm
  · split
    · rfl
    · exact (z2 (by omega)).symm
  · split
    · rfl
    · exact (z3 (by omega)).symm
theorem num_front (p : Pt) (d k : Nat) : num (front p d) k = if k < d then num p k else 0 := by
  match k with
  | 0 => rfl
  | 1 => rfl
  | 2 => rfl
  | 3 => rfl
  | _ + 4 => simp [num]
theorem may_front (p : Pt) (d D : Nat) (h : mayP p = true) (hd : p.dep = D) (h1 : 1 ≤ d) (h2 : d ≤ D) (h4 : D ≤ 4) : mayP (front p d) = true := by
  have hk : ∀ k, k < 4 → okAt (front p d) k = true := by
    intro k hk
    have h0 := okAt_of p h k hk
    unfold okAt at h0 ⊢
    rw [num_front]
    simp only [Bool.and_eq_true, Bool.not_eq_true', decide_eq_false_iff_not, Int.not_lt, Bool.and_eq_false_iff, Int.not_le, bne_eq_false_iff_eq] at h0 ⊢
    have hdd : (front p d).dep = (d : Int) := rfl
    rw [hdd]
    by_cases hkd : k < d
    · rw [if_pos hkd]; exact ⟨⟨h0.1.1, h0.1.2⟩, .inl (by omega)⟩
    · rw [if_neg hkd]; exact ⟨⟨by omega, by omega⟩, .inr rfl⟩
  unfold mayP
  have e4 : okTo (front p d) 4 = true := by
    unfold okTo okTo okTo okTo okTo
    rw [hk 0 (by omega), hk 1 (by omega), hk 2 (by omega), hk 3 (by omega)]; rfl
  have hdd : (front p d).dep = (d : Int) := rfl
  rw [e4, hdd]
  simp; omega
theorem road (p : Pt) (h : mayP p = true) : Road p (ways p) ∧ p ∈ ways p := by
  obtain ⟨D, hD, h1, h4⟩ := mayP_dep p h
  rw [ways_of p D h hD]
  have hat : ∀ r a s, (List.range D).map (fun i => front p (i + 1)) = r ++ a :: s → a = front p (r.length + 1) ∧ r.length < D := by
    intro r a s he
    have h3 : ((List.range D).map (fun i => front p (i + 1)))[r.length]? = some a := by rw [he]; simp
    have h5 : r.length < D := by
      have := (List.getElem?_eq_some_iff.1 h3).1
      simpa using this
    rw [List.getElem?_map, List.getElem?_range h5] at h3
    exact ⟨(Option.some.inj h3).symm, h5⟩
  refine ⟨⟨?_, ?_, ?_, ?_, ?_⟩, ?_⟩
  · intro r a s he hd
    obtain ⟨rfl, hl⟩ := hat r a s he
    have hr : 1 ≤ r.length := by
      have : ((r.length + 1 : Nat) : Int) ≥ 2 := hd
      omega
    have hu : upOf (front p (r.length + 1)) = front p r.length := by
      unfold upOf
      rw [show (front p (r.length + 1)).dep.toNat - 1 = r.length from by show (((r.length + 1 : Nat) : Int)).toNat - 1 = r.length; omega]
      exact front_front p _ _ (by omega)
    rw [hu]
    have h3 : ((List.range D).map (fun i => front p (i + 1)))[r.length - 1]? = some (front p r.length) := by
      rw [List.getElem?_map, List.getElem?_range (by omega)]
      show some (front p (r.length - 1 + 1)) = _
      rw [Nat.sub_add_cancel hr]
    rw [he, List.getElem?_append_left (by omega)] at h3
    exact List.mem_of_getElem? h3
  · intro r a s he hap
    obtain ⟨ha, hl⟩ := hat r a s he
    have hdep : a.dep = ((r.length + 1 : Nat) : Int) := by rw [ha]; rfl
    rw [hap, hD] at hdep
    have hlen := congrArg List.length he
    simp at hlen
    exact List.eq_nil_of_length_eq_zero (by omega)
  · intro a ha
    obtain ⟨i, hi, rfl⟩ := List.mem_map.1 ha
    have := List.mem_range.1 hi
    exact may_front p (i + 1) D h hD (by omega) (by omega) h4
  · intro a ha h2 e
    obtain ⟨E, hE, _, _⟩ := mayP_dep a ha
    have : (upOf a).dep = a.dep := by rw [e]
    unfold upOf at this
    have h3 : (front a (a.dep.toNat - 1)).dep = ((a.dep.toNat - 1 : Nat) : Int) := rfl
    rw [h3] at this
    omega
  · have := ways_pw p
    rw [ways_of p D h hD] at this
    exact this.imp fun {a b} h e => by rw [e] at h; omega
  · refine List.mem_map.2 ⟨D - 1, List.mem_range.2 (by omega), ?_⟩
    show front p (D - 1 + 1) = p
    rw [Nat.sub_add_cancel h1]
    exact front_self p D h hD
end Go.Proofs.Ythkjkmjcnphjgaa
