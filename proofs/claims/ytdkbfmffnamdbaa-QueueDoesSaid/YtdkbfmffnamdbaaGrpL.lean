/- group: the plain laws. No condition. -/
import Derived.Test.YtdkbfmffnamdbaaGrp
set_option linter.unusedVariables false
set_option linter.unusedSimpArgs false
namespace Go.Proofs.Ytdkbfmffnamdbaa
open Go.RowKit
def modeT (L : List Hd) : Int := grpT (L.map Hd.mode)
theorem cov_zero (M : Int) : covT M 0 = true := by
  unfold covT
  have h1 := reT_range M
  have h2 := imT_range M
  have e1 : reT 0 = 0 := rfl
  have e2 : imT 0 = 0 := rfl
  rw [e1, e2]; simp; omega
theorem grp_le (M : Int) (l : List Int) (h : ∀ x ∈ l, covT M x = true) : covT M (grpT l) = true := by
  have : ∀ (l : List Int) (m : Int), (∀ x ∈ l, covT M x = true) → covT M m = true → covT M (l.foldl supT m) = true := by
    intro l
    induction l with
    | nil => intro m _ hm; exact hm
    | cons x l ih => intro m hx hm; exact ih _ (fun y hy => hx y (by simp [hy])) (cov_least _ _ _ hm (hx x (by simp)))
  exact this l 0 h (cov_zero M)
theorem mode_cov (L : List Hd) (x : Hd) (h : x ∈ L) : covT (modeT L) x.mode = true := grpT_cov _ _ (List.mem_map_of_mem h)
theorem drop_cov (L : List Hd) (tx : Int) : covT (modeT L) (modeT (dropT L tx)) = true := by
  refine grp_le _ _ fun x hx => ?_
  obtain ⟨h, hh, rfl⟩ := List.mem_map.1 hx
  exact mode_cov L h (List.mem_filter.1 hh).1
theorem drop_goes (L : List Hd) (tx m away : Int) (h : goesT L tx m = true) : goesT (dropT L away) tx m = true := by
  unfold goesT at h ⊢
  rw [Bool.not_eq_true', List.any_eq_false] at h ⊢
  exact fun x hx => h x (List.mem_filter.1 hx).1
theorem drop_of (L : List Hd) (tx : Int) : ofT (dropT L tx) tx = 0 := ofT_miss tx _ (fun x hx => by have := (List.mem_filter.1 hx).2; simpa using this)
def okHd1 (x : Hd) : Bool := decide (1 ≤ x.tx) && decide (1 ≤ x.mode) && decide (x.mode ≤ 6)
def fits (x o : Hd) : Bool := !(o.tx == x.tx) && symT o.mode x.mode
theorem symT_comm (a b : Int) : symT a b = symT b a := by unfold symT; rw [Bool.or_comm]
theorem fits_comm (x o : Hd) : fits x o = fits o x := by unfold fits; rw [symT_comm, show (o.tx == x.tx) = (x.tx == o.tx) from by rw [Bool.eq_iff_iff]; simp; exact eq_comm]
def rightT (L : List Hd) : Bool := decide ((∀ x ∈ L, okHd1 x = true) ∧ L.Pairwise fun o x => fits x o = true)
theorem right_iff (L : List Hd) : rightT L = true ↔ (∀ x ∈ L, okHd1 x = true) ∧ L.Pairwise fun o x => fits x o = true := by unfold rightT; simp
theorem right_bad_ok (L : List Hd) (i : Nat) (x : Hd) (hx : L[i]? = some x) (h : okHd1 x = false) : rightT L = false := by
  rw [Bool.eq_false_iff]
  intro hr
  have := ((right_iff L).1 hr).1 x (List.mem_of_getElem? hx)
  rw [h] at this; cases this
theorem right_bad_pair (L : List Hd) (i k : Nat) (x y : Hd) (hx : L[i]? = some x) (hy : L[k]? = some y) (hik : i ≠ k) (h : fits x y = false) : rightT L = false := by
  rw [Bool.eq_false_iff]
  intro hr
  have hp := ((right_iff L).1 hr).2
  rw [List.pairwise_iff_getElem] at hp
  obtain ⟨hi, rfl⟩ := List.getElem?_eq_some_iff.1 hx
  obtain ⟨hk, rfl⟩ := List.getElem?_eq_some_iff.1 hy
  rcases Nat.lt_or_gt_of_ne hik with h1 | h1
  · have := hp i k hi hk h1
    rw [fits_comm] at this; rw [h] at this; cases this
  · have := hp k i hk hi h1
    rw [h] at this; cases this
theorem right_all (L : List Hd) (h : ∀ (i : Nat) x, L[i]? = some x → okHd1 x = true ∧ ∀ o ∈ L.take i, fits x o = true) : rightT L = true := by
  rw [right_iff]
  constructor
  · intro x hx
    obtain ⟨i, hi, rfl⟩ := List.getElem_of_mem hx
    exact (h i _ (List.getElem?_eq_getElem hi)).1
  · rw [List.pairwise_iff_getElem]
    intro i j hi hj hij
    exact (h j _ (List.getElem?_eq_getElem hj)).2 _ (List.mem_take_iff_getElem.2 ⟨i, by omega, rfl⟩)
theorem drop_right (L : List Hd) (tx : Int) (h : rightT L = true) : rightT (dropT L tx) = true := by
  rw [right_iff] at h ⊢
  exact ⟨fun x hx => h.1 x (List.mem_filter.1 hx).1, h.2.filter _⟩
theorem goes_at (L : List Hd) (tx m : Int) (h : goesT L tx m = true) (x : Hd) (hx : x ∈ L) (ht : isTx tx x = false) : comT x.mode m = true := by
  unfold goesT at h
  rw [Bool.not_eq_true', List.any_eq_false] at h
  have := h x hx
  unfold hits at this
  unfold isTx at ht
  simp only [bne, ht, Bool.not_false, Bool.true_and, Bool.not_eq_true, Bool.not_eq_false'] at this
  exact this
theorem set_right (L : List Hd) (tx m : Int) (h : rightT L = true) (h1 : 1 ≤ tx) (h2 : 1 ≤ m) (h3 : m ≤ 6) (hg : goesT L tx m = true) : rightT (setT tx m L) = true ∧ ofT (setT tx m L) tx = m := by
  have hok : okHd1 ⟨tx, m⟩ = true := by unfold okHd1; simp; omega
  have hfit : ∀ x ∈ L, isTx tx x = false → fits ⟨tx, m⟩ x = true := fun x hx ht => by
    unfold fits symT
    rw [goes_at L tx m hg x hx ht]
    unfold isTx at ht
    simp [ht]
  rw [right_iff] at h
  rcases idxB_spec (isTx tx) L with ⟨_, hm⟩ | ⟨k, x, _, hx, hp, hb⟩
  · rw [setT_miss tx m L hm]
    constructor
    · rw [right_iff]
      refine ⟨fun y hy => ?_, ?_⟩
      · rcases List.mem_append.1 hy with hy | hy
        · exact h.1 y hy
        · rw [List.mem_singleton.1 hy]; exact hok
      · rw [List.pairwise_append]
        refine ⟨h.2, by simp, fun a ha b hb => ?_⟩
        rw [List.mem_singleton.1 hb]
        exact hfit a ha (hm a ha)
    · have e : (L ++ [(⟨tx, m⟩ : Hd)])[L.length]? = some ⟨tx, m⟩ := by simp
      rw [ofT_hit tx _ L.length ⟨tx, m⟩ e (by simp [isTx]) (fun y hy => by rw [List.take_left] at hy; exact hm y hy)]
  · have htx : x.tx = tx := by unfold isTx at hp; simpa using hp
    rw [setT_hit tx m L k x hx hp hb, htx]
    obtain ⟨hk, hxe⟩ := List.getElem?_eq_some_iff.1 hx
    have hpw := List.pairwise_iff_getElem.1 h.2
    have huniq : ∀ (j : Nat) (hj : j < L.length), j ≠ k → isTx tx L[j] = false := by
      intro j hj hjk
      have hf : fits L[j] x = true := by
        rcases Nat.lt_or_gt_of_ne hjk with h4 | h4
        · have := hpw j k hj hk h4; rw [hxe, fits_comm] at this; exact this
        · have := hpw k j hk hj h4; rw [hxe] at this; exact this
      unfold fits at hf
      rw [htx] at hf
      unfold isTx
      cases hq : (L[j].tx == tx) with
      | false => rfl
      | true =>
        have : tx = L[j].tx := (by simpa using hq : L[j].tx = tx).symm
        rw [← this] at hf
        simp at hf
    constructor
    · rw [right_iff]
      refine ⟨fun y hy => ?_, ?_⟩
      · rcases List.mem_or_eq_of_mem_set hy with hy | hy
        · exact h.1 y hy
        · rw [hy]; exact hok
      · rw [List.pairwise_iff_getElem]
        intro i j hi hj hij
        simp only [List.length_set] at hi hj
        rw [List.getElem_set, List.getElem_set]
        by_cases e1 : k = i
        · subst e1
          rw [if_pos rfl, if_neg (by omega), fits_comm]
          exact hfit _ (List.getElem_mem hj) (huniq j hj (by omega))
        · rw [if_neg e1]
          by_cases e2 : k = j
          · subst e2
            rw [if_pos rfl]
            exact hfit _ (List.getElem_mem hi) (huniq i hi (by omega))
          · rw [if_neg e2]; exact hpw i j hi hj hij
    · have e : (L.set k (⟨tx, m⟩ : Hd))[k]? = some ⟨tx, m⟩ := List.getElem?_set_self hk
      rw [ofT_hit tx _ k ⟨tx, m⟩ e (by simp [isTx]) (fun y hy => by rw [List.take_set_of_le (Nat.le_refl _)] at hy; exact hb y hy)]
end Go.Proofs.Ytdkbfmffnamdbaa
