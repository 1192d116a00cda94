/- An arena's free list: what holds of the places, whatever is taken and freed. No condition. -/
import Derived.Test.YtgdghinconghgaaArenaU
set_option linter.unusedVariables false
set_option linter.unusedSimpArgs false
namespace Go.Proofs.Ytgdghinconghgaa
open Go.RowKit (wrap32 wrap64)
open Go.RowKit
/-- From place f on the free ones stand in the order F. -/
def linkF (L : List Pl) (f : Int) : List Nat → Prop
  | [] => f = L.length
  | k :: F => f = k ∧ ∃ p, L[k]? = some p ∧ p.used = false ∧ linkF L p.next F
structure AInv (L : List Pl) (f u : Int) (F : List Nat) : Prop where
  link : linkF L f F
  nd : F.Nodup
  mem : ∀ (i : Nat) (p : Pl), L[i]? = some p → (p.used = false ↔ i ∈ F)
  lt : ∀ i ∈ F, i < L.length
  cnt : ((L.countP (fun p => p.used) : Nat) : Int) = u
  sum : u + F.length = L.length
theorem linkF_set (L : List Pl) (F : List Nat) (f : Int) (k : Nat) (q : Pl) (h : linkF L f F) (hk : k ∉ F) : linkF (L.set k q) f F := by
  induction F generalizing f with
  | nil => show f = (L.set k q).length; rw [List.length_set]; exact h
  | cons i F ih =>
    obtain ⟨hf, p, hp, hu, hl⟩ := h
    have hik : k ≠ i := fun e => hk (by rw [e]; simp)
    exact ⟨hf, p, by rw [List.getElem?_set_ne hik]; exact hp, hu, ih p.next hl (fun hm => hk (by simp [hm]))⟩
theorem countP_set' (L : List Pl) (k : Nat) (p q : Pl) (hp : L[k]? = some p) : (((L.set k q).countP (fun p => p.used) : Nat) : Int) = ((L.countP (fun p => p.used) : Nat) : Int) - (if p.used then 1 else 0) + (if q.used then 1 else 0) := by
  induction L generalizing k with
  | nil => simp at hp
  | cons x L ih =>
    cases k with
    | zero =>
      simp at hp; subst hp
      rw [List.set_cons_zero, List.countP_cons, List.countP_cons]
      cases x.used <;> cases q.used <;> simp <;> omega
    | succ k =>
      simp at hp
      have := ih k hp
      rw [List.set_cons_succ, List.countP_cons, List.countP_cons]
      cases x.used <;> simp <;> omega
theorem AInv.take {L : List Pl} {u : Int} {k : Nat} {F : List Nat} {f : Int} (h : AInv L f u (k :: F)) (x : Int) :
    f = k ∧ ∃ p, L[k]? = some p ∧ (0 ≤ u ∧ u < L.length) ∧ AInv (L.set k ⟨x, true, 0⟩) p.next (u + 1) F := by
  obtain ⟨hf, p, hp, hu, hl⟩ := h.link
  have hnd := List.nodup_cons.1 h.nd
  have hs := h.sum
  have hc := h.cnt
  simp only [List.length_cons] at hs
  refine ⟨hf, p, hp, ⟨by omega, by omega⟩, ⟨linkF_set L F _ k _ hl hnd.1, hnd.2, ?_, ?_, ?_, by rw [List.length_set]; omega⟩⟩
  · intro i q hq
    by_cases e : i = k
    · subst e
      rw [List.getElem?_set_self (List.getElem?_eq_some_iff.1 hp).1] at hq
      injection hq with hq; subst hq
      simp [hnd.1]
    · rw [List.getElem?_set_ne (fun z => e z.symm)] at hq
      rw [h.mem i q hq, List.mem_cons]
      simp [e]
  · intro i hi
    rw [List.length_set]
    exact h.lt i (by simp [hi])
  · rw [countP_set' L k p _ hp, hu, hc]; simp
theorem AInv.none_left {L : List Pl} {f u : Int} (h : AInv L f u []) : u = L.length := by have := h.sum; simpa using this
theorem AInv.free {L : List Pl} {f u : Int} {F : List Nat} (h : AInv L f u F) (k : Nat) (p : Pl) (hp : L[k]? = some p) (hu : p.used = true) :
    (1 ≤ u ∧ u ≤ L.length) ∧ AInv (L.set k ⟨0, false, f⟩) k (u - 1) (k :: F) := by
  have hkF : k ∉ F := fun hm => by have := (h.mem k p hp).2 hm; rw [hu] at this; cases this
  have hs := h.sum
  have hc := h.cnt
  have hk : k < L.length := (List.getElem?_eq_some_iff.1 hp).1
  have h1 : 1 ≤ u := by
    have : 0 < L.countP (fun p => p.used) := List.countP_pos_iff.2 ⟨p, List.mem_of_getElem? hp, hu⟩
    omega
  refine ⟨⟨h1, by omega⟩, ⟨⟨rfl, ⟨0, false, f⟩, List.getElem?_set_self hk, rfl, linkF_set L F f k _ h.link hkF⟩, List.nodup_cons.2 ⟨hkF, h.nd⟩, ?_, ?_, ?_, by rw [List.length_set, List.length_cons]; omega⟩⟩
  · intro i q hq
    by_cases e : i = k
    · subst e
      rw [List.getElem?_set_self hk] at hq
      injection hq with hq; subst hq
      simp
    · rw [List.getElem?_set_ne (fun z => e z.symm)] at hq
      rw [h.mem i q hq, List.mem_cons]
      simp [e]
  · intro i hi
    rw [List.length_set]
    rcases List.mem_cons.1 hi with rfl | hi
    · exact hk
    · exact h.lt i hi
  · rw [countP_set' L k p _ hp, hu, hc]; simp
theorem AInv.setx {L : List Pl} {f u : Int} {F : List Nat} (h : AInv L f u F) (i x : Int) : AInv (setA L i x) f u F := by
  unfold setA
  cases hu : usA L i with
  | none => exact h
  | some p =>
    obtain ⟨k, rfl, hp, hpu⟩ := usA_some L i p hu
    have hkF : k ∉ F := fun hm => by have := (h.mem k p hp).2 hm; rw [hpu] at this; cases this
    rw [Int.toNat_natCast]
    refine ⟨linkF_set L F f k _ h.link hkF, h.nd, ?_, ?_, ?_, by rw [List.length_set]; exact h.sum⟩
    · intro i q hq
      by_cases e : i = k
      · subst e
        rw [List.getElem?_set_self (List.getElem?_eq_some_iff.1 hp).1] at hq
        injection hq with hq; subst hq
        exact h.mem i p hp
      · rw [List.getElem?_set_ne (fun z => e z.symm)] at hq
        exact h.mem i q hq
    · intro i hi
      rw [List.length_set]
      exact h.lt i hi
    · rw [countP_set' L k p _ hp, h.cnt]; simp
theorem linkF_fresh (M k : Nat) (hk : k ≤ M) : linkF (freshTo M M) k (List.range' k (M - k)) := by
  generalize hd : M - k = d
  induction d generalizing k with
  | zero => show (k : Int) = (freshTo M M).length; rw [freshTo_len]; omega
  | succ d ih =>
    rw [List.range'_succ]
    have hp := freshTo_get M M k (by omega)
    rw [if_pos (by omega)] at hp
    refine ⟨rfl, _, hp, rfl, ?_⟩
    have := ih (k + 1) (by omega) (by omega)
    simpa using this
theorem AInv.fresh (M : Nat) : AInv (freshTo M M) 0 0 (List.range M) := by
  have hr : List.range M = List.range' 0 (M - 0) := by rw [List.range_eq_range']; rfl
  refine ⟨by rw [hr]; exact linkF_fresh M 0 (by omega), List.nodup_range, ?_, ?_, ?_, by rw [freshTo_len]; simp⟩
  · intro i p hp
    have hi : i < M := by have := (List.getElem?_eq_some_iff.1 hp).1; rw [freshTo_len] at this; exact this
    rw [freshTo_get M M i hi, if_pos hi] at hp
    injection hp with hp; subst hp
    simp [hi]
  · intro i hi
    rw [freshTo_len]; exact List.mem_range.1 hi
  · have : (freshTo M M).countP (fun p => p.used) = 0 := by
      rw [List.countP_eq_zero]
      intro p hp
      unfold freshTo at hp
      obtain ⟨i, _, rfl⟩ := List.mem_map.1 hp
      split <;> simp
    rw [this]; rfl
theorem usedTo_cnt (L : List Pl) (k : Nat) (hk : k ≤ L.length) : (usedTo L k).length = (L.take k).countP (fun p => p.used) := by
  induction k with
  | zero => rfl
  | succ k ih =>
    have hp : L[k]? = some L[k] := List.getElem?_eq_getElem (by omega)
    have hu := usA_at L k _ hp
    rw [List.take_succ_eq_append_getElem (by omega), List.countP_append, ← ih (by omega)]
    show (match usA L k with | some p => usedTo L k ++ [(k, p.x)] | none => usedTo L k).length = _
    rw [hu]
    cases hq : L[k].used <;> simp [hq]
theorem AInv.len {L : List Pl} {f u : Int} {F : List Nat} (h : AInv L f u F) : ((usedTo L L.length).length : Int) = u := by
  rw [usedTo_cnt L _ (Nat.le_refl _), List.take_length, h.cnt]
end Go.Proofs.Ytgdghinconghgaa
