/- chain: the plain law of Cut: the row without the place. No condition. -/
import Derived.Test.YthkjkmjcnphjgaaChn
set_option linter.unusedVariables false
set_option linter.unusedSimpArgs false
namespace Go.Proofs.Ythkjkmjcnphjgaa
def cutT (T : List Ln) (i : Nat) (back next : Int) : List Ln := (setBack (setNext T back next) next back).set i ⟨-1, -1, -1⟩
def cutE (E : List En) (row : Nat) (back next : Int) : List En := E.modify row fun e => ⟨if back = -1 then next else e.first, if next = -1 then back else e.last⟩
theorem cutT_at (T : List Ln) (A B : List Nat) (i k : Nat) (hi : i < T.length) : (cutT T i (laI A) (hdI B))[k]? = if i = k then some ⟨-1, -1, -1⟩ else (T[k]?).map fun y => ⟨y.row, if hdI B = k then laI A else y.back, if laI A = k then hdI B else y.next⟩ := by
  unfold cutT
  rw [List.getElem?_set, setBack_len, setNext_len, if_pos hi, setBack_at _ _ _ (hdI_ge _), setNext_at _ _ _ (laI_ge _)]
  split
  · rfl
  · cases T[k]? with
    | none => rfl
    | some y =>
      simp only [Option.map_some]
      by_cases h1 : laI A = k <;> by_cases h2 : hdI B = k <;> simp [h1, h2]
theorem cut_law {T : List Ln} {E : List En} {R : List (List Nat)} {n : Nat} (h : Rel T E R n) (A B : List Nat) (row i : Nat) (hr : R[row]? = some (A ++ i :: B)) :
    Rel (cutT T i (laI A) (hdI B)) (cutE E row (laI A) (hdI B)) (R.set row (A ++ B)) n := by
  have hall := h.lt _ (List.mem_of_getElem? hr)
  have hi : i < n := hall i (by simp)
  have hrow : row < n := by rw [← h.rl]; exact (List.getElem?_eq_some_iff.1 hr).1
  have hnd := h.nd _ (List.mem_of_getElem? hr)
  have hnd2 := hnd
  rw [List.nodup_append] at hnd2
  have hiA : i ∉ A := fun e => hnd2.2.2 i e i (by simp) rfl
  have hiB : i ∉ B := (List.nodup_cons.1 hnd2.2.1).1
  have hndB := (List.nodup_cons.1 hnd2.2.1).2
  have hset : ∀ (r : Nat) l, (R.set row (A ++ B))[r]? = some l → (r = row ∧ l = A ++ B) ∨ (r ≠ row ∧ R[r]? = some l) := by
    intro r l hl
    rw [List.getElem?_set] at hl
    split at hl
    · rename_i e
      rw [h.rl, if_pos hrow] at hl
      injection hl with hl
      exact .inl ⟨e.symm, hl.symm⟩
    · rename_i e
      exact .inr ⟨fun e' => e e'.symm, hl⟩
  have hmem : ∀ l ∈ R.set row (A ++ B), l = A ++ B ∨ (l ∈ R) := fun l hl => by
    rcases List.mem_or_eq_of_mem_set hl with h | h
    · exact .inr h
    · exact .inl h
  have hsub : ∀ k, k ∈ A ++ B → k ∈ A ++ i :: B := fun k hk => by
    rcases List.mem_append.1 hk with h | h
    · exact List.mem_append_left _ h
    · exact List.mem_append_right _ (List.mem_cons_of_mem _ h)
  refine ⟨by unfold cutT; rw [List.length_set, setBack_len, setNext_len, h.tl], by unfold cutE; rw [List.length_modify, h.el], by rw [List.length_set, h.rl], ?_, ?_, ?_, ?_, ?_⟩
  · intro l hl k hk
    rcases hmem l hl with rfl | hl
    · exact hall k (hsub k hk)
    · exact h.lt l hl k hk
  · intro l hl
    rcases hmem l hl with rfl | hl
    · rw [List.nodup_append]
      exact ⟨hnd2.1, hndB, fun a ha b hb => hnd2.2.2 a ha b (List.mem_cons_of_mem _ hb)⟩
    · exact h.nd l hl
  · intro r l hl
    unfold cutE
    rw [List.getElem?_modify]
    rcases hset r l hl with ⟨rfl, rfl⟩ | ⟨hne, hl⟩
    · rw [h.ends r _ hr]
      simp only [if_pos, Option.map_eq_map, Option.map_some]
      congr 2
      · split
        · rename_i e
          rw [laI_nil] at e; subst e; rfl
        · rename_i e
          rw [laI_nil] at e
          cases A with
          | nil => exact absurd rfl e
          | cons x A => rfl
      · split
        · rename_i e
          rw [hdI_nil] at e; subst e; rw [List.append_nil]
        · rename_i e
          rw [hdI_nil] at e
          rw [laI_app _ _ e, show A ++ i :: B = (A ++ [i]) ++ B by simp, laI_app _ _ e]
    · rw [h.ends r l hl]
      simp only [Option.map_eq_map, Option.map_some, if_neg (fun e : row = r => hne e.symm)]
  · intro r A' k B' hl
    have hki : i ≠ k := by
      rintro rfl
      rcases hset r _ hl with ⟨_, e⟩ | ⟨hne, hl⟩
      · have : i ∈ A ++ B := by rw [← e]; simp
        rcases List.mem_append.1 this with h | h
        · exact hiA h
        · exact hiB h
      · exact hne (h.one hl hr (i := i) (by simp) (by simp))
    rw [cutT_at _ _ _ _ _ (by rw [h.tl]; exact hi), if_neg hki]
    rcases hset r _ hl with ⟨rfl, e⟩ | ⟨hne, hl⟩
    · rcases List.append_eq_append_iff.1 e with ⟨C, hC1, hC2⟩ | ⟨C, hC1, hC2⟩
      · cases C with
        | nil =>
          simp only [List.nil_append, List.append_nil] at hC1 hC2
          subst hC1
          subst hC2
          rw [h.at' r (A ++ [i]) k B' (by rw [hr]; simp)]
          have hA : ¬ laI A = k := fun e => hnd2.2.2 k (laI_mem A k e) k (by simp) rfl
          simp only [Option.map_some, if_neg hA]
          rw [if_pos (show hdI (k :: B') = k from rfl)]
        | cons c C =>
          simp only [List.cons_append, List.cons.injEq] at hC2
          obtain ⟨rfl, rfl⟩ := hC2
          subst hC1
          rw [h.at' r A' k (C ++ i :: B) (by rw [hr]; simp)]
          have hB : ¬ hdI B = k := fun e => hnd2.2.2 k (by simp) k (List.mem_cons_of_mem _ (hdI_mem B k e)) rfl
          simp only [Option.map_some, if_neg hB]
          cases C with
          | nil => rw [if_pos (laI_one A' k)]; rfl
          | cons d C =>
            have hA : ¬ laI (A' ++ k :: d :: C) = k := fun e => by
              rw [show A' ++ k :: d :: C = (A' ++ [k]) ++ d :: C by simp, laI_app _ _ (by simp)] at e
              have hk := laI_mem _ k e
              have h1 := hnd2.1
              rw [List.nodup_append] at h1
              exact (List.nodup_cons.1 h1.2.1).1 hk
            rw [if_neg hA]; rfl
      · subst hC1
        subst hC2
        rw [h.at' r (A ++ i :: C) k B' (by rw [hr]; simp)]
        have hA : ¬ laI A = k := fun e => hnd2.2.2 k (laI_mem A k e) k (by simp) rfl
        simp only [Option.map_some, if_neg hA]
        cases C with
        | nil => rw [if_pos (show hdI ([] ++ k :: B') = k from rfl)]; simp
        | cons d C =>
          have hB : ¬ hdI (d :: C ++ k :: B') = k := fun e => by
            have e' : (d : Int) = k := e
            have e2 : d = k := by omega
            subst e2
            rw [List.cons_append] at hndB
            exact (List.nodup_cons.1 hndB).1 (by simp)
          rw [if_neg hB, show A ++ i :: d :: C = (A ++ [i]) ++ d :: C by simp, laI_app (A ++ [i]) (d :: C) (by simp), laI_app A (d :: C) (by simp)]
    · have hA : ¬ laI A = k := fun e => hne (h.one hl hr (i := k) (by simp) (List.mem_append_left _ (laI_mem A k e)))
      have hB : ¬ hdI B = k := fun e => hne (h.one hl hr (i := k) (by simp) (List.mem_append_right _ (List.mem_cons_of_mem _ (hdI_mem B k e))))
      rw [h.at' r A' k B' hl]
      simp only [Option.map_some, if_neg hA, if_neg hB]
  · intro k hk hn
    rw [cutT_at _ _ _ _ _ (by rw [h.tl]; exact hi)]
    split
    · rfl
    · rename_i hki
      have hno : ∀ l ∈ R, k ∉ l := by
        intro l hl hkl
        obtain ⟨r, hrr, hre⟩ := List.getElem_of_mem hl
        by_cases e : r = row
        · subst e
          have : l = A ++ i :: B := by
            have := hr
            rw [List.getElem?_eq_getElem hrr, hre] at this
            injection this
          rw [this] at hkl
          refine hn (A ++ B) (List.mem_of_getElem? (by rw [List.getElem?_set, if_pos rfl, if_pos hrr])) ?_
          rcases List.mem_append.1 hkl with h | h
          · exact List.mem_append_left _ h
          · rcases List.mem_cons.1 h with rfl | h
            · exact absurd rfl hki
            · exact List.mem_append_right _ h
        · exact hn l (List.mem_of_getElem? (by rw [List.getElem?_set, if_neg (fun e' => e e'.symm), List.getElem?_eq_getElem hrr, hre])) hkl
      have hA : ¬ laI A = k := fun e => hno _ (List.mem_of_getElem? hr) (List.mem_append_left _ (laI_mem A k e))
      have hB : ¬ hdI B = k := fun e => hno _ (List.mem_of_getElem? hr) (List.mem_append_right _ (List.mem_cons_of_mem _ (hdI_mem B k e)))
      rw [h.off k hk hno]
      simp only [Option.map_some, if_neg hA, if_neg hB]
theorem List.map_erase_set (R : List (List Nat)) (row i : Nat) (A B : List Nat) (hr : R[row]? = some (A ++ i :: B)) (hA : i ∉ A) (hno : ∀ (r : Nat) l, r ≠ row → R[r]? = some l → i ∉ l) : R.map (fun l => l.erase i) = R.set row (A ++ B) := by
  apply List.ext_getElem?
  intro j
  rw [List.getElem?_map, List.getElem?_set]
  by_cases e : row = j
  · subst e
    rw [if_pos rfl, if_pos (List.getElem?_eq_some_iff.1 hr).1, hr, Option.map_some, List.erase_append_right _ hA, List.erase_cons_head]
  · rw [if_neg e]
    cases hj : R[j]? with
    | none => rfl
    | some l => rw [Option.map_some, List.erase_of_not_mem (hno j l (fun e' => e e'.symm) hj)]
theorem Rel.cut {T : List Ln} {E : List En} {R : List (List Nat)} {n : Nat} (h : Rel T E R n) (A B : List Nat) (row i : Nat) (hr : R[row]? = some (A ++ i :: B)) : R.map (fun l => l.erase i) = R.set row (A ++ B) := by
  refine List.map_erase_set R row i A B hr ?_ (fun r l hne hl hm => hne (h.one hl hr hm (by simp)))
  have hnd := h.nd _ (List.mem_of_getElem? hr)
  rw [List.nodup_append] at hnd
  exact fun e => hnd.2.2 i e i (by simp) rfl
end Go.Proofs.Ythkjkmjcnphjgaa
