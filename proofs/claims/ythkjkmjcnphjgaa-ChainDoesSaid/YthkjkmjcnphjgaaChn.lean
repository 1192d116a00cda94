/- chain: the plain law: what stands in the two tables is what the rows say. No condition. -/
import Derived.Test.YthkjkmjcnphjgaaRecF
set_option linter.unusedVariables false
set_option linter.unusedSimpArgs false
namespace Go.Proofs.Ythkjkmjcnphjgaa
structure Ln where
  row : Int
  back : Int
  next : Int
  deriving DecidableEq, Inhabited
structure En where
  first : Int
  last : Int
  deriving DecidableEq, Inhabited
def hdI : List Nat → Int
  | [] => -1
  | x :: _ => x
def laI (l : List Nat) : Int := hdI l.reverse
theorem hdI_app (C D : List Nat) (x : Nat) : hdI ((x :: C) ++ D) = x := rfl
theorem laI_app (A C : List Nat) (h : C ≠ []) : laI (A ++ C) = laI C := by
  unfold laI
  rw [List.reverse_append]
  cases hc : C.reverse with
  | nil => exact absurd (by simpa using hc) h
  | cons y l => rfl
theorem laI_one (A : List Nat) (x : Nat) : laI (A ++ [x]) = x := by unfold laI; rw [List.reverse_append]; rfl
theorem hdI_mem (l : List Nat) (k : Nat) (h : hdI l = k) : k ∈ l := by
  cases l with
  | nil => exact absurd h (by show ¬ ((-1 : Int) = (k : Int)); omega)
  | cons x l => have : (x : Int) = k := h; rw [show k = x by omega]; exact List.mem_cons_self
theorem laI_mem (l : List Nat) (k : Nat) (h : laI l = k) : k ∈ l := List.mem_reverse.1 (hdI_mem _ k h)
theorem hdI_ge (l : List Nat) : -1 ≤ hdI l := by
  cases l with
  | nil => exact Int.le_refl _
  | cons x l => show (-1 : Int) ≤ (x : Int); omega
theorem hdI_nil (l : List Nat) : hdI l = -1 ↔ l = [] := by
  cases l with
  | nil => exact ⟨fun _ => rfl, fun _ => rfl⟩
  | cons x l => exact ⟨fun h => by have : (x : Int) = -1 := h; omega, fun h => by cases h⟩
theorem laI_nil (l : List Nat) : laI l = -1 ↔ l = [] := by unfold laI; rw [hdI_nil]; simp
/-- What stands in the two tables is what the rows R say. -/
structure Rel (T : List Ln) (E : List En) (R : List (List Nat)) (n : Nat) : Prop where
  tl : T.length = n
  el : E.length = n
  rl : R.length = n
  lt : ∀ l ∈ R, ∀ i ∈ l, i < n
  nd : ∀ l ∈ R, l.Nodup
  ends : ∀ (r : Nat) l, R[r]? = some l → E[r]? = some ⟨hdI l, laI l⟩
  at' : ∀ (r : Nat) A i B, R[r]? = some (A ++ i :: B) → T[i]? = some ⟨r, laI A, hdI B⟩
  off : ∀ i, i < n → (∀ l ∈ R, i ∉ l) → T[i]? = some ⟨-1, -1, -1⟩
theorem Rel.one {T : List Ln} {E : List En} {R : List (List Nat)} {n : Nat} (h : Rel T E R n) {r s : Nat} {l m : List Nat} (hr : R[r]? = some l) (hs : R[s]? = some m) {i : Nat} (hl : i ∈ l) (hm : i ∈ m) : r = s := by
  obtain ⟨A, B, rfl⟩ := List.append_of_mem hl
  obtain ⟨C, D, rfl⟩ := List.append_of_mem hm
  have h1 := h.at' r A i B hr
  rw [h.at' s C i D hs] at h1
  injection h1 with h1
  injection h1 with h1 _ _
  omega
def setNext (T : List Ln) (j v : Int) : List Ln := if j = -1 then T else T.modify j.toNat fun y => ⟨y.row, y.back, v⟩
def setBack (T : List Ln) (j v : Int) : List Ln := if j = -1 then T else T.modify j.toNat fun y => ⟨y.row, v, y.next⟩
theorem setNext_at (T : List Ln) (j v : Int) (hj : -1 ≤ j) (k : Nat) : (setNext T j v)[k]? = (T[k]?).map fun y => if j = k then ⟨y.row, y.back, v⟩ else y := by
  unfold setNext
  split
  · rename_i e
    have : ¬ (j = (k : Int)) := by omega
    cases T[k]? <;> simp [this]
  · have e : (j.toNat = k) = (j = (k : Int)) := propext ⟨fun _ => by omega, fun _ => by omega⟩
    rw [List.getElem?_modify]
    simp only [e]
    cases T[k]? <;> rfl
theorem setBack_at (T : List Ln) (j v : Int) (hj : -1 ≤ j) (k : Nat) : (setBack T j v)[k]? = (T[k]?).map fun y => if j = k then ⟨y.row, v, y.next⟩ else y := by
  unfold setBack
  split
  · rename_i e
    have : ¬ (j = (k : Int)) := by omega
    cases T[k]? <;> simp [this]
  · have e : (j.toNat = k) = (j = (k : Int)) := propext ⟨fun _ => by omega, fun _ => by omega⟩
    rw [List.getElem?_modify]
    simp only [e]
    cases T[k]? <;> rfl
theorem setNext_len (T : List Ln) (j v : Int) : (setNext T j v).length = T.length := by unfold setNext; split <;> simp
theorem setBack_len (T : List Ln) (j v : Int) : (setBack T j v).length = T.length := by unfold setBack; split <;> simp
def layT (T : List Ln) (row back i next : Int) : List Ln := setBack (setNext (T.set i.toNat ⟨row, back, next⟩) back i) next i
def layE (E : List En) (row : Nat) (back i next : Int) : List En := E.modify row fun e => ⟨if back = -1 then i else e.first, if next = -1 then i else e.last⟩
theorem laI_ge (l : List Nat) : -1 ≤ laI l := hdI_ge _
theorem layT_at (T : List Ln) (row : Int) (A B : List Nat) (i k : Nat) (hi : i < T.length) : (layT T row (laI A) i (hdI B))[k]? = (if i = k then some ⟨row, laI A, hdI B⟩ else T[k]?).map fun y => ⟨y.row, if hdI B = k then (i : Int) else y.back, if laI A = k then (i : Int) else y.next⟩ := by
  unfold layT
  rw [setBack_at _ _ _ (hdI_ge _), setNext_at _ _ _ (laI_ge _), List.getElem?_set]
  have e : (i : Int).toNat = i := by omega
  rw [e]
  have e2 : (if i = k then if i < T.length then some (⟨row, laI A, hdI B⟩ : Ln) else none else T[k]?) = if i = k then some ⟨row, laI A, hdI B⟩ else T[k]? := by
    split
    · rfl
    · rfl
  rw [e2]
  cases (if i = k then some (⟨row, laI A, hdI B⟩ : Ln) else T[k]?) with
  | none => rfl
  | some y =>
    simp only [Option.map_some]
    by_cases h1 : laI A = k <;> by_cases h2 : hdI B = k <;> simp [h1, h2]
theorem lay_law {T : List Ln} {E : List En} {R : List (List Nat)} {n : Nat} (h : Rel T E R n) (A B : List Nat) (row i : Nat) (hr : R[row]? = some (A ++ B)) (hi : i < n) (hf : ∀ l ∈ R, i ∉ l) :
    Rel (layT T row (laI A) i (hdI B)) (layE E row (laI A) i (hdI B)) (R.set row (A ++ i :: B)) n := by
  have hAB := hf _ (List.mem_of_getElem? hr)
  have hrow : row < n := by rw [← h.rl]; exact (List.getElem?_eq_some_iff.1 hr).1
  have hnd := h.nd _ (List.mem_of_getElem? hr)
  have hiA : ∀ k : Nat, laI A = k → k ≠ i := fun k e hk => hAB (by rw [← hk]; exact List.mem_append_left _ (laI_mem A k e))
  have hiB : ∀ k : Nat, hdI B = k → k ≠ i := fun k e hk => hAB (by rw [← hk]; exact List.mem_append_right _ (hdI_mem B k e))
  have hset : ∀ (r : Nat) l, (R.set row (A ++ i :: B))[r]? = some l → (r = row ∧ l = A ++ i :: B) ∨ (r ≠ row ∧ R[r]? = some l) := by
    intro r l hl
    rw [List.getElem?_set] at hl
    split at hl
    · rename_i e
      rw [h.rl, if_pos hrow] at hl
      injection hl with hl
      exact .inl ⟨e.symm, hl.symm⟩
    · rename_i e
      exact .inr ⟨fun e' => e e'.symm, hl⟩
  have hmem : ∀ l ∈ R.set row (A ++ i :: B), l = A ++ i :: B ∨ (l ∈ R) := fun l hl => by
    rcases List.mem_or_eq_of_mem_set hl with h | h
    · exact .inr h
    · exact .inl h
  have hself : (layT T row (laI A) i (hdI B))[i]? = some ⟨row, laI A, hdI B⟩ := by
    rw [layT_at _ _ _ _ _ _ (by rw [h.tl]; exact hi), if_pos rfl]
    simp only [Option.map_some]
    rw [if_neg (fun e => hiB i e rfl), if_neg (fun e => hiA i e rfl)]
  refine ⟨by unfold layT; rw [setBack_len, setNext_len, List.length_set, h.tl], by unfold layE; rw [List.length_modify, h.el], by rw [List.length_set, h.rl], ?_, ?_, ?_, ?_, ?_⟩
  · intro l hl k hk
    rcases hmem l hl with rfl | hl
    · rcases List.mem_append.1 hk with hk | hk
      · exact h.lt _ (List.mem_of_getElem? hr) k (List.mem_append_left _ hk)
      · rcases List.mem_cons.1 hk with rfl | hk
        · exact hi
        · exact h.lt _ (List.mem_of_getElem? hr) k (List.mem_append_right _ hk)
    · exact h.lt l hl k hk
  · intro l hl
    rcases hmem l hl with rfl | hl
    · rw [List.nodup_append] at hnd ⊢
      rw [List.mem_append, not_or] at hAB
      refine ⟨hnd.1, List.nodup_cons.2 ⟨hAB.2, hnd.2.1⟩, fun a ha b hb => ?_⟩
      rcases List.mem_cons.1 hb with rfl | hb
      · intro e; exact hAB.1 (e ▸ ha)
      · exact hnd.2.2 a ha b hb
    · exact h.nd l hl
  · intro r l hl
    unfold layE
    rw [List.getElem?_modify]
    rcases hset r l hl with ⟨rfl, rfl⟩ | ⟨hne, hl⟩
    · rw [h.ends r _ hr]
      simp only [if_pos, Option.map_eq_map, Option.map_some]
      congr 2
      · split
        · rename_i e
          rw [laI_nil] at e; subst e; rfl
        · rename_i e
          rw [laI_nil] at e
          cases A with
          | nil => exact absurd rfl e
          | cons x A => rfl
      · split
        · rename_i e
          rw [hdI_nil] at e; subst e; exact (laI_one A i).symm
        · rename_i e
          rw [hdI_nil] at e
          rw [laI_app _ _ e, show A ++ i :: B = (A ++ [i]) ++ B by simp, laI_app _ _ e]
    · rw [h.ends r l hl]
      simp only [Option.map_eq_map, Option.map_some, if_neg (fun e : row = r => hne e.symm)]
  · intro r A' k B' hl
    by_cases hki : k = i
    · subst hki
      rw [hself]
      rcases hset r _ hl with ⟨rfl, e⟩ | ⟨hne, hl⟩
      · have hnd2 : (A' ++ k :: B').Nodup := by
          rw [e]
          rw [List.nodup_append] at hnd ⊢
          rw [List.mem_append, not_or] at hAB
          refine ⟨hnd.1, List.nodup_cons.2 ⟨hAB.2, hnd.2.1⟩, fun a ha b hb => ?_⟩
          rcases List.mem_cons.1 hb with rfl | hb
          · intro e; exact hAB.1 (e ▸ ha)
          · exact hnd.2.2 a ha b hb
        rw [List.mem_append, not_or] at hAB
        rcases List.append_eq_append_iff.1 e with ⟨C, hC1, hC2⟩ | ⟨C, hC1, hC2⟩
        · cases C with
          | nil => simp at hC1 hC2; rw [hC1, hC2]
          | cons c C =>
            simp only [List.cons_append, List.cons.injEq] at hC2
            exact absurd (by rw [hC1]; simp [hC2.1]) hAB.1
        · cases C with
          | nil => simp at hC1 hC2; rw [hC1, hC2]
          | cons c C =>
            simp only [List.cons_append, List.cons.injEq] at hC2
            rw [hC1, ← hC2.1, List.nodup_append] at hnd2
            exact absurd rfl (hnd2.2.2 k (by simp) k (by simp))
      · exact absurd (by simp) (hf _ (List.mem_of_getElem? hl))
    · rw [layT_at _ _ _ _ _ _ (by rw [h.tl]; exact hi), if_neg (fun e => hki e.symm)]
      rcases hset r _ hl with ⟨rfl, e⟩ | ⟨hne, hl⟩
      · rcases List.append_eq_append_iff.1 e with ⟨C, hC1, hC2⟩ | ⟨C, hC1, hC2⟩
        · cases C with
          | nil =>
            simp only [List.nil_append, List.cons.injEq] at hC2
            exact absurd hC2.1 hki
          | cons c C =>
            simp only [List.cons_append, List.cons.injEq] at hC2
            obtain ⟨rfl, rfl⟩ := hC2
            subst hC1
            rw [h.at' r A' k (C ++ B) (by rw [hr]; simp)]
            rw [List.nodup_append] at hnd
            have hB : ¬ hdI B = k := fun e => hnd.2.2 k (by simp) k (hdI_mem B k e) rfl
            simp only [Option.map_some, if_neg hB]
            cases C with
            | nil => rw [if_pos (laI_one A' k)]; rfl
            | cons d C =>
              have hA : ¬ laI (A' ++ k :: d :: C) = k := fun e => by
                rw [show A' ++ k :: d :: C = (A' ++ [k]) ++ d :: C by simp, laI_app _ _ (by simp)] at e
                have hk := laI_mem _ k e
                have h1 := hnd.1
                rw [List.nodup_append] at h1
                exact (List.nodup_cons.1 h1.2.1).1 hk
              rw [if_neg hA]; rfl
        · cases C with
          | nil =>
            simp only [List.nil_append, List.cons.injEq] at hC2
            exact absurd hC2.1.symm hki
          | cons c C =>
            simp only [List.cons_append, List.cons.injEq] at hC2
            obtain ⟨rfl, rfl⟩ := hC2
            subst hC1
            rw [h.at' r (A ++ C) k B' (by rw [hr]; simp)]
            rw [List.nodup_append] at hnd
            have hA : ¬ laI A = k := fun e => hnd.2.2 k (laI_mem A k e) k (by simp) rfl
            simp only [Option.map_some, if_neg hA]
            cases C with
            | nil => rw [if_pos (show hdI ([] ++ k :: B') = k from rfl), laI_one]
            | cons d C =>
              have hB : ¬ hdI (d :: C ++ k :: B') = k := fun e => by
                have e' : (d : Int) = k := e
                have e2 : d = k := by omega
                subst e2
                have h1 := hnd.2.1
                rw [List.cons_append] at h1
                exact (List.nodup_cons.1 h1).1 (by simp)
              rw [if_neg hB, laI_app _ _ (by simp), show A ++ i :: d :: C = (A ++ [i]) ++ d :: C by simp, laI_app _ _ (by simp)]
      · have hA : ¬ laI A = k := fun e => hne (h.one hl hr (i := k) (by simp) (List.mem_append_left _ (laI_mem A k e)))
        have hB : ¬ hdI B = k := fun e => hne (h.one hl hr (i := k) (by simp) (List.mem_append_right _ (hdI_mem B k e)))
        rw [h.at' r A' k B' hl]
        simp only [Option.map_some, if_neg hA, if_neg hB]
  · intro k hk hn
    have hki : k ≠ i := fun e => hn (A ++ i :: B) (List.mem_of_getElem? (by rw [List.getElem?_set, if_pos rfl, if_pos (by rw [h.rl]; exact hrow)])) (by rw [e]; simp)
    have hno : ∀ l ∈ R, k ∉ l := by
      intro l hl hkl
      obtain ⟨r, hrr, hre⟩ := List.getElem_of_mem hl
      by_cases e : r = row
      · subst e
        have : l = A ++ B := by
          have := hr
          rw [List.getElem?_eq_getElem hrr, hre] at this
          injection this
        rw [this] at hkl
        refine hn (A ++ i :: B) (List.mem_of_getElem? (by rw [List.getElem?_set, if_pos rfl, if_pos hrr])) ?_
        rcases List.mem_append.1 hkl with h | h
        · exact List.mem_append_left _ h
        · exact List.mem_append_right _ (List.mem_cons_of_mem _ h)
      · exact hn l (List.mem_of_getElem? (by rw [List.getElem?_set, if_neg (fun e' => e e'.symm), List.getElem?_eq_getElem hrr, hre])) hkl
    have hA : ¬ laI A = k := fun e => hno _ (List.mem_of_getElem? hr) (List.mem_append_left _ (laI_mem A k e))
    have hB : ¬ hdI B = k := fun e => hno _ (List.mem_of_getElem? hr) (List.mem_append_right _ (hdI_mem B k e))
    rw [layT_at _ _ _ _ _ _ (by rw [h.tl]; exact hi), if_neg (fun e => hki e.symm), h.off k hk hno]
    simp only [Option.map_some, if_neg hA, if_neg hB]
end Go.Proofs.Ythkjkmjcnphjgaa
