/- The statement HistoryParts: the plain law (over any records with a number, a commit, an end). No condition. -/
import Derived.Test.YtjenchijenkndaaRecF
set_option linter.unusedVariables false
set_option linter.unusedSimpArgs false
namespace Go.Proofs.Ytjenchijenkndaa
section
variable {α : Type} (t : α → Int) (c d : α → Bool)
/-- Where one ends: the first of its commits and ends; -1: nowhere. -/
def endI (L : List α) (x : Int) : Int := idxB (fun e => t e == x && (c e || d e)) L
/-- Who commits, of the first n. -/
def commTo (L : List α) : Nat → List Int
  | 0 => []
  | n + 1 => match L[n]? with
    | some e => if endI t c d L (t e) = n ∧ c e = true then commTo L n ++ [t e] else commTo L n
    | none => commTo L n
theorem commTo_mem (L : List α) (n : Nat) (x : Int) (h : x ∈ commTo t c d L n) : ∃ (k : Nat) (e : α), k < n ∧ endI t c d L x = k ∧ L[k]? = some e ∧ t e = x ∧ c e = true := by
  induction n with
  | zero => cases h
  | succ n ih =>
    have keep : x ∈ commTo t c d L n → ∃ (k : Nat) (e : α), k < n + 1 ∧ endI t c d L x = k ∧ L[k]? = some e ∧ t e = x ∧ c e = true := fun h => by
      obtain ⟨k, e, h1, h2⟩ := ih h
      exact ⟨k, e, by omega, h2⟩
    unfold commTo at h
    split at h
    · rename_i e he
      split at h
      · rename_i hc
        rcases List.mem_append.1 h with h | h
        · exact keep h
        · rw [List.mem_singleton] at h
          subst h
          exact ⟨n, e, by omega, hc.1, he, rfl, hc.2⟩
      · exact keep h
    · exact keep h
/-- Each commits once. -/
theorem commTo_nodup (L : List α) (n : Nat) : (commTo t c d L n).Nodup := by
  induction n with
  | zero => exact List.nodup_nil
  | succ n ih =>
    unfold commTo
    split
    · rename_i e he
      split
      · rename_i hc
        rw [List.nodup_append]
        refine ⟨ih, by simp, fun a ha b hb e2 => ?_⟩
        rw [List.mem_singleton] at hb
        subst hb
        subst e2
        obtain ⟨k, _, hk, h2, _⟩ := commTo_mem t c d L n _ ha
        rw [hc.1] at h2
        omega
      · exact ih
    · exact ih
def seenT (L : List α) (n : Nat) (x : Int) : Bool := (L.take n).any fun e => t e == x
theorem filter_or_length (p q : α → Bool) (l : List α) (h : ∀ e ∈ l, ¬ (p e = true ∧ q e = true)) : (l.filter fun e => p e || q e).length = (l.filter p).length + (l.filter q).length := by
  induction l with
  | nil => rfl
  | cons x l ih =>
    have ih := ih (fun e he => h e (List.mem_cons_of_mem _ he))
    have hx := h x List.mem_cons_self
    rw [List.filter_cons, List.filter_cons, List.filter_cons]
    cases hp : p x <;> cases hq : q x <;> simp [hp, hq] at hx ⊢ <;> omega
/-- How many events those have that were met, of the first n. -/
def sumTo (L : List α) (n : Nat) : Nat := (L.filter fun e => seenT t L n (t e)).length
theorem sumTo_zero (L : List α) : sumTo t L 0 = 0 := by unfold sumTo seenT; simp
theorem seenT_snoc (L : List α) (n : Nat) (e : α) (he : L[n]? = some e) (x : Int) : seenT t L (n + 1) x = (seenT t L n x || (t e == x)) := by
  unfold seenT
  rw [take_snocG L n e he]
  simp
theorem sumTo_seen (L : List α) (n : Nat) (e : α) (he : L[n]? = some e) (hs : seenT t L n (t e) = true) : sumTo t L (n + 1) = sumTo t L n := by
  unfold sumTo
  congr 1
  apply List.filter_congr
  intro y _
  rw [seenT_snoc t L n e he]
  cases h : (t e == t y) with
  | false => simp
  | true =>
    rw [← beq_iff_eq.1 h, hs]; rfl
theorem sumTo_new (L : List α) (n : Nat) (e : α) (he : L[n]? = some e) (hs : seenT t L n (t e) = false) : sumTo t L (n + 1) = sumTo t L n + (L.filter fun y => t y == t e).length := by
  unfold sumTo
  rw [← filter_or_length (fun y => seenT t L n (t y)) (fun y => t y == t e) L (fun y _ h => by
    have h2 := beq_iff_eq.1 h.2
    rw [h2, hs] at h
    exact Bool.noConfusion h.1)]
  congr 1
  apply List.filter_congr
  intro y _
  rw [seenT_snoc t L n e he]
  congr 1
  rw [Bool.eq_iff_iff, beq_iff_eq, beq_iff_eq]
  exact ⟨fun h => h.symm, fun h => h.symm⟩
/-- The events of all are all events. -/
theorem sumTo_all (L : List α) : sumTo t L L.length = L.length := by
  unfold sumTo
  congr 1
  rw [List.filter_eq_self]
  intro e he
  unfold seenT
  rw [List.take_length, List.any_eq_true]
  exact ⟨e, he, beq_self_eq_true _⟩
end
end Go.Proofs.Ytjenchijenkndaa
