/- Put in its place, once: sorted rows. Plain. No condition. -/
import Derived.Test.YtbdefhekkafihaaBase
set_option linter.unusedVariables false
set_option linter.unusedSimpArgs false
namespace Go.Proofs.Ytbdefhekkafihaa
section
variable {α : Type} [DecidableEq α] (lt : α → α → Bool)
def insG : List α → α → List α
  | [], e => [e]
  | x :: O, e => if lt x e = true then x :: insG O e else if x = e then x :: O else e :: x :: O
/-- What stands ahead is less: there it goes, unless it is there. -/
theorem insG_at (O : List α) (x : α) (i : Nat) (hi : i ≤ O.length) (h : ∀ (j : Nat) (y : α), j < i → O[j]? = some y → lt y x = true) :
    (i = O.length → insG lt O x = O.take i ++ ([x] ++ O.drop i)) ∧ (∀ y, O[i]? = some y → lt y x = false → y = x → insG lt O x = O) ∧ (∀ y, O[i]? = some y → lt y x = false → y ≠ x → insG lt O x = O.take i ++ ([x] ++ O.drop i)) := by
  induction O generalizing i with
  | nil =>
    obtain rfl : i = 0 := by simpa using hi
    exact ⟨fun _ => rfl, fun y hy => by simp at hy, fun y hy => by simp at hy⟩
  | cons z O ih =>
    cases i with
    | zero =>
      refine ⟨fun h => by simp at h, fun y hy hl e => ?_, fun y hy hl e => ?_⟩
      · simp at hy; subst hy; subst e
        unfold insG
        rw [hl, if_neg (by simp), if_pos rfl]
      · simp at hy; subst hy
        unfold insG
        rw [hl, if_neg (by simp), if_neg e]
        rfl
    | succ i =>
      have hz : lt z x = true := h 0 z (by omega) rfl
      obtain ⟨h1, h2, h3⟩ := ih i (by simpa using hi) (fun j y hj hy => h (j + 1) y (by omega) (by simpa using hy))
      have e : insG lt (z :: O) x = z :: insG lt O x := by rw [insG, if_pos hz]
      refine ⟨fun hl => ?_, fun y hy hl e2 => ?_, fun y hy hl e2 => ?_⟩
      · rw [e, h1 (by simpa using hl)]; rfl
      · rw [e, h2 y (by simpa using hy) hl e2]
      · rw [e, h3 y (by simpa using hy) hl e2]; rfl
theorem insG_mem (O : List α) (e x : α) : x ∈ insG lt O e ↔ x = e ∨ x ∈ O := by
  induction O with
  | nil => unfold insG; simp
  | cons y O ih =>
    unfold insG
    split
    · rw [List.mem_cons, ih, List.mem_cons]
      constructor
      · rintro (h | h | h)
        · exact .inr (.inl h)
        · exact .inl h
        · exact .inr (.inr h)
      · rintro (h | h | h)
        · exact .inr (.inl h)
        · exact .inl h
        · exact .inr (.inr h)
    · split
      · rename_i h
        subst h
        simp
      · simp
theorem insG_len (O : List α) (e : α) : (insG lt O e).length ≤ O.length + 1 := by
  induction O with
  | nil => unfold insG; simp
  | cons y O ih =>
    unfold insG
    split
    · rw [List.length_cons, List.length_cons]; omega
    · split
      · rw [List.length_cons]; omega
      · rw [List.length_cons, List.length_cons]; omega
def sortG (L : List α) : List α := L.foldl (insG lt) []
theorem sortG_snoc (L : List α) (e : α) : sortG lt (L ++ [e]) = insG lt (sortG lt L) e := by unfold sortG; rw [List.foldl_append]; rfl
theorem sortG_take (L : List α) (k : Nat) (e : α) (h : L[k]? = some e) : sortG lt (L.take (k + 1)) = insG lt (sortG lt (L.take k)) e := by
  have : L.take (k + 1) = L.take k ++ [e] := by
    obtain ⟨h1, h2⟩ := List.getElem?_eq_some_iff.1 h
    rw [List.take_succ_eq_append_getElem h1, h2]
  rw [this, sortG_snoc]
theorem foldG_mem (L O : List α) (x : α) : x ∈ L.foldl (insG lt) O ↔ x ∈ L ∨ x ∈ O := by
  induction L generalizing O with
  | nil => simp
  | cons e L ih =>
    rw [List.foldl_cons, ih, insG_mem, List.mem_cons]
    constructor
    · rintro (h | h | h)
      · exact .inl (.inr h)
      · exact .inl (.inl h)
      · exact .inr h
    · rintro ((h | h) | h)
      · exact .inr (.inl h)
      · exact .inl h
      · exact .inr (.inr h)
theorem sortG_mem (L : List α) (x : α) : x ∈ sortG lt L ↔ x ∈ L := by
  have := foldG_mem lt L [] x
  simp at this
  exact this
theorem insG_srt (ht : ∀ a b c, lt a b = true → lt b c = true → lt a c = true) (hc : ∀ a b, lt a b = false → a ≠ b → lt b a = true) {O : List α} (h : O.Pairwise fun a b => lt a b = true) (e : α) : (insG lt O e).Pairwise fun a b => lt a b = true := by
  induction O with
  | nil => unfold insG; simp
  | cons y O ih =>
    have h1 := List.pairwise_cons.1 h
    unfold insG
    split
    · rename_i hl
      refine List.pairwise_cons.2 ⟨fun x hx => ?_, ih h1.2⟩
      rcases (insG_mem lt O e x).1 hx with rfl | hx
      · exact hl
      · exact h1.1 x hx
    · rename_i hl
      split
      · exact h
      · rename_i hne
        have hel : lt e y = true := hc _ _ (Bool.eq_false_iff.2 hl) hne
        refine List.pairwise_cons.2 ⟨fun x hx => ?_, h⟩
        rcases List.mem_cons.1 hx with rfl | hx
        · exact hel
        · exact ht _ _ _ hel (h1.1 x hx)
theorem foldG_srt (ht : ∀ a b c, lt a b = true → lt b c = true → lt a c = true) (hc : ∀ a b, lt a b = false → a ≠ b → lt b a = true) (L O : List α) (h : O.Pairwise fun a b => lt a b = true) : (L.foldl (insG lt) O).Pairwise fun a b => lt a b = true := by
  induction L generalizing O with
  | nil => exact h
  | cons e L ih => exact ih _ (insG_srt lt ht hc h e)
theorem sortG_srt (ht : ∀ a b c, lt a b = true → lt b c = true → lt a c = true) (hc : ∀ a b, lt a b = false → a ≠ b → lt b a = true) (L : List α) : (sortG lt L).Pairwise fun a b => lt a b = true := foldG_srt lt ht hc L [] List.Pairwise.nil
end
def ltI (a b : Int) : Bool := decide (a < b)
def numI (L : List Int) : List Int := sortG ltI L
theorem numI_mem (L : List Int) (x : Int) : x ∈ numI L ↔ x ∈ L := sortG_mem ltI L x
theorem numI_nodup (L : List Int) : (numI L).Nodup := by
  have h := sortG_srt ltI (fun a b c h k => by unfold ltI at *; simp at *; omega) (fun a b h n => by unfold ltI at *; simp at *; omega) L
  exact List.Pairwise.imp (fun {a b} hab e => by unfold ltI at hab; rw [e] at hab; simp at hab) h
end Go.Proofs.Ytbdefhekkafihaa
