/- Plain facts on windows: the least window in which each number below n stands (chapter 8). No condition. -/
import Derived.Test.YtgpkidffhglngaaBase
set_option linter.unusedVariables false
set_option linter.unusedSimpArgs false
namespace Go.Proofs.Ytgpkidffhglngaa
/-- Each window of w places has an x. -/
def winX (l : List Int) (x : Int) (w : Nat) : Prop := ∀ f, f + w ≤ l.length → ∃ i, f ≤ i ∧ i < f + w ∧ l.getD i 0 = x
def fairW (l : List Int) (n w : Nat) : Prop := ∀ x : Nat, x < n → winX l x w
/-- g is the least window from n on. -/
def IsGap (l : List Int) (n g : Nat) : Prop := n ≤ g ∧ ∀ w, n ≤ w → (g ≤ w ↔ fairW l n w)
theorem IsGap.uniq {l : List Int} {n g k : Nat} (h : IsGap l n g) (h' : IsGap l n k) : g = k := by
  have a := (h'.2 g h.1).2 ((h.2 g h.1).1 (Nat.le_refl _))
  have b := (h.2 k h'.1).2 ((h'.2 k h'.1).1 (Nat.le_refl _))
  omega
theorem winX_long (l : List Int) (x : Int) (w : Nat) (h : l.length < w) : winX l x w := fun f hf => by omega
theorem IsGap.short {l : List Int} {n : Nat} (h : l.length < n) : IsGap l n n :=
  ⟨Nat.le_refl _, fun w hw => ⟨fun _ x _ => winX_long l x w (by omega), fun _ => hw⟩⟩
/-- Where x stood last among the first i: at last; -1: nowhere. -/
def LastAt (l : List Int) (x : Int) (i : Nat) (last : Int) : Prop :=
  (last = -1 ∧ ∀ j, j < i → l.getD j 0 ≠ x) ∨ (0 ≤ last ∧ last < i ∧ l.getD last.toNat 0 = x ∧ ∀ j : Nat, last < j → j < i → l.getD j 0 ≠ x)
theorem LastAt.zero (l : List Int) (x : Int) : LastAt l x 0 (-1) := .inl ⟨rfl, fun j h => by omega⟩
theorem LastAt.here {l : List Int} {x : Int} {i : Nat} (h : l.getD i 0 = x) : LastAt l x (i + 1) i :=
  .inr ⟨by omega, by omega, by simpa using h, fun j h1 h2 => by omega⟩
theorem LastAt.past {l : List Int} {x : Int} {i : Nat} {last : Int} (h : LastAt l x i last) (hn : l.getD i 0 ≠ x) : LastAt l x (i + 1) last := by
  rcases h with ⟨h, g⟩ | ⟨h1, h2, h3, h4⟩
  · refine .inl ⟨h, fun j hj => ?_⟩
    by_cases e : j = i
    · rw [e]; exact hn
    · exact g j (by omega)
  · refine .inr ⟨h1, by omega, h3, fun j a b => ?_⟩
    by_cases e : j = i
    · rw [e]; exact hn
    · exact h4 j a (by omega)
theorem LastAt.range {l : List Int} {x : Int} {i : Nat} {last : Int} (h : LastAt l x i last) : -1 ≤ last ∧ last < i := by
  rcases h with ⟨h, _⟩ | ⟨h1, h2, _⟩ <;> omega
/-- Each window of w places that ends at last, at the most, has an x. -/
def winTo (l : List Int) (x : Int) (last : Int) (w : Nat) : Prop := ∀ f : Nat, (f + w : Int) ≤ last + 1 → ∃ i, f ≤ i ∧ i < f + w ∧ l.getD i 0 = x
theorem winTo.none (l : List Int) (x : Int) (w : Nat) (hw : 1 ≤ w) : winTo l x (-1) w := fun f hf => by omega
/-- One more place at which x stands. -/
theorem winTo.more {l : List Int} {x : Int} {i : Nat} {last : Int} (h : LastAt l x i last) (hi : l.getD i 0 = x) (w : Nat) (hw : 1 ≤ w) :
    winTo l x i w ↔ winTo l x last w ∧ (i : Int) - last ≤ w := by
  have hr := h.range
  constructor
  · intro a
    refine ⟨fun f hf => a f (by omega), ?_⟩
    rcases Int.lt_or_le (w : Int) (i - last) with hlt | hle
    · exfalso
      obtain ⟨j, h1, h2, h3⟩ := a (last + 1).toNat (by omega)
      rcases h with ⟨e, g⟩ | ⟨g1, g2, _, g⟩
      · exact g j (by omega) h3
      · exact g j (by omega) (by omega) h3
    · exact hle
  · rintro ⟨a, b⟩ f hf
    by_cases h1 : (f + w : Int) ≤ last + 1
    · exact a f h1
    · by_cases h2 : (f + w : Int) = i + 1
      · exact ⟨i, by omega, by omega, hi⟩
      · rcases h with ⟨e, g⟩ | ⟨g1, g2, g3, g⟩
        · exfalso; omega
        · exact ⟨last.toNat, by omega, by omega, g3⟩
/-- At the end: what lies behind the last place. -/
theorem winX_iff {l : List Int} {x : Int} {last : Int} (h : LastAt l x l.length last) (h0 : 0 ≤ last) (w : Nat) :
    winX l x w ↔ winTo l x last w ∧ (l.length : Int) - last ≤ w := by
  have hr := h.range
  rcases h with ⟨e, _⟩ | ⟨_, _, g3, g⟩
  · omega
  constructor
  · intro a
    refine ⟨fun f hf => a f (by omega), ?_⟩
    rcases Int.lt_or_le (w : Int) (l.length - last) with hlt | hle
    · exfalso
      obtain ⟨j, h1, h2, h3⟩ := a (last + 1).toNat (by omega)
      exact g j (by omega) (by omega) h3
    · exact hle
  · rintro ⟨a, b⟩ f hf
    by_cases h1 : (f + w : Int) ≤ last + 1
    · exact a f h1
    · exact ⟨last.toNat, by omega, by omega, g3⟩
theorem winX_none {l : List Int} {x : Int} (h : LastAt l x l.length (-1)) (w : Nat) : winX l x w ↔ l.length + 1 ≤ w := by
  rcases h with ⟨_, g⟩ | ⟨h, _⟩
  · constructor
    · intro a
      rcases Nat.lt_or_ge w (l.length + 1) with hlt | hge
      · exfalso
        obtain ⟨j, _, h2, h3⟩ := a 0 (by omega)
        exact g j (by omega) h3
      · exact hge
    · intro hw; exact winX_long l x w (by omega)
  · omega
/-- 'out' behind x numbers, and behind so much of the next. -/
def OutAt (l : List Int) (n x : Nat) (o : Int) : Prop := (n : Int) ≤ o ∧ o ≤ l.length + 1 ∧ ∀ w : Nat, n ≤ w → (o ≤ w ↔ ∀ y : Nat, y < x → winX l y w)
def OutTo (l : List Int) (n x : Nat) (last o : Int) : Prop := (n : Int) ≤ o ∧ o ≤ l.length + 1 ∧ ∀ w : Nat, n ≤ w → (o ≤ w ↔ (∀ y : Nat, y < x → winX l y w) ∧ winTo l x last w)
def mx2 (a b : Int) : Int := if a < b then b else a
theorem OutAt.zero (l : List Int) (n : Nat) (h : n ≤ l.length) : OutAt l n 0 n :=
  ⟨Int.le_refl _, by omega, fun w hw => ⟨fun _ y hy => by omega, fun _ => by omega⟩⟩
theorem OutAt.start {l : List Int} {n x : Nat} {o : Int} (h : OutAt l n x o) (hn : 1 ≤ n) : OutTo l n x (-1) o :=
  ⟨h.1, h.2.1, fun w hw => by rw [h.2.2 w hw]; exact ⟨fun a => ⟨a, winTo.none l x w (by omega)⟩, fun a => a.1⟩⟩
theorem mx2_le (a b : Int) (w : Int) : mx2 a b ≤ w ↔ a ≤ w ∧ b ≤ w := by unfold mx2; split <;> omega
theorem OutTo.here {l : List Int} {n x i : Nat} {last o : Int} (h : OutTo l n x last o) (hl : LastAt l x i last) (hi : l.getD i 0 = x) (hil : i < l.length) (hn : 1 ≤ n) : OutTo l n x i (mx2 o (i - last)) := by
  have hr := hl.range
  refine ⟨by have := h.1; unfold mx2; split <;> omega, by have := h.2.1; unfold mx2; split <;> omega, fun w hw => ?_⟩
  rw [mx2_le, h.2.2 w hw, winTo.more hl hi w (by omega)]
  exact and_assoc
theorem OutTo.done {l : List Int} {n x : Nat} {last o : Int} (h : OutTo l n x last o) (hl : LastAt l x l.length last) (h0 : 0 ≤ last) : OutAt l n (x + 1) (mx2 o (l.length - last)) := by
  have hr := hl.range
  refine ⟨by have := h.1; unfold mx2; split <;> omega, by have := h.2.1; unfold mx2; split <;> omega, fun w hw => ?_⟩
  rw [mx2_le, h.2.2 w hw, and_assoc, ← winX_iff hl h0 w]
  exact ⟨fun ⟨a, b⟩ y hy => by
    by_cases e : y = x
    · rw [e]; exact b
    · exact a y (by omega), fun a => ⟨fun y hy => a y (by omega), a x (by omega)⟩⟩
theorem OutTo.doneNone {l : List Int} {n x : Nat} {o : Int} (h : OutTo l n x (-1) o) (hl : LastAt l x l.length (-1)) : OutAt l n (x + 1) (mx2 o (l.length + 1)) := by
  refine ⟨by have := h.1; unfold mx2; split <;> omega, by have := h.2.1; unfold mx2; split <;> omega, fun w hw => ?_⟩
  rw [mx2_le, h.2.2 w hw]
  have e := winX_none hl w
  constructor
  · rintro ⟨⟨a, _⟩, b⟩ y hy
    by_cases e' : y = x
    · rw [e']; exact e.2 (by omega)
    · exact a y (by omega)
  · intro a
    have := e.1 (a x (by omega))
    exact ⟨⟨fun y hy => a y (by omega), winTo.none l x w (by omega)⟩, by omega⟩
theorem OutAt.gap {l : List Int} {n : Nat} {o : Int} (h : OutAt l n n o) : IsGap l n o.toNat := by
  have h1 := h.1
  refine ⟨by omega, fun w hw => ?_⟩
  have := h.2.2 w hw
  unfold fairW
  rw [← this]; omega
end Go.Proofs.Ytgpkidffhglngaa
