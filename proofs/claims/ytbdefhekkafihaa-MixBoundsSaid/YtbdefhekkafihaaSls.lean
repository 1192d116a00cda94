/- Slices of slices of records, read as lists of lists. No condition. -/
import Derived.Test.YtbdefhekkafihaaRecF
set_option linter.unusedVariables false
set_option linter.unusedSimpArgs false
namespace Go.Proofs.Ytbdefhekkafihaa
open Go.RowKit (wrap32 wrap64)
open Go.RowKit
/-- A slice's header. -/
structure Hr where
  a : Option Addr
  len : Nat
  cap : Nat
  deriving DecidableEq, Inhabited
def enHr (s : Hr) : List Value := [.slice s.a s.len s.cap]
theorem enHr_len (s : Hr) : (enHr s).length = 1 := rfl
theorem enHr_one : ∀ x, ∀ u ∈ enHr x, u.oneCell' = true := by intro x u hu; unfold enHr at hu; rw [List.mem_singleton.1 hu]; rfl
def okHr (h : Hr) : Prop := h.len ≤ h.cap ∧ h.cap ≤ maxLen ∧ (h.a = none → h.len = 0 ∧ h.cap = 0)
abbrev nilHr : Hr := ⟨none, 0, 0⟩
theorem okHr_nil : okHr nilHr := ⟨Nat.le_refl _, Nat.zero_le _, fun _ => ⟨rfl, rfl⟩⟩
/-- Headers whose slices read as the lists. -/
structure RowsR {α : Type} (enc : α → List Value) (ok : α → Prop) (s : Nat) (w : World) (hs : List Hr) (LL : List (List α)) : Prop where
  len : hs.length = LL.length
  row : ∀ (i : Nat) (h : Hr) (l : List α), hs[i]? = some h → LL[i]? = some l → SR enc ok s w h.a h.len l ∧ okHr h
section
variable {α : Type} {enc : α → List Value} {ok : α → Prop} {s : Nat}
theorem RowsR.keep {S : Nat → Prop} {w w1 : World} {hs : List Hr} {LL : List (List α)} (r : RowsR enc ok s w hs LL) (k : Keep S w w1) (hS : ∀ h ∈ hs, ∀ x, h.a = some x → ¬ S x.block) : RowsR enc ok s w1 hs LL :=
  ⟨r.len, fun i h l h1 h2 => ⟨(r.row i h l h1 h2).1.keep k (hS h (List.mem_of_getElem? h1)), (r.row i h l h1 h2).2⟩⟩
theorem RowsR.below {w w1 : World} {hs : List Hr} {LL : List (List α)} (r : RowsR enc ok s w hs LL) (hb : Below w.heap.size w w1) : RowsR enc ok s w1 hs LL :=
  ⟨r.len, fun i h l h1 h2 => ⟨(r.row i h l h1 h2).1.below hb, (r.row i h l h1 h2).2⟩⟩
theorem RowsR.nil (w : World) : RowsR enc ok s w [] [] := ⟨rfl, fun i h l h1 => by simp at h1⟩
theorem RowsR.nils (w : World) (n : Nat) : RowsR enc ok s w (List.replicate n nilHr) (List.replicate n []) := by
  refine ⟨by simp, fun i h l h1 h2 => ?_⟩
  have e1 := List.eq_of_mem_replicate (List.mem_of_getElem? h1)
  have e2 := List.eq_of_mem_replicate (List.mem_of_getElem? h2)
  subst e1; subst e2
  exact ⟨⟨rfl, Nat.zero_le _, (by intro x hx; cases hx), fun h => absurd h (Nat.lt_irrefl 0)⟩, okHr_nil⟩
theorem RowsR.set {w : World} {hs : List Hr} {LL : List (List α)} (r : RowsR enc ok s w hs LL) (i : Nat) (h : Hr) (l : List α) (hr : SR enc ok s w h.a h.len l) (ho : okHr h) : RowsR enc ok s w (hs.set i h) (LL.set i l) := by
  refine ⟨by simp [r.len], fun j h' l' h1 h2 => ?_⟩
  by_cases e : j = i
  · subst e
    obtain ⟨hlt, _⟩ := List.getElem?_eq_some_iff.1 h1
    rw [List.length_set] at hlt
    have hlt2 : j < LL.length := by rw [← r.len]; exact hlt
    rw [List.getElem?_set_self hlt] at h1
    rw [List.getElem?_set_self hlt2] at h2
    cases h1; cases h2
    exact ⟨hr, ho⟩
  · rw [List.getElem?_set_ne (fun h => e h.symm)] at h1 h2
    exact r.row j h' l' h1 h2
theorem RowsR.snoc {w : World} {hs : List Hr} {LL : List (List α)} (r : RowsR enc ok s w hs LL) (h : Hr) (l : List α) (hr : SR enc ok s w h.a h.len l) (ho : okHr h) : RowsR enc ok s w (hs ++ [h]) (LL ++ [l]) := by
  refine ⟨by simp [r.len], fun j h' l' h1 h2 => ?_⟩
  by_cases e : j < hs.length
  · rw [List.getElem?_append_left e] at h1
    rw [List.getElem?_append_left (by rw [← r.len]; exact e)] at h2
    exact r.row j h' l' h1 h2
  · have hj : j = hs.length := by
      have := (List.getElem?_eq_some_iff.1 h1).1
      simp at this; omega
    subst hj
    rw [List.getElem?_append_right (Nat.le_refl _), Nat.sub_self] at h1
    rw [r.len, List.getElem?_append_right (Nat.le_refl _), Nat.sub_self] at h2
    cases h1; cases h2
    exact ⟨hr, ho⟩
theorem RowsR.lt {w : World} {hs : List Hr} {LL : List (List α)} (r : RowsR enc ok s w hs LL) {h : Hr} (hm : h ∈ hs) (h0 : 0 < h.len) : ∀ x, h.a = some x → x.block < w.heap.size := by
  intro x hx
  obtain ⟨i, hi, e⟩ := List.getElem_of_mem hm
  have h1 : hs[i]? = some h := by rw [List.getElem?_eq_getElem hi, e]
  have hi2 : i < LL.length := by rw [← r.len]; exact hi
  obtain ⟨b, off, ha, hb, _⟩ := (r.row i h _ h1 (List.getElem?_eq_getElem hi2)).1.row h0
  rw [hx] at ha
  cases ha
  exact hb
/-- Kept where all that turns lies behind the world's end, or at a block of another kind of which no row is one. -/
theorem RowsR.keepB {S : Nat → Prop} {w w1 : World} {hs : List Hr} {LL : List (List α)} (r : RowsR enc ok s w hs LL) (k : Keep S w w1) (hS : ∀ i, S i → (∀ h ∈ hs, ∀ x, h.a = some x → 0 < h.len → x.block ≠ i)) : RowsR enc ok s w1 hs LL := by
  refine ⟨r.len, fun i h l h1 h2 => ⟨?_, (r.row i h l h1 h2).2⟩⟩
  obtain ⟨hr, ho⟩ := r.row i h l h1 h2
  refine ⟨hr.len, hr.max, hr.all, fun hn => ?_⟩
  obtain ⟨b, off, ha, hlt, hc⟩ := hr.row hn
  refine ⟨b, off, ha, Nat.lt_of_lt_of_le hlt k.size, fun j hj => ?_⟩
  rw [← hc j hj]
  exact World.cell?_of_block (k.block b hlt (fun e => hS b e h (List.mem_of_getElem? h1) _ ha hn rfl))
/-- A row of one's own as a header. -/
theorem own_hr {w : World} {base n : Nat} {e : TypeId} {v : Value} {L : List α} (he : ∀ a, (enc a).length = s) (hs : 0 < s) (h : w.ownsRow base e s v n (flatV enc L)) (hR : ∀ x ∈ L, ok x) : ∃ r : Hr, v = .slice r.a r.len r.cap ∧ r.len = n ∧ SR enc ok s w r.a r.len L ∧ okHr r ∧ (∀ x, r.a = some x → base ≤ x.block) := by
  obtain ⟨A, c, rfl, hs', hn, hb⟩ := SR.own he hs h hR
  have hc := own_caps h
  exact ⟨⟨A, n, c⟩, rfl, rfl, hs', ⟨hc.1, hc.2.1, hc.2.2⟩, hb⟩
end
end Go.Proofs.Ytbdefhekkafihaa
