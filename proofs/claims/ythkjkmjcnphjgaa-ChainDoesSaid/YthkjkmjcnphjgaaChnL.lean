/- chain: where a place is, as the rows say: Row, Next at the rows' level. No condition. -/
import Derived.Test.YthkjkmjcnphjgaaChnT
import Derived.Test.YthkjkmjcnphjgaaChnC
set_option linter.unusedVariables false
set_option linter.unusedSimpArgs false
namespace Go.Proofs.Ythkjkmjcnphjgaa
open Go.RowKit (wrap32 wrap64)
open Go.RowKit
def isI (i : Int) (x : Nat) : Bool := (x : Int) == i
def hasI (i : Int) (l : List Nat) : Bool := l.any (isI i)
def atI (R : List (List Nat)) (i : Int) : Int := idxB (hasI i) R
def poI (R : List (List Nat)) (i : Int) : Int := if atI R i = -1 then -1 else idxB (isI i) (atR R (atI R i))
def nxR (R : List (List Nat)) (i : Int) : Int := if atI R i = -1 then -1 else hdI ((atR R (atI R i)).drop ((poI R i).toNat + 1))
theorem drop_past (A : List Nat) (x : Nat) (B : List Nat) : (A ++ x :: B).drop (A.length + 1) = B := by
  rw [show A ++ x :: B = (A ++ [x]) ++ B by simp]
  exact List.drop_left' (by simp)
theorem isI_iff {i : Int} {x : Nat} : isI i x = true ↔ (x : Int) = i := by unfold isI; exact beq_iff_eq
theorem hasI_iff {i : Int} {l : List Nat} : hasI i l = true ↔ ∃ x ∈ l, (x : Int) = i := by
  unfold hasI
  rw [List.any_eq_true]
  exact ⟨fun ⟨x, h1, h2⟩ => ⟨x, h1, isI_iff.1 h2⟩, fun ⟨x, h1, h2⟩ => ⟨x, h1, isI_iff.2 h2⟩⟩
/-- Where a place is: nowhere, or in one row, once. -/
theorem at_cases {T : List Ln} {E : List En} {R : List (List Nat)} {n : Nat} (h : Rel T E R n) (i : Int) :
    (atI R i = -1 ∧ poI R i = -1 ∧ (lkT T i).row = -1 ∧ ∀ l ∈ R, ∀ x ∈ l, ¬ (x : Int) = i) ∨
    ∃ (r x : Nat) (A B : List Nat), i = x ∧ x < n ∧ r < n ∧ R[r]? = some (A ++ x :: B) ∧ atR R r = A ++ x :: B ∧ atI R i = r ∧ poI R i = A.length ∧ x ∉ A ∧ lkT T i = ⟨r, laI A, hdI B⟩ := by
  rcases idxB_spec (hasI i) R with ⟨h1, h2⟩ | ⟨r, l, h1, h2, h3, _⟩
  · left
    have hno : ∀ l ∈ R, ∀ x ∈ l, ¬ (x : Int) = i := fun l hl x hx e => by
      have := h2 l hl
      rw [hasI_iff.2 ⟨x, hx, e⟩] at this
      cases this
    refine ⟨h1, if_pos h1, ?_, hno⟩
    cases hin : inC n i with
    | false => rw [lkT_out T n i h.tl hin]
    | true =>
      obtain ⟨k, rfl, hk, hT⟩ := lkT_in T n i h.tl hin
      rw [h.off k hk (fun l hl hm => hno l hl k hm rfl)] at hT
      injection hT with hT
      rw [← hT]
  · right
    obtain ⟨x, hx, rfl⟩ := hasI_iff.1 h3
    have hxn := h.lt l (List.mem_of_getElem? h2) x hx
    have hr : r < n := by rw [← h.rl]; exact (List.getElem?_eq_some_iff.1 h2).1
    obtain ⟨A, B, hAB, hA⟩ := List.eq_append_cons_of_mem hx
    subst hAB
    have hat : atR R r = A ++ x :: B := by
      have := atR_in h.rl hr
      rw [h2] at this
      injection this with this
      exact this.symm
    have hra : atI R (x : Int) = (r : Int) := h1
    refine ⟨r, x, A, B, rfl, hxn, hr, h2, hat, hra, ?_, hA, ?_⟩
    · unfold poI
      rw [hra, if_neg (by omega), hat]
      refine idxB_hit _ _ A.length x (by simp) (isI_iff.2 rfl) (fun y hy => ?_)
      rw [List.take_left'] at hy
      · cases he : isI (x : Int) y with
        | false => rfl
        | true =>
          have := isI_iff.1 he
          have e : y = x := by omega
          exact absurd (e ▸ hy) hA
      · rfl
    · have := h.at' r A x B h2
      unfold lkT
      rw [if_pos (by omega), show (x : Int).toNat = x by omega, this]; rfl
theorem row_eq {T : List Ln} {E : List En} {R : List (List Nat)} {n : Nat} (h : Rel T E R n) (i : Int) : (lkT T i).row = atI R i := by
  rcases at_cases h i with ⟨h1, _, h3, _⟩ | ⟨r, x, A, B, rfl, _, _, _, _, h1, _, _, h2⟩
  · rw [h1, h3]
  · rw [h1, h2]
theorem nx_eq {T : List Ln} {E : List En} {R : List (List Nat)} {n : Nat} (h : Rel T E R n) (i : Int) : nxV T i = nxR R i := by
  unfold nxV nxR
  rw [row_eq h i]
  split
  · rfl
  · rename_i hne
    rcases at_cases h i with ⟨h1, _, _, _⟩ | ⟨r, x, A, B, rfl, _, _, _, hat, h1, h2, _, h3⟩
    · exact absurd h1 hne
    · rw [h1, h2, h3, hat, show ((A.length : Nat) : Int).toNat + 1 = A.length + 1 by omega, drop_past A x B]
theorem crowR_any (g h1 h2 n : Nat) (R : List (List Nat)) (i : Int) (w : World) (hc : Chn w g h1 h2 n R) :
    Calls Try.prog 26 #[.pointer (some ⟨g, 0, none⟩), .int .i64 i] w fun e w' => e = .returned (.tuple #[.int .i64 (z1 (atI R i)), .bool (atI R i != -1)]) ∧ w = w' := by
  obtain ⟨T, E, hc, hrel⟩ := hc
  have h := crow_any g h1 h2 n T E i w hc
  rw [row_eq hrel i] at h
  exact h
theorem cnextR_any (g h1 h2 n : Nat) (R : List (List Nat)) (i : Int) (w : World) (hc : Chn w g h1 h2 n R) :
    Calls Try.prog 29 #[.pointer (some ⟨g, 0, none⟩), .int .i64 i] w fun e w' => e = .returned (.tuple #[.int .i64 (z1 (nxR R i)), .bool (nxR R i != -1)]) ∧ w = w' := by
  obtain ⟨T, E, hc, hrel⟩ := hc
  have h := cnext_any g h1 h2 n T E i w hc
  rw [nx_eq hrel i] at h
  exact h
end Go.Proofs.Ythkjkmjcnphjgaa
