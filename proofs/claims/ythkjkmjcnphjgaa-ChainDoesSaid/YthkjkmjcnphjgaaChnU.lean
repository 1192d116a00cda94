/- The statement ChainBuilds: the plain law. No condition. -/
import Derived.Test.YthkjkmjcnphjgaaChnT
set_option linter.unusedVariables false
set_option linter.unusedSimpArgs false
namespace Go.Proofs.Ythkjkmjcnphjgaa
open Go.RowKit (wrap32 wrap64)
open Go.RowKit
/-- Forty rows, of which one is W. -/
def rowsW (r : Nat) (W : List Nat) : List (List Nat) := (List.replicate 40 []).set r W
def goodX (W : List Nat) (x : Int) : Bool := inC 40 x && !W.contains x.toNat
theorem rowsW_at (r : Nat) (W : List Nat) (h : r < 40) : atR (rowsW r W) r = W := by
  unfold atR rowsW
  rw [if_pos (by omega), show (r : Int).toNat = r by omega, List.getElem?_set_self (by simp; exact h)]; rfl
theorem rowsW_used (r : Nat) (W : List Nat) (h : r < 40) (i : Nat) : usedR (rowsW r W) i = W.contains i := by
  have hm : ∀ l ∈ rowsW r W, l = W ∨ l = [] := fun l hl => by
    rcases List.mem_or_eq_of_mem_set hl with h | h
    · exact .inr (List.mem_replicate.1 h).2
    · exact .inl h
  have hW : W ∈ rowsW r W := List.mem_of_getElem? (i := r) (by unfold rowsW; rw [List.getElem?_set_self (by simp; exact h)])
  cases hc : W.contains i with
  | true => exact usedR_true.2 ⟨W, hW, by simpa using hc⟩
  | false =>
    refine usedR_false.2 (fun l hl => ?_)
    rcases hm l hl with rfl | rfl
    · simpa using hc
    · simp
theorem rowsW_free (r : Nat) (W : List Nat) (h : r < 40) (x : Int) : freeR 40 (rowsW r W) r x = goodX W x := by
  unfold freeR goodX
  rw [rowsW_used r W h, show inC 40 (r : Int) = true by unfold inC; simp; omega]; simp
theorem rowsW_back (r : Nat) (W : List Nat) (h : r < 40) (x : Int) : backR 40 (rowsW r W) r x = rowsW r (if goodX W x then W ++ [x.toNat] else W) := by
  unfold backR
  rw [rowsW_free r W h, rowsW_at r W h, show (r : Int).toNat = r by omega]
  cases hg : goodX W x with
  | true => simp only [if_true]; unfold rowsW; rw [List.set_set]
  | false => simp
theorem rowsW_aheadB (r : Nat) (f : Nat) (V : List Nat) (h : r < 40) (hf : f < 40) (x : Int) : aheadB 40 (rowsW r (f :: V)) r f x = goodX (f :: V) x := by
  unfold aheadB
  rw [rowsW_free r _ h, rowsW_at r _ h, show inC 40 (f : Int) = true by unfold inC; simp; omega, show (f : Int).toNat = f by omega]
  simp
theorem rowsW_ahead (r : Nat) (f : Nat) (V : List Nat) (h : r < 40) (hf : f < 40) (x : Int) (hg : goodX (f :: V) x = true) : aheadR 40 (rowsW r (f :: V)) r f x = rowsW r (x.toNat :: f :: V) := by
  unfold aheadR
  rw [rowsW_aheadB r f V h hf, if_pos hg, rowsW_at r _ h, show (r : Int).toNat = r by omega, show (f : Int).toNat = f by omega]
  have : insB f x.toNat (f :: V) = x.toNat :: f :: V := if_pos rfl
  rw [this]
  unfold rowsW; rw [List.set_set]
theorem goodX_rev (W : List Nat) (x : Int) : goodX W.reverse x = goodX W x := by unfold goodX; simp
theorem rowsW_new (r : Nat) (h : r < 40) : (List.replicate 40 ([] : List Nat)) = rowsW r [] := by
  unfold rowsW
  apply List.ext_getElem?
  intro j
  rw [List.getElem?_set]
  split
  · rename_i e
    subst e
    rw [if_pos (by simp; exact h), List.getElem?_replicate, if_pos h]
  · rfl
end Go.Proofs.Ythkjkmjcnphjgaa
