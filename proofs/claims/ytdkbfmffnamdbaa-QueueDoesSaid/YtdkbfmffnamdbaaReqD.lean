/- request: Insert. No condition. -/
import Derived.Test.YtdkbfmffnamdbaaReqC
import Derived.Deep.RegionWith
import Derived.Shelf.RegionOpenPlain
set_option linter.unusedVariables false
set_option linter.unusedSimpArgs false
namespace Go.Proofs.Ytdkbfmffnamdbaa
open Go.RowKit (wrap32 wrap64)
open Go.RowKit
def insT (x : Wt) (L : List Wt) : List Wt := L.take (placeT L x.conv) ++ [x] ++ L.drop (placeT L x.conv)
theorem placeT_le (L : List Wt) (c : Bool) : placeT L c ≤ L.length := by
  unfold placeT; split
  · exact lastC_le L
  · exact Nat.le_refl _
theorem own_base {w : World} {base base' E s n : Nat} {v : Value} {xs : List Value} (h : w.ownsRow base E s v n xs) (hb : base' ≤ base) : w.ownsRow base' E s v n xs := by
  refine ⟨h.1, ?_⟩
  rcases h.2 with h | ⟨g, cap, cur, hv, hg, r⟩
  · exact .inl h
  · exact .inr ⟨g, cap, cur, hv, Nat.le_trans hb hg, r⟩
theorem own_slot {w : World} {base E s n : Nat} {A : Option Addr} {c : Nat} {xs : List Value} (h : w.ownsRow base E s (.slice A n c) n xs) : ∀ y, A = some y → base ≤ y.block ∧ y.block < w.heap.size := by
  intro y hy
  rcases h.2 with ⟨hv, _⟩ | ⟨g, cap, cur, hv, hg, hw, _⟩
  · injection hv with h1; rw [h1] at hy; cases hy
  · injection hv with h1; rw [h1] at hy; cases hy
    exact ⟨hg, (Array.getElem?_eq_some_iff.1 hw).1⟩
end Go.Proofs.Ytdkbfmffnamdbaa
