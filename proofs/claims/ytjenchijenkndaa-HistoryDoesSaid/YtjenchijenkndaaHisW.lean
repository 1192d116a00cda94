/- The statement HistoryParts: the walk. No condition. -/
import Derived.Test.YtjenchijenkndaaHis
import Derived.Test.YtjenchijenkndaaHisA
import Derived.Test.YtjenchijenkndaaMapB
set_option linter.unusedVariables false
set_option linter.unusedSimpArgs false
namespace Go.Proofs.Ytjenchijenkndaa
open Go.RowKit (wrap32 wrap64)
open Go.RowKit
def inT (C : List Int) (k : Nat) (z : Int) : Bool := (C.take k).any fun y => y == z
theorem inT_snoc (C : List Int) (k : Nat) (y : Int) (h : C[k]? = some y) : (fun z => z == y || inT C k z) = inT C (k + 1) := by
  funext z
  unfold inT
  rw [take_snocG C k y h, List.any_append]
  have : [y].any (fun x => x == z) = (z == y) := by
    simp only [List.any_cons, List.any_nil, Bool.or_false]
    rw [Bool.eq_iff_iff, beq_iff_eq, beq_iff_eq]
    exact ⟨fun h => h.symm, fun h => h.symm⟩
  rw [this, Bool.or_comm]
theorem inT_new (C : List Int) (hC : C.Nodup) (k : Nat) (y : Int) (h : C[k]? = some y) : inT C k y = false := by
  cases hh : inT C k y with
  | false => rfl
  | true =>
    unfold inT at hh
    obtain ⟨x, hx, e⟩ := List.any_eq_true.1 hh
    have e := beq_iff_eq.1 e
    subst e
    have hsp : C = C.take k ++ x :: C.drop (k + 1) := by
      obtain ⟨h1, h2⟩ := List.getElem?_eq_some_iff.1 h
      conv => lhs; rw [← List.take_append_drop k C, List.drop_eq_getElem_cons h1, h2]
    rw [hsp, List.nodup_append] at hC
    exact absurd rfl (hC.2.2 x hx x (by simp))
theorem seenT_fun (L : List Ev) (k : Nat) (x : Ev) (h : L[k]? = some x) : (fun z => z == x.tx || seenT Ev.tx L k z) = seenT Ev.tx L (k + 1) := by
  funext z
  rw [seenT_snoc Ev.tx L k x h, Bool.or_comm]
  congr 1
  rw [Bool.eq_iff_iff, beq_iff_eq, beq_iff_eq]
  exact ⟨fun h => h.symm, fun h => h.symm⟩
theorem of_len (L : List Ev) (tx : Int) : (L.filter fun x => !isOf tx x).length = (L.filter fun x => x.tx == tx).length := by
  congr 1
  apply List.filter_congr
  intro x _
  unfold isOf bne
  simp
end Go.Proofs.Ytjenchijenkndaa
