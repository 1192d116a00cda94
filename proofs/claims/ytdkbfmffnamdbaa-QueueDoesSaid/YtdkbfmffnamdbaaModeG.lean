/- The statement ModeGroups: the walk. No condition. -/
import Derived.Test.YtdkbfmffnamdbaaRefB
import Derived.Test.YtdkbfmffnamdbaaSl
set_option linter.unusedVariables false
set_option linter.unusedSimpArgs false
namespace Go.Proofs.Ytdkbfmffnamdbaa
open Go.RowKit (wrap32 wrap64)
open Go.RowKit
def grpT (l : List Int) : Int := l.foldl supT 0
theorem grpT_snoc (l : List Int) (x : Int) : grpT (l ++ [x]) = supT (grpT l) x := by unfold grpT; rw [List.foldl_append]; rfl
theorem grpT_range (l : List Int) : 0 ≤ grpT l ∧ grpT l ≤ 6 := by
  unfold grpT
  rcases List.eq_nil_or_concat l with rfl | ⟨l', x, rfl⟩
  · exact ⟨by decide, by decide⟩
  · rw [List.concat_eq_append, List.foldl_append]; exact supT_range _ _
theorem sup_zero (m : Int) (h : 0 ≤ m ∧ m ≤ 6) : supT m 0 = m := by
  refine seven (p := fun m => supT m 0 = m) ?_ ?_ ?_ ?_ ?_ ?_ ?_ m h <;> decide
theorem fold_sup (m : Int) (l : List Int) (h : 0 ≤ m ∧ m ≤ 6) : l.foldl supT m = supT m (grpT l) := by
  induction l generalizing m with
  | nil => exact (sup_zero m h).symm
  | cons x l ih =>
    have e1 := ih (supT m x) (supT_range m x)
    have e2 := ih (supT 0 x) (supT_range 0 x)
    have e3 : grpT (x :: l) = l.foldl supT (supT 0 x) := rfl
    show l.foldl supT (supT m x) = supT m (grpT (x :: l))
    rw [e1, e3, e2, ← sup_assoc, ← sup_assoc, sup_zero m h]
theorem grpT_append (l k : List Int) : grpT (l ++ k) = supT (grpT l) (grpT k) := by
  have e : grpT (l ++ k) = k.foldl supT (grpT l) := by unfold grpT; rw [List.foldl_append]
  rw [e, fold_sup _ _ (grpT_range l)]
theorem cov_trans (a b c : Int) (h1 : covT a b = true) (h2 : covT b c = true) : covT a c = true := by
  unfold covT at *; simp at *; omega
theorem grpT_cov (l : List Int) (x : Int) (h : x ∈ l) : covT (grpT l) x = true := by
  obtain ⟨a, b, rfl⟩ := List.append_of_mem h
  have : a ++ x :: b = (a ++ [x]) ++ b := by simp
  rw [this, grpT_append, grpT_snoc]
  exact cov_trans _ _ _ (cov_sup_l _ _) (cov_sup_r _ _)
theorem Try.infoI : (Try.prog.info? 3).map (fun i => (i.zero, i.size, i.bytes)) = some (some (.int .i64 0), 1, 8) := by kernel_rfl
theorem take_snocI (xs : List Int) (k : Nat) (h : k < xs.length) : xs.take (k + 1) = xs.take k ++ [xs.getD k 0] := by
  rw [List.take_succ_eq_append_getElem h, List.getD_eq_getElem?_getD, List.getElem?_eq_getElem h]; rfl
end Go.Proofs.Ytdkbfmffnamdbaa
