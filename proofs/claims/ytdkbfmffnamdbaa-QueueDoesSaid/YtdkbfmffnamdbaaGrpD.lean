/- The statement GroupStays: the walk. No condition. -/
import Derived.Test.YtdkbfmffnamdbaaGrpC
import Derived.Deep.DeepCutAuto
set_option linter.unusedVariables false
set_option linter.unusedSimpArgs false
namespace Go.Proofs.Ytdkbfmffnamdbaa
open Go.RowKit (wrap32 wrap64)
open Go.RowKit Go.Shelf Go.Sort
theorem setT_ok (tx m : Int) (L : List Hd) (h : ∀ x ∈ L, okHd x) (htx : (Lit.int .i64 tx).wf = true) (hm : (Lit.int .i64 m).wf = true) : ∀ x ∈ setT tx m L, okHd x := by
  intro x hx
  rcases idxB_spec (isTx tx) L with ⟨_, hms⟩ | ⟨k, y, _, hy, hp, hb⟩
  · rw [setT_miss tx m L hms] at hx
    rcases List.mem_append.1 hx with hx | hx
    · exact h x hx
    · rw [List.mem_singleton.1 hx]; exact ⟨htx, hm⟩
  · rw [setT_hit tx m L k y hy hp hb] at hx
    rcases List.mem_or_eq_of_mem_set hx with hx | hx
    · exact h x hx
    · rw [hx]; exact ⟨(h y (List.mem_of_getElem? hy)).1, hm⟩
end Go.Proofs.Ytdkbfmffnamdbaa
