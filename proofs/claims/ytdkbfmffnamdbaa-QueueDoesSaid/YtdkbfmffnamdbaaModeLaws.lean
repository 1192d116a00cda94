/- Plain facts on modes: the lattice, what goes with what. No condition. -/
import Derived.Test.YtdkbfmffnamdbaaModeB
set_option linter.unusedVariables false
set_option linter.unusedSimpArgs false
namespace Go.Proofs.Ytdkbfmffnamdbaa
theorem supT_rt (m n : Int) : supT (rt m) (rt n) = supT m n := by unfold supT; simp only [reT_rt, imT_rt]
theorem covT_rt (m n : Int) : covT (rt m) (rt n) = covT m n := by unfold covT; simp only [reT_rt, imT_rt]
def f7 (m : Int) : Fin 7 := ⟨(rt m).toNat, by have := rt_range m; omega⟩
theorem f7_rt (m : Int) : ((f7 m).val : Int) = rt m := by have := rt_range m; show (((rt m).toNat : Nat) : Int) = rt m; omega
theorem sup_l (a b : Int) : supT (rt a) b = supT a b := by rw [← supT_rt (rt a) b, ← supT_rt a b]; congr 1; unfold rt; split <;> simp_all
theorem rt_rt (a : Int) : rt (rt a) = rt a := by have := rt_range a; exact if_pos this
theorem sup_r (a b : Int) : supT a (rt b) = supT a b := by rw [← supT_rt a (rt b), ← supT_rt a b, rt_rt]
theorem cov_l (a b : Int) : covT (rt a) b = covT a b := by rw [← covT_rt (rt a) b, ← covT_rt a b, rt_rt]
theorem cov_r (a b : Int) : covT a (rt b) = covT a b := by rw [← covT_rt a (rt b), ← covT_rt a b, rt_rt]
theorem supT_range (a b : Int) : 0 ≤ supT a b ∧ supT a b ≤ 6 := by unfold supT ofS; repeat' split
                                                                   all_goals omega
theorem rt_sup (a b : Int) : rt (supT a b) = supT a b := if_pos (supT_range a b)
theorem lat2 : ∀ a b : Fin 7, supT (a.val : Int) (b.val : Int) = supT (b.val : Int) (a.val : Int) ∧ covT (supT (a.val : Int) (b.val : Int)) (a.val : Int) = true ∧ covT (supT (a.val : Int) (b.val : Int)) (b.val : Int) = true ∧ supT (a.val : Int) (a.val : Int) = (a.val : Int) ∧ covT (a.val : Int) (a.val : Int) = true := by decide +kernel
theorem lat3 : ∀ a b c : Fin 7, supT (supT (a.val : Int) (b.val : Int)) (c.val : Int) = supT (a.val : Int) (supT (b.val : Int) (c.val : Int)) ∧ (covT (c.val : Int) (a.val : Int) = true → covT (c.val : Int) (b.val : Int) = true → covT (c.val : Int) (supT (a.val : Int) (b.val : Int)) = true) := by decide +kernel
theorem sup_comm (a b : Int) : supT a b = supT b a := by
  have h := (lat2 (f7 a) (f7 b)).1
  rw [f7_rt, f7_rt] at h
  rw [← supT_rt a b, ← supT_rt b a]; exact h
theorem cov_sup_l (a b : Int) : covT (supT a b) a = true := by
  have h := (lat2 (f7 a) (f7 b)).2.1
  rw [f7_rt, f7_rt, supT_rt, cov_r] at h; exact h
theorem cov_sup_r (a b : Int) : covT (supT a b) b = true := by
  have h := (lat2 (f7 a) (f7 b)).2.2.1
  rw [f7_rt, f7_rt, supT_rt, cov_r] at h; exact h
theorem sup_self (a : Int) : supT a a = rt a := by
  have h := (lat2 (f7 a) (f7 a)).2.2.2.1
  rw [f7_rt, supT_rt] at h; exact h
theorem cov_self (a : Int) : covT a a = true := by
  have h := (lat2 (f7 a) (f7 a)).2.2.2.2
  rw [f7_rt, covT_rt] at h; exact h
theorem sup_assoc (a b c : Int) : supT (supT a b) c = supT a (supT b c) := by
  have h := (lat3 (f7 a) (f7 b) (f7 c)).1
  simp only [f7_rt, sup_l, sup_r] at h; exact h
theorem cov_least (a b c : Int) (h1 : covT c a = true) (h2 : covT c b = true) : covT c (supT a b) = true := by
  have h := (lat3 (f7 a) (f7 b) (f7 c)).2
  simp only [f7_rt, covT_rt, supT_rt] at h
  rw [cov_l] at h
  exact h h1 h2
theorem of_at (s : Int) (h : 0 ≤ s ∧ s ≤ 6) : ofS (reT s) (imT s) = s := by
  refine seven (p := fun s => ofS (reT s) (imT s) = s) ?_ ?_ ?_ ?_ ?_ ?_ ?_ s h <;> decide
/-- What goes with a mode goes with each that it covers. -/
theorem less3 : ∀ m n k : Fin 7, covT (m.val : Int) (n.val : Int) = true → (comT (m.val : Int) (k.val : Int) = true → comT (n.val : Int) (k.val : Int) = true) ∧ (comT (k.val : Int) (m.val : Int) = true → comT (k.val : Int) (n.val : Int) = true) := by decide +kernel
theorem par2 : ∀ m n : Fin 7, parT (supT (m.val : Int) (n.val : Int)) = supT (parT (m.val : Int)) (parT (n.val : Int)) ∧ (covT (m.val : Int) (n.val : Int) = true → covT (parT (m.val : Int)) (parT (n.val : Int)) = true) := by decide +kernel
theorem com_less_l (m n k : Int) (h : covT m n = true) (hc : comT m k = true) : comT n k = true := by
  have g := less3 (f7 m) (f7 n) (f7 k)
  simp only [f7_rt, covT_rt, comT_rt] at g
  exact (g h).1 hc
theorem com_less_r (m n k : Int) (h : covT m n = true) (hc : comT k m = true) : comT k n = true := by
  have g := less3 (f7 m) (f7 n) (f7 k)
  simp only [f7_rt, covT_rt, comT_rt] at g
  exact (g h).2 hc
theorem par_sup (m n : Int) : parT (supT m n) = supT (parT m) (parT n) := by
  have g := (par2 (f7 m) (f7 n)).1
  simp only [f7_rt, supT_rt, parT_rt] at g; exact g
theorem par_cov (m n : Int) (h : covT m n = true) : covT (parT m) (parT n) = true := by
  have g := (par2 (f7 m) (f7 n)).2
  simp only [f7_rt, covT_rt, parT_rt] at g; exact g h
theorem re_cov (m n : Int) (h : covT m n = true) : reT n ≤ reT m := by
  unfold covT at h; simp at h; exact h.1
theorem prs_nm (m : Int) : prsB (nmB m) = true ∧ prsI (nmB m) = rt m := by
  rw [← nmB_rt]
  have hr := rt_range m
  generalize rt m = r at hr
  revert r
  intro r
  refine seven (p := fun r => prsB (nmB r) = true ∧ prsI (nmB r) = r) ?_ ?_ ?_ ?_ ?_ ?_ ?_ r <;> decide
end Go.Proofs.Ytdkbfmffnamdbaa
