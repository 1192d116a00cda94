/- More contracts of package mode, and of the reference's functions on modes. No condition. -/
import Derived.Test.YtdkbfmffnamdbaaMode
import Derived.Deep.WholeRow
set_option linter.unusedVariables false
set_option linter.unusedSimpArgs false
namespace Go.Proofs.Ytdkbfmffnamdbaa
open Go.RowKit (wrap32 wrap64)
open Go.RowKit

theorem seven {p : Int → Prop} (h0 : p 0) (h1 : p 1) (h2 : p 2) (h3 : p 3) (h4 : p 4) (h5 : p 5) (h6 : p 6) (i : Int) (h : 0 ≤ i ∧ i ≤ 6) : p i := by
  obtain rfl | rfl | rfl | rfl | rfl | rfl | rfl : i = 0 ∨ i = 1 ∨ i = 2 ∨ i = 3 ∨ i = 4 ∨ i = 5 ∨ i = 6 := by omega
  all_goals assumption
/-- What goes with what. -/
def comT (h a : Int) : Bool :=
  if h < 1 ∨ 6 < h ∨ a < 1 ∨ 6 < a then true else
  if h = 1 then a != 6 else if h = 2 then a == 1 || a == 2 else if h = 3 then a == 1 || a == 3 || a == 5 else if h = 6 then false else a == 1
def comR (l : List Int) : Array Value := #[.bool (l.contains 0), .bool (l.contains 1), .bool (l.contains 2), .bool (l.contains 3), .bool (l.contains 4), .bool (l.contains 5), .bool (l.contains 6)]
def comTab : Array Value := comR [] ++ comR [1, 2, 3, 4, 5] ++ comR [1, 2] ++ comR [1, 3, 5] ++ comR [1] ++ comR [1] ++ comR []
def comZero : Array Value := comR [] ++ comR [] ++ comR [] ++ comR [] ++ comR [] ++ comR [] ++ comR []
theorem com_store (w : World) : (storeCells ⟨w.heap.size, 0, none⟩ comTab.toList).run Try.prog (w.alloc (.cells comZero 93)) = .ok () (w.alloc (.cells comTab 93)) :=
  run_storeCells_new w 93 comZero comTab (by kernel_rfl) (by kernel_rfl) (by kernel_rfl)
theorem com_cell (w : World) (i j : Int) (hi : 0 ≤ i ∧ i ≤ 6) (hj : 0 ≤ j ∧ j ≤ 6) (h1 : i ≠ 0) (h2 : j ≠ 0) : (w.alloc (.cells comTab 93)).cell? ⟨w.heap.size, i.toNat * 7 + j.toNat, none⟩ = some (.bool (comT i j)) := by
  have e : comTab[i.toNat * 7 + j.toNat]? = some (.bool (comT i j)) := by
    revert h1 h2
    refine seven (p := fun i => i ≠ 0 → j ≠ 0 → comTab[i.toNat * 7 + j.toNat]? = some (.bool (comT i j))) ?_ ?_ ?_ ?_ ?_ ?_ ?_ i hi <;>
    refine seven (p := fun j => _ ≠ _ → j ≠ 0 → comTab[(_ : Int).toNat * 7 + j.toNat]? = some (.bool (comT _ j))) ?_ ?_ ?_ ?_ ?_ ?_ ?_ j hj <;> intro h1 h2 <;> first | exact absurd rfl h1 | exact absurd rfl h2 | rfl
  rw [← e]; exact cell_of_row _ _ _ _ _ _ (heap_alloc_new _ _)
theorem wpList_ok {P : Program} {ops : Array Oper} {rest : List Oper} {o : Oper} {a : Act} {w : World} {Q : Exit → Act → World → Prop} (hg : o.guard = none) {v : Value} {w' : World} (h : (execOp a.eval o).run P w = .ok (.value v) w') (hk : wpList P ops Q rest (a.put o.dst v) w') : wpList P ops Q (o :: rest) a w :=
  wpList_plain hg fun K hK => by unfold Oper.wp; rw [h]; exact hK _ _ hk
theorem comT_rt (m n : Int) : comT (rt m) (rt n) = comT m n := by
  unfold comT rt
  by_cases h1 : 0 ≤ m ∧ m ≤ 6
  · by_cases h2 : 0 ≤ n ∧ n ≤ 6
    · rw [if_pos h1, if_pos h2]
    · rw [if_pos h1, if_neg h2, if_pos (by omega), if_pos (by omega)]
  · rw [if_neg h1, if_pos (by omega), if_pos (by omega)]
theorem comT_0l (m n : Int) (h : rt m = 0) : comT m n = true := by rw [← comT_rt, h]; unfold comT; rw [if_pos (by omega)]
theorem comT_0r (m n : Int) (h : rt n = 0) : comT m n = true := by rw [← comT_rt, h]; unfold comT; rw [if_pos (by omega)]
set_option maxHeartbeats 400000 in
theorem compat_any (m n : Int) (w : World) : Calls Try.prog 57 #[.int .i64 m, .int .i64 n] w fun e w' => e = .returned (.bool (comT m n)) ∧ Below w.heap.size w w' := by
  have r7 := com_store w
  have hm := rt_range m
  have hn := rt_range n
  by_cases h1 : rt m = 0
  · rw [comT_0l m n h1]
    go_enter Try.func57, Try.ntmps57
    go_wp2_with (first
      | (with_reducible refine wpList_ok (o := ⟨some 8, _, _, _, _, _⟩) rfl (v := .agg (comR [1, 2, 3, 4, 5])) (w' := w) (by kernel_rfl) ?_)
      | (with_reducible refine wpList_ok (o := ⟨some 9, _, _, _, _, _⟩) rfl (v := .agg (comR [1, 2])) (w' := w) (by kernel_rfl) ?_)
      | (with_reducible refine wpList_ok (o := ⟨some 10, _, _, _, _, _⟩) rfl (v := .agg (comR [1, 3, 5])) (w' := w) (by kernel_rfl) ?_)
      | (with_reducible refine wpList_ok (o := ⟨some 11, _, _, _, _, _⟩) rfl (v := .agg (comR [1])) (w' := w) (by kernel_rfl) ?_)
      | (with_reducible refine wpList_ok (o := ⟨some 12, _, _, _, _, _⟩) rfl (v := .agg (comR [1])) (w' := w) (by kernel_rfl) ?_)
      | (with_reducible refine wpList_ok (o := ⟨some 13, _, _, _, _, _⟩) rfl (v := .agg comTab) (w' := w) (by kernel_rfl) ?_)
      | (with_reducible refine wpList_ok (o := ⟨some 5, _, _, _, _, _⟩) rfl (v := .pointer (some ⟨w.heap.size, 0, none⟩)) (w' := w.alloc (.cells comZero 93)) (by kernel_rfl) ?_)
      | (go_at_call 72; refine (right_any _ _).mono ?_; rintro e w' ⟨rfl, rfl⟩))
    go_ret
    exact ⟨rfl, (Below.refl _ _).alloc (Nat.le_refl _) _⟩
  · by_cases h2 : rt n = 0
    · rw [comT_0r m n h2]
      go_enter Try.func57, Try.ntmps57
      go_wp2_with (first
        | (with_reducible refine wpList_ok (o := ⟨some 8, _, _, _, _, _⟩) rfl (v := .agg (comR [1, 2, 3, 4, 5])) (w' := w) (by kernel_rfl) ?_)
        | (with_reducible refine wpList_ok (o := ⟨some 9, _, _, _, _, _⟩) rfl (v := .agg (comR [1, 2])) (w' := w) (by kernel_rfl) ?_)
        | (with_reducible refine wpList_ok (o := ⟨some 10, _, _, _, _, _⟩) rfl (v := .agg (comR [1, 3, 5])) (w' := w) (by kernel_rfl) ?_)
        | (with_reducible refine wpList_ok (o := ⟨some 11, _, _, _, _, _⟩) rfl (v := .agg (comR [1])) (w' := w) (by kernel_rfl) ?_)
        | (with_reducible refine wpList_ok (o := ⟨some 12, _, _, _, _, _⟩) rfl (v := .agg (comR [1])) (w' := w) (by kernel_rfl) ?_)
        | (with_reducible refine wpList_ok (o := ⟨some 13, _, _, _, _, _⟩) rfl (v := .agg comTab) (w' := w) (by kernel_rfl) ?_)
        | (with_reducible refine wpList_ok (o := ⟨some 5, _, _, _, _, _⟩) rfl (v := .pointer (some ⟨w.heap.size, 0, none⟩)) (w' := w.alloc (.cells comZero 93)) (by kernel_rfl) ?_)
        | (go_at_call 72; refine (right_any _ _).mono ?_; rintro e w' ⟨rfl, rfl⟩))
      go_ret
      exact ⟨rfl, (Below.refl _ _).alloc (Nat.le_refl _) _⟩
    · have hc := com_cell w (rt m) (rt n) hm hn h1 h2
      rw [comT_rt] at hc
      have b1 : (rt m == 0) = false := beq_eq_false_iff_ne.2 h1
      have b2 : (rt n == 0) = false := beq_eq_false_iff_ne.2 h2
      go_enter Try.func57, Try.ntmps57
      go_wp2_with (first
        | (with_reducible refine wpList_ok (o := ⟨some 8, _, _, _, _, _⟩) rfl (v := .agg (comR [1, 2, 3, 4, 5])) (w' := w) (by kernel_rfl) ?_)
        | (with_reducible refine wpList_ok (o := ⟨some 9, _, _, _, _, _⟩) rfl (v := .agg (comR [1, 2])) (w' := w) (by kernel_rfl) ?_)
        | (with_reducible refine wpList_ok (o := ⟨some 10, _, _, _, _, _⟩) rfl (v := .agg (comR [1, 3, 5])) (w' := w) (by kernel_rfl) ?_)
        | (with_reducible refine wpList_ok (o := ⟨some 11, _, _, _, _, _⟩) rfl (v := .agg (comR [1])) (w' := w) (by kernel_rfl) ?_)
        | (with_reducible refine wpList_ok (o := ⟨some 12, _, _, _, _, _⟩) rfl (v := .agg (comR [1])) (w' := w) (by kernel_rfl) ?_)
        | (with_reducible refine wpList_ok (o := ⟨some 13, _, _, _, _, _⟩) rfl (v := .agg comTab) (w' := w) (by kernel_rfl) ?_)
        | (with_reducible refine wpList_ok (o := ⟨some 5, _, _, _, _, _⟩) rfl (v := .pointer (some ⟨w.heap.size, 0, none⟩)) (w' := w.alloc (.cells comZero 93)) (by kernel_rfl) ?_)
        | (go_at_call 72; refine (right_any _ _).mono ?_; rintro e w' ⟨rfl, rfl⟩))
      go_ret
      exact ⟨rfl, (Below.refl _ _).alloc (Nat.le_refl _) _⟩
def symT (m n : Int) : Bool := comT m n || comT n m
set_option maxHeartbeats 400000 in
theorem sym_any (m n : Int) (w : World) : Calls Try.prog 54 #[.int .i64 m, .int .i64 n] w fun e w' => e = .returned (.bool (symT m n)) ∧ Below w.heap.size w w' := by
  unfold symT
  cases h : comT m n
  · go_enter Try.func54, Try.ntmps54
    go_wp2_with fail
    refine (compat_any m n _).mono ?_
    rintro e w1 ⟨rfl, hb1⟩
    rw [h]
    go_wp2_with fail
    refine (compat_any n m _).mono ?_
    rintro e w2 ⟨rfl, hb2⟩
    go_wp2
    go_ret
    exact ⟨rfl, hb1.trans (hb2.mono hb1.size)⟩
  · go_enter Try.func54, Try.ntmps54
    go_wp2_with fail
    refine (compat_any m n _).mono ?_
    rintro e w1 ⟨rfl, hb1⟩
    rw [h]
    go_wp2
    go_ret
    exact ⟨rfl, hb1⟩
def parT (m : Int) : Int := if m < 1 ∨ 6 < m then 0 else if m = 1 ∨ m = 3 then 1 else 2
theorem parT_rt (m : Int) : parT (rt m) = parT m := by unfold parT rt; repeat' split
                                                       all_goals omega
/-! ### Names -/
def nmB (m : Int) : ByteArray := if m = 1 then ⟨#[73, 83]⟩ else if m = 2 then ⟨#[73, 88]⟩ else if m = 3 then ⟨#[83]⟩ else if m = 4 then ⟨#[83, 73, 88]⟩ else if m = 5 then ⟨#[85]⟩ else if m = 6 then ⟨#[88]⟩ else ⟨#[110, 111, 110, 101]⟩
theorem nmB_rt (m : Int) : nmB (rt m) = nmB m := by unfold nmB rt; repeat' split
                                                    all_goals first | rfl | omega
def nms : Array Value := #[.string (nmB 0), .string (nmB 1), .string (nmB 2), .string (nmB 3), .string (nmB 4), .string (nmB 5), .string (nmB 6)]
theorem str_eq {a b : ByteArray} (h : a = b) : (a.toList == b.toList) = true := by subst h; simp
theorem str_ne {a b : ByteArray} (h : a ≠ b) : (a.toList == b.toList) = false := by
  rw [beq_eq_false_iff_ne]
  intro e
  rw [ByteArray.toList_eq, ByteArray.toList_eq] at e
  exact h (ByteArray.ext (Array.toList_inj.1 e))
/-- The number of a name; 7: there is none such. -/
def prsT (s : ByteArray) : Nat := if s = nmB 0 then 0 else if s = nmB 1 then 1 else if s = nmB 2 then 2 else if s = nmB 3 then 3 else if s = nmB 4 then 4 else if s = nmB 5 then 5 else if s = nmB 6 then 6 else 7
theorem prsT_le (s : ByteArray) : prsT s ≤ 7 := by unfold prsT; repeat' split
                                                   all_goals omega
theorem prsT_eq (s : ByteArray) (h : prsT s < 7) : nmB (prsT s) = s := by
  unfold prsT at h ⊢
  by_cases h0 : s = nmB 0
  · rw [if_pos h0]; exact h0.symm
  rw [if_neg h0] at h ⊢
  by_cases h1 : s = nmB 1
  · rw [if_pos h1]; exact h1.symm
  rw [if_neg h1] at h ⊢
  by_cases h2 : s = nmB 2
  · rw [if_pos h2]; exact h2.symm
  rw [if_neg h2] at h ⊢
  by_cases h3 : s = nmB 3
  · rw [if_pos h3]; exact h3.symm
  rw [if_neg h3] at h ⊢
  by_cases h4 : s = nmB 4
  · rw [if_pos h4]; exact h4.symm
  rw [if_neg h4] at h ⊢
  by_cases h5 : s = nmB 5
  · rw [if_pos h5]; exact h5.symm
  rw [if_neg h5] at h ⊢
  by_cases h6 : s = nmB 6
  · rw [if_pos h6]; exact h6.symm
  rw [if_neg h6] at h ⊢
  omega
theorem prsT_nm (k : Nat) (h : k ≤ 6) : prsT (nmB k) = k := by
  obtain rfl | rfl | rfl | rfl | rfl | rfl | rfl : k = 0 ∨ k = 1 ∨ k = 2 ∨ k = 3 ∨ k = 4 ∨ k = 5 ∨ k = 6 := by omega
  all_goals decide
theorem prsT_ne (s : ByteArray) (k : Nat) (h : k < prsT s) : nmB k ≠ s := fun e => by
  have hk : k ≤ 6 := by have := prsT_le s; omega
  rw [← e, prsT_nm k hk] at h
  omega
def prsI (s : ByteArray) : Int := if prsT s < 7 then (prsT s : Int) else 0
def prsB (s : ByteArray) : Bool := decide (prsT s < 7)
end Go.Proofs.Ytdkbfmffnamdbaa
