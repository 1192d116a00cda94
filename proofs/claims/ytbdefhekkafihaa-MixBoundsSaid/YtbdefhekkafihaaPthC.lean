/- Nodes: path.cut, escutcheonref01.Front. No condition. -/
import Derived.Test.YtbdefhekkafihaaPthB
import Derived.Laws.IdiomCopy
import Derived.BigRegion
set_option linter.unusedVariables false
set_option linter.unusedSimpArgs false
namespace Go.Proofs.Ytbdefhekkafihaa
open Go.RowKit (wrap32 wrap64)
open Go.RowKit Go.Shelf
theorem infoI4 : (Try.prog.info? 3).map (fun i => i.size) = some 1 := by kernel_rfl
set_option maxRecDepth 100000 in
set_option maxHeartbeats 2000000 in
theorem cut1 (x0 x1 x2 x3 dp : Int) (w : World) : Calls Try.prog 45 #[.agg #[.int .i64 x0, .int .i64 x1, .int .i64 x2, .int .i64 x3, .int .i64 dp], .int .i64 1] w fun e w' => e = .returned (.agg #[.int .i64 x0, .int .i64 0, .int .i64 0, .int .i64 0, .int .i64 1]) ∧ Below w.heap.size w w' := by
  have hO : Below w.heap.size w (((w.alloc (.cells #[.int .i64 x0, .int .i64 x1, .int .i64 x2, .int .i64 x3, .int .i64 dp] 50)).alloc (.cells #[.int .i64 0, .int .i64 0, .int .i64 0, .int .i64 0, .int .i64 0] 50)).alloc (.cells #[.int .i64 0, .int .i64 0, .int .i64 0, .int .i64 0, .int .i64 1] 50)) := (((Below.refl _ _).alloc (Nat.le_refl _) _).alloc (by simp) _).alloc (by simp; omega) _
  have hb0 : Bk (((w.alloc (.cells #[.int .i64 x0, .int .i64 x1, .int .i64 x2, .int .i64 x3, .int .i64 dp] 50)).alloc (.cells #[.int .i64 0, .int .i64 0, .int .i64 0, .int .i64 0, .int .i64 0] 50)).alloc (.cells #[.int .i64 0, .int .i64 0, .int .i64 0, .int .i64 0, .int .i64 1] 50)) w.heap.size 50 #[.int .i64 x0, .int .i64 x1, .int .i64 x2, .int .i64 x3, .int .i64 dp] :=
    ((Bk.new w 50 _).below ((Below.refl _ _).alloc (Nat.le_refl _) _)).below ((Below.refl _ _).alloc (Nat.le_refl _) _)
  have hb1 : Bk (((w.alloc (.cells #[.int .i64 x0, .int .i64 x1, .int .i64 x2, .int .i64 x3, .int .i64 dp] 50)).alloc (.cells #[.int .i64 0, .int .i64 0, .int .i64 0, .int .i64 0, .int .i64 0] 50)).alloc (.cells #[.int .i64 0, .int .i64 0, .int .i64 0, .int .i64 0, .int .i64 1] 50)) (w.heap.size + 1) 50 #[.int .i64 0, .int .i64 0, .int .i64 0, .int .i64 0, .int .i64 0] := by
    have := (Bk.new (w.alloc (.cells #[.int .i64 x0, .int .i64 x1, .int .i64 x2, .int .i64 x3, .int .i64 dp] 50)) 50 #[.int .i64 0, .int .i64 0, .int .i64 0, .int .i64 0, .int .i64 0]).below ((Below.refl _ _).alloc (Nat.le_refl _) (.cells #[.int .i64 0, .int .i64 0, .int .i64 0, .int .i64 0, .int .i64 1] 50))
    rw [World.size_alloc] at this
    exact this
  have hb2 : Bk (((w.alloc (.cells #[.int .i64 x0, .int .i64 x1, .int .i64 x2, .int .i64 x3, .int .i64 dp] 50)).alloc (.cells #[.int .i64 0, .int .i64 0, .int .i64 0, .int .i64 0, .int .i64 0] 50)).alloc (.cells #[.int .i64 0, .int .i64 0, .int .i64 0, .int .i64 0, .int .i64 1] 50)) (w.heap.size + 1 + 1) 50 #[.int .i64 0, .int .i64 0, .int .i64 0, .int .i64 0, .int .i64 1] := by
    have := Bk.new ((w.alloc (.cells #[.int .i64 x0, .int .i64 x1, .int .i64 x2, .int .i64 x3, .int .i64 dp] 50)).alloc (.cells #[.int .i64 0, .int .i64 0, .int .i64 0, .int .i64 0, .int .i64 0] 50)) 50 #[.int .i64 0, .int .i64 0, .int .i64 0, .int .i64 0, .int .i64 1]
    rw [World.size_alloc, World.size_alloc] at this
    exact this
  go_enter Try.func45, Try.ntmps45
  go_wp2
  generalize (((w.alloc (.cells #[.int .i64 x0, .int .i64 x1, .int .i64 x2, .int .i64 x3, .int .i64 dp] 50)).alloc (.cells #[.int .i64 0, .int .i64 0, .int .i64 0, .int .i64 0, .int .i64 0] 50)).alloc (.cells #[.int .i64 0, .int .i64 0, .int .i64 0, .int .i64 0, .int .i64 1] 50)) = w3 at hO hb0 hb1 hb2 ⊢
  have hcp := fun ty => run_copy_cells (P := Try.prog) w3.drew 36 36 ty 3 (w.heap.size + 1 + 1) 0 1 4 ⟨w.heap.size, 0, none⟩ 1 4 [.int .i64 x0] Try.underlying36 infoI4 rfl
    (fun j v hj => by
      have hadd : (⟨w.heap.size, 0, none⟩ : Addr).add j = ⟨w.heap.size, j, none⟩ := by unfold Addr.add; split <;> simp_all
      have hjl : j < 1 := (List.getElem?_eq_some_iff.1 hj).1
      rw [hadd, (hb0.below (below_drew _)).cell j]
      obtain rfl : j = 0 := by omega
      all_goals exact hj)
    (fun j hj => by rw [(hb2.below (below_drew _)).cell (0 + j)]; have : j < 1 := hj; rw [Array.getElem?_eq_getElem (by simp; omega)]; rfl)
    (fun j hj => (hb2.below (below_drew _)).frozen _) (by simp [Value.oneCell'])
  simp only [List.length_cons, List.length_nil, World.setCells, Nat.zero_add, Nat.reduceAdd] at hcp
  have hf2 := (hb2.set 0 (.int .i64 x0))
  have hK : Keep (fun i => i = w.heap.size + 1 + 1) w3 (w3.setCell ⟨w.heap.size + 1 + 1, 0, none⟩ (.int .i64 x0)) := (Keep.set _ _ _ _ _ rfl)
  have hf1 := (hK.bk hb1 (by omega)).below (below_drew _)
  have hBl : Below w.heap.size w ((w3.setCell ⟨w.heap.size + 1 + 1, 0, none⟩ (.int .i64 x0))).drew := bl_then (hO.trans (hK.below (by have := hO.size; omega) (fun i hi => by omega))) (Nat.le_refl _) (below_drew _)
  simp only [List.setIfInBounds_toArray, List.set_cons_succ, List.set_cons_zero] at hf2
  replace hf2 := hf2.below (below_drew _)
  have hgi : goInt 1 = .int .i64 1 := rfl
  have HF1 := Lib.hid hf1
  have HF2 := Lib.hid hf2
  have HBl := Lib.hid hBl
  clear hf2 hf1 hK hBl hb0 hb1 hb2 hO
  go_region
  have hg1 := HF1.out
  have hg2 := HF2.out
  have hB4 := HBl.out
  clear HF1 HF2 HBl hcp hgi
  generalize ((w3.setCell ⟨w.heap.size + 1 + 1, 0, none⟩ (.int .i64 x0))).drew = w4 at hg1 hg2 hB4 ⊢
  have c0 := hg2.cell 0
  have c1 := hg2.cell 1
  have c2 := hg2.cell 2
  have c3 := hg2.cell 3
  have c4 := hg2.cell 4
  have u0 := hg1.cell 0
  have u1 := hg1.cell 1
  have u2 := hg1.cell 2
  have u3 := hg1.cell 3
  have u4 := hg1.cell 4
  have f0 := hg1.frozen 0
  have f1 := hg1.frozen 1
  have f2 := hg1.frozen 2
  have f3 := hg1.frozen 3
  have f4 := hg1.frozen 4
  have hF := ((((hg1.set 0 (.int .i64 x0)).set 1 (.int .i64 0)).set 2 (.int .i64 0)).set 3 (.int .i64 0)).set 4 (.int .i64 1)
  have hBF := ((((hB4.setCell (p := ⟨w.heap.size + 1, 0, none⟩) (Nat.le_succ _) (.int .i64 x0)).setCell (p := ⟨w.heap.size + 1, 1, none⟩) (Nat.le_succ _) (.int .i64 0)).setCell (p := ⟨w.heap.size + 1, 2, none⟩) (Nat.le_succ _) (.int .i64 0)).setCell (p := ⟨w.heap.size + 1, 3, none⟩) (Nat.le_succ _) (.int .i64 0)).setCell (p := ⟨w.heap.size + 1, 4, none⟩) (Nat.le_succ _) (.int .i64 1)
  clear hg1 hg2 hB4
  go_wp2
  have y0 := hF.cell 0
  have y1 := hF.cell 1
  have y2 := hF.cell 2
  have y3 := hF.cell 3
  have y4 := hF.cell 4
  exact bodyPost_ret (v := .agg #[.int .i64 x0, .int .i64 0, .int .i64 0, .int .i64 0, .int .i64 1]) (by simp [results, Try.results45, go_sem, y0, y1, y2, y3, y4]) rfl ⟨rfl, hBF⟩
set_option maxRecDepth 100000 in
set_option maxHeartbeats 2000000 in
theorem cut2 (x0 x1 x2 x3 dp : Int) (w : World) : Calls Try.prog 45 #[.agg #[.int .i64 x0, .int .i64 x1, .int .i64 x2, .int .i64 x3, .int .i64 dp], .int .i64 2] w fun e w' => e = .returned (.agg #[.int .i64 x0, .int .i64 x1, .int .i64 0, .int .i64 0, .int .i64 2]) ∧ Below w.heap.size w w' := by
  have hO : Below w.heap.size w (((w.alloc (.cells #[.int .i64 x0, .int .i64 x1, .int .i64 x2, .int .i64 x3, .int .i64 dp] 50)).alloc (.cells #[.int .i64 0, .int .i64 0, .int .i64 0, .int .i64 0, .int .i64 0] 50)).alloc (.cells #[.int .i64 0, .int .i64 0, .int .i64 0, .int .i64 0, .int .i64 2] 50)) := (((Below.refl _ _).alloc (Nat.le_refl _) _).alloc (by simp) _).alloc (by simp; omega) _
  have hb0 : Bk (((w.alloc (.cells #[.int .i64 x0, .int .i64 x1, .int .i64 x2, .int .i64 x3, .int .i64 dp] 50)).alloc (.cells #[.int .i64 0, .int .i64 0, .int .i64 0, .int .i64 0, .int .i64 0] 50)).alloc (.cells #[.int .i64 0, .int .i64 0, .int .i64 0, .int .i64 0, .int .i64 2] 50)) w.heap.size 50 #[.int .i64 x0, .int .i64 x1, .int .i64 x2, .int .i64 x3, .int .i64 dp] :=
    ((Bk.new w 50 _).below ((Below.refl _ _).alloc (Nat.le_refl _) _)).below ((Below.refl _ _).alloc (Nat.le_refl _) _)
  have hb1 : Bk (((w.alloc (.cells #[.int .i64 x0, .int .i64 x1, .int .i64 x2, .int .i64 x3, .int .i64 dp] 50)).alloc (.cells #[.int .i64 0, .int .i64 0, .int .i64 0, .int .i64 0, .int .i64 0] 50)).alloc (.cells #[.int .i64 0, .int .i64 0, .int .i64 0, .int .i64 0, .int .i64 2] 50)) (w.heap.size + 1) 50 #[.int .i64 0, .int .i64 0, .int .i64 0, .int .i64 0, .int .i64 0] := by
    have := (Bk.new (w.alloc (.cells #[.int .i64 x0, .int .i64 x1, .int .i64 x2, .int .i64 x3, .int .i64 dp] 50)) 50 #[.int .i64 0, .int .i64 0, .int .i64 0, .int .i64 0, .int .i64 0]).below ((Below.refl _ _).alloc (Nat.le_refl _) (.cells #[.int .i64 0, .int .i64 0, .int .i64 0, .int .i64 0, .int .i64 2] 50))
    rw [World.size_alloc] at this
    exact this
  have hb2 : Bk (((w.alloc (.cells #[.int .i64 x0, .int .i64 x1, .int .i64 x2, .int .i64 x3, .int .i64 dp] 50)).alloc (.cells #[.int .i64 0, .int .i64 0, .int .i64 0, .int .i64 0, .int .i64 0] 50)).alloc (.cells #[.int .i64 0, .int .i64 0, .int .i64 0, .int .i64 0, .int .i64 2] 50)) (w.heap.size + 1 + 1) 50 #[.int .i64 0, .int .i64 0, .int .i64 0, .int .i64 0, .int .i64 2] := by
    have := Bk.new ((w.alloc (.cells #[.int .i64 x0, .int .i64 x1, .int .i64 x2, .int .i64 x3, .int .i64 dp] 50)).alloc (.cells #[.int .i64 0, .int .i64 0, .int .i64 0, .int .i64 0, .int .i64 0] 50)) 50 #[.int .i64 0, .int .i64 0, .int .i64 0, .int .i64 0, .int .i64 2]
    rw [World.size_alloc, World.size_alloc] at this
    exact this
  go_enter Try.func45, Try.ntmps45
  go_wp2
  generalize (((w.alloc (.cells #[.int .i64 x0, .int .i64 x1, .int .i64 x2, .int .i64 x3, .int .i64 dp] 50)).alloc (.cells #[.int .i64 0, .int .i64 0, .int .i64 0, .int .i64 0, .int .i64 0] 50)).alloc (.cells #[.int .i64 0, .int .i64 0, .int .i64 0, .int .i64 0, .int .i64 2] 50)) = w3 at hO hb0 hb1 hb2 ⊢
  have hcp := fun ty => run_copy_cells (P := Try.prog) w3.drew 36 36 ty 3 (w.heap.size + 1 + 1) 0 2 4 ⟨w.heap.size, 0, none⟩ 2 4 [.int .i64 x0, .int .i64 x1] Try.underlying36 infoI4 rfl
    (fun j v hj => by
      have hadd : (⟨w.heap.size, 0, none⟩ : Addr).add j = ⟨w.heap.size, j, none⟩ := by unfold Addr.add; split <;> simp_all
      have hjl : j < 2 := (List.getElem?_eq_some_iff.1 hj).1
      rw [hadd, (hb0.below (below_drew _)).cell j]
      obtain rfl | rfl : j = 0 ∨ j = 1 := by omega
      all_goals exact hj)
    (fun j hj => by rw [(hb2.below (below_drew _)).cell (0 + j)]; have : j < 2 := hj; rw [Array.getElem?_eq_getElem (by simp; omega)]; rfl)
    (fun j hj => (hb2.below (below_drew _)).frozen _) (by simp [Value.oneCell'])
  simp only [List.length_cons, List.length_nil, World.setCells, Nat.zero_add, Nat.reduceAdd] at hcp
  have hf2 := ((hb2.set 0 (.int .i64 x0)).set 1 (.int .i64 x1))
  have hK : Keep (fun i => i = w.heap.size + 1 + 1) w3 ((w3.setCell ⟨w.heap.size + 1 + 1, 0, none⟩ (.int .i64 x0)).setCell ⟨w.heap.size + 1 + 1, 1, none⟩ (.int .i64 x1)) := (Keep.trans (Keep.set _ _ _ _ _ rfl) (Keep.set _ _ _ _ _ rfl))
  have hf1 := (hK.bk hb1 (by omega)).below (below_drew _)
  have hBl : Below w.heap.size w (((w3.setCell ⟨w.heap.size + 1 + 1, 0, none⟩ (.int .i64 x0)).setCell ⟨w.heap.size + 1 + 1, 1, none⟩ (.int .i64 x1))).drew := bl_then (hO.trans (hK.below (by have := hO.size; omega) (fun i hi => by omega))) (Nat.le_refl _) (below_drew _)
  simp only [List.setIfInBounds_toArray, List.set_cons_succ, List.set_cons_zero] at hf2
  replace hf2 := hf2.below (below_drew _)
  have hgi : goInt 2 = .int .i64 2 := rfl
  have HF1 := Lib.hid hf1
  have HF2 := Lib.hid hf2
  have HBl := Lib.hid hBl
  clear hf2 hf1 hK hBl hb0 hb1 hb2 hO
  go_region
  have hg1 := HF1.out
  have hg2 := HF2.out
  have hB4 := HBl.out
  clear HF1 HF2 HBl hcp hgi
  generalize (((w3.setCell ⟨w.heap.size + 1 + 1, 0, none⟩ (.int .i64 x0)).setCell ⟨w.heap.size + 1 + 1, 1, none⟩ (.int .i64 x1))).drew = w4 at hg1 hg2 hB4 ⊢
  have c0 := hg2.cell 0
  have c1 := hg2.cell 1
  have c2 := hg2.cell 2
  have c3 := hg2.cell 3
  have c4 := hg2.cell 4
  have u0 := hg1.cell 0
  have u1 := hg1.cell 1
  have u2 := hg1.cell 2
  have u3 := hg1.cell 3
  have u4 := hg1.cell 4
  have f0 := hg1.frozen 0
  have f1 := hg1.frozen 1
  have f2 := hg1.frozen 2
  have f3 := hg1.frozen 3
  have f4 := hg1.frozen 4
  have hF := ((((hg1.set 0 (.int .i64 x0)).set 1 (.int .i64 x1)).set 2 (.int .i64 0)).set 3 (.int .i64 0)).set 4 (.int .i64 2)
  have hBF := ((((hB4.setCell (p := ⟨w.heap.size + 1, 0, none⟩) (Nat.le_succ _) (.int .i64 x0)).setCell (p := ⟨w.heap.size + 1, 1, none⟩) (Nat.le_succ _) (.int .i64 x1)).setCell (p := ⟨w.heap.size + 1, 2, none⟩) (Nat.le_succ _) (.int .i64 0)).setCell (p := ⟨w.heap.size + 1, 3, none⟩) (Nat.le_succ _) (.int .i64 0)).setCell (p := ⟨w.heap.size + 1, 4, none⟩) (Nat.le_succ _) (.int .i64 2)
  clear hg1 hg2 hB4
  go_wp2
  have y0 := hF.cell 0
  have y1 := hF.cell 1
  have y2 := hF.cell 2
  have y3 := hF.cell 3
  have y4 := hF.cell 4
  exact bodyPost_ret (v := .agg #[.int .i64 x0, .int .i64 x1, .int .i64 0, .int .i64 0, .int .i64 2]) (by simp [results, Try.results45, go_sem, y0, y1, y2, y3, y4]) rfl ⟨rfl, hBF⟩
set_option maxRecDepth 100000 in
set_option maxHeartbeats 2000000 in
theorem cut3 (x0 x1 x2 x3 dp : Int) (w : World) : Calls Try.prog 45 #[.agg #[.int .i64 x0, .int .i64 x1, .int .i64 x2, .int .i64 x3, .int .i64 dp], .int .i64 3] w fun e w' => e = .returned (.agg #[.int .i64 x0, .int .i64 x1, .int .i64 x2, .int .i64 0, .int .i64 3]) ∧ Below w.heap.size w w' := by
  have hO : Below w.heap.size w (((w.alloc (.cells #[.int .i64 x0, .int .i64 x1, .int .i64 x2, .int .i64 x3, .int .i64 dp] 50)).alloc (.cells #[.int .i64 0, .int .i64 0, .int .i64 0, .int .i64 0, .int .i64 0] 50)).alloc (.cells #[.int .i64 0, .int .i64 0, .int .i64 0, .int .i64 0, .int .i64 3] 50)) := (((Below.refl _ _).alloc (Nat.le_refl _) _).alloc (by simp) _).alloc (by simp; omega) _
  have hb0 : Bk (((w.alloc (.cells #[.int .i64 x0, .int .i64 x1, .int .i64 x2, .int .i64 x3, .int .i64 dp] 50)).alloc (.cells #[.int .i64 0, .int .i64 0, .int .i64 0, .int .i64 0, .int .i64 0] 50)).alloc (.cells #[.int .i64 0, .int .i64 0, .int .i64 0, .int .i64 0, .int .i64 3] 50)) w.heap.size 50 #[.int .i64 x0, .int .i64 x1, .int .i64 x2, .int .i64 x3, .int .i64 dp] :=
    ((Bk.new w 50 _).below ((Below.refl _ _).alloc (Nat.le_refl _) _)).below ((Below.refl _ _).alloc (Nat.le_refl _) _)
  have hb1 : Bk (((w.alloc (.cells #[.int .i64 x0, .int .i64 x1, .int .i64 x2, .int .i64 x3, .int .i64 dp] 50)).alloc (.cells #[.int .i64 0, .int .i64 0, .int .i64 0, .int .i64 0, .int .i64 0] 50)).alloc (.cells #[.int .i64 0, .int .i64 0, .int .i64 0, .int .i64 0, .int .i64 3] 50)) (w.heap.size + 1) 50 #[.int .i64 0, .int .i64 0, .int .i64 0, .int .i64 0, .int .i64 0] := by
    have := (Bk.new (w.alloc (.cells #[.int .i64 x0, .int .i64 x1, .int .i64 x2, .int .i64 x3, .int .i64 dp] 50)) 50 #[.int .i64 0, .int .i64 0, .int .i64 0, .int .i64 0, .int .i64 0]).below ((Below.refl _ _).alloc (Nat.le_refl _) (.cells #[.int .i64 0, .int .i64 0, .int .i64 0, .int .i64 0, .int .i64 3] 50))
    rw [World.size_alloc] at this
    exact this
  have hb2 : Bk (((w.alloc (.cells #[.int .i64 x0, .int .i64 x1, .int .i64 x2, .int .i64 x3, .int .i64 dp] 50)).alloc (.cells #[.int .i64 0, .int .i64 0, .int .i64 0, .int .i64 0, .int .i64 0] 50)).alloc (.cells #[.int .i64 0, .int .i64 0, .int .i64 0, .int .i64 0, .int .i64 3] 50)) (w.heap.size + 1 + 1) 50 #[.int .i64 0, .int .i64 0, .int .i64 0, .int .i64 0, .int .i64 3] := by
    have := Bk.new ((w.alloc (.cells #[.int .i64 x0, .int .i64 x1, .int .i64 x2, .int .i64 x3, .int .i64 dp] 50)).alloc (.cells #[.int .i64 0, .int .i64 0, .int .i64 0, .int .i64 0, .int .i64 0] 50)) 50 #[.int .i64 0, .int .i64 0, .int .i64 0, .int .i64 0, .int .i64 3]
    rw [World.size_alloc, World.size_alloc] at this
    exact this
  go_enter Try.func45, Try.ntmps45
  go_wp2
  generalize (((w.alloc (.cells #[.int .i64 x0, .int .i64 x1, .int .i64 x2, .int .i64 x3, .int .i64 dp] 50)).alloc (.cells #[.int .i64 0, .int .i64 0, .int .i64 0, .int .i64 0, .int .i64 0] 50)).alloc (.cells #[.int .i64 0, .int .i64 0, .int .i64 0, .int .i64 0, .int .i64 3] 50)) = w3 at hO hb0 hb1 hb2 ⊢
  have hcp := fun ty => run_copy_cells (P := Try.prog) w3.drew 36 36 ty 3 (w.heap.size + 1 + 1) 0 3 4 ⟨w.heap.size, 0, none⟩ 3 4 [.int .i64 x0, .int .i64 x1, .int .i64 x2] Try.underlying36 infoI4 rfl
    (fun j v hj => by
      have hadd : (⟨w.heap.size, 0, none⟩ : Addr).add j = ⟨w.heap.size, j, none⟩ := by unfold Addr.add; split <;> simp_all
      have hjl : j < 3 := (List.getElem?_eq_some_iff.1 hj).1
      rw [hadd, (hb0.below (below_drew _)).cell j]
      obtain rfl | rfl | rfl : j = 0 ∨ j = 1 ∨ j = 2 := by omega
      all_goals exact hj)
    (fun j hj => by rw [(hb2.below (below_drew _)).cell (0 + j)]; have : j < 3 := hj; rw [Array.getElem?_eq_getElem (by simp; omega)]; rfl)
    (fun j hj => (hb2.below (below_drew _)).frozen _) (by simp [Value.oneCell'])
  simp only [List.length_cons, List.length_nil, World.setCells, Nat.zero_add, Nat.reduceAdd] at hcp
  have hf2 := (((hb2.set 0 (.int .i64 x0)).set 1 (.int .i64 x1)).set 2 (.int .i64 x2))
  have hK : Keep (fun i => i = w.heap.size + 1 + 1) w3 (((w3.setCell ⟨w.heap.size + 1 + 1, 0, none⟩ (.int .i64 x0)).setCell ⟨w.heap.size + 1 + 1, 1, none⟩ (.int .i64 x1)).setCell ⟨w.heap.size + 1 + 1, 2, none⟩ (.int .i64 x2)) := (Keep.trans (Keep.trans (Keep.set _ _ _ _ _ rfl) (Keep.set _ _ _ _ _ rfl)) (Keep.set _ _ _ _ _ rfl))
  have hf1 := (hK.bk hb1 (by omega)).below (below_drew _)
  have hBl : Below w.heap.size w ((((w3.setCell ⟨w.heap.size + 1 + 1, 0, none⟩ (.int .i64 x0)).setCell ⟨w.heap.size + 1 + 1, 1, none⟩ (.int .i64 x1)).setCell ⟨w.heap.size + 1 + 1, 2, none⟩ (.int .i64 x2))).drew := bl_then (hO.trans (hK.below (by have := hO.size; omega) (fun i hi => by omega))) (Nat.le_refl _) (below_drew _)
  simp only [List.setIfInBounds_toArray, List.set_cons_succ, List.set_cons_zero] at hf2
  replace hf2 := hf2.below (below_drew _)
  have hgi : goInt 3 = .int .i64 3 := rfl
  have HF1 := Lib.hid hf1
  have HF2 := Lib.hid hf2
  have HBl := Lib.hid hBl
  clear hf2 hf1 hK hBl hb0 hb1 hb2 hO
  go_region
  have hg1 := HF1.out
  have hg2 := HF2.out
  have hB4 := HBl.out
  clear HF1 HF2 HBl hcp hgi
  generalize ((((w3.setCell ⟨w.heap.size + 1 + 1, 0, none⟩ (.int .i64 x0)).setCell ⟨w.heap.size + 1 + 1, 1, none⟩ (.int .i64 x1)).setCell ⟨w.heap.size + 1 + 1, 2, none⟩ (.int .i64 x2))).drew = w4 at hg1 hg2 hB4 ⊢
  have c0 := hg2.cell 0
  have c1 := hg2.cell 1
  have c2 := hg2.cell 2
  have c3 := hg2.cell 3
  have c4 := hg2.cell 4
  have u0 := hg1.cell 0
  have u1 := hg1.cell 1
  have u2 := hg1.cell 2
  have u3 := hg1.cell 3
  have u4 := hg1.cell 4
  have f0 := hg1.frozen 0
  have f1 := hg1.frozen 1
  have f2 := hg1.frozen 2
  have f3 := hg1.frozen 3
  have f4 := hg1.frozen 4
  have hF := ((((hg1.set 0 (.int .i64 x0)).set 1 (.int .i64 x1)).set 2 (.int .i64 x2)).set 3 (.int .i64 0)).set 4 (.int .i64 3)
  have hBF := ((((hB4.setCell (p := ⟨w.heap.size + 1, 0, none⟩) (Nat.le_succ _) (.int .i64 x0)).setCell (p := ⟨w.heap.size + 1, 1, none⟩) (Nat.le_succ _) (.int .i64 x1)).setCell (p := ⟨w.heap.size + 1, 2, none⟩) (Nat.le_succ _) (.int .i64 x2)).setCell (p := ⟨w.heap.size + 1, 3, none⟩) (Nat.le_succ _) (.int .i64 0)).setCell (p := ⟨w.heap.size + 1, 4, none⟩) (Nat.le_succ _) (.int .i64 3)
  clear hg1 hg2 hB4
  go_wp2
  have y0 := hF.cell 0
  have y1 := hF.cell 1
  have y2 := hF.cell 2
  have y3 := hF.cell 3
  have y4 := hF.cell 4
  exact bodyPost_ret (v := .agg #[.int .i64 x0, .int .i64 x1, .int .i64 x2, .int .i64 0, .int .i64 3]) (by simp [results, Try.results45, go_sem, y0, y1, y2, y3, y4]) rfl ⟨rfl, hBF⟩
set_option maxRecDepth 100000 in
set_option maxHeartbeats 2000000 in
theorem cut4 (x0 x1 x2 x3 dp : Int) (w : World) : Calls Try.prog 45 #[.agg #[.int .i64 x0, .int .i64 x1, .int .i64 x2, .int .i64 x3, .int .i64 dp], .int .i64 4] w fun e w' => e = .returned (.agg #[.int .i64 x0, .int .i64 x1, .int .i64 x2, .int .i64 x3, .int .i64 4]) ∧ Below w.heap.size w w' := by
  have hO : Below w.heap.size w (((w.alloc (.cells #[.int .i64 x0, .int .i64 x1, .int .i64 x2, .int .i64 x3, .int .i64 dp] 50)).alloc (.cells #[.int .i64 0, .int .i64 0, .int .i64 0, .int .i64 0, .int .i64 0] 50)).alloc (.cells #[.int .i64 0, .int .i64 0, .int .i64 0, .int .i64 0, .int .i64 4] 50)) := (((Below.refl _ _).alloc (Nat.le_refl _) _).alloc (by simp) _).alloc (by simp; omega) _
  have hb0 : Bk (((w.alloc (.cells #[.int .i64 x0, .int .i64 x1, .int .i64 x2, .int .i64 x3, .int .i64 dp] 50)).alloc (.cells #[.int .i64 0, .int .i64 0, .int .i64 0, .int .i64 0, .int .i64 0] 50)).alloc (.cells #[.int .i64 0, .int .i64 0, .int .i64 0, .int .i64 0, .int .i64 4] 50)) w.heap.size 50 #[.int .i64 x0, .int .i64 x1, .int .i64 x2, .int .i64 x3, .int .i64 dp] :=
    ((Bk.new w 50 _).below ((Below.refl _ _).alloc (Nat.le_refl _) _)).below ((Below.refl _ _).alloc (Nat.le_refl _) _)
  have hb1 : Bk (((w.alloc (.cells #[.int .i64 x0, .int .i64 x1, .int .i64 x2, .int .i64 x3, .int .i64 dp] 50)).alloc (.cells #[.int .i64 0, .int .i64 0, .int .i64 0, .int .i64 0, .int .i64 0] 50)).alloc (.cells #[.int .i64 0, .int .i64 0, .int .i64 0, .int .i64 0, .int .i64 4] 50)) (w.heap.size + 1) 50 #[.int .i64 0, .int .i64 0, .int .i64 0, .int .i64 0, .int .i64 0] := by
    have := (Bk.new (w.alloc (.cells #[.int .i64 x0, .int .i64 x1, .int .i64 x2, .int .i64 x3, .int .i64 dp] 50)) 50 #[.int .i64 0, .int .i64 0, .int .i64 0, .int .i64 0, .int .i64 0]).below ((Below.refl _ _).alloc (Nat.le_refl _) (.cells #[.int .i64 0, .int .i64 0, .int .i64 0, .int .i64 0, .int .i64 4] 50))
    rw [World.size_alloc] at this
    exact this
  have hb2 : Bk (((w.alloc (.cells #[.int .i64 x0, .int .i64 x1, .int .i64 x2, .int .i64 x3, .int .i64 dp] 50)).alloc (.cells #[.int .i64 0, .int .i64 0, .int .i64 0, .int .i64 0, .int .i64 0] 50)).alloc (.cells #[.int .i64 0, .int .i64 0, .int .i64 0, .int .i64 0, .int .i64 4] 50)) (w.heap.size + 1 + 1) 50 #[.int .i64 0, .int .i64 0, .int .i64 0, .int .i64 0, .int .i64 4] := by
    have := Bk.new ((w.alloc (.cells #[.int .i64 x0, .int .i64 x1, .int .i64 x2, .int .i64 x3, .int .i64 dp] 50)).alloc (.cells #[.int .i64 0, .int .i64 0, .int .i64 0, .int .i64 0, .int .i64 0] 50)) 50 #[.int .i64 0, .int .i64 0, .int .i64 0, .int .i64 0, .int .i64 4]
    rw [World.size_alloc, World.size_alloc] at this
    exact this
  go_enter Try.func45, Try.ntmps45
  go_wp2
  generalize (((w.alloc (.cells #[.int .i64 x0, .int .i64 x1, .int .i64 x2, .int .i64 x3, .int .i64 dp] 50)).alloc (.cells #[.int .i64 0, .int .i64 0, .int .i64 0, .int .i64 0, .int .i64 0] 50)).alloc (.cells #[.int .i64 0, .int .i64 0, .int .i64 0, .int .i64 0, .int .i64 4] 50)) = w3 at hO hb0 hb1 hb2 ⊢
  have hcp := fun ty => run_copy_cells (P := Try.prog) w3.drew 36 36 ty 3 (w.heap.size + 1 + 1) 0 4 4 ⟨w.heap.size, 0, none⟩ 4 4 [.int .i64 x0, .int .i64 x1, .int .i64 x2, .int .i64 x3] Try.underlying36 infoI4 rfl
    (fun j v hj => by
      have hadd : (⟨w.heap.size, 0, none⟩ : Addr).add j = ⟨w.heap.size, j, none⟩ := by unfold Addr.add; split <;> simp_all
      have hjl : j < 4 := (List.getElem?_eq_some_iff.1 hj).1
      rw [hadd, (hb0.below (below_drew _)).cell j]
      obtain rfl | rfl | rfl | rfl : j = 0 ∨ j = 1 ∨ j = 2 ∨ j = 3 := by omega
      all_goals exact hj)
    (fun j hj => by rw [(hb2.below (below_drew _)).cell (0 + j)]; have : j < 4 := hj; rw [Array.getElem?_eq_getElem (by simp; omega)]; rfl)
    (fun j hj => (hb2.below (below_drew _)).frozen _) (by simp [Value.oneCell'])
  simp only [List.length_cons, List.length_nil, World.setCells, Nat.zero_add, Nat.reduceAdd] at hcp
  have hf2 := ((((hb2.set 0 (.int .i64 x0)).set 1 (.int .i64 x1)).set 2 (.int .i64 x2)).set 3 (.int .i64 x3))
  have hK : Keep (fun i => i = w.heap.size + 1 + 1) w3 ((((w3.setCell ⟨w.heap.size + 1 + 1, 0, none⟩ (.int .i64 x0)).setCell ⟨w.heap.size + 1 + 1, 1, none⟩ (.int .i64 x1)).setCell ⟨w.heap.size + 1 + 1, 2, none⟩ (.int .i64 x2)).setCell ⟨w.heap.size + 1 + 1, 3, none⟩ (.int .i64 x3)) := (Keep.trans (Keep.trans (Keep.trans (Keep.set _ _ _ _ _ rfl) (Keep.set _ _ _ _ _ rfl)) (Keep.set _ _ _ _ _ rfl)) (Keep.set _ _ _ _ _ rfl))
  have hf1 := (hK.bk hb1 (by omega)).below (below_drew _)
  have hBl : Below w.heap.size w (((((w3.setCell ⟨w.heap.size + 1 + 1, 0, none⟩ (.int .i64 x0)).setCell ⟨w.heap.size + 1 + 1, 1, none⟩ (.int .i64 x1)).setCell ⟨w.heap.size + 1 + 1, 2, none⟩ (.int .i64 x2)).setCell ⟨w.heap.size + 1 + 1, 3, none⟩ (.int .i64 x3))).drew := bl_then (hO.trans (hK.below (by have := hO.size; omega) (fun i hi => by omega))) (Nat.le_refl _) (below_drew _)
  simp only [List.setIfInBounds_toArray, List.set_cons_succ, List.set_cons_zero] at hf2
  replace hf2 := hf2.below (below_drew _)
  have hgi : goInt 4 = .int .i64 4 := rfl
  have HF1 := Lib.hid hf1
  have HF2 := Lib.hid hf2
  have HBl := Lib.hid hBl
  clear hf2 hf1 hK hBl hb0 hb1 hb2 hO
  go_region
  have hg1 := HF1.out
  have hg2 := HF2.out
  have hB4 := HBl.out
  clear HF1 HF2 HBl hcp hgi
  generalize (((((w3.setCell ⟨w.heap.size + 1 + 1, 0, none⟩ (.int .i64 x0)).setCell ⟨w.heap.size + 1 + 1, 1, none⟩ (.int .i64 x1)).setCell ⟨w.heap.size + 1 + 1, 2, none⟩ (.int .i64 x2)).setCell ⟨w.heap.size + 1 + 1, 3, none⟩ (.int .i64 x3))).drew = w4 at hg1 hg2 hB4 ⊢
  have c0 := hg2.cell 0
  have c1 := hg2.cell 1
  have c2 := hg2.cell 2
  have c3 := hg2.cell 3
  have c4 := hg2.cell 4
  have u0 := hg1.cell 0
  have u1 := hg1.cell 1
  have u2 := hg1.cell 2
  have u3 := hg1.cell 3
  have u4 := hg1.cell 4
  have f0 := hg1.frozen 0
  have f1 := hg1.frozen 1
  have f2 := hg1.frozen 2
  have f3 := hg1.frozen 3
  have f4 := hg1.frozen 4
  have hF := ((((hg1.set 0 (.int .i64 x0)).set 1 (.int .i64 x1)).set 2 (.int .i64 x2)).set 3 (.int .i64 x3)).set 4 (.int .i64 4)
  have hBF := ((((hB4.setCell (p := ⟨w.heap.size + 1, 0, none⟩) (Nat.le_succ _) (.int .i64 x0)).setCell (p := ⟨w.heap.size + 1, 1, none⟩) (Nat.le_succ _) (.int .i64 x1)).setCell (p := ⟨w.heap.size + 1, 2, none⟩) (Nat.le_succ _) (.int .i64 x2)).setCell (p := ⟨w.heap.size + 1, 3, none⟩) (Nat.le_succ _) (.int .i64 x3)).setCell (p := ⟨w.heap.size + 1, 4, none⟩) (Nat.le_succ _) (.int .i64 4)
  clear hg1 hg2 hB4
  go_wp2
  have y0 := hF.cell 0
  have y1 := hF.cell 1
  have y2 := hF.cell 2
  have y3 := hF.cell 3
  have y4 := hF.cell 4
  exact bodyPost_ret (v := .agg #[.int .i64 x0, .int .i64 x1, .int .i64 x2, .int .i64 x3, .int .i64 4]) (by simp [results, Try.results45, go_sem, y0, y1, y2, y3, y4]) rfl ⟨rfl, hBF⟩
theorem cut_any (p : Pt) (d : Nat) (h1 : 1 ≤ d) (h4 : d ≤ 4) (w : World) : Calls Try.prog 45 #[.agg (ptA p), .int .i64 (d : Int)] w fun e w' => e = .returned (.agg (ptA (front p d))) ∧ Below w.heap.size w w' := by
  obtain ⟨x0, x1, x2, x3, dp⟩ := p
  obtain rfl | rfl | rfl | rfl : d = 1 ∨ d = 2 ∨ d = 3 ∨ d = 4 := by omega
  · exact cut1 x0 x1 x2 x3 dp w
  · exact cut2 x0 x1 x2 x3 dp w
  · exact cut3 x0 x1 x2 x3 dp w
  · exact cut4 x0 x1 x2 x3 dp w
end Go.Proofs.Ytbdefhekkafihaa
