/- Nodes: Front, Ways, Within, of the program and the reference. No condition. -/
import Derived.Test.YtbdefhekkafihaaPthC
set_option linter.unusedVariables false
set_option linter.unusedSimpArgs false
namespace Go.Proofs.Ytbdefhekkafihaa
open Go.RowKit (wrap32 wrap64)
open Go.RowKit Go.Shelf
def zf (p : Pt) (d k : Nat) : Pt := ⟨if d ≤ 0 ∧ 0 < k then 0 else p.n0, if d ≤ 1 ∧ 1 < k then 0 else p.n1, if d ≤ 2 ∧ 2 < k then 0 else p.n2, if d ≤ 3 ∧ 3 < k then 0 else p.n3, p.dep⟩
theorem zf_start (p : Pt) (d : Nat) : zf p d d = p := by
  unfold zf
  rw [if_neg (by omega), if_neg (by omega), if_neg (by omega), if_neg (by omega)]
theorem zf_step (p : Pt) (d k : Nat) (h1 : d ≤ k) (h2 : k < 4) : (ptA (zf p d k)).setIfInBounds k (.int .i64 0) = ptA (zf p d (k + 1)) := by
  obtain ⟨x0, x1, x2, x3, x4⟩ := p
  obtain rfl | rfl | rfl | rfl : k = 0 ∨ k = 1 ∨ k = 2 ∨ k = 3 := by omega
  all_goals
    simp only [ptA, zf, List.setIfInBounds_toArray, List.set_cons_succ, List.set_cons_zero]
    simp [h1]
    try omega
theorem zf_end (p : Pt) (d : Nat) (h : d ≤ 4) : (ptA (zf p d 4)).setIfInBounds 4 (.int .i64 (d : Int)) = ptA (front p d) := by
  obtain ⟨x0, x1, x2, x3, x4⟩ := p
  simp only [ptA, zf, front, List.setIfInBounds_toArray, List.set_cons_succ, List.set_cons_zero]
  obtain rfl | rfl | rfl | rfl | rfl : d = 0 ∨ d = 1 ∨ d = 2 ∨ d = 3 ∨ d = 4 := by omega
  all_goals rfl
set_option maxRecDepth 100000 in
set_option maxHeartbeats 2000000 in
theorem rfront_any (p : Pt) (d : Nat) (h1 : 1 ≤ d) (h4 : d ≤ 4) (w : World) : Calls Try.prog 38 #[.agg (ptA p), .int .i64 (d : Int)] w fun e w' => e = .returned (.agg (ptA (front p d))) ∧ Below w.heap.size w w' := by
  have hO : Below w.heap.size w ((w.alloc (.cells (ptA p) 50)).alloc (.cells #[.int .i64 0, .int .i64 0, .int .i64 0, .int .i64 0, .int .i64 0] 50)) := ((Below.refl _ _).alloc (Nat.le_refl _) _).alloc (by simp) _
  have hb0 : Bk ((w.alloc (.cells (ptA p) 50)).alloc (.cells #[.int .i64 0, .int .i64 0, .int .i64 0, .int .i64 0, .int .i64 0] 50)) w.heap.size 50 (ptA (zf p d d)) := by
    rw [zf_start]
    exact (Bk.new w 50 _).below ((Below.refl _ _).alloc (Nat.le_refl _) _)
  have hb1 : Bk ((w.alloc (.cells (ptA p) 50)).alloc (.cells #[.int .i64 0, .int .i64 0, .int .i64 0, .int .i64 0, .int .i64 0] 50)) (w.heap.size + 1) 50 #[.int .i64 0, .int .i64 0, .int .i64 0, .int .i64 0, .int .i64 0] := by
    have := Bk.new (w.alloc (.cells (ptA p) 50)) 50 #[.int .i64 0, .int .i64 0, .int .i64 0, .int .i64 0, .int .i64 0]
    rw [World.size_alloc] at this
    exact this
  have hz := fun k h => zf_step p d k h
  have hze := zf_end p d h4
  have HZ := Lib.hid hz
  have HE := Lib.hid hze
  clear hz hze
  go_enter Try.func38, Try.ntmps38
  go_wp2_with fail
  generalize ((w.alloc (.cells (ptA p) 50)).alloc (.cells #[.int .i64 0, .int .i64 0, .int .i64 0, .int .i64 0, .int .i64 0] 50)) = w3 at hO hb0 hb1 ⊢
  go_loopw [5] (fun c wr => ∃ k : Nat, d ≤ k ∧ k ≤ 4 ∧ c = .int .i64 k ∧ Bk wr w.heap.size 50 (ptA (zf p d k)) ∧ Bk wr (w.heap.size + 1) 50 #[.int .i64 0, .int .i64 0, .int .i64 0, .int .i64 0, .int .i64 0] ∧ Below w.heap.size w wr) (fun c _ => 4 - (intOf c).toNat)
  case atStart => exact ⟨d, by omega, h4, rfl, hb0, hb1, hO⟩
  case round =>
    clear hb0 hb1 hO
    obtain ⟨k, hk, hk4, rfl, hb0, hb1, HB⟩ := hrel
    by_cases hlt : k < 4
    · have hc := hb0.cell k
      rw [ptA_num _ k hlt] at hc
      have hf := hb0.frozen k
      have hb0' := hb0.set k (.int .i64 0)
      rw [HZ.out k hk hlt] at hb0'
      have hb1' := (Keep.set wr w.heap.size k (.int .i64 0) (fun i => i = w.heap.size) rfl).bk hb1 (by omega)
      have HB' := HB.setCell (p := ⟨w.heap.size, k, none⟩) (Nat.le_refl _) (.int .i64 0)
      have hki : (k : Int) < 4 := by omega
      generalize num (zf p d k) k = x at hc
      clear hb0 hb1 HB
      go_wp2
      go_roundw
      case rel => exact ⟨k + 1, by omega, by omega, by go_num, hb0', hb1', HB'⟩
      case measure => simp [intOf]; omega
    · obtain rfl : k = 4 := by omega
      have b0 := hb0.set 4 (.int .i64 (d : Int))
      rw [HE.out] at b0
      have K1 := Keep.set wr w.heap.size 4 (.int .i64 (d : Int)) (fun i => i = w.heap.size) rfl
      have b1 := K1.bk hb1 (by omega)
      have HB1 := HB.setCell (p := ⟨w.heap.size, 4, none⟩) (Nat.le_refl _) (.int .i64 (d : Int))
      have e4 := hb0.cell 4
      have g4 := hb0.frozen 4
      generalize hq : front p d = q at b0 ⊢
      have HQ := Lib.hid hq
      obtain ⟨y0, y1, y2, y3, y4⟩ := q
      have c0 := b0.cell 0
      have c1 := b0.cell 1
      have c2 := b0.cell 2
      have c3 := b0.cell 3
      have c4 := b0.cell 4
      have u0 := b1.cell 0
      have u1 := b1.cell 1
      have u2 := b1.cell 2
      have u3 := b1.cell 3
      have u4 := b1.cell 4
      have f0 := b1.frozen 0
      have f1 := b1.frozen 1
      have f2 := b1.frozen 2
      have f3 := b1.frozen 3
      have f4 := b1.frozen 4
      have hF := ((((b1.set 0 (.int .i64 y0)).set 1 (.int .i64 y1)).set 2 (.int .i64 y2)).set 3 (.int .i64 y3)).set 4 (.int .i64 y4)
      have hBF := ((((HB1.setCell (p := ⟨w.heap.size + 1, 0, none⟩) (Nat.le_succ _) (.int .i64 y0)).setCell (p := ⟨w.heap.size + 1, 1, none⟩) (Nat.le_succ _) (.int .i64 y1)).setCell (p := ⟨w.heap.size + 1, 2, none⟩) (Nat.le_succ _) (.int .i64 y2)).setCell (p := ⟨w.heap.size + 1, 3, none⟩) (Nat.le_succ _) (.int .i64 y3)).setCell (p := ⟨w.heap.size + 1, 4, none⟩) (Nat.le_succ _) (.int .i64 y4)
      clear hb0 hb1 HB b0 b1 K1 HB1 hq
      go_wp2
      have z0 := hF.cell 0
      have z1 := hF.cell 1
      have z2 := hF.cell 2
      have z3 := hF.cell 3
      have z4 := hF.cell 4
      exact bodyPost_ret (v := .agg #[.int .i64 y0, .int .i64 y1, .int .i64 y2, .int .i64 y3, .int .i64 y4]) (by simp [results, Try.results38, go_sem, z0, z1, z2, z3, z4]) rfl ⟨by rw [HQ.out], hBF⟩
theorem mayP_dep (p : Pt) (h : mayP p = true) : ∃ D : Nat, p.dep = D ∧ 1 ≤ D ∧ D ≤ 4 := by
  unfold mayP at h
  simp only [Bool.and_eq_true, decide_eq_true_eq] at h
  exact ⟨p.dep.toNat, by omega, by omega, by omega⟩
theorem ways_of (p : Pt) (D : Nat) (h : mayP p = true) (hd : p.dep = D) : ways p = (List.range D).map (fun i => front p (i + 1)) := by
  unfold ways; rw [if_pos h, hd]; rfl
theorem ways_no (p : Pt) (h : mayP p = false) : ways p = [] := by unfold ways; rw [h]; rfl
theorem range_snoc (f : Nat → Pt) (k : Nat) : (List.range (k + 1)).map f = (List.range k).map f ++ [f k] := by rw [List.range_succ, List.map_append]; rfl
end Go.Proofs.Ytbdefhekkafihaa
