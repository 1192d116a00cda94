/- Nodes: the reference's Less, the program's Within. No condition. -/
import Derived.Test.YtjenchijenkndaaPthF
import Derived.Lib.QuietBelow
set_option linter.unusedVariables false
set_option linter.unusedSimpArgs false
namespace Go.Proofs.Ytjenchijenkndaa
open Go.RowKit (wrap32 wrap64)
open Go.RowKit Go.Shelf
def withinP (p q : Pt) : Bool := mayP p && (mayP q && (decide (depN q ≤ depN p) && decide (front p (depN q) = q)))
set_option maxRecDepth 100000 in
set_option maxHeartbeats 2000000 in
theorem pwithin_a (x0 x1 x2 x3 x4 y0 y1 y2 y3 y4 : Int) (h1 : mayP (⟨x0, x1, x2, x3, x4⟩ : Pt) = false) (w : World) : Calls Try.prog 28 #[.agg #[.int .i64 x0, .int .i64 x1, .int .i64 x2, .int .i64 x3, .int .i64 x4], .agg #[.int .i64 y0, .int .i64 y1, .int .i64 y2, .int .i64 y3, .int .i64 y4]] w fun e w' => e = .returned (.bool false) ∧ Below w.heap.size w w' := by
  obtain ⟨hO, hP, hQ⟩ := two_box ⟨x0, x1, x2, x3, x4⟩ ⟨y0, y1, y2, y3, y4⟩ w
  dsimp only [ptA] at hO hP hQ
  have hm := fun W => pmay_any ⟨x0, x1, x2, x3, x4⟩ W
  have hn := fun W => pmay_any ⟨y0, y1, y2, y3, y4⟩ W
  rw [h1] at hm
  try rw [h2] at hn
  have HM := Lib.hid hm
  have HN := Lib.hid hn
  clear h1
  try clear h2
  go_enter Try.func28, Try.ntmps28
  go_wp2_with fail
  generalize (w.alloc (.cells #[.int .i64 x0, .int .i64 x1, .int .i64 x2, .int .i64 x3, .int .i64 x4] 27)).alloc (.cells #[.int .i64 y0, .int .i64 y1, .int .i64 y2, .int .i64 y3, .int .i64 y4] 27) = wz at hO hP hQ ⊢
  generalize w.heap.size = Bz at hP hQ ⊢
  have a0 := fun dq osq => cell_regrown (v := .int .i64 x0) (hP.cell 0) dq osq
  have a1 := fun dq osq => cell_regrown (v := .int .i64 x1) (hP.cell 1) dq osq
  have a2 := fun dq osq => cell_regrown (v := .int .i64 x2) (hP.cell 2) dq osq
  have a3 := fun dq osq => cell_regrown (v := .int .i64 x3) (hP.cell 3) dq osq
  have a4 := fun dq osq => cell_regrown (v := .int .i64 x4) (hP.cell 4) dq osq
  have b0 := fun dq osq => cell_regrown (v := .int .i64 y0) (hQ.cell 0) dq osq
  have b1 := fun dq osq => cell_regrown (v := .int .i64 y1) (hQ.cell 1) dq osq
  have b2 := fun dq osq => cell_regrown (v := .int .i64 y2) (hQ.cell 2) dq osq
  have b3 := fun dq osq => cell_regrown (v := .int .i64 y3) (hQ.cell 3) dq osq
  have b4 := fun dq osq => cell_regrown (v := .int .i64 y4) (hQ.cell 4) dq osq
  clear hP hQ
  have HO := Lib.hid hO
  clear hO hm hn
  refine wp_region_quiet_below (by kernel_rfl) (by kernel_rfl) ?_
  repeat (go_big_quiet_step (first
    | (go_at_call_of 46 x0; exact Calls.regrown_of (HM.out _))
    | (go_at_call_of 46 y0; exact Calls.regrown_of (HN.out _))))
  refine wpQuiet_nil ?_
  intro _ hw'
  obtain ⟨⟨dq, osq⟩, hw''⟩ := hw'
  subst hw''
  go_wp2
  go_ret
  exact ⟨rfl, bl_then HO.out (Nat.le_refl _) (below_regrown _ _ _)⟩
set_option maxRecDepth 100000 in
set_option maxHeartbeats 2000000 in
theorem pwithin_b (x0 x1 x2 x3 x4 y0 y1 y2 y3 y4 : Int) (h1 : mayP (⟨x0, x1, x2, x3, x4⟩ : Pt) = true) (h2 : mayP (⟨y0, y1, y2, y3, y4⟩ : Pt) = false) (w : World) : Calls Try.prog 28 #[.agg #[.int .i64 x0, .int .i64 x1, .int .i64 x2, .int .i64 x3, .int .i64 x4], .agg #[.int .i64 y0, .int .i64 y1, .int .i64 y2, .int .i64 y3, .int .i64 y4]] w fun e w' => e = .returned (.bool false) ∧ Below w.heap.size w w' := by
  obtain ⟨hO, hP, hQ⟩ := two_box ⟨x0, x1, x2, x3, x4⟩ ⟨y0, y1, y2, y3, y4⟩ w
  dsimp only [ptA] at hO hP hQ
  have hm := fun W => pmay_any ⟨x0, x1, x2, x3, x4⟩ W
  have hn := fun W => pmay_any ⟨y0, y1, y2, y3, y4⟩ W
  rw [h1] at hm
  try rw [h2] at hn
  have HM := Lib.hid hm
  have HN := Lib.hid hn
  clear h1
  try clear h2
  go_enter Try.func28, Try.ntmps28
  go_wp2_with fail
  generalize (w.alloc (.cells #[.int .i64 x0, .int .i64 x1, .int .i64 x2, .int .i64 x3, .int .i64 x4] 27)).alloc (.cells #[.int .i64 y0, .int .i64 y1, .int .i64 y2, .int .i64 y3, .int .i64 y4] 27) = wz at hO hP hQ ⊢
  generalize w.heap.size = Bz at hP hQ ⊢
  have a0 := fun dq osq => cell_regrown (v := .int .i64 x0) (hP.cell 0) dq osq
  have a1 := fun dq osq => cell_regrown (v := .int .i64 x1) (hP.cell 1) dq osq
  have a2 := fun dq osq => cell_regrown (v := .int .i64 x2) (hP.cell 2) dq osq
  have a3 := fun dq osq => cell_regrown (v := .int .i64 x3) (hP.cell 3) dq osq
  have a4 := fun dq osq => cell_regrown (v := .int .i64 x4) (hP.cell 4) dq osq
  have b0 := fun dq osq => cell_regrown (v := .int .i64 y0) (hQ.cell 0) dq osq
  have b1 := fun dq osq => cell_regrown (v := .int .i64 y1) (hQ.cell 1) dq osq
  have b2 := fun dq osq => cell_regrown (v := .int .i64 y2) (hQ.cell 2) dq osq
  have b3 := fun dq osq => cell_regrown (v := .int .i64 y3) (hQ.cell 3) dq osq
  have b4 := fun dq osq => cell_regrown (v := .int .i64 y4) (hQ.cell 4) dq osq
  clear hP hQ
  have HO := Lib.hid hO
  clear hO hm hn
  refine wp_region_quiet_below (by kernel_rfl) (by kernel_rfl) ?_
  repeat (go_big_quiet_step (first
    | (go_at_call_of 46 x0; exact Calls.regrown_of (HM.out _))
    | (go_at_call_of 46 y0; exact Calls.regrown_of (HN.out _))))
  refine wpQuiet_nil ?_
  intro _ hw'
  obtain ⟨⟨dq, osq⟩, hw''⟩ := hw'
  subst hw''
  go_wp2
  go_ret
  exact ⟨rfl, bl_then HO.out (Nat.le_refl _) (below_regrown _ _ _)⟩
set_option maxRecDepth 100000 in
set_option maxHeartbeats 2000000 in
theorem pwithin_c (x0 x1 x2 x3 x4 y0 y1 y2 y3 y4 : Int) (h1 : mayP (⟨x0, x1, x2, x3, x4⟩ : Pt) = true) (h2 : mayP (⟨y0, y1, y2, y3, y4⟩ : Pt) = true) (h3 : decide (y4 ≤ x4) = false) (w : World) : Calls Try.prog 28 #[.agg #[.int .i64 x0, .int .i64 x1, .int .i64 x2, .int .i64 x3, .int .i64 x4], .agg #[.int .i64 y0, .int .i64 y1, .int .i64 y2, .int .i64 y3, .int .i64 y4]] w fun e w' => e = .returned (.bool false) ∧ Below w.heap.size w w' := by
  obtain ⟨hO, hP, hQ⟩ := two_box ⟨x0, x1, x2, x3, x4⟩ ⟨y0, y1, y2, y3, y4⟩ w
  dsimp only [ptA] at hO hP hQ
  have hm := fun W => pmay_any ⟨x0, x1, x2, x3, x4⟩ W
  have hn := fun W => pmay_any ⟨y0, y1, y2, y3, y4⟩ W
  rw [h1] at hm
  try rw [h2] at hn
  have HM := Lib.hid hm
  have HN := Lib.hid hn
  clear h1
  try clear h2
  go_enter Try.func28, Try.ntmps28
  go_wp2_with fail
  generalize (w.alloc (.cells #[.int .i64 x0, .int .i64 x1, .int .i64 x2, .int .i64 x3, .int .i64 x4] 27)).alloc (.cells #[.int .i64 y0, .int .i64 y1, .int .i64 y2, .int .i64 y3, .int .i64 y4] 27) = wz at hO hP hQ ⊢
  generalize w.heap.size = Bz at hP hQ ⊢
  have a0 := fun dq osq => cell_regrown (v := .int .i64 x0) (hP.cell 0) dq osq
  have a1 := fun dq osq => cell_regrown (v := .int .i64 x1) (hP.cell 1) dq osq
  have a2 := fun dq osq => cell_regrown (v := .int .i64 x2) (hP.cell 2) dq osq
  have a3 := fun dq osq => cell_regrown (v := .int .i64 x3) (hP.cell 3) dq osq
  have a4 := fun dq osq => cell_regrown (v := .int .i64 x4) (hP.cell 4) dq osq
  have b0 := fun dq osq => cell_regrown (v := .int .i64 y0) (hQ.cell 0) dq osq
  have b1 := fun dq osq => cell_regrown (v := .int .i64 y1) (hQ.cell 1) dq osq
  have b2 := fun dq osq => cell_regrown (v := .int .i64 y2) (hQ.cell 2) dq osq
  have b3 := fun dq osq => cell_regrown (v := .int .i64 y3) (hQ.cell 3) dq osq
  have b4 := fun dq osq => cell_regrown (v := .int .i64 y4) (hQ.cell 4) dq osq
  clear hP hQ
  have HO := Lib.hid hO
  clear hO hm hn
  refine wp_region_quiet_below (by kernel_rfl) (by kernel_rfl) ?_
  repeat (go_big_quiet_step (first
    | (go_at_call_of 46 x0; exact Calls.regrown_of (HM.out _))
    | (go_at_call_of 46 y0; exact Calls.regrown_of (HN.out _))))
  refine wpQuiet_nil ?_
  intro _ hw'
  obtain ⟨⟨dq, osq⟩, hw''⟩ := hw'
  subst hw''
  go_wp2
  go_ret
  exact ⟨rfl, bl_then HO.out (Nat.le_refl _) (below_regrown _ _ _)⟩
set_option maxRecDepth 100000 in
set_option maxHeartbeats 2000000 in
theorem pwithin_d (x0 x1 x2 x3 x4 y0 y1 y2 y3 y4 : Int) (h1 : mayP (⟨x0, x1, x2, x3, x4⟩ : Pt) = true) (h2 : mayP (⟨y0, y1, y2, y3, y4⟩ : Pt) = true) (h3 : decide (y4 ≤ x4) = true) (r : Bool) (hc : ∃ z0 z1 z2 z3 z4, (∀ W, Calls Try.prog 47 #[.agg #[.int .i64 x0, .int .i64 x1, .int .i64 x2, .int .i64 x3, .int .i64 x4], .int .i64 y4] W fun e w' => e = .returned (.agg #[.int .i64 z0, .int .i64 z1, .int .i64 z2, .int .i64 z3, .int .i64 z4]) ∧ Below W.heap.size W w') ∧ decide ((⟨z0, z1, z2, z3, z4⟩ : Pt) = (⟨y0, y1, y2, y3, y4⟩ : Pt)) = r) (w : World) : Calls Try.prog 28 #[.agg #[.int .i64 x0, .int .i64 x1, .int .i64 x2, .int .i64 x3, .int .i64 x4], .agg #[.int .i64 y0, .int .i64 y1, .int .i64 y2, .int .i64 y3, .int .i64 y4]] w fun e w' => e = .returned (.bool r) ∧ Below w.heap.size w w' := by
  obtain ⟨hO, hP, hQ⟩ := two_box ⟨x0, x1, x2, x3, x4⟩ ⟨y0, y1, y2, y3, y4⟩ w
  dsimp only [ptA] at hO hP hQ
  have hm := fun W => pmay_any ⟨x0, x1, x2, x3, x4⟩ W
  have hn := fun W => pmay_any ⟨y0, y1, y2, y3, y4⟩ W
  rw [h1] at hm
  try rw [h2] at hn
  have HM := Lib.hid hm
  have HN := Lib.hid hn
  clear h1
  try clear h2
  obtain ⟨z0, z1, z2, z3, z4, hc, he⟩ := hc
  have hq := eqlPt ⟨z0, z1, z2, z3, z4⟩ ⟨y0, y1, y2, y3, y4⟩
  rw [he] at hq
  have hgd := gdPt
  have HC := Lib.hid hc
  clear hc he
  dsimp only at hq
  go_enter Try.func28, Try.ntmps28
  go_wp2_with fail
  generalize (w.alloc (.cells #[.int .i64 x0, .int .i64 x1, .int .i64 x2, .int .i64 x3, .int .i64 x4] 27)).alloc (.cells #[.int .i64 y0, .int .i64 y1, .int .i64 y2, .int .i64 y3, .int .i64 y4] 27) = wz at hO hP hQ ⊢
  generalize w.heap.size = Bz at hP hQ ⊢
  have a0 := fun dq osq => cell_regrown (v := .int .i64 x0) (hP.cell 0) dq osq
  have a1 := fun dq osq => cell_regrown (v := .int .i64 x1) (hP.cell 1) dq osq
  have a2 := fun dq osq => cell_regrown (v := .int .i64 x2) (hP.cell 2) dq osq
  have a3 := fun dq osq => cell_regrown (v := .int .i64 x3) (hP.cell 3) dq osq
  have a4 := fun dq osq => cell_regrown (v := .int .i64 x4) (hP.cell 4) dq osq
  have b0 := fun dq osq => cell_regrown (v := .int .i64 y0) (hQ.cell 0) dq osq
  have b1 := fun dq osq => cell_regrown (v := .int .i64 y1) (hQ.cell 1) dq osq
  have b2 := fun dq osq => cell_regrown (v := .int .i64 y2) (hQ.cell 2) dq osq
  have b3 := fun dq osq => cell_regrown (v := .int .i64 y3) (hQ.cell 3) dq osq
  have b4 := fun dq osq => cell_regrown (v := .int .i64 y4) (hQ.cell 4) dq osq
  clear hP hQ
  have HO := Lib.hid hO
  clear hO hm hn
  refine wp_region_quiet_below (by kernel_rfl) (by kernel_rfl) ?_
  repeat (go_big_quiet_step (first
    | (go_at_call_of 46 x0; exact Calls.regrown_of (HM.out _))
    | (go_at_call_of 46 y0; exact Calls.regrown_of (HN.out _))
    | (go_at_call 47; exact Calls.regrown_of (HC.out _))))
  refine wpQuiet_nil ?_
  intro _ hw'
  obtain ⟨⟨dq, osq⟩, hw''⟩ := hw'
  subst hw''
  go_wp2
  go_ret
  exact ⟨rfl, bl_then HO.out (Nat.le_refl _) (below_regrown _ _ _)⟩
theorem pwithin_any (p q : Pt) (w : World) : Calls Try.prog 28 #[.agg (ptA p), .agg (ptA q)] w fun e w' => e = .returned (.bool (withinP p q)) ∧ Below w.heap.size w w' := by
  obtain ⟨x0, x1, x2, x3, x4⟩ := p
  obtain ⟨y0, y1, y2, y3, y4⟩ := q
  unfold withinP
  cases h1 : mayP ⟨x0, x1, x2, x3, x4⟩ with
  | false => exact pwithin_a _ _ _ _ _ _ _ _ _ _ h1 w
  | true =>
  cases h2 : mayP ⟨y0, y1, y2, y3, y4⟩ with
  | false => exact pwithin_b _ _ _ _ _ _ _ _ _ _ h1 h2 w
  | true =>
    obtain ⟨D, hD, hD1, hD4⟩ := mayP_dep _ h1
    obtain ⟨E, hE, hE1, hE4⟩ := mayP_dep _ h2
    dsimp only at hD hE
    have e1 : depN ⟨x0, x1, x2, x3, x4⟩ = D := by unfold depN; dsimp only; omega
    have e2 : depN ⟨y0, y1, y2, y3, y4⟩ = E := by unfold depN; dsimp only; omega
    rw [e1, e2]
    by_cases h3 : E ≤ D
    · rw [decide_eq_true h3]
      have hc := fun W => cut_any ⟨x0, x1, x2, x3, x4⟩ E hE1 hE4 W
      rw [← hE] at hc
      refine pwithin_d _ _ _ _ _ _ _ _ _ _ h1 h2 (by simp; omega) _ ⟨_, _, _, _, _, hc, ?_⟩ w
      rfl
    · rw [decide_eq_false h3]
      exact pwithin_c _ _ _ _ _ _ _ _ _ _ h1 h2 (by simp; omega) w
end Go.Proofs.Ytjenchijenkndaa
