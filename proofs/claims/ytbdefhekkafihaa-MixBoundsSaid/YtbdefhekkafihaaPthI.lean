/- Nodes: Kid, Up, by the program and by the reference. No condition. -/
import Derived.Test.YtbdefhekkafihaaPthK
set_option linter.unusedVariables false
set_option linter.unusedSimpArgs false
namespace Go.Proofs.Ytbdefhekkafihaa
open Go.RowKit (wrap32 wrap64)
open Go.RowKit Go.Shelf
def zeroP : Pt := ⟨0, 0, 0, 0, 0⟩
def optV (o : Option Pt) : Value := .tuple #[.agg (ptA (o.getD zeroP)), .bool o.isSome]
theorem res_box (p : Pt) (w : World) : Below w.heap.size w ((w.alloc (.cells (ptA p) 50)).alloc (.cells #[.int .i64 0, .int .i64 0, .int .i64 0, .int .i64 0, .int .i64 0] 50)) ∧ Bk ((w.alloc (.cells (ptA p) 50)).alloc (.cells #[.int .i64 0, .int .i64 0, .int .i64 0, .int .i64 0, .int .i64 0] 50)) w.heap.size 50 (ptA p) ∧ Bk ((w.alloc (.cells (ptA p) 50)).alloc (.cells #[.int .i64 0, .int .i64 0, .int .i64 0, .int .i64 0, .int .i64 0] 50)) (w.heap.size + 1) 50 #[.int .i64 0, .int .i64 0, .int .i64 0, .int .i64 0, .int .i64 0] := two_box p zeroP w
theorem five_sets {w : World} {R : Nat} (h : Bk w R 50 #[.int .i64 0, .int .i64 0, .int .i64 0, .int .i64 0, .int .i64 0]) (v0 v1 v2 v3 v4 : Value) : (((((w.setCell ⟨R, 0, none⟩ v0).setCell ⟨R, 1, none⟩ v1).setCell ⟨R, 2, none⟩ v2).setCell ⟨R, 3, none⟩ v3).setCell ⟨R, 4, none⟩ v4).cell? ⟨R, 0, none⟩ = some v0 ∧ (((((w.setCell ⟨R, 0, none⟩ v0).setCell ⟨R, 1, none⟩ v1).setCell ⟨R, 2, none⟩ v2).setCell ⟨R, 3, none⟩ v3).setCell ⟨R, 4, none⟩ v4).cell? ⟨R, 1, none⟩ = some v1 ∧ (((((w.setCell ⟨R, 0, none⟩ v0).setCell ⟨R, 1, none⟩ v1).setCell ⟨R, 2, none⟩ v2).setCell ⟨R, 3, none⟩ v3).setCell ⟨R, 4, none⟩ v4).cell? ⟨R, 2, none⟩ = some v2 ∧ (((((w.setCell ⟨R, 0, none⟩ v0).setCell ⟨R, 1, none⟩ v1).setCell ⟨R, 2, none⟩ v2).setCell ⟨R, 3, none⟩ v3).setCell ⟨R, 4, none⟩ v4).cell? ⟨R, 3, none⟩ = some v3 ∧ (((((w.setCell ⟨R, 0, none⟩ v0).setCell ⟨R, 1, none⟩ v1).setCell ⟨R, 2, none⟩ v2).setCell ⟨R, 3, none⟩ v3).setCell ⟨R, 4, none⟩ v4).cell? ⟨R, 4, none⟩ = some v4 := by
  have k := ((((h.set 0 v0).set 1 v1).set 2 v2).set 3 v3).set 4 v4
  exact ⟨k.cell 0, k.cell 1, k.cell 2, k.cell 3, k.cell 4⟩
theorem five_below {B R : Nat} {w0 w : World} (h : Below B w0 w) (hR : B ≤ R) (v0 v1 v2 v3 v4 : Value) : Below B w0 (((((w.setCell ⟨R, 0, none⟩ v0).setCell ⟨R, 1, none⟩ v1).setCell ⟨R, 2, none⟩ v2).setCell ⟨R, 3, none⟩ v3).setCell ⟨R, 4, none⟩ v4) := ((((h.setCell (p := ⟨R, 0, none⟩) hR v0).setCell (p := ⟨R, 1, none⟩) hR v1).setCell (p := ⟨R, 2, none⟩) hR v2).setCell (p := ⟨R, 3, none⟩) hR v3).setCell (p := ⟨R, 4, none⟩) hR v4
theorem two_below {B R : Nat} {w0 w : World} (h : Below B w0 w) (hR : B ≤ R) (i : Nat) (v v4 : Value) : Below B w0 ((w.setCell ⟨R, i, none⟩ v).setCell ⟨R, 4, none⟩ v4) := (h.setCell (p := ⟨R, i, none⟩) hR v).setCell (p := ⟨R, 4, none⟩) hR v4
theorem two_stores {w1 : World} {B R : Nat} {cs rs : Array Value} (k0 : Bk w1 B 50 cs) (k1 : Bk w1 R 50 rs) (hne : R ≠ B) (i : Nat) (v v4 : Value) {ca cb : Array Value} (ha : cs.setIfInBounds i v = ca) (hb : ca.setIfInBounds 4 v4 = cb) : Bk (w1.setCell ⟨B, i, none⟩ v) B 50 ca ∧ Bk (w1.setCell ⟨B, i, none⟩ v) R 50 rs ∧ Bk ((w1.setCell ⟨B, i, none⟩ v).setCell ⟨B, 4, none⟩ v4) B 50 cb ∧ Bk ((w1.setCell ⟨B, i, none⟩ v).setCell ⟨B, 4, none⟩ v4) R 50 rs := by
  subst ha; subst hb
  have r := (Keep.set w1 B i v (fun i => i = B) rfl).bk k1 hne
  exact ⟨k0.set i v, r, (k0.set i v).set 4 v4, (Keep.set _ B 4 v4 (fun i => i = B) rfl).bk r hne⟩
/-- The kid of number n of a node of depth D. -/
def kid (p : Pt) (n : Int) : Pt := ⟨p.n0, if p.dep = 1 then n else p.n1, if p.dep = 2 then n else p.n2, if p.dep = 3 then n else p.n3, p.dep + 1⟩
def kidP (p : Pt) (n : Int) : Option Pt := if mayP p = true ∧ p.dep ≠ 4 ∧ 0 ≤ n ∧ n ≤ 999 then some (kid p n) else none
def upP (p : Pt) : Option Pt := if mayP p = true ∧ p.dep ≠ 1 then some (front p (depN p - 1)) else none
set_option maxRecDepth 100000 in
set_option maxHeartbeats 600000 in
theorem pup_a (x0 x1 x2 x3 x4 : Int) (h1 : mayP (⟨x0, x1, x2, x3, x4⟩ : Pt) = false) (w : World) : Calls Try.prog 37 #[.agg #[.int .i64 x0, .int .i64 x1, .int .i64 x2, .int .i64 x3, .int .i64 x4]] w fun e w' => e = .returned (.tuple #[.agg #[.int .i64 0, .int .i64 0, .int .i64 0, .int .i64 0, .int .i64 0], .bool false]) ∧ Below w.heap.size w w' := by
  obtain ⟨hO, hP, hR⟩ := res_box ⟨x0, x1, x2, x3, x4⟩ w
  have hm := fun W => pmay_any ⟨x0, x1, x2, x3, x4⟩ W
  rw [h1] at hm
  have HM := Lib.hid hm
  have c0 := hP.cell 0
  have c1 := hP.cell 1
  have c2 := hP.cell 2
  have c3 := hP.cell 3
  have c4 := hP.cell 4
  clear hm h1
  go_enter Try.func37, Try.ntmps37
  go_wp2_with (go_at_call 31; refine (HM.out _).mono ?_; rintro e w1 ⟨rfl, hbw⟩; have k0 := hP.below hbw; have k1 := hR.below hbw; have e4 := k0.cell 4; have u0 := k1.cell 0; have u1 := k1.cell 1; have u2 := k1.cell 2; have u3 := k1.cell 3; have u4 := k1.cell 4; have f0 := k1.frozen 0; have f1 := k1.frozen 1; have f2 := k1.frozen 2; have f3 := k1.frozen 3; have f4 := k1.frozen 4; have HF := Lib.hid (five_sets k1 (.int .i64 0) (.int .i64 0) (.int .i64 0) (.int .i64 0) (.int .i64 0)); clear c0 c1 c2 c3 c4 hP hR k0 k1)
  have HB1 := bl_then hO (Nat.le_refl _) hbw
  obtain ⟨z0, z1, z2, z3, z4⟩ := HF.out
  exact bodyPost_ret (v := .tuple #[.agg #[.int .i64 0, .int .i64 0, .int .i64 0, .int .i64 0, .int .i64 0], .bool false]) (by simp [results, Try.results37, go_sem, z0, z1, z2, z3, z4]) rfl ⟨rfl, five_below HB1 (Nat.le_succ _) _ _ _ _ _⟩
set_option maxRecDepth 100000 in
set_option maxHeartbeats 600000 in
theorem pup_b (x0 x1 x2 x3 : Int) (h1 : mayP (⟨x0, x1, x2, x3, 1⟩ : Pt) = true) (w : World) : Calls Try.prog 37 #[.agg #[.int .i64 x0, .int .i64 x1, .int .i64 x2, .int .i64 x3, .int .i64 1]] w fun e w' => e = .returned (.tuple #[.agg #[.int .i64 0, .int .i64 0, .int .i64 0, .int .i64 0, .int .i64 0], .bool false]) ∧ Below w.heap.size w w' := by
  obtain ⟨hO, hP, hR⟩ := res_box ⟨x0, x1, x2, x3, 1⟩ w
  have hm := fun W => pmay_any ⟨x0, x1, x2, x3, 1⟩ W
  rw [h1] at hm
  have HM := Lib.hid hm
  have c0 := hP.cell 0
  have c1 := hP.cell 1
  have c2 := hP.cell 2
  have c3 := hP.cell 3
  have c4 := hP.cell 4
  clear hm h1
  go_enter Try.func37, Try.ntmps37
  go_wp2_with (go_at_call 31; refine (HM.out _).mono ?_; rintro e w1 ⟨rfl, hbw⟩; have k0 := hP.below hbw; have k1 := hR.below hbw; have e4 := k0.cell 4; have u0 := k1.cell 0; have u1 := k1.cell 1; have u2 := k1.cell 2; have u3 := k1.cell 3; have u4 := k1.cell 4; have f0 := k1.frozen 0; have f1 := k1.frozen 1; have f2 := k1.frozen 2; have f3 := k1.frozen 3; have f4 := k1.frozen 4; have HF := Lib.hid (five_sets k1 (.int .i64 0) (.int .i64 0) (.int .i64 0) (.int .i64 0) (.int .i64 0)); clear c0 c1 c2 c3 c4 hP hR k0 k1)
  have HB1 := bl_then hO (Nat.le_refl _) hbw
  obtain ⟨z0, z1, z2, z3, z4⟩ := HF.out
  exact bodyPost_ret (v := .tuple #[.agg #[.int .i64 0, .int .i64 0, .int .i64 0, .int .i64 0, .int .i64 0], .bool false]) (by simp [results, Try.results37, go_sem, z0, z1, z2, z3, z4]) rfl ⟨rfl, five_below HB1 (Nat.le_succ _) _ _ _ _ _⟩
set_option maxRecDepth 100000 in
set_option maxHeartbeats 600000 in
theorem rup_a (x0 x1 x2 x3 x4 : Int) (h1 : mayP (⟨x0, x1, x2, x3, x4⟩ : Pt) = false) (w : World) : Calls Try.prog 25 #[.agg #[.int .i64 x0, .int .i64 x1, .int .i64 x2, .int .i64 x3, .int .i64 x4]] w fun e w' => e = .returned (.tuple #[.agg #[.int .i64 0, .int .i64 0, .int .i64 0, .int .i64 0, .int .i64 0], .bool false]) ∧ Below w.heap.size w w' := by
  obtain ⟨hO, hP, hR⟩ := res_box ⟨x0, x1, x2, x3, x4⟩ w
  have hm := fun W => rpright_any ⟨x0, x1, x2, x3, x4⟩ W
  rw [h1] at hm
  have HM := Lib.hid hm
  have c0 := hP.cell 0
  have c1 := hP.cell 1
  have c2 := hP.cell 2
  have c3 := hP.cell 3
  have c4 := hP.cell 4
  clear hm h1
  go_enter Try.func25, Try.ntmps25
  go_wp2_with (go_at_call 19; refine (HM.out _).mono ?_; rintro e w1 ⟨rfl, hbw⟩; have k0 := hP.below hbw; have k1 := hR.below hbw; have e4 := k0.cell 4; have u0 := k1.cell 0; have u1 := k1.cell 1; have u2 := k1.cell 2; have u3 := k1.cell 3; have u4 := k1.cell 4; have f0 := k1.frozen 0; have f1 := k1.frozen 1; have f2 := k1.frozen 2; have f3 := k1.frozen 3; have f4 := k1.frozen 4; have HF := Lib.hid (five_sets k1 (.int .i64 0) (.int .i64 0) (.int .i64 0) (.int .i64 0) (.int .i64 0)); clear c0 c1 c2 c3 c4 hP hR k0 k1)
  have HB1 := bl_then hO (Nat.le_refl _) hbw
  obtain ⟨z0, z1, z2, z3, z4⟩ := HF.out
  exact bodyPost_ret (v := .tuple #[.agg #[.int .i64 0, .int .i64 0, .int .i64 0, .int .i64 0, .int .i64 0], .bool false]) (by simp [results, Try.results25, go_sem, z0, z1, z2, z3, z4]) rfl ⟨rfl, five_below HB1 (Nat.le_succ _) _ _ _ _ _⟩
set_option maxRecDepth 100000 in
set_option maxHeartbeats 600000 in
theorem rup_b (x0 x1 x2 x3 : Int) (h1 : mayP (⟨x0, x1, x2, x3, 1⟩ : Pt) = true) (w : World) : Calls Try.prog 25 #[.agg #[.int .i64 x0, .int .i64 x1, .int .i64 x2, .int .i64 x3, .int .i64 1]] w fun e w' => e = .returned (.tuple #[.agg #[.int .i64 0, .int .i64 0, .int .i64 0, .int .i64 0, .int .i64 0], .bool false]) ∧ Below w.heap.size w w' := by
  obtain ⟨hO, hP, hR⟩ := res_box ⟨x0, x1, x2, x3, 1⟩ w
  have hm := fun W => rpright_any ⟨x0, x1, x2, x3, 1⟩ W
  rw [h1] at hm
  have HM := Lib.hid hm
  have c0 := hP.cell 0
  have c1 := hP.cell 1
  have c2 := hP.cell 2
  have c3 := hP.cell 3
  have c4 := hP.cell 4
  clear hm h1
  go_enter Try.func25, Try.ntmps25
  go_wp2_with (go_at_call 19; refine (HM.out _).mono ?_; rintro e w1 ⟨rfl, hbw⟩; have k0 := hP.below hbw; have k1 := hR.below hbw; have e4 := k0.cell 4; have u0 := k1.cell 0; have u1 := k1.cell 1; have u2 := k1.cell 2; have u3 := k1.cell 3; have u4 := k1.cell 4; have f0 := k1.frozen 0; have f1 := k1.frozen 1; have f2 := k1.frozen 2; have f3 := k1.frozen 3; have f4 := k1.frozen 4; have HF := Lib.hid (five_sets k1 (.int .i64 0) (.int .i64 0) (.int .i64 0) (.int .i64 0) (.int .i64 0)); clear c0 c1 c2 c3 c4 hP hR k0 k1)
  have HB1 := bl_then hO (Nat.le_refl _) hbw
  obtain ⟨z0, z1, z2, z3, z4⟩ := HF.out
  exact bodyPost_ret (v := .tuple #[.agg #[.int .i64 0, .int .i64 0, .int .i64 0, .int .i64 0, .int .i64 0], .bool false]) (by simp [results, Try.results25, go_sem, z0, z1, z2, z3, z4]) rfl ⟨rfl, five_below HB1 (Nat.le_succ _) _ _ _ _ _⟩
set_option maxRecDepth 100000 in
set_option maxHeartbeats 600000 in
theorem pup_c (x0 x1 x2 x3 x4 : Int) (h1 : mayP (⟨x0, x1, x2, x3, x4⟩ : Pt) = true) (h2 : 2 ≤ x4) (y0 y1 y2 y3 y4 : Int) (hc : ∀ W, Calls Try.prog 45 #[.agg #[.int .i64 x0, .int .i64 x1, .int .i64 x2, .int .i64 x3, .int .i64 x4], .int .i64 (x4 - 1)] W fun e w' => e = .returned (.agg #[.int .i64 y0, .int .i64 y1, .int .i64 y2, .int .i64 y3, .int .i64 y4]) ∧ Below W.heap.size W w') (w : World) : Calls Try.prog 37 #[.agg #[.int .i64 x0, .int .i64 x1, .int .i64 x2, .int .i64 x3, .int .i64 x4]] w fun e w' => e = .returned (.tuple #[.agg #[.int .i64 y0, .int .i64 y1, .int .i64 y2, .int .i64 y3, .int .i64 y4], .bool true]) ∧ Below w.heap.size w w' := by
  obtain ⟨D, hD, hD1, hD4⟩ := mayP_dep _ h1
  dsimp only at hD
  have t1 : IntKind.i64.wrap (x4 - 1) = x4 - 1 := by rw [IntKind.wrap_i64]; omega
  have hne : (x4 == 1) = false := beq_eq_false_iff_ne.2 (by omega)
  have HC := Lib.hid hc
  clear hc hD
  obtain ⟨hO, hP, hR⟩ := res_box ⟨x0, x1, x2, x3, x4⟩ w
  have hm := fun W => pmay_any ⟨x0, x1, x2, x3, x4⟩ W
  rw [h1] at hm
  have HM := Lib.hid hm
  have c0 := hP.cell 0
  have c1 := hP.cell 1
  have c2 := hP.cell 2
  have c3 := hP.cell 3
  have c4 := hP.cell 4
  clear hm h1
  go_enter Try.func37, Try.ntmps37
  go_wp2_with (first
    | (go_at_call 31; refine (HM.out _).mono ?_; rintro e w1 ⟨rfl, hbw⟩; have k0 := hP.below hbw; have k1 := hR.below hbw; have e0 := k0.cell 0; have e1 := k0.cell 1; have e2 := k0.cell 2; have e3 := k0.cell 3; have e4 := k0.cell 4; clear c0 c1 c2 c3 c4 hP hR k0)
    | (go_at_call 45; refine (HC.out _).mono ?_; rintro e w2 ⟨rfl, hbx⟩; have k2 := k1.below hbx; have u0 := k2.cell 0; have u1 := k2.cell 1; have u2 := k2.cell 2; have u3 := k2.cell 3; have u4 := k2.cell 4; have f0 := k2.frozen 0; have f1 := k2.frozen 1; have f2 := k2.frozen 2; have f3 := k2.frozen 3; have f4 := k2.frozen 4; have HF := Lib.hid (five_sets k2 (.int .i64 y0) (.int .i64 y1) (.int .i64 y2) (.int .i64 y3) (.int .i64 y4)); clear e0 e1 e2 e3 e4 k1 k2))
  have HB1 := bl_then (bl_then hO (Nat.le_refl _) hbw) (Nat.le_refl _) hbx
  obtain ⟨z0, z1, z2, z3, z4⟩ := HF.out
  exact bodyPost_ret (v := .tuple #[.agg #[.int .i64 y0, .int .i64 y1, .int .i64 y2, .int .i64 y3, .int .i64 y4], .bool true]) (by simp [results, Try.results37, go_sem, z0, z1, z2, z3, z4]) rfl ⟨rfl, five_below HB1 (Nat.le_succ _) _ _ _ _ _⟩
set_option maxRecDepth 100000 in
set_option maxHeartbeats 600000 in
theorem rup_c (x0 x1 x2 x3 x4 : Int) (h1 : mayP (⟨x0, x1, x2, x3, x4⟩ : Pt) = true) (h2 : 2 ≤ x4) (y0 y1 y2 y3 y4 : Int) (hc : ∀ W, Calls Try.prog 38 #[.agg #[.int .i64 x0, .int .i64 x1, .int .i64 x2, .int .i64 x3, .int .i64 x4], .int .i64 (x4 - 1)] W fun e w' => e = .returned (.agg #[.int .i64 y0, .int .i64 y1, .int .i64 y2, .int .i64 y3, .int .i64 y4]) ∧ Below W.heap.size W w') (w : World) : Calls Try.prog 25 #[.agg #[.int .i64 x0, .int .i64 x1, .int .i64 x2, .int .i64 x3, .int .i64 x4]] w fun e w' => e = .returned (.tuple #[.agg #[.int .i64 y0, .int .i64 y1, .int .i64 y2, .int .i64 y3, .int .i64 y4], .bool true]) ∧ Below w.heap.size w w' := by
  obtain ⟨D, hD, hD1, hD4⟩ := mayP_dep _ h1
  dsimp only at hD
  have t1 : IntKind.i64.wrap (x4 - 1) = x4 - 1 := by rw [IntKind.wrap_i64]; omega
  have hne : (x4 == 1) = false := beq_eq_false_iff_ne.2 (by omega)
  have HC := Lib.hid hc
  clear hc hD
  obtain ⟨hO, hP, hR⟩ := res_box ⟨x0, x1, x2, x3, x4⟩ w
  have hm := fun W => rpright_any ⟨x0, x1, x2, x3, x4⟩ W
  rw [h1] at hm
  have HM := Lib.hid hm
  have c0 := hP.cell 0
  have c1 := hP.cell 1
  have c2 := hP.cell 2
  have c3 := hP.cell 3
  have c4 := hP.cell 4
  clear hm h1
  go_enter Try.func25, Try.ntmps25
  go_wp2_with (first
    | (go_at_call 19; refine (HM.out _).mono ?_; rintro e w1 ⟨rfl, hbw⟩; have k0 := hP.below hbw; have k1 := hR.below hbw; have e0 := k0.cell 0; have e1 := k0.cell 1; have e2 := k0.cell 2; have e3 := k0.cell 3; have e4 := k0.cell 4; clear c0 c1 c2 c3 c4 hP hR k0)
    | (go_at_call 38; refine (HC.out _).mono ?_; rintro e w2 ⟨rfl, hbx⟩; have k2 := k1.below hbx; have u0 := k2.cell 0; have u1 := k2.cell 1; have u2 := k2.cell 2; have u3 := k2.cell 3; have u4 := k2.cell 4; have f0 := k2.frozen 0; have f1 := k2.frozen 1; have f2 := k2.frozen 2; have f3 := k2.frozen 3; have f4 := k2.frozen 4; have HF := Lib.hid (five_sets k2 (.int .i64 y0) (.int .i64 y1) (.int .i64 y2) (.int .i64 y3) (.int .i64 y4)); clear e0 e1 e2 e3 e4 k1 k2))
  have HB1 := bl_then (bl_then hO (Nat.le_refl _) hbw) (Nat.le_refl _) hbx
  obtain ⟨z0, z1, z2, z3, z4⟩ := HF.out
  exact bodyPost_ret (v := .tuple #[.agg #[.int .i64 y0, .int .i64 y1, .int .i64 y2, .int .i64 y3, .int .i64 y4], .bool true]) (by simp [results, Try.results25, go_sem, z0, z1, z2, z3, z4]) rfl ⟨rfl, five_below HB1 (Nat.le_succ _) _ _ _ _ _⟩
theorem kidP_no {p : Pt} {n : Int} (h : ¬ (mayP p = true ∧ p.dep ≠ 4 ∧ 0 ≤ n ∧ n ≤ 999)) : kidP p n = none := if_neg h
theorem kidP_yes {p : Pt} {n : Int} (h : mayP p = true ∧ p.dep ≠ 4 ∧ 0 ≤ n ∧ n ≤ 999) : kidP p n = some (kid p n) := if_pos h
theorem mayP_iff (p : Pt) : mayP p = true ↔ 1 ≤ p.dep ∧ p.dep ≤ 4 ∧ (0 ≤ p.n0 ∧ p.n0 ≤ 999) ∧ (0 ≤ p.n1 ∧ p.n1 ≤ 999 ∧ (p.dep ≤ 1 → p.n1 = 0)) ∧ (0 ≤ p.n2 ∧ p.n2 ≤ 999 ∧ (p.dep ≤ 2 → p.n2 = 0)) ∧ (0 ≤ p.n3 ∧ p.n3 ≤ 999 ∧ (p.dep ≤ 3 → p.n3 = 0)) := by
  constructor
  · intro h
    obtain ⟨D, hD, hD1, hD4⟩ := mayP_dep _ h
    have a0 := mayP_num p h 0 (by omega)
    have a1 := mayP_num p h 1 (by omega)
    have a2 := mayP_num p h 2 (by omega)
    have a3 := mayP_num p h 3 (by omega)
    simp only [num] at a0 a1 a2 a3
    omega
  · intro h
    unfold mayP okTo okTo okTo okTo okTo okAt
    simp [num]
    omega
theorem mayP_kid {p : Pt} {n : Int} (h : mayP p = true) (h4 : p.dep ≠ 4) : mayP (kid p n) = (decide (0 ≤ n) && decide (n ≤ 999)) := by
  have hp := (mayP_iff p).1 h
  rw [Bool.eq_iff_iff, mayP_iff]
  unfold kid
  simp only [Bool.and_eq_true, decide_eq_true_eq]
  obtain ⟨x0, x1, x2, x3, x4⟩ := p
  dsimp only at hp h4 ⊢
  obtain h | h | h : x4 = 1 ∨ x4 = 2 ∨ x4 = 3 := by omega
  all_goals (subst h; simp only [if_true]; simp; omega)
theorem pup_any (p : Pt) (w : World) : Calls Try.prog 37 #[.agg (ptA p)] w fun e w' => e = .returned (optV (upP p)) ∧ Below w.heap.size w w' := by
  cases h1 : mayP p with
  | false => rw [show upP p = none from if_neg (by rw [h1]; simp)]; exact pup_a _ _ _ _ _ h1 w
  | true =>
    obtain ⟨D, hD, hD1, hD4⟩ := mayP_dep _ h1
    obtain ⟨x0, x1, x2, x3, x4⟩ := p
    dsimp only at hD
    by_cases h4 : x4 = 1
    · subst h4
      rw [show upP ⟨x0, x1, x2, x3, 1⟩ = none from if_neg (by simp)]; exact pup_b _ _ _ _ h1 w
    · rw [show upP ⟨x0, x1, x2, x3, x4⟩ = some (front ⟨x0, x1, x2, x3, x4⟩ (D - 1)) from (if_pos ⟨h1, h4⟩).trans (by unfold depN; dsimp only; rw [hD]; rfl)]
      have hc := fun W => cut_any ⟨x0, x1, x2, x3, x4⟩ (D - 1) (by omega) (by omega) W
      rw [show (((D - 1 : Nat) : Int)) = x4 - 1 by omega] at hc
      exact pup_c _ _ _ _ _ h1 (by omega) _ _ _ _ _ hc w
theorem rup_any (p : Pt) (w : World) : Calls Try.prog 25 #[.agg (ptA p)] w fun e w' => e = .returned (optV (upP p)) ∧ Below w.heap.size w w' := by
  cases h1 : mayP p with
  | false => rw [show upP p = none from if_neg (by rw [h1]; simp)]; exact rup_a _ _ _ _ _ h1 w
  | true =>
    obtain ⟨D, hD, hD1, hD4⟩ := mayP_dep _ h1
    obtain ⟨x0, x1, x2, x3, x4⟩ := p
    dsimp only at hD
    by_cases h4 : x4 = 1
    · subst h4
      rw [show upP ⟨x0, x1, x2, x3, 1⟩ = none from if_neg (by simp)]; exact rup_b _ _ _ _ h1 w
    · rw [show upP ⟨x0, x1, x2, x3, x4⟩ = some (front ⟨x0, x1, x2, x3, x4⟩ (D - 1)) from (if_pos ⟨h1, h4⟩).trans (by unfold depN; dsimp only; rw [hD]; rfl)]
      have hc := fun W => rfront_any ⟨x0, x1, x2, x3, x4⟩ (D - 1) (by omega) (by omega) W
      rw [show (((D - 1 : Nat) : Int)) = x4 - 1 by omega] at hc
      exact rup_c _ _ _ _ _ h1 (by omega) _ _ _ _ _ hc w
end Go.Proofs.Ytbdefhekkafihaa
