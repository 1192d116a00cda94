/- PathKids: the plain law and its walk. Condition: the library's table of powers of ten reads as the program lays it. -/
import Derived.Test.YtlbjlopljlblpaaDoorPthX
set_option linter.unusedVariables false
set_option linter.unusedSimpArgs false
namespace Go.Proofs.YtlbjlopljlblpaaDoor
open Go.RowKit (wrap32 wrap64)
open Go.RowKit Go.Shelf
open Go.Sort (grow)
theorem may_kid {p : Pt} {n : Int} (h : mayP p = true) (h4 : p.dep ≠ 4) (h0 : 0 ≤ n) (h9 : n ≤ 999) : mayP (kid p n) = true := by
  rw [mayP_kid h h4, decide_eq_true h0, decide_eq_true h9]; rfl
theorem up_kid {p : Pt} {n : Int} (h : mayP p = true) (h4 : p.dep ≠ 4) (h0 : 0 ≤ n) (h9 : n ≤ 999) : upP (kid p n) = some p := by
  have hp := (mayP_iff p).1 h
  have hk := may_kid h h4 h0 h9
  have hd : (kid p n).dep = p.dep + 1 := rfl
  unfold upP
  rw [if_pos ⟨hk, by rw [hd]; omega⟩]
  congr 1
  have hn : depN (kid p n) - 1 = p.dep.toNat := by unfold depN; rw [hd]; omega
  rw [hn, front_iff _ _ _ h (by omega) (by omega)]
  unfold kid
  obtain ⟨x0, x1, x2, x3, x4⟩ := p
  dsimp only at *
  obtain rfl | rfl | rfl : x4 = 1 ∨ x4 = 2 ∨ x4 = 3 := by omega
  all_goals simp
theorem kid_within {p : Pt} {n : Int} (h : mayP p = true) (h4 : p.dep ≠ 4) (h0 : 0 ≤ n) (h9 : n ≤ 999) : withinP (kid p n) p = true := by
  have hp := (mayP_iff p).1 h
  rw [within_iff]
  refine ⟨may_kid h h4 h0 h9, h, ?_⟩
  unfold pre kid
  obtain ⟨x0, x1, x2, x3, x4⟩ := p
  dsimp only at *
  obtain rfl | rfl | rfl : x4 = 1 ∨ x4 = 2 ∨ x4 = 3 := by omega
  all_goals simp
theorem keyR_kid (p : Pt) (n : Int) : ∀ (k : Nat), (k : Int) ≤ p.dep → 1 ≤ p.dep → p.dep ≤ 3 → keyR (kid p n) k = keyR p k
  | 0, _, _, _ => rfl
  | k + 1, hk, h1, h3 => by
    rw [keyR, keyR, keyR_kid p n k (by omega) h1 h3]
    have : num (kid p n) k = num p k := by
      unfold kid
      obtain ⟨x0, x1, x2, x3, x4⟩ := p
      dsimp only at *
      obtain rfl | rfl | rfl : k = 0 ∨ k = 1 ∨ k = 2 := by omega
      · rfl
      · simp only [num]; rw [if_neg (by omega)]
      · simp only [num]; rw [if_neg (by omega)]
    rw [this]
theorem kid_key {p : Pt} {n : Int} (h : mayP p = true) (h4 : p.dep ≠ 4) (h0 : 0 ≤ n) (h9 : n ≤ 999) : keyP (kid p n) = keyP p * 1001 + n + 1 := by
  have hp := (mayP_iff p).1 h
  unfold keyP
  rw [if_pos (may_kid h h4 h0 h9), if_pos h]
  have hd : depN (kid p n) = depN p + 1 := by unfold depN; show (p.dep + 1).toNat = _; omega
  have hdn : ((depN p : Nat) : Int) = p.dep := by unfold depN; omega
  rw [hd, keyR, keyR_kid p n (depN p) (by omega) hp.1 (by omega)]
  have : num (kid p n) (depN p) = n := by
    unfold kid depN
    obtain ⟨x0, x1, x2, x3, x4⟩ := p
    dsimp only at *
    obtain rfl | rfl | rfl : x4 = 1 ∨ x4 = 2 ∨ x4 = 3 := by omega
    all_goals rfl
  rw [this]
theorem kid_eq {p : Pt} {n k : Int} (h : mayP p = true) (h4 : p.dep ≠ 4) : kid p n = kid p k ↔ n = k := by
  have hp := (mayP_iff p).1 h
  constructor
  · intro e
    rw [pt_eq] at e
    unfold kid at e
    obtain ⟨x0, x1, x2, x3, x4⟩ := p
    dsimp only at *
    obtain rfl | rfl | rfl : x4 = 1 ∨ x4 = 2 ∨ x4 = 3 := by omega
    all_goals (simp at e; exact e)
  · rintro rfl; rfl
theorem kid_less {p : Pt} {n k : Int} (h : mayP p = true) (h4 : p.dep ≠ 4) (h0 : 0 ≤ n) (h9 : n ≤ 999) (k0 : 0 ≤ k) (k9 : k ≤ 999) : lessP (kid p n) (kid p k) = decide (n < k) := by
  have hp := (mayP_iff p).1 h
  have a := may_vn _ (may_kid h h4 h0 h9)
  have b := may_vn _ (may_kid h h4 k0 k9)
  rw [Bool.eq_iff_iff, less_iff]
  simp only [may_kid h h4 h0 h9, may_kid h h4 k0 k9, true_and, decide_eq_true_eq]
  unfold lex4
  generalize hA : kid p n = A at *
  generalize hB : kid p k = B at *
  have eA : A.n0 = p.n0 ∧ (A.n1 = if p.dep = 1 then n else p.n1) ∧ (A.n2 = if p.dep = 2 then n else p.n2) ∧ (A.n3 = if p.dep = 3 then n else p.n3) ∧ A.dep = p.dep + 1 := by rw [← hA]; exact ⟨rfl, rfl, rfl, rfl, rfl⟩
  have eB : B.n0 = p.n0 ∧ (B.n1 = if p.dep = 1 then k else p.n1) ∧ (B.n2 = if p.dep = 2 then k else p.n2) ∧ (B.n3 = if p.dep = 3 then k else p.n3) ∧ B.dep = p.dep + 1 := by rw [← hB]; exact ⟨rfl, rfl, rfl, rfl, rfl⟩
  clear hA hB
  generalize vn A 0 = u0 at *
  generalize vn A 1 = u1 at *
  generalize vn A 2 = u2 at *
  generalize vn A 3 = u3 at *
  generalize vn B 0 = w0 at *
  generalize vn B 1 = w1 at *
  generalize vn B 2 = w2 at *
  generalize vn B 3 = w3 at *
  obtain hd | hd | hd : p.dep = 1 ∨ p.dep = 2 ∨ p.dep = 3 := by omega
  all_goals
    rw [hd] at eA eB
    obtain ⟨q0, q1, q2, q3, q4⟩ := eA
    obtain ⟨r0, r1, r2, r3, r4⟩ := eB
    rw [q4] at a
    rw [r4] at b
    simp at a b q1 q2 q3 r1 r2 r3
    omega
theorem key_small {p : Pt} (h : mayP p = true) (h4 : p.dep ≠ 4) : 0 ≤ keyP p ∧ keyP p < 1003003001 := by
  have hp := (mayP_iff p).1 h
  unfold keyP
  rw [if_pos h]
  exact keyR_small p h (depN p) (by unfold depN; omega)
theorem optV_none : optV none = .tuple #[.agg #[.int .i64 0, .int .i64 0, .int .i64 0, .int .i64 0, .int .i64 0], .bool false] := rfl
theorem box1 {w0 w : World} {b : Nat} {cs : Array Value} (h : Bk w0 b 24 cs) (hb : Below w0.heap.size w0 w) (ds : Array Value) : Bk (w.alloc (.cells ds 24)) b 24 cs := (h.below hb).below ((Below.refl _ _).alloc (Nat.le_refl _) _)
theorem below1 {w0 w1 w : World} (h : Below w0.heap.size w0 w1) (hb : Below w1.heap.size w1 w) (ds : Array Value) : Below w0.heap.size w0 (w.alloc (.cells ds 24)) :=
  bl_then (bl_then h (Nat.le_refl _) hb) (Nat.le_refl _) ((Below.refl _ _).alloc (Nat.le_refl _) _)
set_option maxRecDepth 100000 in
set_option maxHeartbeats 2000000 in
theorem pkids_no (p0 p1 p2 p3 p4 n k y0 y1 y2 y3 y4 : Int) (b : Bool) (hk1 : ∀ W, Calls Tryd.prog 20 #[.agg #[.int .i64 p0, .int .i64 p1, .int .i64 p2, .int .i64 p3, .int .i64 p4], .int .i64 n] W fun e w' => e = .returned (.tuple #[.agg #[.int .i64 0, .int .i64 0, .int .i64 0, .int .i64 0, .int .i64 0], .bool false]) ∧ Below W.heap.size W w') (hk2 : ∀ W, Calls Tryd.prog 20 #[.agg #[.int .i64 p0, .int .i64 p1, .int .i64 p2, .int .i64 p3, .int .i64 p4], .int .i64 k] W fun e w' => e = .returned (.tuple #[.agg #[.int .i64 y0, .int .i64 y1, .int .i64 y2, .int .i64 y3, .int .i64 y4], .bool b]) ∧ Below W.heap.size W w') (hwhy : mayP (⟨p0, p1, p2, p3, p4⟩ : Pt) = false ∨ (mayP (⟨p0, p1, p2, p3, p4⟩ : Pt) = true ∧ (p4 == 4) = true) ∨ (mayP (⟨p0, p1, p2, p3, p4⟩ : Pt) = true ∧ (p4 == 4) = false ∧ n < 0) ∨ (mayP (⟨p0, p1, p2, p3, p4⟩ : Pt) = true ∧ (p4 == 4) = false ∧ ¬ n < 0 ∧ 999 < n)) (w : World) (ht : Tab10 w) : Calls Tryd.prog 6 #[.agg #[.int .i64 p0, .int .i64 p1, .int .i64 p2, .int .i64 p3, .int .i64 p4], .int .i64 n, .int .i64 k] w fun e w' => e = .returned (.bool true) ∧ Below w.heap.size w w' := by
  have HK1 := Lib.hid hk1
  have HK2 := Lib.hid hk2
  clear hk1 hk2
  obtain ⟨hO, hP⟩ : Below w.heap.size w (w.alloc (.cells (ptA ⟨p0, p1, p2, p3, p4⟩) 24)) ∧ Bk (w.alloc (.cells (ptA ⟨p0, p1, p2, p3, p4⟩) 24)) w.heap.size 24 #[.int .i64 p0, .int .i64 p1, .int .i64 p2, .int .i64 p3, .int .i64 p4] := ⟨(Below.refl _ _).alloc (Nat.le_refl _) _, Bk.new w _ _⟩
  dsimp only [ptA] at hO hP
  have haw := pawake_any _ (tab_below ht _ hO)
  have HAW := Lib.hid haw
  clear haw ht
  go_enter Tryd.func6, Tryd.ntmps6
  go_wp2_with fail
  refine (HAW.out).mono ?_
  rintro e w1 ⟨rfl, hb1⟩
  have k1 := hP.below hb1
  have B1 := bl_then hO (Nat.le_refl _) hb1
  clear hP hb1 hO HAW
  have c0 := k1.cell 0
  have c1 := k1.cell 1
  have c2 := k1.cell 2
  have c3 := k1.cell 3
  have c4 := k1.cell 4
  go_wp2_with fail
  refine (HK1.out w1).mono ?_
  rintro e w2 ⟨rfl, hb2⟩
  have k2 := box1 k1 hb2 #[.int .i64 0, .int .i64 0, .int .i64 0, .int .i64 0, .int .i64 0]
  have kx2 := Bk.new w2 24 #[.int .i64 0, .int .i64 0, .int .i64 0, .int .i64 0, .int .i64 0]
  have B2 := below1 B1 hb2 #[.int .i64 0, .int .i64 0, .int .i64 0, .int .i64 0, .int .i64 0]
  clear c0 c1 c2 c3 c4 k1 B1 hb2
  have c0 := k2.cell 0
  have c1 := k2.cell 1
  have c2 := k2.cell 2
  have c3 := k2.cell 3
  have c4 := k2.cell 4
  go_wp2_with fail
  refine (HK2.out _).mono ?_
  rintro e w3 ⟨rfl, hb3⟩
  have k3 := box1 k2 hb3 #[.int .i64 y0, .int .i64 y1, .int .i64 y2, .int .i64 y3, .int .i64 y4]
  have kx3 := box1 kx2 hb3 #[.int .i64 y0, .int .i64 y1, .int .i64 y2, .int .i64 y3, .int .i64 y4]
  have ky3 := Bk.new w3 24 #[.int .i64 y0, .int .i64 y1, .int .i64 y2, .int .i64 y3, .int .i64 y4]
  have B3 := below1 B2 hb3 #[.int .i64 y0, .int .i64 y1, .int .i64 y2, .int .i64 y3, .int .i64 y4]
  clear c0 c1 c2 c3 c4 k2 kx2 B2 hb3
  go_upto_region 5 with fail
  generalize w3.alloc (.cells #[.int .i64 y0, .int .i64 y1, .int .i64 y2, .int .i64 y3, .int .i64 y4] 24) = w4 at k3 kx3 ky3 B3 ⊢
  generalize w3.heap.size = by3 at ky3 ⊢
  generalize w2.heap.size = bx3 at kx3 ⊢
  have heq := eqlPt ⟨0, 0, 0, 0, 0⟩ ⟨0, 0, 0, 0, 0⟩
  rw [decide_eq_true rfl] at heq
  dsimp only at heq
  have hgd := gdPt
  have c0 := k3.cell 0
  have c1 := k3.cell 1
  have c2 := k3.cell 2
  have c3 := k3.cell 3
  have c4 := k3.cell 4
  have d0 := kx3.cell 0
  have d1 := kx3.cell 1
  have d2 := kx3.cell 2
  have d3 := kx3.cell 3
  have d4 := kx3.cell 4
  have hm := fun W => pmay_any (⟨p0, p1, p2, p3, p4⟩ : Pt) W
  rcases hwhy with h1 | ⟨h1, h2⟩ | ⟨h1, h2, h3⟩ | ⟨h1, h2, h3, h4⟩
  all_goals
    rw [h1] at hm
    have HM := Lib.hid hm
    clear hm h1
    go_wp2_with (go_at_call 9; refine (HM.out _).mono ?_; rintro e w5 ⟨rfl, hb5⟩; have k5 := k3.below hb5; have e4 := k5.cell 4; clear c0 c1 c2 c3 c4 k3)
    go_ret
    exact ⟨rfl, bl_then B3 (Nat.le_refl _) hb5⟩
set_option maxRecDepth 100000 in
set_option maxHeartbeats 2000000 in
theorem pkids_yes (p0 p1 p2 p3 p4 n k x0 x1 x2 x3 x4 y0 y1 y2 y3 y4 : Int) (b : Bool) (hk1 : ∀ W, Calls Tryd.prog 20 #[.agg #[.int .i64 p0, .int .i64 p1, .int .i64 p2, .int .i64 p3, .int .i64 p4], .int .i64 n] W fun e w' => e = .returned (.tuple #[.agg #[.int .i64 x0, .int .i64 x1, .int .i64 x2, .int .i64 x3, .int .i64 x4], .bool true]) ∧ Below W.heap.size W w') (hk2 : ∀ W, Calls Tryd.prog 20 #[.agg #[.int .i64 p0, .int .i64 p1, .int .i64 p2, .int .i64 p3, .int .i64 p4], .int .i64 k] W fun e w' => e = .returned (.tuple #[.agg #[.int .i64 y0, .int .i64 y1, .int .i64 y2, .int .i64 y3, .int .i64 y4], .bool b]) ∧ Below W.heap.size W w') (hup : ∀ W, Calls Tryd.prog 21 #[.agg #[.int .i64 x0, .int .i64 x1, .int .i64 x2, .int .i64 x3, .int .i64 x4]] W fun e w' => e = .returned (.tuple #[.agg #[.int .i64 p0, .int .i64 p1, .int .i64 p2, .int .i64 p3, .int .i64 p4], .bool true]) ∧ Below W.heap.size W w') (hw : withinP ⟨x0, x1, x2, x3, x4⟩ (⟨p0, p1, p2, p3, p4⟩ : Pt) = true) (kx kp : Int) (hkx : keyP ⟨x0, x1, x2, x3, x4⟩ = kx) (hkp : keyP (⟨p0, p1, p2, p3, p4⟩ : Pt) = kp) (hkk : kx = kp * 1001 + n + 1) (hk0 : 0 ≤ kp) (hk9 : kp < 1003003001) (hn0 : 0 ≤ n) (hn9 : n ≤ 999) (hb : b = false ∨ (b = true ∧ n = k ∧ (⟨x0, x1, x2, x3, x4⟩ : Pt) = ⟨y0, y1, y2, y3, y4⟩ ∧ lessP ⟨x0, x1, x2, x3, x4⟩ ⟨y0, y1, y2, y3, y4⟩ = false) ∨ (b = true ∧ n ≠ k ∧ (⟨x0, x1, x2, x3, x4⟩ : Pt) ≠ ⟨y0, y1, y2, y3, y4⟩ ∧ lessP ⟨x0, x1, x2, x3, x4⟩ ⟨y0, y1, y2, y3, y4⟩ = decide (n < k))) (w : World) (ht : Tab10 w) : Calls Tryd.prog 6 #[.agg #[.int .i64 p0, .int .i64 p1, .int .i64 p2, .int .i64 p3, .int .i64 p4], .int .i64 n, .int .i64 k] w fun e w' => e = .returned (.bool true) ∧ Below w.heap.size w w' := by
  have HUP := Lib.hid hup
  clear hup
  have HK1 := Lib.hid hk1
  have HK2 := Lib.hid hk2
  clear hk1 hk2
  obtain ⟨hO, hP⟩ : Below w.heap.size w (w.alloc (.cells (ptA ⟨p0, p1, p2, p3, p4⟩) 24)) ∧ Bk (w.alloc (.cells (ptA ⟨p0, p1, p2, p3, p4⟩) 24)) w.heap.size 24 #[.int .i64 p0, .int .i64 p1, .int .i64 p2, .int .i64 p3, .int .i64 p4] := ⟨(Below.refl _ _).alloc (Nat.le_refl _) _, Bk.new w _ _⟩
  dsimp only [ptA] at hO hP
  have haw := pawake_any _ (tab_below ht _ hO)
  have HAW := Lib.hid haw
  clear haw ht
  go_enter Tryd.func6, Tryd.ntmps6
  go_wp2_with fail
  refine (HAW.out).mono ?_
  rintro e w1 ⟨rfl, hb1⟩
  have k1 := hP.below hb1
  have B1 := bl_then hO (Nat.le_refl _) hb1
  clear hP hb1 hO HAW
  have c0 := k1.cell 0
  have c1 := k1.cell 1
  have c2 := k1.cell 2
  have c3 := k1.cell 3
  have c4 := k1.cell 4
  go_wp2_with fail
  refine (HK1.out w1).mono ?_
  rintro e w2 ⟨rfl, hb2⟩
  have k2 := box1 k1 hb2 #[.int .i64 x0, .int .i64 x1, .int .i64 x2, .int .i64 x3, .int .i64 x4]
  have kx2 := Bk.new w2 24 #[.int .i64 x0, .int .i64 x1, .int .i64 x2, .int .i64 x3, .int .i64 x4]
  have B2 := below1 B1 hb2 #[.int .i64 x0, .int .i64 x1, .int .i64 x2, .int .i64 x3, .int .i64 x4]
  clear c0 c1 c2 c3 c4 k1 B1 hb2
  have c0 := k2.cell 0
  have c1 := k2.cell 1
  have c2 := k2.cell 2
  have c3 := k2.cell 3
  have c4 := k2.cell 4
  go_wp2_with fail
  refine (HK2.out _).mono ?_
  rintro e w3 ⟨rfl, hb3⟩
  have k3 := box1 k2 hb3 #[.int .i64 y0, .int .i64 y1, .int .i64 y2, .int .i64 y3, .int .i64 y4]
  have kx3 := box1 kx2 hb3 #[.int .i64 y0, .int .i64 y1, .int .i64 y2, .int .i64 y3, .int .i64 y4]
  have ky3 := Bk.new w3 24 #[.int .i64 y0, .int .i64 y1, .int .i64 y2, .int .i64 y3, .int .i64 y4]
  have B3 := below1 B2 hb3 #[.int .i64 y0, .int .i64 y1, .int .i64 y2, .int .i64 y3, .int .i64 y4]
  clear c0 c1 c2 c3 c4 k2 kx2 B2 hb3
  go_upto_region 5 with fail
  generalize w3.alloc (.cells #[.int .i64 y0, .int .i64 y1, .int .i64 y2, .int .i64 y3, .int .i64 y4] 24) = w4 at k3 kx3 ky3 B3 ⊢
  generalize w3.heap.size = by3 at ky3 ⊢
  generalize w2.heap.size = bx3 at kx3 ⊢
  have d0 := kx3.cell 0
  have d1 := kx3.cell 1
  have d2 := kx3.cell 2
  have d3 := kx3.cell 3
  have d4 := kx3.cell 4
  go_wp2_with fail
  refine (HUP.out w4).mono ?_
  rintro e w5 ⟨rfl, hb5⟩
  have k5 := box1 k3 hb5 #[.int .i64 p0, .int .i64 p1, .int .i64 p2, .int .i64 p3, .int .i64 p4]
  have x5 := box1 kx3 hb5 #[.int .i64 p0, .int .i64 p1, .int .i64 p2, .int .i64 p3, .int .i64 p4]
  have y5 := box1 ky3 hb5 #[.int .i64 p0, .int .i64 p1, .int .i64 p2, .int .i64 p3, .int .i64 p4]
  have u5 := Bk.new w5 24 #[.int .i64 p0, .int .i64 p1, .int .i64 p2, .int .i64 p3, .int .i64 p4]
  have B5 := below1 B3 hb5 #[.int .i64 p0, .int .i64 p1, .int .i64 p2, .int .i64 p3, .int .i64 p4]
  clear d0 d1 d2 d3 d4 k3 kx3 ky3 B3 hb5
  go_upto_region 8 with fail
  generalize w5.alloc (.cells #[.int .i64 p0, .int .i64 p1, .int .i64 p2, .int .i64 p3, .int .i64 p4] 24) = w6 at k5 x5 y5 u5 B5 ⊢
  generalize w5.heap.size = bu5 at u5 ⊢
  have heqp := eqlPt ⟨p0, p1, p2, p3, p4⟩ ⟨p0, p1, p2, p3, p4⟩
  rw [decide_eq_true rfl] at heqp
  dsimp only at heqp
  have heqx := eqlPt ⟨x0, x1, x2, x3, x4⟩ ⟨y0, y1, y2, y3, y4⟩
  have hgd := gdPt
  have HKX := Lib.hid (key_val hkx)
  have HKP := Lib.hid (key_val hkp)
  have HB5 := Lib.hid B5
  clear B5 hkx hkp
  have t1 : IntKind.u64.wrap (kp * 1001) = kp * 1001 := by rw [IntKind.wrap_u64]; omega
  have t2 : IntKind.u64.wrap n = n := by rw [IntKind.wrap_u64]; omega
  have t3 : IntKind.u64.wrap (kp * 1001 + n) = kp * 1001 + n := by rw [IntKind.wrap_u64]; omega
  have t4 : IntKind.u64.wrap (kp * 1001 + n + 1) = kx := by rw [IntKind.wrap_u64]; omega
  have c0 := fun dq osq => cell_regrown (v := .int .i64 p0) (k5.cell 0) dq osq
  have c1 := fun dq osq => cell_regrown (v := .int .i64 p1) (k5.cell 1) dq osq
  have c2 := fun dq osq => cell_regrown (v := .int .i64 p2) (k5.cell 2) dq osq
  have c3 := fun dq osq => cell_regrown (v := .int .i64 p3) (k5.cell 3) dq osq
  have c4 := fun dq osq => cell_regrown (v := .int .i64 p4) (k5.cell 4) dq osq
  have d0 := fun dq osq => cell_regrown (v := .int .i64 x0) (x5.cell 0) dq osq
  have d1 := fun dq osq => cell_regrown (v := .int .i64 x1) (x5.cell 1) dq osq
  have d2 := fun dq osq => cell_regrown (v := .int .i64 x2) (x5.cell 2) dq osq
  have d3 := fun dq osq => cell_regrown (v := .int .i64 x3) (x5.cell 3) dq osq
  have d4 := fun dq osq => cell_regrown (v := .int .i64 x4) (x5.cell 4) dq osq
  have f0 := fun dq osq => cell_regrown (v := .int .i64 y0) (y5.cell 0) dq osq
  have f1 := fun dq osq => cell_regrown (v := .int .i64 y1) (y5.cell 1) dq osq
  have f2 := fun dq osq => cell_regrown (v := .int .i64 y2) (y5.cell 2) dq osq
  have f3 := fun dq osq => cell_regrown (v := .int .i64 y3) (y5.cell 3) dq osq
  have f4 := fun dq osq => cell_regrown (v := .int .i64 y4) (y5.cell 4) dq osq
  have g0 := fun dq osq => cell_regrown (v := .int .i64 p0) (u5.cell 0) dq osq
  have g1 := fun dq osq => cell_regrown (v := .int .i64 p1) (u5.cell 1) dq osq
  have g2 := fun dq osq => cell_regrown (v := .int .i64 p2) (u5.cell 2) dq osq
  have g3 := fun dq osq => cell_regrown (v := .int .i64 p3) (u5.cell 3) dq osq
  have g4 := fun dq osq => cell_regrown (v := .int .i64 p4) (u5.cell 4) dq osq
  clear hkk k5 x5 y5 u5
  rcases hb with rfl | ⟨rfl, rfl, he, hl⟩ | ⟨rfl, hne, he, hl⟩
  · clear heqx
    refine wp_region_quiet_below (by kernel_rfl) (by kernel_rfl) ?_
    repeat (go_big_quiet_step (first
      | (go_at_call 18; exact Calls.regrown_of (within_val hw _))
      | (go_at_call_of 10 x0; exact Calls.regrown_of (HKX.out _))
      | (go_at_call_of 10 p0; exact Calls.regrown_of (HKP.out _))))
    refine wpQuiet_nil ?_
    intro _ hw'
    obtain ⟨⟨dq, osq⟩, hw''⟩ := hw'
    subst hw''
    go_wp2
    go_ret
    exact ⟨rfl, bl_then HB5.out (Nat.le_refl _) (below_regrown _ _ _)⟩
  · rw [decide_eq_true he] at heqx
    dsimp only at heqx
    have HLS := Lib.hid (less_val hl)
    clear he hl
    refine wp_region_quiet_below (by kernel_rfl) (by kernel_rfl) ?_
    repeat (go_big_quiet_step (first
      | (go_at_call 18; exact Calls.regrown_of (within_val hw _))
      | (go_at_call_of 10 x0; exact Calls.regrown_of (HKX.out _))
      | (go_at_call_of 10 p0; exact Calls.regrown_of (HKP.out _))
      | (go_at_call 19; exact Calls.regrown_of (HLS.out _))))
    refine wpQuiet_nil ?_
    intro _ hw'
    obtain ⟨⟨dq, osq⟩, hw''⟩ := hw'
    subst hw''
    go_wp2
    go_ret
    exact ⟨rfl, bl_then HB5.out (Nat.le_refl _) (below_regrown _ _ _)⟩
  · rw [decide_eq_false he] at heqx
    dsimp only at heqx
    have hnk : (n == k) = false := beq_eq_false_iff_ne.2 hne
    clear he hne
    by_cases hlt : n < k
    · rw [decide_eq_true hlt] at hl
      have HLS := Lib.hid (less_val hl)
      clear hl
      refine wp_region_quiet_below (by kernel_rfl) (by kernel_rfl) ?_
      repeat (go_big_quiet_step (first
        | (go_at_call 18; exact Calls.regrown_of (within_val hw _))
        | (go_at_call_of 10 x0; exact Calls.regrown_of (HKX.out _))
        | (go_at_call_of 10 p0; exact Calls.regrown_of (HKP.out _))
        | (go_at_call 19; exact Calls.regrown_of (HLS.out _))))
      refine wpQuiet_nil ?_
      intro _ hw'
      obtain ⟨⟨dq, osq⟩, hw''⟩ := hw'
      subst hw''
      go_wp2
      go_ret
      exact ⟨rfl, bl_then HB5.out (Nat.le_refl _) (below_regrown _ _ _)⟩
    · rw [decide_eq_false hlt] at hl
      have HLS := Lib.hid (less_val hl)
      clear hl
      refine wp_region_quiet_below (by kernel_rfl) (by kernel_rfl) ?_
      repeat (go_big_quiet_step (first
        | (go_at_call 18; exact Calls.regrown_of (within_val hw _))
        | (go_at_call_of 10 x0; exact Calls.regrown_of (HKX.out _))
        | (go_at_call_of 10 p0; exact Calls.regrown_of (HKP.out _))
        | (go_at_call 19; exact Calls.regrown_of (HLS.out _))))
      refine wpQuiet_nil ?_
      intro _ hw'
      obtain ⟨⟨dq, osq⟩, hw''⟩ := hw'
      subst hw''
      go_wp2
      go_ret
      exact ⟨rfl, bl_then HB5.out (Nat.le_refl _) (below_regrown _ _ _)⟩
theorem pathKids_walk (p : Pt) (n k : Int) (w : World) (ht : Tab10 w) : Calls Tryd.prog 6 #[.agg (ptA p), .int .i64 n, .int .i64 k] w fun e w' => e = .returned (.bool true) ∧ Below w.heap.size w w' := by
  by_cases hy : mayP p = true ∧ p.dep ≠ 4 ∧ 0 ≤ n ∧ n ≤ 999
  · obtain ⟨h1, h4, h0, h9⟩ := hy
    have hk1 := fun W => pkid_any p n W
    have hk2 := fun W => pkid_any p k W
    have hup := fun W => pup_any (kid p n) W
    rw [kidP_yes ⟨h1, h4, h0, h9⟩] at hk1
    rw [up_kid h1 h4 h0 h9] at hup
    have hs := key_small h1 h4
    have hkk := kid_key h1 h4 h0 h9
    have hwi := kid_within h1 h4 h0 h9
    have hkb : (kidP p k).isSome = false ∨ ((kidP p k).isSome = true ∧ n = k ∧ kid p n = (kidP p k).getD zeroP ∧ lessP (kid p n) ((kidP p k).getD zeroP) = false) ∨ ((kidP p k).isSome = true ∧ n ≠ k ∧ kid p n ≠ (kidP p k).getD zeroP ∧ lessP (kid p n) ((kidP p k).getD zeroP) = decide (n < k)) := by
      by_cases hk : 0 ≤ k ∧ k ≤ 999
      · rw [kidP_yes ⟨h1, h4, hk.1, hk.2⟩]
        by_cases e : n = k
        · exact .inr (.inl ⟨rfl, e, by rw [e]; rfl, by rw [e]; exact less_irrefl _⟩)
        · exact .inr (.inr ⟨rfl, e, fun hh => e ((kid_eq h1 h4).1 hh), kid_less h1 h4 h0 h9 hk.1 hk.2⟩)
      · rw [kidP_no (fun hh => hk ⟨hh.2.2.1, hh.2.2.2⟩)]
        exact .inl rfl
    exact pkids_yes p.n0 p.n1 p.n2 p.n3 p.dep n k _ _ _ _ _ _ _ _ _ _ _ hk1 hk2 hup hwi _ _ rfl rfl hkk hs.1 hs.2 h0 h9 hkb w ht
  · have hk1 := fun W => pkid_any p n W
    have hk2 := fun W => pkid_any p k W
    rw [kidP_no hy] at hk1
    refine pkids_no p.n0 p.n1 p.n2 p.n3 p.dep n k _ _ _ _ _ _ hk1 hk2 ?_ w ht
    show mayP p = false ∨ (mayP p = true ∧ (p.dep == 4) = true) ∨ (mayP p = true ∧ (p.dep == 4) = false ∧ n < 0) ∨ (mayP p = true ∧ (p.dep == 4) = false ∧ ¬ n < 0 ∧ 999 < n)
    cases h : mayP p with
    | false => exact .inl rfl
    | true =>
      refine .inr ?_
      by_cases h4 : p.dep = 4
      · exact .inl ⟨rfl, by rw [h4]; rfl⟩
      · have e4 : (p.dep == 4) = false := beq_eq_false_iff_ne.2 h4
        by_cases h0 : n < 0
        · exact .inr (.inl ⟨rfl, e4, h0⟩)
        · exact .inr (.inr ⟨rfl, e4, h0, by have := fun h9 => hy ⟨h, h4, by omega, h9⟩; exact Int.lt_of_not_ge this⟩)
end Go.Proofs.YtlbjlopljlblpaaDoor
