/- Nodes: Kid, Up, by the program and by the reference. No condition. -/
import Derived.Test.YtjenchijenkndaaPthK
set_option linter.unusedVariables false
set_option linter.unusedSimpArgs false
namespace Go.Proofs.Ytjenchijenkndaa
open Go.RowKit (wrap32 wrap64)
open Go.RowKit Go.Shelf
def zeroP : Pt := ⟨0, 0, 0, 0, 0⟩
def optV (o : Option Pt) : Value := .tuple #[.agg (ptA (o.getD zeroP)), .bool o.isSome]
theorem res_box (p : Pt) (w : World) : Below w.heap.size w ((w.alloc (.cells (ptA p) 27)).alloc (.cells #[.int .i64 0, .int .i64 0, .int .i64 0, .int .i64 0, .int .i64 0] 27)) ∧ Bk ((w.alloc (.cells (ptA p) 27)).alloc (.cells #[.int .i64 0, .int .i64 0, .int .i64 0, .int .i64 0, .int .i64 0] 27)) w.heap.size 27 (ptA p) ∧ Bk ((w.alloc (.cells (ptA p) 27)).alloc (.cells #[.int .i64 0, .int .i64 0, .int .i64 0, .int .i64 0, .int .i64 0] 27)) (w.heap.size + 1) 27 #[.int .i64 0, .int .i64 0, .int .i64 0, .int .i64 0, .int .i64 0] := two_box p zeroP w
theorem five_sets {w : World} {R : Nat} (h : Bk w R 27 #[.int .i64 0, .int .i64 0, .int .i64 0, .int .i64 0, .int .i64 0]) (v0 v1 v2 v3 v4 : Value) : (((((w.setCell ⟨R, 0, none⟩ v0).setCell ⟨R, 1, none⟩ v1).setCell ⟨R, 2, none⟩ v2).setCell ⟨R, 3, none⟩ v3).setCell ⟨R, 4, none⟩ v4).cell? ⟨R, 0, none⟩ = some v0 ∧ (((((w.setCell ⟨R, 0, none⟩ v0).setCell ⟨R, 1, none⟩ v1).setCell ⟨R, 2, none⟩ v2).setCell ⟨R, 3, none⟩ v3).setCell ⟨R, 4, none⟩ v4).cell? ⟨R, 1, none⟩ = some v1 ∧ (((((w.setCell ⟨R, 0, none⟩ v0).setCell ⟨R, 1, none⟩ v1).setCell ⟨R, 2, none⟩ v2).setCell ⟨R, 3, none⟩ v3).setCell ⟨R, 4, none⟩ v4).cell? ⟨R, 2, none⟩ = some v2 ∧ (((((w.setCell ⟨R, 0, none⟩ v0).setCell ⟨R, 1, none⟩ v1).setCell ⟨R, 2, none⟩ v2).setCell ⟨R, 3, none⟩ v3).setCell ⟨R, 4, none⟩ v4).cell? ⟨R, 3, none⟩ = some v3 ∧ (((((w.setCell ⟨R, 0, none⟩ v0).setCell ⟨R, 1, none⟩ v1).setCell ⟨R, 2, none⟩ v2).setCell ⟨R, 3, none⟩ v3).setCell ⟨R, 4, none⟩ v4).cell? ⟨R, 4, none⟩ = some v4 := by
  have k := ((((h.set 0 v0).set 1 v1).set 2 v2).set 3 v3).set 4 v4
  exact ⟨k.cell 0, k.cell 1, k.cell 2, k.cell 3, k.cell 4⟩
theorem five_below {B R : Nat} {w0 w : World} (h : Below B w0 w) (hR : B ≤ R) (v0 v1 v2 v3 v4 : Value) : Below B w0 (((((w.setCell ⟨R, 0, none⟩ v0).setCell ⟨R, 1, none⟩ v1).setCell ⟨R, 2, none⟩ v2).setCell ⟨R, 3, none⟩ v3).setCell ⟨R, 4, none⟩ v4) := ((((h.setCell (p := ⟨R, 0, none⟩) hR v0).setCell (p := ⟨R, 1, none⟩) hR v1).setCell (p := ⟨R, 2, none⟩) hR v2).setCell (p := ⟨R, 3, none⟩) hR v3).setCell (p := ⟨R, 4, none⟩) hR v4
theorem two_below {B R : Nat} {w0 w : World} (h : Below B w0 w) (hR : B ≤ R) (i : Nat) (v v4 : Value) : Below B w0 ((w.setCell ⟨R, i, none⟩ v).setCell ⟨R, 4, none⟩ v4) := (h.setCell (p := ⟨R, i, none⟩) hR v).setCell (p := ⟨R, 4, none⟩) hR v4
theorem two_stores {w1 : World} {B R : Nat} {cs rs : Array Value} (k0 : Bk w1 B 27 cs) (k1 : Bk w1 R 27 rs) (hne : R ≠ B) (i : Nat) (v v4 : Value) {ca cb : Array Value} (ha : cs.setIfInBounds i v = ca) (hb : ca.setIfInBounds 4 v4 = cb) : Bk (w1.setCell ⟨B, i, none⟩ v) B 27 ca ∧ Bk (w1.setCell ⟨B, i, none⟩ v) R 27 rs ∧ Bk ((w1.setCell ⟨B, i, none⟩ v).setCell ⟨B, 4, none⟩ v4) B 27 cb ∧ Bk ((w1.setCell ⟨B, i, none⟩ v).setCell ⟨B, 4, none⟩ v4) R 27 rs := by
  subst ha; subst hb
  have r := (Keep.set w1 B i v (fun i => i = B) rfl).bk k1 hne
  exact ⟨k0.set i v, r, (k0.set i v).set 4 v4, (Keep.set _ B 4 v4 (fun i => i = B) rfl).bk r hne⟩
/-- The kid of number n of a node of depth D. -/
def kid (p : Pt) (n : Int) : Pt := ⟨p.n0, if p.dep = 1 then n else p.n1, if p.dep = 2 then n else p.n2, if p.dep = 3 then n else p.n3, p.dep + 1⟩
def kidP (p : Pt) (n : Int) : Option Pt := if mayP p = true ∧ p.dep ≠ 4 ∧ 0 ≤ n ∧ n ≤ 999 then some (kid p n) else none
def upP (p : Pt) : Option Pt := if mayP p = true ∧ p.dep ≠ 1 then some (front p (depN p - 1)) else none
theorem kidP_no {p : Pt} {n : Int} (h : ¬ (mayP p = true ∧ p.dep ≠ 4 ∧ 0 ≤ n ∧ n ≤ 999)) : kidP p n = none := if_neg h
theorem kidP_yes {p : Pt} {n : Int} (h : mayP p = true ∧ p.dep ≠ 4 ∧ 0 ≤ n ∧ n ≤ 999) : kidP p n = some (kid p n) := if_pos h
theorem mayP_iff (p : Pt) : mayP p = true ↔ 1 ≤ p.dep ∧ p.dep ≤ 4 ∧ (0 ≤ p.n0 ∧ p.n0 ≤ 999) ∧ (0 ≤ p.n1 ∧ p.n1 ≤ 999 ∧ (p.dep ≤ 1 → p.n1 = 0)) ∧ (0 ≤ p.n2 ∧ p.n2 ≤ 999 ∧ (p.dep ≤ 2 → p.n2 = 0)) ∧ (0 ≤ p.n3 ∧ p.n3 ≤ 999 ∧ (p.dep ≤ 3 → p.n3 = 0)) := by
  constructor
  · intro h
    obtain ⟨D, hD, hD1, hD4⟩ := mayP_dep _ h
    have a0 := mayP_num p h 0 (by omega)
    have a1 := mayP_num p h 1 (by omega)
    have a2 := mayP_num p h 2 (by omega)
    have a3 := mayP_num p h 3 (by omega)
    simp only [num] at a0 a1 a2 a3
    omega
  · intro h
    unfold mayP okTo okTo okTo okTo okTo okAt
    simp [num]
    omega
theorem mayP_kid {p : Pt} {n : Int} (h : mayP p = true) (h4 : p.dep ≠ 4) : mayP (kid p n) = (decide (0 ≤ n) && decide (n ≤ 999)) := by
  have hp := (mayP_iff p).1 h
  rw [Bool.eq_iff_iff, mayP_iff]
  unfold kid
  simp only [Bool.and_eq_true, decide_eq_true_eq]
  obtain ⟨x0, x1, x2, x3, x4⟩ := p
  dsimp only at hp h4 ⊢
  obtain h | h | h : x4 = 1 ∨ x4 = 2 ∨ x4 = 3 := by omega
  all_goals (subst h; simp only [if_true]; simp; omega)
end Go.Proofs.Ytjenchijenkndaa
