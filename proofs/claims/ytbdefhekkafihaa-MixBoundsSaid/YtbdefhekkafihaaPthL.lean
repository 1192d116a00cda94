/- Nodes: within is an order, less is one; what the program and the reference compute is alike. Plain. No condition. -/
import Derived.Test.YtbdefhekkafihaaPthG
import Derived.Test.YtbdefhekkafihaaPthI
set_option linter.unusedVariables false
set_option linter.unusedSimpArgs false
namespace Go.Proofs.Ytbdefhekkafihaa
/-- A node's number at place i; behind its depth -1. -/
def vn (p : Pt) (i : Nat) : Int := if (i : Int) < p.dep then num p i else -1
def lex4 (p q : Pt) : Prop := vn p 0 < vn q 0 ∨ (vn p 0 = vn q 0 ∧ (vn p 1 < vn q 1 ∨ (vn p 1 = vn q 1 ∧ (vn p 2 < vn q 2 ∨ (vn p 2 = vn q 2 ∧ vn p 3 < vn q 3)))))
theorem may_vn (p : Pt) (h : mayP p = true) : 1 ≤ p.dep ∧ p.dep ≤ 4 ∧ (vn p 0 = p.n0 ∧ 0 ≤ p.n0) ∧ (vn p 1 = if 1 < p.dep then p.n1 else -1) ∧ (vn p 2 = if 2 < p.dep then p.n2 else -1) ∧ (vn p 3 = if 3 < p.dep then p.n3 else -1) ∧ (0 ≤ p.n1 ∧ (p.dep ≤ 1 → p.n1 = 0)) ∧ (0 ≤ p.n2 ∧ (p.dep ≤ 2 → p.n2 = 0)) ∧ (0 ≤ p.n3 ∧ (p.dep ≤ 3 → p.n3 = 0)) := by
  have hp := (mayP_iff p).1 h
  refine ⟨hp.1, hp.2.1, ⟨?_, hp.2.2.1.1⟩, rfl, rfl, rfl, ?_, ?_, ?_⟩
  · unfold vn; rw [if_pos (by have := hp.1; omega)]; rfl
  · omega
  · omega
  · omega
theorem lessR_iff (p q : Pt) (r : Bool) (R : Prop) (hr : r = true ↔ R) : ∀ (n k : Nat), (lessR p q r k n = true ↔ (match n with
    | 0 => R
    | n + 1 => num p k < num q k ∨ (num p k = num q k ∧ lessR p q r (k + 1) n = true)))
  | 0, k => by unfold lessR; exact hr
  | n + 1, k => by
    rw [lessR]
    by_cases h : num p k = num q k
    · rw [if_pos h]; simp [h]
    · rw [if_neg h]; simp [h]
theorem less_iff (p q : Pt) : lessP p q = true ↔ mayP p = true ∧ mayP q = true ∧ lex4 p q := by
  unfold lessP
  cases hp : mayP p with
  | false => simp
  | true =>
  cases hq : mayP q with
  | false => simp
  | true =>
    have a := may_vn p hp
    have b := may_vn q hq
    obtain ⟨D, hD, hD1, hD4⟩ := mayP_dep p hp
    obtain ⟨E, hE, hE1, hE4⟩ := mayP_dep q hq
    have e1 : depN p = D := by unfold depN; omega
    have e2 : depN q = E := by unfold depN; omega
    rw [e1, e2]
    simp only [Bool.true_and, true_and]
    unfold lex4
    obtain ⟨x0, x1, x2, x3, x4⟩ := p
    obtain ⟨y0, y1, y2, y3, y4⟩ := q
    dsimp only at hD hE a b
    subst hD hE
    generalize vn ⟨x0, x1, x2, x3, D⟩ 0 = u0 at *
    generalize vn ⟨x0, x1, x2, x3, D⟩ 1 = u1 at *
    generalize vn ⟨x0, x1, x2, x3, D⟩ 2 = u2 at *
    generalize vn ⟨x0, x1, x2, x3, D⟩ 3 = u3 at *
    generalize vn ⟨y0, y1, y2, y3, E⟩ 0 = w0 at *
    generalize vn ⟨y0, y1, y2, y3, E⟩ 1 = w1 at *
    generalize vn ⟨y0, y1, y2, y3, E⟩ 2 = w2 at *
    generalize vn ⟨y0, y1, y2, y3, E⟩ 3 = w3 at *
    obtain rfl | rfl | rfl | rfl : D = 1 ∨ D = 2 ∨ D = 3 ∨ D = 4 := by omega
    all_goals
      obtain rfl | rfl | rfl | rfl : E = 1 ∨ E = 2 ∨ E = 3 ∨ E = 4 := by omega
      all_goals
        simp [lessR_iff _ _ _ _ Iff.rfl, lessR, num] at a b ⊢
        (try split) <;> (try split) <;> (try split) <;> (try split) <;> (try simp only [decide_eq_true_eq, Bool.false_eq_true, true_iff, false_iff, iff_true, iff_false]) <;> omega
theorem rless_iff (p q : Pt) : rlessP p q = true ↔ mayP p = true ∧ mayP q = true ∧ lex4 p q := by
  unfold rlessP
  cases hp : mayP p with
  | false => simp
  | true =>
  cases hq : mayP q with
  | false => simp
  | true =>
    have a := may_vn p hp
    have b := may_vn q hq
    obtain ⟨D, hD, hD1, hD4⟩ := mayP_dep p hp
    obtain ⟨E, hE, hE1, hE4⟩ := mayP_dep q hq
    have e1 : depN p = D := by unfold depN; omega
    have e2 : depN q = E := by unfold depN; omega
    rw [e1, e2]
    simp only [Bool.true_and, true_and]
    unfold lex4
    obtain ⟨x0, x1, x2, x3, x4⟩ := p
    obtain ⟨y0, y1, y2, y3, y4⟩ := q
    dsimp only at hD hE a b
    subst hD hE
    generalize vn ⟨x0, x1, x2, x3, D⟩ 0 = u0 at *
    generalize vn ⟨x0, x1, x2, x3, D⟩ 1 = u1 at *
    generalize vn ⟨x0, x1, x2, x3, D⟩ 2 = u2 at *
    generalize vn ⟨x0, x1, x2, x3, D⟩ 3 = u3 at *
    generalize vn ⟨y0, y1, y2, y3, E⟩ 0 = w0 at *
    generalize vn ⟨y0, y1, y2, y3, E⟩ 1 = w1 at *
    generalize vn ⟨y0, y1, y2, y3, E⟩ 2 = w2 at *
    generalize vn ⟨y0, y1, y2, y3, E⟩ 3 = w3 at *
    obtain rfl | rfl | rfl | rfl : D = 1 ∨ D = 2 ∨ D = 3 ∨ D = 4 := by omega
    all_goals
      obtain rfl | rfl | rfl | rfl : E = 1 ∨ E = 2 ∨ E = 3 ∨ E = 4 := by omega
      all_goals
        simp [lessR, num] at a b ⊢
        (try split) <;> (try split) <;> (try split) <;> (try split) <;> (try simp only [decide_eq_true_eq, Bool.false_eq_true, true_iff, false_iff, iff_true, iff_false]) <;> omega
theorem rless_eq (p q : Pt) : rlessP p q = lessP p q := by rw [Bool.eq_iff_iff, rless_iff, less_iff]
theorem pt_eq {p q : Pt} : p = q ↔ p.n0 = q.n0 ∧ p.n1 = q.n1 ∧ p.n2 = q.n2 ∧ p.n3 = q.n3 ∧ p.dep = q.dep := by
  obtain ⟨x0, x1, x2, x3, x4⟩ := p
  obtain ⟨y0, y1, y2, y3, y4⟩ := q
  simp
def pre (p q : Pt) : Prop := q.dep ≤ p.dep ∧ q.n0 = p.n0 ∧ (1 < q.dep → q.n1 = p.n1) ∧ (2 < q.dep → q.n2 = p.n2) ∧ (3 < q.dep → q.n3 = p.n3)
theorem front_iff (p q : Pt) (D : Nat) (hq : mayP q = true) (hD : 1 ≤ D) (hD4 : D ≤ 4) : front p D = q ↔ q.dep = D ∧ q.n0 = p.n0 ∧ (1 < q.dep → q.n1 = p.n1) ∧ (2 < q.dep → q.n2 = p.n2) ∧ (3 < q.dep → q.n3 = p.n3) := by
  have b := (mayP_iff q).1 hq
  rw [pt_eq]
  unfold front
  dsimp only
  obtain rfl | rfl | rfl | rfl : D = 1 ∨ D = 2 ∨ D = 3 ∨ D = 4 := by omega
  all_goals (simp; omega)
theorem within_iff (p q : Pt) : withinP p q = true ↔ mayP p = true ∧ mayP q = true ∧ pre p q := by
  unfold withinP
  cases hp : mayP p with
  | false => simp
  | true =>
  cases hq : mayP q with
  | false => simp
  | true =>
    obtain ⟨D, hD, hD1, hD4⟩ := mayP_dep p hp
    obtain ⟨E, hE, hE1, hE4⟩ := mayP_dep q hq
    have e1 : depN p = D := by unfold depN; omega
    have e2 : depN q = E := by unfold depN; omega
    rw [e1, e2]
    simp only [Bool.true_and, true_and, Bool.and_eq_true, decide_eq_true_eq]
    rw [front_iff p q E hq hE1 hE4]
    unfold pre
    omega
theorem may_front (p : Pt) (D : Nat) (hp : mayP p = true) (h1 : 1 ≤ D) (h4 : (D : Int) ≤ p.dep) : mayP (front p D) = true := by
  have a := (mayP_iff p).1 hp
  rw [mayP_iff]
  unfold front
  dsimp only
  obtain rfl | rfl | rfl | rfl : D = 1 ∨ D = 2 ∨ D = 3 ∨ D = 4 := by omega
  all_goals (simp; omega)
theorem in_eq (p q : Pt) : inP p q = withinP p q := by
  rw [Bool.eq_iff_iff, within_iff]
  unfold inP
  cases hp : mayP p with
  | false => rw [ways_no p hp]; simp
  | true =>
    obtain ⟨D, hD, hD1, hD4⟩ := mayP_dep p hp
    rw [ways_of p D hp hD]
    simp only [List.any_eq_true, List.mem_map, List.mem_range, decide_eq_true_eq, true_and]
    constructor
    · rintro ⟨x, ⟨i, hi, rfl⟩, rfl⟩
      have hm := may_front p (i + 1) hp (by omega) (by omega)
      have := (front_iff p (front p (i + 1)) (i + 1) hm (by omega) (by omega)).1 rfl
      refine ⟨hm, ?_⟩
      unfold pre
      omega
    · rintro ⟨hq, h⟩
      obtain ⟨E, hE, hE1, hE4⟩ := mayP_dep q hq
      unfold pre at h
      refine ⟨q, ⟨E - 1, by omega, ?_⟩, rfl⟩
      rw [show E - 1 + 1 = E by omega, front_iff p q E hq hE1 hE4]
      omega
theorem within_trans {p q r : Pt} (h : withinP p q = true) (k : withinP q r = true) : withinP p r = true := by
  rw [within_iff] at *
  unfold pre at *
  obtain ⟨h1, h2, h3⟩ := h
  obtain ⟨k1, k2, k3⟩ := k
  exact ⟨h1, k2, by omega⟩
theorem within_anti {p q : Pt} (h : withinP p q = true) (k : withinP q p = true) : p = q := by
  rw [within_iff] at *
  unfold pre at *
  obtain ⟨h1, h2, h3⟩ := h
  obtain ⟨k1, k2, k3⟩ := k
  have a := (mayP_iff p).1 h1
  have b := (mayP_iff q).1 h2
  rw [pt_eq]
  omega
theorem within_lin {p q r : Pt} (h : withinP r p = true) (k : withinP r q = true) (n : withinP p q = false) : withinP q p = true := by
  have n' : ¬ withinP p q = true := by rw [n]; simp
  rw [within_iff] at *
  obtain ⟨h1, h2, h3⟩ := h
  obtain ⟨k1, k2, k3⟩ := k
  refine ⟨k2, h2, ?_⟩
  have n2 : ¬ pre p q := fun hh => n' ⟨h2, k2, hh⟩
  unfold pre at *
  have a := (mayP_iff p).1 h2
  have b := (mayP_iff q).1 k2
  omega
theorem within_refl {p : Pt} (h : mayP p = true) : withinP p p = true := by
  rw [within_iff]
  refine ⟨h, h, ?_⟩
  unfold pre
  omega
theorem within_may {p q : Pt} (h : withinP p q = true) : mayP p = true ∧ mayP q = true := ⟨((within_iff p q).1 h).1, ((within_iff p q).1 h).2.1⟩
theorem less_trans {p q r : Pt} (h : lessP p q = true) (k : lessP q r = true) : lessP p r = true := by
  rw [less_iff] at *
  obtain ⟨h1, h2, h3⟩ := h
  obtain ⟨k1, k2, k3⟩ := k
  refine ⟨h1, k2, ?_⟩
  unfold lex4 at *
  omega
theorem less_irrefl (p : Pt) : lessP p p = false := by
  rw [← Bool.not_eq_true, less_iff]
  rintro ⟨_, _, h⟩
  unfold lex4 at h
  omega
theorem less_tri {p q : Pt} (hp : mayP p = true) (hq : mayP q = true) (n : p ≠ q) : lessP q p = !lessP p q := by
  have a := may_vn p hp
  have b := may_vn q hq
  cases h : lessP p q with
  | true =>
    rw [less_iff] at h
    have h3 := h.2.2
    show lessP q p = false
    rw [← Bool.not_eq_true, less_iff]
    rintro ⟨_, _, k⟩
    unfold lex4 at h3 k
    omega
  | false =>
    rw [← Bool.not_eq_true, less_iff] at h
    have h3 : ¬ lex4 p q := fun k => h ⟨hp, hq, k⟩
    show lessP q p = true
    rw [less_iff]
    refine ⟨hq, hp, ?_⟩
    rw [Ne, pt_eq] at n
    unfold lex4 at *
    obtain ⟨x0, x1, x2, x3, x4⟩ := p
    obtain ⟨y0, y1, y2, y3, y4⟩ := q
    dsimp only at a b n
    generalize vn ⟨x0, x1, x2, x3, x4⟩ 0 = u0 at *
    generalize vn ⟨x0, x1, x2, x3, x4⟩ 1 = u1 at *
    generalize vn ⟨x0, x1, x2, x3, x4⟩ 2 = u2 at *
    generalize vn ⟨x0, x1, x2, x3, x4⟩ 3 = u3 at *
    generalize vn ⟨y0, y1, y2, y3, y4⟩ 0 = w0 at *
    generalize vn ⟨y0, y1, y2, y3, y4⟩ 1 = w1 at *
    generalize vn ⟨y0, y1, y2, y3, y4⟩ 2 = w2 at *
    generalize vn ⟨y0, y1, y2, y3, y4⟩ 3 = w3 at *
    obtain rfl | rfl | rfl | rfl : x4 = 1 ∨ x4 = 2 ∨ x4 = 3 ∨ x4 = 4 := by omega
    all_goals
      obtain rfl | rfl | rfl | rfl : y4 = 1 ∨ y4 = 2 ∨ y4 = 3 ∨ y4 = 4 := by omega
      all_goals (simp at a b; omega)
theorem within_less {p q : Pt} (h : withinP p q = true) (n : p ≠ q) : lessP q p = true := by
  obtain ⟨hp, hq⟩ := within_may h
  have a := may_vn p hp
  have b := may_vn q hq
  have h3 := ((within_iff p q).1 h).2.2
  rw [less_iff]
  refine ⟨hq, hp, ?_⟩
  rw [Ne, pt_eq] at n
  unfold pre at h3
  unfold lex4
  obtain ⟨x0, x1, x2, x3, x4⟩ := p
  obtain ⟨y0, y1, y2, y3, y4⟩ := q
  dsimp only at a b n h3
  generalize vn ⟨x0, x1, x2, x3, x4⟩ 0 = u0 at *
  generalize vn ⟨x0, x1, x2, x3, x4⟩ 1 = u1 at *
  generalize vn ⟨x0, x1, x2, x3, x4⟩ 2 = u2 at *
  generalize vn ⟨x0, x1, x2, x3, x4⟩ 3 = u3 at *
  generalize vn ⟨y0, y1, y2, y3, y4⟩ 0 = w0 at *
  generalize vn ⟨y0, y1, y2, y3, y4⟩ 1 = w1 at *
  generalize vn ⟨y0, y1, y2, y3, y4⟩ 2 = w2 at *
  generalize vn ⟨y0, y1, y2, y3, y4⟩ 3 = w3 at *
  obtain rfl | rfl | rfl | rfl : x4 = 1 ∨ x4 = 2 ∨ x4 = 3 ∨ x4 = 4 := by omega
  all_goals
    obtain rfl | rfl | rfl | rfl : y4 = 1 ∨ y4 = 2 ∨ y4 = 3 ∨ y4 = 4 := by omega
    all_goals (simp at a b h3 <;> omega)
end Go.Proofs.Ytbdefhekkafihaa
