/- Nodes: Less, by the program and by the reference. No condition. -/
import Derived.Test.YtbdefhekkafihaaPthE
import Derived.Deep.QuietTactic
import Derived.BigQuiet
set_option linter.unusedVariables false
set_option linter.unusedSimpArgs false
namespace Go.Proofs.Ytbdefhekkafihaa
open Go.RowKit (wrap32 wrap64)
open Go.RowKit Go.Shelf
theorem two_box (p q : Pt) (w : World) : Below w.heap.size w ((w.alloc (.cells (ptA p) 50)).alloc (.cells (ptA q) 50)) ∧ Bk ((w.alloc (.cells (ptA p) 50)).alloc (.cells (ptA q) 50)) w.heap.size 50 (ptA p) ∧ Bk ((w.alloc (.cells (ptA p) 50)).alloc (.cells (ptA q) 50)) (w.heap.size + 1) 50 (ptA q) := by
  refine ⟨((Below.refl _ _).alloc (Nat.le_refl _) _).alloc (by simp) _, (Bk.new w 50 (ptA p)).below ((Below.refl _ _).alloc (Nat.le_refl _) (.cells (ptA q) 50)), ?_⟩
  have := Bk.new (w.alloc (.cells (ptA p) 50)) 50 (ptA q)
  rw [World.size_alloc] at this
  exact this
def depN (p : Pt) : Nat := p.dep.toNat
/-- From number k on, n numbers more: the first that differ; where none does, r. -/
def lessR (p q : Pt) (r : Bool) : Nat → Nat → Bool
  | _, 0 => r
  | k, n + 1 => if num p k = num q k then lessR p q r (k + 1) n else decide (num p k < num q k)
def lessP (p q : Pt) : Bool := mayP p && (mayP q && lessR p q (decide (depN p < depN q)) 0 (min (depN p) (depN q)))
def rlessP (p q : Pt) : Bool := mayP p && (mayP q && (!decide (p = q) && lessR p q (decide (depN p ≤ depN q ∧ depN p < 4)) 0 (min (depN p) (depN q))))
set_option maxRecDepth 100000 in
set_option maxHeartbeats 2000000 in
theorem pless_any (p q : Pt) (w : World) : Calls Try.prog 34 #[.agg (ptA p), .agg (ptA q)] w fun e w' => e = .returned (.bool (lessP p q)) ∧ Below w.heap.size w w' := by
  obtain ⟨hO, hP, hQ⟩ := two_box p q w
  have hm := fun W => pmay_any p W
  have hn := fun W => pmay_any q W
  have c0 := hP.cell 0
  have c1 := hP.cell 1
  have c2 := hP.cell 2
  have c3 := hP.cell 3
  have c4 := hP.cell 4
  cases hmp : mayP p with
  | false =>
    have hr : lessP p q = false := by unfold lessP; rw [hmp]; rfl
    rw [hr]
    rw [hmp] at hm
    have HM := Lib.hid hm
    clear hm hn hmp hr hP hQ
    go_enter Try.func34, Try.ntmps34
    go_wp2_with (go_at_call 31; refine (HM.out _).mono ?_; rintro e w1 ⟨rfl, hb1⟩)
    go_ret
    exact ⟨rfl, bl_then hO (Nat.le_refl _) hb1⟩
  | true =>
  cases hmq : mayP q with
  | false =>
    have hr : lessP p q = false := by unfold lessP; rw [hmp, hmq]; rfl
    rw [hr]
    rw [hmp] at hm
    rw [hmq] at hn
    have HM := Lib.hid hm
    have HN := Lib.hid hn
    have M1 : True := trivial
    clear hm hn hmp hmq hr
    go_enter Try.func34, Try.ntmps34
    go_wp2_with (first
      | (go_at_call 31; (have m_ := M1; clear M1 m_); refine (HM.out _).mono ?_; rintro e w1 ⟨rfl, hb1⟩; have k1 := hQ.below hb1; have d0 := k1.cell 0; have d1 := k1.cell 1; have d2 := k1.cell 2; have d3 := k1.cell 3; have d4 := k1.cell 4; clear c0 c1 c2 c3 c4)
      | (go_at_call 31; refine (HN.out _).mono ?_; rintro e w2 ⟨rfl, hb2⟩))
    go_ret
    exact ⟨rfl, bl_then (bl_then hO (Nat.le_refl _) hb1) (Nat.le_refl _) hb2⟩
  | true =>
    obtain ⟨D, hD, hD1, hD4⟩ := mayP_dep p hmp
    obtain ⟨E, hE, hE1, hE4⟩ := mayP_dep q hmq
    have hr : lessP p q = lessR p q (decide (D < E)) 0 (min D E) := by unfold lessP depN; rw [hmp, hmq, hD, hE]; rfl
    rw [hr]
    rw [hmp] at hm
    rw [hmq] at hn
    have HM := Lib.hid hm
    have HN := Lib.hid hn
    have HD := Lib.hid hD
    have HE := Lib.hid hE
    obtain ⟨M, hM⟩ : ∃ M, M = min D E := ⟨_, rfl⟩
    rw [← hM]
    have HMM := Lib.hid hM
    have hmn1 : (if q.dep < p.dep then q.dep else p.dep) = (M : Int) := by rw [hD, hE, hM]; split <;> omega
    have hmn2 : (if p.dep < q.dep then p.dep else q.dep) = (M : Int) := by rw [hD, hE, hM]; split <;> omega
    have hmn3 : (if p.dep > q.dep then q.dep else p.dep) = (M : Int) := by rw [hD, hE, hM]; split <;> omega
    have M1 : True := trivial
    clear hm hn hmp hmq hr hD hE hM
    go_enter Try.func34, Try.ntmps34
    go_wp2_with (first
      | (go_at_call 31; (have m_ := M1; clear M1 m_); refine (HM.out _).mono ?_; rintro e w1 ⟨rfl, hb1⟩; have k1 := hQ.below hb1; have d0 := k1.cell 0; have d1 := k1.cell 1; have d2 := k1.cell 2; have d3 := k1.cell 3; have d4 := k1.cell 4; clear c0 c1 c2 c3 c4)
      | (go_at_call 31; refine (HN.out _).mono ?_; rintro e w2 ⟨rfl, hb2⟩; have k2 := k1.below hb2; have k3 := (hP.below hb1).below hb2; have e4 := k2.cell 4; have e5 := k3.cell 4; clear d0 d1 d2 d3 d4))
    have HB := bl_then (bl_then hO (Nat.le_refl _) hb1) (Nat.le_refl _) hb2
    clear hO hb1 hb2 hP hQ k1 e4 e5 hmn1 hmn2 hmn3
    go_loopw [19] (fun c wr => ∃ k : Nat, k ≤ M ∧ c = .int .i64 k ∧ Hid (lessR p q (decide (D < E)) 0 M = lessR p q (decide (D < E)) k (M - k)) ∧ Bk wr w.heap.size 50 (ptA p) ∧ Bk wr (w.heap.size + 1) 50 (ptA q) ∧ Below w.heap.size w wr) (fun c _ => M - (intOf c).toNat)
    case atStart => exact ⟨0, by omega, rfl, Lib.hid rfl, k3, k2, HB⟩
    case round =>
      clear k2 k3 HB
      obtain ⟨k, hk, rfl, HR, hP, hQ, HB⟩ := hrel
      by_cases hlt : k < M
      · have hk4 : k < 4 := by have := HMM.out; omega
        have g1 := hP.cell k
        have g2 := hQ.cell k
        rw [ptA_num _ k hk4] at g1 g2
        have hlt4 : (k : Int) < 4 := by omega
        have hs : lessR p q (decide (D < E)) k (M - k) = (if num p k = num q k then lessR p q (decide (D < E)) (k + 1) (M - (k + 1)) else decide (num p k < num q k)) := by
          rw [show M - k = (M - (k + 1)) + 1 by omega]; rfl
        rw [hs] at HR
        generalize num p k = x at g1 hs HR
        generalize num q k = y at g2 hs HR
        clear hs
        by_cases hxy : x = y
        · rw [if_pos hxy] at HR
          subst hxy
          clear hk4
          go_wp2_with fail
          go_quiet (fail)
          go_wp2
          go_roundw
          case rel => exact ⟨k + 1, by omega, by go_num, HR, hP, hQ, by first | exact HB | exact ⟨HB.os, HB.tape, HB.output, HB.size, HB.block⟩⟩
          case measure => simp [intOf]; omega
        · rw [if_neg hxy] at HR
          have hne : (x != y) = true := bne_iff_ne.2 hxy
          clear hxy hk4
          go_wp2_with fail
          go_quiet (fail)
          go_wp2_with fail
          go_quiet (fail)
          go_wp2
          go_ret
          exact ⟨by rw [HR.out]; rfl, by first | exact HB | exact ⟨HB.os, HB.tape, HB.output, HB.size, HB.block⟩⟩
      · obtain rfl : k = M := by omega
        have e4 := hP.cell 4
        have e5 := hQ.cell 4
        have hd : decide (p.dep < q.dep) = decide (D < E) := by rw [HD.out, HE.out]; simp
        have HR' := HR.out
        rw [Nat.sub_self] at HR'
        have HRR := Lib.hid HR'
        clear HR HR'
        go_wp2
        go_ret
        exact ⟨by rw [HRR.out]; unfold lessR; rw [← hd]; rfl, HB⟩
end Go.Proofs.Ytbdefhekkafihaa
