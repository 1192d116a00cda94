/- Nodes: the reference's Less, the program's Within. No condition. -/
import Derived.Test.YtbdefhekkafihaaPthF
import Derived.Lib.QuietBelow
set_option linter.unusedVariables false
set_option linter.unusedSimpArgs false
namespace Go.Proofs.Ytbdefhekkafihaa
open Go.RowKit (wrap32 wrap64)
open Go.RowKit Go.Shelf
set_option maxRecDepth 100000 in
set_option maxHeartbeats 2000000 in
theorem rless_any (p q : Pt) (w : World) : Calls Try.prog 18 #[.agg (ptA p), .agg (ptA q)] w fun e w' => e = .returned (.bool (rlessP p q)) ∧ Below w.heap.size w w' := by
  obtain ⟨hO, hP, hQ⟩ := two_box p q w
  have hm := fun W => rpright_any p W
  have hn := fun W => rpright_any q W
  have c0 := hP.cell 0
  have c1 := hP.cell 1
  have c2 := hP.cell 2
  have c3 := hP.cell 3
  have c4 := hP.cell 4
  cases hmp : mayP p with
  | false =>
    have hr : rlessP p q = false := by unfold rlessP; rw [hmp]; rfl
    rw [hr]
    rw [hmp] at hm
    have HM := Lib.hid hm
    clear hm hn hmp hr hP hQ
    go_enter Try.func18, Try.ntmps18
    go_wp2_with (go_at_call 19; refine (HM.out _).mono ?_; rintro e w1 ⟨rfl, hb1⟩)
    go_ret
    exact ⟨rfl, bl_then hO (Nat.le_refl _) hb1⟩
  | true =>
  cases hmq : mayP q with
  | false =>
    have hr : rlessP p q = false := by unfold rlessP; rw [hmp, hmq]; rfl
    rw [hr]
    rw [hmp] at hm
    rw [hmq] at hn
    have HM := Lib.hid hm
    have HN := Lib.hid hn
    have M1 : True := trivial
    clear hm hn hmp hmq hr
    go_enter Try.func18, Try.ntmps18
    go_wp2_with (first
      | (go_at_call 19; (have m_ := M1; clear M1 m_); refine (HM.out _).mono ?_; rintro e w1 ⟨rfl, hb1⟩; have k1 := hQ.below hb1; have d0 := k1.cell 0; have d1 := k1.cell 1; have d2 := k1.cell 2; have d3 := k1.cell 3; have d4 := k1.cell 4; clear c0 c1 c2 c3 c4)
      | (go_at_call 19; refine (HN.out _).mono ?_; rintro e w2 ⟨rfl, hb2⟩))
    go_ret
    exact ⟨rfl, bl_then (bl_then hO (Nat.le_refl _) hb1) (Nat.le_refl _) hb2⟩
  | true =>
    obtain ⟨D, hD, hD1, hD4⟩ := mayP_dep p hmp
    obtain ⟨E, hE, hE1, hE4⟩ := mayP_dep q hmq
    have heq := eqlPt p q
    have hgd := gdPt
    rw [hmp] at hm
    rw [hmq] at hn
    have HM := Lib.hid hm
    have HN := Lib.hid hn
    have HD := Lib.hid hD
    have HE := Lib.hid hE
    have M1 : True := trivial
    cases hpq : decide (p = q) with
    | true =>
      have hr : rlessP p q = false := by unfold rlessP; rw [hpq, hmp, hmq]; rfl
      rw [hr]
      rw [hpq] at heq
      clear hm hn hmp hmq hr hD hE hpq
      go_enter Try.func18, Try.ntmps18
      go_wp2_with (first
        | (go_at_call 19; (have m_ := M1; clear M1 m_); refine (HM.out _).mono ?_; rintro e w1 ⟨rfl, hb1⟩; have k1 := hQ.below hb1; have d0 := k1.cell 0; have d1 := k1.cell 1; have d2 := k1.cell 2; have d3 := k1.cell 3; have d4 := k1.cell 4; clear c0 c1 c2 c3 c4)
        | (go_at_call 19; refine (HN.out _).mono ?_; rintro e w2 ⟨rfl, hb2⟩; have k2 := k1.below hb2; have k3 := (hP.below hb1).below hb2; have e0 := k2.cell 0; have e1 := k2.cell 1; have e2 := k2.cell 2; have e3 := k2.cell 3; have e4 := k2.cell 4; have f0 := k3.cell 0; have f1 := k3.cell 1; have f2 := k3.cell 2; have f3 := k3.cell 3; have f4 := k3.cell 4; clear d0 d1 d2 d3 d4))
      go_ret
      exact ⟨rfl, bl_then (bl_then hO (Nat.le_refl _) hb1) (Nat.le_refl _) hb2⟩
    | false =>
    have hr : rlessP p q = lessR p q (decide (D ≤ E ∧ D < 4)) 0 (min D E) := by unfold rlessP depN; rw [hmp, hmq, hpq, hD, hE]; rfl
    rw [hr]
    rw [hpq] at heq
    obtain ⟨M, hM⟩ : ∃ M, M = min D E := ⟨_, rfl⟩
    rw [← hM]
    have HMM := Lib.hid hM
    clear hm hn hmp hmq hr hD hE hM hpq
    go_enter Try.func18, Try.ntmps18
    go_wp2_with (first
      | (go_at_call 19; (have m_ := M1; clear M1 m_); refine (HM.out _).mono ?_; rintro e w1 ⟨rfl, hb1⟩; have k1 := hQ.below hb1; have d0 := k1.cell 0; have d1 := k1.cell 1; have d2 := k1.cell 2; have d3 := k1.cell 3; have d4 := k1.cell 4; clear c0 c1 c2 c3 c4)
      | (go_at_call 19; refine (HN.out _).mono ?_; rintro e w2 ⟨rfl, hb2⟩; have k2 := k1.below hb2; have k3 := (hP.below hb1).below hb2; have e0 := k2.cell 0; have e1 := k2.cell 1; have e2 := k2.cell 2; have e3 := k2.cell 3; have e4 := k2.cell 4; have f0 := k3.cell 0; have f1 := k3.cell 1; have f2 := k3.cell 2; have f3 := k3.cell 3; have f4 := k3.cell 4; clear d0 d1 d2 d3 d4))
    have HB := bl_then (bl_then hO (Nat.le_refl _) hb1) (Nat.le_refl _) hb2
    clear hO hb1 hb2 hP hQ k1 e0 e1 e2 e3 e4 f0 f1 f2 f3 f4
    go_loopw [5] (fun c wr => ∃ k : Nat, k ≤ M ∧ c = .int .i64 k ∧ Hid (lessR p q (decide (D ≤ E ∧ D < 4)) 0 M = lessR p q (decide (D ≤ E ∧ D < 4)) k (M - k)) ∧ Bk wr w.heap.size 50 (ptA p) ∧ Bk wr (w.heap.size + 1) 50 (ptA q) ∧ Below w.heap.size w wr) (fun c _ => M - (intOf c).toNat)
    case atStart => exact ⟨0, by omega, rfl, Lib.hid rfl, k3, k2, HB⟩
    case round =>
      clear k2 k3 HB heq
      obtain ⟨k, hk, rfl, HR, hP, hQ, HB⟩ := hrel
      have e4 := hP.cell 4
      have e5 := hQ.cell 4
      by_cases hlt : k < M
      · have hk4 : k < 4 := by have := HMM.out; omega
        have g1 := hP.cell k
        have g2 := hQ.cell k
        rw [ptA_num _ k hk4] at g1 g2
        have hlt4 : (k : Int) < 4 := by omega
        have hl1 : decide (p.dep ≤ (k : Int)) = false := by have := HD.out; have := HMM.out; simp; omega
        have hl2 : decide (q.dep ≤ (k : Int)) = false := by have := HE.out; have := HMM.out; simp; omega
        have hs : lessR p q (decide (D ≤ E ∧ D < 4)) k (M - k) = (if num p k = num q k then lessR p q (decide (D ≤ E ∧ D < 4)) (k + 1) (M - (k + 1)) else decide (num p k < num q k)) := by
          rw [show M - k = (M - (k + 1)) + 1 by omega]; rfl
        rw [hs] at HR
        generalize num p k = x at g1 hs HR
        generalize num q k = y at g2 hs HR
        clear hs
        by_cases hxy : x = y
        · rw [if_pos hxy] at HR
          subst hxy
          clear hk4
          go_wp2_with fail
          go_quiet (fail)
          go_wp2
          go_roundw
          case rel => exact ⟨k + 1, by omega, by go_num, HR, hP, hQ, by first | exact HB | exact ⟨HB.os, HB.tape, HB.output, HB.size, HB.block⟩⟩
          case measure => simp [intOf]; omega
        · rw [if_neg hxy] at HR
          have hne : (x != y) = true := bne_iff_ne.2 hxy
          clear hxy hk4
          go_wp2_with fail
          go_quiet (fail)
          go_wp2_with fail
          go_quiet (fail)
          go_wp2
          go_ret
          exact ⟨by rw [HR.out]; rfl, by first | exact HB | exact ⟨HB.os, HB.tape, HB.output, HB.size, HB.block⟩⟩
      · obtain rfl : k = M := by omega
        have HR' := HR.out
        rw [Nat.sub_self] at HR'
        have HRR := Lib.hid HR'
        clear HR HR'
        by_cases h4 : k = 4
        · subst h4
          have hf : decide (D ≤ E ∧ D < 4) = false := by have := HMM.out; simp; omega
          have HF := Lib.hid hf
          clear hf e4 e5
          go_wp2
          go_ret
          exact ⟨by rw [HRR.out, HF.out]; rfl, HB⟩
        · have hlt4 : (k : Int) < 4 := by have := HMM.out; omega
          by_cases hde : D ≤ E
          · have hf : decide (D ≤ E ∧ D < 4) = true := by have := HMM.out; simp; omega
            have HF := Lib.hid hf
            have hl1 : decide (p.dep ≤ (k : Int)) = true := by have := HD.out; have := HMM.out; simp; omega
            clear hf hde h4 hlt
            go_wp2
            go_ret
            exact ⟨by rw [HRR.out, HF.out]; rfl, HB⟩
          · have hf : decide (D ≤ E ∧ D < 4) = false := by simp; omega
            have HF := Lib.hid hf
            have hl1 : decide (p.dep ≤ (k : Int)) = false := by have := HD.out; have := HMM.out; simp; omega
            have hl2 : decide (q.dep ≤ (k : Int)) = true := by have := HE.out; have := HMM.out; simp; omega
            clear hf hde h4 hlt
            go_wp2
            go_ret
            exact ⟨by rw [HRR.out, HF.out]; rfl, HB⟩
def withinP (p q : Pt) : Bool := mayP p && (mayP q && (decide (depN q ≤ depN p) && decide (front p (depN q) = q)))
end Go.Proofs.Ytbdefhekkafihaa
