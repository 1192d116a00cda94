/- Nodes: May, Less: the draws never go back. No condition. -/
import Derived.Test.YtbdefhekkafihaaPthF
set_option linter.unusedVariables false
set_option linter.unusedSimpArgs false
namespace Go.Proofs.Ytbdefhekkafihaa
open Go.RowKit (wrap32 wrap64)
open Go.RowKit Go.Shelf
/-- Nothing that lay has turned, and the draws have gone on. -/
def BD (w w' : World) : Prop := Below w.heap.size w w' ∧ w.drawn ≤ w'.drawn
theorem BD.refl (w : World) : BD w w := ⟨Below.refl _ _, Nat.le_refl _⟩
theorem BD.alloc (w : World) (o : Obj) : BD w (w.alloc o) := ⟨(Below.refl _ _).alloc (Nat.le_refl _) _, Nat.le_refl _⟩
theorem BD.trans {a b c : World} (h : BD a b) (k : BD b c) : BD a c := ⟨bl_then h.1 (Nat.le_refl _) k.1, Nat.le_trans h.2 k.2⟩
set_option maxHeartbeats 1000000 in
theorem pmayD_any (p : Pt) (w : World) : Calls Try.prog 31 #[.agg (ptA p)] w fun e w' => e = .returned (.bool (mayP p)) ∧ BD w w' := by
  obtain ⟨x0, x1, x2, x3, d⟩ := p
  have hO : BD w (w.alloc (.cells #[.int .i64 x0, .int .i64 x1, .int .i64 x2, .int .i64 x3, .int .i64 d] 50)) := BD.alloc _ _
  by_cases h1 : d < 1
  · have hf : mayP ⟨x0, x1, x2, x3, d⟩ = false := by unfold mayP; rw [decide_eq_false (show ¬ (1 ≤ d) by omega)]; rfl
    rw [hf]
    clear hf
    go_enter Try.func31, Try.ntmps31
    go_wp2
    go_ret
    exact ⟨rfl, hO⟩
  by_cases h2 : 4 < d
  · have hf : mayP ⟨x0, x1, x2, x3, d⟩ = false := by unfold mayP; rw [decide_eq_false (show ¬ (d ≤ 4) by omega), Bool.and_false]; rfl
    rw [hf]
    clear hf
    go_enter Try.func31, Try.ntmps31
    go_wp2
    go_ret
    exact ⟨rfl, hO⟩
  have hm : mayP ⟨x0, x1, x2, x3, d⟩ = okTo ⟨x0, x1, x2, x3, d⟩ 4 := by unfold mayP; rw [decide_eq_true (show 1 ≤ d by omega), decide_eq_true (show d ≤ 4 by omega)]; rfl
  rw [hm]
  clear hm
  have hB := Bk.new w 50 #[.int .i64 x0, .int .i64 x1, .int .i64 x2, .int .i64 x3, .int .i64 d]
  have q4 := hB.cell 4
  clear hB
  go_enter Try.func31, Try.ntmps31
  go_wp2_with fail
  go_loop [15] (fun c => ∃ k : Nat, k ≤ 4 ∧ c = .int .i64 k ∧ Hid (okTo ⟨x0, x1, x2, x3, d⟩ k = true)) (fun c => 4 - (intOf c).toNat)
  case atStart => exact ⟨0, by omega, rfl, Lib.hid rfl⟩
  case round =>
    obtain ⟨k, hk, rfl, HO⟩ := hrel
    by_cases hlt : k < 4
    · have hi := fun w => idx4 x0 x1 x2 x3 k hlt w
      have hn := num_dep x0 x1 x2 x3 d k
      rw [hn] at hi
      have hlti : (k : Int) < 4 := by omega
      cases hok : okAt ⟨x0, x1, x2, x3, d⟩ k with
      | true =>
        have hs : okTo ⟨x0, x1, x2, x3, d⟩ (k + 1) = true := by unfold okTo; rw [HO.out, hok]; rfl
        have HS := Lib.hid hs
        unfold okAt at hok
        clear hn hs
        dsimp only at hok
        generalize num ⟨x0, x1, x2, x3, d⟩ k = x at hi hok
        have a1 : decide (x < 0) = false := by simp at hok ⊢; omega
        have a2 : decide (999 < x) = false := by simp at hok ⊢; omega
        by_cases hd : d ≤ (k : Int)
        · have a3 : decide (d ≤ (k : Int)) = true := by simp; omega
          have a4 : (x != 0) = false := by simp at hok ⊢; omega
          clear hok hd
          go_wp2
          go_round
          case rel => exact ⟨k + 1, by omega, by go_num, HS⟩
          case measure => simp [intOf]; omega
        · have a3 : decide (d ≤ (k : Int)) = false := by simp; omega
          clear hok hd
          go_wp2
          go_round
          case rel => exact ⟨k + 1, by omega, by go_num, HS⟩
          case measure => simp [intOf]; omega
      | false =>
        have hs := okTo_no ⟨x0, x1, x2, x3, d⟩ k 4 hlt hok
        have HS := Lib.hid hs
        unfold okAt at hok
        clear hn hs
        dsimp only at hok
        generalize num ⟨x0, x1, x2, x3, d⟩ k = x at hi hok
        have hcase : (decide (x < 0) = true) ∨ (decide (x < 0) = false ∧ decide (999 < x) = true) ∨ (decide (x < 0) = false ∧ decide (999 < x) = false ∧ decide (d ≤ (k : Int)) = true ∧ (x != 0) = true) := by
          simp at hok ⊢; omega
        clear hok
        rcases hcase with a1 | ⟨a1, a2⟩ | ⟨a1, a2, a3, a4⟩
        all_goals
          go_wp2
          go_ret
          exact ⟨by rw [HS.out]; rfl, hO⟩
    · obtain rfl : k = 4 := by omega
      go_wp2
      go_ret
      exact ⟨by rw [HO.out]; rfl, hO⟩
set_option maxRecDepth 100000 in
set_option maxHeartbeats 2000000 in
theorem plessD_any (p q : Pt) (w : World) : Calls Try.prog 34 #[.agg (ptA p), .agg (ptA q)] w fun e w' => e = .returned (.bool (lessP p q)) ∧ BD w w' := by
  obtain ⟨hO', hP, hQ⟩ := two_box p q w
  have hO : BD w ((w.alloc (.cells (ptA p) 50)).alloc (.cells (ptA q) 50)) := ⟨hO', Nat.le_refl _⟩
  clear hO'
  have hm := fun W => pmayD_any p W
  have hn := fun W => pmayD_any q W
  have c0 := hP.cell 0
  have c1 := hP.cell 1
  have c2 := hP.cell 2
  have c3 := hP.cell 3
  have c4 := hP.cell 4
  cases hmp : mayP p with
  | false =>
    have hr : lessP p q = false := by unfold lessP; rw [hmp]; rfl
    rw [hr]
    rw [hmp] at hm
    have HM := Lib.hid hm
    clear hm hn hmp hr hP hQ
    go_enter Try.func34, Try.ntmps34
    go_wp2_with (go_at_call 31; refine (HM.out _).mono ?_; rintro e w1 ⟨rfl, hb1⟩)
    go_ret
    exact ⟨rfl, hO.trans hb1⟩
  | true =>
  cases hmq : mayP q with
  | false =>
    have hr : lessP p q = false := by unfold lessP; rw [hmp, hmq]; rfl
    rw [hr]
    rw [hmp] at hm
    rw [hmq] at hn
    have HM := Lib.hid hm
    have HN := Lib.hid hn
    have M1 : True := trivial
    clear hm hn hmp hmq hr
    go_enter Try.func34, Try.ntmps34
    go_wp2_with (first
      | (go_at_call 31; (have m_ := M1; clear M1 m_); refine (HM.out _).mono ?_; rintro e w1 ⟨rfl, hb1⟩; have k1 := hQ.below hb1.1; have d0 := k1.cell 0; have d1 := k1.cell 1; have d2 := k1.cell 2; have d3 := k1.cell 3; have d4 := k1.cell 4; clear c0 c1 c2 c3 c4)
      | (go_at_call 31; refine (HN.out _).mono ?_; rintro e w2 ⟨rfl, hb2⟩))
    go_ret
    exact ⟨rfl, (hO.trans hb1).trans hb2⟩
  | true =>
    obtain ⟨D, hD, hD1, hD4⟩ := mayP_dep p hmp
    obtain ⟨E, hE, hE1, hE4⟩ := mayP_dep q hmq
    have hr : lessP p q = lessR p q (decide (D < E)) 0 (min D E) := by unfold lessP depN; rw [hmp, hmq, hD, hE]; rfl
    rw [hr]
    rw [hmp] at hm
    rw [hmq] at hn
    have HM := Lib.hid hm
    have HN := Lib.hid hn
    have HD := Lib.hid hD
    have HE := Lib.hid hE
    obtain ⟨M, hM⟩ : ∃ M, M = min D E := ⟨_, rfl⟩
    rw [← hM]
    have HMM := Lib.hid hM
    have hmn1 : (if q.dep < p.dep then q.dep else p.dep) = (M : Int) := by rw [hD, hE, hM]; split <;> omega
    have hmn2 : (if p.dep < q.dep then p.dep else q.dep) = (M : Int) := by rw [hD, hE, hM]; split <;> omega
    have hmn3 : (if p.dep > q.dep then q.dep else p.dep) = (M : Int) := by rw [hD, hE, hM]; split <;> omega
    have M1 : True := trivial
    clear hm hn hmp hmq hr hD hE hM
    go_enter Try.func34, Try.ntmps34
    go_wp2_with (first
      | (go_at_call 31; (have m_ := M1; clear M1 m_); refine (HM.out _).mono ?_; rintro e w1 ⟨rfl, hb1⟩; have k1 := hQ.below hb1.1; have d0 := k1.cell 0; have d1 := k1.cell 1; have d2 := k1.cell 2; have d3 := k1.cell 3; have d4 := k1.cell 4; clear c0 c1 c2 c3 c4)
      | (go_at_call 31; refine (HN.out _).mono ?_; rintro e w2 ⟨rfl, hb2⟩; have k2 := k1.below hb2.1; have k3 := (hP.below hb1.1).below hb2.1; have e4 := k2.cell 4; have e5 := k3.cell 4; clear d0 d1 d2 d3 d4))
    have HB := (hO.trans hb1).trans hb2
    clear hO hb1 hb2 hP hQ k1 e4 e5 hmn1 hmn2 hmn3
    go_loopw [19] (fun c wr => ∃ k : Nat, k ≤ M ∧ c = .int .i64 k ∧ Hid (lessR p q (decide (D < E)) 0 M = lessR p q (decide (D < E)) k (M - k)) ∧ Bk wr w.heap.size 50 (ptA p) ∧ Bk wr (w.heap.size + 1) 50 (ptA q) ∧ BD w wr) (fun c _ => M - (intOf c).toNat)
    case atStart => exact ⟨0, by omega, rfl, Lib.hid rfl, k3, k2, HB⟩
    case round =>
      clear k2 k3 HB
      obtain ⟨k, hk, rfl, HR, hP, hQ, HB⟩ := hrel
      by_cases hlt : k < M
      · have hk4 : k < 4 := by have := HMM.out; omega
        have g1 := hP.cell k
        have g2 := hQ.cell k
        rw [ptA_num _ k hk4] at g1 g2
        have hlt4 : (k : Int) < 4 := by omega
        have hs : lessR p q (decide (D < E)) k (M - k) = (if num p k = num q k then lessR p q (decide (D < E)) (k + 1) (M - (k + 1)) else decide (num p k < num q k)) := by
          rw [show M - k = (M - (k + 1)) + 1 by omega]; rfl
        rw [hs] at HR
        generalize num p k = x at g1 hs HR
        generalize num q k = y at g2 hs HR
        clear hs
        by_cases hxy : x = y
        · rw [if_pos hxy] at HR
          subst hxy
          clear hk4
          go_wp2_with fail
          go_quiet (fail)
          go_wp2
          go_roundw
          case rel => exact ⟨k + 1, by omega, by go_num, HR, hP, hQ, by first | exact HB | exact ⟨⟨HB.1.os, HB.1.tape, HB.1.output, HB.1.size, HB.1.block⟩, Nat.le_trans HB.2 (by show wr.drawn ≤ _; first | exact Nat.le_succ _ | exact Nat.le_add_right _ _ | (simp; omega) | (simp [World.drew, World.drewN]; omega))⟩⟩
          case measure => simp [intOf]; omega
        · rw [if_neg hxy] at HR
          have hne : (x != y) = true := bne_iff_ne.2 hxy
          clear hxy hk4
          go_wp2_with fail
          go_quiet (fail)
          go_wp2_with fail
          go_quiet (fail)
          go_wp2
          go_ret
          exact ⟨by rw [HR.out]; rfl, by first | exact HB | exact ⟨⟨HB.1.os, HB.1.tape, HB.1.output, HB.1.size, HB.1.block⟩, Nat.le_trans HB.2 (by show wr.drawn ≤ _; first | exact Nat.le_succ _ | exact Nat.le_add_right _ _ | (simp; omega) | (simp [World.drew, World.drewN]; omega))⟩⟩
      · obtain rfl : k = M := by omega
        have e4 := hP.cell 4
        have e5 := hQ.cell 4
        have hd : decide (p.dep < q.dep) = decide (D < E) := by rw [HD.out, HE.out]; simp
        have HR' := HR.out
        rw [Nat.sub_self] at HR'
        have HRR := Lib.hid HR'
        clear HR HR'
        go_wp2
        go_ret
        exact ⟨by rw [HRR.out]; unfold lessR; rw [← hd]; rfl, HB⟩
end Go.Proofs.Ytbdefhekkafihaa
