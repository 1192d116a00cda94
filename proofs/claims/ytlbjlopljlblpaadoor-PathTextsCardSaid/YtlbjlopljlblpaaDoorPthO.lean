/- PathOnce: its walk. Condition: the library's table of powers of ten reads as the program lays it. -/
import Derived.Test.YtlbjlopljlblpaaDoorPthX
import Derived.Test.YtlbjlopljlblpaaDoorPthN
set_option linter.unusedVariables false
set_option linter.unusedSimpArgs false
namespace Go.Proofs.YtlbjlopljlblpaaDoor
open Go.RowKit (wrap32 wrap64)
open Go.RowKit Go.Shelf
open Go.Sort (grow)
theorem key_no {p : Pt} (h : mayP p = false) : keyP p = 0 := by unfold keyP; rw [h]; rfl
set_option maxRecDepth 100000 in
set_option maxHeartbeats 4000000 in
theorem pathOnce_walk (p q : Pt) (w : World) (ht : Tab10 w) : Calls Tryd.prog 3 #[.agg (ptA p), .agg (ptA q)] w fun e w' => e = .returned (.bool true) ∧ Below w.heap.size w w' := by
  obtain ⟨hO, hP, hQ⟩ := two_box p q w
  have ht0 := tab_below ht _ hO
  generalize hw0 : (w.alloc (.cells (ptA p) 24)).alloc (.cells (ptA q) 24) = w0 at hO hP hQ ht0
  have haw := pawake_any w0 ht0
  obtain ⟨a0, a1, a2, a3, a4⟩ := pt_cells hP
  obtain ⟨b0, b1, b2, b3, b4⟩ := pt_cells hQ
  have HO := Lib.hid hO
  have HAW := Lib.hid haw
  have HW0 := Lib.hid hw0
  have HP := Lib.hid hP
  have HQ := Lib.hid hQ
  have HT := Lib.hid (tab_below ht0)
  clear hO hP hQ ht ht0 haw hw0
  go_enter Tryd.func3, Tryd.ntmps3
  go_wp2_with fail
  rw [HW0.out]
  refine (HAW.out).mono ?_
  rintro e w1 ⟨rfl, hb⟩
  obtain ⟨d', os', hw'⟩ := rg_start hb
  subst hw'
  clear hb HW0 HAW
  cases hp : mayP p with
  | false =>
    have hk := key_no hp
    go_wp2_with (first
      | (go_at_call 9; refine (may_val (by assumption) _).mono ?_; rintro e w' ⟨rfl, hb⟩; obtain ⟨d', os', hw'⟩ := rg_next hb; subst hw'; clear hb)
      | (go_at_call 10; refine (key_val (by assumption) _).mono ?_; rintro e w' ⟨rfl, hb⟩; obtain ⟨d', os', hw'⟩ := rg_next hb; subst hw'; clear hb))
    go_ret
    exact ⟨rfl, bl_then HO.out (Nat.le_refl _) (below_regrown _ _ _)⟩
  | true =>
  obtain ⟨kp, hkp⟩ : ∃ k, keyP p = k := ⟨_, rfl⟩
  have hkpos : 0 < kp := by rw [← hkp]; exact key_pos hp
  cases hq : mayP q with
  | false =>
    have hk0 : (kp == 0) = false := beq_eq_false_iff_ne.2 (by omega)
    clear hkpos
    go_wp2_with (first
      | (go_at_call 9; refine (may_val (by assumption) _).mono ?_; rintro e w' ⟨rfl, hb⟩; obtain ⟨d', os', hw'⟩ := rg_next hb; subst hw'; clear hb)
      | (go_at_call 10; refine (key_val (by assumption) _).mono ?_; rintro e w' ⟨rfl, hb⟩; obtain ⟨d', os', hw'⟩ := rg_next hb; subst hw'; clear hb))
    go_ret
    exact ⟨rfl, bl_then HO.out (Nat.le_refl _) (below_regrown _ _ _)⟩
  | true =>
  obtain ⟨kq, hkq⟩ : ∃ k, keyP q = k := ⟨_, rfl⟩
  have htp : ∀ W, Below w0.heap.size w0 W → Calls Tryd.prog 12 #[.agg (ptA p)] W fun e w' => e = .returned (.string (bsOf (textP p))) ∧ Below W.heap.size W w' := fun W hb => ptext_any p W (HT.out W hb)
  have htq : ∀ W, Below w0.heap.size w0 W → Calls Tryd.prog 12 #[.agg (ptA q)] W fun e w' => e = .returned (.string (bsOf (textP q))) ∧ Below W.heap.size W w' := fun W hb => ptext_any q W (HT.out W hb)
  have hpa : ∀ W, Below w0.heap.size w0 W → Calls Tryd.prog 11 #[.string (bsOf (textP p))] W fun e w' => e = .returned (.tuple #[.agg #[.int .i64 p.n0, .int .i64 p.n1, .int .i64 p.n2, .int .i64 p.n3, .int .i64 p.dep], .int .i64 0]) ∧ Below W.heap.size W w' := fun W hb => by
    have hx := pparse_any (bsOf (textP p)) (by rw [bs_size]; have := text_len p; omega) W (HT.out W hb)
    rw [bs_list, parse_text p hp] at hx
    exact hx
  have hti : p ≠ q → bsOf (textP p) ≠ bsOf (textP q) := fun hne he => hne (text_inj hp hq (by have := congrArg (fun b : ByteArray => b.data.toList) he; simpa using this))
  have hki : p ≠ q → kp ≠ kq := fun hne he => hne (key_inj hp hq (by rw [hkp, hkq, he]))
  have htt : p = q → bsOf (textP p) = bsOf (textP q) := fun he => by rw [he]
  generalize bsOf (textP p) = tp at htp hpa hti htt
  generalize bsOf (textP q) = tq at htq hti htt
  have HTP0 := Lib.hid htp
  have HTQ0 := Lib.hid htq
  have HPA := Lib.hid hpa
  have HTI := Lib.hid hti
  have HKI := Lib.hid hki
  have HTT := Lib.hid htt
  have HKP := Lib.hid (key_val hkp)
  have HKQ := Lib.hid (key_val hkq)
  clear htp htq hpa hti hki htt hkpos
  go_wp2_with (first
      | (go_at_call 9; refine (may_val (by assumption) _).mono ?_; rintro e w' ⟨rfl, hb⟩; obtain ⟨d', os', hw'⟩ := rg_next hb; subst hw'; clear hb))
  refine (HTP0.out _ (below_regrown _ _ _)).mono ?_
  rintro e w' ⟨rfl, hb⟩
  obtain ⟨d5, os5, hw'⟩ := rg_next hb
  subst hw'
  clear hb
  go_wp2_with fail
  refine (HPA.out _ (below_regrown _ _ _)).mono ?_
  rintro e w6 ⟨rfl, hb⟩
  have hb6 := bl_then (below_regrown w0 d5 os5) (Nat.le_refl _) hb
  clear hb a0 a1 a2 a3 a4 b0 b1 b2 b3 b4 hp hq hkp hkq
  have hbz : Below w0.heap.size w0 (w6.alloc (.cells (ptA p) 24)) := bl_then hb6 (Nat.le_refl _) ((Below.refl _ _).alloc (Nat.le_refl _) _)
  have kR := Bk.new w6 24 (ptA p)
  go_upto_region 6 with fail
  dsimp only [ptA] at hbz kR
  generalize w6.alloc (.cells #[.int .i64 p.n0, .int .i64 p.n1, .int .i64 p.n2, .int .i64 p.n3, .int .i64 p.dep] 24) = wz at hbz kR ⊢
  generalize w6.heap.size = bR at kR ⊢
  clear hb6
  have kP := HP.out.below hbz
  have kQ := HQ.out.below hbz
  have HZ := Lib.hid (bl_then HO.out (Nat.le_refl _) hbz)
  have HTP : Hid (∀ W, Below wz.heap.size wz W → _) := Lib.hid (fun W hb => HTP0.out W (bl_then hbz (Nat.le_refl _) hb))
  have HTQ : Hid (∀ W, Below wz.heap.size wz W → _) := Lib.hid (fun W hb => HTQ0.out W (bl_then hbz (Nat.le_refl _) hb))
  have a0 := fun dq osq => cell_regrown (v := .int .i64 p.n0) (kP.cell 0) dq osq
  have a1 := fun dq osq => cell_regrown (v := .int .i64 p.n1) (kP.cell 1) dq osq
  have a2 := fun dq osq => cell_regrown (v := .int .i64 p.n2) (kP.cell 2) dq osq
  have a3 := fun dq osq => cell_regrown (v := .int .i64 p.n3) (kP.cell 3) dq osq
  have a4 := fun dq osq => cell_regrown (v := .int .i64 p.dep) (kP.cell 4) dq osq
  have b0 := fun dq osq => cell_regrown (v := .int .i64 q.n0) (kQ.cell 0) dq osq
  have b1 := fun dq osq => cell_regrown (v := .int .i64 q.n1) (kQ.cell 1) dq osq
  have b2 := fun dq osq => cell_regrown (v := .int .i64 q.n2) (kQ.cell 2) dq osq
  have b3 := fun dq osq => cell_regrown (v := .int .i64 q.n3) (kQ.cell 3) dq osq
  have b4 := fun dq osq => cell_regrown (v := .int .i64 q.dep) (kQ.cell 4) dq osq
  have c0 := fun dq osq => cell_regrown (v := .int .i64 p.n0) (kR.cell 0) dq osq
  have c1 := fun dq osq => cell_regrown (v := .int .i64 p.n1) (kR.cell 1) dq osq
  have c2 := fun dq osq => cell_regrown (v := .int .i64 p.n2) (kR.cell 2) dq osq
  have c3 := fun dq osq => cell_regrown (v := .int .i64 p.n3) (kR.cell 3) dq osq
  have c4 := fun dq osq => cell_regrown (v := .int .i64 p.dep) (kR.cell 4) dq osq
  have hgd := gdPt
  have heqpp := eqlPt p p
  rw [decide_eq_true rfl] at heqpp
  have heqpq := eqlPt p q
  clear kP kQ kR hbz HP HQ HT HTP0 HTQ0 HPA
  by_cases hpq : p = q
  · have e1 := HTT.out hpq
    subst e1
    subst hpq
    clear heqpq
    refine wp_region_quiet_below (by kernel_rfl) (by kernel_rfl) ?_
    repeat (go_big_quiet_step (first
      | (go_at_call_of 12 (p.n0); exact Calls.regrown_of (HTP.out _ (below_regrown _ _ _)))
      | (go_at_call_of 10 (p.n0); exact Calls.regrown_of (HKP.out _))))
    refine wpQuiet_nil ?_
    intro _ hw'
    obtain ⟨⟨dq, osq⟩, hw''⟩ := hw'
    subst hw''
    go_wp2
    go_ret
    exact ⟨rfl, bl_then HZ.out (Nat.le_refl _) (below_regrown _ _ _)⟩
  · have h1 := HTI.out hpq
    have h2 := HKI.out hpq
    rw [decide_eq_false hpq] at heqpq
    have h3 : (tp.toList == tq.toList) = false := by
      rw [ByteArray.toList_eq, ByteArray.toList_eq, beq_eq_false_iff_ne]
      exact fun h => h1 (Go.WideShapes.bytes_inj h)
    have h4 : (kp == kq) = false := beq_eq_false_iff_ne.2 h2
    clear h1 h2 hpq
    refine wp_region_quiet_below (by kernel_rfl) (by kernel_rfl) ?_
    repeat (go_big_quiet_step (first
      | (go_at_call_of 12 (p.n0); exact Calls.regrown_of (HTP.out _ (below_regrown _ _ _)))
      | (go_at_call_of 12 (q.n0); exact Calls.regrown_of (HTQ.out _ (below_regrown _ _ _)))
      | (go_at_call_of 10 (p.n0); exact Calls.regrown_of (HKP.out _))
      | (go_at_call_of 10 (q.n0); exact Calls.regrown_of (HKQ.out _))))
    refine wpQuiet_nil ?_
    intro _ hw'
    obtain ⟨⟨dq, osq⟩, hw''⟩ := hw'
    subst hw''
    go_wp2
    go_ret
    exact ⟨rfl, bl_then HZ.out (Nat.le_refl _) (below_regrown _ _ _)⟩
end Go.Proofs.YtlbjlopljlblpaaDoor
