/- need: Plan where it is refused; what all plans are; the statement NeedPlans. No condition. -/
import Derived.Test.YthkjkmjcnphjgaaNeedP
import Derived.Lib.QuietBelow
import Derived.Deep.QuietTactic
import Derived.BigQuiet
set_option linter.unusedVariables false
set_option linter.unusedSimpArgs false
namespace Go.Proofs.Ythkjkmjcnphjgaa
open Go.RowKit (wrap32 wrap64)
open Go.RowKit Go.Shelf Go.Sort
set_option maxRecDepth 100000 in
set_option maxHeartbeats 4000000 in
theorem plan_no (a : Option Addr) (len cap : Nat) (L : List Lk) (p : Pt) (m : Int) (w : World) (h : (mayP p && okMode m) = false) :
    Calls Try.prog 32 #[.slice a len cap, .agg (ptA p), .int .i64 m] w (PlanRet w L p m) := by
  have hO : Below w.heap.size w (w.alloc (.cells (ptA p) 51)) := (Below.refl _ _).alloc (Nat.le_refl _) _
  have hb := Bk.new w 51 (ptA p)
  have c0 := hb.cell 0
  have c1 := hb.cell 1
  have c2 := hb.cell 2
  have c3 := hb.cell 3
  have c4 := hb.cell 4
  have hmay := fun W => pmay_any p W
  have hret : ∀ W, Below w.heap.size w W → PlanRet w L p m (.returned (.tuple #[.slice none 0 0, .int .i64 1])) W := by
    intro W h2
    have e1 : planT L p m = [] := by unfold planT; rw [h]; rfl
    have e2 : planE p m = 1 := by unfold planE; rw [h]; rfl
    exact ⟨_, by rw [e2], by rw [e1]; exact World.ownsRow_nil _ _ _ _, h2⟩
  have HRT := Lib.hid hret
  cases hm : mayP p with
  | false =>
    rw [hm] at hmay
    have HM := Lib.hid hmay
    clear hmay hret h hm hb
    go_enter Try.func32, Try.ntmps32
    go_wp2
    go_step3
    go_wp2_with (go_at_call 74; refine (HM.out _).mono ?_; rintro e w1 ⟨rfl, hb1⟩)
    rw [Exit.noGoto_ret]
    go_ret2
    exact HRT.out _ (bl_then hO (Nat.le_refl _) hb1)
  | true =>
    rw [hm] at hmay h
    rw [Bool.true_and] at h
    have HM := Lib.hid hmay
    have h3 : (m != 3) = true := by unfold okMode at h; unfold bne; simp at h ⊢; omega
    have h5 : (m != 5) = true := by unfold okMode at h; unfold bne; simp at h ⊢; omega
    have h6 : (m != 6) = true := by unfold okMode at h; unfold bne; simp at h ⊢; omega
    clear hmay hret h hm hb
    go_enter Try.func32, Try.ntmps32
    go_wp2
    go_step3
    go_wp2_with (go_at_call 74; refine (HM.out _).mono ?_; rintro e w1 ⟨rfl, hb1⟩)
    rw [Exit.noGoto_ret]
    go_ret2
    exact HRT.out _ (bl_then hO (Nat.le_refl _) hb1)
theorem plan_any (a : Option Addr) (len cap : Nat) (L : List Lk) (p : Pt) (m : Int) (hp : okPt p) (w : World) (hl : Lks w a len L) (hn : len ≤ 1000) :
    Calls Try.prog 32 #[.slice a len cap, .agg (ptA p), .int .i64 m] w (PlanRet w L p m) := by
  cases h : (mayP p && okMode m) with
  | false => exact plan_no a len cap L p m w h
  | true =>
    rw [Bool.and_eq_true] at h
    exact plan_yes a len cap L p m hp w hl hn h.1 h.2
theorem planW_sub (L : List Lk) (p : Pt) (m : Int) (ws : List Pt) : List.Sublist ((planW L p m ws).map pathOf) ws := by
  induction ws with
  | nil => exact List.nil_sublist _
  | cons a ws ih =>
    unfold planW
    split
    · rw [List.map_append]
      split
      · exact List.Sublist.cons _ ih
      · exact List.Sublist.cons_cons _ ih
    · split
      · exact List.nil_sublist _
      · rw [List.map_append]
        split
        · exact List.Sublist.cons _ ih
        · exact List.Sublist.cons_cons _ ih
theorem planW_mode (L : List Lk) (p : Pt) (m : Int) (ws : List Pt) : ∀ x ∈ planW L p m ws, covT (needOf L (pathOf x)) x.mode = false ∧ covT x.mode (needOf L (pathOf x)) = true := by
  induction ws with
  | nil => intro x hx; cases hx
  | cons a ws ih =>
    intro x hx
    unfold planW at hx
    split at hx
    · rcases List.mem_append.1 hx with hx | hx
      · split at hx
        · cases hx
        · rename_i hc
          rw [List.mem_singleton.1 hx]
          exact ⟨Bool.eq_false_iff.2 hc, cov_sup_l _ _⟩
      · exact ih x hx
    · split at hx
      · cases hx
      · rcases List.mem_append.1 hx with hx | hx
        · split at hx
          · cases hx
          · rename_i hc
            rw [List.mem_singleton.1 hx]
            exact ⟨Bool.eq_false_iff.2 hc, cov_sup_l _ _⟩
        · exact ih x hx
theorem ways_pw (p : Pt) : (ways p).Pairwise fun a b => a.dep < b.dep := by
  cases hm : mayP p with
  | false => rw [ways_no p hm]; exact List.Pairwise.nil
  | true =>
    obtain ⟨D, hD, _, _⟩ := mayP_dep p hm
    rw [ways_of p D hm hD, List.pairwise_map]
    refine List.pairwise_lt_range.imp fun {i j} h => ?_
    show ((i + 1 : Nat) : Int) < ((j + 1 : Nat) : Int)
    omega
/-- What NeedPlans asks of a plan. -/
theorem planT_facts (L : List Lk) (p : Pt) (m : Int) (k : Nat) (x : Lk) (hx : (planT L p m)[k]? = some x) :
    inP p (pathOf x) = true ∧ covT (needOf L (pathOf x)) x.mode = false ∧ covT x.mode (needOf L (pathOf x)) = true ∧ ∀ y, 0 < k → (planT L p m)[k - 1]? = some y → y.dep < x.dep := by
  unfold planT at hx ⊢
  split at hx
  · rename_i hmo
    rw [if_pos hmo]
    have hmem := List.mem_of_getElem? hx
    have hsub := planW_sub L p m (ways p)
    obtain ⟨h1, h2⟩ := planW_mode L p m (ways p) x hmem
    refine ⟨?_, h1, h2, fun y hk hy => ?_⟩
    · have : pathOf x ∈ ways p := hsub.subset (List.mem_map_of_mem hmem)
      exact List.any_eq_true.2 ⟨_, this, decide_eq_true rfl⟩
    · have hpw := (ways_pw p).sublist hsub
      rw [List.pairwise_map, List.pairwise_iff_getElem] at hpw
      obtain ⟨a1, rfl⟩ := List.getElem?_eq_some_iff.1 hx
      obtain ⟨a2, rfl⟩ := List.getElem?_eq_some_iff.1 hy
      exact hpw (k - 1) k a2 a1 (by omega)
  · simp at hx
theorem okLk_plan (L : List Lk) (p : Pt) (m : Int) (hp : okPt p) : ∀ x ∈ planT L p m, okLk x := by
  intro x hx
  unfold planT at hx
  split at hx
  · have hsub := (planW_sub L p m (ways p)).subset (List.mem_map_of_mem hx)
    obtain ⟨h0, h1, h2, h3, h4⟩ := okPt_ways p hp _ hsub
    refine ⟨h0, h1, h2, h3, h4, ?_⟩
    have : ∀ ws, ∀ x ∈ planW L p m ws, (Lit.int .i64 x.mode).wf = true := by
      intro ws
      have hs : ∀ a b, (Lit.int .i64 (supT a b)).wf = true := fun a b => by
        obtain ⟨q1, q2⟩ := supT_range a b
        generalize supT a b = z at q1 q2
        obtain rfl | rfl | rfl | rfl | rfl | rfl | rfl : z = 0 ∨ z = 1 ∨ z = 2 ∨ z = 3 ∨ z = 4 ∨ z = 5 ∨ z = 6 := by omega
        all_goals decide
      induction ws with
      | nil => intro x hx; cases hx
      | cons a ws ih =>
        intro x hx
        unfold planW at hx
        split at hx
        · rcases List.mem_append.1 hx with hx | hx
          · split at hx
            · cases hx
            · rw [List.mem_singleton.1 hx]; exact hs _ _
          · exact ih x hx
        · split at hx
          · cases hx
          · rcases List.mem_append.1 hx with hx | hx
            · split at hx
              · cases hx
              · rw [List.mem_singleton.1 hx]; exact hs _ _
            · exact ih x hx
    exact this _ x hx
  · cases hx
theorem few17 (a : Option Addr) (len cap : Nat) (b : Bool) (h : decide ((len : Int) ≤ 30) = b) (hm : len ≤ maxLen) : Hid (∀ w, Calls Try.prog 31 #[.slice a len cap] w fun e w' => e = .returned (.bool b) ∧ w = w') := by
  refine Lib.hid fun w => ?_
  subst h
  unfold maxLen at hm
  go_enter Try.func31, Try.ntmps31
  go_wp2
  go_ret
  exact ⟨rfl, rfl⟩
set_option maxHeartbeats 1000000 in
theorem awake17 (w : World) : Calls Try.prog 30 #[] w fun e w' => e = .returned (.bool true) ∧ Below w.heap.size w w' := by
  have hl : Lks w none 0 [] := ⟨rfl, Nat.zero_le _, by simp, fun h => absurd h (by omega)⟩
  have hp := plan_any none 0 0 [] ⟨1, 2, 3, 4, 4⟩ 3 (by decide) w hl (by omega)
  have e1 : planT [] ⟨1, 2, 3, 4, 4⟩ 3 = [⟨1, 0, 0, 0, 1, 1⟩, ⟨1, 2, 0, 0, 2, 1⟩, ⟨1, 2, 3, 0, 3, 1⟩, ⟨1, 2, 3, 4, 4, 3⟩] := by decide +kernel
  have e2 : planE ⟨1, 2, 3, 4, 4⟩ 3 = 0 := by decide +kernel
  unfold PlanRet at hp
  rw [e1, e2] at hp
  have HP := Lib.hid hp
  clear hp hl e1 e2
  go_enter Try.func30, Try.ntmps30
  go_wp2_with (go_at_call 32; refine HP.out.mono ?_; rintro e w1 ⟨v, rfl, hown, hb1⟩; obtain ⟨A, c, rfl, hs, _, _⟩ := SR.own (ok := okLk) enLk_len (by omega) hown (by decide); obtain ⟨b, off, x, rfl, _, hx, _, a0, a1, a2, a3, a4, a5⟩ := Lk_at hs (i := 0) (by decide); obtain ⟨b2, off2, y, hbb, _, hy, _, b0, b1, b2', b3, b4, b5⟩ := Lk_at hs (i := 3) (by decide); obtain ⟨hb3, ho3⟩ : b = b2 ∧ off = off2 := (by simpa using hbb); obtain rfl := Option.some.inj hx; obtain rfl := Option.some.inj hy; subst hb3; subst ho3; clear hown hs hbb hx hy)
  go_ret
  exact ⟨rfl, hb1⟩
set_option maxRecDepth 100000 in
set_option maxHeartbeats 4000000 in
theorem needPlans_walk (a : Option Addr) (len cap : Nat) (css : List (List Value)) (p : Pt) (m : Int) (w : World) (hf : FlatRow w ksLk a len cap css) (hp : okPt p) :
    Calls Try.prog 6 #[.slice a len cap, .agg (ptA p), .int .i64 m] w fun e w' => e = .returned (.bool true) ∧ Below w.heap.size w w' := by
  obtain ⟨L, hl, hlc, hcm, hnil⟩ := SR.flat (s := 6) rfl (by omega) enLk_len decLk hf
  clear hf
  have hmax := hl.max
  have hO : Below w.heap.size w (w.alloc (.cells (ptA p) 51)) := (Below.refl _ _).alloc (Nat.le_refl _) _
  have hb := Bk.new w 51 (ptA p)
  by_cases h30 : 30 < len
  · have HF := few17 a len cap false (by simp; omega) hmax
    clear hl h30 hb
    go_enter Try.func6, Try.ntmps6
    go_wp2_with (first
      | (go_at_call 30; refine (awake17 _).mono ?_; rintro e w1 ⟨rfl, hb1⟩)
      | (go_at_call 31; refine (HF.out _).mono ?_; rintro e _ ⟨rfl, rfl⟩))
    go_ret
    exact ⟨rfl, bl_then hO (Nat.le_refl _) hb1⟩
  · have HF := few17 a len cap true (by simp; omega) hmax
    have HPL := Lib.hid (fun W (hb : Below w.heap.size w W) => plan_any a len cap L p m hp W (hl.below hb) (by omega))
    have HOK := Lib.hid (okLk_plan L p m hp)
    have HFA := Lib.hid (planT_facts L p m)
    have hpe : planE p m = 0 ∨ (planE p m = 1 ∧ planT L p m = []) := by
      unfold planE planT
      cases mayP p && okMode m <;> simp
    have HPE := Lib.hid hpe
    have hplen : (planT L p m).length ≤ 4 := by
      unfold planT
      split
      · exact Nat.le_trans (planW_len _ _ _ _) (ways_len p)
      · simp
    clear hpe
    go_enter Try.func6, Try.ntmps6
    go_wp2_with (first
      | (go_at_call 30; refine (awake17 _).mono ?_; rintro e w1 ⟨rfl, hb1⟩; have hbp1 := hb.below hb1; have HB1 := bl_then hO (Nat.le_refl _) hb1; have c0 := hbp1.cell 0; have c1 := hbp1.cell 1; have c2 := hbp1.cell 2; have c3 := hbp1.cell 3; have c4 := hbp1.cell 4; clear hb)
      | (go_at_call 31; refine (HF.out _).mono ?_; rintro e _ ⟨rfl, rfl⟩)
      | (go_at_call 32; refine (HPL.out _ HB1).mono ?_; rintro e w2 ⟨v, rfl, hown, hb2⟩; obtain ⟨A, c, rfl, hs, _, _⟩ := SR.own (ok := okLk) enLk_len (by omega) hown HOK.out; clear hown))
    have HB2 := bl_then HB1 (Nat.le_refl _) hb2
    have hlw := hl.below HB2
    have hbp2 := hbp1.below hb2
    clear c0 c1 c2 c3 c4 hbp1 hb1 hb2 HB1 hO hl
    generalize hPL : planT L p m = PL at hs HFA HPE hplen ⊢
    go_loopw [25] (fun c wr => ∃ k : Nat, k ≤ PL.length ∧ c = .int .i64 k ∧ Below w2.heap.size w2 wr) (fun c _ => PL.length - (intOf c).toNat)
    case atStart => exact ⟨0, by omega, rfl, Below.refl _ _⟩
    case round =>
      obtain ⟨k, hk, rfl, HC⟩ := hrel
      by_cases hlt : k < PL.length
      · obtain ⟨b, off, x, rfl, _, hx, _, d0, d1, d2, d3, d4, d5⟩ := Lk_at (hs.below HC) hlt
        obtain ⟨f1, f2, f3, f4⟩ := HFA.out k x hx
        have hOx : Below wr.heap.size wr (wr.alloc (.cells #[.int .i64 x.n0, .int .i64 x.n1, .int .i64 x.n2, .int .i64 x.n3, .int .i64 x.dep, .int .i64 x.mode] 57)) := (Below.refl _ _).alloc (Nat.le_refl _) _
        have HC1 := bl_then HC (Nat.le_refl _) hOx
        have hbx := Bk.new wr 57 #[.int .i64 x.n0, .int .i64 x.n1, .int .i64 x.n2, .int .i64 x.n3, .int .i64 x.dep, .int .i64 x.mode]
        have hbp := (hbp2.below HC).below hOx
        by_cases hk0 : k = 0
        · subst hk0
          simp only [Nat.zero_mul, Nat.add_zero] at d0 d1 d2 d3 d4 d5
          go_wp2_with fail
          generalize wr.alloc (.cells #[.int .i64 x.n0, .int .i64 x.n1, .int .i64 x.n2, .int .i64 x.n3, .int .i64 x.dep, .int .i64 x.mode] 57) = wz at HC1 hbx hbp hOx ⊢
          generalize wr.heap.size = Bz at hbx ⊢
          have hin := fun dq osq => rin_any p (pathOf x) hp (grow (redrawn wz dq) osq)
          have hof := fun dq osq => nof_any a len cap L (pathOf x) (grow (redrawn wz dq) osq) (hlw.below (bl_then HC1 (Nat.le_refl _) (below_regrown _ _ _))) (by omega)
          rw [f1] at hin
          have har : ptA (pathOf x) = #[.int .i64 x.n0, .int .i64 x.n1, .int .i64 x.n2, .int .i64 x.n3, .int .i64 x.dep] := rfl
          rw [har] at hin hof
          generalize needOf L (pathOf x) = hd at hof f2 f3
          have HIN := Lib.hid hin
          have HOF := Lib.hid hof
          have x0 := fun dq osq => cell_regrown (v := .int .i64 x.n0) (hbx.cell 0) dq osq
          have x1 := fun dq osq => cell_regrown (v := .int .i64 x.n1) (hbx.cell 1) dq osq
          have x2 := fun dq osq => cell_regrown (v := .int .i64 x.n2) (hbx.cell 2) dq osq
          have x3 := fun dq osq => cell_regrown (v := .int .i64 x.n3) (hbx.cell 3) dq osq
          have x4 := fun dq osq => cell_regrown (v := .int .i64 x.dep) (hbx.cell 4) dq osq
          have x5 := fun dq osq => cell_regrown (v := .int .i64 x.mode) (hbx.cell 5) dq osq
          have q0 := fun dq osq => cell_regrown (v := .int .i64 p.n0) (hbp.cell 0) dq osq
          have q1 := fun dq osq => cell_regrown (v := .int .i64 p.n1) (hbp.cell 1) dq osq
          have q2 := fun dq osq => cell_regrown (v := .int .i64 p.n2) (hbp.cell 2) dq osq
          have q3 := fun dq osq => cell_regrown (v := .int .i64 p.n3) (hbp.cell 3) dq osq
          have q4 := fun dq osq => cell_regrown (v := .int .i64 p.dep) (hbp.cell 4) dq osq
          clear hx f1 f4 hin hof hbx hbp hOx hs har d0 d1 d2 d3 d4 d5 HC
          refine wp_region_quiet_below (by kernel_rfl) (by kernel_rfl) ?_
          repeat (go_big_quiet_step (first
            | (go_at_call 33; exact Calls.regrown_of (HIN.out _ _))
            | (go_at_call 35; exact Calls.regrown_of (HOF.out _ _))
            | (go_at_call 34; exact Calls.regrown_of (rcovers_any _ _ _))))
          refine wpQuiet_nil ?_
          intro _ hw'
          obtain ⟨⟨dq, osq⟩, hw''⟩ := hw'
          subst hw''
          go_wp2
          go_roundw
          case rel => exact ⟨1, by omega, by first | rfl | go_num, bl_then HC1 (Nat.le_refl _) (below_regrown _ _ _)⟩
          case measure => simp [intOf]; omega
        · obtain ⟨j, rfl⟩ : ∃ j, k = j + 1 := ⟨k - 1, by omega⟩
          have t1 : IntKind.i64.wrap ((j : Int) + 1 - 1) = (j : Int) := by rw [IntKind.wrap_i64]; omega
          obtain ⟨b', off', y, hbb, _, hy, _, _, _, _, _, ey, _⟩ := Lk_at (hs.below HC1) (i := j) (by omega)
          obtain ⟨hb3, ho3⟩ : b = b' ∧ off = off' := by simpa using hbb
          subst hb3; subst ho3
          have hlt4 := f4 y (by omega) hy
          have g4 : decide (x.dep ≤ y.dep) = false := by simp; omega
          have hj0 : (0 : Int) < (j : Int) + 1 := by omega
          have hj1 : (j : Int) < (PL.length : Int) := by omega
          go_wp2_with fail
          generalize wr.alloc (.cells #[.int .i64 x.n0, .int .i64 x.n1, .int .i64 x.n2, .int .i64 x.n3, .int .i64 x.dep, .int .i64 x.mode] 57) = wz at HC1 hbx hbp hOx ey ⊢
          generalize wr.heap.size = Bz at hbx ⊢
          have hin := fun dq osq => rin_any p (pathOf x) hp (grow (redrawn wz dq) osq)
          have hof := fun dq osq => nof_any a len cap L (pathOf x) (grow (redrawn wz dq) osq) (hlw.below (bl_then HC1 (Nat.le_refl _) (below_regrown _ _ _))) (by omega)
          rw [f1] at hin
          have har : ptA (pathOf x) = #[.int .i64 x.n0, .int .i64 x.n1, .int .i64 x.n2, .int .i64 x.n3, .int .i64 x.dep] := rfl
          rw [har] at hin hof
          generalize needOf L (pathOf x) = hd at hof f2 f3
          have HIN := Lib.hid hin
          have HOF := Lib.hid hof
          have x0 := fun dq osq => cell_regrown (v := .int .i64 x.n0) (hbx.cell 0) dq osq
          have x1 := fun dq osq => cell_regrown (v := .int .i64 x.n1) (hbx.cell 1) dq osq
          have x2 := fun dq osq => cell_regrown (v := .int .i64 x.n2) (hbx.cell 2) dq osq
          have x3 := fun dq osq => cell_regrown (v := .int .i64 x.n3) (hbx.cell 3) dq osq
          have x4 := fun dq osq => cell_regrown (v := .int .i64 x.dep) (hbx.cell 4) dq osq
          have x5 := fun dq osq => cell_regrown (v := .int .i64 x.mode) (hbx.cell 5) dq osq
          have ed := fun dq osq => cell_regrown (v := .int .i64 y.dep) ey dq osq
          have q0 := fun dq osq => cell_regrown (v := .int .i64 p.n0) (hbp.cell 0) dq osq
          have q1 := fun dq osq => cell_regrown (v := .int .i64 p.n1) (hbp.cell 1) dq osq
          have q2 := fun dq osq => cell_regrown (v := .int .i64 p.n2) (hbp.cell 2) dq osq
          have q3 := fun dq osq => cell_regrown (v := .int .i64 p.n3) (hbp.cell 3) dq osq
          have q4 := fun dq osq => cell_regrown (v := .int .i64 p.dep) (hbp.cell 4) dq osq
          clear hx f1 f4 hin hof hbx hbp hOx hs har hbb hy hlt4 ey hk0 d0 d1 d2 d3 d4 d5 HC
          refine wp_region_quiet_below (by kernel_rfl) (by kernel_rfl) ?_
          repeat (go_big_quiet_step (first
            | (go_at_call 33; exact Calls.regrown_of (HIN.out _ _))
            | (go_at_call 35; exact Calls.regrown_of (HOF.out _ _))
            | (go_at_call 34; exact Calls.regrown_of (rcovers_any _ _ _))))
          refine wpQuiet_nil ?_
          intro _ hw'
          obtain ⟨⟨dq, osq⟩, hw''⟩ := hw'
          subst hw''
          go_wp2
          go_roundw
          case rel => exact ⟨j + 2, by omega, by go_num, bl_then HC1 (Nat.le_refl _) (below_regrown _ _ _)⟩
          case measure => simp [intOf]; omega
      · obtain rfl : k = PL.length := by omega
        clear hs hlw hbp2
        rcases HPE.out with he | ⟨he, hn⟩
        · go_wp2
          go_ret
          exact ⟨by first | rfl | (rw [he]; rfl), bl_then HB2 (Nat.le_refl _) HC⟩
        · subst hn
          simp only [List.length_nil] at *
          go_wp2
          go_ret
          exact ⟨by first | rfl | (rw [he]; rfl), bl_then HB2 (Nat.le_refl _) HC⟩
end Go.Proofs.Ythkjkmjcnphjgaa
