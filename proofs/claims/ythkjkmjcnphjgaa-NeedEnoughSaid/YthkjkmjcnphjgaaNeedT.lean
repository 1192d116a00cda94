/- need: Right. No condition. -/
import Derived.Test.YthkjkmjcnphjgaaNeedR
import Derived.Deep.DeepCutAuto
set_option linter.unusedVariables false
set_option linter.unusedSimpArgs false
namespace Go.Proofs.Ythkjkmjcnphjgaa
open Go.RowKit (wrap32 wrap64)
open Go.RowKit Go.Shelf Go.Sort
/-- What Right hands back. -/
def RightRet (w : World) (L : List Lk) (e : Ending) (w' : World) : Prop := ∃ b : Bool, e = .returned (.bool b) ∧ (b = true ↔ RightL L) ∧ Below w.heap.size w w'
theorem right_of (L : List Lk) (h : ∀ (i : Nat) x, L[i]? = some x → okLock L x ∧ ∀ y ∈ L.take i, pathOf y ≠ pathOf x) : RightL L := by
  refine ⟨fun x hx => ?_, ?_⟩
  · obtain ⟨i, hi, rfl⟩ := List.getElem_of_mem hx
    exact (h i _ (List.getElem?_eq_getElem hi)).1
  · rw [List.pairwise_iff_getElem]
    intro i j hi hj hij
    exact (h j _ (List.getElem?_eq_getElem hj)).2 _ (List.mem_take_iff_getElem.2 ⟨i, by omega, rfl⟩)
theorem right_dup (L : List Lk) (i j : Nat) (x y : Lk) (hx : L[i]? = some x) (hy : L[j]? = some y) (hij : i ≠ j) (he : pathOf x = pathOf y) : ¬ RightL L := by
  intro hr
  have hp := List.pairwise_iff_getElem.1 hr.2
  obtain ⟨hi, rfl⟩ := List.getElem?_eq_some_iff.1 hx
  obtain ⟨hj, rfl⟩ := List.getElem?_eq_some_iff.1 hy
  rcases Nat.lt_or_gt_of_ne hij with h | h
  · exact hp i j hi hj h he
  · exact hp j i hj hi h he.symm
set_option maxRecDepth 100000 in
set_option maxHeartbeats 4000000 in
theorem nright_any (a : Option Addr) (len cap : Nat) (L : List Lk) (w : World) (hl : Lks w a len L) (hn : len ≤ 1000) :
    Calls Try.prog 53 #[.slice a len cap] w (RightRet w L) := by
  have hll := hl.len
  have HLL := Lib.hid hll
  have HRN : Hid (¬ RightL L → ∀ W, Below w.heap.size w W → RightRet w L (.returned (.bool false)) W) := Lib.hid (fun h W hb => ⟨false, rfl, ⟨(fun h' => by cases h'), fun h' => absurd h' h⟩, hb⟩)
  have HRY : Hid (RightL L → ∀ W, Below w.heap.size w W → RightRet w L (.returned (.bool true)) W) := Lib.hid (fun h W hb => ⟨true, rfl, ⟨fun _ => h, fun _ => rfl⟩, hb⟩)
  clear hll
  go_enter Try.func53, Try.ntmps53
  go_wp2
  go_loopw [9] (fun c wr => ∃ k : Nat, k ≤ len ∧ c = .int .i64 k ∧ Hid (∀ (i : Nat) x, i < k → L[i]? = some x → okLock L x ∧ ∀ y ∈ L.take i, pathOf y ≠ pathOf x) ∧ Below w.heap.size w wr) (fun c _ => len - (intOf c).toNat)
  case atStart => exact ⟨0, by omega, rfl, Lib.hid (fun i x h => absurd h (by omega)), Below.refl _ _⟩
  case round =>
    obtain ⟨k, hk, rfl, HA, HB⟩ := hrel
    by_cases hlt : k < len
    · obtain ⟨b, off, x, rfl, _, hx, _, d0, d1, d2, d3, d4, d5⟩ := Lk_at (hl.below HB) hlt
      have hOx : Below wr.heap.size wr (wr.alloc (.cells #[.int .i64 x.n0, .int .i64 x.n1, .int .i64 x.n2, .int .i64 x.n3, .int .i64 x.dep, .int .i64 x.mode] 57)) := (Below.refl _ _).alloc (Nat.le_refl _) _
      have HB1 := bl_then HB (Nat.le_refl _) hOx
      have hbx := Bk.new wr 57 #[.int .i64 x.n0, .int .i64 x.n1, .int .i64 x.n2, .int .i64 x.n3, .int .i64 x.dep, .int .i64 x.mode]
      have q0 := hbx.cell 0
      have q1 := hbx.cell 1
      have q2 := hbx.cell 2
      have q3 := hbx.cell 3
      have q4 := hbx.cell 4
      have HX := Lib.hid hx
      have hmem := List.mem_of_getElem? hx
      have har : ptA (pathOf x) = #[.int .i64 x.n0, .int .i64 x.n1, .int .i64 x.n2, .int .i64 x.n3, .int .i64 x.dep] := rfl
      have hpm := fun W => pmay_any (pathOf x) W
      rw [har] at hpm
      cases h1 : mayP (pathOf x) with
      | false =>
        rw [h1] at hpm
        have HPM := Lib.hid hpm
        have hno : ¬ RightL L := fun hr => by have := (hr.1 x hmem).1; rw [h1] at this; cases this
        have HNO := Lib.hid (HRN.out hno)
        clear hno hpm h1 hmem hx har hl hbx hOx
        go_wp2_with (go_at_call 74; refine (HPM.out _).mono ?_; rintro e w2 ⟨rfl, hb2⟩)
        go_ret
        exact HNO.out _ (bl_then HB1 (Nat.le_refl _) hb2)
      | true =>
        rw [h1] at hpm
        have HPM := Lib.hid hpm
        have hmo := fun W => may_any x.mode W
        by_cases h2 : 0 ≤ x.mode ∧ x.mode < 7
        · have hmb : mayB x.mode = true := by unfold mayB; simp; omega
          rw [hmb] at hmo
          have HMO := Lib.hid hmo
          by_cases h3 : x.mode = 0
          · have hno : ¬ RightL L := fun hr => by have := (hr.1 x hmem).2.1; omega
            have HNO := Lib.hid (HRN.out hno)
            have h3b : (x.mode == 0) = true := by rw [h3]; rfl
            have HB5 := hbx
            clear hno hpm h1 hmem hx har hl hOx hmo hmb h2 h3
            go_wp2_with (first
              | (go_at_call 74; refine (HPM.out _).mono ?_; rintro e w2 ⟨rfl, hb2⟩; have hbx2 := hbx.below hb2; have e5 := hbx2.cell 5; clear q0 q1 q2 q3 q4)
              | (go_at_call 65; refine (HMO.out _).mono ?_; rintro e _ ⟨rfl, rfl⟩))
            go_ret
            exact HNO.out _ (bl_then HB1 (Nat.le_refl _) hb2)
          · have h3b : (x.mode == 0) = false := beq_eq_false_iff_ne.2 h3
            have hix := fun W (hbb : Below w.heap.size w W) => nfind_any (some ⟨b, off, none⟩) len cap L (pathOf x) W (hl.below hbb) hn
            rw [har] at hix
            have hhit : ∃ (j : Nat) (y : Lk), idxB (isAt (pathOf x)) L = (j : Int) ∧ L[j]? = some y ∧ pathOf y = pathOf x ∧ ∀ z ∈ L.take j, pathOf z ≠ pathOf x := by
              rcases idxB_spec (isAt (pathOf x)) L with ⟨_, hm⟩ | ⟨j, y, e1, e2, e3, e4⟩
              · have := hm x hmem
                rw [show isAt (pathOf x) x = true from decide_eq_true rfl] at this; cases this
              · exact ⟨j, y, e1, e2, of_decide_eq_true e3, fun z hz => of_decide_eq_false (e4 z hz)⟩
            obtain ⟨j, y, hj1, hj2, hj3, hj4⟩ := hhit
            rw [hj1] at hix
            have HIX := Lib.hid hix
            by_cases hjk : j = k
            · subst hjk
              have hjb : ((j : Int) != (j : Int)) = false := by simp
              have HJ4 := Lib.hid hj4
              have HMEM := Lib.hid hmem
              have H1 := Lib.hid h1
              have H2 := Lib.hid h2
              have H3 := Lib.hid h3
              have hbw := hl.below HB1
              have HLW := Lib.hid hl
              by_cases hd : x.dep = 1
              · have hup := fun W => pup_no (pathOf x) h1 hd W
                rw [har] at hup
                have HUP := Lib.hid hup
                have hok : okLock L x := ⟨h1, by omega, by omega, fun hh => by omega⟩
                have HOK := Lib.hid hok
                clear hpm h1 hmem hx har hl hOx hmo hmb h2 h3 hix hj1 hj2 hj3 hj4 hup hok hd hbw
                go_wp2_with (first
                  | (go_at_call 74; refine (HPM.out _).mono ?_; rintro e w2 ⟨rfl, hb2⟩; have hbx2 := hbx.below hb2; have HB2 := bl_then HB1 (Nat.le_refl _) hb2; have e0 := hbx2.cell 0; have e1 := hbx2.cell 1; have e2 := hbx2.cell 2; have e3 := hbx2.cell 3; have e4 := hbx2.cell 4; have e5 := hbx2.cell 5; clear q0 q1 q2 q3 q4)
                  | (go_at_call 65; refine (HMO.out _).mono ?_; rintro e _ ⟨rfl, rfl⟩)
                  | (go_at_call 82; refine (HIX.out _ HB2).mono ?_; rintro e w3 ⟨rfl, hb3⟩; have hbx3 := hbx2.below hb3; have HB3 := bl_then HB2 (Nat.le_refl _) hb3; clear e0 e1 e2 e3 e4 e5; have e0 := hbx3.cell 0; have e1 := hbx3.cell 1; have e2 := hbx3.cell 2; have e3 := hbx3.cell 3; have e4 := hbx3.cell 4)
                  | (go_at_call 95; refine (HUP.out _).mono ?_; rintro e w4 ⟨rfl, hb4⟩; have HB4 := bl_then HB3 (Nat.le_refl _) hb4))
                have HB5 := bl_then HB4 (Nat.le_refl _) ((Below.refl _ _).alloc (Nat.le_refl _) (.cells #[.int .i64 0, .int .i64 0, .int .i64 0, .int .i64 0, .int .i64 0] 51))
                generalize w4.alloc (.cells #[.int .i64 0, .int .i64 0, .int .i64 0, .int .i64 0, .int .i64 0] 51) = w5 at HB5 ⊢
                clear e0 e1 e2 e3 e4 hbx hbx2 hbx3 d0 d1 d2 d3 d4 d5
                refine wp_region_quiet_below (by kernel_rfl) (by kernel_rfl) ?_
                repeat (go_big_quiet_step (fail))
                refine wpQuiet_nil ?_
                intro _ hw'
                obtain ⟨⟨dq, osq⟩, hw''⟩ := hw'
                subst hw''
                go_wp2
                go_roundw
                case rel =>
                  refine ⟨j + 1, by omega, by go_num, Lib.hid (fun i z hi hz => ?_), bl_then HB5 (Nat.le_refl _) (below_regrown _ _ _)⟩
                  by_cases e : i = j
                  · subst e
                    have := HX.out
                    rw [hz] at this
                    obtain rfl := Option.some.inj this
                    exact ⟨HOK.out, HJ4.out⟩
                  · exact HA.out i z (by omega) hz
                case measure => simp [intOf]; omega
              · have hle : 2 ≤ x.dep := by
                  obtain ⟨D, hD, hD1, _⟩ := mayP_dep _ h1
                  have : x.dep = (D : Int) := hD
                  omega
                have hup := fun W => pup_yes (pathOf x) h1 hle W
                rw [har] at hup
                have hofs := fun W (hbb : Below w.heap.size w W) => nof_any (some ⟨b, off, none⟩) len cap L (upOf (pathOf x)) W (hl.below hbb) hn
                have hcvs := fun W => covers_any (needOf L (upOf (pathOf x))) (parT x.mode) W
                cases hcv : covT (needOf L (upOf (pathOf x))) (parT x.mode) with
                | true =>
                  rw [hcv] at hcvs
                  have HCV := Lib.hid hcvs
                  clear hcvs
                  have hok : okLock L x := ⟨h1, by omega, by omega, fun _ => hcv⟩
                  have HOK := Lib.hid hok
                  generalize needOf L (upOf (pathOf x)) = ho at hofs HCV
                  generalize upOf (pathOf x) = up at hup hofs
                  obtain ⟨y0, y1, y2, y3, y4⟩ := up
                  have HUP := Lib.hid hup
                  have HOF := Lib.hid hofs
                  clear hpm h1 hmem hx har hl hOx hmo hmb h2 h3 hix hj1 hj2 hj3 hj4 hup hok hd hbw hle hofs
                  go_wp2_with (first
                    | (go_at_call 74; refine (HPM.out _).mono ?_; rintro e w2 ⟨rfl, hb2⟩; have hbx2 := hbx.below hb2; have HB2 := bl_then HB1 (Nat.le_refl _) hb2; have e0 := hbx2.cell 0; have e1 := hbx2.cell 1; have e2 := hbx2.cell 2; have e3 := hbx2.cell 3; have e4 := hbx2.cell 4; have e5 := hbx2.cell 5; clear q0 q1 q2 q3 q4)
                    | (go_at_call 65; refine (HMO.out _).mono ?_; rintro e _ ⟨rfl, rfl⟩)
                    | (go_at_call 82; refine (HIX.out _ HB2).mono ?_; rintro e w3 ⟨rfl, hb3⟩; have hbx3 := hbx2.below hb3; have HB3 := bl_then HB2 (Nat.le_refl _) hb3; clear e0 e1 e2 e3 e4 e5; have e0 := hbx3.cell 0; have e1 := hbx3.cell 1; have e2 := hbx3.cell 2; have e3 := hbx3.cell 3; have e4 := hbx3.cell 4)
                    | (go_at_call 95; refine (HUP.out _).mono ?_; rintro e w4 ⟨rfl, hb4⟩; have HB4 := bl_then HB3 (Nat.le_refl _) hb4))
                  have HB5 := bl_then HB4 (Nat.le_refl _) ((Below.refl _ _).alloc (Nat.le_refl _) (.cells #[.int .i64 y0, .int .i64 y1, .int .i64 y2, .int .i64 y3, .int .i64 y4] 51))
                  have hbx5 := (hbx3.below hb4).below ((Below.refl _ _).alloc (Nat.le_refl _) (.cells #[.int .i64 y0, .int .i64 y1, .int .i64 y2, .int .i64 y3, .int .i64 y4] 51))
                  have hby := Bk.new w4 51 #[.int .i64 y0, .int .i64 y1, .int .i64 y2, .int .i64 y3, .int .i64 y4]
                  clear e0 e1 e2 e3 e4 hbx hbx2 hbx3 d0 d1 d2 d3 d4 d5
                  generalize wr.heap.size = Bz at hbx5 ⊢
                  generalize w4.heap.size = By at hby ⊢
                  generalize w4.alloc (.cells #[.int .i64 y0, .int .i64 y1, .int .i64 y2, .int .i64 y3, .int .i64 y4] 51) = w5 at HB5 hbx5 hby ⊢
                  have hof := fun dq osq => HOF.out (grow (redrawn w5 dq) osq) (bl_then HB5 (Nat.le_refl _) (below_regrown _ _ _))
                  have HO2 := Lib.hid hof
                  have m5 := fun dq osq => cell_regrown (v := .int .i64 x.mode) (hbx5.cell 5) dq osq
                  have y0' := fun dq osq => cell_regrown (v := .int .i64 y0) (hby.cell 0) dq osq
                  have y1' := fun dq osq => cell_regrown (v := .int .i64 y1) (hby.cell 1) dq osq
                  have y2' := fun dq osq => cell_regrown (v := .int .i64 y2) (hby.cell 2) dq osq
                  have y3' := fun dq osq => cell_regrown (v := .int .i64 y3) (hby.cell 3) dq osq
                  have y4' := fun dq osq => cell_regrown (v := .int .i64 y4) (hby.cell 4) dq osq
                  clear hof hby hbx5
                  refine wp_region_quiet_below (by kernel_rfl) (by kernel_rfl) ?_
                  repeat (go_big_quiet_step (first
                    | (go_at_call 35; exact Calls.regrown_of (HO2.out _ _))
                    | (go_at_call 76; exact Calls.regrown_of ((parent_any _ _).mono fun _ _ h => ⟨h.1, by rw [← h.2]; exact Below.refl _ _⟩))
                    | (go_at_call 79; exact Calls.regrown_of (HCV.out _))))
                  refine wpQuiet_nil ?_
                  intro _ hw'
                  obtain ⟨⟨dq, osq⟩, hw''⟩ := hw'
                  subst hw''
                  go_wp2
                  go_roundw
                  case rel =>
                    refine ⟨j + 1, by omega, by go_num, Lib.hid (fun i z hi hz => ?_), bl_then HB5 (Nat.le_refl _) (below_regrown _ _ _)⟩
                    by_cases e : i = j
                    · subst e
                      have := HX.out
                      rw [hz] at this
                      obtain rfl := Option.some.inj this
                      exact ⟨HOK.out, HJ4.out⟩
                    · exact HA.out i z (by omega) hz
                  case measure => simp [intOf]; omega
                | false =>
                  rw [hcv] at hcvs
                  have HCV := Lib.hid hcvs
                  clear hcvs
                  have hno : ¬ RightL L := fun hr => by have := (hr.1 x hmem).2.2.2 (by omega); rw [hcv] at this; cases this
                  have HNO := Lib.hid (HRN.out hno)
                  generalize needOf L (upOf (pathOf x)) = ho at hofs HCV
                  generalize upOf (pathOf x) = up at hup hofs
                  obtain ⟨y0, y1, y2, y3, y4⟩ := up
                  have HUP := Lib.hid hup
                  have HOF := Lib.hid hofs
                  clear hpm h1 hmem hx har hl hOx hmo hmb h2 h3 hix hj1 hj2 hj3 hj4 hup hno hd hbw hle hofs
                  go_wp2_with (first
                    | (go_at_call 74; refine (HPM.out _).mono ?_; rintro e w2 ⟨rfl, hb2⟩; have hbx2 := hbx.below hb2; have HB2 := bl_then HB1 (Nat.le_refl _) hb2; have e0 := hbx2.cell 0; have e1 := hbx2.cell 1; have e2 := hbx2.cell 2; have e3 := hbx2.cell 3; have e4 := hbx2.cell 4; have e5 := hbx2.cell 5; clear q0 q1 q2 q3 q4)
                    | (go_at_call 65; refine (HMO.out _).mono ?_; rintro e _ ⟨rfl, rfl⟩)
                    | (go_at_call 82; refine (HIX.out _ HB2).mono ?_; rintro e w3 ⟨rfl, hb3⟩; have hbx3 := hbx2.below hb3; have HB3 := bl_then HB2 (Nat.le_refl _) hb3; clear e0 e1 e2 e3 e4 e5; have e0 := hbx3.cell 0; have e1 := hbx3.cell 1; have e2 := hbx3.cell 2; have e3 := hbx3.cell 3; have e4 := hbx3.cell 4)
                    | (go_at_call 95; refine (HUP.out _).mono ?_; rintro e w4 ⟨rfl, hb4⟩; have HB4 := bl_then HB3 (Nat.le_refl _) hb4))
                  have HB5 := bl_then HB4 (Nat.le_refl _) ((Below.refl _ _).alloc (Nat.le_refl _) (.cells #[.int .i64 y0, .int .i64 y1, .int .i64 y2, .int .i64 y3, .int .i64 y4] 51))
                  have hbx5 := (hbx3.below hb4).below ((Below.refl _ _).alloc (Nat.le_refl _) (.cells #[.int .i64 y0, .int .i64 y1, .int .i64 y2, .int .i64 y3, .int .i64 y4] 51))
                  have hby := Bk.new w4 51 #[.int .i64 y0, .int .i64 y1, .int .i64 y2, .int .i64 y3, .int .i64 y4]
                  clear e0 e1 e2 e3 e4 hbx hbx2 hbx3 d0 d1 d2 d3 d4 d5
                  generalize wr.heap.size = Bz at hbx5 ⊢
                  generalize w4.heap.size = By at hby ⊢
                  generalize w4.alloc (.cells #[.int .i64 y0, .int .i64 y1, .int .i64 y2, .int .i64 y3, .int .i64 y4] 51) = w5 at HB5 hbx5 hby ⊢
                  have hof := fun dq osq => HOF.out (grow (redrawn w5 dq) osq) (bl_then HB5 (Nat.le_refl _) (below_regrown _ _ _))
                  have HO2 := Lib.hid hof
                  have m5 := fun dq osq => cell_regrown (v := .int .i64 x.mode) (hbx5.cell 5) dq osq
                  have y0' := fun dq osq => cell_regrown (v := .int .i64 y0) (hby.cell 0) dq osq
                  have y1' := fun dq osq => cell_regrown (v := .int .i64 y1) (hby.cell 1) dq osq
                  have y2' := fun dq osq => cell_regrown (v := .int .i64 y2) (hby.cell 2) dq osq
                  have y3' := fun dq osq => cell_regrown (v := .int .i64 y3) (hby.cell 3) dq osq
                  have y4' := fun dq osq => cell_regrown (v := .int .i64 y4) (hby.cell 4) dq osq
                  clear hof hby hbx5
                  refine wp_region_quiet_below (by kernel_rfl) (by kernel_rfl) ?_
                  repeat (go_big_quiet_step (first
                    | (go_at_call 35; exact Calls.regrown_of (HO2.out _ _))
                    | (go_at_call 76; exact Calls.regrown_of ((parent_any _ _).mono fun _ _ h => ⟨h.1, by rw [← h.2]; exact Below.refl _ _⟩))
                    | (go_at_call 79; exact Calls.regrown_of (HCV.out _))))
                  refine wpQuiet_nil ?_
                  intro _ hw'
                  obtain ⟨⟨dq, osq⟩, hw''⟩ := hw'
                  subst hw''
                  go_wp2
                  go_ret
                  exact HNO.out _ (bl_then HB5 (Nat.le_refl _) (below_regrown _ _ _))
            · have hno := right_dup L j k y x hj2 hx hjk hj3
              have HNO := Lib.hid (HRN.out hno)
              have hjb : ((j : Int) != (k : Int)) = true := by rw [bne_iff_ne]; omega
              clear hno hpm h1 hmem hx har hl hOx hmo hmb h2 h3 hix hj1 hj2 hj3 hj4 hjk
              go_wp2_with (first
                | (go_at_call 74; refine (HPM.out _).mono ?_; rintro e w2 ⟨rfl, hb2⟩; have hbx2 := hbx.below hb2; have HB2 := bl_then HB1 (Nat.le_refl _) hb2; have e0 := hbx2.cell 0; have e1 := hbx2.cell 1; have e2 := hbx2.cell 2; have e3 := hbx2.cell 3; have e4 := hbx2.cell 4; have e5 := hbx2.cell 5; clear q0 q1 q2 q3 q4)
                | (go_at_call 65; refine (HMO.out _).mono ?_; rintro e _ ⟨rfl, rfl⟩)
                | (go_at_call 82; refine (HIX.out _ HB2).mono ?_; rintro e w3 ⟨rfl, hb3⟩))
              go_ret
              exact HNO.out _ (bl_then HB2 (Nat.le_refl _) hb3)
        · have hmb : mayB x.mode = false := by unfold mayB; simp; omega
          rw [hmb] at hmo
          have HMO := Lib.hid hmo
          have hno : ¬ RightL L := fun hr => by have := (hr.1 x hmem); have h1' := this.2.1; have h2' := this.2.2.1; omega
          have HNO := Lib.hid (HRN.out hno)
          clear hno hpm h1 hmem hx har hl hOx hmo hmb h2
          go_wp2_with (first
            | (go_at_call 74; refine (HPM.out _).mono ?_; rintro e w2 ⟨rfl, hb2⟩; have hbx2 := hbx.below hb2; have e5 := hbx2.cell 5; clear q0 q1 q2 q3 q4)
            | (go_at_call 65; refine (HMO.out _).mono ?_; rintro e _ ⟨rfl, rfl⟩))
          go_ret
          exact HNO.out _ (bl_then HB1 (Nat.le_refl _) hb2)
    · obtain rfl : k = len := by omega
      have hyes := HRY.out (right_of L (fun i x hx => HA.out i x (by have := (List.getElem?_eq_some_iff.1 hx).1; rw [HLL.out] at this; exact this) hx))
      have HY := Lib.hid hyes
      clear hyes hl
      go_wp2
      go_ret
      exact HY.out _ HB
end Go.Proofs.Ythkjkmjcnphjgaa
