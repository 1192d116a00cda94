/- PathTree: its walk. Condition: the library's table of powers of ten reads as the program lays it. -/
import Derived.Test.YtlbjlopljlblpaaDoorPthW
set_option linter.unusedVariables false
set_option linter.unusedSimpArgs false
namespace Go.Proofs.YtlbjlopljlblpaaDoor
open Go.RowKit (wrap32 wrap64)
open Go.RowKit Go.Shelf
open Go.Sort (grow)
theorem three_box (p q r : Pt) (w : World) : Below w.heap.size w (((w.alloc (.cells (ptA p) 24)).alloc (.cells (ptA q) 24)).alloc (.cells (ptA r) 24)) ∧ Bk (((w.alloc (.cells (ptA p) 24)).alloc (.cells (ptA q) 24)).alloc (.cells (ptA r) 24)) w.heap.size 24 (ptA p) ∧ Bk (((w.alloc (.cells (ptA p) 24)).alloc (.cells (ptA q) 24)).alloc (.cells (ptA r) 24)) (w.heap.size + 1) 24 (ptA q) ∧ Bk (((w.alloc (.cells (ptA p) 24)).alloc (.cells (ptA q) 24)).alloc (.cells (ptA r) 24)) (w.heap.size + 1 + 1) 24 (ptA r) := by
  obtain ⟨h1, h2, h3⟩ := two_box p q w
  have ha : Below ((w.alloc (.cells (ptA p) 24)).alloc (.cells (ptA q) 24)).heap.size _ _ := (Below.refl _ ((w.alloc (.cells (ptA p) 24)).alloc (.cells (ptA q) 24))).alloc (Nat.le_refl _) (.cells (ptA r) 24)
  refine ⟨bl_then h1 (Nat.le_refl _) ha, h2.below ha, h3.below ha, ?_⟩
  have := Bk.new ((w.alloc (.cells (ptA p) 24)).alloc (.cells (ptA q) 24)) 24 (ptA r)
  rw [World.size_alloc, World.size_alloc] at this
  exact this
set_option maxRecDepth 100000 in
set_option maxHeartbeats 4000000 in
theorem pathTree_walk (p q r : Pt) (w : World) (ht : Tab10 w) : Calls Tryd.prog 5 #[.agg (ptA p), .agg (ptA q), .agg (ptA r)] w fun e w' => e = .returned (.bool true) ∧ Below w.heap.size w w' := by
  obtain ⟨hO, hP, hQ, hR⟩ := three_box p q r w
  have ht0 := tab_below ht _ hO
  generalize hw0 : ((w.alloc (.cells (ptA p) 24)).alloc (.cells (ptA q) 24)).alloc (.cells (ptA r) 24) = w0 at hO hP hQ hR ht0
  have haw := pawake_any w0 ht0
  obtain ⟨a0, a1, a2, a3, a4⟩ := pt_cells hP
  obtain ⟨b0, b1, b2, b3, b4⟩ := pt_cells hQ
  obtain ⟨c0, c1, c2, c3, c4⟩ := pt_cells hR
  have HO := Lib.hid hO
  have HAW := Lib.hid haw
  have HW0 := Lib.hid hw0
  have hneq := neqPt p q
  have heql := eqlPt p q
  have hgd := gdPt
  clear hO hP hQ hR ht ht0 haw hw0
  go_enter Tryd.func5, Tryd.ntmps5
  go_wp2_with fail
  rw [HW0.out]
  refine (HAW.out).mono ?_
  rintro e w1 ⟨rfl, hb⟩
  obtain ⟨d', os', hw'⟩ := rg_start hb
  subst hw'
  clear hb HW0 HAW
  cases hp : mayP p with
  | false =>
    have h1 : withinP p q = false := by cases h : withinP p q with
      | false => rfl
      | true => have := (within_may h).1; rw [hp] at this; cases this
    go_wp2_with (first
      | (go_at_call 9; refine (may_val (by assumption) _).mono ?_; rintro e w' ⟨rfl, hb⟩; obtain ⟨d', os', hw'⟩ := rg_next hb; subst hw'; clear hb)
      | (go_at_call 18; refine (within_val (by assumption) _).mono ?_; rintro e w' ⟨rfl, hb⟩; obtain ⟨d', os', hw'⟩ := rg_next hb; subst hw'; clear hb)
      | (go_at_call 19; refine (less_val (by assumption) _).mono ?_; rintro e w' ⟨rfl, hb⟩; obtain ⟨d', os', hw'⟩ := rg_next hb; subst hw'; clear hb))
    go_ret
    exact ⟨rfl, bl_then HO.out (Nat.le_refl _) (below_regrown _ _ _)⟩
  | true =>
  cases hq : mayP q with
  | false =>
    have h1 : withinP p q = false := by cases h : withinP p q with
      | false => rfl
      | true => have := (within_may h).2; rw [hq] at this; cases this
    go_wp2_with (first
      | (go_at_call 9; refine (may_val (by assumption) _).mono ?_; rintro e w' ⟨rfl, hb⟩; obtain ⟨d', os', hw'⟩ := rg_next hb; subst hw'; clear hb)
      | (go_at_call 18; refine (within_val (by assumption) _).mono ?_; rintro e w' ⟨rfl, hb⟩; obtain ⟨d', os', hw'⟩ := rg_next hb; subst hw'; clear hb)
      | (go_at_call 19; refine (less_val (by assumption) _).mono ?_; rintro e w' ⟨rfl, hb⟩; obtain ⟨d', os', hw'⟩ := rg_next hb; subst hw'; clear hb))
    go_ret
    exact ⟨rfl, bl_then HO.out (Nat.le_refl _) (below_regrown _ _ _)⟩
  | true =>
  cases hr : mayP r with
  | false =>
    cases h1 : withinP p q with
    | false =>
      go_wp2_with (first
        | (go_at_call 9; refine (may_val (by assumption) _).mono ?_; rintro e w' ⟨rfl, hb⟩; obtain ⟨d', os', hw'⟩ := rg_next hb; subst hw'; clear hb)
        | (go_at_call 18; refine (within_val (by assumption) _).mono ?_; rintro e w' ⟨rfl, hb⟩; obtain ⟨d', os', hw'⟩ := rg_next hb; subst hw'; clear hb)
        | (go_at_call 19; refine (less_val (by assumption) _).mono ?_; rintro e w' ⟨rfl, hb⟩; obtain ⟨d', os', hw'⟩ := rg_next hb; subst hw'; clear hb))
      go_ret
      exact ⟨rfl, bl_then HO.out (Nat.le_refl _) (below_regrown _ _ _)⟩
    | true =>
      go_wp2_with (first
        | (go_at_call 9; refine (may_val (by assumption) _).mono ?_; rintro e w' ⟨rfl, hb⟩; obtain ⟨d', os', hw'⟩ := rg_next hb; subst hw'; clear hb)
        | (go_at_call 18; refine (within_val (by assumption) _).mono ?_; rintro e w' ⟨rfl, hb⟩; obtain ⟨d', os', hw'⟩ := rg_next hb; subst hw'; clear hb)
        | (go_at_call 19; refine (less_val (by assumption) _).mono ?_; rintro e w' ⟨rfl, hb⟩; obtain ⟨d', os', hw'⟩ := rg_next hb; subst hw'; clear hb))
      go_ret
      exact ⟨rfl, bl_then HO.out (Nat.le_refl _) (below_regrown _ _ _)⟩
  | true =>
  go_upto_region 5 with (first
    | (go_at_call 9; refine (may_val (by assumption) _).mono ?_; rintro e w' ⟨rfl, hb⟩; obtain ⟨d', os', hw'⟩ := rg_next hb; subst hw'; clear hb)
    | (go_at_call 18; refine (within_val (by assumption) _).mono ?_; rintro e w' ⟨rfl, hb⟩; obtain ⟨d', os', hw'⟩ := rg_next hb; subst hw'; clear hb)
    | (go_at_call 19; refine (less_val (by assumption) _).mono ?_; rintro e w' ⟨rfl, hb⟩; obtain ⟨d', os', hw'⟩ := rg_next hb; subst hw'; clear hb))
  go_cut [62] from 34 to 62 (fun s62 wx => s62 = .bool false ∧ ∃ d os, wx = rg w0 d os)
  case first =>
    cases ha : withinP p q with
    | false =>
      go_wp2_with (first
        | (go_at_call 9; refine (may_val (by assumption) _).mono ?_; rintro e w' ⟨rfl, hb⟩; obtain ⟨d', os', hw'⟩ := rg_next hb; subst hw'; clear hb)
        | (go_at_call 18; refine (within_val (by assumption) _).mono ?_; rintro e w' ⟨rfl, hb⟩; obtain ⟨d', os', hw'⟩ := rg_next hb; subst hw'; clear hb)
        | (go_at_call 19; refine (less_val (by assumption) _).mono ?_; rintro e w' ⟨rfl, hb⟩; obtain ⟨d', os', hw'⟩ := rg_next hb; subst hw'; clear hb))
      go_meet
      case rel => exact ⟨rfl, _, _, rfl⟩
    | true =>
      cases hd : withinP q p with
      | true =>
        obtain rfl := within_anti ha hd
        rw [decide_eq_true rfl] at hneq
        cases hc : withinP p r with
        | true =>
          go_wp2_with (first
            | (go_at_call 9; refine (may_val (by assumption) _).mono ?_; rintro e w' ⟨rfl, hb⟩; obtain ⟨d', os', hw'⟩ := rg_next hb; subst hw'; clear hb)
            | (go_at_call 18; refine (within_val (by assumption) _).mono ?_; rintro e w' ⟨rfl, hb⟩; obtain ⟨d', os', hw'⟩ := rg_next hb; subst hw'; clear hb)
            | (go_at_call 19; refine (less_val (by assumption) _).mono ?_; rintro e w' ⟨rfl, hb⟩; obtain ⟨d', os', hw'⟩ := rg_next hb; subst hw'; clear hb))
          go_meet
          case rel => exact ⟨rfl, _, _, rfl⟩
        | false =>
          go_wp2_with (first
            | (go_at_call 9; refine (may_val (by assumption) _).mono ?_; rintro e w' ⟨rfl, hb⟩; obtain ⟨d', os', hw'⟩ := rg_next hb; subst hw'; clear hb)
            | (go_at_call 18; refine (within_val (by assumption) _).mono ?_; rintro e w' ⟨rfl, hb⟩; obtain ⟨d', os', hw'⟩ := rg_next hb; subst hw'; clear hb)
            | (go_at_call 19; refine (less_val (by assumption) _).mono ?_; rintro e w' ⟨rfl, hb⟩; obtain ⟨d', os', hw'⟩ := rg_next hb; subst hw'; clear hb))
          go_meet
          case rel => exact ⟨rfl, _, _, rfl⟩
      | false =>
        cases hb : withinP q r with
        | false =>
          go_wp2_with (first
            | (go_at_call 9; refine (may_val (by assumption) _).mono ?_; rintro e w' ⟨rfl, hb⟩; obtain ⟨d', os', hw'⟩ := rg_next hb; subst hw'; clear hb)
            | (go_at_call 18; refine (within_val (by assumption) _).mono ?_; rintro e w' ⟨rfl, hb⟩; obtain ⟨d', os', hw'⟩ := rg_next hb; subst hw'; clear hb)
            | (go_at_call 19; refine (less_val (by assumption) _).mono ?_; rintro e w' ⟨rfl, hb⟩; obtain ⟨d', os', hw'⟩ := rg_next hb; subst hw'; clear hb))
          go_meet
          case rel => exact ⟨rfl, _, _, rfl⟩
        | true =>
          have hc := within_trans ha hb
          go_wp2_with (first
            | (go_at_call 9; refine (may_val (by assumption) _).mono ?_; rintro e w' ⟨rfl, hb⟩; obtain ⟨d', os', hw'⟩ := rg_next hb; subst hw'; clear hb)
            | (go_at_call 18; refine (within_val (by assumption) _).mono ?_; rintro e w' ⟨rfl, hb⟩; obtain ⟨d', os', hw'⟩ := rg_next hb; subst hw'; clear hb)
            | (go_at_call 19; refine (less_val (by assumption) _).mono ?_; rintro e w' ⟨rfl, hb⟩; obtain ⟨d', os', hw'⟩ := rg_next hb; subst hw'; clear hb))
          go_meet
          case rel => exact ⟨rfl, _, _, rfl⟩
  case rest =>
  obtain ⟨rfl, d2, os2, rfl⟩ := hcut
  go_upto_region 7 with fail
  go_cut [82] from 63 to 82 (fun s82 wx => s82 = .bool false ∧ ∃ d os, wx = rg w0 d os)
  case first =>
    cases he : withinP r p with
    | false =>
      go_wp2_with (first
        | (go_at_call 9; refine (may_val (by assumption) _).mono ?_; rintro e w' ⟨rfl, hb⟩; obtain ⟨d', os', hw'⟩ := rg_next hb; subst hw'; clear hb)
        | (go_at_call 18; refine (within_val (by assumption) _).mono ?_; rintro e w' ⟨rfl, hb⟩; obtain ⟨d', os', hw'⟩ := rg_next hb; subst hw'; clear hb)
        | (go_at_call 19; refine (less_val (by assumption) _).mono ?_; rintro e w' ⟨rfl, hb⟩; obtain ⟨d', os', hw'⟩ := rg_next hb; subst hw'; clear hb))
      go_meet
      case rel => exact ⟨rfl, _, _, rfl⟩
    | true =>
      cases hf : withinP r q with
      | false =>
        go_wp2_with (first
          | (go_at_call 9; refine (may_val (by assumption) _).mono ?_; rintro e w' ⟨rfl, hb⟩; obtain ⟨d', os', hw'⟩ := rg_next hb; subst hw'; clear hb)
          | (go_at_call 18; refine (within_val (by assumption) _).mono ?_; rintro e w' ⟨rfl, hb⟩; obtain ⟨d', os', hw'⟩ := rg_next hb; subst hw'; clear hb)
          | (go_at_call 19; refine (less_val (by assumption) _).mono ?_; rintro e w' ⟨rfl, hb⟩; obtain ⟨d', os', hw'⟩ := rg_next hb; subst hw'; clear hb))
        go_meet
        case rel => exact ⟨rfl, _, _, rfl⟩
      | true =>
        cases ha : withinP p q with
        | true =>
          go_wp2_with (first
            | (go_at_call 9; refine (may_val (by assumption) _).mono ?_; rintro e w' ⟨rfl, hb⟩; obtain ⟨d', os', hw'⟩ := rg_next hb; subst hw'; clear hb)
            | (go_at_call 18; refine (within_val (by assumption) _).mono ?_; rintro e w' ⟨rfl, hb⟩; obtain ⟨d', os', hw'⟩ := rg_next hb; subst hw'; clear hb)
            | (go_at_call 19; refine (less_val (by assumption) _).mono ?_; rintro e w' ⟨rfl, hb⟩; obtain ⟨d', os', hw'⟩ := rg_next hb; subst hw'; clear hb))
          go_meet
          case rel => exact ⟨rfl, _, _, rfl⟩
        | false =>
          have hd := within_lin he hf ha
          go_wp2_with (first
            | (go_at_call 9; refine (may_val (by assumption) _).mono ?_; rintro e w' ⟨rfl, hb⟩; obtain ⟨d', os', hw'⟩ := rg_next hb; subst hw'; clear hb)
            | (go_at_call 18; refine (within_val (by assumption) _).mono ?_; rintro e w' ⟨rfl, hb⟩; obtain ⟨d', os', hw'⟩ := rg_next hb; subst hw'; clear hb)
            | (go_at_call 19; refine (less_val (by assumption) _).mono ?_; rintro e w' ⟨rfl, hb⟩; obtain ⟨d', os', hw'⟩ := rg_next hb; subst hw'; clear hb))
          go_meet
          case rel => exact ⟨rfl, _, _, rfl⟩
  case rest =>
  obtain ⟨rfl, d3, os3, rfl⟩ := hcut
  go_upto_region 9 with fail
  go_cut [96] from 83 to 96 (fun s96 wx => s96 = .bool false ∧ ∃ d os, wx = rg w0 d os)
  case first =>
    cases hg : lessP p q with
    | false =>
      go_wp2_with (first
        | (go_at_call 9; refine (may_val (by assumption) _).mono ?_; rintro e w' ⟨rfl, hb⟩; obtain ⟨d', os', hw'⟩ := rg_next hb; subst hw'; clear hb)
        | (go_at_call 18; refine (within_val (by assumption) _).mono ?_; rintro e w' ⟨rfl, hb⟩; obtain ⟨d', os', hw'⟩ := rg_next hb; subst hw'; clear hb)
        | (go_at_call 19; refine (less_val (by assumption) _).mono ?_; rintro e w' ⟨rfl, hb⟩; obtain ⟨d', os', hw'⟩ := rg_next hb; subst hw'; clear hb))
      go_meet
      case rel => exact ⟨rfl, _, _, rfl⟩
    | true =>
      cases hh : lessP q r with
      | false =>
        go_wp2_with (first
          | (go_at_call 9; refine (may_val (by assumption) _).mono ?_; rintro e w' ⟨rfl, hb⟩; obtain ⟨d', os', hw'⟩ := rg_next hb; subst hw'; clear hb)
          | (go_at_call 18; refine (within_val (by assumption) _).mono ?_; rintro e w' ⟨rfl, hb⟩; obtain ⟨d', os', hw'⟩ := rg_next hb; subst hw'; clear hb)
          | (go_at_call 19; refine (less_val (by assumption) _).mono ?_; rintro e w' ⟨rfl, hb⟩; obtain ⟨d', os', hw'⟩ := rg_next hb; subst hw'; clear hb))
        go_meet
        case rel => exact ⟨rfl, _, _, rfl⟩
      | true =>
        have hi := less_trans hg hh
        go_wp2_with (first
          | (go_at_call 9; refine (may_val (by assumption) _).mono ?_; rintro e w' ⟨rfl, hb⟩; obtain ⟨d', os', hw'⟩ := rg_next hb; subst hw'; clear hb)
          | (go_at_call 18; refine (within_val (by assumption) _).mono ?_; rintro e w' ⟨rfl, hb⟩; obtain ⟨d', os', hw'⟩ := rg_next hb; subst hw'; clear hb)
          | (go_at_call 19; refine (less_val (by assumption) _).mono ?_; rintro e w' ⟨rfl, hb⟩; obtain ⟨d', os', hw'⟩ := rg_next hb; subst hw'; clear hb))
        go_meet
        case rel => exact ⟨rfl, _, _, rfl⟩
  case rest =>
  obtain ⟨rfl, d4, os4, rfl⟩ := hcut
  have hpp := within_refl hp
  have hlp := less_irrefl p
  by_cases hpq : p = q
  · subst hpq
    rw [decide_eq_true rfl] at heql
    go_wp2_with fail
    refine wp_region_quiet_rg (by kernel_rfl) (by kernel_rfl) ?_
    repeat (go_big_quiet_step (first
      | (go_at_call 9; exact Calls.regrown_of (may_val (by assumption) _))
      | (go_at_call 18; exact Calls.regrown_of (within_val (by assumption) _))
      | (go_at_call 19; exact Calls.regrown_of (less_val (by assumption) _))
      | (go_at_call 10; exact Calls.regrown_of (key_val (by assumption) _))))
    refine wpQuiet_nil ?_
    intro _ hw'
    obtain ⟨⟨dq, osq⟩, hw''⟩ := hw'
    subst hw''
    go_wp2
    go_ret
    exact ⟨rfl, bl_then HO.out (Nat.le_refl _) (below_regrown _ _ _)⟩
  · rw [decide_eq_false hpq] at heql
    have htri0 := less_tri hp hq hpq
    cases hl : lessP p q with
    | true =>
      have htri : lessP q p = false := by rw [htri0, hl]; rfl
      clear htri0
      have ha : withinP p q = false := by cases h : withinP p q with
        | false => rfl
        | true => have := within_less h hpq; rw [htri] at this; cases this
      go_wp2_with fail
      refine wp_region_quiet_rg (by kernel_rfl) (by kernel_rfl) ?_
      repeat (go_big_quiet_step (first
        | (go_at_call 9; exact Calls.regrown_of (may_val (by assumption) _))
        | (go_at_call 18; exact Calls.regrown_of (within_val (by assumption) _))
        | (go_at_call 19; exact Calls.regrown_of (less_val (by assumption) _))
        | (go_at_call 10; exact Calls.regrown_of (key_val (by assumption) _))))
      refine wpQuiet_nil ?_
      intro _ hw'
      obtain ⟨⟨dq, osq⟩, hw''⟩ := hw'
      subst hw''
      go_wp2
      go_ret
      exact ⟨rfl, bl_then HO.out (Nat.le_refl _) (below_regrown _ _ _)⟩
    | false =>
      have htri : lessP q p = true := by rw [htri0, hl]; rfl
      clear htri0
      cases ha : withinP p q with
      | true =>
        go_wp2_with fail
        refine wp_region_quiet_rg (by kernel_rfl) (by kernel_rfl) ?_
        repeat (go_big_quiet_step (first
          | (go_at_call 9; exact Calls.regrown_of (may_val (by assumption) _))
          | (go_at_call 18; exact Calls.regrown_of (within_val (by assumption) _))
          | (go_at_call 19; exact Calls.regrown_of (less_val (by assumption) _))
          | (go_at_call 10; exact Calls.regrown_of (key_val (by assumption) _))))
        refine wpQuiet_nil ?_
        intro _ hw'
        obtain ⟨⟨dq, osq⟩, hw''⟩ := hw'
        subst hw''
        go_wp2
        go_ret
        exact ⟨rfl, bl_then HO.out (Nat.le_refl _) (below_regrown _ _ _)⟩
      | false =>
        go_wp2_with fail
        refine wp_region_quiet_rg (by kernel_rfl) (by kernel_rfl) ?_
        repeat (go_big_quiet_step (first
          | (go_at_call 9; exact Calls.regrown_of (may_val (by assumption) _))
          | (go_at_call 18; exact Calls.regrown_of (within_val (by assumption) _))
          | (go_at_call 19; exact Calls.regrown_of (less_val (by assumption) _))
          | (go_at_call 10; exact Calls.regrown_of (key_val (by assumption) _))))
        refine wpQuiet_nil ?_
        intro _ hw'
        obtain ⟨⟨dq, osq⟩, hw''⟩ := hw'
        subst hw''
        go_wp2
        go_ret
        exact ⟨rfl, bl_then HO.out (Nat.le_refl _) (below_regrown _ _ _)⟩
end Go.Proofs.YtlbjlopljlblpaaDoor
