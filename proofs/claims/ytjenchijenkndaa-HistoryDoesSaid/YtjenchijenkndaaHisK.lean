/- history: Same, by the program and by the reference; rows of events alike. No condition. -/
import Derived.Test.YtjenchijenkndaaHisC
import Derived.Test.YtjenchijenkndaaSamRw
import Derived.Test.YtjenchijenkndaaSamPt
import Derived.Test.YtjenchijenkndaaDeep
import Derived.Deep.RegionWith
set_option linter.unusedVariables false
set_option linter.unusedSimpArgs false
namespace Go.Proofs.Ytjenchijenkndaa
open Go.RowKit (wrap32 wrap64)
open Go.RowKit
set_option maxHeartbeats 1000000 in
theorem equalRw_any (a b : Option Addr) (n m cn cm : Nat) (xs ys : List Rw) (w : World) (ha : Rws w a n xs) (hb : Rws w b m ys) : Calls Try.prog 40 #[.slice a n cn, .slice b m cm] w fun e w' => e = .returned (.bool (decide (xs = ys))) ∧ Below w.heap.size w w' := by
  have hx := ha.len
  have hy := hb.len
  have hmx : n ≤ 9223372036854775807 := by have := ha.max; unfold maxLen at this; exact this
  by_cases hnm : n = m
  · subst hnm
    have HXL := Lib.hid hx
    have HYL := Lib.hid hy
    clear hx hy
    go_enter Try.func40, Try.ntmps40
    go_wp2
    go_loopw [13] (fun c wr => ∃ k : Nat, k ≤ n ∧ c = .int .i64 k ∧ Hid (xs.take k = ys.take k) ∧ Below w.heap.size w wr) (fun c _ => n - (intOf c).toNat)
    case atStart => exact ⟨0, by omega, rfl, Lib.hid rfl, Below.refl _ _⟩
    case round =>
      obtain ⟨k, hk, rfl, HEQ, HB⟩ := hrel
      by_cases hlt : k < n
      · obtain ⟨ba, oa, x, rfl, _, hx, _, d0, d1, d2, d3, d4, d5⟩ := Rw_at (ha.below HB) hlt
        obtain ⟨bb, ob, y, rfl, _, hy, _, e0, e1, e2, e3, e4, e5⟩ := Rw_at (hb.below HB) hlt
        have hq := neqRw x y
        have hg := gdRw
        by_cases he : x = y
        · subst he
          rw [decide_eq_true rfl] at hq
          have HE : Hid (xs.take (k + 1) = ys.take (k + 1)) := Lib.hid (by rw [take_snocG xs k x hx, take_snocG ys k x hy, HEQ.out])
          clear ha hb hx hy
          go_wp2
          go_quiet (fail)
          go_wp2
          go_roundw
          case rel => exact ⟨k + 1, by omega, by go_num, HE, by first | exact HB | exact ⟨HB.os, HB.tape, HB.output, HB.size, HB.block⟩⟩
          case measure => simp [intOf]; omega
        · rw [decide_eq_false he] at hq
          have hf : decide (xs = ys) = false := decide_eq_false (fun e => he (by rw [e] at hx; rw [hx] at hy; exact Option.some.inj hy))
          have HF := Lib.hid hf
          clear ha hb hx hy he hf
          go_wp2
          go_quiet (fail)
          go_wp2
          go_ret
          exact ⟨by rw [HF.out]; rfl, by first | exact HB | exact ⟨HB.os, HB.tape, HB.output, HB.size, HB.block⟩⟩
      · obtain rfl : k = n := by omega
        have hf : decide (xs = ys) = true := decide_eq_true (by have := HEQ.out; rw [List.take_of_length_le (by rw [HXL.out]; exact Nat.le_refl _), List.take_of_length_le (by rw [HYL.out]; exact Nat.le_refl _)] at this; exact this)
        have HF := Lib.hid hf
        clear hf ha hb
        go_wp2
        go_ret
        exact ⟨by rw [HF.out]; rfl, HB⟩
  · have hf : decide (xs = ys) = false := decide_eq_false (fun e => hnm (by rw [← hx, ← hy, e]))
    rw [hf]
    have hne : ((n : Int) != m) = true := by rw [bne_iff_ne]; omega
    clear hf ha hb hx hy
    go_enter Try.func40, Try.ntmps40
    go_wp2
    go_ret
    exact ⟨rfl, Below.refl _ _⟩

def sameE (x y : Ev) (l m : List Rw) : Bool := (x.kind == y.kind) && ((x.tx == y.tx) && (decide (evP x = evP y) && ((x.mode == y.mode) && ((x.val == y.val) && ((x.err == y.err) && decide (l = m))))))
theorem sameE_refl (x : Ev) (l : List Rw) : sameE x x l l = true := by unfold sameE; simp
set_option maxRecDepth 100000 in
set_option maxHeartbeats 8000000 in
theorem psame_any (x y : Ev) (l m : List Rw) (w : World) (hx : Rws w x.rows.1 x.rows.2.1 l) (hy : Rws w y.rows.1 y.rows.2.1 m) :
    Calls Try.prog 20 #[.agg (evA x), .agg (evA y)] w fun e w' => e = .returned (.bool (sameE x y l m)) ∧ Below w.heap.size w w' := by
  obtain ⟨hO, hP, hQ⟩ := ev_box2 x y w
  have HR := Lib.hid (equalRw_any x.rows.1 y.rows.1 x.rows.2.1 y.rows.2.1 x.rows.2.2 y.rows.2.2 l m _ (hx.below hO) (hy.below hO))
  have hep := fun w => eqlPt (evP x) (evP y) w
  have hgd := gdPt
  unfold evP at hep
  dsimp only at hep
  have p0 := hP.cell 0
  have q0 := hQ.cell 0
  have p1 := hP.cell 1
  have q1 := hQ.cell 1
  have p2 := hP.cell 2
  have q2 := hQ.cell 2
  have p3 := hP.cell 3
  have q3 := hQ.cell 3
  have p4 := hP.cell 4
  have q4 := hQ.cell 4
  have p5 := hP.cell 5
  have q5 := hQ.cell 5
  have p6 := hP.cell 6
  have q6 := hQ.cell 6
  have p7 := hP.cell 7
  have q7 := hQ.cell 7
  have p8 := hP.cell 8
  have q8 := hQ.cell 8
  have p9 := hP.cell 9
  have q9 := hQ.cell 9
  have p10 := hP.cell 10
  have q10 := hQ.cell 10
  clear hP hQ hx hy
  unfold sameE
  generalize decide (l = m) = bl at HR ⊢

  cases c0 : (x.kind == y.kind) with
  | false =>
    simp only [Bool.false_and, Bool.true_and]
    go_enter Try.func20, Try.ntmps20
    go_wp2_with fail
    go_ret
    exact ⟨rfl, hO⟩
  | true =>
    cases c1 : (x.tx == y.tx) with
    | false =>
      simp only [Bool.false_and, Bool.true_and]
      go_enter Try.func20, Try.ntmps20
      go_wp2_with fail
      go_ret
      exact ⟨rfl, hO⟩
    | true =>
      unfold evP
      cases c2 : decide ((⟨x.n0, x.n1, x.n2, x.n3, x.dep⟩ : Pt) = ⟨y.n0, y.n1, y.n2, y.n3, y.dep⟩) with
      | false =>
        rw [c2] at hep
        simp only [Bool.false_and, Bool.true_and]
        clear c2
        go_enter Try.func20, Try.ntmps20
        go_wp2_with fail
        go_ret
        exact ⟨rfl, hO⟩
      | true =>
        rw [c2] at hep
        clear c2
        cases c3 : (x.mode == y.mode) with
        | false =>
          simp only [Bool.false_and, Bool.true_and]
          go_enter Try.func20, Try.ntmps20
          go_wp2_with fail
          go_ret
          exact ⟨rfl, hO⟩
        | true =>
          cases c4 : (x.val == y.val) with
          | false =>
            simp only [Bool.false_and, Bool.true_and]
            go_enter Try.func20, Try.ntmps20
            go_wp2_with fail
            go_ret
            exact ⟨rfl, hO⟩
          | true =>
            cases c5 : (x.err == y.err) with
            | false =>
              simp only [Bool.false_and, Bool.true_and]
              go_enter Try.func20, Try.ntmps20
              go_wp2_with fail
              go_ret
              exact ⟨rfl, hO⟩
            | true =>
              simp only [Bool.true_and]
              go_enter Try.func20, Try.ntmps20
              go_wp2_with (go_at_call 40; refine HR.out.mono ?_; rintro e w1 ⟨rfl, hb1⟩)
              go_ret
              exact ⟨rfl, bl_then hO (Nat.le_refl _) hb1⟩

set_option maxRecDepth 100000 in
set_option maxHeartbeats 8000000 in
theorem rsame_any (x y : Ev) (l m : List Rw) (w : World) (hx : Rws w x.rows.1 x.rows.2.1 l) (hy : Rws w y.rows.1 y.rows.2.1 m) :
    Calls Try.prog 21 #[.agg (evA x), .agg (evA y)] w fun e w' => e = .returned (.bool (sameE x y l m)) ∧ Below w.heap.size w w' := by
  obtain ⟨hO, hP, hQ⟩ := ev_box2 x y w
  have HR := Lib.hid (sameRw_any x.rows.1 y.rows.1 x.rows.2.1 y.rows.2.1 x.rows.2.2 y.rows.2.2 l m _ (hx.below hO) (hy.below hO))
  have hep := fun w => eqlPt (evP x) (evP y) w
  have hgd := gdPt
  unfold evP at hep
  dsimp only at hep
  have p0 := hP.cell 0
  have q0 := hQ.cell 0
  have p1 := hP.cell 1
  have q1 := hQ.cell 1
  have p2 := hP.cell 2
  have q2 := hQ.cell 2
  have p3 := hP.cell 3
  have q3 := hQ.cell 3
  have p4 := hP.cell 4
  have q4 := hQ.cell 4
  have p5 := hP.cell 5
  have q5 := hQ.cell 5
  have p6 := hP.cell 6
  have q6 := hQ.cell 6
  have p7 := hP.cell 7
  have q7 := hQ.cell 7
  have p8 := hP.cell 8
  have q8 := hQ.cell 8
  have p9 := hP.cell 9
  have q9 := hQ.cell 9
  have p10 := hP.cell 10
  have q10 := hQ.cell 10
  clear hP hQ hx hy
  unfold sameE
  generalize decide (l = m) = bl at HR ⊢

  cases c0 : (x.kind == y.kind) with
  | false =>
    simp only [Bool.false_and, Bool.true_and]
    go_enter Try.func21, Try.ntmps21
    go_wp2_with fail
    go_ret
    exact ⟨rfl, hO⟩
  | true =>
    cases c1 : (x.tx == y.tx) with
    | false =>
      simp only [Bool.false_and, Bool.true_and]
      go_enter Try.func21, Try.ntmps21
      go_wp2_with fail
      go_ret
      exact ⟨rfl, hO⟩
    | true =>
      unfold evP
      cases c2 : decide ((⟨x.n0, x.n1, x.n2, x.n3, x.dep⟩ : Pt) = ⟨y.n0, y.n1, y.n2, y.n3, y.dep⟩) with
      | false =>
        rw [c2] at hep
        simp only [Bool.false_and, Bool.true_and]
        clear c2
        go_enter Try.func21, Try.ntmps21
        go_wp2_with fail
        go_ret
        exact ⟨rfl, hO⟩
      | true =>
        rw [c2] at hep
        clear c2
        cases c3 : (x.mode == y.mode) with
        | false =>
          simp only [Bool.false_and, Bool.true_and]
          go_enter Try.func21, Try.ntmps21
          go_wp2_with fail
          go_ret
          exact ⟨rfl, hO⟩
        | true =>
          cases c4 : (x.val == y.val) with
          | false =>
            simp only [Bool.false_and, Bool.true_and]
            go_enter Try.func21, Try.ntmps21
            go_wp2_with fail
            go_ret
            exact ⟨rfl, hO⟩
          | true =>
            cases c5 : (x.err == y.err) with
            | false =>
              simp only [Bool.false_and, Bool.true_and]
              go_enter Try.func21, Try.ntmps21
              go_wp2_with fail
              go_ret
              exact ⟨rfl, hO⟩
            | true =>
              simp only [Bool.true_and]
              go_enter Try.func21, Try.ntmps21
              go_wp2_with (go_at_call 41; refine HR.out.mono ?_; rintro e w1 ⟨rfl, hb1⟩)
              go_ret
              exact ⟨rfl, bl_then hO (Nat.le_refl _) hb1⟩

set_option maxRecDepth 100000 in
set_option maxHeartbeats 4000000 in
theorem sameEvs_yes (a b : Option Addr) (n cn cm : Nat) (L : List Ev) (R : Ev → List Rw) (w : World) (ha : Evs w a n L) (hb : Evs w b n L) (hr : EvRows w L R) :
    Calls Try.prog 22 #[.slice a n cn, .slice b n cm] w fun e w' => e = .returned (.bool true) ∧ Below w.heap.size w w' := by
  have hmx : n ≤ 9223372036854775807 := by have := ha.max; unfold maxLen at this; exact this
  have HR := Lib.hid (fun x hx W (h : Below w.heap.size w W) => (hr x hx).below h)
  have HA := Lib.hid ha
  have HB0 := Lib.hid hb
  clear hr ha hb
  go_enter Try.func22, Try.ntmps22
  go_wp2_with fail
  go_loopw [13] (fun c wr => ∃ k : Nat, k ≤ n ∧ c = .int .i64 k ∧ Below w.heap.size w wr) (fun c _ => n - (intOf c).toNat)
  case atStart => exact ⟨0, by omega, rfl, Below.refl _ _⟩
  case round =>
    obtain ⟨k, hk, rfl, HB⟩ := hrel
    by_cases hlt : k < n
    · obtain ⟨ba, oa, x, rfl, _, hx, _, d0, d1, d2, d3, d4, d5, d6, d7, d8, d9, d10⟩ := Ev_at (HA.out.below HB) hlt
      obtain ⟨bb, ob, y, rfl, _, hy, _, e0, e1, e2, e3, e4, e5, e6, e7, e8, e9, e10⟩ := Ev_at (HB0.out.below HB) hlt
      obtain rfl : x = y := by rw [hx] at hy; exact Option.some.inj hy
      have hrx := HR.out x (List.mem_of_getElem? hx) wr HB
      have hs := fun W (h : Below wr.heap.size wr W) => rsame_any x x (R x) (R x) W (hrx.below h) (hrx.below h)
      rw [sameE_refl] at hs
      have HS := Lib.hid hs
      clear hx hy hrx hs
      go_wp2_with fail
      go_region_with (first | (go_at_call 21; refine (HS.out _ (below_drew wr)).mono ?_; rintro e w6 ⟨rfl, hb6⟩))
      all_goals
        have HB6 := Lib.hid (bl_then (bl_then HB (Nat.le_refl _) (below_drew wr)) (Nat.le_refl _) hb6)
        clear hb6
        go_wp2_with fail
        go_roundw
        case rel => exact ⟨k + 1, by omega, by go_num, HB6.out⟩
        case measure => simp [intOf]; omega
    · obtain rfl : k = n := by omega
      go_wp2_with fail
      go_ret
      exact ⟨rfl, HB⟩
end Go.Proofs.Ytjenchijenkndaa
