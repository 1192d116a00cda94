/- history: writes, access, Clash of any two events, by the program and by the reference. No condition. -/
import Derived.Test.YtjenchijenkndaaHis
import Derived.Test.YtjenchijenkndaaPthL
import Derived.Test.YtjenchijenkndaaPthG
import Derived.Deep.Cut
import Derived.Deep.RegionHeld3
set_option linter.unusedVariables false
set_option linter.unusedSimpArgs false
namespace Go.Proofs.Ytjenchijenkndaa
open Go.RowKit (wrap32 wrap64)
open Go.RowKit
def evP (x : Ev) : Pt := ⟨x.n0, x.n1, x.n2, x.n3, x.dep⟩
abbrev evA (x : Ev) : Array Value := #[.int .i64 x.kind, .int .i64 x.tx, .int .i64 x.n0, .int .i64 x.n1, .int .i64 x.n2, .int .i64 x.n3, .int .i64 x.dep, .int .i64 x.mode, .int .i64 x.val, .slice x.rows.1 x.rows.2.1 x.rows.2.2, .int .i64 x.err]
def wrE (x : Ev) : Bool := x.kind == 7 || x.kind == 10
def acE (x : Ev) : Bool := wrE x || x.kind == 6 || x.kind == 8
def nearE (x y : Ev) : Bool := withinP (evP x) (evP y) || withinP (evP y) (evP x)
def clashE (x y : Ev) : Bool := !(x.tx == y.tx) && (acE x && (acE y && ((wrE x || wrE y) && nearE x y)))
theorem ev_box (x : Ev) (w : World) : Below w.heap.size w (w.alloc (.cells (evA x) 31)) ∧ Bk (w.alloc (.cells (evA x) 31)) w.heap.size 31 (evA x) := ⟨(Below.refl _ _).alloc (Nat.le_refl _) _, Bk.new w _ _⟩
theorem ev_box2 (x y : Ev) (w : World) : Below w.heap.size w ((w.alloc (.cells (evA x) 31)).alloc (.cells (evA y) 31)) ∧ Bk ((w.alloc (.cells (evA x) 31)).alloc (.cells (evA y) 31)) w.heap.size 31 (evA x) ∧ Bk ((w.alloc (.cells (evA x) 31)).alloc (.cells (evA y) 31)) (w.heap.size + 1) 31 (evA y) := by
  refine ⟨((Below.refl _ _).alloc (Nat.le_refl _) _).alloc (by simp) _, (Bk.new w 31 (evA x)).below ((Below.refl _ _).alloc (Nat.le_refl _) (.cells (evA y) 31)), ?_⟩
  have := Bk.new (w.alloc (.cells (evA x) 31)) 31 (evA y)
  rw [World.size_alloc] at this
  exact this
theorem rwithin_val (p q : Pt) (hp : okPt p) (w : World) : Calls Try.prog 38 #[.agg (ptA p), .agg (ptA q)] w fun e w' => e = .returned (.bool (withinP p q)) ∧ Below w.heap.size w w' := by
  have := rin_any p q hp w
  rw [in_eq] at this
  exact this
set_option maxRecDepth 100000 in
theorem pwrites_any (x : Ev) (w : World) : Calls Try.prog 26 #[.agg (evA x)] w fun e w' => e = .returned (.bool (wrE x)) ∧ Below w.heap.size w w' := by
  obtain ⟨hb, hB⟩ := ev_box x w
  have q0 := hB.cell 0
  clear hB
  cases h7 : (x.kind == 7) with
  | true =>
    have hv : wrE x = true := by unfold wrE; rw [h7]; rfl
    rw [hv]
    clear hv
    go_enter Try.func26, Try.ntmps26
    go_wp2
    go_ret
    exact ⟨rfl, hb⟩
  | false =>
    have hv : wrE x = (x.kind == 10) := by unfold wrE; rw [h7]; rfl
    rw [hv]
    clear hv
    go_enter Try.func26, Try.ntmps26
    go_wp2
    go_ret
    exact ⟨rfl, hb⟩
set_option maxRecDepth 100000 in
theorem paccess_any (x : Ev) (w : World) : Calls Try.prog 27 #[.agg (evA x)] w fun e w' => e = .returned (.bool (acE x)) ∧ Below w.heap.size w w' := by
  obtain ⟨hb, hB⟩ := ev_box x w
  have q := fun i => hB.cell i
  have HQ := Lib.hid (fun W (h : Below (w.alloc (.cells (evA x) 31)).heap.size (w.alloc (.cells (evA x) 31)) W) => (hB.below h).cell 0)
  have q0 := q 0
  have q1 := q 1
  have q2 := q 2
  have q3 := q 3
  have q4 := q 4
  have q5 := q 5
  have q6 := q 6
  have q7 := q 7
  have q8 := q 8
  have q9 := q 9
  have q10 := q 10
  have HW := Lib.hid (fun W => pwrites_any x W)
  cases hwr : wrE x with
  | true =>
    have hv : acE x = true := by unfold acE; rw [hwr]; rfl
    have HV := Lib.hid hv
    rw [hwr] at HW
    clear hv hwr q hB
    go_enter Try.func27, Try.ntmps27
    go_wp2_with (go_at_call 26; refine (HW.out _).mono ?_; rintro e w1 ⟨rfl, hb1⟩; have z0 := HQ.out _ hb1)
    go_ret
    exact ⟨by rw [HV.out]; rfl, bl_then hb (Nat.le_refl _) hb1⟩
  | false =>
    rw [hwr] at HW
    cases h6 : (x.kind == 6) with
    | true =>
      have hv : acE x = true := by unfold acE; rw [hwr, h6]; rfl
      have HV := Lib.hid hv
      clear hv hwr q hB
      go_enter Try.func27, Try.ntmps27
      go_wp2_with (go_at_call 26; refine (HW.out _).mono ?_; rintro e w1 ⟨rfl, hb1⟩; have z0 := HQ.out _ hb1)
      go_ret
      exact ⟨by rw [HV.out]; rfl, bl_then hb (Nat.le_refl _) hb1⟩
    | false =>
      have hv : acE x = (x.kind == 8) := by unfold acE; rw [hwr, h6]; rfl
      have HV := Lib.hid hv
      clear hv hwr q hB
      go_enter Try.func27, Try.ntmps27
      go_wp2_with (go_at_call 26; refine (HW.out _).mono ?_; rintro e w1 ⟨rfl, hb1⟩; have z0 := HQ.out _ hb1)
      go_ret
      exact ⟨by rw [HV.out]; rfl, bl_then hb (Nat.le_refl _) hb1⟩
set_option maxRecDepth 100000 in
set_option maxHeartbeats 4000000 in
theorem pclash_t (x y : Ev) (w : World) (bt bax bay bwx bwy b1 b2 r : Bool) (ht : (x.tx == y.tx) = bt) (hax : acE x = bax) (hay : acE y = bay) (hwx : wrE x = bwx) (hwy : wrE y = bwy) (h1 : withinP (evP x) (evP y) = b1) (h2 : withinP (evP y) (evP x) = b2) (k0 : bt = true) (hr : r = false) :
    Calls Try.prog 9 #[.agg (evA x), .agg (evA y)] w fun e w' => e = .returned (.bool r) ∧ Below w.heap.size w w' := by
  have HAX := Lib.hid (fun W => paccess_any x W)
  have HAY := Lib.hid (fun W => paccess_any y W)
  have HWX := Lib.hid (fun W => pwrites_any x W)
  have HWY := Lib.hid (fun W => pwrites_any y W)
  have H1 := Lib.hid (fun W => pwithin_any (evP x) (evP y) W)
  have H2 := Lib.hid (fun W => pwithin_any (evP y) (evP x) W)
  rw [hax] at HAX
  rw [hay] at HAY
  rw [hwx] at HWX
  rw [hwy] at HWY
  rw [h1] at H1
  rw [h2] at H2
  subst k0
  subst hr
  have hne : (x.tx != y.tx) = !(x.tx == y.tx) := rfl
  rw [ht] at hne
  simp only [Bool.not_true, Bool.not_false] at hne
  obtain ⟨hO, hP, hQ⟩ := ev_box2 x y w
  obtain ⟨PA, hPA⟩ : ∃ PA, PA = w.heap.size := ⟨_, rfl⟩
  obtain ⟨QA, hQA⟩ : ∃ QA, QA = w.heap.size + 1 := ⟨_, rfl⟩
  rw [← hQA] at hQ
  rw [← hPA] at hP
  have HPA := Lib.hid hPA
  have HQA := Lib.hid hQA
  clear hPA hQA hax hay hwx hwy h1 h2
  go_enter Try.func9, Try.ntmps9
  go_upto_region 1 with fail
  rw [← HQA.out, ← HPA.out]
  generalize ((w.alloc (.cells (evA x) 31)).alloc (.cells (evA y) 31)) = w2 at hO hP hQ ⊢
  have HO := Lib.hid hO
  have HC : Hid (∀ W, Below w2.heap.size w2 W → (W.cell? ⟨PA, 0, none⟩ = some (.int .i64 x.kind) ∧ W.cell? ⟨PA, 1, none⟩ = some (.int .i64 x.tx) ∧ W.cell? ⟨PA, 2, none⟩ = some (.int .i64 x.n0) ∧ W.cell? ⟨PA, 3, none⟩ = some (.int .i64 x.n1) ∧ W.cell? ⟨PA, 4, none⟩ = some (.int .i64 x.n2) ∧ W.cell? ⟨PA, 5, none⟩ = some (.int .i64 x.n3) ∧ W.cell? ⟨PA, 6, none⟩ = some (.int .i64 x.dep) ∧ W.cell? ⟨PA, 7, none⟩ = some (.int .i64 x.mode) ∧ W.cell? ⟨PA, 8, none⟩ = some (.int .i64 x.val) ∧ W.cell? ⟨PA, 9, none⟩ = some (.slice x.rows.1 x.rows.2.1 x.rows.2.2) ∧ W.cell? ⟨PA, 10, none⟩ = some (.int .i64 x.err) ∧ W.cell? ⟨QA, 0, none⟩ = some (.int .i64 y.kind) ∧ W.cell? ⟨QA, 1, none⟩ = some (.int .i64 y.tx) ∧ W.cell? ⟨QA, 2, none⟩ = some (.int .i64 y.n0) ∧ W.cell? ⟨QA, 3, none⟩ = some (.int .i64 y.n1) ∧ W.cell? ⟨QA, 4, none⟩ = some (.int .i64 y.n2) ∧ W.cell? ⟨QA, 5, none⟩ = some (.int .i64 y.n3) ∧ W.cell? ⟨QA, 6, none⟩ = some (.int .i64 y.dep) ∧ W.cell? ⟨QA, 7, none⟩ = some (.int .i64 y.mode) ∧ W.cell? ⟨QA, 8, none⟩ = some (.int .i64 y.val) ∧ W.cell? ⟨QA, 9, none⟩ = some (.slice y.rows.1 y.rows.2.1 y.rows.2.2) ∧ W.cell? ⟨QA, 10, none⟩ = some (.int .i64 y.err))) := Lib.hid (fun W h => ⟨(hP.below h).cell 0, (hP.below h).cell 1, (hP.below h).cell 2, (hP.below h).cell 3, (hP.below h).cell 4, (hP.below h).cell 5, (hP.below h).cell 6, (hP.below h).cell 7, (hP.below h).cell 8, (hP.below h).cell 9, (hP.below h).cell 10, (hQ.below h).cell 0, (hQ.below h).cell 1, (hQ.below h).cell 2, (hQ.below h).cell 3, (hQ.below h).cell 4, (hQ.below h).cell 5, (hQ.below h).cell 6, (hQ.below h).cell 7, (hQ.below h).cell 8, (hQ.below h).cell 9, (hQ.below h).cell 10⟩)
  have HB := Below.refl w2.heap.size w2
  obtain ⟨y0, y1, y2, y3, y4, y5, y6, y7, y8, y9, y10, y11, y12, y13, y14, y15, y16, y17, y18, y19, y20, y21⟩ := HC.out _ HB
  clear hP hQ hO HPA HQA
  have M1 : True := trivial
  have M2 : True := trivial
  have M3 : True := trivial
  go_wp2_with (first
    | (go_at_call 27; (have m_ := M1; clear M1 m_); refine (HAX.out _).mono ?_; rintro e wn ⟨rfl, hbn⟩; replace HB := bl_then HB (Nat.le_refl _) hbn; clear y0 y1 y2 y3 y4 y5 y6 y7 y8 y9 y10 y11 y12 y13 y14 y15 y16 y17 y18 y19 y20 y21; obtain ⟨y0, y1, y2, y3, y4, y5, y6, y7, y8, y9, y10, y11, y12, y13, y14, y15, y16, y17, y18, y19, y20, y21⟩ := HC.out _ HB)
    | (go_at_call 27; refine (HAY.out _).mono ?_; rintro e wn ⟨rfl, hbn⟩; replace HB := bl_then HB (Nat.le_refl _) hbn; clear y0 y1 y2 y3 y4 y5 y6 y7 y8 y9 y10 y11 y12 y13 y14 y15 y16 y17 y18 y19 y20 y21; obtain ⟨y0, y1, y2, y3, y4, y5, y6, y7, y8, y9, y10, y11, y12, y13, y14, y15, y16, y17, y18, y19, y20, y21⟩ := HC.out _ HB)
    | (go_at_call 26; (have m_ := M2; clear M2 m_); refine (HWX.out _).mono ?_; rintro e wn ⟨rfl, hbn⟩; replace HB := bl_then HB (Nat.le_refl _) hbn; clear y0 y1 y2 y3 y4 y5 y6 y7 y8 y9 y10 y11 y12 y13 y14 y15 y16 y17 y18 y19 y20 y21; obtain ⟨y0, y1, y2, y3, y4, y5, y6, y7, y8, y9, y10, y11, y12, y13, y14, y15, y16, y17, y18, y19, y20, y21⟩ := HC.out _ HB)
    | (go_at_call 26; refine (HWY.out _).mono ?_; rintro e wn ⟨rfl, hbn⟩; replace HB := bl_then HB (Nat.le_refl _) hbn; clear y0 y1 y2 y3 y4 y5 y6 y7 y8 y9 y10 y11 y12 y13 y14 y15 y16 y17 y18 y19 y20 y21; obtain ⟨y0, y1, y2, y3, y4, y5, y6, y7, y8, y9, y10, y11, y12, y13, y14, y15, y16, y17, y18, y19, y20, y21⟩ := HC.out _ HB)
    | (go_at_call 28; (have m_ := M3; clear M3 m_); refine (H1.out _).mono ?_; rintro e wn ⟨rfl, hbn⟩; replace HB := bl_then HB (Nat.le_refl _) hbn; clear y0 y1 y2 y3 y4 y5 y6 y7 y8 y9 y10 y11 y12 y13 y14 y15 y16 y17 y18 y19 y20 y21; obtain ⟨y0, y1, y2, y3, y4, y5, y6, y7, y8, y9, y10, y11, y12, y13, y14, y15, y16, y17, y18, y19, y20, y21⟩ := HC.out _ HB)
    | (go_at_call 28; refine (H2.out _).mono ?_; rintro e wn ⟨rfl, hbn⟩; replace HB := bl_then HB (Nat.le_refl _) hbn; clear y0 y1 y2 y3 y4 y5 y6 y7 y8 y9 y10 y11 y12 y13 y14 y15 y16 y17 y18 y19 y20 y21; obtain ⟨y0, y1, y2, y3, y4, y5, y6, y7, y8, y9, y10, y11, y12, y13, y14, y15, y16, y17, y18, y19, y20, y21⟩ := HC.out _ HB))
  go_ret
  exact ⟨rfl, HO.out.trans (HB.mono HO.out.size)⟩
set_option maxRecDepth 100000 in
set_option maxHeartbeats 4000000 in
theorem pclash_ax (x y : Ev) (w : World) (bt bax bay bwx bwy b1 b2 r : Bool) (ht : (x.tx == y.tx) = bt) (hax : acE x = bax) (hay : acE y = bay) (hwx : wrE x = bwx) (hwy : wrE y = bwy) (h1 : withinP (evP x) (evP y) = b1) (h2 : withinP (evP y) (evP x) = b2) (k0 : bt = false) (k1 : bax = false) (hr : r = false) :
    Calls Try.prog 9 #[.agg (evA x), .agg (evA y)] w fun e w' => e = .returned (.bool r) ∧ Below w.heap.size w w' := by
  have HAX := Lib.hid (fun W => paccess_any x W)
  have HAY := Lib.hid (fun W => paccess_any y W)
  have HWX := Lib.hid (fun W => pwrites_any x W)
  have HWY := Lib.hid (fun W => pwrites_any y W)
  have H1 := Lib.hid (fun W => pwithin_any (evP x) (evP y) W)
  have H2 := Lib.hid (fun W => pwithin_any (evP y) (evP x) W)
  rw [hax] at HAX
  rw [hay] at HAY
  rw [hwx] at HWX
  rw [hwy] at HWY
  rw [h1] at H1
  rw [h2] at H2
  subst k0 k1
  subst hr
  have hne : (x.tx != y.tx) = !(x.tx == y.tx) := rfl
  rw [ht] at hne
  simp only [Bool.not_true, Bool.not_false] at hne
  obtain ⟨hO, hP, hQ⟩ := ev_box2 x y w
  obtain ⟨PA, hPA⟩ : ∃ PA, PA = w.heap.size := ⟨_, rfl⟩
  obtain ⟨QA, hQA⟩ : ∃ QA, QA = w.heap.size + 1 := ⟨_, rfl⟩
  rw [← hQA] at hQ
  rw [← hPA] at hP
  have HPA := Lib.hid hPA
  have HQA := Lib.hid hQA
  clear hPA hQA hax hay hwx hwy h1 h2
  go_enter Try.func9, Try.ntmps9
  go_upto_region 1 with fail
  rw [← HQA.out, ← HPA.out]
  generalize ((w.alloc (.cells (evA x) 31)).alloc (.cells (evA y) 31)) = w2 at hO hP hQ ⊢
  have HO := Lib.hid hO
  have HC : Hid (∀ W, Below w2.heap.size w2 W → (W.cell? ⟨PA, 0, none⟩ = some (.int .i64 x.kind) ∧ W.cell? ⟨PA, 1, none⟩ = some (.int .i64 x.tx) ∧ W.cell? ⟨PA, 2, none⟩ = some (.int .i64 x.n0) ∧ W.cell? ⟨PA, 3, none⟩ = some (.int .i64 x.n1) ∧ W.cell? ⟨PA, 4, none⟩ = some (.int .i64 x.n2) ∧ W.cell? ⟨PA, 5, none⟩ = some (.int .i64 x.n3) ∧ W.cell? ⟨PA, 6, none⟩ = some (.int .i64 x.dep) ∧ W.cell? ⟨PA, 7, none⟩ = some (.int .i64 x.mode) ∧ W.cell? ⟨PA, 8, none⟩ = some (.int .i64 x.val) ∧ W.cell? ⟨PA, 9, none⟩ = some (.slice x.rows.1 x.rows.2.1 x.rows.2.2) ∧ W.cell? ⟨PA, 10, none⟩ = some (.int .i64 x.err) ∧ W.cell? ⟨QA, 0, none⟩ = some (.int .i64 y.kind) ∧ W.cell? ⟨QA, 1, none⟩ = some (.int .i64 y.tx) ∧ W.cell? ⟨QA, 2, none⟩ = some (.int .i64 y.n0) ∧ W.cell? ⟨QA, 3, none⟩ = some (.int .i64 y.n1) ∧ W.cell? ⟨QA, 4, none⟩ = some (.int .i64 y.n2) ∧ W.cell? ⟨QA, 5, none⟩ = some (.int .i64 y.n3) ∧ W.cell? ⟨QA, 6, none⟩ = some (.int .i64 y.dep) ∧ W.cell? ⟨QA, 7, none⟩ = some (.int .i64 y.mode) ∧ W.cell? ⟨QA, 8, none⟩ = some (.int .i64 y.val) ∧ W.cell? ⟨QA, 9, none⟩ = some (.slice y.rows.1 y.rows.2.1 y.rows.2.2) ∧ W.cell? ⟨QA, 10, none⟩ = some (.int .i64 y.err))) := Lib.hid (fun W h => ⟨(hP.below h).cell 0, (hP.below h).cell 1, (hP.below h).cell 2, (hP.below h).cell 3, (hP.below h).cell 4, (hP.below h).cell 5, (hP.below h).cell 6, (hP.below h).cell 7, (hP.below h).cell 8, (hP.below h).cell 9, (hP.below h).cell 10, (hQ.below h).cell 0, (hQ.below h).cell 1, (hQ.below h).cell 2, (hQ.below h).cell 3, (hQ.below h).cell 4, (hQ.below h).cell 5, (hQ.below h).cell 6, (hQ.below h).cell 7, (hQ.below h).cell 8, (hQ.below h).cell 9, (hQ.below h).cell 10⟩)
  have HB := Below.refl w2.heap.size w2
  obtain ⟨y0, y1, y2, y3, y4, y5, y6, y7, y8, y9, y10, y11, y12, y13, y14, y15, y16, y17, y18, y19, y20, y21⟩ := HC.out _ HB
  clear hP hQ hO HPA HQA
  have M1 : True := trivial
  have M2 : True := trivial
  have M3 : True := trivial
  go_wp2_with (first
    | (go_at_call 27; (have m_ := M1; clear M1 m_); refine (HAX.out _).mono ?_; rintro e wn ⟨rfl, hbn⟩; replace HB := bl_then HB (Nat.le_refl _) hbn; clear y0 y1 y2 y3 y4 y5 y6 y7 y8 y9 y10 y11 y12 y13 y14 y15 y16 y17 y18 y19 y20 y21; obtain ⟨y0, y1, y2, y3, y4, y5, y6, y7, y8, y9, y10, y11, y12, y13, y14, y15, y16, y17, y18, y19, y20, y21⟩ := HC.out _ HB)
    | (go_at_call 27; refine (HAY.out _).mono ?_; rintro e wn ⟨rfl, hbn⟩; replace HB := bl_then HB (Nat.le_refl _) hbn; clear y0 y1 y2 y3 y4 y5 y6 y7 y8 y9 y10 y11 y12 y13 y14 y15 y16 y17 y18 y19 y20 y21; obtain ⟨y0, y1, y2, y3, y4, y5, y6, y7, y8, y9, y10, y11, y12, y13, y14, y15, y16, y17, y18, y19, y20, y21⟩ := HC.out _ HB)
    | (go_at_call 26; (have m_ := M2; clear M2 m_); refine (HWX.out _).mono ?_; rintro e wn ⟨rfl, hbn⟩; replace HB := bl_then HB (Nat.le_refl _) hbn; clear y0 y1 y2 y3 y4 y5 y6 y7 y8 y9 y10 y11 y12 y13 y14 y15 y16 y17 y18 y19 y20 y21; obtain ⟨y0, y1, y2, y3, y4, y5, y6, y7, y8, y9, y10, y11, y12, y13, y14, y15, y16, y17, y18, y19, y20, y21⟩ := HC.out _ HB)
    | (go_at_call 26; refine (HWY.out _).mono ?_; rintro e wn ⟨rfl, hbn⟩; replace HB := bl_then HB (Nat.le_refl _) hbn; clear y0 y1 y2 y3 y4 y5 y6 y7 y8 y9 y10 y11 y12 y13 y14 y15 y16 y17 y18 y19 y20 y21; obtain ⟨y0, y1, y2, y3, y4, y5, y6, y7, y8, y9, y10, y11, y12, y13, y14, y15, y16, y17, y18, y19, y20, y21⟩ := HC.out _ HB)
    | (go_at_call 28; (have m_ := M3; clear M3 m_); refine (H1.out _).mono ?_; rintro e wn ⟨rfl, hbn⟩; replace HB := bl_then HB (Nat.le_refl _) hbn; clear y0 y1 y2 y3 y4 y5 y6 y7 y8 y9 y10 y11 y12 y13 y14 y15 y16 y17 y18 y19 y20 y21; obtain ⟨y0, y1, y2, y3, y4, y5, y6, y7, y8, y9, y10, y11, y12, y13, y14, y15, y16, y17, y18, y19, y20, y21⟩ := HC.out _ HB)
    | (go_at_call 28; refine (H2.out _).mono ?_; rintro e wn ⟨rfl, hbn⟩; replace HB := bl_then HB (Nat.le_refl _) hbn; clear y0 y1 y2 y3 y4 y5 y6 y7 y8 y9 y10 y11 y12 y13 y14 y15 y16 y17 y18 y19 y20 y21; obtain ⟨y0, y1, y2, y3, y4, y5, y6, y7, y8, y9, y10, y11, y12, y13, y14, y15, y16, y17, y18, y19, y20, y21⟩ := HC.out _ HB))
  go_ret
  exact ⟨rfl, HO.out.trans (HB.mono HO.out.size)⟩
set_option maxRecDepth 100000 in
set_option maxHeartbeats 4000000 in
theorem pclash_ay (x y : Ev) (w : World) (bt bax bay bwx bwy b1 b2 r : Bool) (ht : (x.tx == y.tx) = bt) (hax : acE x = bax) (hay : acE y = bay) (hwx : wrE x = bwx) (hwy : wrE y = bwy) (h1 : withinP (evP x) (evP y) = b1) (h2 : withinP (evP y) (evP x) = b2) (k0 : bt = false) (k1 : bax = true) (k2 : bay = false) (hr : r = false) :
    Calls Try.prog 9 #[.agg (evA x), .agg (evA y)] w fun e w' => e = .returned (.bool r) ∧ Below w.heap.size w w' := by
  have HAX := Lib.hid (fun W => paccess_any x W)
  have HAY := Lib.hid (fun W => paccess_any y W)
  have HWX := Lib.hid (fun W => pwrites_any x W)
  have HWY := Lib.hid (fun W => pwrites_any y W)
  have H1 := Lib.hid (fun W => pwithin_any (evP x) (evP y) W)
  have H2 := Lib.hid (fun W => pwithin_any (evP y) (evP x) W)
  rw [hax] at HAX
  rw [hay] at HAY
  rw [hwx] at HWX
  rw [hwy] at HWY
  rw [h1] at H1
  rw [h2] at H2
  subst k0 k1 k2
  subst hr
  have hne : (x.tx != y.tx) = !(x.tx == y.tx) := rfl
  rw [ht] at hne
  simp only [Bool.not_true, Bool.not_false] at hne
  obtain ⟨hO, hP, hQ⟩ := ev_box2 x y w
  obtain ⟨PA, hPA⟩ : ∃ PA, PA = w.heap.size := ⟨_, rfl⟩
  obtain ⟨QA, hQA⟩ : ∃ QA, QA = w.heap.size + 1 := ⟨_, rfl⟩
  rw [← hQA] at hQ
  rw [← hPA] at hP
  have HPA := Lib.hid hPA
  have HQA := Lib.hid hQA
  clear hPA hQA hax hay hwx hwy h1 h2
  go_enter Try.func9, Try.ntmps9
  go_upto_region 1 with fail
  rw [← HQA.out, ← HPA.out]
  generalize ((w.alloc (.cells (evA x) 31)).alloc (.cells (evA y) 31)) = w2 at hO hP hQ ⊢
  have HO := Lib.hid hO
  have HC : Hid (∀ W, Below w2.heap.size w2 W → (W.cell? ⟨PA, 0, none⟩ = some (.int .i64 x.kind) ∧ W.cell? ⟨PA, 1, none⟩ = some (.int .i64 x.tx) ∧ W.cell? ⟨PA, 2, none⟩ = some (.int .i64 x.n0) ∧ W.cell? ⟨PA, 3, none⟩ = some (.int .i64 x.n1) ∧ W.cell? ⟨PA, 4, none⟩ = some (.int .i64 x.n2) ∧ W.cell? ⟨PA, 5, none⟩ = some (.int .i64 x.n3) ∧ W.cell? ⟨PA, 6, none⟩ = some (.int .i64 x.dep) ∧ W.cell? ⟨PA, 7, none⟩ = some (.int .i64 x.mode) ∧ W.cell? ⟨PA, 8, none⟩ = some (.int .i64 x.val) ∧ W.cell? ⟨PA, 9, none⟩ = some (.slice x.rows.1 x.rows.2.1 x.rows.2.2) ∧ W.cell? ⟨PA, 10, none⟩ = some (.int .i64 x.err) ∧ W.cell? ⟨QA, 0, none⟩ = some (.int .i64 y.kind) ∧ W.cell? ⟨QA, 1, none⟩ = some (.int .i64 y.tx) ∧ W.cell? ⟨QA, 2, none⟩ = some (.int .i64 y.n0) ∧ W.cell? ⟨QA, 3, none⟩ = some (.int .i64 y.n1) ∧ W.cell? ⟨QA, 4, none⟩ = some (.int .i64 y.n2) ∧ W.cell? ⟨QA, 5, none⟩ = some (.int .i64 y.n3) ∧ W.cell? ⟨QA, 6, none⟩ = some (.int .i64 y.dep) ∧ W.cell? ⟨QA, 7, none⟩ = some (.int .i64 y.mode) ∧ W.cell? ⟨QA, 8, none⟩ = some (.int .i64 y.val) ∧ W.cell? ⟨QA, 9, none⟩ = some (.slice y.rows.1 y.rows.2.1 y.rows.2.2) ∧ W.cell? ⟨QA, 10, none⟩ = some (.int .i64 y.err))) := Lib.hid (fun W h => ⟨(hP.below h).cell 0, (hP.below h).cell 1, (hP.below h).cell 2, (hP.below h).cell 3, (hP.below h).cell 4, (hP.below h).cell 5, (hP.below h).cell 6, (hP.below h).cell 7, (hP.below h).cell 8, (hP.below h).cell 9, (hP.below h).cell 10, (hQ.below h).cell 0, (hQ.below h).cell 1, (hQ.below h).cell 2, (hQ.below h).cell 3, (hQ.below h).cell 4, (hQ.below h).cell 5, (hQ.below h).cell 6, (hQ.below h).cell 7, (hQ.below h).cell 8, (hQ.below h).cell 9, (hQ.below h).cell 10⟩)
  have HB := Below.refl w2.heap.size w2
  obtain ⟨y0, y1, y2, y3, y4, y5, y6, y7, y8, y9, y10, y11, y12, y13, y14, y15, y16, y17, y18, y19, y20, y21⟩ := HC.out _ HB
  clear hP hQ hO HPA HQA
  have M1 : True := trivial
  have M2 : True := trivial
  have M3 : True := trivial
  go_wp2_with (first
    | (go_at_call 27; (have m_ := M1; clear M1 m_); refine (HAX.out _).mono ?_; rintro e wn ⟨rfl, hbn⟩; replace HB := bl_then HB (Nat.le_refl _) hbn; clear y0 y1 y2 y3 y4 y5 y6 y7 y8 y9 y10 y11 y12 y13 y14 y15 y16 y17 y18 y19 y20 y21; obtain ⟨y0, y1, y2, y3, y4, y5, y6, y7, y8, y9, y10, y11, y12, y13, y14, y15, y16, y17, y18, y19, y20, y21⟩ := HC.out _ HB)
    | (go_at_call 27; refine (HAY.out _).mono ?_; rintro e wn ⟨rfl, hbn⟩; replace HB := bl_then HB (Nat.le_refl _) hbn; clear y0 y1 y2 y3 y4 y5 y6 y7 y8 y9 y10 y11 y12 y13 y14 y15 y16 y17 y18 y19 y20 y21; obtain ⟨y0, y1, y2, y3, y4, y5, y6, y7, y8, y9, y10, y11, y12, y13, y14, y15, y16, y17, y18, y19, y20, y21⟩ := HC.out _ HB)
    | (go_at_call 26; (have m_ := M2; clear M2 m_); refine (HWX.out _).mono ?_; rintro e wn ⟨rfl, hbn⟩; replace HB := bl_then HB (Nat.le_refl _) hbn; clear y0 y1 y2 y3 y4 y5 y6 y7 y8 y9 y10 y11 y12 y13 y14 y15 y16 y17 y18 y19 y20 y21; obtain ⟨y0, y1, y2, y3, y4, y5, y6, y7, y8, y9, y10, y11, y12, y13, y14, y15, y16, y17, y18, y19, y20, y21⟩ := HC.out _ HB)
    | (go_at_call 26; refine (HWY.out _).mono ?_; rintro e wn ⟨rfl, hbn⟩; replace HB := bl_then HB (Nat.le_refl _) hbn; clear y0 y1 y2 y3 y4 y5 y6 y7 y8 y9 y10 y11 y12 y13 y14 y15 y16 y17 y18 y19 y20 y21; obtain ⟨y0, y1, y2, y3, y4, y5, y6, y7, y8, y9, y10, y11, y12, y13, y14, y15, y16, y17, y18, y19, y20, y21⟩ := HC.out _ HB)
    | (go_at_call 28; (have m_ := M3; clear M3 m_); refine (H1.out _).mono ?_; rintro e wn ⟨rfl, hbn⟩; replace HB := bl_then HB (Nat.le_refl _) hbn; clear y0 y1 y2 y3 y4 y5 y6 y7 y8 y9 y10 y11 y12 y13 y14 y15 y16 y17 y18 y19 y20 y21; obtain ⟨y0, y1, y2, y3, y4, y5, y6, y7, y8, y9, y10, y11, y12, y13, y14, y15, y16, y17, y18, y19, y20, y21⟩ := HC.out _ HB)
    | (go_at_call 28; refine (H2.out _).mono ?_; rintro e wn ⟨rfl, hbn⟩; replace HB := bl_then HB (Nat.le_refl _) hbn; clear y0 y1 y2 y3 y4 y5 y6 y7 y8 y9 y10 y11 y12 y13 y14 y15 y16 y17 y18 y19 y20 y21; obtain ⟨y0, y1, y2, y3, y4, y5, y6, y7, y8, y9, y10, y11, y12, y13, y14, y15, y16, y17, y18, y19, y20, y21⟩ := HC.out _ HB))
  go_ret
  exact ⟨rfl, HO.out.trans (HB.mono HO.out.size)⟩
set_option maxRecDepth 100000 in
set_option maxHeartbeats 4000000 in
theorem pclash_ww (x y : Ev) (w : World) (bt bax bay bwx bwy b1 b2 r : Bool) (ht : (x.tx == y.tx) = bt) (hax : acE x = bax) (hay : acE y = bay) (hwx : wrE x = bwx) (hwy : wrE y = bwy) (h1 : withinP (evP x) (evP y) = b1) (h2 : withinP (evP y) (evP x) = b2) (k0 : bt = false) (k1 : bax = true) (k2 : bay = true) (k3 : bwx = false) (k4 : bwy = false) (hr : r = false) :
    Calls Try.prog 9 #[.agg (evA x), .agg (evA y)] w fun e w' => e = .returned (.bool r) ∧ Below w.heap.size w w' := by
  have HAX := Lib.hid (fun W => paccess_any x W)
  have HAY := Lib.hid (fun W => paccess_any y W)
  have HWX := Lib.hid (fun W => pwrites_any x W)
  have HWY := Lib.hid (fun W => pwrites_any y W)
  have H1 := Lib.hid (fun W => pwithin_any (evP x) (evP y) W)
  have H2 := Lib.hid (fun W => pwithin_any (evP y) (evP x) W)
  rw [hax] at HAX
  rw [hay] at HAY
  rw [hwx] at HWX
  rw [hwy] at HWY
  rw [h1] at H1
  rw [h2] at H2
  subst k0 k1 k2 k3 k4
  subst hr
  have hne : (x.tx != y.tx) = !(x.tx == y.tx) := rfl
  rw [ht] at hne
  simp only [Bool.not_true, Bool.not_false] at hne
  obtain ⟨hO, hP, hQ⟩ := ev_box2 x y w
  obtain ⟨PA, hPA⟩ : ∃ PA, PA = w.heap.size := ⟨_, rfl⟩
  obtain ⟨QA, hQA⟩ : ∃ QA, QA = w.heap.size + 1 := ⟨_, rfl⟩
  rw [← hQA] at hQ
  rw [← hPA] at hP
  have HPA := Lib.hid hPA
  have HQA := Lib.hid hQA
  clear hPA hQA hax hay hwx hwy h1 h2
  go_enter Try.func9, Try.ntmps9
  go_upto_region 1 with fail
  rw [← HQA.out, ← HPA.out]
  generalize ((w.alloc (.cells (evA x) 31)).alloc (.cells (evA y) 31)) = w2 at hO hP hQ ⊢
  have HO := Lib.hid hO
  have HC : Hid (∀ W, Below w2.heap.size w2 W → (W.cell? ⟨PA, 0, none⟩ = some (.int .i64 x.kind) ∧ W.cell? ⟨PA, 1, none⟩ = some (.int .i64 x.tx) ∧ W.cell? ⟨PA, 2, none⟩ = some (.int .i64 x.n0) ∧ W.cell? ⟨PA, 3, none⟩ = some (.int .i64 x.n1) ∧ W.cell? ⟨PA, 4, none⟩ = some (.int .i64 x.n2) ∧ W.cell? ⟨PA, 5, none⟩ = some (.int .i64 x.n3) ∧ W.cell? ⟨PA, 6, none⟩ = some (.int .i64 x.dep) ∧ W.cell? ⟨PA, 7, none⟩ = some (.int .i64 x.mode) ∧ W.cell? ⟨PA, 8, none⟩ = some (.int .i64 x.val) ∧ W.cell? ⟨PA, 9, none⟩ = some (.slice x.rows.1 x.rows.2.1 x.rows.2.2) ∧ W.cell? ⟨PA, 10, none⟩ = some (.int .i64 x.err) ∧ W.cell? ⟨QA, 0, none⟩ = some (.int .i64 y.kind) ∧ W.cell? ⟨QA, 1, none⟩ = some (.int .i64 y.tx) ∧ W.cell? ⟨QA, 2, none⟩ = some (.int .i64 y.n0) ∧ W.cell? ⟨QA, 3, none⟩ = some (.int .i64 y.n1) ∧ W.cell? ⟨QA, 4, none⟩ = some (.int .i64 y.n2) ∧ W.cell? ⟨QA, 5, none⟩ = some (.int .i64 y.n3) ∧ W.cell? ⟨QA, 6, none⟩ = some (.int .i64 y.dep) ∧ W.cell? ⟨QA, 7, none⟩ = some (.int .i64 y.mode) ∧ W.cell? ⟨QA, 8, none⟩ = some (.int .i64 y.val) ∧ W.cell? ⟨QA, 9, none⟩ = some (.slice y.rows.1 y.rows.2.1 y.rows.2.2) ∧ W.cell? ⟨QA, 10, none⟩ = some (.int .i64 y.err))) := Lib.hid (fun W h => ⟨(hP.below h).cell 0, (hP.below h).cell 1, (hP.below h).cell 2, (hP.below h).cell 3, (hP.below h).cell 4, (hP.below h).cell 5, (hP.below h).cell 6, (hP.below h).cell 7, (hP.below h).cell 8, (hP.below h).cell 9, (hP.below h).cell 10, (hQ.below h).cell 0, (hQ.below h).cell 1, (hQ.below h).cell 2, (hQ.below h).cell 3, (hQ.below h).cell 4, (hQ.below h).cell 5, (hQ.below h).cell 6, (hQ.below h).cell 7, (hQ.below h).cell 8, (hQ.below h).cell 9, (hQ.below h).cell 10⟩)
  have HB := Below.refl w2.heap.size w2
  obtain ⟨y0, y1, y2, y3, y4, y5, y6, y7, y8, y9, y10, y11, y12, y13, y14, y15, y16, y17, y18, y19, y20, y21⟩ := HC.out _ HB
  clear hP hQ hO HPA HQA
  have M1 : True := trivial
  have M2 : True := trivial
  have M3 : True := trivial
  go_wp2_with (first
    | (go_at_call 27; (have m_ := M1; clear M1 m_); refine (HAX.out _).mono ?_; rintro e wn ⟨rfl, hbn⟩; replace HB := bl_then HB (Nat.le_refl _) hbn; clear y0 y1 y2 y3 y4 y5 y6 y7 y8 y9 y10 y11 y12 y13 y14 y15 y16 y17 y18 y19 y20 y21; obtain ⟨y0, y1, y2, y3, y4, y5, y6, y7, y8, y9, y10, y11, y12, y13, y14, y15, y16, y17, y18, y19, y20, y21⟩ := HC.out _ HB)
    | (go_at_call 27; refine (HAY.out _).mono ?_; rintro e wn ⟨rfl, hbn⟩; replace HB := bl_then HB (Nat.le_refl _) hbn; clear y0 y1 y2 y3 y4 y5 y6 y7 y8 y9 y10 y11 y12 y13 y14 y15 y16 y17 y18 y19 y20 y21; obtain ⟨y0, y1, y2, y3, y4, y5, y6, y7, y8, y9, y10, y11, y12, y13, y14, y15, y16, y17, y18, y19, y20, y21⟩ := HC.out _ HB)
    | (go_at_call 26; (have m_ := M2; clear M2 m_); refine (HWX.out _).mono ?_; rintro e wn ⟨rfl, hbn⟩; replace HB := bl_then HB (Nat.le_refl _) hbn; clear y0 y1 y2 y3 y4 y5 y6 y7 y8 y9 y10 y11 y12 y13 y14 y15 y16 y17 y18 y19 y20 y21; obtain ⟨y0, y1, y2, y3, y4, y5, y6, y7, y8, y9, y10, y11, y12, y13, y14, y15, y16, y17, y18, y19, y20, y21⟩ := HC.out _ HB)
    | (go_at_call 26; refine (HWY.out _).mono ?_; rintro e wn ⟨rfl, hbn⟩; replace HB := bl_then HB (Nat.le_refl _) hbn; clear y0 y1 y2 y3 y4 y5 y6 y7 y8 y9 y10 y11 y12 y13 y14 y15 y16 y17 y18 y19 y20 y21; obtain ⟨y0, y1, y2, y3, y4, y5, y6, y7, y8, y9, y10, y11, y12, y13, y14, y15, y16, y17, y18, y19, y20, y21⟩ := HC.out _ HB)
    | (go_at_call 28; (have m_ := M3; clear M3 m_); refine (H1.out _).mono ?_; rintro e wn ⟨rfl, hbn⟩; replace HB := bl_then HB (Nat.le_refl _) hbn; clear y0 y1 y2 y3 y4 y5 y6 y7 y8 y9 y10 y11 y12 y13 y14 y15 y16 y17 y18 y19 y20 y21; obtain ⟨y0, y1, y2, y3, y4, y5, y6, y7, y8, y9, y10, y11, y12, y13, y14, y15, y16, y17, y18, y19, y20, y21⟩ := HC.out _ HB)
    | (go_at_call 28; refine (H2.out _).mono ?_; rintro e wn ⟨rfl, hbn⟩; replace HB := bl_then HB (Nat.le_refl _) hbn; clear y0 y1 y2 y3 y4 y5 y6 y7 y8 y9 y10 y11 y12 y13 y14 y15 y16 y17 y18 y19 y20 y21; obtain ⟨y0, y1, y2, y3, y4, y5, y6, y7, y8, y9, y10, y11, y12, y13, y14, y15, y16, y17, y18, y19, y20, y21⟩ := HC.out _ HB))
  go_ret
  exact ⟨rfl, HO.out.trans (HB.mono HO.out.size)⟩
set_option maxRecDepth 100000 in
set_option maxHeartbeats 4000000 in
theorem pclash_x1 (x y : Ev) (w : World) (bt bax bay bwx bwy b1 b2 r : Bool) (ht : (x.tx == y.tx) = bt) (hax : acE x = bax) (hay : acE y = bay) (hwx : wrE x = bwx) (hwy : wrE y = bwy) (h1 : withinP (evP x) (evP y) = b1) (h2 : withinP (evP y) (evP x) = b2) (k0 : bt = false) (k1 : bax = true) (k2 : bay = true) (k3 : bwx = true) (k4 : b1 = true) (hr : r = true) :
    Calls Try.prog 9 #[.agg (evA x), .agg (evA y)] w fun e w' => e = .returned (.bool r) ∧ Below w.heap.size w w' := by
  have HAX := Lib.hid (fun W => paccess_any x W)
  have HAY := Lib.hid (fun W => paccess_any y W)
  have HWX := Lib.hid (fun W => pwrites_any x W)
  have HWY := Lib.hid (fun W => pwrites_any y W)
  have H1 := Lib.hid (fun W => pwithin_any (evP x) (evP y) W)
  have H2 := Lib.hid (fun W => pwithin_any (evP y) (evP x) W)
  rw [hax] at HAX
  rw [hay] at HAY
  rw [hwx] at HWX
  rw [hwy] at HWY
  rw [h1] at H1
  rw [h2] at H2
  subst k0 k1 k2 k3 k4
  subst hr
  have hne : (x.tx != y.tx) = !(x.tx == y.tx) := rfl
  rw [ht] at hne
  simp only [Bool.not_true, Bool.not_false] at hne
  obtain ⟨hO, hP, hQ⟩ := ev_box2 x y w
  obtain ⟨PA, hPA⟩ : ∃ PA, PA = w.heap.size := ⟨_, rfl⟩
  obtain ⟨QA, hQA⟩ : ∃ QA, QA = w.heap.size + 1 := ⟨_, rfl⟩
  rw [← hQA] at hQ
  rw [← hPA] at hP
  have HPA := Lib.hid hPA
  have HQA := Lib.hid hQA
  clear hPA hQA hax hay hwx hwy h1 h2
  go_enter Try.func9, Try.ntmps9
  go_upto_region 1 with fail
  rw [← HQA.out, ← HPA.out]
  generalize ((w.alloc (.cells (evA x) 31)).alloc (.cells (evA y) 31)) = w2 at hO hP hQ ⊢
  have HO := Lib.hid hO
  have HC : Hid (∀ W, Below w2.heap.size w2 W → (W.cell? ⟨PA, 0, none⟩ = some (.int .i64 x.kind) ∧ W.cell? ⟨PA, 1, none⟩ = some (.int .i64 x.tx) ∧ W.cell? ⟨PA, 2, none⟩ = some (.int .i64 x.n0) ∧ W.cell? ⟨PA, 3, none⟩ = some (.int .i64 x.n1) ∧ W.cell? ⟨PA, 4, none⟩ = some (.int .i64 x.n2) ∧ W.cell? ⟨PA, 5, none⟩ = some (.int .i64 x.n3) ∧ W.cell? ⟨PA, 6, none⟩ = some (.int .i64 x.dep) ∧ W.cell? ⟨PA, 7, none⟩ = some (.int .i64 x.mode) ∧ W.cell? ⟨PA, 8, none⟩ = some (.int .i64 x.val) ∧ W.cell? ⟨PA, 9, none⟩ = some (.slice x.rows.1 x.rows.2.1 x.rows.2.2) ∧ W.cell? ⟨PA, 10, none⟩ = some (.int .i64 x.err) ∧ W.cell? ⟨QA, 0, none⟩ = some (.int .i64 y.kind) ∧ W.cell? ⟨QA, 1, none⟩ = some (.int .i64 y.tx) ∧ W.cell? ⟨QA, 2, none⟩ = some (.int .i64 y.n0) ∧ W.cell? ⟨QA, 3, none⟩ = some (.int .i64 y.n1) ∧ W.cell? ⟨QA, 4, none⟩ = some (.int .i64 y.n2) ∧ W.cell? ⟨QA, 5, none⟩ = some (.int .i64 y.n3) ∧ W.cell? ⟨QA, 6, none⟩ = some (.int .i64 y.dep) ∧ W.cell? ⟨QA, 7, none⟩ = some (.int .i64 y.mode) ∧ W.cell? ⟨QA, 8, none⟩ = some (.int .i64 y.val) ∧ W.cell? ⟨QA, 9, none⟩ = some (.slice y.rows.1 y.rows.2.1 y.rows.2.2) ∧ W.cell? ⟨QA, 10, none⟩ = some (.int .i64 y.err))) := Lib.hid (fun W h => ⟨(hP.below h).cell 0, (hP.below h).cell 1, (hP.below h).cell 2, (hP.below h).cell 3, (hP.below h).cell 4, (hP.below h).cell 5, (hP.below h).cell 6, (hP.below h).cell 7, (hP.below h).cell 8, (hP.below h).cell 9, (hP.below h).cell 10, (hQ.below h).cell 0, (hQ.below h).cell 1, (hQ.below h).cell 2, (hQ.below h).cell 3, (hQ.below h).cell 4, (hQ.below h).cell 5, (hQ.below h).cell 6, (hQ.below h).cell 7, (hQ.below h).cell 8, (hQ.below h).cell 9, (hQ.below h).cell 10⟩)
  have HB := Below.refl w2.heap.size w2
  obtain ⟨y0, y1, y2, y3, y4, y5, y6, y7, y8, y9, y10, y11, y12, y13, y14, y15, y16, y17, y18, y19, y20, y21⟩ := HC.out _ HB
  clear hP hQ hO HPA HQA
  have M1 : True := trivial
  have M2 : True := trivial
  have M3 : True := trivial
  go_wp2_with (first
    | (go_at_call 27; (have m_ := M1; clear M1 m_); refine (HAX.out _).mono ?_; rintro e wn ⟨rfl, hbn⟩; replace HB := bl_then HB (Nat.le_refl _) hbn; clear y0 y1 y2 y3 y4 y5 y6 y7 y8 y9 y10 y11 y12 y13 y14 y15 y16 y17 y18 y19 y20 y21; obtain ⟨y0, y1, y2, y3, y4, y5, y6, y7, y8, y9, y10, y11, y12, y13, y14, y15, y16, y17, y18, y19, y20, y21⟩ := HC.out _ HB)
    | (go_at_call 27; refine (HAY.out _).mono ?_; rintro e wn ⟨rfl, hbn⟩; replace HB := bl_then HB (Nat.le_refl _) hbn; clear y0 y1 y2 y3 y4 y5 y6 y7 y8 y9 y10 y11 y12 y13 y14 y15 y16 y17 y18 y19 y20 y21; obtain ⟨y0, y1, y2, y3, y4, y5, y6, y7, y8, y9, y10, y11, y12, y13, y14, y15, y16, y17, y18, y19, y20, y21⟩ := HC.out _ HB)
    | (go_at_call 26; (have m_ := M2; clear M2 m_); refine (HWX.out _).mono ?_; rintro e wn ⟨rfl, hbn⟩; replace HB := bl_then HB (Nat.le_refl _) hbn; clear y0 y1 y2 y3 y4 y5 y6 y7 y8 y9 y10 y11 y12 y13 y14 y15 y16 y17 y18 y19 y20 y21; obtain ⟨y0, y1, y2, y3, y4, y5, y6, y7, y8, y9, y10, y11, y12, y13, y14, y15, y16, y17, y18, y19, y20, y21⟩ := HC.out _ HB)
    | (go_at_call 26; refine (HWY.out _).mono ?_; rintro e wn ⟨rfl, hbn⟩; replace HB := bl_then HB (Nat.le_refl _) hbn; clear y0 y1 y2 y3 y4 y5 y6 y7 y8 y9 y10 y11 y12 y13 y14 y15 y16 y17 y18 y19 y20 y21; obtain ⟨y0, y1, y2, y3, y4, y5, y6, y7, y8, y9, y10, y11, y12, y13, y14, y15, y16, y17, y18, y19, y20, y21⟩ := HC.out _ HB)
    | (go_at_call 28; (have m_ := M3; clear M3 m_); refine (H1.out _).mono ?_; rintro e wn ⟨rfl, hbn⟩; replace HB := bl_then HB (Nat.le_refl _) hbn; clear y0 y1 y2 y3 y4 y5 y6 y7 y8 y9 y10 y11 y12 y13 y14 y15 y16 y17 y18 y19 y20 y21; obtain ⟨y0, y1, y2, y3, y4, y5, y6, y7, y8, y9, y10, y11, y12, y13, y14, y15, y16, y17, y18, y19, y20, y21⟩ := HC.out _ HB)
    | (go_at_call 28; refine (H2.out _).mono ?_; rintro e wn ⟨rfl, hbn⟩; replace HB := bl_then HB (Nat.le_refl _) hbn; clear y0 y1 y2 y3 y4 y5 y6 y7 y8 y9 y10 y11 y12 y13 y14 y15 y16 y17 y18 y19 y20 y21; obtain ⟨y0, y1, y2, y3, y4, y5, y6, y7, y8, y9, y10, y11, y12, y13, y14, y15, y16, y17, y18, y19, y20, y21⟩ := HC.out _ HB))
  go_ret
  exact ⟨rfl, HO.out.trans (HB.mono HO.out.size)⟩
set_option maxRecDepth 100000 in
set_option maxHeartbeats 4000000 in
theorem pclash_x2 (x y : Ev) (w : World) (bt bax bay bwx bwy b1 b2 r : Bool) (ht : (x.tx == y.tx) = bt) (hax : acE x = bax) (hay : acE y = bay) (hwx : wrE x = bwx) (hwy : wrE y = bwy) (h1 : withinP (evP x) (evP y) = b1) (h2 : withinP (evP y) (evP x) = b2) (k0 : bt = false) (k1 : bax = true) (k2 : bay = true) (k3 : bwx = true) (k4 : b1 = false) (hr : r = b2) :
    Calls Try.prog 9 #[.agg (evA x), .agg (evA y)] w fun e w' => e = .returned (.bool r) ∧ Below w.heap.size w w' := by
  have HAX := Lib.hid (fun W => paccess_any x W)
  have HAY := Lib.hid (fun W => paccess_any y W)
  have HWX := Lib.hid (fun W => pwrites_any x W)
  have HWY := Lib.hid (fun W => pwrites_any y W)
  have H1 := Lib.hid (fun W => pwithin_any (evP x) (evP y) W)
  have H2 := Lib.hid (fun W => pwithin_any (evP y) (evP x) W)
  rw [hax] at HAX
  rw [hay] at HAY
  rw [hwx] at HWX
  rw [hwy] at HWY
  rw [h1] at H1
  rw [h2] at H2
  subst k0 k1 k2 k3 k4
  subst hr
  have hne : (x.tx != y.tx) = !(x.tx == y.tx) := rfl
  rw [ht] at hne
  simp only [Bool.not_true, Bool.not_false] at hne
  obtain ⟨hO, hP, hQ⟩ := ev_box2 x y w
  obtain ⟨PA, hPA⟩ : ∃ PA, PA = w.heap.size := ⟨_, rfl⟩
  obtain ⟨QA, hQA⟩ : ∃ QA, QA = w.heap.size + 1 := ⟨_, rfl⟩
  rw [← hQA] at hQ
  rw [← hPA] at hP
  have HPA := Lib.hid hPA
  have HQA := Lib.hid hQA
  clear hPA hQA hax hay hwx hwy h1 h2
  go_enter Try.func9, Try.ntmps9
  go_upto_region 1 with fail
  rw [← HQA.out, ← HPA.out]
  generalize ((w.alloc (.cells (evA x) 31)).alloc (.cells (evA y) 31)) = w2 at hO hP hQ ⊢
  have HO := Lib.hid hO
  have HC : Hid (∀ W, Below w2.heap.size w2 W → (W.cell? ⟨PA, 0, none⟩ = some (.int .i64 x.kind) ∧ W.cell? ⟨PA, 1, none⟩ = some (.int .i64 x.tx) ∧ W.cell? ⟨PA, 2, none⟩ = some (.int .i64 x.n0) ∧ W.cell? ⟨PA, 3, none⟩ = some (.int .i64 x.n1) ∧ W.cell? ⟨PA, 4, none⟩ = some (.int .i64 x.n2) ∧ W.cell? ⟨PA, 5, none⟩ = some (.int .i64 x.n3) ∧ W.cell? ⟨PA, 6, none⟩ = some (.int .i64 x.dep) ∧ W.cell? ⟨PA, 7, none⟩ = some (.int .i64 x.mode) ∧ W.cell? ⟨PA, 8, none⟩ = some (.int .i64 x.val) ∧ W.cell? ⟨PA, 9, none⟩ = some (.slice x.rows.1 x.rows.2.1 x.rows.2.2) ∧ W.cell? ⟨PA, 10, none⟩ = some (.int .i64 x.err) ∧ W.cell? ⟨QA, 0, none⟩ = some (.int .i64 y.kind) ∧ W.cell? ⟨QA, 1, none⟩ = some (.int .i64 y.tx) ∧ W.cell? ⟨QA, 2, none⟩ = some (.int .i64 y.n0) ∧ W.cell? ⟨QA, 3, none⟩ = some (.int .i64 y.n1) ∧ W.cell? ⟨QA, 4, none⟩ = some (.int .i64 y.n2) ∧ W.cell? ⟨QA, 5, none⟩ = some (.int .i64 y.n3) ∧ W.cell? ⟨QA, 6, none⟩ = some (.int .i64 y.dep) ∧ W.cell? ⟨QA, 7, none⟩ = some (.int .i64 y.mode) ∧ W.cell? ⟨QA, 8, none⟩ = some (.int .i64 y.val) ∧ W.cell? ⟨QA, 9, none⟩ = some (.slice y.rows.1 y.rows.2.1 y.rows.2.2) ∧ W.cell? ⟨QA, 10, none⟩ = some (.int .i64 y.err))) := Lib.hid (fun W h => ⟨(hP.below h).cell 0, (hP.below h).cell 1, (hP.below h).cell 2, (hP.below h).cell 3, (hP.below h).cell 4, (hP.below h).cell 5, (hP.below h).cell 6, (hP.below h).cell 7, (hP.below h).cell 8, (hP.below h).cell 9, (hP.below h).cell 10, (hQ.below h).cell 0, (hQ.below h).cell 1, (hQ.below h).cell 2, (hQ.below h).cell 3, (hQ.below h).cell 4, (hQ.below h).cell 5, (hQ.below h).cell 6, (hQ.below h).cell 7, (hQ.below h).cell 8, (hQ.below h).cell 9, (hQ.below h).cell 10⟩)
  have HB := Below.refl w2.heap.size w2
  obtain ⟨y0, y1, y2, y3, y4, y5, y6, y7, y8, y9, y10, y11, y12, y13, y14, y15, y16, y17, y18, y19, y20, y21⟩ := HC.out _ HB
  clear hP hQ hO HPA HQA
  have M1 : True := trivial
  have M2 : True := trivial
  have M3 : True := trivial
  go_wp2_with (first
    | (go_at_call 27; (have m_ := M1; clear M1 m_); refine (HAX.out _).mono ?_; rintro e wn ⟨rfl, hbn⟩; replace HB := bl_then HB (Nat.le_refl _) hbn; clear y0 y1 y2 y3 y4 y5 y6 y7 y8 y9 y10 y11 y12 y13 y14 y15 y16 y17 y18 y19 y20 y21; obtain ⟨y0, y1, y2, y3, y4, y5, y6, y7, y8, y9, y10, y11, y12, y13, y14, y15, y16, y17, y18, y19, y20, y21⟩ := HC.out _ HB)
    | (go_at_call 27; refine (HAY.out _).mono ?_; rintro e wn ⟨rfl, hbn⟩; replace HB := bl_then HB (Nat.le_refl _) hbn; clear y0 y1 y2 y3 y4 y5 y6 y7 y8 y9 y10 y11 y12 y13 y14 y15 y16 y17 y18 y19 y20 y21; obtain ⟨y0, y1, y2, y3, y4, y5, y6, y7, y8, y9, y10, y11, y12, y13, y14, y15, y16, y17, y18, y19, y20, y21⟩ := HC.out _ HB)
    | (go_at_call 26; (have m_ := M2; clear M2 m_); refine (HWX.out _).mono ?_; rintro e wn ⟨rfl, hbn⟩; replace HB := bl_then HB (Nat.le_refl _) hbn; clear y0 y1 y2 y3 y4 y5 y6 y7 y8 y9 y10 y11 y12 y13 y14 y15 y16 y17 y18 y19 y20 y21; obtain ⟨y0, y1, y2, y3, y4, y5, y6, y7, y8, y9, y10, y11, y12, y13, y14, y15, y16, y17, y18, y19, y20, y21⟩ := HC.out _ HB)
    | (go_at_call 26; refine (HWY.out _).mono ?_; rintro e wn ⟨rfl, hbn⟩; replace HB := bl_then HB (Nat.le_refl _) hbn; clear y0 y1 y2 y3 y4 y5 y6 y7 y8 y9 y10 y11 y12 y13 y14 y15 y16 y17 y18 y19 y20 y21; obtain ⟨y0, y1, y2, y3, y4, y5, y6, y7, y8, y9, y10, y11, y12, y13, y14, y15, y16, y17, y18, y19, y20, y21⟩ := HC.out _ HB)
    | (go_at_call 28; (have m_ := M3; clear M3 m_); refine (H1.out _).mono ?_; rintro e wn ⟨rfl, hbn⟩; replace HB := bl_then HB (Nat.le_refl _) hbn; clear y0 y1 y2 y3 y4 y5 y6 y7 y8 y9 y10 y11 y12 y13 y14 y15 y16 y17 y18 y19 y20 y21; obtain ⟨y0, y1, y2, y3, y4, y5, y6, y7, y8, y9, y10, y11, y12, y13, y14, y15, y16, y17, y18, y19, y20, y21⟩ := HC.out _ HB)
    | (go_at_call 28; refine (H2.out _).mono ?_; rintro e wn ⟨rfl, hbn⟩; replace HB := bl_then HB (Nat.le_refl _) hbn; clear y0 y1 y2 y3 y4 y5 y6 y7 y8 y9 y10 y11 y12 y13 y14 y15 y16 y17 y18 y19 y20 y21; obtain ⟨y0, y1, y2, y3, y4, y5, y6, y7, y8, y9, y10, y11, y12, y13, y14, y15, y16, y17, y18, y19, y20, y21⟩ := HC.out _ HB))
  go_ret
  exact ⟨rfl, HO.out.trans (HB.mono HO.out.size)⟩
set_option maxRecDepth 100000 in
set_option maxHeartbeats 4000000 in
theorem pclash_y1 (x y : Ev) (w : World) (bt bax bay bwx bwy b1 b2 r : Bool) (ht : (x.tx == y.tx) = bt) (hax : acE x = bax) (hay : acE y = bay) (hwx : wrE x = bwx) (hwy : wrE y = bwy) (h1 : withinP (evP x) (evP y) = b1) (h2 : withinP (evP y) (evP x) = b2) (k0 : bt = false) (k1 : bax = true) (k2 : bay = true) (k3 : bwx = false) (k4 : bwy = true) (k5 : b1 = true) (hr : r = true) :
    Calls Try.prog 9 #[.agg (evA x), .agg (evA y)] w fun e w' => e = .returned (.bool r) ∧ Below w.heap.size w w' := by
  have HAX := Lib.hid (fun W => paccess_any x W)
  have HAY := Lib.hid (fun W => paccess_any y W)
  have HWX := Lib.hid (fun W => pwrites_any x W)
  have HWY := Lib.hid (fun W => pwrites_any y W)
  have H1 := Lib.hid (fun W => pwithin_any (evP x) (evP y) W)
  have H2 := Lib.hid (fun W => pwithin_any (evP y) (evP x) W)
  rw [hax] at HAX
  rw [hay] at HAY
  rw [hwx] at HWX
  rw [hwy] at HWY
  rw [h1] at H1
  rw [h2] at H2
  subst k0 k1 k2 k3 k4 k5
  subst hr
  have hne : (x.tx != y.tx) = !(x.tx == y.tx) := rfl
  rw [ht] at hne
  simp only [Bool.not_true, Bool.not_false] at hne
  obtain ⟨hO, hP, hQ⟩ := ev_box2 x y w
  obtain ⟨PA, hPA⟩ : ∃ PA, PA = w.heap.size := ⟨_, rfl⟩
  obtain ⟨QA, hQA⟩ : ∃ QA, QA = w.heap.size + 1 := ⟨_, rfl⟩
  rw [← hQA] at hQ
  rw [← hPA] at hP
  have HPA := Lib.hid hPA
  have HQA := Lib.hid hQA
  clear hPA hQA hax hay hwx hwy h1 h2
  go_enter Try.func9, Try.ntmps9
  go_upto_region 1 with fail
  rw [← HQA.out, ← HPA.out]
  generalize ((w.alloc (.cells (evA x) 31)).alloc (.cells (evA y) 31)) = w2 at hO hP hQ ⊢
  have HO := Lib.hid hO
  have HC : Hid (∀ W, Below w2.heap.size w2 W → (W.cell? ⟨PA, 0, none⟩ = some (.int .i64 x.kind) ∧ W.cell? ⟨PA, 1, none⟩ = some (.int .i64 x.tx) ∧ W.cell? ⟨PA, 2, none⟩ = some (.int .i64 x.n0) ∧ W.cell? ⟨PA, 3, none⟩ = some (.int .i64 x.n1) ∧ W.cell? ⟨PA, 4, none⟩ = some (.int .i64 x.n2) ∧ W.cell? ⟨PA, 5, none⟩ = some (.int .i64 x.n3) ∧ W.cell? ⟨PA, 6, none⟩ = some (.int .i64 x.dep) ∧ W.cell? ⟨PA, 7, none⟩ = some (.int .i64 x.mode) ∧ W.cell? ⟨PA, 8, none⟩ = some (.int .i64 x.val) ∧ W.cell? ⟨PA, 9, none⟩ = some (.slice x.rows.1 x.rows.2.1 x.rows.2.2) ∧ W.cell? ⟨PA, 10, none⟩ = some (.int .i64 x.err) ∧ W.cell? ⟨QA, 0, none⟩ = some (.int .i64 y.kind) ∧ W.cell? ⟨QA, 1, none⟩ = some (.int .i64 y.tx) ∧ W.cell? ⟨QA, 2, none⟩ = some (.int .i64 y.n0) ∧ W.cell? ⟨QA, 3, none⟩ = some (.int .i64 y.n1) ∧ W.cell? ⟨QA, 4, none⟩ = some (.int .i64 y.n2) ∧ W.cell? ⟨QA, 5, none⟩ = some (.int .i64 y.n3) ∧ W.cell? ⟨QA, 6, none⟩ = some (.int .i64 y.dep) ∧ W.cell? ⟨QA, 7, none⟩ = some (.int .i64 y.mode) ∧ W.cell? ⟨QA, 8, none⟩ = some (.int .i64 y.val) ∧ W.cell? ⟨QA, 9, none⟩ = some (.slice y.rows.1 y.rows.2.1 y.rows.2.2) ∧ W.cell? ⟨QA, 10, none⟩ = some (.int .i64 y.err))) := Lib.hid (fun W h => ⟨(hP.below h).cell 0, (hP.below h).cell 1, (hP.below h).cell 2, (hP.below h).cell 3, (hP.below h).cell 4, (hP.below h).cell 5, (hP.below h).cell 6, (hP.below h).cell 7, (hP.below h).cell 8, (hP.below h).cell 9, (hP.below h).cell 10, (hQ.below h).cell 0, (hQ.below h).cell 1, (hQ.below h).cell 2, (hQ.below h).cell 3, (hQ.below h).cell 4, (hQ.below h).cell 5, (hQ.below h).cell 6, (hQ.below h).cell 7, (hQ.below h).cell 8, (hQ.below h).cell 9, (hQ.below h).cell 10⟩)
  have HB := Below.refl w2.heap.size w2
  obtain ⟨y0, y1, y2, y3, y4, y5, y6, y7, y8, y9, y10, y11, y12, y13, y14, y15, y16, y17, y18, y19, y20, y21⟩ := HC.out _ HB
  clear hP hQ hO HPA HQA
  have M1 : True := trivial
  have M2 : True := trivial
  have M3 : True := trivial
  go_wp2_with (first
    | (go_at_call 27; (have m_ := M1; clear M1 m_); refine (HAX.out _).mono ?_; rintro e wn ⟨rfl, hbn⟩; replace HB := bl_then HB (Nat.le_refl _) hbn; clear y0 y1 y2 y3 y4 y5 y6 y7 y8 y9 y10 y11 y12 y13 y14 y15 y16 y17 y18 y19 y20 y21; obtain ⟨y0, y1, y2, y3, y4, y5, y6, y7, y8, y9, y10, y11, y12, y13, y14, y15, y16, y17, y18, y19, y20, y21⟩ := HC.out _ HB)
    | (go_at_call 27; refine (HAY.out _).mono ?_; rintro e wn ⟨rfl, hbn⟩; replace HB := bl_then HB (Nat.le_refl _) hbn; clear y0 y1 y2 y3 y4 y5 y6 y7 y8 y9 y10 y11 y12 y13 y14 y15 y16 y17 y18 y19 y20 y21; obtain ⟨y0, y1, y2, y3, y4, y5, y6, y7, y8, y9, y10, y11, y12, y13, y14, y15, y16, y17, y18, y19, y20, y21⟩ := HC.out _ HB)
    | (go_at_call 26; (have m_ := M2; clear M2 m_); refine (HWX.out _).mono ?_; rintro e wn ⟨rfl, hbn⟩; replace HB := bl_then HB (Nat.le_refl _) hbn; clear y0 y1 y2 y3 y4 y5 y6 y7 y8 y9 y10 y11 y12 y13 y14 y15 y16 y17 y18 y19 y20 y21; obtain ⟨y0, y1, y2, y3, y4, y5, y6, y7, y8, y9, y10, y11, y12, y13, y14, y15, y16, y17, y18, y19, y20, y21⟩ := HC.out _ HB)
    | (go_at_call 26; refine (HWY.out _).mono ?_; rintro e wn ⟨rfl, hbn⟩; replace HB := bl_then HB (Nat.le_refl _) hbn; clear y0 y1 y2 y3 y4 y5 y6 y7 y8 y9 y10 y11 y12 y13 y14 y15 y16 y17 y18 y19 y20 y21; obtain ⟨y0, y1, y2, y3, y4, y5, y6, y7, y8, y9, y10, y11, y12, y13, y14, y15, y16, y17, y18, y19, y20, y21⟩ := HC.out _ HB)
    | (go_at_call 28; (have m_ := M3; clear M3 m_); refine (H1.out _).mono ?_; rintro e wn ⟨rfl, hbn⟩; replace HB := bl_then HB (Nat.le_refl _) hbn; clear y0 y1 y2 y3 y4 y5 y6 y7 y8 y9 y10 y11 y12 y13 y14 y15 y16 y17 y18 y19 y20 y21; obtain ⟨y0, y1, y2, y3, y4, y5, y6, y7, y8, y9, y10, y11, y12, y13, y14, y15, y16, y17, y18, y19, y20, y21⟩ := HC.out _ HB)
    | (go_at_call 28; refine (H2.out _).mono ?_; rintro e wn ⟨rfl, hbn⟩; replace HB := bl_then HB (Nat.le_refl _) hbn; clear y0 y1 y2 y3 y4 y5 y6 y7 y8 y9 y10 y11 y12 y13 y14 y15 y16 y17 y18 y19 y20 y21; obtain ⟨y0, y1, y2, y3, y4, y5, y6, y7, y8, y9, y10, y11, y12, y13, y14, y15, y16, y17, y18, y19, y20, y21⟩ := HC.out _ HB))
  go_ret
  exact ⟨rfl, HO.out.trans (HB.mono HO.out.size)⟩
set_option maxRecDepth 100000 in
set_option maxHeartbeats 4000000 in
theorem pclash_y2 (x y : Ev) (w : World) (bt bax bay bwx bwy b1 b2 r : Bool) (ht : (x.tx == y.tx) = bt) (hax : acE x = bax) (hay : acE y = bay) (hwx : wrE x = bwx) (hwy : wrE y = bwy) (h1 : withinP (evP x) (evP y) = b1) (h2 : withinP (evP y) (evP x) = b2) (k0 : bt = false) (k1 : bax = true) (k2 : bay = true) (k3 : bwx = false) (k4 : bwy = true) (k5 : b1 = false) (hr : r = b2) :
    Calls Try.prog 9 #[.agg (evA x), .agg (evA y)] w fun e w' => e = .returned (.bool r) ∧ Below w.heap.size w w' := by
  have HAX := Lib.hid (fun W => paccess_any x W)
  have HAY := Lib.hid (fun W => paccess_any y W)
  have HWX := Lib.hid (fun W => pwrites_any x W)
  have HWY := Lib.hid (fun W => pwrites_any y W)
  have H1 := Lib.hid (fun W => pwithin_any (evP x) (evP y) W)
  have H2 := Lib.hid (fun W => pwithin_any (evP y) (evP x) W)
  rw [hax] at HAX
  rw [hay] at HAY
  rw [hwx] at HWX
  rw [hwy] at HWY
  rw [h1] at H1
  rw [h2] at H2
  subst k0 k1 k2 k3 k4 k5
  subst hr
  have hne : (x.tx != y.tx) = !(x.tx == y.tx) := rfl
  rw [ht] at hne
  simp only [Bool.not_true, Bool.not_false] at hne
  obtain ⟨hO, hP, hQ⟩ := ev_box2 x y w
  obtain ⟨PA, hPA⟩ : ∃ PA, PA = w.heap.size := ⟨_, rfl⟩
  obtain ⟨QA, hQA⟩ : ∃ QA, QA = w.heap.size + 1 := ⟨_, rfl⟩
  rw [← hQA] at hQ
  rw [← hPA] at hP
  have HPA := Lib.hid hPA
  have HQA := Lib.hid hQA
  clear hPA hQA hax hay hwx hwy h1 h2
  go_enter Try.func9, Try.ntmps9
  go_upto_region 1 with fail
  rw [← HQA.out, ← HPA.out]
  generalize ((w.alloc (.cells (evA x) 31)).alloc (.cells (evA y) 31)) = w2 at hO hP hQ ⊢
  have HO := Lib.hid hO
  have HC : Hid (∀ W, Below w2.heap.size w2 W → (W.cell? ⟨PA, 0, none⟩ = some (.int .i64 x.kind) ∧ W.cell? ⟨PA, 1, none⟩ = some (.int .i64 x.tx) ∧ W.cell? ⟨PA, 2, none⟩ = some (.int .i64 x.n0) ∧ W.cell? ⟨PA, 3, none⟩ = some (.int .i64 x.n1) ∧ W.cell? ⟨PA, 4, none⟩ = some (.int .i64 x.n2) ∧ W.cell? ⟨PA, 5, none⟩ = some (.int .i64 x.n3) ∧ W.cell? ⟨PA, 6, none⟩ = some (.int .i64 x.dep) ∧ W.cell? ⟨PA, 7, none⟩ = some (.int .i64 x.mode) ∧ W.cell? ⟨PA, 8, none⟩ = some (.int .i64 x.val) ∧ W.cell? ⟨PA, 9, none⟩ = some (.slice x.rows.1 x.rows.2.1 x.rows.2.2) ∧ W.cell? ⟨PA, 10, none⟩ = some (.int .i64 x.err) ∧ W.cell? ⟨QA, 0, none⟩ = some (.int .i64 y.kind) ∧ W.cell? ⟨QA, 1, none⟩ = some (.int .i64 y.tx) ∧ W.cell? ⟨QA, 2, none⟩ = some (.int .i64 y.n0) ∧ W.cell? ⟨QA, 3, none⟩ = some (.int .i64 y.n1) ∧ W.cell? ⟨QA, 4, none⟩ = some (.int .i64 y.n2) ∧ W.cell? ⟨QA, 5, none⟩ = some (.int .i64 y.n3) ∧ W.cell? ⟨QA, 6, none⟩ = some (.int .i64 y.dep) ∧ W.cell? ⟨QA, 7, none⟩ = some (.int .i64 y.mode) ∧ W.cell? ⟨QA, 8, none⟩ = some (.int .i64 y.val) ∧ W.cell? ⟨QA, 9, none⟩ = some (.slice y.rows.1 y.rows.2.1 y.rows.2.2) ∧ W.cell? ⟨QA, 10, none⟩ = some (.int .i64 y.err))) := Lib.hid (fun W h => ⟨(hP.below h).cell 0, (hP.below h).cell 1, (hP.below h).cell 2, (hP.below h).cell 3, (hP.below h).cell 4, (hP.below h).cell 5, (hP.below h).cell 6, (hP.below h).cell 7, (hP.below h).cell 8, (hP.below h).cell 9, (hP.below h).cell 10, (hQ.below h).cell 0, (hQ.below h).cell 1, (hQ.below h).cell 2, (hQ.below h).cell 3, (hQ.below h).cell 4, (hQ.below h).cell 5, (hQ.below h).cell 6, (hQ.below h).cell 7, (hQ.below h).cell 8, (hQ.below h).cell 9, (hQ.below h).cell 10⟩)
  have HB := Below.refl w2.heap.size w2
  obtain ⟨y0, y1, y2, y3, y4, y5, y6, y7, y8, y9, y10, y11, y12, y13, y14, y15, y16, y17, y18, y19, y20, y21⟩ := HC.out _ HB
  clear hP hQ hO HPA HQA
  have M1 : True := trivial
  have M2 : True := trivial
  have M3 : True := trivial
  go_wp2_with (first
    | (go_at_call 27; (have m_ := M1; clear M1 m_); refine (HAX.out _).mono ?_; rintro e wn ⟨rfl, hbn⟩; replace HB := bl_then HB (Nat.le_refl _) hbn; clear y0 y1 y2 y3 y4 y5 y6 y7 y8 y9 y10 y11 y12 y13 y14 y15 y16 y17 y18 y19 y20 y21; obtain ⟨y0, y1, y2, y3, y4, y5, y6, y7, y8, y9, y10, y11, y12, y13, y14, y15, y16, y17, y18, y19, y20, y21⟩ := HC.out _ HB)
    | (go_at_call 27; refine (HAY.out _).mono ?_; rintro e wn ⟨rfl, hbn⟩; replace HB := bl_then HB (Nat.le_refl _) hbn; clear y0 y1 y2 y3 y4 y5 y6 y7 y8 y9 y10 y11 y12 y13 y14 y15 y16 y17 y18 y19 y20 y21; obtain ⟨y0, y1, y2, y3, y4, y5, y6, y7, y8, y9, y10, y11, y12, y13, y14, y15, y16, y17, y18, y19, y20, y21⟩ := HC.out _ HB)
    | (go_at_call 26; (have m_ := M2; clear M2 m_); refine (HWX.out _).mono ?_; rintro e wn ⟨rfl, hbn⟩; replace HB := bl_then HB (Nat.le_refl _) hbn; clear y0 y1 y2 y3 y4 y5 y6 y7 y8 y9 y10 y11 y12 y13 y14 y15 y16 y17 y18 y19 y20 y21; obtain ⟨y0, y1, y2, y3, y4, y5, y6, y7, y8, y9, y10, y11, y12, y13, y14, y15, y16, y17, y18, y19, y20, y21⟩ := HC.out _ HB)
    | (go_at_call 26; refine (HWY.out _).mono ?_; rintro e wn ⟨rfl, hbn⟩; replace HB := bl_then HB (Nat.le_refl _) hbn; clear y0 y1 y2 y3 y4 y5 y6 y7 y8 y9 y10 y11 y12 y13 y14 y15 y16 y17 y18 y19 y20 y21; obtain ⟨y0, y1, y2, y3, y4, y5, y6, y7, y8, y9, y10, y11, y12, y13, y14, y15, y16, y17, y18, y19, y20, y21⟩ := HC.out _ HB)
    | (go_at_call 28; (have m_ := M3; clear M3 m_); refine (H1.out _).mono ?_; rintro e wn ⟨rfl, hbn⟩; replace HB := bl_then HB (Nat.le_refl _) hbn; clear y0 y1 y2 y3 y4 y5 y6 y7 y8 y9 y10 y11 y12 y13 y14 y15 y16 y17 y18 y19 y20 y21; obtain ⟨y0, y1, y2, y3, y4, y5, y6, y7, y8, y9, y10, y11, y12, y13, y14, y15, y16, y17, y18, y19, y20, y21⟩ := HC.out _ HB)
    | (go_at_call 28; refine (H2.out _).mono ?_; rintro e wn ⟨rfl, hbn⟩; replace HB := bl_then HB (Nat.le_refl _) hbn; clear y0 y1 y2 y3 y4 y5 y6 y7 y8 y9 y10 y11 y12 y13 y14 y15 y16 y17 y18 y19 y20 y21; obtain ⟨y0, y1, y2, y3, y4, y5, y6, y7, y8, y9, y10, y11, y12, y13, y14, y15, y16, y17, y18, y19, y20, y21⟩ := HC.out _ HB))
  go_ret
  exact ⟨rfl, HO.out.trans (HB.mono HO.out.size)⟩
theorem pclash_any (x y : Ev) (w : World) : Calls Try.prog 9 #[.agg (evA x), .agg (evA y)] w fun e w' => e = .returned (.bool (clashE x y)) ∧ Below w.heap.size w w' := by
  unfold clashE nearE
  generalize ht : (x.tx == y.tx) = bt
  generalize hax : acE x = bax
  generalize hay : acE y = bay
  generalize hwx : wrE x = bwx
  generalize hwy : wrE y = bwy
  generalize h1 : withinP (evP x) (evP y) = b1
  generalize h2 : withinP (evP y) (evP x) = b2
  by_cases c_t : bt = true
  · have k0 := c_t
    exact pclash_t x y w _ _ _ _ _ _ _ _ ht hax hay hwx hwy h1 h2 k0 (by rw [k0]; cases b2 <;> (try cases bwy) <;> rfl)
  by_cases c_ax : bt = false ∧ bax = false
  · obtain ⟨k0, k1⟩ := c_ax
    exact pclash_ax x y w _ _ _ _ _ _ _ _ ht hax hay hwx hwy h1 h2 k0 k1 (by rw [k0, k1]; cases b2 <;> (try cases bwy) <;> rfl)
  by_cases c_ay : bt = false ∧ bax = true ∧ bay = false
  · obtain ⟨k0, k1, k2⟩ := c_ay
    exact pclash_ay x y w _ _ _ _ _ _ _ _ ht hax hay hwx hwy h1 h2 k0 k1 k2 (by rw [k0, k1, k2]; cases b2 <;> (try cases bwy) <;> rfl)
  by_cases c_ww : bt = false ∧ bax = true ∧ bay = true ∧ bwx = false ∧ bwy = false
  · obtain ⟨k0, k1, k2, k3, k4⟩ := c_ww
    exact pclash_ww x y w _ _ _ _ _ _ _ _ ht hax hay hwx hwy h1 h2 k0 k1 k2 k3 k4 (by rw [k0, k1, k2, k3, k4]; cases b2 <;> (try cases bwy) <;> rfl)
  by_cases c_x1 : bt = false ∧ bax = true ∧ bay = true ∧ bwx = true ∧ b1 = true
  · obtain ⟨k0, k1, k2, k3, k4⟩ := c_x1
    exact pclash_x1 x y w _ _ _ _ _ _ _ _ ht hax hay hwx hwy h1 h2 k0 k1 k2 k3 k4 (by rw [k0, k1, k2, k3, k4]; cases b2 <;> (try cases bwy) <;> rfl)
  by_cases c_x2 : bt = false ∧ bax = true ∧ bay = true ∧ bwx = true ∧ b1 = false
  · obtain ⟨k0, k1, k2, k3, k4⟩ := c_x2
    exact pclash_x2 x y w _ _ _ _ _ _ _ _ ht hax hay hwx hwy h1 h2 k0 k1 k2 k3 k4 (by rw [k0, k1, k2, k3, k4]; cases b2 <;> (try cases bwy) <;> rfl)
  by_cases c_y1 : bt = false ∧ bax = true ∧ bay = true ∧ bwx = false ∧ bwy = true ∧ b1 = true
  · obtain ⟨k0, k1, k2, k3, k4, k5⟩ := c_y1
    exact pclash_y1 x y w _ _ _ _ _ _ _ _ ht hax hay hwx hwy h1 h2 k0 k1 k2 k3 k4 k5 (by rw [k0, k1, k2, k3, k4, k5]; cases b2 <;> (try cases bwy) <;> rfl)
  by_cases c_y2 : bt = false ∧ bax = true ∧ bay = true ∧ bwx = false ∧ bwy = true ∧ b1 = false
  · obtain ⟨k0, k1, k2, k3, k4, k5⟩ := c_y2
    exact pclash_y2 x y w _ _ _ _ _ _ _ _ ht hax hay hwx hwy h1 h2 k0 k1 k2 k3 k4 k5 (by rw [k0, k1, k2, k3, k4, k5]; cases b2 <;> (try cases bwy) <;> rfl)
  exfalso
  clear ht hax hay hwx hwy h1 h2
  cases bt <;> cases bax <;> cases bay <;> cases bwx <;> cases bwy <;> cases b1 <;> simp_all
set_option maxRecDepth 100000 in
theorem rwrites_any (x : Ev) (w : World) : Calls Try.prog 36 #[.agg (evA x)] w fun e w' => e = .returned (.bool (wrE x)) ∧ Below w.heap.size w w' := by
  obtain ⟨hb, hB⟩ := ev_box x w
  have q0 := hB.cell 0
  clear hB
  cases h7 : (x.kind == 7) with
  | true =>
    have hv : wrE x = true := by unfold wrE; rw [h7]; rfl
    rw [hv]
    clear hv
    go_enter Try.func36, Try.ntmps36
    go_wp2
    go_ret
    exact ⟨rfl, hb⟩
  | false =>
    have hv : wrE x = (x.kind == 10) := by unfold wrE; rw [h7]; rfl
    rw [hv]
    clear hv
    go_enter Try.func36, Try.ntmps36
    go_wp2
    go_ret
    exact ⟨rfl, hb⟩
set_option maxRecDepth 100000 in
theorem raccess_any (x : Ev) (w : World) : Calls Try.prog 39 #[.agg (evA x)] w fun e w' => e = .returned (.bool (acE x)) ∧ Below w.heap.size w w' := by
  obtain ⟨hb, hB⟩ := ev_box x w
  have q := fun i => hB.cell i
  have HQ := Lib.hid (fun W (h : Below (w.alloc (.cells (evA x) 31)).heap.size (w.alloc (.cells (evA x) 31)) W) => (hB.below h).cell 0)
  have q0 := q 0
  have q1 := q 1
  have q2 := q 2
  have q3 := q 3
  have q4 := q 4
  have q5 := q 5
  have q6 := q 6
  have q7 := q 7
  have q8 := q 8
  have q9 := q 9
  have q10 := q 10
  have HW := Lib.hid (fun W => rwrites_any x W)
  cases hwr : wrE x with
  | true =>
    have hv : acE x = true := by unfold acE; rw [hwr]; rfl
    have HV := Lib.hid hv
    rw [hwr] at HW
    clear hv hwr q hB
    go_enter Try.func39, Try.ntmps39
    go_wp2_with (go_at_call 36; refine (HW.out _).mono ?_; rintro e w1 ⟨rfl, hb1⟩; have z0 := HQ.out _ hb1)
    go_ret
    exact ⟨by rw [HV.out]; rfl, bl_then hb (Nat.le_refl _) hb1⟩
  | false =>
    rw [hwr] at HW
    cases h6 : (x.kind == 6) with
    | true =>
      have hv : acE x = true := by unfold acE; rw [hwr, h6]; rfl
      have HV := Lib.hid hv
      clear hv hwr q hB
      go_enter Try.func39, Try.ntmps39
      go_wp2_with (go_at_call 36; refine (HW.out _).mono ?_; rintro e w1 ⟨rfl, hb1⟩; have z0 := HQ.out _ hb1)
      go_ret
      exact ⟨by rw [HV.out]; rfl, bl_then hb (Nat.le_refl _) hb1⟩
    | false =>
      have hv : acE x = (x.kind == 8) := by unfold acE; rw [hwr, h6]; rfl
      have HV := Lib.hid hv
      clear hv hwr q hB
      go_enter Try.func39, Try.ntmps39
      go_wp2_with (go_at_call 36; refine (HW.out _).mono ?_; rintro e w1 ⟨rfl, hb1⟩; have z0 := HQ.out _ hb1)
      go_ret
      exact ⟨by rw [HV.out]; rfl, bl_then hb (Nat.le_refl _) hb1⟩
set_option maxRecDepth 100000 in
set_option maxHeartbeats 4000000 in
theorem rclash_t1 (x y : Ev) (ox : okPt (evP x)) (oy : okPt (evP y)) (w : World) (bt bax bay bwx bwy b1 b2 r : Bool) (ht : (x.tx == y.tx) = bt) (hax : acE x = bax) (hay : acE y = bay) (hwx : wrE x = bwx) (hwy : wrE y = bwy) (h1 : withinP (evP x) (evP y) = b1) (h2 : withinP (evP y) (evP x) = b2) (k0 : b1 = true) (k1 : bt = true) (hr : r = false) :
    Calls Try.prog 19 #[.agg (evA x), .agg (evA y)] w fun e w' => e = .returned (.bool r) ∧ Below w.heap.size w w' := by
  have HAX := Lib.hid (fun W => raccess_any x W)
  have HAY := Lib.hid (fun W => raccess_any y W)
  have HWX := Lib.hid (fun W => rwrites_any x W)
  have HWY := Lib.hid (fun W => rwrites_any y W)
  have H1 := Lib.hid (fun W => rwithin_val (evP x) (evP y) ox W)
  have H2 := Lib.hid (fun W => rwithin_val (evP y) (evP x) oy W)
  rw [hax] at HAX
  rw [hay] at HAY
  rw [hwx] at HWX
  rw [hwy] at HWY
  rw [h1] at H1
  rw [h2] at H2
  subst k0 k1
  subst hr
  have hne : (x.tx != y.tx) = !(x.tx == y.tx) := rfl
  rw [ht] at hne
  simp only [Bool.not_true, Bool.not_false] at hne
  obtain ⟨hO, hP, hQ⟩ := ev_box2 x y w
  obtain ⟨PA, hPA⟩ : ∃ PA, PA = w.heap.size := ⟨_, rfl⟩
  obtain ⟨QA, hQA⟩ : ∃ QA, QA = w.heap.size + 1 := ⟨_, rfl⟩
  rw [← hQA] at hQ
  rw [← hPA] at hP
  have HPA := Lib.hid hPA
  have HQA := Lib.hid hQA
  clear hPA hQA hax hay hwx hwy h1 h2
  go_enter Try.func19, Try.ntmps19
  go_upto_region 1 with fail
  rw [← HQA.out, ← HPA.out]
  generalize ((w.alloc (.cells (evA x) 31)).alloc (.cells (evA y) 31)) = w2 at hO hP hQ ⊢
  have HO := Lib.hid hO
  have HC : Hid (∀ W, Below w2.heap.size w2 W → (W.cell? ⟨PA, 0, none⟩ = some (.int .i64 x.kind) ∧ W.cell? ⟨PA, 1, none⟩ = some (.int .i64 x.tx) ∧ W.cell? ⟨PA, 2, none⟩ = some (.int .i64 x.n0) ∧ W.cell? ⟨PA, 3, none⟩ = some (.int .i64 x.n1) ∧ W.cell? ⟨PA, 4, none⟩ = some (.int .i64 x.n2) ∧ W.cell? ⟨PA, 5, none⟩ = some (.int .i64 x.n3) ∧ W.cell? ⟨PA, 6, none⟩ = some (.int .i64 x.dep) ∧ W.cell? ⟨PA, 7, none⟩ = some (.int .i64 x.mode) ∧ W.cell? ⟨PA, 8, none⟩ = some (.int .i64 x.val) ∧ W.cell? ⟨PA, 9, none⟩ = some (.slice x.rows.1 x.rows.2.1 x.rows.2.2) ∧ W.cell? ⟨PA, 10, none⟩ = some (.int .i64 x.err) ∧ W.cell? ⟨QA, 0, none⟩ = some (.int .i64 y.kind) ∧ W.cell? ⟨QA, 1, none⟩ = some (.int .i64 y.tx) ∧ W.cell? ⟨QA, 2, none⟩ = some (.int .i64 y.n0) ∧ W.cell? ⟨QA, 3, none⟩ = some (.int .i64 y.n1) ∧ W.cell? ⟨QA, 4, none⟩ = some (.int .i64 y.n2) ∧ W.cell? ⟨QA, 5, none⟩ = some (.int .i64 y.n3) ∧ W.cell? ⟨QA, 6, none⟩ = some (.int .i64 y.dep) ∧ W.cell? ⟨QA, 7, none⟩ = some (.int .i64 y.mode) ∧ W.cell? ⟨QA, 8, none⟩ = some (.int .i64 y.val) ∧ W.cell? ⟨QA, 9, none⟩ = some (.slice y.rows.1 y.rows.2.1 y.rows.2.2) ∧ W.cell? ⟨QA, 10, none⟩ = some (.int .i64 y.err))) := Lib.hid (fun W h => ⟨(hP.below h).cell 0, (hP.below h).cell 1, (hP.below h).cell 2, (hP.below h).cell 3, (hP.below h).cell 4, (hP.below h).cell 5, (hP.below h).cell 6, (hP.below h).cell 7, (hP.below h).cell 8, (hP.below h).cell 9, (hP.below h).cell 10, (hQ.below h).cell 0, (hQ.below h).cell 1, (hQ.below h).cell 2, (hQ.below h).cell 3, (hQ.below h).cell 4, (hQ.below h).cell 5, (hQ.below h).cell 6, (hQ.below h).cell 7, (hQ.below h).cell 8, (hQ.below h).cell 9, (hQ.below h).cell 10⟩)
  have HB := Below.refl w2.heap.size w2
  obtain ⟨y0, y1, y2, y3, y4, y5, y6, y7, y8, y9, y10, y11, y12, y13, y14, y15, y16, y17, y18, y19, y20, y21⟩ := HC.out _ HB
  clear hP hQ hO HPA HQA
  have M1 : True := trivial
  have M2 : True := trivial
  have M3 : True := trivial
  go_wp2_with (first
    | (go_at_call 39; (have m_ := M1; clear M1 m_); refine (HAX.out _).mono ?_; rintro e wn ⟨rfl, hbn⟩; replace HB := bl_then HB (Nat.le_refl _) hbn; clear y0 y1 y2 y3 y4 y5 y6 y7 y8 y9 y10 y11 y12 y13 y14 y15 y16 y17 y18 y19 y20 y21; obtain ⟨y0, y1, y2, y3, y4, y5, y6, y7, y8, y9, y10, y11, y12, y13, y14, y15, y16, y17, y18, y19, y20, y21⟩ := HC.out _ HB)
    | (go_at_call 39; refine (HAY.out _).mono ?_; rintro e wn ⟨rfl, hbn⟩; replace HB := bl_then HB (Nat.le_refl _) hbn; clear y0 y1 y2 y3 y4 y5 y6 y7 y8 y9 y10 y11 y12 y13 y14 y15 y16 y17 y18 y19 y20 y21; obtain ⟨y0, y1, y2, y3, y4, y5, y6, y7, y8, y9, y10, y11, y12, y13, y14, y15, y16, y17, y18, y19, y20, y21⟩ := HC.out _ HB)
    | (go_at_call 36; (have m_ := M2; clear M2 m_); refine (HWX.out _).mono ?_; rintro e wn ⟨rfl, hbn⟩; replace HB := bl_then HB (Nat.le_refl _) hbn; clear y0 y1 y2 y3 y4 y5 y6 y7 y8 y9 y10 y11 y12 y13 y14 y15 y16 y17 y18 y19 y20 y21; obtain ⟨y0, y1, y2, y3, y4, y5, y6, y7, y8, y9, y10, y11, y12, y13, y14, y15, y16, y17, y18, y19, y20, y21⟩ := HC.out _ HB)
    | (go_at_call 36; refine (HWY.out _).mono ?_; rintro e wn ⟨rfl, hbn⟩; replace HB := bl_then HB (Nat.le_refl _) hbn; clear y0 y1 y2 y3 y4 y5 y6 y7 y8 y9 y10 y11 y12 y13 y14 y15 y16 y17 y18 y19 y20 y21; obtain ⟨y0, y1, y2, y3, y4, y5, y6, y7, y8, y9, y10, y11, y12, y13, y14, y15, y16, y17, y18, y19, y20, y21⟩ := HC.out _ HB)
    | (go_at_call 38; (have m_ := M3; clear M3 m_); refine (H1.out _).mono ?_; rintro e wn ⟨rfl, hbn⟩; replace HB := bl_then HB (Nat.le_refl _) hbn; clear y0 y1 y2 y3 y4 y5 y6 y7 y8 y9 y10 y11 y12 y13 y14 y15 y16 y17 y18 y19 y20 y21; obtain ⟨y0, y1, y2, y3, y4, y5, y6, y7, y8, y9, y10, y11, y12, y13, y14, y15, y16, y17, y18, y19, y20, y21⟩ := HC.out _ HB)
    | (go_at_call 38; refine (H2.out _).mono ?_; rintro e wn ⟨rfl, hbn⟩; replace HB := bl_then HB (Nat.le_refl _) hbn; clear y0 y1 y2 y3 y4 y5 y6 y7 y8 y9 y10 y11 y12 y13 y14 y15 y16 y17 y18 y19 y20 y21; obtain ⟨y0, y1, y2, y3, y4, y5, y6, y7, y8, y9, y10, y11, y12, y13, y14, y15, y16, y17, y18, y19, y20, y21⟩ := HC.out _ HB))
  go_ret
  exact ⟨rfl, HO.out.trans (HB.mono HO.out.size)⟩
set_option maxRecDepth 100000 in
set_option maxHeartbeats 4000000 in
theorem rclash_ax1 (x y : Ev) (ox : okPt (evP x)) (oy : okPt (evP y)) (w : World) (bt bax bay bwx bwy b1 b2 r : Bool) (ht : (x.tx == y.tx) = bt) (hax : acE x = bax) (hay : acE y = bay) (hwx : wrE x = bwx) (hwy : wrE y = bwy) (h1 : withinP (evP x) (evP y) = b1) (h2 : withinP (evP y) (evP x) = b2) (k0 : b1 = true) (k1 : bt = false) (k2 : bax = false) (hr : r = false) :
    Calls Try.prog 19 #[.agg (evA x), .agg (evA y)] w fun e w' => e = .returned (.bool r) ∧ Below w.heap.size w w' := by
  have HAX := Lib.hid (fun W => raccess_any x W)
  have HAY := Lib.hid (fun W => raccess_any y W)
  have HWX := Lib.hid (fun W => rwrites_any x W)
  have HWY := Lib.hid (fun W => rwrites_any y W)
  have H1 := Lib.hid (fun W => rwithin_val (evP x) (evP y) ox W)
  have H2 := Lib.hid (fun W => rwithin_val (evP y) (evP x) oy W)
  rw [hax] at HAX
  rw [hay] at HAY
  rw [hwx] at HWX
  rw [hwy] at HWY
  rw [h1] at H1
  rw [h2] at H2
  subst k0 k1 k2
  subst hr
  have hne : (x.tx != y.tx) = !(x.tx == y.tx) := rfl
  rw [ht] at hne
  simp only [Bool.not_true, Bool.not_false] at hne
  obtain ⟨hO, hP, hQ⟩ := ev_box2 x y w
  obtain ⟨PA, hPA⟩ : ∃ PA, PA = w.heap.size := ⟨_, rfl⟩
  obtain ⟨QA, hQA⟩ : ∃ QA, QA = w.heap.size + 1 := ⟨_, rfl⟩
  rw [← hQA] at hQ
  rw [← hPA] at hP
  have HPA := Lib.hid hPA
  have HQA := Lib.hid hQA
  clear hPA hQA hax hay hwx hwy h1 h2
  go_enter Try.func19, Try.ntmps19
  go_upto_region 1 with fail
  rw [← HQA.out, ← HPA.out]
  generalize ((w.alloc (.cells (evA x) 31)).alloc (.cells (evA y) 31)) = w2 at hO hP hQ ⊢
  have HO := Lib.hid hO
  have HC : Hid (∀ W, Below w2.heap.size w2 W → (W.cell? ⟨PA, 0, none⟩ = some (.int .i64 x.kind) ∧ W.cell? ⟨PA, 1, none⟩ = some (.int .i64 x.tx) ∧ W.cell? ⟨PA, 2, none⟩ = some (.int .i64 x.n0) ∧ W.cell? ⟨PA, 3, none⟩ = some (.int .i64 x.n1) ∧ W.cell? ⟨PA, 4, none⟩ = some (.int .i64 x.n2) ∧ W.cell? ⟨PA, 5, none⟩ = some (.int .i64 x.n3) ∧ W.cell? ⟨PA, 6, none⟩ = some (.int .i64 x.dep) ∧ W.cell? ⟨PA, 7, none⟩ = some (.int .i64 x.mode) ∧ W.cell? ⟨PA, 8, none⟩ = some (.int .i64 x.val) ∧ W.cell? ⟨PA, 9, none⟩ = some (.slice x.rows.1 x.rows.2.1 x.rows.2.2) ∧ W.cell? ⟨PA, 10, none⟩ = some (.int .i64 x.err) ∧ W.cell? ⟨QA, 0, none⟩ = some (.int .i64 y.kind) ∧ W.cell? ⟨QA, 1, none⟩ = some (.int .i64 y.tx) ∧ W.cell? ⟨QA, 2, none⟩ = some (.int .i64 y.n0) ∧ W.cell? ⟨QA, 3, none⟩ = some (.int .i64 y.n1) ∧ W.cell? ⟨QA, 4, none⟩ = some (.int .i64 y.n2) ∧ W.cell? ⟨QA, 5, none⟩ = some (.int .i64 y.n3) ∧ W.cell? ⟨QA, 6, none⟩ = some (.int .i64 y.dep) ∧ W.cell? ⟨QA, 7, none⟩ = some (.int .i64 y.mode) ∧ W.cell? ⟨QA, 8, none⟩ = some (.int .i64 y.val) ∧ W.cell? ⟨QA, 9, none⟩ = some (.slice y.rows.1 y.rows.2.1 y.rows.2.2) ∧ W.cell? ⟨QA, 10, none⟩ = some (.int .i64 y.err))) := Lib.hid (fun W h => ⟨(hP.below h).cell 0, (hP.below h).cell 1, (hP.below h).cell 2, (hP.below h).cell 3, (hP.below h).cell 4, (hP.below h).cell 5, (hP.below h).cell 6, (hP.below h).cell 7, (hP.below h).cell 8, (hP.below h).cell 9, (hP.below h).cell 10, (hQ.below h).cell 0, (hQ.below h).cell 1, (hQ.below h).cell 2, (hQ.below h).cell 3, (hQ.below h).cell 4, (hQ.below h).cell 5, (hQ.below h).cell 6, (hQ.below h).cell 7, (hQ.below h).cell 8, (hQ.below h).cell 9, (hQ.below h).cell 10⟩)
  have HB := Below.refl w2.heap.size w2
  obtain ⟨y0, y1, y2, y3, y4, y5, y6, y7, y8, y9, y10, y11, y12, y13, y14, y15, y16, y17, y18, y19, y20, y21⟩ := HC.out _ HB
  clear hP hQ hO HPA HQA
  have M1 : True := trivial
  have M2 : True := trivial
  have M3 : True := trivial
  go_wp2_with (first
    | (go_at_call 39; (have m_ := M1; clear M1 m_); refine (HAX.out _).mono ?_; rintro e wn ⟨rfl, hbn⟩; replace HB := bl_then HB (Nat.le_refl _) hbn; clear y0 y1 y2 y3 y4 y5 y6 y7 y8 y9 y10 y11 y12 y13 y14 y15 y16 y17 y18 y19 y20 y21; obtain ⟨y0, y1, y2, y3, y4, y5, y6, y7, y8, y9, y10, y11, y12, y13, y14, y15, y16, y17, y18, y19, y20, y21⟩ := HC.out _ HB)
    | (go_at_call 39; refine (HAY.out _).mono ?_; rintro e wn ⟨rfl, hbn⟩; replace HB := bl_then HB (Nat.le_refl _) hbn; clear y0 y1 y2 y3 y4 y5 y6 y7 y8 y9 y10 y11 y12 y13 y14 y15 y16 y17 y18 y19 y20 y21; obtain ⟨y0, y1, y2, y3, y4, y5, y6, y7, y8, y9, y10, y11, y12, y13, y14, y15, y16, y17, y18, y19, y20, y21⟩ := HC.out _ HB)
    | (go_at_call 36; (have m_ := M2; clear M2 m_); refine (HWX.out _).mono ?_; rintro e wn ⟨rfl, hbn⟩; replace HB := bl_then HB (Nat.le_refl _) hbn; clear y0 y1 y2 y3 y4 y5 y6 y7 y8 y9 y10 y11 y12 y13 y14 y15 y16 y17 y18 y19 y20 y21; obtain ⟨y0, y1, y2, y3, y4, y5, y6, y7, y8, y9, y10, y11, y12, y13, y14, y15, y16, y17, y18, y19, y20, y21⟩ := HC.out _ HB)
    | (go_at_call 36; refine (HWY.out _).mono ?_; rintro e wn ⟨rfl, hbn⟩; replace HB := bl_then HB (Nat.le_refl _) hbn; clear y0 y1 y2 y3 y4 y5 y6 y7 y8 y9 y10 y11 y12 y13 y14 y15 y16 y17 y18 y19 y20 y21; obtain ⟨y0, y1, y2, y3, y4, y5, y6, y7, y8, y9, y10, y11, y12, y13, y14, y15, y16, y17, y18, y19, y20, y21⟩ := HC.out _ HB)
    | (go_at_call 38; (have m_ := M3; clear M3 m_); refine (H1.out _).mono ?_; rintro e wn ⟨rfl, hbn⟩; replace HB := bl_then HB (Nat.le_refl _) hbn; clear y0 y1 y2 y3 y4 y5 y6 y7 y8 y9 y10 y11 y12 y13 y14 y15 y16 y17 y18 y19 y20 y21; obtain ⟨y0, y1, y2, y3, y4, y5, y6, y7, y8, y9, y10, y11, y12, y13, y14, y15, y16, y17, y18, y19, y20, y21⟩ := HC.out _ HB)
    | (go_at_call 38; refine (H2.out _).mono ?_; rintro e wn ⟨rfl, hbn⟩; replace HB := bl_then HB (Nat.le_refl _) hbn; clear y0 y1 y2 y3 y4 y5 y6 y7 y8 y9 y10 y11 y12 y13 y14 y15 y16 y17 y18 y19 y20 y21; obtain ⟨y0, y1, y2, y3, y4, y5, y6, y7, y8, y9, y10, y11, y12, y13, y14, y15, y16, y17, y18, y19, y20, y21⟩ := HC.out _ HB))
  go_ret
  exact ⟨rfl, HO.out.trans (HB.mono HO.out.size)⟩
set_option maxRecDepth 100000 in
set_option maxHeartbeats 4000000 in
theorem rclash_ay1 (x y : Ev) (ox : okPt (evP x)) (oy : okPt (evP y)) (w : World) (bt bax bay bwx bwy b1 b2 r : Bool) (ht : (x.tx == y.tx) = bt) (hax : acE x = bax) (hay : acE y = bay) (hwx : wrE x = bwx) (hwy : wrE y = bwy) (h1 : withinP (evP x) (evP y) = b1) (h2 : withinP (evP y) (evP x) = b2) (k0 : b1 = true) (k1 : bt = false) (k2 : bax = true) (k3 : bay = false) (hr : r = false) :
    Calls Try.prog 19 #[.agg (evA x), .agg (evA y)] w fun e w' => e = .returned (.bool r) ∧ Below w.heap.size w w' := by
  have HAX := Lib.hid (fun W => raccess_any x W)
  have HAY := Lib.hid (fun W => raccess_any y W)
  have HWX := Lib.hid (fun W => rwrites_any x W)
  have HWY := Lib.hid (fun W => rwrites_any y W)
  have H1 := Lib.hid (fun W => rwithin_val (evP x) (evP y) ox W)
  have H2 := Lib.hid (fun W => rwithin_val (evP y) (evP x) oy W)
  rw [hax] at HAX
  rw [hay] at HAY
  rw [hwx] at HWX
  rw [hwy] at HWY
  rw [h1] at H1
  rw [h2] at H2
  subst k0 k1 k2 k3
  subst hr
  have hne : (x.tx != y.tx) = !(x.tx == y.tx) := rfl
  rw [ht] at hne
  simp only [Bool.not_true, Bool.not_false] at hne
  obtain ⟨hO, hP, hQ⟩ := ev_box2 x y w
  obtain ⟨PA, hPA⟩ : ∃ PA, PA = w.heap.size := ⟨_, rfl⟩
  obtain ⟨QA, hQA⟩ : ∃ QA, QA = w.heap.size + 1 := ⟨_, rfl⟩
  rw [← hQA] at hQ
  rw [← hPA] at hP
  have HPA := Lib.hid hPA
  have HQA := Lib.hid hQA
  clear hPA hQA hax hay hwx hwy h1 h2
  go_enter Try.func19, Try.ntmps19
  go_upto_region 1 with fail
  rw [← HQA.out, ← HPA.out]
  generalize ((w.alloc (.cells (evA x) 31)).alloc (.cells (evA y) 31)) = w2 at hO hP hQ ⊢
  have HO := Lib.hid hO
  have HC : Hid (∀ W, Below w2.heap.size w2 W → (W.cell? ⟨PA, 0, none⟩ = some (.int .i64 x.kind) ∧ W.cell? ⟨PA, 1, none⟩ = some (.int .i64 x.tx) ∧ W.cell? ⟨PA, 2, none⟩ = some (.int .i64 x.n0) ∧ W.cell? ⟨PA, 3, none⟩ = some (.int .i64 x.n1) ∧ W.cell? ⟨PA, 4, none⟩ = some (.int .i64 x.n2) ∧ W.cell? ⟨PA, 5, none⟩ = some (.int .i64 x.n3) ∧ W.cell? ⟨PA, 6, none⟩ = some (.int .i64 x.dep) ∧ W.cell? ⟨PA, 7, none⟩ = some (.int .i64 x.mode) ∧ W.cell? ⟨PA, 8, none⟩ = some (.int .i64 x.val) ∧ W.cell? ⟨PA, 9, none⟩ = some (.slice x.rows.1 x.rows.2.1 x.rows.2.2) ∧ W.cell? ⟨PA, 10, none⟩ = some (.int .i64 x.err) ∧ W.cell? ⟨QA, 0, none⟩ = some (.int .i64 y.kind) ∧ W.cell? ⟨QA, 1, none⟩ = some (.int .i64 y.tx) ∧ W.cell? ⟨QA, 2, none⟩ = some (.int .i64 y.n0) ∧ W.cell? ⟨QA, 3, none⟩ = some (.int .i64 y.n1) ∧ W.cell? ⟨QA, 4, none⟩ = some (.int .i64 y.n2) ∧ W.cell? ⟨QA, 5, none⟩ = some (.int .i64 y.n3) ∧ W.cell? ⟨QA, 6, none⟩ = some (.int .i64 y.dep) ∧ W.cell? ⟨QA, 7, none⟩ = some (.int .i64 y.mode) ∧ W.cell? ⟨QA, 8, none⟩ = some (.int .i64 y.val) ∧ W.cell? ⟨QA, 9, none⟩ = some (.slice y.rows.1 y.rows.2.1 y.rows.2.2) ∧ W.cell? ⟨QA, 10, none⟩ = some (.int .i64 y.err))) := Lib.hid (fun W h => ⟨(hP.below h).cell 0, (hP.below h).cell 1, (hP.below h).cell 2, (hP.below h).cell 3, (hP.below h).cell 4, (hP.below h).cell 5, (hP.below h).cell 6, (hP.below h).cell 7, (hP.below h).cell 8, (hP.below h).cell 9, (hP.below h).cell 10, (hQ.below h).cell 0, (hQ.below h).cell 1, (hQ.below h).cell 2, (hQ.below h).cell 3, (hQ.below h).cell 4, (hQ.below h).cell 5, (hQ.below h).cell 6, (hQ.below h).cell 7, (hQ.below h).cell 8, (hQ.below h).cell 9, (hQ.below h).cell 10⟩)
  have HB := Below.refl w2.heap.size w2
  obtain ⟨y0, y1, y2, y3, y4, y5, y6, y7, y8, y9, y10, y11, y12, y13, y14, y15, y16, y17, y18, y19, y20, y21⟩ := HC.out _ HB
  clear hP hQ hO HPA HQA
  have M1 : True := trivial
  have M2 : True := trivial
  have M3 : True := trivial
  go_wp2_with (first
    | (go_at_call 39; (have m_ := M1; clear M1 m_); refine (HAX.out _).mono ?_; rintro e wn ⟨rfl, hbn⟩; replace HB := bl_then HB (Nat.le_refl _) hbn; clear y0 y1 y2 y3 y4 y5 y6 y7 y8 y9 y10 y11 y12 y13 y14 y15 y16 y17 y18 y19 y20 y21; obtain ⟨y0, y1, y2, y3, y4, y5, y6, y7, y8, y9, y10, y11, y12, y13, y14, y15, y16, y17, y18, y19, y20, y21⟩ := HC.out _ HB)
    | (go_at_call 39; refine (HAY.out _).mono ?_; rintro e wn ⟨rfl, hbn⟩; replace HB := bl_then HB (Nat.le_refl _) hbn; clear y0 y1 y2 y3 y4 y5 y6 y7 y8 y9 y10 y11 y12 y13 y14 y15 y16 y17 y18 y19 y20 y21; obtain ⟨y0, y1, y2, y3, y4, y5, y6, y7, y8, y9, y10, y11, y12, y13, y14, y15, y16, y17, y18, y19, y20, y21⟩ := HC.out _ HB)
    | (go_at_call 36; (have m_ := M2; clear M2 m_); refine (HWX.out _).mono ?_; rintro e wn ⟨rfl, hbn⟩; replace HB := bl_then HB (Nat.le_refl _) hbn; clear y0 y1 y2 y3 y4 y5 y6 y7 y8 y9 y10 y11 y12 y13 y14 y15 y16 y17 y18 y19 y20 y21; obtain ⟨y0, y1, y2, y3, y4, y5, y6, y7, y8, y9, y10, y11, y12, y13, y14, y15, y16, y17, y18, y19, y20, y21⟩ := HC.out _ HB)
    | (go_at_call 36; refine (HWY.out _).mono ?_; rintro e wn ⟨rfl, hbn⟩; replace HB := bl_then HB (Nat.le_refl _) hbn; clear y0 y1 y2 y3 y4 y5 y6 y7 y8 y9 y10 y11 y12 y13 y14 y15 y16 y17 y18 y19 y20 y21; obtain ⟨y0, y1, y2, y3, y4, y5, y6, y7, y8, y9, y10, y11, y12, y13, y14, y15, y16, y17, y18, y19, y20, y21⟩ := HC.out _ HB)
    | (go_at_call 38; (have m_ := M3; clear M3 m_); refine (H1.out _).mono ?_; rintro e wn ⟨rfl, hbn⟩; replace HB := bl_then HB (Nat.le_refl _) hbn; clear y0 y1 y2 y3 y4 y5 y6 y7 y8 y9 y10 y11 y12 y13 y14 y15 y16 y17 y18 y19 y20 y21; obtain ⟨y0, y1, y2, y3, y4, y5, y6, y7, y8, y9, y10, y11, y12, y13, y14, y15, y16, y17, y18, y19, y20, y21⟩ := HC.out _ HB)
    | (go_at_call 38; refine (H2.out _).mono ?_; rintro e wn ⟨rfl, hbn⟩; replace HB := bl_then HB (Nat.le_refl _) hbn; clear y0 y1 y2 y3 y4 y5 y6 y7 y8 y9 y10 y11 y12 y13 y14 y15 y16 y17 y18 y19 y20 y21; obtain ⟨y0, y1, y2, y3, y4, y5, y6, y7, y8, y9, y10, y11, y12, y13, y14, y15, y16, y17, y18, y19, y20, y21⟩ := HC.out _ HB))
  go_ret
  exact ⟨rfl, HO.out.trans (HB.mono HO.out.size)⟩
set_option maxRecDepth 100000 in
set_option maxHeartbeats 4000000 in
theorem rclash_ww1 (x y : Ev) (ox : okPt (evP x)) (oy : okPt (evP y)) (w : World) (bt bax bay bwx bwy b1 b2 r : Bool) (ht : (x.tx == y.tx) = bt) (hax : acE x = bax) (hay : acE y = bay) (hwx : wrE x = bwx) (hwy : wrE y = bwy) (h1 : withinP (evP x) (evP y) = b1) (h2 : withinP (evP y) (evP x) = b2) (k0 : b1 = true) (k1 : bt = false) (k2 : bax = true) (k3 : bay = true) (k4 : bwx = false) (k5 : bwy = false) (hr : r = false) :
    Calls Try.prog 19 #[.agg (evA x), .agg (evA y)] w fun e w' => e = .returned (.bool r) ∧ Below w.heap.size w w' := by
  have HAX := Lib.hid (fun W => raccess_any x W)
  have HAY := Lib.hid (fun W => raccess_any y W)
  have HWX := Lib.hid (fun W => rwrites_any x W)
  have HWY := Lib.hid (fun W => rwrites_any y W)
  have H1 := Lib.hid (fun W => rwithin_val (evP x) (evP y) ox W)
  have H2 := Lib.hid (fun W => rwithin_val (evP y) (evP x) oy W)
  rw [hax] at HAX
  rw [hay] at HAY
  rw [hwx] at HWX
  rw [hwy] at HWY
  rw [h1] at H1
  rw [h2] at H2
  subst k0 k1 k2 k3 k4 k5
  subst hr
  have hne : (x.tx != y.tx) = !(x.tx == y.tx) := rfl
  rw [ht] at hne
  simp only [Bool.not_true, Bool.not_false] at hne
  obtain ⟨hO, hP, hQ⟩ := ev_box2 x y w
  obtain ⟨PA, hPA⟩ : ∃ PA, PA = w.heap.size := ⟨_, rfl⟩
  obtain ⟨QA, hQA⟩ : ∃ QA, QA = w.heap.size + 1 := ⟨_, rfl⟩
  rw [← hQA] at hQ
  rw [← hPA] at hP
  have HPA := Lib.hid hPA
  have HQA := Lib.hid hQA
  clear hPA hQA hax hay hwx hwy h1 h2
  go_enter Try.func19, Try.ntmps19
  go_upto_region 1 with fail
  rw [← HQA.out, ← HPA.out]
  generalize ((w.alloc (.cells (evA x) 31)).alloc (.cells (evA y) 31)) = w2 at hO hP hQ ⊢
  have HO := Lib.hid hO
  have HC : Hid (∀ W, Below w2.heap.size w2 W → (W.cell? ⟨PA, 0, none⟩ = some (.int .i64 x.kind) ∧ W.cell? ⟨PA, 1, none⟩ = some (.int .i64 x.tx) ∧ W.cell? ⟨PA, 2, none⟩ = some (.int .i64 x.n0) ∧ W.cell? ⟨PA, 3, none⟩ = some (.int .i64 x.n1) ∧ W.cell? ⟨PA, 4, none⟩ = some (.int .i64 x.n2) ∧ W.cell? ⟨PA, 5, none⟩ = some (.int .i64 x.n3) ∧ W.cell? ⟨PA, 6, none⟩ = some (.int .i64 x.dep) ∧ W.cell? ⟨PA, 7, none⟩ = some (.int .i64 x.mode) ∧ W.cell? ⟨PA, 8, none⟩ = some (.int .i64 x.val) ∧ W.cell? ⟨PA, 9, none⟩ = some (.slice x.rows.1 x.rows.2.1 x.rows.2.2) ∧ W.cell? ⟨PA, 10, none⟩ = some (.int .i64 x.err) ∧ W.cell? ⟨QA, 0, none⟩ = some (.int .i64 y.kind) ∧ W.cell? ⟨QA, 1, none⟩ = some (.int .i64 y.tx) ∧ W.cell? ⟨QA, 2, none⟩ = some (.int .i64 y.n0) ∧ W.cell? ⟨QA, 3, none⟩ = some (.int .i64 y.n1) ∧ W.cell? ⟨QA, 4, none⟩ = some (.int .i64 y.n2) ∧ W.cell? ⟨QA, 5, none⟩ = some (.int .i64 y.n3) ∧ W.cell? ⟨QA, 6, none⟩ = some (.int .i64 y.dep) ∧ W.cell? ⟨QA, 7, none⟩ = some (.int .i64 y.mode) ∧ W.cell? ⟨QA, 8, none⟩ = some (.int .i64 y.val) ∧ W.cell? ⟨QA, 9, none⟩ = some (.slice y.rows.1 y.rows.2.1 y.rows.2.2) ∧ W.cell? ⟨QA, 10, none⟩ = some (.int .i64 y.err))) := Lib.hid (fun W h => ⟨(hP.below h).cell 0, (hP.below h).cell 1, (hP.below h).cell 2, (hP.below h).cell 3, (hP.below h).cell 4, (hP.below h).cell 5, (hP.below h).cell 6, (hP.below h).cell 7, (hP.below h).cell 8, (hP.below h).cell 9, (hP.below h).cell 10, (hQ.below h).cell 0, (hQ.below h).cell 1, (hQ.below h).cell 2, (hQ.below h).cell 3, (hQ.below h).cell 4, (hQ.below h).cell 5, (hQ.below h).cell 6, (hQ.below h).cell 7, (hQ.below h).cell 8, (hQ.below h).cell 9, (hQ.below h).cell 10⟩)
  have HB := Below.refl w2.heap.size w2
  obtain ⟨y0, y1, y2, y3, y4, y5, y6, y7, y8, y9, y10, y11, y12, y13, y14, y15, y16, y17, y18, y19, y20, y21⟩ := HC.out _ HB
  clear hP hQ hO HPA HQA
  have M1 : True := trivial
  have M2 : True := trivial
  have M3 : True := trivial
  go_wp2_with (first
    | (go_at_call 39; (have m_ := M1; clear M1 m_); refine (HAX.out _).mono ?_; rintro e wn ⟨rfl, hbn⟩; replace HB := bl_then HB (Nat.le_refl _) hbn; clear y0 y1 y2 y3 y4 y5 y6 y7 y8 y9 y10 y11 y12 y13 y14 y15 y16 y17 y18 y19 y20 y21; obtain ⟨y0, y1, y2, y3, y4, y5, y6, y7, y8, y9, y10, y11, y12, y13, y14, y15, y16, y17, y18, y19, y20, y21⟩ := HC.out _ HB)
    | (go_at_call 39; refine (HAY.out _).mono ?_; rintro e wn ⟨rfl, hbn⟩; replace HB := bl_then HB (Nat.le_refl _) hbn; clear y0 y1 y2 y3 y4 y5 y6 y7 y8 y9 y10 y11 y12 y13 y14 y15 y16 y17 y18 y19 y20 y21; obtain ⟨y0, y1, y2, y3, y4, y5, y6, y7, y8, y9, y10, y11, y12, y13, y14, y15, y16, y17, y18, y19, y20, y21⟩ := HC.out _ HB)
    | (go_at_call 36; (have m_ := M2; clear M2 m_); refine (HWX.out _).mono ?_; rintro e wn ⟨rfl, hbn⟩; replace HB := bl_then HB (Nat.le_refl _) hbn; clear y0 y1 y2 y3 y4 y5 y6 y7 y8 y9 y10 y11 y12 y13 y14 y15 y16 y17 y18 y19 y20 y21; obtain ⟨y0, y1, y2, y3, y4, y5, y6, y7, y8, y9, y10, y11, y12, y13, y14, y15, y16, y17, y18, y19, y20, y21⟩ := HC.out _ HB)
    | (go_at_call 36; refine (HWY.out _).mono ?_; rintro e wn ⟨rfl, hbn⟩; replace HB := bl_then HB (Nat.le_refl _) hbn; clear y0 y1 y2 y3 y4 y5 y6 y7 y8 y9 y10 y11 y12 y13 y14 y15 y16 y17 y18 y19 y20 y21; obtain ⟨y0, y1, y2, y3, y4, y5, y6, y7, y8, y9, y10, y11, y12, y13, y14, y15, y16, y17, y18, y19, y20, y21⟩ := HC.out _ HB)
    | (go_at_call 38; (have m_ := M3; clear M3 m_); refine (H1.out _).mono ?_; rintro e wn ⟨rfl, hbn⟩; replace HB := bl_then HB (Nat.le_refl _) hbn; clear y0 y1 y2 y3 y4 y5 y6 y7 y8 y9 y10 y11 y12 y13 y14 y15 y16 y17 y18 y19 y20 y21; obtain ⟨y0, y1, y2, y3, y4, y5, y6, y7, y8, y9, y10, y11, y12, y13, y14, y15, y16, y17, y18, y19, y20, y21⟩ := HC.out _ HB)
    | (go_at_call 38; refine (H2.out _).mono ?_; rintro e wn ⟨rfl, hbn⟩; replace HB := bl_then HB (Nat.le_refl _) hbn; clear y0 y1 y2 y3 y4 y5 y6 y7 y8 y9 y10 y11 y12 y13 y14 y15 y16 y17 y18 y19 y20 y21; obtain ⟨y0, y1, y2, y3, y4, y5, y6, y7, y8, y9, y10, y11, y12, y13, y14, y15, y16, y17, y18, y19, y20, y21⟩ := HC.out _ HB))
  go_ret
  exact ⟨rfl, HO.out.trans (HB.mono HO.out.size)⟩
set_option maxRecDepth 100000 in
set_option maxHeartbeats 4000000 in
theorem rclash_x1 (x y : Ev) (ox : okPt (evP x)) (oy : okPt (evP y)) (w : World) (bt bax bay bwx bwy b1 b2 r : Bool) (ht : (x.tx == y.tx) = bt) (hax : acE x = bax) (hay : acE y = bay) (hwx : wrE x = bwx) (hwy : wrE y = bwy) (h1 : withinP (evP x) (evP y) = b1) (h2 : withinP (evP y) (evP x) = b2) (k0 : b1 = true) (k1 : bt = false) (k2 : bax = true) (k3 : bay = true) (k4 : bwx = true) (hr : r = true) :
    Calls Try.prog 19 #[.agg (evA x), .agg (evA y)] w fun e w' => e = .returned (.bool r) ∧ Below w.heap.size w w' := by
  have HAX := Lib.hid (fun W => raccess_any x W)
  have HAY := Lib.hid (fun W => raccess_any y W)
  have HWX := Lib.hid (fun W => rwrites_any x W)
  have HWY := Lib.hid (fun W => rwrites_any y W)
  have H1 := Lib.hid (fun W => rwithin_val (evP x) (evP y) ox W)
  have H2 := Lib.hid (fun W => rwithin_val (evP y) (evP x) oy W)
  rw [hax] at HAX
  rw [hay] at HAY
  rw [hwx] at HWX
  rw [hwy] at HWY
  rw [h1] at H1
  rw [h2] at H2
  subst k0 k1 k2 k3 k4
  subst hr
  have hne : (x.tx != y.tx) = !(x.tx == y.tx) := rfl
  rw [ht] at hne
  simp only [Bool.not_true, Bool.not_false] at hne
  obtain ⟨hO, hP, hQ⟩ := ev_box2 x y w
  obtain ⟨PA, hPA⟩ : ∃ PA, PA = w.heap.size := ⟨_, rfl⟩
  obtain ⟨QA, hQA⟩ : ∃ QA, QA = w.heap.size + 1 := ⟨_, rfl⟩
  rw [← hQA] at hQ
  rw [← hPA] at hP
  have HPA := Lib.hid hPA
  have HQA := Lib.hid hQA
  clear hPA hQA hax hay hwx hwy h1 h2
  go_enter Try.func19, Try.ntmps19
  go_upto_region 1 with fail
  rw [← HQA.out, ← HPA.out]
  generalize ((w.alloc (.cells (evA x) 31)).alloc (.cells (evA y) 31)) = w2 at hO hP hQ ⊢
  have HO := Lib.hid hO
  have HC : Hid (∀ W, Below w2.heap.size w2 W → (W.cell? ⟨PA, 0, none⟩ = some (.int .i64 x.kind) ∧ W.cell? ⟨PA, 1, none⟩ = some (.int .i64 x.tx) ∧ W.cell? ⟨PA, 2, none⟩ = some (.int .i64 x.n0) ∧ W.cell? ⟨PA, 3, none⟩ = some (.int .i64 x.n1) ∧ W.cell? ⟨PA, 4, none⟩ = some (.int .i64 x.n2) ∧ W.cell? ⟨PA, 5, none⟩ = some (.int .i64 x.n3) ∧ W.cell? ⟨PA, 6, none⟩ = some (.int .i64 x.dep) ∧ W.cell? ⟨PA, 7, none⟩ = some (.int .i64 x.mode) ∧ W.cell? ⟨PA, 8, none⟩ = some (.int .i64 x.val) ∧ W.cell? ⟨PA, 9, none⟩ = some (.slice x.rows.1 x.rows.2.1 x.rows.2.2) ∧ W.cell? ⟨PA, 10, none⟩ = some (.int .i64 x.err) ∧ W.cell? ⟨QA, 0, none⟩ = some (.int .i64 y.kind) ∧ W.cell? ⟨QA, 1, none⟩ = some (.int .i64 y.tx) ∧ W.cell? ⟨QA, 2, none⟩ = some (.int .i64 y.n0) ∧ W.cell? ⟨QA, 3, none⟩ = some (.int .i64 y.n1) ∧ W.cell? ⟨QA, 4, none⟩ = some (.int .i64 y.n2) ∧ W.cell? ⟨QA, 5, none⟩ = some (.int .i64 y.n3) ∧ W.cell? ⟨QA, 6, none⟩ = some (.int .i64 y.dep) ∧ W.cell? ⟨QA, 7, none⟩ = some (.int .i64 y.mode) ∧ W.cell? ⟨QA, 8, none⟩ = some (.int .i64 y.val) ∧ W.cell? ⟨QA, 9, none⟩ = some (.slice y.rows.1 y.rows.2.1 y.rows.2.2) ∧ W.cell? ⟨QA, 10, none⟩ = some (.int .i64 y.err))) := Lib.hid (fun W h => ⟨(hP.below h).cell 0, (hP.below h).cell 1, (hP.below h).cell 2, (hP.below h).cell 3, (hP.below h).cell 4, (hP.below h).cell 5, (hP.below h).cell 6, (hP.below h).cell 7, (hP.below h).cell 8, (hP.below h).cell 9, (hP.below h).cell 10, (hQ.below h).cell 0, (hQ.below h).cell 1, (hQ.below h).cell 2, (hQ.below h).cell 3, (hQ.below h).cell 4, (hQ.below h).cell 5, (hQ.below h).cell 6, (hQ.below h).cell 7, (hQ.below h).cell 8, (hQ.below h).cell 9, (hQ.below h).cell 10⟩)
  have HB := Below.refl w2.heap.size w2
  obtain ⟨y0, y1, y2, y3, y4, y5, y6, y7, y8, y9, y10, y11, y12, y13, y14, y15, y16, y17, y18, y19, y20, y21⟩ := HC.out _ HB
  clear hP hQ hO HPA HQA
  have M1 : True := trivial
  have M2 : True := trivial
  have M3 : True := trivial
  go_wp2_with (first
    | (go_at_call 39; (have m_ := M1; clear M1 m_); refine (HAX.out _).mono ?_; rintro e wn ⟨rfl, hbn⟩; replace HB := bl_then HB (Nat.le_refl _) hbn; clear y0 y1 y2 y3 y4 y5 y6 y7 y8 y9 y10 y11 y12 y13 y14 y15 y16 y17 y18 y19 y20 y21; obtain ⟨y0, y1, y2, y3, y4, y5, y6, y7, y8, y9, y10, y11, y12, y13, y14, y15, y16, y17, y18, y19, y20, y21⟩ := HC.out _ HB)
    | (go_at_call 39; refine (HAY.out _).mono ?_; rintro e wn ⟨rfl, hbn⟩; replace HB := bl_then HB (Nat.le_refl _) hbn; clear y0 y1 y2 y3 y4 y5 y6 y7 y8 y9 y10 y11 y12 y13 y14 y15 y16 y17 y18 y19 y20 y21; obtain ⟨y0, y1, y2, y3, y4, y5, y6, y7, y8, y9, y10, y11, y12, y13, y14, y15, y16, y17, y18, y19, y20, y21⟩ := HC.out _ HB)
    | (go_at_call 36; (have m_ := M2; clear M2 m_); refine (HWX.out _).mono ?_; rintro e wn ⟨rfl, hbn⟩; replace HB := bl_then HB (Nat.le_refl _) hbn; clear y0 y1 y2 y3 y4 y5 y6 y7 y8 y9 y10 y11 y12 y13 y14 y15 y16 y17 y18 y19 y20 y21; obtain ⟨y0, y1, y2, y3, y4, y5, y6, y7, y8, y9, y10, y11, y12, y13, y14, y15, y16, y17, y18, y19, y20, y21⟩ := HC.out _ HB)
    | (go_at_call 36; refine (HWY.out _).mono ?_; rintro e wn ⟨rfl, hbn⟩; replace HB := bl_then HB (Nat.le_refl _) hbn; clear y0 y1 y2 y3 y4 y5 y6 y7 y8 y9 y10 y11 y12 y13 y14 y15 y16 y17 y18 y19 y20 y21; obtain ⟨y0, y1, y2, y3, y4, y5, y6, y7, y8, y9, y10, y11, y12, y13, y14, y15, y16, y17, y18, y19, y20, y21⟩ := HC.out _ HB)
    | (go_at_call 38; (have m_ := M3; clear M3 m_); refine (H1.out _).mono ?_; rintro e wn ⟨rfl, hbn⟩; replace HB := bl_then HB (Nat.le_refl _) hbn; clear y0 y1 y2 y3 y4 y5 y6 y7 y8 y9 y10 y11 y12 y13 y14 y15 y16 y17 y18 y19 y20 y21; obtain ⟨y0, y1, y2, y3, y4, y5, y6, y7, y8, y9, y10, y11, y12, y13, y14, y15, y16, y17, y18, y19, y20, y21⟩ := HC.out _ HB)
    | (go_at_call 38; refine (H2.out _).mono ?_; rintro e wn ⟨rfl, hbn⟩; replace HB := bl_then HB (Nat.le_refl _) hbn; clear y0 y1 y2 y3 y4 y5 y6 y7 y8 y9 y10 y11 y12 y13 y14 y15 y16 y17 y18 y19 y20 y21; obtain ⟨y0, y1, y2, y3, y4, y5, y6, y7, y8, y9, y10, y11, y12, y13, y14, y15, y16, y17, y18, y19, y20, y21⟩ := HC.out _ HB))
  go_ret
  exact ⟨rfl, HO.out.trans (HB.mono HO.out.size)⟩
set_option maxRecDepth 100000 in
set_option maxHeartbeats 4000000 in
theorem rclash_y1 (x y : Ev) (ox : okPt (evP x)) (oy : okPt (evP y)) (w : World) (bt bax bay bwx bwy b1 b2 r : Bool) (ht : (x.tx == y.tx) = bt) (hax : acE x = bax) (hay : acE y = bay) (hwx : wrE x = bwx) (hwy : wrE y = bwy) (h1 : withinP (evP x) (evP y) = b1) (h2 : withinP (evP y) (evP x) = b2) (k0 : b1 = true) (k1 : bt = false) (k2 : bax = true) (k3 : bay = true) (k4 : bwx = false) (k5 : bwy = true) (hr : r = true) :
    Calls Try.prog 19 #[.agg (evA x), .agg (evA y)] w fun e w' => e = .returned (.bool r) ∧ Below w.heap.size w w' := by
  have HAX := Lib.hid (fun W => raccess_any x W)
  have HAY := Lib.hid (fun W => raccess_any y W)
  have HWX := Lib.hid (fun W => rwrites_any x W)
  have HWY := Lib.hid (fun W => rwrites_any y W)
  have H1 := Lib.hid (fun W => rwithin_val (evP x) (evP y) ox W)
  have H2 := Lib.hid (fun W => rwithin_val (evP y) (evP x) oy W)
  rw [hax] at HAX
  rw [hay] at HAY
  rw [hwx] at HWX
  rw [hwy] at HWY
  rw [h1] at H1
  rw [h2] at H2
  subst k0 k1 k2 k3 k4 k5
  subst hr
  have hne : (x.tx != y.tx) = !(x.tx == y.tx) := rfl
  rw [ht] at hne
  simp only [Bool.not_true, Bool.not_false] at hne
  obtain ⟨hO, hP, hQ⟩ := ev_box2 x y w
  obtain ⟨PA, hPA⟩ : ∃ PA, PA = w.heap.size := ⟨_, rfl⟩
  obtain ⟨QA, hQA⟩ : ∃ QA, QA = w.heap.size + 1 := ⟨_, rfl⟩
  rw [← hQA] at hQ
  rw [← hPA] at hP
  have HPA := Lib.hid hPA
  have HQA := Lib.hid hQA
  clear hPA hQA hax hay hwx hwy h1 h2
  go_enter Try.func19, Try.ntmps19
  go_upto_region 1 with fail
  rw [← HQA.out, ← HPA.out]
  generalize ((w.alloc (.cells (evA x) 31)).alloc (.cells (evA y) 31)) = w2 at hO hP hQ ⊢
  have HO := Lib.hid hO
  have HC : Hid (∀ W, Below w2.heap.size w2 W → (W.cell? ⟨PA, 0, none⟩ = some (.int .i64 x.kind) ∧ W.cell? ⟨PA, 1, none⟩ = some (.int .i64 x.tx) ∧ W.cell? ⟨PA, 2, none⟩ = some (.int .i64 x.n0) ∧ W.cell? ⟨PA, 3, none⟩ = some (.int .i64 x.n1) ∧ W.cell? ⟨PA, 4, none⟩ = some (.int .i64 x.n2) ∧ W.cell? ⟨PA, 5, none⟩ = some (.int .i64 x.n3) ∧ W.cell? ⟨PA, 6, none⟩ = some (.int .i64 x.dep) ∧ W.cell? ⟨PA, 7, none⟩ = some (.int .i64 x.mode) ∧ W.cell? ⟨PA, 8, none⟩ = some (.int .i64 x.val) ∧ W.cell? ⟨PA, 9, none⟩ = some (.slice x.rows.1 x.rows.2.1 x.rows.2.2) ∧ W.cell? ⟨PA, 10, none⟩ = some (.int .i64 x.err) ∧ W.cell? ⟨QA, 0, none⟩ = some (.int .i64 y.kind) ∧ W.cell? ⟨QA, 1, none⟩ = some (.int .i64 y.tx) ∧ W.cell? ⟨QA, 2, none⟩ = some (.int .i64 y.n0) ∧ W.cell? ⟨QA, 3, none⟩ = some (.int .i64 y.n1) ∧ W.cell? ⟨QA, 4, none⟩ = some (.int .i64 y.n2) ∧ W.cell? ⟨QA, 5, none⟩ = some (.int .i64 y.n3) ∧ W.cell? ⟨QA, 6, none⟩ = some (.int .i64 y.dep) ∧ W.cell? ⟨QA, 7, none⟩ = some (.int .i64 y.mode) ∧ W.cell? ⟨QA, 8, none⟩ = some (.int .i64 y.val) ∧ W.cell? ⟨QA, 9, none⟩ = some (.slice y.rows.1 y.rows.2.1 y.rows.2.2) ∧ W.cell? ⟨QA, 10, none⟩ = some (.int .i64 y.err))) := Lib.hid (fun W h => ⟨(hP.below h).cell 0, (hP.below h).cell 1, (hP.below h).cell 2, (hP.below h).cell 3, (hP.below h).cell 4, (hP.below h).cell 5, (hP.below h).cell 6, (hP.below h).cell 7, (hP.below h).cell 8, (hP.below h).cell 9, (hP.below h).cell 10, (hQ.below h).cell 0, (hQ.below h).cell 1, (hQ.below h).cell 2, (hQ.below h).cell 3, (hQ.below h).cell 4, (hQ.below h).cell 5, (hQ.below h).cell 6, (hQ.below h).cell 7, (hQ.below h).cell 8, (hQ.below h).cell 9, (hQ.below h).cell 10⟩)
  have HB := Below.refl w2.heap.size w2
  obtain ⟨y0, y1, y2, y3, y4, y5, y6, y7, y8, y9, y10, y11, y12, y13, y14, y15, y16, y17, y18, y19, y20, y21⟩ := HC.out _ HB
  clear hP hQ hO HPA HQA
  have M1 : True := trivial
  have M2 : True := trivial
  have M3 : True := trivial
  go_wp2_with (first
    | (go_at_call 39; (have m_ := M1; clear M1 m_); refine (HAX.out _).mono ?_; rintro e wn ⟨rfl, hbn⟩; replace HB := bl_then HB (Nat.le_refl _) hbn; clear y0 y1 y2 y3 y4 y5 y6 y7 y8 y9 y10 y11 y12 y13 y14 y15 y16 y17 y18 y19 y20 y21; obtain ⟨y0, y1, y2, y3, y4, y5, y6, y7, y8, y9, y10, y11, y12, y13, y14, y15, y16, y17, y18, y19, y20, y21⟩ := HC.out _ HB)
    | (go_at_call 39; refine (HAY.out _).mono ?_; rintro e wn ⟨rfl, hbn⟩; replace HB := bl_then HB (Nat.le_refl _) hbn; clear y0 y1 y2 y3 y4 y5 y6 y7 y8 y9 y10 y11 y12 y13 y14 y15 y16 y17 y18 y19 y20 y21; obtain ⟨y0, y1, y2, y3, y4, y5, y6, y7, y8, y9, y10, y11, y12, y13, y14, y15, y16, y17, y18, y19, y20, y21⟩ := HC.out _ HB)
    | (go_at_call 36; (have m_ := M2; clear M2 m_); refine (HWX.out _).mono ?_; rintro e wn ⟨rfl, hbn⟩; replace HB := bl_then HB (Nat.le_refl _) hbn; clear y0 y1 y2 y3 y4 y5 y6 y7 y8 y9 y10 y11 y12 y13 y14 y15 y16 y17 y18 y19 y20 y21; obtain ⟨y0, y1, y2, y3, y4, y5, y6, y7, y8, y9, y10, y11, y12, y13, y14, y15, y16, y17, y18, y19, y20, y21⟩ := HC.out _ HB)
    | (go_at_call 36; refine (HWY.out _).mono ?_; rintro e wn ⟨rfl, hbn⟩; replace HB := bl_then HB (Nat.le_refl _) hbn; clear y0 y1 y2 y3 y4 y5 y6 y7 y8 y9 y10 y11 y12 y13 y14 y15 y16 y17 y18 y19 y20 y21; obtain ⟨y0, y1, y2, y3, y4, y5, y6, y7, y8, y9, y10, y11, y12, y13, y14, y15, y16, y17, y18, y19, y20, y21⟩ := HC.out _ HB)
    | (go_at_call 38; (have m_ := M3; clear M3 m_); refine (H1.out _).mono ?_; rintro e wn ⟨rfl, hbn⟩; replace HB := bl_then HB (Nat.le_refl _) hbn; clear y0 y1 y2 y3 y4 y5 y6 y7 y8 y9 y10 y11 y12 y13 y14 y15 y16 y17 y18 y19 y20 y21; obtain ⟨y0, y1, y2, y3, y4, y5, y6, y7, y8, y9, y10, y11, y12, y13, y14, y15, y16, y17, y18, y19, y20, y21⟩ := HC.out _ HB)
    | (go_at_call 38; refine (H2.out _).mono ?_; rintro e wn ⟨rfl, hbn⟩; replace HB := bl_then HB (Nat.le_refl _) hbn; clear y0 y1 y2 y3 y4 y5 y6 y7 y8 y9 y10 y11 y12 y13 y14 y15 y16 y17 y18 y19 y20 y21; obtain ⟨y0, y1, y2, y3, y4, y5, y6, y7, y8, y9, y10, y11, y12, y13, y14, y15, y16, y17, y18, y19, y20, y21⟩ := HC.out _ HB))
  go_ret
  exact ⟨rfl, HO.out.trans (HB.mono HO.out.size)⟩
set_option maxRecDepth 100000 in
set_option maxHeartbeats 4000000 in
theorem rclash_t2 (x y : Ev) (ox : okPt (evP x)) (oy : okPt (evP y)) (w : World) (bt bax bay bwx bwy b1 b2 r : Bool) (ht : (x.tx == y.tx) = bt) (hax : acE x = bax) (hay : acE y = bay) (hwx : wrE x = bwx) (hwy : wrE y = bwy) (h1 : withinP (evP x) (evP y) = b1) (h2 : withinP (evP y) (evP x) = b2) (k0 : b1 = false) (k1 : bt = true) (hr : r = false) :
    Calls Try.prog 19 #[.agg (evA x), .agg (evA y)] w fun e w' => e = .returned (.bool r) ∧ Below w.heap.size w w' := by
  have HAX := Lib.hid (fun W => raccess_any x W)
  have HAY := Lib.hid (fun W => raccess_any y W)
  have HWX := Lib.hid (fun W => rwrites_any x W)
  have HWY := Lib.hid (fun W => rwrites_any y W)
  have H1 := Lib.hid (fun W => rwithin_val (evP x) (evP y) ox W)
  have H2 := Lib.hid (fun W => rwithin_val (evP y) (evP x) oy W)
  rw [hax] at HAX
  rw [hay] at HAY
  rw [hwx] at HWX
  rw [hwy] at HWY
  rw [h1] at H1
  rw [h2] at H2
  subst k0 k1
  subst hr
  have hne : (x.tx != y.tx) = !(x.tx == y.tx) := rfl
  rw [ht] at hne
  simp only [Bool.not_true, Bool.not_false] at hne
  obtain ⟨hO, hP, hQ⟩ := ev_box2 x y w
  obtain ⟨PA, hPA⟩ : ∃ PA, PA = w.heap.size := ⟨_, rfl⟩
  obtain ⟨QA, hQA⟩ : ∃ QA, QA = w.heap.size + 1 := ⟨_, rfl⟩
  rw [← hQA] at hQ
  rw [← hPA] at hP
  have HPA := Lib.hid hPA
  have HQA := Lib.hid hQA
  clear hPA hQA hax hay hwx hwy h1 h2
  go_enter Try.func19, Try.ntmps19
  go_upto_region 1 with fail
  rw [← HQA.out, ← HPA.out]
  generalize ((w.alloc (.cells (evA x) 31)).alloc (.cells (evA y) 31)) = w2 at hO hP hQ ⊢
  have HO := Lib.hid hO
  have HC : Hid (∀ W, Below w2.heap.size w2 W → (W.cell? ⟨PA, 0, none⟩ = some (.int .i64 x.kind) ∧ W.cell? ⟨PA, 1, none⟩ = some (.int .i64 x.tx) ∧ W.cell? ⟨PA, 2, none⟩ = some (.int .i64 x.n0) ∧ W.cell? ⟨PA, 3, none⟩ = some (.int .i64 x.n1) ∧ W.cell? ⟨PA, 4, none⟩ = some (.int .i64 x.n2) ∧ W.cell? ⟨PA, 5, none⟩ = some (.int .i64 x.n3) ∧ W.cell? ⟨PA, 6, none⟩ = some (.int .i64 x.dep) ∧ W.cell? ⟨PA, 7, none⟩ = some (.int .i64 x.mode) ∧ W.cell? ⟨PA, 8, none⟩ = some (.int .i64 x.val) ∧ W.cell? ⟨PA, 9, none⟩ = some (.slice x.rows.1 x.rows.2.1 x.rows.2.2) ∧ W.cell? ⟨PA, 10, none⟩ = some (.int .i64 x.err) ∧ W.cell? ⟨QA, 0, none⟩ = some (.int .i64 y.kind) ∧ W.cell? ⟨QA, 1, none⟩ = some (.int .i64 y.tx) ∧ W.cell? ⟨QA, 2, none⟩ = some (.int .i64 y.n0) ∧ W.cell? ⟨QA, 3, none⟩ = some (.int .i64 y.n1) ∧ W.cell? ⟨QA, 4, none⟩ = some (.int .i64 y.n2) ∧ W.cell? ⟨QA, 5, none⟩ = some (.int .i64 y.n3) ∧ W.cell? ⟨QA, 6, none⟩ = some (.int .i64 y.dep) ∧ W.cell? ⟨QA, 7, none⟩ = some (.int .i64 y.mode) ∧ W.cell? ⟨QA, 8, none⟩ = some (.int .i64 y.val) ∧ W.cell? ⟨QA, 9, none⟩ = some (.slice y.rows.1 y.rows.2.1 y.rows.2.2) ∧ W.cell? ⟨QA, 10, none⟩ = some (.int .i64 y.err))) := Lib.hid (fun W h => ⟨(hP.below h).cell 0, (hP.below h).cell 1, (hP.below h).cell 2, (hP.below h).cell 3, (hP.below h).cell 4, (hP.below h).cell 5, (hP.below h).cell 6, (hP.below h).cell 7, (hP.below h).cell 8, (hP.below h).cell 9, (hP.below h).cell 10, (hQ.below h).cell 0, (hQ.below h).cell 1, (hQ.below h).cell 2, (hQ.below h).cell 3, (hQ.below h).cell 4, (hQ.below h).cell 5, (hQ.below h).cell 6, (hQ.below h).cell 7, (hQ.below h).cell 8, (hQ.below h).cell 9, (hQ.below h).cell 10⟩)
  have HB := Below.refl w2.heap.size w2
  obtain ⟨y0, y1, y2, y3, y4, y5, y6, y7, y8, y9, y10, y11, y12, y13, y14, y15, y16, y17, y18, y19, y20, y21⟩ := HC.out _ HB
  clear hP hQ hO HPA HQA
  have M1 : True := trivial
  have M2 : True := trivial
  have M3 : True := trivial
  go_wp2_with (first
    | (go_at_call 39; (have m_ := M1; clear M1 m_); refine (HAX.out _).mono ?_; rintro e wn ⟨rfl, hbn⟩; replace HB := bl_then HB (Nat.le_refl _) hbn; clear y0 y1 y2 y3 y4 y5 y6 y7 y8 y9 y10 y11 y12 y13 y14 y15 y16 y17 y18 y19 y20 y21; obtain ⟨y0, y1, y2, y3, y4, y5, y6, y7, y8, y9, y10, y11, y12, y13, y14, y15, y16, y17, y18, y19, y20, y21⟩ := HC.out _ HB)
    | (go_at_call 39; refine (HAY.out _).mono ?_; rintro e wn ⟨rfl, hbn⟩; replace HB := bl_then HB (Nat.le_refl _) hbn; clear y0 y1 y2 y3 y4 y5 y6 y7 y8 y9 y10 y11 y12 y13 y14 y15 y16 y17 y18 y19 y20 y21; obtain ⟨y0, y1, y2, y3, y4, y5, y6, y7, y8, y9, y10, y11, y12, y13, y14, y15, y16, y17, y18, y19, y20, y21⟩ := HC.out _ HB)
    | (go_at_call 36; (have m_ := M2; clear M2 m_); refine (HWX.out _).mono ?_; rintro e wn ⟨rfl, hbn⟩; replace HB := bl_then HB (Nat.le_refl _) hbn; clear y0 y1 y2 y3 y4 y5 y6 y7 y8 y9 y10 y11 y12 y13 y14 y15 y16 y17 y18 y19 y20 y21; obtain ⟨y0, y1, y2, y3, y4, y5, y6, y7, y8, y9, y10, y11, y12, y13, y14, y15, y16, y17, y18, y19, y20, y21⟩ := HC.out _ HB)
    | (go_at_call 36; refine (HWY.out _).mono ?_; rintro e wn ⟨rfl, hbn⟩; replace HB := bl_then HB (Nat.le_refl _) hbn; clear y0 y1 y2 y3 y4 y5 y6 y7 y8 y9 y10 y11 y12 y13 y14 y15 y16 y17 y18 y19 y20 y21; obtain ⟨y0, y1, y2, y3, y4, y5, y6, y7, y8, y9, y10, y11, y12, y13, y14, y15, y16, y17, y18, y19, y20, y21⟩ := HC.out _ HB)
    | (go_at_call 38; (have m_ := M3; clear M3 m_); refine (H1.out _).mono ?_; rintro e wn ⟨rfl, hbn⟩; replace HB := bl_then HB (Nat.le_refl _) hbn; clear y0 y1 y2 y3 y4 y5 y6 y7 y8 y9 y10 y11 y12 y13 y14 y15 y16 y17 y18 y19 y20 y21; obtain ⟨y0, y1, y2, y3, y4, y5, y6, y7, y8, y9, y10, y11, y12, y13, y14, y15, y16, y17, y18, y19, y20, y21⟩ := HC.out _ HB)
    | (go_at_call 38; refine (H2.out _).mono ?_; rintro e wn ⟨rfl, hbn⟩; replace HB := bl_then HB (Nat.le_refl _) hbn; clear y0 y1 y2 y3 y4 y5 y6 y7 y8 y9 y10 y11 y12 y13 y14 y15 y16 y17 y18 y19 y20 y21; obtain ⟨y0, y1, y2, y3, y4, y5, y6, y7, y8, y9, y10, y11, y12, y13, y14, y15, y16, y17, y18, y19, y20, y21⟩ := HC.out _ HB))
  go_ret
  exact ⟨rfl, HO.out.trans (HB.mono HO.out.size)⟩
set_option maxRecDepth 100000 in
set_option maxHeartbeats 4000000 in
theorem rclash_ax2 (x y : Ev) (ox : okPt (evP x)) (oy : okPt (evP y)) (w : World) (bt bax bay bwx bwy b1 b2 r : Bool) (ht : (x.tx == y.tx) = bt) (hax : acE x = bax) (hay : acE y = bay) (hwx : wrE x = bwx) (hwy : wrE y = bwy) (h1 : withinP (evP x) (evP y) = b1) (h2 : withinP (evP y) (evP x) = b2) (k0 : b1 = false) (k1 : bt = false) (k2 : bax = false) (hr : r = false) :
    Calls Try.prog 19 #[.agg (evA x), .agg (evA y)] w fun e w' => e = .returned (.bool r) ∧ Below w.heap.size w w' := by
  have HAX := Lib.hid (fun W => raccess_any x W)
  have HAY := Lib.hid (fun W => raccess_any y W)
  have HWX := Lib.hid (fun W => rwrites_any x W)
  have HWY := Lib.hid (fun W => rwrites_any y W)
  have H1 := Lib.hid (fun W => rwithin_val (evP x) (evP y) ox W)
  have H2 := Lib.hid (fun W => rwithin_val (evP y) (evP x) oy W)
  rw [hax] at HAX
  rw [hay] at HAY
  rw [hwx] at HWX
  rw [hwy] at HWY
  rw [h1] at H1
  rw [h2] at H2
  subst k0 k1 k2
  subst hr
  have hne : (x.tx != y.tx) = !(x.tx == y.tx) := rfl
  rw [ht] at hne
  simp only [Bool.not_true, Bool.not_false] at hne
  obtain ⟨hO, hP, hQ⟩ := ev_box2 x y w
  obtain ⟨PA, hPA⟩ : ∃ PA, PA = w.heap.size := ⟨_, rfl⟩
  obtain ⟨QA, hQA⟩ : ∃ QA, QA = w.heap.size + 1 := ⟨_, rfl⟩
  rw [← hQA] at hQ
  rw [← hPA] at hP
  have HPA := Lib.hid hPA
  have HQA := Lib.hid hQA
  clear hPA hQA hax hay hwx hwy h1 h2
  go_enter Try.func19, Try.ntmps19
  go_upto_region 1 with fail
  rw [← HQA.out, ← HPA.out]
  generalize ((w.alloc (.cells (evA x) 31)).alloc (.cells (evA y) 31)) = w2 at hO hP hQ ⊢
  have HO := Lib.hid hO
  have HC : Hid (∀ W, Below w2.heap.size w2 W → (W.cell? ⟨PA, 0, none⟩ = some (.int .i64 x.kind) ∧ W.cell? ⟨PA, 1, none⟩ = some (.int .i64 x.tx) ∧ W.cell? ⟨PA, 2, none⟩ = some (.int .i64 x.n0) ∧ W.cell? ⟨PA, 3, none⟩ = some (.int .i64 x.n1) ∧ W.cell? ⟨PA, 4, none⟩ = some (.int .i64 x.n2) ∧ W.cell? ⟨PA, 5, none⟩ = some (.int .i64 x.n3) ∧ W.cell? ⟨PA, 6, none⟩ = some (.int .i64 x.dep) ∧ W.cell? ⟨PA, 7, none⟩ = some (.int .i64 x.mode) ∧ W.cell? ⟨PA, 8, none⟩ = some (.int .i64 x.val) ∧ W.cell? ⟨PA, 9, none⟩ = some (.slice x.rows.1 x.rows.2.1 x.rows.2.2) ∧ W.cell? ⟨PA, 10, none⟩ = some (.int .i64 x.err) ∧ W.cell? ⟨QA, 0, none⟩ = some (.int .i64 y.kind) ∧ W.cell? ⟨QA, 1, none⟩ = some (.int .i64 y.tx) ∧ W.cell? ⟨QA, 2, none⟩ = some (.int .i64 y.n0) ∧ W.cell? ⟨QA, 3, none⟩ = some (.int .i64 y.n1) ∧ W.cell? ⟨QA, 4, none⟩ = some (.int .i64 y.n2) ∧ W.cell? ⟨QA, 5, none⟩ = some (.int .i64 y.n3) ∧ W.cell? ⟨QA, 6, none⟩ = some (.int .i64 y.dep) ∧ W.cell? ⟨QA, 7, none⟩ = some (.int .i64 y.mode) ∧ W.cell? ⟨QA, 8, none⟩ = some (.int .i64 y.val) ∧ W.cell? ⟨QA, 9, none⟩ = some (.slice y.rows.1 y.rows.2.1 y.rows.2.2) ∧ W.cell? ⟨QA, 10, none⟩ = some (.int .i64 y.err))) := Lib.hid (fun W h => ⟨(hP.below h).cell 0, (hP.below h).cell 1, (hP.below h).cell 2, (hP.below h).cell 3, (hP.below h).cell 4, (hP.below h).cell 5, (hP.below h).cell 6, (hP.below h).cell 7, (hP.below h).cell 8, (hP.below h).cell 9, (hP.below h).cell 10, (hQ.below h).cell 0, (hQ.below h).cell 1, (hQ.below h).cell 2, (hQ.below h).cell 3, (hQ.below h).cell 4, (hQ.below h).cell 5, (hQ.below h).cell 6, (hQ.below h).cell 7, (hQ.below h).cell 8, (hQ.below h).cell 9, (hQ.below h).cell 10⟩)
  have HB := Below.refl w2.heap.size w2
  obtain ⟨y0, y1, y2, y3, y4, y5, y6, y7, y8, y9, y10, y11, y12, y13, y14, y15, y16, y17, y18, y19, y20, y21⟩ := HC.out _ HB
  clear hP hQ hO HPA HQA
  have M1 : True := trivial
  have M2 : True := trivial
  have M3 : True := trivial
  go_wp2_with (first
    | (go_at_call 39; (have m_ := M1; clear M1 m_); refine (HAX.out _).mono ?_; rintro e wn ⟨rfl, hbn⟩; replace HB := bl_then HB (Nat.le_refl _) hbn; clear y0 y1 y2 y3 y4 y5 y6 y7 y8 y9 y10 y11 y12 y13 y14 y15 y16 y17 y18 y19 y20 y21; obtain ⟨y0, y1, y2, y3, y4, y5, y6, y7, y8, y9, y10, y11, y12, y13, y14, y15, y16, y17, y18, y19, y20, y21⟩ := HC.out _ HB)
    | (go_at_call 39; refine (HAY.out _).mono ?_; rintro e wn ⟨rfl, hbn⟩; replace HB := bl_then HB (Nat.le_refl _) hbn; clear y0 y1 y2 y3 y4 y5 y6 y7 y8 y9 y10 y11 y12 y13 y14 y15 y16 y17 y18 y19 y20 y21; obtain ⟨y0, y1, y2, y3, y4, y5, y6, y7, y8, y9, y10, y11, y12, y13, y14, y15, y16, y17, y18, y19, y20, y21⟩ := HC.out _ HB)
    | (go_at_call 36; (have m_ := M2; clear M2 m_); refine (HWX.out _).mono ?_; rintro e wn ⟨rfl, hbn⟩; replace HB := bl_then HB (Nat.le_refl _) hbn; clear y0 y1 y2 y3 y4 y5 y6 y7 y8 y9 y10 y11 y12 y13 y14 y15 y16 y17 y18 y19 y20 y21; obtain ⟨y0, y1, y2, y3, y4, y5, y6, y7, y8, y9, y10, y11, y12, y13, y14, y15, y16, y17, y18, y19, y20, y21⟩ := HC.out _ HB)
    | (go_at_call 36; refine (HWY.out _).mono ?_; rintro e wn ⟨rfl, hbn⟩; replace HB := bl_then HB (Nat.le_refl _) hbn; clear y0 y1 y2 y3 y4 y5 y6 y7 y8 y9 y10 y11 y12 y13 y14 y15 y16 y17 y18 y19 y20 y21; obtain ⟨y0, y1, y2, y3, y4, y5, y6, y7, y8, y9, y10, y11, y12, y13, y14, y15, y16, y17, y18, y19, y20, y21⟩ := HC.out _ HB)
    | (go_at_call 38; (have m_ := M3; clear M3 m_); refine (H1.out _).mono ?_; rintro e wn ⟨rfl, hbn⟩; replace HB := bl_then HB (Nat.le_refl _) hbn; clear y0 y1 y2 y3 y4 y5 y6 y7 y8 y9 y10 y11 y12 y13 y14 y15 y16 y17 y18 y19 y20 y21; obtain ⟨y0, y1, y2, y3, y4, y5, y6, y7, y8, y9, y10, y11, y12, y13, y14, y15, y16, y17, y18, y19, y20, y21⟩ := HC.out _ HB)
    | (go_at_call 38; refine (H2.out _).mono ?_; rintro e wn ⟨rfl, hbn⟩; replace HB := bl_then HB (Nat.le_refl _) hbn; clear y0 y1 y2 y3 y4 y5 y6 y7 y8 y9 y10 y11 y12 y13 y14 y15 y16 y17 y18 y19 y20 y21; obtain ⟨y0, y1, y2, y3, y4, y5, y6, y7, y8, y9, y10, y11, y12, y13, y14, y15, y16, y17, y18, y19, y20, y21⟩ := HC.out _ HB))
  go_ret
  exact ⟨rfl, HO.out.trans (HB.mono HO.out.size)⟩
set_option maxRecDepth 100000 in
set_option maxHeartbeats 4000000 in
theorem rclash_ay2 (x y : Ev) (ox : okPt (evP x)) (oy : okPt (evP y)) (w : World) (bt bax bay bwx bwy b1 b2 r : Bool) (ht : (x.tx == y.tx) = bt) (hax : acE x = bax) (hay : acE y = bay) (hwx : wrE x = bwx) (hwy : wrE y = bwy) (h1 : withinP (evP x) (evP y) = b1) (h2 : withinP (evP y) (evP x) = b2) (k0 : b1 = false) (k1 : bt = false) (k2 : bax = true) (k3 : bay = false) (hr : r = false) :
    Calls Try.prog 19 #[.agg (evA x), .agg (evA y)] w fun e w' => e = .returned (.bool r) ∧ Below w.heap.size w w' := by
  have HAX := Lib.hid (fun W => raccess_any x W)
  have HAY := Lib.hid (fun W => raccess_any y W)
  have HWX := Lib.hid (fun W => rwrites_any x W)
  have HWY := Lib.hid (fun W => rwrites_any y W)
  have H1 := Lib.hid (fun W => rwithin_val (evP x) (evP y) ox W)
  have H2 := Lib.hid (fun W => rwithin_val (evP y) (evP x) oy W)
  rw [hax] at HAX
  rw [hay] at HAY
  rw [hwx] at HWX
  rw [hwy] at HWY
  rw [h1] at H1
  rw [h2] at H2
  subst k0 k1 k2 k3
  subst hr
  have hne : (x.tx != y.tx) = !(x.tx == y.tx) := rfl
  rw [ht] at hne
  simp only [Bool.not_true, Bool.not_false] at hne
  obtain ⟨hO, hP, hQ⟩ := ev_box2 x y w
  obtain ⟨PA, hPA⟩ : ∃ PA, PA = w.heap.size := ⟨_, rfl⟩
  obtain ⟨QA, hQA⟩ : ∃ QA, QA = w.heap.size + 1 := ⟨_, rfl⟩
  rw [← hQA] at hQ
  rw [← hPA] at hP
  have HPA := Lib.hid hPA
  have HQA := Lib.hid hQA
  clear hPA hQA hax hay hwx hwy h1 h2
  go_enter Try.func19, Try.ntmps19
  go_upto_region 1 with fail
  rw [← HQA.out, ← HPA.out]
  generalize ((w.alloc (.cells (evA x) 31)).alloc (.cells (evA y) 31)) = w2 at hO hP hQ ⊢
  have HO := Lib.hid hO
  have HC : Hid (∀ W, Below w2.heap.size w2 W → (W.cell? ⟨PA, 0, none⟩ = some (.int .i64 x.kind) ∧ W.cell? ⟨PA, 1, none⟩ = some (.int .i64 x.tx) ∧ W.cell? ⟨PA, 2, none⟩ = some (.int .i64 x.n0) ∧ W.cell? ⟨PA, 3, none⟩ = some (.int .i64 x.n1) ∧ W.cell? ⟨PA, 4, none⟩ = some (.int .i64 x.n2) ∧ W.cell? ⟨PA, 5, none⟩ = some (.int .i64 x.n3) ∧ W.cell? ⟨PA, 6, none⟩ = some (.int .i64 x.dep) ∧ W.cell? ⟨PA, 7, none⟩ = some (.int .i64 x.mode) ∧ W.cell? ⟨PA, 8, none⟩ = some (.int .i64 x.val) ∧ W.cell? ⟨PA, 9, none⟩ = some (.slice x.rows.1 x.rows.2.1 x.rows.2.2) ∧ W.cell? ⟨PA, 10, none⟩ = some (.int .i64 x.err) ∧ W.cell? ⟨QA, 0, none⟩ = some (.int .i64 y.kind) ∧ W.cell? ⟨QA, 1, none⟩ = some (.int .i64 y.tx) ∧ W.cell? ⟨QA, 2, none⟩ = some (.int .i64 y.n0) ∧ W.cell? ⟨QA, 3, none⟩ = some (.int .i64 y.n1) ∧ W.cell? ⟨QA, 4, none⟩ = some (.int .i64 y.n2) ∧ W.cell? ⟨QA, 5, none⟩ = some (.int .i64 y.n3) ∧ W.cell? ⟨QA, 6, none⟩ = some (.int .i64 y.dep) ∧ W.cell? ⟨QA, 7, none⟩ = some (.int .i64 y.mode) ∧ W.cell? ⟨QA, 8, none⟩ = some (.int .i64 y.val) ∧ W.cell? ⟨QA, 9, none⟩ = some (.slice y.rows.1 y.rows.2.1 y.rows.2.2) ∧ W.cell? ⟨QA, 10, none⟩ = some (.int .i64 y.err))) := Lib.hid (fun W h => ⟨(hP.below h).cell 0, (hP.below h).cell 1, (hP.below h).cell 2, (hP.below h).cell 3, (hP.below h).cell 4, (hP.below h).cell 5, (hP.below h).cell 6, (hP.below h).cell 7, (hP.below h).cell 8, (hP.below h).cell 9, (hP.below h).cell 10, (hQ.below h).cell 0, (hQ.below h).cell 1, (hQ.below h).cell 2, (hQ.below h).cell 3, (hQ.below h).cell 4, (hQ.below h).cell 5, (hQ.below h).cell 6, (hQ.below h).cell 7, (hQ.below h).cell 8, (hQ.below h).cell 9, (hQ.below h).cell 10⟩)
  have HB := Below.refl w2.heap.size w2
  obtain ⟨y0, y1, y2, y3, y4, y5, y6, y7, y8, y9, y10, y11, y12, y13, y14, y15, y16, y17, y18, y19, y20, y21⟩ := HC.out _ HB
  clear hP hQ hO HPA HQA
  have M1 : True := trivial
  have M2 : True := trivial
  have M3 : True := trivial
  go_wp2_with (first
    | (go_at_call 39; (have m_ := M1; clear M1 m_); refine (HAX.out _).mono ?_; rintro e wn ⟨rfl, hbn⟩; replace HB := bl_then HB (Nat.le_refl _) hbn; clear y0 y1 y2 y3 y4 y5 y6 y7 y8 y9 y10 y11 y12 y13 y14 y15 y16 y17 y18 y19 y20 y21; obtain ⟨y0, y1, y2, y3, y4, y5, y6, y7, y8, y9, y10, y11, y12, y13, y14, y15, y16, y17, y18, y19, y20, y21⟩ := HC.out _ HB)
    | (go_at_call 39; refine (HAY.out _).mono ?_; rintro e wn ⟨rfl, hbn⟩; replace HB := bl_then HB (Nat.le_refl _) hbn; clear y0 y1 y2 y3 y4 y5 y6 y7 y8 y9 y10 y11 y12 y13 y14 y15 y16 y17 y18 y19 y20 y21; obtain ⟨y0, y1, y2, y3, y4, y5, y6, y7, y8, y9, y10, y11, y12, y13, y14, y15, y16, y17, y18, y19, y20, y21⟩ := HC.out _ HB)
    | (go_at_call 36; (have m_ := M2; clear M2 m_); refine (HWX.out _).mono ?_; rintro e wn ⟨rfl, hbn⟩; replace HB := bl_then HB (Nat.le_refl _) hbn; clear y0 y1 y2 y3 y4 y5 y6 y7 y8 y9 y10 y11 y12 y13 y14 y15 y16 y17 y18 y19 y20 y21; obtain ⟨y0, y1, y2, y3, y4, y5, y6, y7, y8, y9, y10, y11, y12, y13, y14, y15, y16, y17, y18, y19, y20, y21⟩ := HC.out _ HB)
    | (go_at_call 36; refine (HWY.out _).mono ?_; rintro e wn ⟨rfl, hbn⟩; replace HB := bl_then HB (Nat.le_refl _) hbn; clear y0 y1 y2 y3 y4 y5 y6 y7 y8 y9 y10 y11 y12 y13 y14 y15 y16 y17 y18 y19 y20 y21; obtain ⟨y0, y1, y2, y3, y4, y5, y6, y7, y8, y9, y10, y11, y12, y13, y14, y15, y16, y17, y18, y19, y20, y21⟩ := HC.out _ HB)
    | (go_at_call 38; (have m_ := M3; clear M3 m_); refine (H1.out _).mono ?_; rintro e wn ⟨rfl, hbn⟩; replace HB := bl_then HB (Nat.le_refl _) hbn; clear y0 y1 y2 y3 y4 y5 y6 y7 y8 y9 y10 y11 y12 y13 y14 y15 y16 y17 y18 y19 y20 y21; obtain ⟨y0, y1, y2, y3, y4, y5, y6, y7, y8, y9, y10, y11, y12, y13, y14, y15, y16, y17, y18, y19, y20, y21⟩ := HC.out _ HB)
    | (go_at_call 38; refine (H2.out _).mono ?_; rintro e wn ⟨rfl, hbn⟩; replace HB := bl_then HB (Nat.le_refl _) hbn; clear y0 y1 y2 y3 y4 y5 y6 y7 y8 y9 y10 y11 y12 y13 y14 y15 y16 y17 y18 y19 y20 y21; obtain ⟨y0, y1, y2, y3, y4, y5, y6, y7, y8, y9, y10, y11, y12, y13, y14, y15, y16, y17, y18, y19, y20, y21⟩ := HC.out _ HB))
  go_ret
  exact ⟨rfl, HO.out.trans (HB.mono HO.out.size)⟩
set_option maxRecDepth 100000 in
set_option maxHeartbeats 4000000 in
theorem rclash_ww2 (x y : Ev) (ox : okPt (evP x)) (oy : okPt (evP y)) (w : World) (bt bax bay bwx bwy b1 b2 r : Bool) (ht : (x.tx == y.tx) = bt) (hax : acE x = bax) (hay : acE y = bay) (hwx : wrE x = bwx) (hwy : wrE y = bwy) (h1 : withinP (evP x) (evP y) = b1) (h2 : withinP (evP y) (evP x) = b2) (k0 : b1 = false) (k1 : bt = false) (k2 : bax = true) (k3 : bay = true) (k4 : bwx = false) (k5 : bwy = false) (hr : r = false) :
    Calls Try.prog 19 #[.agg (evA x), .agg (evA y)] w fun e w' => e = .returned (.bool r) ∧ Below w.heap.size w w' := by
  have HAX := Lib.hid (fun W => raccess_any x W)
  have HAY := Lib.hid (fun W => raccess_any y W)
  have HWX := Lib.hid (fun W => rwrites_any x W)
  have HWY := Lib.hid (fun W => rwrites_any y W)
  have H1 := Lib.hid (fun W => rwithin_val (evP x) (evP y) ox W)
  have H2 := Lib.hid (fun W => rwithin_val (evP y) (evP x) oy W)
  rw [hax] at HAX
  rw [hay] at HAY
  rw [hwx] at HWX
  rw [hwy] at HWY
  rw [h1] at H1
  rw [h2] at H2
  subst k0 k1 k2 k3 k4 k5
  subst hr
  have hne : (x.tx != y.tx) = !(x.tx == y.tx) := rfl
  rw [ht] at hne
  simp only [Bool.not_true, Bool.not_false] at hne
  obtain ⟨hO, hP, hQ⟩ := ev_box2 x y w
  obtain ⟨PA, hPA⟩ : ∃ PA, PA = w.heap.size := ⟨_, rfl⟩
  obtain ⟨QA, hQA⟩ : ∃ QA, QA = w.heap.size + 1 := ⟨_, rfl⟩
  rw [← hQA] at hQ
  rw [← hPA] at hP
  have HPA := Lib.hid hPA
  have HQA := Lib.hid hQA
  clear hPA hQA hax hay hwx hwy h1 h2
  go_enter Try.func19, Try.ntmps19
  go_upto_region 1 with fail
  rw [← HQA.out, ← HPA.out]
  generalize ((w.alloc (.cells (evA x) 31)).alloc (.cells (evA y) 31)) = w2 at hO hP hQ ⊢
  have HO := Lib.hid hO
  have HC : Hid (∀ W, Below w2.heap.size w2 W → (W.cell? ⟨PA, 0, none⟩ = some (.int .i64 x.kind) ∧ W.cell? ⟨PA, 1, none⟩ = some (.int .i64 x.tx) ∧ W.cell? ⟨PA, 2, none⟩ = some (.int .i64 x.n0) ∧ W.cell? ⟨PA, 3, none⟩ = some (.int .i64 x.n1) ∧ W.cell? ⟨PA, 4, none⟩ = some (.int .i64 x.n2) ∧ W.cell? ⟨PA, 5, none⟩ = some (.int .i64 x.n3) ∧ W.cell? ⟨PA, 6, none⟩ = some (.int .i64 x.dep) ∧ W.cell? ⟨PA, 7, none⟩ = some (.int .i64 x.mode) ∧ W.cell? ⟨PA, 8, none⟩ = some (.int .i64 x.val) ∧ W.cell? ⟨PA, 9, none⟩ = some (.slice x.rows.1 x.rows.2.1 x.rows.2.2) ∧ W.cell? ⟨PA, 10, none⟩ = some (.int .i64 x.err) ∧ W.cell? ⟨QA, 0, none⟩ = some (.int .i64 y.kind) ∧ W.cell? ⟨QA, 1, none⟩ = some (.int .i64 y.tx) ∧ W.cell? ⟨QA, 2, none⟩ = some (.int .i64 y.n0) ∧ W.cell? ⟨QA, 3, none⟩ = some (.int .i64 y.n1) ∧ W.cell? ⟨QA, 4, none⟩ = some (.int .i64 y.n2) ∧ W.cell? ⟨QA, 5, none⟩ = some (.int .i64 y.n3) ∧ W.cell? ⟨QA, 6, none⟩ = some (.int .i64 y.dep) ∧ W.cell? ⟨QA, 7, none⟩ = some (.int .i64 y.mode) ∧ W.cell? ⟨QA, 8, none⟩ = some (.int .i64 y.val) ∧ W.cell? ⟨QA, 9, none⟩ = some (.slice y.rows.1 y.rows.2.1 y.rows.2.2) ∧ W.cell? ⟨QA, 10, none⟩ = some (.int .i64 y.err))) := Lib.hid (fun W h => ⟨(hP.below h).cell 0, (hP.below h).cell 1, (hP.below h).cell 2, (hP.below h).cell 3, (hP.below h).cell 4, (hP.below h).cell 5, (hP.below h).cell 6, (hP.below h).cell 7, (hP.below h).cell 8, (hP.below h).cell 9, (hP.below h).cell 10, (hQ.below h).cell 0, (hQ.below h).cell 1, (hQ.below h).cell 2, (hQ.below h).cell 3, (hQ.below h).cell 4, (hQ.below h).cell 5, (hQ.below h).cell 6, (hQ.below h).cell 7, (hQ.below h).cell 8, (hQ.below h).cell 9, (hQ.below h).cell 10⟩)
  have HB := Below.refl w2.heap.size w2
  obtain ⟨y0, y1, y2, y3, y4, y5, y6, y7, y8, y9, y10, y11, y12, y13, y14, y15, y16, y17, y18, y19, y20, y21⟩ := HC.out _ HB
  clear hP hQ hO HPA HQA
  have M1 : True := trivial
  have M2 : True := trivial
  have M3 : True := trivial
  go_wp2_with (first
    | (go_at_call 39; (have m_ := M1; clear M1 m_); refine (HAX.out _).mono ?_; rintro e wn ⟨rfl, hbn⟩; replace HB := bl_then HB (Nat.le_refl _) hbn; clear y0 y1 y2 y3 y4 y5 y6 y7 y8 y9 y10 y11 y12 y13 y14 y15 y16 y17 y18 y19 y20 y21; obtain ⟨y0, y1, y2, y3, y4, y5, y6, y7, y8, y9, y10, y11, y12, y13, y14, y15, y16, y17, y18, y19, y20, y21⟩ := HC.out _ HB)
    | (go_at_call 39; refine (HAY.out _).mono ?_; rintro e wn ⟨rfl, hbn⟩; replace HB := bl_then HB (Nat.le_refl _) hbn; clear y0 y1 y2 y3 y4 y5 y6 y7 y8 y9 y10 y11 y12 y13 y14 y15 y16 y17 y18 y19 y20 y21; obtain ⟨y0, y1, y2, y3, y4, y5, y6, y7, y8, y9, y10, y11, y12, y13, y14, y15, y16, y17, y18, y19, y20, y21⟩ := HC.out _ HB)
    | (go_at_call 36; (have m_ := M2; clear M2 m_); refine (HWX.out _).mono ?_; rintro e wn ⟨rfl, hbn⟩; replace HB := bl_then HB (Nat.le_refl _) hbn; clear y0 y1 y2 y3 y4 y5 y6 y7 y8 y9 y10 y11 y12 y13 y14 y15 y16 y17 y18 y19 y20 y21; obtain ⟨y0, y1, y2, y3, y4, y5, y6, y7, y8, y9, y10, y11, y12, y13, y14, y15, y16, y17, y18, y19, y20, y21⟩ := HC.out _ HB)
    | (go_at_call 36; refine (HWY.out _).mono ?_; rintro e wn ⟨rfl, hbn⟩; replace HB := bl_then HB (Nat.le_refl _) hbn; clear y0 y1 y2 y3 y4 y5 y6 y7 y8 y9 y10 y11 y12 y13 y14 y15 y16 y17 y18 y19 y20 y21; obtain ⟨y0, y1, y2, y3, y4, y5, y6, y7, y8, y9, y10, y11, y12, y13, y14, y15, y16, y17, y18, y19, y20, y21⟩ := HC.out _ HB)
    | (go_at_call 38; (have m_ := M3; clear M3 m_); refine (H1.out _).mono ?_; rintro e wn ⟨rfl, hbn⟩; replace HB := bl_then HB (Nat.le_refl _) hbn; clear y0 y1 y2 y3 y4 y5 y6 y7 y8 y9 y10 y11 y12 y13 y14 y15 y16 y17 y18 y19 y20 y21; obtain ⟨y0, y1, y2, y3, y4, y5, y6, y7, y8, y9, y10, y11, y12, y13, y14, y15, y16, y17, y18, y19, y20, y21⟩ := HC.out _ HB)
    | (go_at_call 38; refine (H2.out _).mono ?_; rintro e wn ⟨rfl, hbn⟩; replace HB := bl_then HB (Nat.le_refl _) hbn; clear y0 y1 y2 y3 y4 y5 y6 y7 y8 y9 y10 y11 y12 y13 y14 y15 y16 y17 y18 y19 y20 y21; obtain ⟨y0, y1, y2, y3, y4, y5, y6, y7, y8, y9, y10, y11, y12, y13, y14, y15, y16, y17, y18, y19, y20, y21⟩ := HC.out _ HB))
  go_ret
  exact ⟨rfl, HO.out.trans (HB.mono HO.out.size)⟩
set_option maxRecDepth 100000 in
set_option maxHeartbeats 4000000 in
theorem rclash_x2 (x y : Ev) (ox : okPt (evP x)) (oy : okPt (evP y)) (w : World) (bt bax bay bwx bwy b1 b2 r : Bool) (ht : (x.tx == y.tx) = bt) (hax : acE x = bax) (hay : acE y = bay) (hwx : wrE x = bwx) (hwy : wrE y = bwy) (h1 : withinP (evP x) (evP y) = b1) (h2 : withinP (evP y) (evP x) = b2) (k0 : b1 = false) (k1 : bt = false) (k2 : bax = true) (k3 : bay = true) (k4 : bwx = true) (hr : r = b2) :
    Calls Try.prog 19 #[.agg (evA x), .agg (evA y)] w fun e w' => e = .returned (.bool r) ∧ Below w.heap.size w w' := by
  have HAX := Lib.hid (fun W => raccess_any x W)
  have HAY := Lib.hid (fun W => raccess_any y W)
  have HWX := Lib.hid (fun W => rwrites_any x W)
  have HWY := Lib.hid (fun W => rwrites_any y W)
  have H1 := Lib.hid (fun W => rwithin_val (evP x) (evP y) ox W)
  have H2 := Lib.hid (fun W => rwithin_val (evP y) (evP x) oy W)
  rw [hax] at HAX
  rw [hay] at HAY
  rw [hwx] at HWX
  rw [hwy] at HWY
  rw [h1] at H1
  rw [h2] at H2
  subst k0 k1 k2 k3 k4
  subst hr
  have hne : (x.tx != y.tx) = !(x.tx == y.tx) := rfl
  rw [ht] at hne
  simp only [Bool.not_true, Bool.not_false] at hne
  obtain ⟨hO, hP, hQ⟩ := ev_box2 x y w
  obtain ⟨PA, hPA⟩ : ∃ PA, PA = w.heap.size := ⟨_, rfl⟩
  obtain ⟨QA, hQA⟩ : ∃ QA, QA = w.heap.size + 1 := ⟨_, rfl⟩
  rw [← hQA] at hQ
  rw [← hPA] at hP
  have HPA := Lib.hid hPA
  have HQA := Lib.hid hQA
  clear hPA hQA hax hay hwx hwy h1 h2
  go_enter Try.func19, Try.ntmps19
  go_upto_region 1 with fail
  rw [← HQA.out, ← HPA.out]
  generalize ((w.alloc (.cells (evA x) 31)).alloc (.cells (evA y) 31)) = w2 at hO hP hQ ⊢
  have HO := Lib.hid hO
  have HC : Hid (∀ W, Below w2.heap.size w2 W → (W.cell? ⟨PA, 0, none⟩ = some (.int .i64 x.kind) ∧ W.cell? ⟨PA, 1, none⟩ = some (.int .i64 x.tx) ∧ W.cell? ⟨PA, 2, none⟩ = some (.int .i64 x.n0) ∧ W.cell? ⟨PA, 3, none⟩ = some (.int .i64 x.n1) ∧ W.cell? ⟨PA, 4, none⟩ = some (.int .i64 x.n2) ∧ W.cell? ⟨PA, 5, none⟩ = some (.int .i64 x.n3) ∧ W.cell? ⟨PA, 6, none⟩ = some (.int .i64 x.dep) ∧ W.cell? ⟨PA, 7, none⟩ = some (.int .i64 x.mode) ∧ W.cell? ⟨PA, 8, none⟩ = some (.int .i64 x.val) ∧ W.cell? ⟨PA, 9, none⟩ = some (.slice x.rows.1 x.rows.2.1 x.rows.2.2) ∧ W.cell? ⟨PA, 10, none⟩ = some (.int .i64 x.err) ∧ W.cell? ⟨QA, 0, none⟩ = some (.int .i64 y.kind) ∧ W.cell? ⟨QA, 1, none⟩ = some (.int .i64 y.tx) ∧ W.cell? ⟨QA, 2, none⟩ = some (.int .i64 y.n0) ∧ W.cell? ⟨QA, 3, none⟩ = some (.int .i64 y.n1) ∧ W.cell? ⟨QA, 4, none⟩ = some (.int .i64 y.n2) ∧ W.cell? ⟨QA, 5, none⟩ = some (.int .i64 y.n3) ∧ W.cell? ⟨QA, 6, none⟩ = some (.int .i64 y.dep) ∧ W.cell? ⟨QA, 7, none⟩ = some (.int .i64 y.mode) ∧ W.cell? ⟨QA, 8, none⟩ = some (.int .i64 y.val) ∧ W.cell? ⟨QA, 9, none⟩ = some (.slice y.rows.1 y.rows.2.1 y.rows.2.2) ∧ W.cell? ⟨QA, 10, none⟩ = some (.int .i64 y.err))) := Lib.hid (fun W h => ⟨(hP.below h).cell 0, (hP.below h).cell 1, (hP.below h).cell 2, (hP.below h).cell 3, (hP.below h).cell 4, (hP.below h).cell 5, (hP.below h).cell 6, (hP.below h).cell 7, (hP.below h).cell 8, (hP.below h).cell 9, (hP.below h).cell 10, (hQ.below h).cell 0, (hQ.below h).cell 1, (hQ.below h).cell 2, (hQ.below h).cell 3, (hQ.below h).cell 4, (hQ.below h).cell 5, (hQ.below h).cell 6, (hQ.below h).cell 7, (hQ.below h).cell 8, (hQ.below h).cell 9, (hQ.below h).cell 10⟩)
  have HB := Below.refl w2.heap.size w2
  obtain ⟨y0, y1, y2, y3, y4, y5, y6, y7, y8, y9, y10, y11, y12, y13, y14, y15, y16, y17, y18, y19, y20, y21⟩ := HC.out _ HB
  clear hP hQ hO HPA HQA
  have M1 : True := trivial
  have M2 : True := trivial
  have M3 : True := trivial
  go_wp2_with (first
    | (go_at_call 39; (have m_ := M1; clear M1 m_); refine (HAX.out _).mono ?_; rintro e wn ⟨rfl, hbn⟩; replace HB := bl_then HB (Nat.le_refl _) hbn; clear y0 y1 y2 y3 y4 y5 y6 y7 y8 y9 y10 y11 y12 y13 y14 y15 y16 y17 y18 y19 y20 y21; obtain ⟨y0, y1, y2, y3, y4, y5, y6, y7, y8, y9, y10, y11, y12, y13, y14, y15, y16, y17, y18, y19, y20, y21⟩ := HC.out _ HB)
    | (go_at_call 39; refine (HAY.out _).mono ?_; rintro e wn ⟨rfl, hbn⟩; replace HB := bl_then HB (Nat.le_refl _) hbn; clear y0 y1 y2 y3 y4 y5 y6 y7 y8 y9 y10 y11 y12 y13 y14 y15 y16 y17 y18 y19 y20 y21; obtain ⟨y0, y1, y2, y3, y4, y5, y6, y7, y8, y9, y10, y11, y12, y13, y14, y15, y16, y17, y18, y19, y20, y21⟩ := HC.out _ HB)
    | (go_at_call 36; (have m_ := M2; clear M2 m_); refine (HWX.out _).mono ?_; rintro e wn ⟨rfl, hbn⟩; replace HB := bl_then HB (Nat.le_refl _) hbn; clear y0 y1 y2 y3 y4 y5 y6 y7 y8 y9 y10 y11 y12 y13 y14 y15 y16 y17 y18 y19 y20 y21; obtain ⟨y0, y1, y2, y3, y4, y5, y6, y7, y8, y9, y10, y11, y12, y13, y14, y15, y16, y17, y18, y19, y20, y21⟩ := HC.out _ HB)
    | (go_at_call 36; refine (HWY.out _).mono ?_; rintro e wn ⟨rfl, hbn⟩; replace HB := bl_then HB (Nat.le_refl _) hbn; clear y0 y1 y2 y3 y4 y5 y6 y7 y8 y9 y10 y11 y12 y13 y14 y15 y16 y17 y18 y19 y20 y21; obtain ⟨y0, y1, y2, y3, y4, y5, y6, y7, y8, y9, y10, y11, y12, y13, y14, y15, y16, y17, y18, y19, y20, y21⟩ := HC.out _ HB)
    | (go_at_call 38; (have m_ := M3; clear M3 m_); refine (H1.out _).mono ?_; rintro e wn ⟨rfl, hbn⟩; replace HB := bl_then HB (Nat.le_refl _) hbn; clear y0 y1 y2 y3 y4 y5 y6 y7 y8 y9 y10 y11 y12 y13 y14 y15 y16 y17 y18 y19 y20 y21; obtain ⟨y0, y1, y2, y3, y4, y5, y6, y7, y8, y9, y10, y11, y12, y13, y14, y15, y16, y17, y18, y19, y20, y21⟩ := HC.out _ HB)
    | (go_at_call 38; refine (H2.out _).mono ?_; rintro e wn ⟨rfl, hbn⟩; replace HB := bl_then HB (Nat.le_refl _) hbn; clear y0 y1 y2 y3 y4 y5 y6 y7 y8 y9 y10 y11 y12 y13 y14 y15 y16 y17 y18 y19 y20 y21; obtain ⟨y0, y1, y2, y3, y4, y5, y6, y7, y8, y9, y10, y11, y12, y13, y14, y15, y16, y17, y18, y19, y20, y21⟩ := HC.out _ HB))
  go_ret
  exact ⟨rfl, HO.out.trans (HB.mono HO.out.size)⟩
set_option maxRecDepth 100000 in
set_option maxHeartbeats 4000000 in
theorem rclash_y2 (x y : Ev) (ox : okPt (evP x)) (oy : okPt (evP y)) (w : World) (bt bax bay bwx bwy b1 b2 r : Bool) (ht : (x.tx == y.tx) = bt) (hax : acE x = bax) (hay : acE y = bay) (hwx : wrE x = bwx) (hwy : wrE y = bwy) (h1 : withinP (evP x) (evP y) = b1) (h2 : withinP (evP y) (evP x) = b2) (k0 : b1 = false) (k1 : bt = false) (k2 : bax = true) (k3 : bay = true) (k4 : bwx = false) (k5 : bwy = true) (hr : r = b2) :
    Calls Try.prog 19 #[.agg (evA x), .agg (evA y)] w fun e w' => e = .returned (.bool r) ∧ Below w.heap.size w w' := by
  have HAX := Lib.hid (fun W => raccess_any x W)
  have HAY := Lib.hid (fun W => raccess_any y W)
  have HWX := Lib.hid (fun W => rwrites_any x W)
  have HWY := Lib.hid (fun W => rwrites_any y W)
  have H1 := Lib.hid (fun W => rwithin_val (evP x) (evP y) ox W)
  have H2 := Lib.hid (fun W => rwithin_val (evP y) (evP x) oy W)
  rw [hax] at HAX
  rw [hay] at HAY
  rw [hwx] at HWX
  rw [hwy] at HWY
  rw [h1] at H1
  rw [h2] at H2
  subst k0 k1 k2 k3 k4 k5
  subst hr
  have hne : (x.tx != y.tx) = !(x.tx == y.tx) := rfl
  rw [ht] at hne
  simp only [Bool.not_true, Bool.not_false] at hne
  obtain ⟨hO, hP, hQ⟩ := ev_box2 x y w
  obtain ⟨PA, hPA⟩ : ∃ PA, PA = w.heap.size := ⟨_, rfl⟩
  obtain ⟨QA, hQA⟩ : ∃ QA, QA = w.heap.size + 1 := ⟨_, rfl⟩
  rw [← hQA] at hQ
  rw [← hPA] at hP
  have HPA := Lib.hid hPA
  have HQA := Lib.hid hQA
  clear hPA hQA hax hay hwx hwy h1 h2
  go_enter Try.func19, Try.ntmps19
  go_upto_region 1 with fail
  rw [← HQA.out, ← HPA.out]
  generalize ((w.alloc (.cells (evA x) 31)).alloc (.cells (evA y) 31)) = w2 at hO hP hQ ⊢
  have HO := Lib.hid hO
  have HC : Hid (∀ W, Below w2.heap.size w2 W → (W.cell? ⟨PA, 0, none⟩ = some (.int .i64 x.kind) ∧ W.cell? ⟨PA, 1, none⟩ = some (.int .i64 x.tx) ∧ W.cell? ⟨PA, 2, none⟩ = some (.int .i64 x.n0) ∧ W.cell? ⟨PA, 3, none⟩ = some (.int .i64 x.n1) ∧ W.cell? ⟨PA, 4, none⟩ = some (.int .i64 x.n2) ∧ W.cell? ⟨PA, 5, none⟩ = some (.int .i64 x.n3) ∧ W.cell? ⟨PA, 6, none⟩ = some (.int .i64 x.dep) ∧ W.cell? ⟨PA, 7, none⟩ = some (.int .i64 x.mode) ∧ W.cell? ⟨PA, 8, none⟩ = some (.int .i64 x.val) ∧ W.cell? ⟨PA, 9, none⟩ = some (.slice x.rows.1 x.rows.2.1 x.rows.2.2) ∧ W.cell? ⟨PA, 10, none⟩ = some (.int .i64 x.err) ∧ W.cell? ⟨QA, 0, none⟩ = some (.int .i64 y.kind) ∧ W.cell? ⟨QA, 1, none⟩ = some (.int .i64 y.tx) ∧ W.cell? ⟨QA, 2, none⟩ = some (.int .i64 y.n0) ∧ W.cell? ⟨QA, 3, none⟩ = some (.int .i64 y.n1) ∧ W.cell? ⟨QA, 4, none⟩ = some (.int .i64 y.n2) ∧ W.cell? ⟨QA, 5, none⟩ = some (.int .i64 y.n3) ∧ W.cell? ⟨QA, 6, none⟩ = some (.int .i64 y.dep) ∧ W.cell? ⟨QA, 7, none⟩ = some (.int .i64 y.mode) ∧ W.cell? ⟨QA, 8, none⟩ = some (.int .i64 y.val) ∧ W.cell? ⟨QA, 9, none⟩ = some (.slice y.rows.1 y.rows.2.1 y.rows.2.2) ∧ W.cell? ⟨QA, 10, none⟩ = some (.int .i64 y.err))) := Lib.hid (fun W h => ⟨(hP.below h).cell 0, (hP.below h).cell 1, (hP.below h).cell 2, (hP.below h).cell 3, (hP.below h).cell 4, (hP.below h).cell 5, (hP.below h).cell 6, (hP.below h).cell 7, (hP.below h).cell 8, (hP.below h).cell 9, (hP.below h).cell 10, (hQ.below h).cell 0, (hQ.below h).cell 1, (hQ.below h).cell 2, (hQ.below h).cell 3, (hQ.below h).cell 4, (hQ.below h).cell 5, (hQ.below h).cell 6, (hQ.below h).cell 7, (hQ.below h).cell 8, (hQ.below h).cell 9, (hQ.below h).cell 10⟩)
  have HB := Below.refl w2.heap.size w2
  obtain ⟨y0, y1, y2, y3, y4, y5, y6, y7, y8, y9, y10, y11, y12, y13, y14, y15, y16, y17, y18, y19, y20, y21⟩ := HC.out _ HB
  clear hP hQ hO HPA HQA
  have M1 : True := trivial
  have M2 : True := trivial
  have M3 : True := trivial
  go_wp2_with (first
    | (go_at_call 39; (have m_ := M1; clear M1 m_); refine (HAX.out _).mono ?_; rintro e wn ⟨rfl, hbn⟩; replace HB := bl_then HB (Nat.le_refl _) hbn; clear y0 y1 y2 y3 y4 y5 y6 y7 y8 y9 y10 y11 y12 y13 y14 y15 y16 y17 y18 y19 y20 y21; obtain ⟨y0, y1, y2, y3, y4, y5, y6, y7, y8, y9, y10, y11, y12, y13, y14, y15, y16, y17, y18, y19, y20, y21⟩ := HC.out _ HB)
    | (go_at_call 39; refine (HAY.out _).mono ?_; rintro e wn ⟨rfl, hbn⟩; replace HB := bl_then HB (Nat.le_refl _) hbn; clear y0 y1 y2 y3 y4 y5 y6 y7 y8 y9 y10 y11 y12 y13 y14 y15 y16 y17 y18 y19 y20 y21; obtain ⟨y0, y1, y2, y3, y4, y5, y6, y7, y8, y9, y10, y11, y12, y13, y14, y15, y16, y17, y18, y19, y20, y21⟩ := HC.out _ HB)
    | (go_at_call 36; (have m_ := M2; clear M2 m_); refine (HWX.out _).mono ?_; rintro e wn ⟨rfl, hbn⟩; replace HB := bl_then HB (Nat.le_refl _) hbn; clear y0 y1 y2 y3 y4 y5 y6 y7 y8 y9 y10 y11 y12 y13 y14 y15 y16 y17 y18 y19 y20 y21; obtain ⟨y0, y1, y2, y3, y4, y5, y6, y7, y8, y9, y10, y11, y12, y13, y14, y15, y16, y17, y18, y19, y20, y21⟩ := HC.out _ HB)
    | (go_at_call 36; refine (HWY.out _).mono ?_; rintro e wn ⟨rfl, hbn⟩; replace HB := bl_then HB (Nat.le_refl _) hbn; clear y0 y1 y2 y3 y4 y5 y6 y7 y8 y9 y10 y11 y12 y13 y14 y15 y16 y17 y18 y19 y20 y21; obtain ⟨y0, y1, y2, y3, y4, y5, y6, y7, y8, y9, y10, y11, y12, y13, y14, y15, y16, y17, y18, y19, y20, y21⟩ := HC.out _ HB)
    | (go_at_call 38; (have m_ := M3; clear M3 m_); refine (H1.out _).mono ?_; rintro e wn ⟨rfl, hbn⟩; replace HB := bl_then HB (Nat.le_refl _) hbn; clear y0 y1 y2 y3 y4 y5 y6 y7 y8 y9 y10 y11 y12 y13 y14 y15 y16 y17 y18 y19 y20 y21; obtain ⟨y0, y1, y2, y3, y4, y5, y6, y7, y8, y9, y10, y11, y12, y13, y14, y15, y16, y17, y18, y19, y20, y21⟩ := HC.out _ HB)
    | (go_at_call 38; refine (H2.out _).mono ?_; rintro e wn ⟨rfl, hbn⟩; replace HB := bl_then HB (Nat.le_refl _) hbn; clear y0 y1 y2 y3 y4 y5 y6 y7 y8 y9 y10 y11 y12 y13 y14 y15 y16 y17 y18 y19 y20 y21; obtain ⟨y0, y1, y2, y3, y4, y5, y6, y7, y8, y9, y10, y11, y12, y13, y14, y15, y16, y17, y18, y19, y20, y21⟩ := HC.out _ HB))
  go_ret
  exact ⟨rfl, HO.out.trans (HB.mono HO.out.size)⟩
theorem rclash_any (x y : Ev) (ox : okPt (evP x)) (oy : okPt (evP y)) (w : World) : Calls Try.prog 19 #[.agg (evA x), .agg (evA y)] w fun e w' => e = .returned (.bool (clashE x y)) ∧ Below w.heap.size w w' := by
  unfold clashE nearE
  generalize ht : (x.tx == y.tx) = bt
  generalize hax : acE x = bax
  generalize hay : acE y = bay
  generalize hwx : wrE x = bwx
  generalize hwy : wrE y = bwy
  generalize h1 : withinP (evP x) (evP y) = b1
  generalize h2 : withinP (evP y) (evP x) = b2
  by_cases c_t1 : b1 = true ∧ bt = true
  · obtain ⟨k0, k1⟩ := c_t1
    exact rclash_t1 x y ox oy w _ _ _ _ _ _ _ _ ht hax hay hwx hwy h1 h2 k0 k1 (by rw [k0, k1]; cases b2 <;> (try cases bwy) <;> rfl)
  by_cases c_ax1 : b1 = true ∧ bt = false ∧ bax = false
  · obtain ⟨k0, k1, k2⟩ := c_ax1
    exact rclash_ax1 x y ox oy w _ _ _ _ _ _ _ _ ht hax hay hwx hwy h1 h2 k0 k1 k2 (by rw [k0, k1, k2]; cases b2 <;> (try cases bwy) <;> rfl)
  by_cases c_ay1 : b1 = true ∧ bt = false ∧ bax = true ∧ bay = false
  · obtain ⟨k0, k1, k2, k3⟩ := c_ay1
    exact rclash_ay1 x y ox oy w _ _ _ _ _ _ _ _ ht hax hay hwx hwy h1 h2 k0 k1 k2 k3 (by rw [k0, k1, k2, k3]; cases b2 <;> (try cases bwy) <;> rfl)
  by_cases c_ww1 : b1 = true ∧ bt = false ∧ bax = true ∧ bay = true ∧ bwx = false ∧ bwy = false
  · obtain ⟨k0, k1, k2, k3, k4, k5⟩ := c_ww1
    exact rclash_ww1 x y ox oy w _ _ _ _ _ _ _ _ ht hax hay hwx hwy h1 h2 k0 k1 k2 k3 k4 k5 (by rw [k0, k1, k2, k3, k4, k5]; cases b2 <;> (try cases bwy) <;> rfl)
  by_cases c_x1 : b1 = true ∧ bt = false ∧ bax = true ∧ bay = true ∧ bwx = true
  · obtain ⟨k0, k1, k2, k3, k4⟩ := c_x1
    exact rclash_x1 x y ox oy w _ _ _ _ _ _ _ _ ht hax hay hwx hwy h1 h2 k0 k1 k2 k3 k4 (by rw [k0, k1, k2, k3, k4]; cases b2 <;> (try cases bwy) <;> rfl)
  by_cases c_y1 : b1 = true ∧ bt = false ∧ bax = true ∧ bay = true ∧ bwx = false ∧ bwy = true
  · obtain ⟨k0, k1, k2, k3, k4, k5⟩ := c_y1
    exact rclash_y1 x y ox oy w _ _ _ _ _ _ _ _ ht hax hay hwx hwy h1 h2 k0 k1 k2 k3 k4 k5 (by rw [k0, k1, k2, k3, k4, k5]; cases b2 <;> (try cases bwy) <;> rfl)
  by_cases c_t2 : b1 = false ∧ bt = true
  · obtain ⟨k0, k1⟩ := c_t2
    exact rclash_t2 x y ox oy w _ _ _ _ _ _ _ _ ht hax hay hwx hwy h1 h2 k0 k1 (by rw [k0, k1]; cases b2 <;> (try cases bwy) <;> rfl)
  by_cases c_ax2 : b1 = false ∧ bt = false ∧ bax = false
  · obtain ⟨k0, k1, k2⟩ := c_ax2
    exact rclash_ax2 x y ox oy w _ _ _ _ _ _ _ _ ht hax hay hwx hwy h1 h2 k0 k1 k2 (by rw [k0, k1, k2]; cases b2 <;> (try cases bwy) <;> rfl)
  by_cases c_ay2 : b1 = false ∧ bt = false ∧ bax = true ∧ bay = false
  · obtain ⟨k0, k1, k2, k3⟩ := c_ay2
    exact rclash_ay2 x y ox oy w _ _ _ _ _ _ _ _ ht hax hay hwx hwy h1 h2 k0 k1 k2 k3 (by rw [k0, k1, k2, k3]; cases b2 <;> (try cases bwy) <;> rfl)
  by_cases c_ww2 : b1 = false ∧ bt = false ∧ bax = true ∧ bay = true ∧ bwx = false ∧ bwy = false
  · obtain ⟨k0, k1, k2, k3, k4, k5⟩ := c_ww2
    exact rclash_ww2 x y ox oy w _ _ _ _ _ _ _ _ ht hax hay hwx hwy h1 h2 k0 k1 k2 k3 k4 k5 (by rw [k0, k1, k2, k3, k4, k5]; cases b2 <;> (try cases bwy) <;> rfl)
  by_cases c_x2 : b1 = false ∧ bt = false ∧ bax = true ∧ bay = true ∧ bwx = true
  · obtain ⟨k0, k1, k2, k3, k4⟩ := c_x2
    exact rclash_x2 x y ox oy w _ _ _ _ _ _ _ _ ht hax hay hwx hwy h1 h2 k0 k1 k2 k3 k4 (by rw [k0, k1, k2, k3, k4]; cases b2 <;> (try cases bwy) <;> rfl)
  by_cases c_y2 : b1 = false ∧ bt = false ∧ bax = true ∧ bay = true ∧ bwx = false ∧ bwy = true
  · obtain ⟨k0, k1, k2, k3, k4, k5⟩ := c_y2
    exact rclash_y2 x y ox oy w _ _ _ _ _ _ _ _ ht hax hay hwx hwy h1 h2 k0 k1 k2 k3 k4 k5 (by rw [k0, k1, k2, k3, k4, k5]; cases b2 <;> (try cases bwy) <;> rfl)
  exfalso
  clear ht hax hay hwx hwy h1 h2
  cases bt <;> cases bax <;> cases bay <;> cases bwx <;> cases bwy <;> cases b1 <;> simp_all
end Go.Proofs.Ytjenchijenkndaa
