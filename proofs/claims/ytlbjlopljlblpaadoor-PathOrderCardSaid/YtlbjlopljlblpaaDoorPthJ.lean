/- Nodes: Common, by the program and the reference. No condition. -/
import Derived.Test.YtlbjlopljlblpaaDoorPthW
import Derived.RegionTactic
set_option linter.unusedVariables false
set_option linter.unusedSimpArgs false
namespace Go.Proofs.YtlbjlopljlblpaaDoor
open Go.RowKit (wrap32 wrap64)
open Go.RowKit Go.Shelf
theorem five_arr (cs : Array Value) (hs : cs.size = 5) (v0 v1 v2 v3 v4 : Value) : ((((cs.setIfInBounds 0 v0).setIfInBounds 1 v1).setIfInBounds 2 v2).setIfInBounds 3 v3).setIfInBounds 4 v4 = #[v0, v1, v2, v3, v4] := by
  obtain ⟨l⟩ := cs
  match l, hs with
  | [a, b, c, d, e], _ => rfl
theorem five_bk {w : World} {R : Nat} {cs : Array Value} (h : Bk w R 24 cs) (hs : cs.size = 5) (v0 v1 v2 v3 v4 : Value) : Bk (((((w.setCell ⟨R, 0, none⟩ v0).setCell ⟨R, 1, none⟩ v1).setCell ⟨R, 2, none⟩ v2).setCell ⟨R, 3, none⟩ v3).setCell ⟨R, 4, none⟩ v4) R 24 #[v0, v1, v2, v3, v4] := by
  have k := ((((h.set 0 v0).set 1 v1).set 2 v2).set 3 v3).set 4 v4
  rw [five_arr cs hs] at k
  exact k
theorem five_keep (w : World) (R : Nat) (v0 v1 v2 v3 v4 : Value) : Keep (fun i => i = R) w (((((w.setCell ⟨R, 0, none⟩ v0).setCell ⟨R, 1, none⟩ v1).setCell ⟨R, 2, none⟩ v2).setCell ⟨R, 3, none⟩ v3).setCell ⟨R, 4, none⟩ v4) :=
  ((((Keep.set w R 0 v0 (fun i => i = R) rfl).trans (Keep.set _ R 1 v1 (fun i => i = R) rfl)).trans (Keep.set _ R 2 v2 (fun i => i = R) rfl)).trans (Keep.set _ R 3 v3 (fun i => i = R) rfl)).trans (Keep.set _ R 4 v4 (fun i => i = R) rfl)
theorem four_box (p q : Pt) (w : World) : Below w.heap.size w ((((w.alloc (.cells (ptA p) 24)).alloc (.cells (ptA q) 24)).alloc (.cells #[.int .i64 0, .int .i64 0, .int .i64 0, .int .i64 0, .int .i64 0] 24)).alloc (.cells #[.int .i64 0, .int .i64 0, .int .i64 0, .int .i64 0, .int .i64 0] 24)) ∧ Bk ((((w.alloc (.cells (ptA p) 24)).alloc (.cells (ptA q) 24)).alloc (.cells #[.int .i64 0, .int .i64 0, .int .i64 0, .int .i64 0, .int .i64 0] 24)).alloc (.cells #[.int .i64 0, .int .i64 0, .int .i64 0, .int .i64 0, .int .i64 0] 24)) w.heap.size 24 (ptA p) ∧ Bk ((((w.alloc (.cells (ptA p) 24)).alloc (.cells (ptA q) 24)).alloc (.cells #[.int .i64 0, .int .i64 0, .int .i64 0, .int .i64 0, .int .i64 0] 24)).alloc (.cells #[.int .i64 0, .int .i64 0, .int .i64 0, .int .i64 0, .int .i64 0] 24)) (w.heap.size + 1) 24 (ptA q) ∧ Bk ((((w.alloc (.cells (ptA p) 24)).alloc (.cells (ptA q) 24)).alloc (.cells #[.int .i64 0, .int .i64 0, .int .i64 0, .int .i64 0, .int .i64 0] 24)).alloc (.cells #[.int .i64 0, .int .i64 0, .int .i64 0, .int .i64 0, .int .i64 0] 24)) (w.heap.size + 1 + 1) 24 #[.int .i64 0, .int .i64 0, .int .i64 0, .int .i64 0, .int .i64 0] ∧ Bk ((((w.alloc (.cells (ptA p) 24)).alloc (.cells (ptA q) 24)).alloc (.cells #[.int .i64 0, .int .i64 0, .int .i64 0, .int .i64 0, .int .i64 0] 24)).alloc (.cells #[.int .i64 0, .int .i64 0, .int .i64 0, .int .i64 0, .int .i64 0] 24)) (w.heap.size + 1 + 1 + 1) 24 #[.int .i64 0, .int .i64 0, .int .i64 0, .int .i64 0, .int .i64 0] ∧ ((((w.alloc (.cells (ptA p) 24)).alloc (.cells (ptA q) 24)).alloc (.cells #[.int .i64 0, .int .i64 0, .int .i64 0, .int .i64 0, .int .i64 0] 24)).alloc (.cells #[.int .i64 0, .int .i64 0, .int .i64 0, .int .i64 0, .int .i64 0] 24)).heap.size = w.heap.size + 1 + 1 + 1 + 1 := by
  obtain ⟨h1, h2, h3⟩ := two_box p q w
  have ha := (Below.refl _ ((w.alloc (.cells (ptA p) 24)).alloc (.cells (ptA q) 24))).alloc (Nat.le_refl _) (.cells #[.int .i64 0, .int .i64 0, .int .i64 0, .int .i64 0, .int .i64 0] 24)
  have hb := (Below.refl _ (((w.alloc (.cells (ptA p) 24)).alloc (.cells (ptA q) 24)).alloc (.cells #[.int .i64 0, .int .i64 0, .int .i64 0, .int .i64 0, .int .i64 0] 24))).alloc (Nat.le_refl _) (.cells #[.int .i64 0, .int .i64 0, .int .i64 0, .int .i64 0, .int .i64 0] 24)
  have h4 := Bk.new ((w.alloc (.cells (ptA p) 24)).alloc (.cells (ptA q) 24)) 24 #[.int .i64 0, .int .i64 0, .int .i64 0, .int .i64 0, .int .i64 0]
  have h5 := Bk.new (((w.alloc (.cells (ptA p) 24)).alloc (.cells (ptA q) 24)).alloc (.cells #[.int .i64 0, .int .i64 0, .int .i64 0, .int .i64 0, .int .i64 0] 24)) 24 #[.int .i64 0, .int .i64 0, .int .i64 0, .int .i64 0, .int .i64 0]
  rw [World.size_alloc, World.size_alloc] at h4
  rw [World.size_alloc, World.size_alloc, World.size_alloc] at h5
  exact ⟨bl_then (bl_then h1 (Nat.le_refl _) ha) (Nat.le_refl _) hb, (h2.below ha).below hb, (h3.below ha).below hb, h4.below hb, h5, by simp⟩
def comR (L : List Pt) (q : Pt) : Option Pt := (L.filter (fun a => withinP q a)).getLast?
def commonP (p q : Pt) : Option Pt := comR (ways p) q
theorem comR_yes (L : List Pt) (q x : Pt) (h : withinP q x = true) : comR (L ++ [x]) q = some x := by
  unfold comR
  rw [List.filter_append, List.filter_cons, if_pos h]
  simp
theorem comR_no (L : List Pt) (q x : Pt) (h : withinP q x = false) : comR (L ++ [x]) q = comR L q := by
  unfold comR
  rw [List.filter_append, List.filter_cons, if_neg (by rw [h]; simp)]
  simp
theorem withinP_mem {L : List Pt} {q a : Pt} (h : a ∈ L.filter (fun a => withinP q a)) : mayP a = true := (within_may (List.mem_filter.1 h).2).2
theorem comR_dep (p q : Pt) (k : Nat) : (comR ((ways p).take k) q).isSome = decide (0 < ((comR ((ways p).take k) q).getD zeroP).dep) := by
  cases h : comR ((ways p).take k) q with
  | none => rfl
  | some a =>
    unfold comR at h
    have hm := List.mem_of_getLast? h
    have hm2 := (withinP_mem hm)
    have ha := (mayP_iff a).1 hm2
    simp only [Option.isSome_some, Option.getD_some]
    exact (decide_eq_true (by omega)).symm
set_option maxRecDepth 100000 in
set_option maxHeartbeats 4000000 in
theorem pcommon_any (p q : Pt) (hp : okPt p) (w : World) : Calls Tryd.prog 23 #[.agg (ptA p), .agg (ptA q)] w fun e w' => e = .returned (optV (commonP p q)) ∧ Below w.heap.size w w' := by
  obtain ⟨hO, hP, hQ, hR, hB, hsz⟩ := four_box p q w
  have hall := okPt_ways p hp
  have hwl := ways_len p
  have hdep := comR_dep p q
  have HW := Lib.hid (fun W => pways_any p W)
  have HAll := Lib.hid hall
  have HDEP := Lib.hid hdep
  unfold commonP
  clear hall hdep
  generalize hL : ways p = L at HW HAll HDEP hwl ⊢
  clear hL
  have c0 := hP.cell 0
  have c1 := hP.cell 1
  have c2 := hP.cell 2
  have c3 := hP.cell 3
  have c4 := hP.cell 4
  go_enter Tryd.func23, Tryd.ntmps23
  go_wp2_with fail
  generalize ((((w.alloc (.cells (ptA p) 24)).alloc (.cells (ptA q) 24)).alloc (.cells #[.int .i64 0, .int .i64 0, .int .i64 0, .int .i64 0, .int .i64 0] 24)).alloc (.cells #[.int .i64 0, .int .i64 0, .int .i64 0, .int .i64 0, .int .i64 0] 24)) = w0 at hO hQ hR hB hsz c0 c1 c2 c3 c4 ⊢
  obtain ⟨B0, hB0⟩ : ∃ B0, B0 = w.heap.size := ⟨_, rfl⟩
  rw [← hB0] at hO hQ hR hB hsz c0 c1 c2 c3 c4 ⊢
  refine (HW.out w0).mono ?_
  rintro e w2 ⟨v, rfl, hown, hb2⟩
  obtain ⟨A, c, rfl, hs, _, hAb⟩ := SR.own (ok := okPt) enPt_len (by omega) hown HAll.out
  clear hown c0 c1 c2 c3 c4 hP
  have HO2 := hO.trans (hb2.mono (show B0 ≤ w0.heap.size by omega))
  have q2 := hQ.below hb2
  have r2 := hR.below hb2
  have b2 := hB.below hb2
  have hAb' : ∀ x, A = some x → ¬ (x.block = B0 + 1 + 1 + 1) := fun x hx hh => by have := hAb x hx; omega
  have HAB := Lib.hid hAb'
  have HO := Lib.hid HO2
  have HBR := Lib.hid hB0
  have HS := Lib.hid hs
  clear hO hQ hR hB hb2 hAb hAb' hsz HO2 hB0 hs
  go_wp2_with fail
  go_loopw [7, 14] (fun sf c wr => ∃ k : Nat, k ≤ L.length ∧ c = .int .i64 k ∧ sf = .bool (comR (L.take k) q).isSome ∧ Keep (fun i => i = B0 + 1 + 1 + 1) w2 wr ∧ Bk wr (B0 + 1 + 1 + 1) 24 (ptA ((comR (L.take k) q).getD zeroP)) ∧ Bk wr (B0 + 1) 24 (ptA q) ∧ Bk wr (B0 + 1 + 1) 24 #[.int .i64 0, .int .i64 0, .int .i64 0, .int .i64 0, .int .i64 0]) (fun _ c _ => L.length - (intOf c).toNat)
  case atStart => exact ⟨0, by omega, rfl, rfl, Keep.refl _ _, b2, q2, r2⟩
  case round =>
    clear b2 q2 r2
    obtain ⟨k, hk, rfl, rfl, KP, hB, hQ, hR⟩ := hrel
    by_cases hlt : k < L.length
    · obtain ⟨b, off, x, rfl, _, hx, hxo, d0, d1, d2, d3, d4⟩ := Pt_at (HS.out.keep KP HAB.out) hlt
      have htk := take_snocG L k x hx
      have hOx : Below wr.heap.size wr (wr.alloc (.cells (ptA x) 24)) := (Below.refl _ _).alloc (Nat.le_refl _) _
      have hQx := hQ.below hOx
      have hBx := hB.below hOx
      have hRx := hR.below hOx
      have hXx := Bk.new wr 24 (ptA x)
      have KPx : Keep (fun i => i = B0 + 1 + 1 + 1) w2 _ := KP.trans (Keep.of_below hOx _)
      have e0 := hQx.cell 0
      have e1 := hQx.cell 1
      have e2 := hQx.cell 2
      have e3 := hQx.cell 3
      have e4 := hQx.cell 4
      have x0 := hXx.cell 0
      have x1 := hXx.cell 1
      have x2 := hXx.cell 2
      have x3 := hXx.cell 3
      have x4 := hXx.cell 4
      have hlb := hB.lt
      have hne1 : B0 + 1 + 1 + 1 ≠ wr.heap.size := by omega
      generalize hbest : (comR (L.take k) q).getD zeroP = best at hB hBx ⊢
      clear hQ hB hR hOx hxo KP
      cases hr : withinP q x with
      | true =>
        have hst := comR_yes (L.take k) q x hr
        rw [← htk] at hst
        have HST := Lib.hid hst
        clear hst htk hx hbest
        go_wp2_with (go_at_call 18; refine (within_val hr _).mono ?_; rintro e w5 ⟨rfl, hb5⟩; have q5 := hQx.below hb5; have b5 := hBx.below hb5; have r5 := hRx.below hb5; have z5 := hXx.below hb5; have K5 := KPx.trans (Keep.of_below hb5 _); clear e0 e1 e2 e3 e4 x0 x1 x2 x3 x4 hQx hBx hRx hXx KPx hb5; have x0 := z5.cell 0; have x1 := z5.cell 1; have x2 := z5.cell 2; have x3 := z5.cell 3; have x4 := z5.cell 4; have y0 := b5.cell 0; have y1 := b5.cell 1; have y2 := b5.cell 2; have y3 := b5.cell 3; have y4 := b5.cell 4; have f0 := b5.frozen 0; have f1 := b5.frozen 1; have f2 := b5.frozen 2; have f3 := b5.frozen 3; have f4 := b5.frozen 4; have HB6 := Lib.hid (five_bk b5 rfl (.int .i64 x.n0) (.int .i64 x.n1) (.int .i64 x.n2) (.int .i64 x.n3) (.int .i64 x.dep)); have K6 := five_keep w5 (B0 + 1 + 1 + 1) (.int .i64 x.n0) (.int .i64 x.n1) (.int .i64 x.n2) (.int .i64 x.n3) (.int .i64 x.dep); have HK6 := Lib.hid (K5.trans K6); have HQ6 := Lib.hid (K6.bk q5 (by omega)); have HR6 := Lib.hid (K6.bk r5 (by omega)); clear q5 b5 r5 z5 K5 K6)
        go_roundw
        case rel => exact ⟨k + 1, by omega, by go_num, by rw [HST.out]; rfl, HK6.out, by rw [HST.out]; exact HB6.out, HQ6.out, HR6.out⟩
        case measure => simp [intOf]; omega
      | false =>
        have hst := comR_no (L.take k) q x hr
        rw [← htk] at hst
        have HST := Lib.hid hst
        have HBE := Lib.hid hbest
        clear hst htk hx hbest
        go_wp2_with (go_at_call 18; refine (within_val hr _).mono ?_; rintro e w5 ⟨rfl, hb5⟩; have q5 := hQx.below hb5; have b5 := hBx.below hb5; have r5 := hRx.below hb5; have K5 := KPx.trans (Keep.of_below hb5 _); clear e0 e1 e2 e3 e4 x0 x1 x2 x3 x4 hQx hBx hRx hXx KPx hb5)
        go_roundw
        case rel => exact ⟨k + 1, by omega, by go_num, by rw [HST.out], K5, by rw [HST.out, HBE.out]; exact b5, q5, r5⟩
        case measure => simp [intOf]; omega
    · obtain rfl : k = L.length := by omega
      have hdp := HDEP.out L.length
      rw [List.take_length] at hB hdp ⊢
      obtain ⟨o, ho⟩ : ∃ o, o = comR L q := ⟨_, rfl⟩
      rw [← ho] at hB hdp
      try rw [← ho]
      generalize hbb : o.getD zeroP = best at hB hdp
      have HBB := Lib.hid hbb
      have HCO := Lib.hid ho
      have HDP := Lib.hid hdp
      clear hbb ho hdp
      obtain ⟨y0, y1, y2, y3, y4⟩ := best
      have c0 := hB.cell 0
      have c1 := hB.cell 1
      have c2 := hB.cell 2
      have c3 := hB.cell 3
      have c4 := hB.cell 4
      have r0 := hR.cell 0
      have r1 := hR.cell 1
      have r2 := hR.cell 2
      have r3 := hR.cell 3
      have r4 := hR.cell 4
      have f0 := hR.frozen 0
      have f1 := hR.frozen 1
      have f2 := hR.frozen 2
      have f3 := hR.frozen 3
      have f4 := hR.frozen 4
      have HF := Lib.hid (five_sets hR (.int .i64 y0) (.int .i64 y1) (.int .i64 y2) (.int .i64 y3) (.int .i64 y4))
      have hK : Below B0 w2 wr := KP.below (by have := HO.out.size; have := HBR.out; omega) (fun i hi => by omega)
      have HBL : Hid (Below B0 w wr) := Lib.hid (HO.out.trans hK)
      clear hK KP HS HAB HW HAll hB hQ hR
      go_wp2
      obtain ⟨z0, z1, z2, z3, z4⟩ := HF.out
      have hbr := HBR.out
      subst hbr
      exact bodyPost_ret (v := .tuple #[.agg #[.int .i64 y0, .int .i64 y1, .int .i64 y2, .int .i64 y3, .int .i64 y4], .bool o.isSome]) (by simp [results, Tryd.results23, go_sem, z0, z1, z2, z3, z4]) rfl ⟨by unfold optV; rw [← HCO.out, HBB.out], five_below HBL.out (by omega) _ _ _ _ _⟩
theorem rin_val {p q : Pt} {b : Bool} (hp : okPt p) (h : withinP p q = b) (w : World) : Calls Tryd.prog 29 #[.agg (ptA p), .agg (ptA q)] w fun e w' => e = .returned (.bool b) ∧ Below w.heap.size w w' := by
  rw [← h, ← in_eq]
  exact rin_any p q hp w
set_option maxRecDepth 100000 in
set_option maxHeartbeats 4000000 in
theorem rcommon_any (p q : Pt) (hp : okPt p) (hq : okPt q) (w : World) : Calls Tryd.prog 24 #[.agg (ptA p), .agg (ptA q)] w fun e w' => e = .returned (optV (commonP p q)) ∧ Below w.heap.size w w' := by
  obtain ⟨hO, hP, hQ, hR, hB, hsz⟩ := four_box p q w
  have hall := okPt_ways p hp
  have hwl := ways_len p
  have hdep := comR_dep p q
  have HW := Lib.hid (fun W => rways_any p W)
  have HAll := Lib.hid hall
  have HDEP := Lib.hid hdep
  unfold commonP
  clear hall hdep
  generalize hL : ways p = L at HW HAll HDEP hwl ⊢
  clear hL
  have c0 := hP.cell 0
  have c1 := hP.cell 1
  have c2 := hP.cell 2
  have c3 := hP.cell 3
  have c4 := hP.cell 4
  go_enter Tryd.func24, Tryd.ntmps24
  go_wp2_with fail
  generalize ((((w.alloc (.cells (ptA p) 24)).alloc (.cells (ptA q) 24)).alloc (.cells #[.int .i64 0, .int .i64 0, .int .i64 0, .int .i64 0, .int .i64 0] 24)).alloc (.cells #[.int .i64 0, .int .i64 0, .int .i64 0, .int .i64 0, .int .i64 0] 24)) = w0 at hO hQ hR hB hsz c0 c1 c2 c3 c4 ⊢
  obtain ⟨B0, hB0⟩ : ∃ B0, B0 = w.heap.size := ⟨_, rfl⟩
  rw [← hB0] at hO hQ hR hB hsz c0 c1 c2 c3 c4 ⊢
  refine (HW.out w0).mono ?_
  rintro e w2 ⟨v, rfl, hown, hb2⟩
  obtain ⟨A, c, rfl, hs, _, hAb⟩ := SR.own (ok := okPt) enPt_len (by omega) hown HAll.out
  clear hown c0 c1 c2 c3 c4 hP
  have HO2 := hO.trans (hb2.mono (show B0 ≤ w0.heap.size by omega))
  have q2 := hQ.below hb2
  have r2 := hR.below hb2
  have b2 := hB.below hb2
  have hAb' : ∀ x, A = some x → ¬ (x.block = B0 + 1 + 1 + 1) := fun x hx hh => by have := hAb x hx; omega
  have HAB := Lib.hid hAb'
  have HO := Lib.hid HO2
  have HBR := Lib.hid hB0
  have HS := Lib.hid hs
  clear hO hQ hR hB hb2 hAb hAb' hsz HO2 hB0 hs
  go_wp2_with fail
  go_loopw [12] (fun c wr => ∃ k : Nat, k ≤ L.length ∧ c = .int .i64 k ∧ Keep (fun i => i = B0 + 1 + 1 + 1) w2 wr ∧ Bk wr (B0 + 1 + 1 + 1) 24 (ptA ((comR (L.take k) q).getD zeroP)) ∧ Bk wr (B0 + 1) 24 (ptA q) ∧ Bk wr (B0 + 1 + 1) 24 #[.int .i64 0, .int .i64 0, .int .i64 0, .int .i64 0, .int .i64 0]) (fun c _ => L.length - (intOf c).toNat)
  case atStart => exact ⟨0, by omega, rfl, Keep.refl _ _, b2, q2, r2⟩
  case round =>
    clear b2 q2 r2
    obtain ⟨k, hk, rfl, KP, hB, hQ, hR⟩ := hrel
    by_cases hlt : k < L.length
    · obtain ⟨b, off, x, rfl, _, hx, hxo, d0, d1, d2, d3, d4⟩ := Pt_at (HS.out.keep KP HAB.out) hlt
      have htk := take_snocG L k x hx
      have hOx : Below wr.heap.size wr (wr.alloc (.cells (ptA x) 24)) := (Below.refl _ _).alloc (Nat.le_refl _) _
      have hQx := hQ.below hOx
      have hBx := hB.below hOx
      have hRx := hR.below hOx
      have hXx := Bk.new wr 24 (ptA x)
      have KPx : Keep (fun i => i = B0 + 1 + 1 + 1) w2 _ := KP.trans (Keep.of_below hOx _)
      have e0 := hQx.cell 0
      have e1 := hQx.cell 1
      have e2 := hQx.cell 2
      have e3 := hQx.cell 3
      have e4 := hQx.cell 4
      have x0 := hXx.cell 0
      have x1 := hXx.cell 1
      have x2 := hXx.cell 2
      have x3 := hXx.cell 3
      have x4 := hXx.cell 4
      have hlb := hB.lt
      have hne1 : B0 + 1 + 1 + 1 ≠ wr.heap.size := by omega
      generalize hbest : (comR (L.take k) q).getD zeroP = best at hB hBx ⊢
      clear hQ hB hR hOx hxo KP
      cases hr : withinP q x with
      | true =>
        have hst := comR_yes (L.take k) q x hr
        rw [← htk] at hst
        have HST := Lib.hid hst
        clear hst htk hx hbest
        go_wp2_with (go_at_call 29; refine (rin_val hq hr _).mono ?_; rintro e w5 ⟨rfl, hb5⟩; have q5 := hQx.below hb5; have b5 := hBx.below hb5; have r5 := hRx.below hb5; have z5 := hXx.below hb5; have K5 := KPx.trans (Keep.of_below hb5 _); clear e0 e1 e2 e3 e4 x0 x1 x2 x3 x4 hQx hBx hRx hXx KPx hb5; have x0 := z5.cell 0; have x1 := z5.cell 1; have x2 := z5.cell 2; have x3 := z5.cell 3; have x4 := z5.cell 4; have y0 := b5.cell 0; have y1 := b5.cell 1; have y2 := b5.cell 2; have y3 := b5.cell 3; have y4 := b5.cell 4; have f0 := b5.frozen 0; have f1 := b5.frozen 1; have f2 := b5.frozen 2; have f3 := b5.frozen 3; have f4 := b5.frozen 4; have HB6 := Lib.hid (five_bk b5 rfl (.int .i64 x.n0) (.int .i64 x.n1) (.int .i64 x.n2) (.int .i64 x.n3) (.int .i64 x.dep)); have K6 := five_keep w5 (B0 + 1 + 1 + 1) (.int .i64 x.n0) (.int .i64 x.n1) (.int .i64 x.n2) (.int .i64 x.n3) (.int .i64 x.dep); have HK6 := Lib.hid (K5.trans K6); have HQ6 := Lib.hid (K6.bk q5 (by omega)); have HR6 := Lib.hid (K6.bk r5 (by omega)); clear q5 b5 r5 z5 K5 K6)
        go_roundw
        case rel => exact ⟨k + 1, by omega, by go_num, HK6.out, by rw [HST.out]; exact HB6.out, HQ6.out, HR6.out⟩
        case measure => simp [intOf]; omega
      | false =>
        have hst := comR_no (L.take k) q x hr
        rw [← htk] at hst
        have HST := Lib.hid hst
        have HBE := Lib.hid hbest
        clear hst htk hx hbest
        go_wp2_with (go_at_call 29; refine (rin_val hq hr _).mono ?_; rintro e w5 ⟨rfl, hb5⟩; have q5 := hQx.below hb5; have b5 := hBx.below hb5; have r5 := hRx.below hb5; have K5 := KPx.trans (Keep.of_below hb5 _); clear e0 e1 e2 e3 e4 x0 x1 x2 x3 x4 hQx hBx hRx hXx KPx hb5)
        go_roundw
        case rel => exact ⟨k + 1, by omega, by go_num, K5, by rw [HST.out, HBE.out]; exact b5, q5, r5⟩
        case measure => simp [intOf]; omega
    · obtain rfl : k = L.length := by omega
      have hdp := HDEP.out L.length
      rw [List.take_length] at hB hdp
      obtain ⟨o, ho⟩ : ∃ o, o = comR L q := ⟨_, rfl⟩
      rw [← ho] at hB hdp
      try rw [← ho]
      generalize hbb : o.getD zeroP = best at hB hdp
      have HBB := Lib.hid hbb
      have HCO := Lib.hid ho
      have HDP := Lib.hid hdp
      clear hbb ho hdp
      obtain ⟨y0, y1, y2, y3, y4⟩ := best
      have hB0 := hB
      have hR0 := hR
      have hBq : Bk wr.drew _ _ _ := hB0
      have hRq : Bk wr.drew _ _ _ := hR0
      have hBz := hB
      have rr0 := hR0.cell 0
      have rr1 := hR0.cell 1
      have rr2 := hR0.cell 2
      have rr3 := hR0.cell 3
      have rr4 := hR0.cell 4
      have ff0 := hR0.frozen 0
      have ff1 := hR0.frozen 1
      have ff2 := hR0.frozen 2
      have ff3 := hR0.frozen 3
      have ff4 := hR0.frozen 4
      have cc0 := hB0.cell 0
      have cc1 := hB0.cell 1
      have cc2 := hB0.cell 2
      have cc3 := hB0.cell 3
      have KS5 := five_keep wr (B0 + 1 + 1) (.int .i64 y0) (.int .i64 y1) (.int .i64 y2) (.int .i64 y3) (.int .i64 y4)
      replace hB := hBq
      replace hR := hRq
      clear hB0 hR0
      have c0 := hB.cell 0
      have c1 := hB.cell 1
      have c2 := hB.cell 2
      have c3 := hB.cell 3
      have c4 := hB.cell 4
      have r0 := hR.cell 0
      have r1 := hR.cell 1
      have r2 := hR.cell 2
      have r3 := hR.cell 3
      have r4 := hR.cell 4
      have f0 := hR.frozen 0
      have f1 := hR.frozen 1
      have f2 := hR.frozen 2
      have f3 := hR.frozen 3
      have f4 := hR.frozen 4
      have hRz : Bk wr _ _ _ := hR
      have HF := Lib.hid (five_sets hRz (.int .i64 y0) (.int .i64 y1) (.int .i64 y2) (.int .i64 y3) (.int .i64 y4))
      have hK : Below B0 w2 wr := KP.below (by have := HO.out.size; have := HBR.out; omega) (fun i hi => by omega)
      have HBL : Hid (Below B0 w wr) := Lib.hid (HO.out.trans hK)
      clear hK KP HS HAB HW HAll hB hQ hR hRz
      go_wp2_with fail
      have m0 := hBz.cell 4
      have m1 := (KS5.bk hBz (by omega)).cell 4
      have m2 : ((((((wr.setCell ⟨B0 + 1 + 1, 0, none⟩ (.int .i64 y0)).setCell ⟨B0 + 1 + 1, 1, none⟩ (.int .i64 y1)).setCell ⟨B0 + 1 + 1, 2, none⟩ (.int .i64 y2)).setCell ⟨B0 + 1 + 1, 3, none⟩ (.int .i64 y3)).setCell ⟨B0 + 1 + 1, 4, none⟩ (.int .i64 y4)).drew).cell? ⟨B0 + 1 + 1 + 1, 4, none⟩ = some (.int .i64 y4) := m1
      clear hBz KS5
      go_region
      go_wp2
      obtain ⟨z0, z1, z2, z3, z4⟩ := HF.out
      have hbr := HBR.out
      subst hbr
      exact bodyPost_ret (v := .tuple #[.agg #[.int .i64 y0, .int .i64 y1, .int .i64 y2, .int .i64 y3, .int .i64 y4], .bool (decide (0 < y4))]) (by simp [results, Tryd.results24, go_sem, z0, z1, z2, z3, z4]) rfl ⟨by unfold optV; rw [← HCO.out, HBB.out, HDP.out], bl_then (five_below HBL.out (by omega) _ _ _ _ _) (Nat.le_refl _) (below_drew _)⟩
end Go.Proofs.YtlbjlopljlblpaaDoor
