/- PathOrder: its walk. Condition: the library's table of powers of ten reads as the program lays it. -/
import Derived.Test.YtlbjlopljlblpaaDoorPthY
import Derived.Test.YtlbjlopljlblpaaDoorPthJ
import Derived.Deep.RegionHeld3
set_option linter.unusedVariables false
set_option linter.unusedSimpArgs false
namespace Go.Proofs.YtlbjlopljlblpaaDoor
open Go.RowKit (wrap32 wrap64)
open Go.RowKit Go.Shelf
open Go.Sort (grow)
theorem samePt_self (a b : Option Addr) (n m cn cm : Nat) (xs : List Pt) (w : World) (ha : Pts w a n xs) (hb : Pts w b m xs) : Calls Tryd.prog 26 #[.slice a n cn, .slice b m cm] w fun e w' => e = .returned (.bool true) ∧ Below w.heap.size w w' := by
  have := samePt_any a b n m cn cm xs xs w ha hb
  rwa [decide_eq_true rfl] at this
theorem rless_val {p q : Pt} {b : Bool} (h : lessP p q = b) (w : World) : Calls Tryd.prog 30 #[.agg (ptA p), .agg (ptA q)] w fun e w' => e = .returned (.bool b) ∧ Below w.heap.size w w' := by
  rw [← h, ← rless_eq]
  exact rless_any p q w
theorem rkey_val {p : Pt} {k : Int} (h : keyP p = k) (w : World) : Calls Tryd.prog 31 #[.agg (ptA p)] w fun e w' => e = .returned (.int .u64 k) ∧ Below w.heap.size w w' := h ▸ rkey_any p w
set_option maxRecDepth 100000 in
set_option maxHeartbeats 16000000 in
theorem pathOrder_walk (p q : Pt) (n : Int) (hp : okPt p) (hq : okPt q) (w : World) (ht : Tab10 w) : Calls Tryd.prog 7 #[.agg (ptA p), .agg (ptA q), .int .i64 n] w fun e w' => e = .returned (.bool true) ∧ Below w.heap.size w w' := by
  obtain ⟨hO, hP, hQ⟩ := two_box p q w
  have haw := pawake_any _ (tab_below ht _ hO)
  have hc1 := fun W => pup_any p W
  have hc2 := fun W => rup_any p W
  have hc3 := fun W => pcommon_any p q hp W
  have hc4 := fun W => rcommon_any p q hp hq W
  have hc5 := fun W => pkid_any p n W
  have hc6 := fun W => rkid_any p n W
  unfold optV at hc1 hc2 hc3 hc4 hc5 hc6
  generalize (upP p).getD zeroP = u at hc1 hc2
  generalize (upP p).isSome = ub at hc1 hc2
  generalize (commonP p q).getD zeroP = c at hc3 hc4
  generalize (commonP p q).isSome = cb at hc3 hc4
  generalize (kidP p n).getD zeroP = x at hc5 hc6
  generalize (kidP p n).isSome = xb at hc5 hc6
  obtain ⟨wb, hwb⟩ : ∃ b, withinP p q = b := ⟨_, rfl⟩
  obtain ⟨lb, hlb⟩ : ∃ b, lessP p q = b := ⟨_, rfl⟩
  obtain ⟨ky, hky⟩ : ∃ k, keyP p = k := ⟨_, rfl⟩
  have HW1 := Lib.hid (within_val hwb)
  have HW2 := Lib.hid (rin_val hp hwb)
  have HL1 := Lib.hid (less_val hlb)
  have HL2 := Lib.hid (rless_val hlb)
  have HK1 := Lib.hid (key_val hky)
  have HK2 := Lib.hid (rkey_val hky)
  have HY1 := Lib.hid (fun W => pways_any p W)
  have HY2 := Lib.hid (fun W => rways_any p W)
  have HOKW := Lib.hid (okPt_ways p hp)
  generalize ways p = L at HY1 HY2 HOKW
  have H1 := Lib.hid hc1
  have H2 := Lib.hid hc2
  have H3 := Lib.hid hc3
  have H4 := Lib.hid hc4
  have H5 := Lib.hid hc5
  have H6 := Lib.hid hc6
  have HAW := Lib.hid haw
  dsimp only [ptA] at hO hP hQ
  clear hc1 hc2 hc3 hc4 hc5 hc6 haw ht hwb hlb hky hp hq
  go_enter Tryd.func7, Tryd.ntmps7
  go_wp2_with fail
  refine (HAW.out).mono ?_
  rintro e w1 ⟨rfl, hb1⟩
  have kP := hP.below hb1
  have kQ := hQ.below hb1
  have kB := bl_then hO (Nat.le_refl _) hb1
  clear hP hQ hO hb1 HAW
  have a0 := kP.cell 0
  have a1 := kP.cell 1
  have a2 := kP.cell 2
  have a3 := kP.cell 3
  have a4 := kP.cell 4
  go_wp2_with fail
  refine (H1.out _).mono ?_
  rintro e w2 ⟨rfl, hb2⟩
  replace kP := box1 kP hb2 #[.int .i64 u.n0, .int .i64 u.n1, .int .i64 u.n2, .int .i64 u.n3, .int .i64 u.dep]
  replace kQ := box1 kQ hb2 #[.int .i64 u.n0, .int .i64 u.n1, .int .i64 u.n2, .int .i64 u.n3, .int .i64 u.dep]
  have kR0 := Bk.new w2 24 #[.int .i64 u.n0, .int .i64 u.n1, .int .i64 u.n2, .int .i64 u.n3, .int .i64 u.dep]
  replace kB := below1 kB hb2 #[.int .i64 u.n0, .int .i64 u.n1, .int .i64 u.n2, .int .i64 u.n3, .int .i64 u.dep]
  clear hb2 a0 a1 a2 a3 a4 
  have a0 := kP.cell 0
  have a1 := kP.cell 1
  have a2 := kP.cell 2
  have a3 := kP.cell 3
  have a4 := kP.cell 4
  go_wp2_with fail
  refine (H2.out _).mono ?_
  rintro e w3 ⟨rfl, hb3⟩
  replace kP := box1 kP hb3 #[.int .i64 u.n0, .int .i64 u.n1, .int .i64 u.n2, .int .i64 u.n3, .int .i64 u.dep]
  replace kQ := box1 kQ hb3 #[.int .i64 u.n0, .int .i64 u.n1, .int .i64 u.n2, .int .i64 u.n3, .int .i64 u.dep]
  replace kR0 := box1 kR0 hb3 #[.int .i64 u.n0, .int .i64 u.n1, .int .i64 u.n2, .int .i64 u.n3, .int .i64 u.dep]
  have kR1 := Bk.new w3 24 #[.int .i64 u.n0, .int .i64 u.n1, .int .i64 u.n2, .int .i64 u.n3, .int .i64 u.dep]
  replace kB := below1 kB hb3 #[.int .i64 u.n0, .int .i64 u.n1, .int .i64 u.n2, .int .i64 u.n3, .int .i64 u.dep]
  clear hb3 a0 a1 a2 a3 a4 
  have a0 := kP.cell 0
  have a1 := kP.cell 1
  have a2 := kP.cell 2
  have a3 := kP.cell 3
  have a4 := kP.cell 4
  have b0 := kQ.cell 0
  have b1 := kQ.cell 1
  have b2 := kQ.cell 2
  have b3 := kQ.cell 3
  have b4 := kQ.cell 4
  go_wp2_with fail
  refine (H3.out _).mono ?_
  rintro e w4 ⟨rfl, hb4⟩
  replace kP := box1 kP hb4 #[.int .i64 c.n0, .int .i64 c.n1, .int .i64 c.n2, .int .i64 c.n3, .int .i64 c.dep]
  replace kQ := box1 kQ hb4 #[.int .i64 c.n0, .int .i64 c.n1, .int .i64 c.n2, .int .i64 c.n3, .int .i64 c.dep]
  replace kR0 := box1 kR0 hb4 #[.int .i64 c.n0, .int .i64 c.n1, .int .i64 c.n2, .int .i64 c.n3, .int .i64 c.dep]
  replace kR1 := box1 kR1 hb4 #[.int .i64 c.n0, .int .i64 c.n1, .int .i64 c.n2, .int .i64 c.n3, .int .i64 c.dep]
  have kR2 := Bk.new w4 24 #[.int .i64 c.n0, .int .i64 c.n1, .int .i64 c.n2, .int .i64 c.n3, .int .i64 c.dep]
  replace kB := below1 kB hb4 #[.int .i64 c.n0, .int .i64 c.n1, .int .i64 c.n2, .int .i64 c.n3, .int .i64 c.dep]
  clear hb4 a0 a1 a2 a3 a4 b0 b1 b2 b3 b4
  have a0 := kP.cell 0
  have a1 := kP.cell 1
  have a2 := kP.cell 2
  have a3 := kP.cell 3
  have a4 := kP.cell 4
  have b0 := kQ.cell 0
  have b1 := kQ.cell 1
  have b2 := kQ.cell 2
  have b3 := kQ.cell 3
  have b4 := kQ.cell 4
  go_wp2_with fail
  refine (H4.out _).mono ?_
  rintro e w5 ⟨rfl, hb5⟩
  replace kP := box1 kP hb5 #[.int .i64 c.n0, .int .i64 c.n1, .int .i64 c.n2, .int .i64 c.n3, .int .i64 c.dep]
  replace kQ := box1 kQ hb5 #[.int .i64 c.n0, .int .i64 c.n1, .int .i64 c.n2, .int .i64 c.n3, .int .i64 c.dep]
  replace kR0 := box1 kR0 hb5 #[.int .i64 c.n0, .int .i64 c.n1, .int .i64 c.n2, .int .i64 c.n3, .int .i64 c.dep]
  replace kR1 := box1 kR1 hb5 #[.int .i64 c.n0, .int .i64 c.n1, .int .i64 c.n2, .int .i64 c.n3, .int .i64 c.dep]
  replace kR2 := box1 kR2 hb5 #[.int .i64 c.n0, .int .i64 c.n1, .int .i64 c.n2, .int .i64 c.n3, .int .i64 c.dep]
  have kR3 := Bk.new w5 24 #[.int .i64 c.n0, .int .i64 c.n1, .int .i64 c.n2, .int .i64 c.n3, .int .i64 c.dep]
  replace kB := below1 kB hb5 #[.int .i64 c.n0, .int .i64 c.n1, .int .i64 c.n2, .int .i64 c.n3, .int .i64 c.dep]
  clear hb5 a0 a1 a2 a3 a4 b0 b1 b2 b3 b4
  have a0 := kP.cell 0
  have a1 := kP.cell 1
  have a2 := kP.cell 2
  have a3 := kP.cell 3
  have a4 := kP.cell 4
  go_wp2_with fail
  refine (H5.out _).mono ?_
  rintro e w6 ⟨rfl, hb6⟩
  replace kP := box1 kP hb6 #[.int .i64 x.n0, .int .i64 x.n1, .int .i64 x.n2, .int .i64 x.n3, .int .i64 x.dep]
  replace kQ := box1 kQ hb6 #[.int .i64 x.n0, .int .i64 x.n1, .int .i64 x.n2, .int .i64 x.n3, .int .i64 x.dep]
  replace kR0 := box1 kR0 hb6 #[.int .i64 x.n0, .int .i64 x.n1, .int .i64 x.n2, .int .i64 x.n3, .int .i64 x.dep]
  replace kR1 := box1 kR1 hb6 #[.int .i64 x.n0, .int .i64 x.n1, .int .i64 x.n2, .int .i64 x.n3, .int .i64 x.dep]
  replace kR2 := box1 kR2 hb6 #[.int .i64 x.n0, .int .i64 x.n1, .int .i64 x.n2, .int .i64 x.n3, .int .i64 x.dep]
  replace kR3 := box1 kR3 hb6 #[.int .i64 x.n0, .int .i64 x.n1, .int .i64 x.n2, .int .i64 x.n3, .int .i64 x.dep]
  have kR4 := Bk.new w6 24 #[.int .i64 x.n0, .int .i64 x.n1, .int .i64 x.n2, .int .i64 x.n3, .int .i64 x.dep]
  replace kB := below1 kB hb6 #[.int .i64 x.n0, .int .i64 x.n1, .int .i64 x.n2, .int .i64 x.n3, .int .i64 x.dep]
  clear hb6 a0 a1 a2 a3 a4 
  have a0 := kP.cell 0
  have a1 := kP.cell 1
  have a2 := kP.cell 2
  have a3 := kP.cell 3
  have a4 := kP.cell 4
  go_wp2_with fail
  refine (H6.out _).mono ?_
  rintro e w7 ⟨rfl, hb7⟩
  replace kP := box1 kP hb7 #[.int .i64 x.n0, .int .i64 x.n1, .int .i64 x.n2, .int .i64 x.n3, .int .i64 x.dep]
  replace kQ := box1 kQ hb7 #[.int .i64 x.n0, .int .i64 x.n1, .int .i64 x.n2, .int .i64 x.n3, .int .i64 x.dep]
  replace kR0 := box1 kR0 hb7 #[.int .i64 x.n0, .int .i64 x.n1, .int .i64 x.n2, .int .i64 x.n3, .int .i64 x.dep]
  replace kR1 := box1 kR1 hb7 #[.int .i64 x.n0, .int .i64 x.n1, .int .i64 x.n2, .int .i64 x.n3, .int .i64 x.dep]
  replace kR2 := box1 kR2 hb7 #[.int .i64 x.n0, .int .i64 x.n1, .int .i64 x.n2, .int .i64 x.n3, .int .i64 x.dep]
  replace kR3 := box1 kR3 hb7 #[.int .i64 x.n0, .int .i64 x.n1, .int .i64 x.n2, .int .i64 x.n3, .int .i64 x.dep]
  replace kR4 := box1 kR4 hb7 #[.int .i64 x.n0, .int .i64 x.n1, .int .i64 x.n2, .int .i64 x.n3, .int .i64 x.dep]
  have kR5 := Bk.new w7 24 #[.int .i64 x.n0, .int .i64 x.n1, .int .i64 x.n2, .int .i64 x.n3, .int .i64 x.dep]
  replace kB := below1 kB hb7 #[.int .i64 x.n0, .int .i64 x.n1, .int .i64 x.n2, .int .i64 x.n3, .int .i64 x.dep]
  clear hb7 a0 a1 a2 a3 a4 
  go_upto_region 9 with fail
  generalize w7.alloc (.cells #[.int .i64 x.n0, .int .i64 x.n1, .int .i64 x.n2, .int .i64 x.n3, .int .i64 x.dep] 24) = wz at kB kP kQ kR0 kR1 kR2 kR3 kR4 kR5 ⊢
  generalize w2.heap.size = bR0 at kR0 ⊢
  generalize w3.heap.size = bR1 at kR1 ⊢
  generalize w4.heap.size = bR2 at kR2 ⊢
  generalize w5.heap.size = bR3 at kR3 ⊢
  generalize w6.heap.size = bR4 at kR4 ⊢
  generalize w7.heap.size = bR5 at kR5 ⊢
  obtain ⟨bP, hbP⟩ : ∃ x, x = w.heap.size := ⟨_, rfl⟩
  obtain ⟨bQ, hbQ⟩ : ∃ x, x = w.heap.size + 1 := ⟨_, rfl⟩
  rw [← hbQ] at kQ ⊢
  rw [← hbP] at kP ⊢
  have dP : Bk wz.drew bP 24 #[.int .i64 p.n0, .int .i64 p.n1, .int .i64 p.n2, .int .i64 p.n3, .int .i64 p.dep] := kP
  have dQ : Bk wz.drew bQ 24 #[.int .i64 q.n0, .int .i64 q.n1, .int .i64 q.n2, .int .i64 q.n3, .int .i64 q.dep] := kQ
  have dR0 : Bk wz.drew bR0 24 #[.int .i64 u.n0, .int .i64 u.n1, .int .i64 u.n2, .int .i64 u.n3, .int .i64 u.dep] := kR0
  have dR1 : Bk wz.drew bR1 24 #[.int .i64 u.n0, .int .i64 u.n1, .int .i64 u.n2, .int .i64 u.n3, .int .i64 u.dep] := kR1
  have dR2 : Bk wz.drew bR2 24 #[.int .i64 c.n0, .int .i64 c.n1, .int .i64 c.n2, .int .i64 c.n3, .int .i64 c.dep] := kR2
  have dR3 : Bk wz.drew bR3 24 #[.int .i64 c.n0, .int .i64 c.n1, .int .i64 c.n2, .int .i64 c.n3, .int .i64 c.dep] := kR3
  have dR4 : Bk wz.drew bR4 24 #[.int .i64 x.n0, .int .i64 x.n1, .int .i64 x.n2, .int .i64 x.n3, .int .i64 x.dep] := kR4
  have dR5 : Bk wz.drew bR5 24 #[.int .i64 x.n0, .int .i64 x.n1, .int .i64 x.n2, .int .i64 x.n3, .int .i64 x.dep] := kR5
  have HO := Lib.hid (kB.trans ((below_drew wz).mono kB.size))
  have gS : ∀ w', Below wz.drew.heap.size wz.drew w' → (Below wz.drew.heap.size wz.drew w' ∧ w'.cell? ⟨bP, 0, none⟩ = some (.int .i64 p.n0) ∧ w'.cell? ⟨bP, 1, none⟩ = some (.int .i64 p.n1) ∧ w'.cell? ⟨bP, 2, none⟩ = some (.int .i64 p.n2) ∧ w'.cell? ⟨bP, 3, none⟩ = some (.int .i64 p.n3) ∧ w'.cell? ⟨bP, 4, none⟩ = some (.int .i64 p.dep) ∧ w'.cell? ⟨bQ, 0, none⟩ = some (.int .i64 q.n0) ∧ w'.cell? ⟨bQ, 1, none⟩ = some (.int .i64 q.n1) ∧ w'.cell? ⟨bQ, 2, none⟩ = some (.int .i64 q.n2) ∧ w'.cell? ⟨bQ, 3, none⟩ = some (.int .i64 q.n3) ∧ w'.cell? ⟨bQ, 4, none⟩ = some (.int .i64 q.dep) ∧ w'.cell? ⟨bR0, 0, none⟩ = some (.int .i64 u.n0) ∧ w'.cell? ⟨bR0, 1, none⟩ = some (.int .i64 u.n1) ∧ w'.cell? ⟨bR0, 2, none⟩ = some (.int .i64 u.n2) ∧ w'.cell? ⟨bR0, 3, none⟩ = some (.int .i64 u.n3) ∧ w'.cell? ⟨bR0, 4, none⟩ = some (.int .i64 u.dep) ∧ w'.cell? ⟨bR1, 0, none⟩ = some (.int .i64 u.n0) ∧ w'.cell? ⟨bR1, 1, none⟩ = some (.int .i64 u.n1) ∧ w'.cell? ⟨bR1, 2, none⟩ = some (.int .i64 u.n2) ∧ w'.cell? ⟨bR1, 3, none⟩ = some (.int .i64 u.n3) ∧ w'.cell? ⟨bR1, 4, none⟩ = some (.int .i64 u.dep) ∧ w'.cell? ⟨bR2, 0, none⟩ = some (.int .i64 c.n0) ∧ w'.cell? ⟨bR2, 1, none⟩ = some (.int .i64 c.n1) ∧ w'.cell? ⟨bR2, 2, none⟩ = some (.int .i64 c.n2) ∧ w'.cell? ⟨bR2, 3, none⟩ = some (.int .i64 c.n3) ∧ w'.cell? ⟨bR2, 4, none⟩ = some (.int .i64 c.dep) ∧ w'.cell? ⟨bR3, 0, none⟩ = some (.int .i64 c.n0) ∧ w'.cell? ⟨bR3, 1, none⟩ = some (.int .i64 c.n1) ∧ w'.cell? ⟨bR3, 2, none⟩ = some (.int .i64 c.n2) ∧ w'.cell? ⟨bR3, 3, none⟩ = some (.int .i64 c.n3) ∧ w'.cell? ⟨bR3, 4, none⟩ = some (.int .i64 c.dep) ∧ w'.cell? ⟨bR4, 0, none⟩ = some (.int .i64 x.n0) ∧ w'.cell? ⟨bR4, 1, none⟩ = some (.int .i64 x.n1) ∧ w'.cell? ⟨bR4, 2, none⟩ = some (.int .i64 x.n2) ∧ w'.cell? ⟨bR4, 3, none⟩ = some (.int .i64 x.n3) ∧ w'.cell? ⟨bR4, 4, none⟩ = some (.int .i64 x.dep) ∧ w'.cell? ⟨bR5, 0, none⟩ = some (.int .i64 x.n0) ∧ w'.cell? ⟨bR5, 1, none⟩ = some (.int .i64 x.n1) ∧ w'.cell? ⟨bR5, 2, none⟩ = some (.int .i64 x.n2) ∧ w'.cell? ⟨bR5, 3, none⟩ = some (.int .i64 x.n3) ∧ w'.cell? ⟨bR5, 4, none⟩ = some (.int .i64 x.dep)) := fun W h => ⟨h, (dP.below h).cell 0, (dP.below h).cell 1, (dP.below h).cell 2, (dP.below h).cell 3, (dP.below h).cell 4, (dQ.below h).cell 0, (dQ.below h).cell 1, (dQ.below h).cell 2, (dQ.below h).cell 3, (dQ.below h).cell 4, (dR0.below h).cell 0, (dR0.below h).cell 1, (dR0.below h).cell 2, (dR0.below h).cell 3, (dR0.below h).cell 4, (dR1.below h).cell 0, (dR1.below h).cell 1, (dR1.below h).cell 2, (dR1.below h).cell 3, (dR1.below h).cell 4, (dR2.below h).cell 0, (dR2.below h).cell 1, (dR2.below h).cell 2, (dR2.below h).cell 3, (dR2.below h).cell 4, (dR3.below h).cell 0, (dR3.below h).cell 1, (dR3.below h).cell 2, (dR3.below h).cell 3, (dR3.below h).cell 4, (dR4.below h).cell 0, (dR4.below h).cell 1, (dR4.below h).cell 2, (dR4.below h).cell 3, (dR4.below h).cell 4, (dR5.below h).cell 0, (dR5.below h).cell 1, (dR5.below h).cell 2, (dR5.below h).cell 3, (dR5.below h).cell 4⟩
  have GS := Lib.hid gS
  have hS0 := gS _ (Below.refl _ _)
  have heqs : ∀ (v : Pt) (W : World), (binOp .eql 24 (.agg #[.int .i64 v.n0, .int .i64 v.n1, .int .i64 v.n2, .int .i64 v.n3, .int .i64 v.dep]) (.agg #[.int .i64 v.n0, .int .i64 v.n1, .int .i64 v.n2, .int .i64 v.n3, .int .i64 v.dep])).run Tryd.prog W = .ok (.bool true) W := fun v W => by
    have := eqlPt v v W
    rwa [decide_eq_true rfl] at this
  have equ := heqs u
  have eqc := heqs c
  have eqx := heqs x
  have hgd := gdPt
  clear heqs gS kB hbP hbQ kP kQ kR0 kR1 kR2 kR3 kR4 kR5 dP dQ dR0 dR1 dR2 dR3 dR4 dR5
  go_region_held3 (fun w' => Below wz.drew.heap.size wz.drew w' ∧ w'.cell? ⟨bP, 0, none⟩ = some (.int .i64 p.n0) ∧ w'.cell? ⟨bP, 1, none⟩ = some (.int .i64 p.n1) ∧ w'.cell? ⟨bP, 2, none⟩ = some (.int .i64 p.n2) ∧ w'.cell? ⟨bP, 3, none⟩ = some (.int .i64 p.n3) ∧ w'.cell? ⟨bP, 4, none⟩ = some (.int .i64 p.dep) ∧ w'.cell? ⟨bQ, 0, none⟩ = some (.int .i64 q.n0) ∧ w'.cell? ⟨bQ, 1, none⟩ = some (.int .i64 q.n1) ∧ w'.cell? ⟨bQ, 2, none⟩ = some (.int .i64 q.n2) ∧ w'.cell? ⟨bQ, 3, none⟩ = some (.int .i64 q.n3) ∧ w'.cell? ⟨bQ, 4, none⟩ = some (.int .i64 q.dep) ∧ w'.cell? ⟨bR0, 0, none⟩ = some (.int .i64 u.n0) ∧ w'.cell? ⟨bR0, 1, none⟩ = some (.int .i64 u.n1) ∧ w'.cell? ⟨bR0, 2, none⟩ = some (.int .i64 u.n2) ∧ w'.cell? ⟨bR0, 3, none⟩ = some (.int .i64 u.n3) ∧ w'.cell? ⟨bR0, 4, none⟩ = some (.int .i64 u.dep) ∧ w'.cell? ⟨bR1, 0, none⟩ = some (.int .i64 u.n0) ∧ w'.cell? ⟨bR1, 1, none⟩ = some (.int .i64 u.n1) ∧ w'.cell? ⟨bR1, 2, none⟩ = some (.int .i64 u.n2) ∧ w'.cell? ⟨bR1, 3, none⟩ = some (.int .i64 u.n3) ∧ w'.cell? ⟨bR1, 4, none⟩ = some (.int .i64 u.dep) ∧ w'.cell? ⟨bR2, 0, none⟩ = some (.int .i64 c.n0) ∧ w'.cell? ⟨bR2, 1, none⟩ = some (.int .i64 c.n1) ∧ w'.cell? ⟨bR2, 2, none⟩ = some (.int .i64 c.n2) ∧ w'.cell? ⟨bR2, 3, none⟩ = some (.int .i64 c.n3) ∧ w'.cell? ⟨bR2, 4, none⟩ = some (.int .i64 c.dep) ∧ w'.cell? ⟨bR3, 0, none⟩ = some (.int .i64 c.n0) ∧ w'.cell? ⟨bR3, 1, none⟩ = some (.int .i64 c.n1) ∧ w'.cell? ⟨bR3, 2, none⟩ = some (.int .i64 c.n2) ∧ w'.cell? ⟨bR3, 3, none⟩ = some (.int .i64 c.n3) ∧ w'.cell? ⟨bR3, 4, none⟩ = some (.int .i64 c.dep) ∧ w'.cell? ⟨bR4, 0, none⟩ = some (.int .i64 x.n0) ∧ w'.cell? ⟨bR4, 1, none⟩ = some (.int .i64 x.n1) ∧ w'.cell? ⟨bR4, 2, none⟩ = some (.int .i64 x.n2) ∧ w'.cell? ⟨bR4, 3, none⟩ = some (.int .i64 x.n3) ∧ w'.cell? ⟨bR4, 4, none⟩ = some (.int .i64 x.dep) ∧ w'.cell? ⟨bR5, 0, none⟩ = some (.int .i64 x.n0) ∧ w'.cell? ⟨bR5, 1, none⟩ = some (.int .i64 x.n1) ∧ w'.cell? ⟨bR5, 2, none⟩ = some (.int .i64 x.n2) ∧ w'.cell? ⟨bR5, 3, none⟩ = some (.int .i64 x.n3) ∧ w'.cell? ⟨bR5, 4, none⟩ = some (.int .i64 x.dep))
    (first
      | exact hS0
      | assumption
      | exact GS.out _ (bl_then (And.left (by assumption)) (Nat.le_refl _) hb))
    (first
      | (go_at_call 18; refine (HW1.out _).mono ?_; rintro e wn ⟨rfl, hb⟩)
      | (go_at_call 29; refine (HW2.out _).mono ?_; rintro e wn ⟨rfl, hb⟩)
      | (go_at_call 19; refine (HL1.out _).mono ?_; rintro e wn ⟨rfl, hb⟩)
      | (go_at_call 30; refine (HL2.out _).mono ?_; rintro e wn ⟨rfl, hb⟩)
      | (go_at_call 10; refine (HK1.out _).mono ?_; rintro e wn ⟨rfl, hb⟩)
      | (go_at_call 31; refine (HK2.out _).mono ?_; rintro e wn ⟨rfl, hb⟩)
      | (go_at_call 27; refine (HY1.out _).mono ?_; rintro e wn1 ⟨v1, rfl, hown1, hb⟩; obtain ⟨A1, cA1, rfl, hs1, hn1, hn2⟩ := SR.own (ok := okPt) enPt_len (by omega) hown1 HOKW.out; clear hown1 hn1 hn2)
      | (go_at_call 28; refine (HY2.out _).mono ?_; rintro e wn2 ⟨v2, rfl, hown2, hb⟩; obtain ⟨A2, cA2, rfl, hs2, hn3, hn4⟩ := SR.own (ok := okPt) enPt_len (by omega) hown2 HOKW.out; have hs1b := Lib.hid (hs1.below hb); have hs2b := Lib.hid hs2; clear hown2 hn3 hn4 hs1 hs2)
      | (go_at_call 26; refine (samePt_self _ _ _ _ _ _ L _ hs1b.out hs2b.out).mono ?_; rintro e wn ⟨rfl, hb⟩))
  all_goals
    go_wp2
    go_ret
    refine ⟨rfl, HO.out.trans (Below.mono ?_ HO.out.size)⟩
    exact And.left (by assumption)
end Go.Proofs.YtlbjlopljlblpaaDoor
