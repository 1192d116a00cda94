/- mix: one operation that is drawn. No condition. -/
import Derived.Test.YtbdefhekkafihaaMixA
import Derived.Test.YtbdefhekkafihaaRecAc
import Derived.Test.YtbdefhekkafihaaPthI
import Derived.Deep.Cut
import Derived.Deep.CutBlock
import Derived.RegionTactic
set_option linter.unusedVariables false
set_option linter.unusedSimpArgs false
namespace Go.Proofs.Ytbdefhekkafihaa
open Go.RowKit (wrap32 wrap64)
open Go.RowKit Go.Shelf
theorem seven_arr (cs : Array Value) (hs : cs.size = 7) (v0 v1 v2 v3 v4 v5 v6 : Value) : ((((((cs.setIfInBounds 0 v0).setIfInBounds 1 v1).setIfInBounds 2 v2).setIfInBounds 3 v3).setIfInBounds 4 v4).setIfInBounds 5 v5).setIfInBounds 6 v6 = #[v0, v1, v2, v3, v4, v5, v6] := by
  obtain ⟨l⟩ := cs
  match l, hs with
  | [a, b, c, d, e, f, g], _ => rfl
theorem seven_bk {w : World} {R : Nat} {t : TypeId} {cs : Array Value} (h : Bk w R t cs) (hs : cs.size = 7) (v0 v1 v2 v3 v4 v5 v6 : Value) : Bk (((((((w.setCell ⟨R, 0, none⟩ v0).setCell ⟨R, 1, none⟩ v1).setCell ⟨R, 2, none⟩ v2).setCell ⟨R, 3, none⟩ v3).setCell ⟨R, 4, none⟩ v4).setCell ⟨R, 5, none⟩ v5).setCell ⟨R, 6, none⟩ v6) R t #[v0, v1, v2, v3, v4, v5, v6] := by
  have k := ((((((h.set 0 v0).set 1 v1).set 2 v2).set 3 v3).set 4 v4).set 5 v5).set 6 v6
  rw [seven_arr cs hs] at k
  exact k
theorem seven_keep (w : World) (R : Nat) (S : Nat → Prop) (hS : S R) (v0 v1 v2 v3 v4 v5 v6 : Value) : Keep S w (((((((w.setCell ⟨R, 0, none⟩ v0).setCell ⟨R, 1, none⟩ v1).setCell ⟨R, 2, none⟩ v2).setCell ⟨R, 3, none⟩ v3).setCell ⟨R, 4, none⟩ v4).setCell ⟨R, 5, none⟩ v5).setCell ⟨R, 6, none⟩ v6) :=
  ((((((Keep.set w R 0 v0 S hS).trans (Keep.set _ R 1 v1 S hS)).trans (Keep.set _ R 2 v2 S hS)).trans (Keep.set _ R 3 v3 S hS)).trans (Keep.set _ R 4 v4 S hS)).trans (Keep.set _ R 5 v5 S hS)).trans (Keep.set _ R 6 v6 S hS)
/-- What the drawing of an operation leaves: the source goes on, nothing else that was there turns. -/
def OneRet (w : World) (g : Nat) (o : Ac) (s : Int) (e : Ending) (w' : World) : Prop := e = .returned (.agg (enAc o).toArray) ∧ Bk w' g 61 #[.int .u64 s] ∧ Keep (fun i => i = g) w w'
theorem draw_keep (g : Nat) (s n : Int) (w : World) (hb : Bk w g 61 #[.int .u64 s]) (h0 : 0 ≤ s) (h1 : s < 18446744073709551616) (hn : 1 ≤ n) (hn2 : n ≤ 1000) :
    Calls Try.prog 22 #[.pointer (some ⟨g, 0, none⟩), .int .i64 n] w fun e w' => e = .returned (.int .i64 (nextG s % n)) ∧ Bk w' g 61 #[.int .u64 (nextG s)] ∧ Keep (fun i => i = g) w w' :=
  (draw_any g s n w hb h0 h1 hn hn2).mono fun e w' ⟨he, hw⟩ => ⟨he, by subst hw; exact hb.set 0 _, by subst hw; exact Keep.set w g 0 _ _ rfl⟩
theorem one_box (cs zs : Array Value) (w : World) : Below w.heap.size w ((w.alloc (.cells cs 24)).alloc (.cells zs 52)) ∧ Bk ((w.alloc (.cells cs 24)).alloc (.cells zs 52)) w.heap.size 24 cs ∧ Bk ((w.alloc (.cells cs 24)).alloc (.cells zs 52)) (w.heap.size + 1) 52 zs := by
  refine ⟨((Below.refl _ _).alloc (Nat.le_refl _) _).alloc (by simp) _, (Bk.new w _ _).below ((Below.refl _ _).alloc (Nat.le_refl _) _), ?_⟩
  have := Bk.new (w.alloc (.cells cs 24)) 52 zs
  rw [World.size_alloc] at this
  exact this
theorem six_arr (a0 a1 a2 a3 a4 a5 a6 v0 v1 v2 v3 v4 v5 : Value) : ((((((#[a0, a1, a2, a3, a4, a5, a6] : Array Value).setIfInBounds 0 v0).setIfInBounds 1 v1).setIfInBounds 2 v2).setIfInBounds 3 v3).setIfInBounds 4 v4).setIfInBounds 5 v5 = #[v0, v1, v2, v3, v4, v5, a6] := by simp
theorem bk_drew {w : World} {R : Nat} {t : TypeId} {cs : Array Value} (h : Bk w R t cs) : Bk w.drew R t cs := h
theorem six_bk0 {w : World} {R : Nat} {t : TypeId} {a0 a1 a2 a3 a4 a5 a6 : Value} (h : Bk w R t #[a0, a1, a2, a3, a4, a5, a6]) (v0 v1 v2 v3 v4 v5 : Value) : Bk ((((((w.setCell ⟨R, 0, none⟩ v0).setCell ⟨R, 1, none⟩ v1).setCell ⟨R, 2, none⟩ v2).setCell ⟨R, 3, none⟩ v3).setCell ⟨R, 4, none⟩ v4).setCell ⟨R, 5, none⟩ v5) R t #[v0, v1, v2, v3, v4, v5, a6] := by
  have k := (((((h.set 0 v0).set 1 v1).set 2 v2).set 3 v3).set 4 v4).set 5 v5
  rw [six_arr] at k
  exact k
theorem six_bk {w : World} {R : Nat} {t : TypeId} {a0 a1 a2 a3 a4 a5 a6 : Value} (h : Bk w R t #[a0, a1, a2, a3, a4, a5, a6]) (v0 v1 v2 v3 v4 v5 : Value) : Bk ((((((w.setCell ⟨R, 0, none⟩ v0).setCell ⟨R, 1, none⟩ v1).setCell ⟨R, 2, none⟩ v2).setCell ⟨R, 3, none⟩ v3).setCell ⟨R, 4, none⟩ v4).setCell ⟨R, 5, none⟩ v5).drew R t #[v0, v1, v2, v3, v4, v5, a6] := bk_drew (six_bk0 h v0 v1 v2 v3 v4 v5)
theorem six_keep (w : World) (R : Nat) (v0 v1 v2 v3 v4 v5 : Value) : Keep (fun i => i = R) w ((((((w.setCell ⟨R, 0, none⟩ v0).setCell ⟨R, 1, none⟩ v1).setCell ⟨R, 2, none⟩ v2).setCell ⟨R, 3, none⟩ v3).setCell ⟨R, 4, none⟩ v4).setCell ⟨R, 5, none⟩ v5).drew :=
  ((((((Keep.set w R 0 v0 (fun i => i = R) rfl).trans (Keep.set _ R 1 v1 (fun i => i = R) rfl)).trans (Keep.set _ R 2 v2 (fun i => i = R) rfl)).trans (Keep.set _ R 3 v3 (fun i => i = R) rfl)).trans (Keep.set _ R 4 v4 (fun i => i = R) rfl)).trans (Keep.set _ R 5 v5 (fun i => i = R) rfl)).trans (Keep.drew _ _)
/-- What is over outside of a block that is new is as it was. -/
theorem keep_new {S : Nat → Prop} {w w1 w2 : World} {R : Nat} (h : Keep S w w1) (hR : w.heap.size ≤ R) (k : Keep (fun i => i = R) w1 w2) : Keep S w w2 := h.fresh k (fun i hi => .inr (by rw [hi]; exact hR))
set_option maxRecDepth 100000 in
set_option maxHeartbeats 4000000 in
theorem one_read (cl tx op rw wr sc sd : Int) (g : Nat) (s0 s1 s2 : Int) (p : Pt) (n k : Int) (hr1 : 1 ≤ rw) (hr2 : rw ≤ 100) (hw : (0 ≤ wr ∧ wr ≤ 100) ∧ 0 ≤ sc ∧ sc ≤ 100 - wr) (h0 : 0 ≤ s0) (h1 : s0 < 18446744073709551616) (e1 : nextG s0 = s1) (e2 : nextG s1 = s2) (en : s1 % rw = n) (ek : s2 % 100 = k) (ep : rowP n = p) (hk : ¬ k < wr + sc) (w : World) (hg : Bk w g 61 #[.int .u64 s0]) : Calls Try.prog 23 #[.agg #[.int .i64 cl, .int .i64 tx, .int .i64 op, .int .i64 rw, .int .i64 wr, .int .i64 sc, .int .u64 sd], .func (.func 22) #[.pointer (some ⟨g, 0, none⟩)] #[]] w (OneRet w g ⟨2, p.n0, p.n1, p.n2, p.n3, p.dep, 0⟩ s2) := by
  obtain ⟨hO, hR, hZ⟩ := one_box #[.int .i64 cl, .int .i64 tx, .int .i64 op, .int .i64 rw, .int .i64 wr, .int .i64 sc, .int .u64 sd] #[.int .i64 0, .int .i64 0, .int .i64 0, .int .i64 0, .int .i64 0, .int .i64 0, .int .i64 0] w
  have hgl := hg.lt
  have hg0 := hg.below hO
  have K0 : Keep (fun i => i = g) w _ := Keep.of_below hO _
  have r1 := nextG_range s0
  rw [e1] at r1
  have r2 := nextG_range s1
  rw [e2] at r2
  have hn1 := Int.emod_nonneg s1 (show rw ≠ 0 by omega)
  have hn2 := Int.emod_lt_of_pos s1 (show 0 < rw by omega)
  rw [en] at hn1 hn2
  have HD1 := Lib.hid (fun W hb => draw_keep g s0 rw W hb h0 h1 hr1 (by omega))
  have HD2 := Lib.hid (fun W hb => draw_keep g s1 100 W hb r1.1 r1.2 (by omega) (by omega))
  have HD3 := Lib.hid (fun W hb => draw_keep g s2 1000 W hb r2.1 r2.2 (by omega) (by omega))
  have HRW := Lib.hid (fun W => mrow_any n hn1 (by omega) W)
  rw [e1, en] at HD1
  rw [e2, ek] at HD2
  rw [ep] at HRW
  obtain ⟨RA, hRA⟩ : ∃ b, b = w.heap.size := ⟨_, rfl⟩
  obtain ⟨ZA, hZA⟩ : ∃ b, b = w.heap.size + 1 := ⟨_, rfl⟩
  rw [← hZA] at hZ
  rw [← hRA] at hR
  have hgR : ¬ RA = g := by omega
  have hgZ : ¬ ZA = g := by omega
  have HZS : Hid (w.heap.size ≤ ZA) := Lib.hid (by omega)
  have HRA := Lib.hid hRA
  have HZA := Lib.hid hZA
  clear hg r1 r2 hn1 hn2 h0 h1 e1 e2 en ek ep hRA hZA
  go_enter Try.func23, Try.ntmps23
  go_upto_region 1 with fail
  rw [← HZA.out, ← HRA.out]
  generalize ((w.alloc (.cells #[.int .i64 cl, .int .i64 tx, .int .i64 op, .int .i64 rw, .int .i64 wr, .int .i64 sc, .int .u64 sd] 24)).alloc (.cells #[.int .i64 0, .int .i64 0, .int .i64 0, .int .i64 0, .int .i64 0, .int .i64 0, .int .i64 0] 52)) = w0 at hO hR hZ hg0 K0 ⊢
  have a3 := hR.cell 3
  go_wp2_with fail
  refine (HD1.out w0 hg0).mono ?_
  rintro e w1 ⟨rfl, hg1, k1⟩
  have hR1 := k1.bk hR hgR
  have hZ1 := k1.bk hZ hgZ
  have K1 := K0.trans k1
  clear HZA HRA hR hZ hg0 K0 k1 a3 hO
  go_wp2_with fail
  refine (HRW.out w1).mono ?_
  rintro e w2 ⟨rfl, hb2⟩
  have al := (Below.refl w2.heap.size w2).alloc (Nat.le_refl _) (.cells #[.int .i64 2, .int .i64 p.n0, .int .i64 p.n1, .int .i64 p.n2, .int .i64 p.n3, .int .i64 p.dep, .int .i64 0] 52)
  have hR2 := (hR1.below hb2).below al
  have hZ2 := (hZ1.below hb2).below al
  have hg2 := (hg1.below hb2).below al
  have hX2 := Bk.new w2 52 #[.int .i64 2, .int .i64 p.n0, .int .i64 p.n1, .int .i64 p.n2, .int .i64 p.n3, .int .i64 p.dep, .int .i64 0]
  have K2 := (K1.trans (Keep.of_below hb2 _)).trans (Keep.of_below al _)
  have hxl : ZA < w2.heap.size := by have := hZ1.lt; have := hb2.size; omega
  have hgx : g < w2.heap.size := by have := hg1.lt; have := hb2.size; omega
  clear hR1 hZ1 hg1 K1 hb2 al
  go_wp2_with fail
  generalize w2.alloc (.cells #[.int .i64 2, .int .i64 p.n0, .int .i64 p.n1, .int .i64 p.n2, .int .i64 p.n3, .int .i64 p.dep, .int .i64 0] 52) = w3 at hR2 hZ2 hg2 hX2 K2 ⊢
  generalize w2.heap.size = XA at hX2 hxl hgx ⊢
  refine (HD2.out _ hg2).mono ?_
  rintro e w4 ⟨rfl, hg4, k4⟩
  have hR4 := k4.bk hR2 hgR
  have hZ4 := k4.bk hZ2 hgZ
  have hX4 := k4.bk hX2 (by omega)
  have K4 := Lib.hid (K2.trans k4)
  have hXZ : ¬ XA = ZA := by omega
  have hXg : ¬ XA = g := by omega
  have hgX : ¬ g = XA := by omega
  have hgZ' : ¬ g = ZA := by omega
  have hZX : ¬ ZA = XA := by omega
  have HXS : Hid (w.heap.size ≤ XA) := Lib.hid (by have := HZS.out; omega)
  clear hR2 hZ2 hg2 hX2 K2 k4
  have a4 := hR4.cell 4
  have a5 := hR4.cell 5
  have g1 : ¬ k < wr := by omega
  have t1 : IntKind.i64.wrap (wr + sc) = wr + sc := by rw [IntKind.wrap_i64]; omega
  go_upto_region 8 with fail
  clear g1 t1 a4 a5 hR4 hw
  have hX5 := hX4
  have hZ5 := hZ4
  have hg5 := hg4
  have K5 := K4
  clear hX4 hZ4 hg4 K4
  have x0 := hX5.cell 0
  have x1 := hX5.cell 1
  have x2 := hX5.cell 2
  have x3 := hX5.cell 3
  have x4 := hX5.cell 4
  have x5 := hX5.cell 5
  have x6 := hX5.cell 6
  have z0 := hZ5.cell 0
  have z1 := hZ5.cell 1
  have z2 := hZ5.cell 2
  have z3 := hZ5.cell 3
  have z4 := hZ5.cell 4
  have z5 := hZ5.cell 5
  have z6 := hZ5.cell 6
  have f0 := hZ5.frozen 0
  have f1 := hZ5.frozen 1
  have f2 := hZ5.frozen 2
  have f3 := hZ5.frozen 3
  have f4 := hZ5.frozen 4
  have f5 := hZ5.frozen 5
  have f6 := hZ5.frozen 6
  have HF := Lib.hid (seven_bk hZ5 rfl (.int .i64 2) (.int .i64 p.n0) (.int .i64 p.n1) (.int .i64 p.n2) (.int .i64 p.n3) (.int .i64 p.dep) (.int .i64 0))
  have HKF := Lib.hid (keep_new K5.out HZS.out (seven_keep w4 ZA (fun i => i = ZA) rfl (.int .i64 2) (.int .i64 p.n0) (.int .i64 p.n1) (.int .i64 p.n2) (.int .i64 p.n3) (.int .i64 p.dep) (.int .i64 0)))
  have HGF := Lib.hid ((seven_keep w4 ZA (fun i => i = ZA) rfl (.int .i64 2) (.int .i64 p.n0) (.int .i64 p.n1) (.int .i64 p.n2) (.int .i64 p.n3) (.int .i64 p.dep) (.int .i64 0)).bk hg5 hgZ')
  clear hX5 hZ5 hg5 K5
  go_wp2_with fail
  have y0 := HF.out.cell 0
  have y1 := HF.out.cell 1
  have y2 := HF.out.cell 2
  have y3 := HF.out.cell 3
  have y4 := HF.out.cell 4
  have y5 := HF.out.cell 5
  have y6 := HF.out.cell 6
  exact bodyPost_ret (v := .agg #[.int .i64 2, .int .i64 p.n0, .int .i64 p.n1, .int .i64 p.n2, .int .i64 p.n3, .int .i64 p.dep, .int .i64 0]) (by simp [results, Try.results23, go_sem, y0, y1, y2, y3, y4, y5, y6]) rfl ⟨rfl, HGF.out, HKF.out⟩
set_option maxRecDepth 100000 in
set_option maxHeartbeats 4000000 in
theorem one_write (cl tx op rw wr sc sd : Int) (g : Nat) (s0 s1 s2 : Int) (p : Pt) (n k : Int) (hr1 : 1 ≤ rw) (hr2 : rw ≤ 100) (hw : (0 ≤ wr ∧ wr ≤ 100) ∧ 0 ≤ sc ∧ sc ≤ 100 - wr) (h0 : 0 ≤ s0) (h1 : s0 < 18446744073709551616) (e1 : nextG s0 = s1) (e2 : nextG s1 = s2) (en : s1 % rw = n) (ek : s2 % 100 = k) (ep : rowP n = p) (hk : k < wr) (s3 v : Int) (e3 : nextG s2 = s3) (ev : s3 % 1000 = v) (w : World) (hg : Bk w g 61 #[.int .u64 s0]) : Calls Try.prog 23 #[.agg #[.int .i64 cl, .int .i64 tx, .int .i64 op, .int .i64 rw, .int .i64 wr, .int .i64 sc, .int .u64 sd], .func (.func 22) #[.pointer (some ⟨g, 0, none⟩)] #[]] w (OneRet w g ⟨4, p.n0, p.n1, p.n2, p.n3, p.dep, v⟩ s3) := by
  obtain ⟨hO, hR, hZ⟩ := one_box #[.int .i64 cl, .int .i64 tx, .int .i64 op, .int .i64 rw, .int .i64 wr, .int .i64 sc, .int .u64 sd] #[.int .i64 0, .int .i64 0, .int .i64 0, .int .i64 0, .int .i64 0, .int .i64 0, .int .i64 0] w
  have hgl := hg.lt
  have hg0 := hg.below hO
  have K0 : Keep (fun i => i = g) w _ := Keep.of_below hO _
  have r1 := nextG_range s0
  rw [e1] at r1
  have r2 := nextG_range s1
  rw [e2] at r2
  have hn1 := Int.emod_nonneg s1 (show rw ≠ 0 by omega)
  have hn2 := Int.emod_lt_of_pos s1 (show 0 < rw by omega)
  rw [en] at hn1 hn2
  have HD1 := Lib.hid (fun W hb => draw_keep g s0 rw W hb h0 h1 hr1 (by omega))
  have HD2 := Lib.hid (fun W hb => draw_keep g s1 100 W hb r1.1 r1.2 (by omega) (by omega))
  have HD3 := Lib.hid (fun W hb => draw_keep g s2 1000 W hb r2.1 r2.2 (by omega) (by omega))
  have HRW := Lib.hid (fun W => mrow_any n hn1 (by omega) W)
  rw [e1, en] at HD1
  rw [e2, ek] at HD2
  rw [ep] at HRW
  rw [e3, ev] at HD3
  clear e3 ev
  obtain ⟨RA, hRA⟩ : ∃ b, b = w.heap.size := ⟨_, rfl⟩
  obtain ⟨ZA, hZA⟩ : ∃ b, b = w.heap.size + 1 := ⟨_, rfl⟩
  rw [← hZA] at hZ
  rw [← hRA] at hR
  have hgR : ¬ RA = g := by omega
  have hgZ : ¬ ZA = g := by omega
  have HZS : Hid (w.heap.size ≤ ZA) := Lib.hid (by omega)
  have HRA := Lib.hid hRA
  have HZA := Lib.hid hZA
  clear hg r1 r2 hn1 hn2 h0 h1 e1 e2 en ek ep hRA hZA
  go_enter Try.func23, Try.ntmps23
  go_upto_region 1 with fail
  rw [← HZA.out, ← HRA.out]
  generalize ((w.alloc (.cells #[.int .i64 cl, .int .i64 tx, .int .i64 op, .int .i64 rw, .int .i64 wr, .int .i64 sc, .int .u64 sd] 24)).alloc (.cells #[.int .i64 0, .int .i64 0, .int .i64 0, .int .i64 0, .int .i64 0, .int .i64 0, .int .i64 0] 52)) = w0 at hO hR hZ hg0 K0 ⊢
  have a3 := hR.cell 3
  go_wp2_with fail
  refine (HD1.out w0 hg0).mono ?_
  rintro e w1 ⟨rfl, hg1, k1⟩
  have hR1 := k1.bk hR hgR
  have hZ1 := k1.bk hZ hgZ
  have K1 := K0.trans k1
  clear HZA HRA hR hZ hg0 K0 k1 a3 hO
  go_wp2_with fail
  refine (HRW.out w1).mono ?_
  rintro e w2 ⟨rfl, hb2⟩
  have al := (Below.refl w2.heap.size w2).alloc (Nat.le_refl _) (.cells #[.int .i64 2, .int .i64 p.n0, .int .i64 p.n1, .int .i64 p.n2, .int .i64 p.n3, .int .i64 p.dep, .int .i64 0] 52)
  have hR2 := (hR1.below hb2).below al
  have hZ2 := (hZ1.below hb2).below al
  have hg2 := (hg1.below hb2).below al
  have hX2 := Bk.new w2 52 #[.int .i64 2, .int .i64 p.n0, .int .i64 p.n1, .int .i64 p.n2, .int .i64 p.n3, .int .i64 p.dep, .int .i64 0]
  have K2 := (K1.trans (Keep.of_below hb2 _)).trans (Keep.of_below al _)
  have hxl : ZA < w2.heap.size := by have := hZ1.lt; have := hb2.size; omega
  have hgx : g < w2.heap.size := by have := hg1.lt; have := hb2.size; omega
  clear hR1 hZ1 hg1 K1 hb2 al
  go_wp2_with fail
  generalize w2.alloc (.cells #[.int .i64 2, .int .i64 p.n0, .int .i64 p.n1, .int .i64 p.n2, .int .i64 p.n3, .int .i64 p.dep, .int .i64 0] 52) = w3 at hR2 hZ2 hg2 hX2 K2 ⊢
  generalize w2.heap.size = XA at hX2 hxl hgx ⊢
  refine (HD2.out _ hg2).mono ?_
  rintro e w4 ⟨rfl, hg4, k4⟩
  have hR4 := k4.bk hR2 hgR
  have hZ4 := k4.bk hZ2 hgZ
  have hX4 := k4.bk hX2 (by omega)
  have K4 := Lib.hid (K2.trans k4)
  have hXZ : ¬ XA = ZA := by omega
  have hXg : ¬ XA = g := by omega
  have hgX : ¬ g = XA := by omega
  have hgZ' : ¬ g = ZA := by omega
  have hZX : ¬ ZA = XA := by omega
  have HXS : Hid (w.heap.size ≤ XA) := Lib.hid (by have := HZS.out; omega)
  clear hR2 hZ2 hg2 hX2 K2 k4
  have a4 := hR4.cell 4
  have a5 := hR4.cell 5
  go_wp2_with fail
  refine (HD3.out _ hg4).mono ?_
  rintro e w6 ⟨rfl, hg6, k6⟩
  have hX6 := k6.bk hX4 hXg
  have hZ6 := k6.bk hZ4 hgZ
  have x60 := hX6.cell 0
  have x66 := hX6.cell 6
  have f60 := hX6.frozen 0
  have f66 := hX6.frozen 6
  have kS : Keep (fun i => i = XA) w6 ((w6.setCell ⟨XA, 0, none⟩ (.int .i64 4)).setCell ⟨XA, 6, none⟩ (.int .i64 v)) := (Keep.set w6 XA 0 _ (fun i => i = XA) rfl).trans (Keep.set _ XA 6 _ (fun i => i = XA) rfl)
  have hX5 : Bk ((w6.setCell ⟨XA, 0, none⟩ (.int .i64 4)).setCell ⟨XA, 6, none⟩ (.int .i64 v)) XA 52 #[.int .i64 4, .int .i64 p.n0, .int .i64 p.n1, .int .i64 p.n2, .int .i64 p.n3, .int .i64 p.dep, .int .i64 v] := (hX6.set 0 (.int .i64 4)).set 6 (.int .i64 v)
  have hZ5 := kS.bk hZ6 hZX
  have hg5 := kS.bk hg6 hgX
  have K5 := Lib.hid (keep_new (K4.out.trans k6) HXS.out kS)
  clear a4 a5 hR4 hw hX4 hZ4 hg4 K4 hX6 hZ6 hg6 k6 kS
  go_upto_region 8 with fail
  generalize ((w6.setCell ⟨XA, 0, none⟩ (.int .i64 4)).setCell ⟨XA, 6, none⟩ (.int .i64 v)) = w7 at hX5 hZ5 hg5 K5 ⊢
  clear x60 x66 f60 f66
  have x0 := hX5.cell 0
  have x1 := hX5.cell 1
  have x2 := hX5.cell 2
  have x3 := hX5.cell 3
  have x4 := hX5.cell 4
  have x5 := hX5.cell 5
  have x6 := hX5.cell 6
  have z0 := hZ5.cell 0
  have z1 := hZ5.cell 1
  have z2 := hZ5.cell 2
  have z3 := hZ5.cell 3
  have z4 := hZ5.cell 4
  have z5 := hZ5.cell 5
  have z6 := hZ5.cell 6
  have f0 := hZ5.frozen 0
  have f1 := hZ5.frozen 1
  have f2 := hZ5.frozen 2
  have f3 := hZ5.frozen 3
  have f4 := hZ5.frozen 4
  have f5 := hZ5.frozen 5
  have f6 := hZ5.frozen 6
  have HF := Lib.hid (seven_bk hZ5 rfl (.int .i64 4) (.int .i64 p.n0) (.int .i64 p.n1) (.int .i64 p.n2) (.int .i64 p.n3) (.int .i64 p.dep) (.int .i64 v))
  have HKF := Lib.hid (keep_new K5.out HZS.out (seven_keep w7 ZA (fun i => i = ZA) rfl (.int .i64 4) (.int .i64 p.n0) (.int .i64 p.n1) (.int .i64 p.n2) (.int .i64 p.n3) (.int .i64 p.dep) (.int .i64 v)))
  have HGF := Lib.hid ((seven_keep w7 ZA (fun i => i = ZA) rfl (.int .i64 4) (.int .i64 p.n0) (.int .i64 p.n1) (.int .i64 p.n2) (.int .i64 p.n3) (.int .i64 p.dep) (.int .i64 v)).bk hg5 hgZ')
  clear hX5 hZ5 hg5 K5
  go_wp2_with fail
  have y0 := HF.out.cell 0
  have y1 := HF.out.cell 1
  have y2 := HF.out.cell 2
  have y3 := HF.out.cell 3
  have y4 := HF.out.cell 4
  have y5 := HF.out.cell 5
  have y6 := HF.out.cell 6
  exact bodyPost_ret (v := .agg #[.int .i64 4, .int .i64 p.n0, .int .i64 p.n1, .int .i64 p.n2, .int .i64 p.n3, .int .i64 p.dep, .int .i64 v]) (by simp [results, Try.results23, go_sem, y0, y1, y2, y3, y4, y5, y6]) rfl ⟨rfl, HGF.out, HKF.out⟩
set_option maxRecDepth 100000 in
set_option maxHeartbeats 4000000 in
theorem one_scan (cl tx op rw wr sc sd : Int) (g : Nat) (s0 s1 s2 : Int) (p : Pt) (n k : Int) (hr1 : 1 ≤ rw) (hr2 : rw ≤ 100) (hw : (0 ≤ wr ∧ wr ≤ 100) ∧ 0 ≤ sc ∧ sc ≤ 100 - wr) (h0 : 0 ≤ s0) (h1 : s0 < 18446744073709551616) (e1 : nextG s0 = s1) (e2 : nextG s1 = s2) (en : s1 % rw = n) (ek : s2 % 100 = k) (ep : rowP n = p) (hk1 : ¬ k < wr) (hk : k < wr + sc) (q : Pt) (hq : upP p = some q) (w : World) (hg : Bk w g 61 #[.int .u64 s0]) : Calls Try.prog 23 #[.agg #[.int .i64 cl, .int .i64 tx, .int .i64 op, .int .i64 rw, .int .i64 wr, .int .i64 sc, .int .u64 sd], .func (.func 22) #[.pointer (some ⟨g, 0, none⟩)] #[]] w (OneRet w g ⟨5, q.n0, q.n1, q.n2, q.n3, q.dep, 0⟩ s2) := by
  have HUP := Lib.hid (fun W => pup_any p W)
  rw [hq] at HUP
  have HUP2 : Hid (∀ W, Calls Try.prog 37 #[.agg (ptA p)] W fun e w' => e = .returned (.tuple #[.agg (ptA q), .bool true]) ∧ Below W.heap.size W w') := HUP
  clear HUP hq
  obtain ⟨hO, hR, hZ⟩ := one_box #[.int .i64 cl, .int .i64 tx, .int .i64 op, .int .i64 rw, .int .i64 wr, .int .i64 sc, .int .u64 sd] #[.int .i64 0, .int .i64 0, .int .i64 0, .int .i64 0, .int .i64 0, .int .i64 0, .int .i64 0] w
  have hgl := hg.lt
  have hg0 := hg.below hO
  have K0 : Keep (fun i => i = g) w _ := Keep.of_below hO _
  have r1 := nextG_range s0
  rw [e1] at r1
  have r2 := nextG_range s1
  rw [e2] at r2
  have hn1 := Int.emod_nonneg s1 (show rw ≠ 0 by omega)
  have hn2 := Int.emod_lt_of_pos s1 (show 0 < rw by omega)
  rw [en] at hn1 hn2
  have HD1 := Lib.hid (fun W hb => draw_keep g s0 rw W hb h0 h1 hr1 (by omega))
  have HD2 := Lib.hid (fun W hb => draw_keep g s1 100 W hb r1.1 r1.2 (by omega) (by omega))
  have HD3 := Lib.hid (fun W hb => draw_keep g s2 1000 W hb r2.1 r2.2 (by omega) (by omega))
  have HRW := Lib.hid (fun W => mrow_any n hn1 (by omega) W)
  rw [e1, en] at HD1
  rw [e2, ek] at HD2
  rw [ep] at HRW
  obtain ⟨RA, hRA⟩ : ∃ b, b = w.heap.size := ⟨_, rfl⟩
  obtain ⟨ZA, hZA⟩ : ∃ b, b = w.heap.size + 1 := ⟨_, rfl⟩
  rw [← hZA] at hZ
  rw [← hRA] at hR
  have hgR : ¬ RA = g := by omega
  have hgZ : ¬ ZA = g := by omega
  have HZS : Hid (w.heap.size ≤ ZA) := Lib.hid (by omega)
  have HRA := Lib.hid hRA
  have HZA := Lib.hid hZA
  clear hg r1 r2 hn1 hn2 h0 h1 e1 e2 en ek ep hRA hZA
  go_enter Try.func23, Try.ntmps23
  go_upto_region 1 with fail
  rw [← HZA.out, ← HRA.out]
  generalize ((w.alloc (.cells #[.int .i64 cl, .int .i64 tx, .int .i64 op, .int .i64 rw, .int .i64 wr, .int .i64 sc, .int .u64 sd] 24)).alloc (.cells #[.int .i64 0, .int .i64 0, .int .i64 0, .int .i64 0, .int .i64 0, .int .i64 0, .int .i64 0] 52)) = w0 at hO hR hZ hg0 K0 ⊢
  have a3 := hR.cell 3
  go_wp2_with fail
  refine (HD1.out w0 hg0).mono ?_
  rintro e w1 ⟨rfl, hg1, k1⟩
  have hR1 := k1.bk hR hgR
  have hZ1 := k1.bk hZ hgZ
  have K1 := K0.trans k1
  clear HZA HRA hR hZ hg0 K0 k1 a3 hO
  go_wp2_with fail
  refine (HRW.out w1).mono ?_
  rintro e w2 ⟨rfl, hb2⟩
  have al := (Below.refl w2.heap.size w2).alloc (Nat.le_refl _) (.cells #[.int .i64 2, .int .i64 p.n0, .int .i64 p.n1, .int .i64 p.n2, .int .i64 p.n3, .int .i64 p.dep, .int .i64 0] 52)
  have hR2 := (hR1.below hb2).below al
  have hZ2 := (hZ1.below hb2).below al
  have hg2 := (hg1.below hb2).below al
  have hX2 := Bk.new w2 52 #[.int .i64 2, .int .i64 p.n0, .int .i64 p.n1, .int .i64 p.n2, .int .i64 p.n3, .int .i64 p.dep, .int .i64 0]
  have K2 := (K1.trans (Keep.of_below hb2 _)).trans (Keep.of_below al _)
  have hxl : ZA < w2.heap.size := by have := hZ1.lt; have := hb2.size; omega
  have hgx : g < w2.heap.size := by have := hg1.lt; have := hb2.size; omega
  clear hR1 hZ1 hg1 K1 hb2 al
  go_wp2_with fail
  generalize w2.alloc (.cells #[.int .i64 2, .int .i64 p.n0, .int .i64 p.n1, .int .i64 p.n2, .int .i64 p.n3, .int .i64 p.dep, .int .i64 0] 52) = w3 at hR2 hZ2 hg2 hX2 K2 ⊢
  generalize w2.heap.size = XA at hX2 hxl hgx ⊢
  refine (HD2.out _ hg2).mono ?_
  rintro e w4 ⟨rfl, hg4, k4⟩
  have hR4 := k4.bk hR2 hgR
  have hZ4 := k4.bk hZ2 hgZ
  have hX4 := k4.bk hX2 (by omega)
  have K4 := Lib.hid (K2.trans k4)
  have hXZ : ¬ XA = ZA := by omega
  have hXg : ¬ XA = g := by omega
  have hgX : ¬ g = XA := by omega
  have hgZ' : ¬ g = ZA := by omega
  have hZX : ¬ ZA = XA := by omega
  have HXS : Hid (w.heap.size ≤ XA) := Lib.hid (by have := HZS.out; omega)
  clear hR2 hZ2 hg2 hX2 K2 k4
  have a4 := hR4.cell 4
  have a5 := hR4.cell 5
  have t1 : IntKind.i64.wrap (wr + sc) = wr + sc := by rw [IntKind.wrap_i64]; omega
  have x0 := hX4.cell 0
  have x1 := hX4.cell 1
  have x2 := hX4.cell 2
  have x3 := hX4.cell 3
  have x4 := hX4.cell 4
  have x5 := hX4.cell 5
  have x6 := hX4.cell 6
  go_wp2_with (go_at_call 37; refine (HUP2.out _).mono ?_; rintro e w6 ⟨rfl, hb6⟩)
  have al := (Below.refl w6.heap.size w6).alloc (Nat.le_refl _) (.cells #[.int .i64 q.n0, .int .i64 q.n1, .int .i64 q.n2, .int .i64 q.n3, .int .i64 q.dep] 50)
  have hQ := Bk.new w6 50 #[.int .i64 q.n0, .int .i64 q.n1, .int .i64 q.n2, .int .i64 q.n3, .int .i64 q.dep]
  have hX8 := (hX4.below hb6).below al
  have hZ8 := (hZ4.below hb6).below al
  have hg8 := (hg4.below hb6).below al
  have K8 := Lib.hid ((K4.out.trans (Keep.of_below hb6 _)).trans (Keep.of_below al _))
  have hQX : ¬ w6.heap.size = XA := by have := hX4.lt; have := hb6.size; omega
  clear x0 x1 x2 x3 x4 x5 x6 a4 a5 hR4 hw hX4 hZ4 hg4 K4 hb6 al hk hk1 t1
  generalize w6.alloc (.cells #[.int .i64 q.n0, .int .i64 q.n1, .int .i64 q.n2, .int .i64 q.n3, .int .i64 q.dep] 50) = w8 at hQ hX8 hZ8 hg8 K8 ⊢
  generalize w6.heap.size = QA at hQ hQX ⊢
  have u0 := hQ.cell 0
  have u1 := hQ.cell 1
  have u2 := hQ.cell 2
  have u3 := hQ.cell 3
  have u4 := hQ.cell 4
  have x0 := hX8.cell 0
  have x1 := hX8.cell 1
  have x2 := hX8.cell 2
  have x3 := hX8.cell 3
  have x4 := hX8.cell 4
  have x5 := hX8.cell 5
  have x6 := hX8.cell 6
  have f0 := hX8.frozen 0
  have f1 := hX8.frozen 1
  have f2 := hX8.frozen 2
  have f3 := hX8.frozen 3
  have f4 := hX8.frozen 4
  have f5 := hX8.frozen 5
  have f6 := hX8.frozen 6
  have HX8 := Lib.hid hX8
  have HZ8 := Lib.hid hZ8
  have HG8 := Lib.hid hg8
  clear hX8 hZ8 hg8 hQ
  go_region
  have hX9 : Bk (((((((w8.setCell ⟨XA, 0, none⟩ (.int .i64 5)).setCell ⟨XA, 1, none⟩ (.int .i64 q.n0)).setCell ⟨XA, 2, none⟩ (.int .i64 q.n1)).setCell ⟨XA, 3, none⟩ (.int .i64 q.n2)).setCell ⟨XA, 4, none⟩ (.int .i64 q.n3)).setCell ⟨XA, 5, none⟩ (.int .i64 q.dep)).drew) XA 52 #[.int .i64 5, .int .i64 q.n0, .int .i64 q.n1, .int .i64 q.n2, .int .i64 q.n3, .int .i64 q.dep, .int .i64 0] := six_bk HX8.out (.int .i64 5) (.int .i64 q.n0) (.int .i64 q.n1) (.int .i64 q.n2) (.int .i64 q.n3) (.int .i64 q.dep)
  have kS : Keep (fun i => i = XA) w8 (((((((w8.setCell ⟨XA, 0, none⟩ (.int .i64 5)).setCell ⟨XA, 1, none⟩ (.int .i64 q.n0)).setCell ⟨XA, 2, none⟩ (.int .i64 q.n1)).setCell ⟨XA, 3, none⟩ (.int .i64 q.n2)).setCell ⟨XA, 4, none⟩ (.int .i64 q.n3)).setCell ⟨XA, 5, none⟩ (.int .i64 q.dep)).drew) := six_keep w8 XA _ _ _ _ _ _
  have hZ5 := kS.bk HZ8.out hZX
  have hg5 := kS.bk HG8.out hgX
  have K5 := Lib.hid (keep_new K8.out HXS.out kS)
  have hX5 := hX9
  clear hX9 kS x0 x1 x2 x3 x4 x5 x6 f0 f1 f2 f3 f4 f5 f6 u0 u1 u2 u3 u4
  go_upto_region 8 with fail
  generalize (((((((w8.setCell ⟨XA, 0, none⟩ (.int .i64 5)).setCell ⟨XA, 1, none⟩ (.int .i64 q.n0)).setCell ⟨XA, 2, none⟩ (.int .i64 q.n1)).setCell ⟨XA, 3, none⟩ (.int .i64 q.n2)).setCell ⟨XA, 4, none⟩ (.int .i64 q.n3)).setCell ⟨XA, 5, none⟩ (.int .i64 q.dep)).drew) = w9 at hX5 hZ5 hg5 K5 ⊢
  have x0 := hX5.cell 0
  have x1 := hX5.cell 1
  have x2 := hX5.cell 2
  have x3 := hX5.cell 3
  have x4 := hX5.cell 4
  have x5 := hX5.cell 5
  have x6 := hX5.cell 6
  have z0 := hZ5.cell 0
  have z1 := hZ5.cell 1
  have z2 := hZ5.cell 2
  have z3 := hZ5.cell 3
  have z4 := hZ5.cell 4
  have z5 := hZ5.cell 5
  have z6 := hZ5.cell 6
  have f0 := hZ5.frozen 0
  have f1 := hZ5.frozen 1
  have f2 := hZ5.frozen 2
  have f3 := hZ5.frozen 3
  have f4 := hZ5.frozen 4
  have f5 := hZ5.frozen 5
  have f6 := hZ5.frozen 6
  have HF := Lib.hid (seven_bk hZ5 rfl (.int .i64 5) (.int .i64 q.n0) (.int .i64 q.n1) (.int .i64 q.n2) (.int .i64 q.n3) (.int .i64 q.dep) (.int .i64 0))
  have HKF := Lib.hid (keep_new K5.out HZS.out (seven_keep w9 ZA (fun i => i = ZA) rfl (.int .i64 5) (.int .i64 q.n0) (.int .i64 q.n1) (.int .i64 q.n2) (.int .i64 q.n3) (.int .i64 q.dep) (.int .i64 0)))
  have HGF := Lib.hid ((seven_keep w9 ZA (fun i => i = ZA) rfl (.int .i64 5) (.int .i64 q.n0) (.int .i64 q.n1) (.int .i64 q.n2) (.int .i64 q.n3) (.int .i64 q.dep) (.int .i64 0)).bk hg5 hgZ')
  clear hX5 hZ5 hg5 K5
  go_wp2_with fail
  have y0 := HF.out.cell 0
  have y1 := HF.out.cell 1
  have y2 := HF.out.cell 2
  have y3 := HF.out.cell 3
  have y4 := HF.out.cell 4
  have y5 := HF.out.cell 5
  have y6 := HF.out.cell 6
  exact bodyPost_ret (v := .agg #[.int .i64 5, .int .i64 q.n0, .int .i64 q.n1, .int .i64 q.n2, .int .i64 q.n3, .int .i64 q.dep, .int .i64 0]) (by simp [results, Try.results23, go_sem, y0, y1, y2, y3, y4, y5, y6]) rfl ⟨rfl, HGF.out, HKF.out⟩
end Go.Proofs.Ytbdefhekkafihaa
