/- PathTexts: its walk. Condition: the library's table of powers of ten reads as the program lays it. -/
import Derived.Test.YtlbjlopljlblpaaDoorPthO
import Derived.Test.YtlbjlopljlblpaaDoorPthV
import Derived.Test.YtlbjlopljlblpaaDoorPthY
set_option linter.unusedVariables false
set_option linter.unusedSimpArgs false
namespace Go.Proofs.YtlbjlopljlblpaaDoor
open Go.RowKit (wrap32 wrap64)
open Go.RowKit Go.Shelf
open Go.Sort (grow)
set_option maxRecDepth 100000 in
set_option maxHeartbeats 8000000 in
theorem pathTexts_walk (p : Pt) (s : ByteArray) (hs : s.size ≤ 140737488351232) (a : Option Addr) (len cap : Nat) (xs : List Int) (w : World) (hl : Ints w a len xs) (ht : Tab10 w) : Calls Tryd.prog 4 #[.agg (ptA p), .string s, .slice a len cap] w fun e w' => e = .returned (.bool true) ∧ Below w.heap.size w w' := by
  obtain ⟨hO, hP⟩ : Below w.heap.size w (w.alloc (.cells (ptA p) 24)) ∧ Bk (w.alloc (.cells (ptA p) 24)) w.heap.size 24 (ptA p) := ⟨(Below.refl _ _).alloc (Nat.le_refl _) _, Bk.new w _ _⟩
  dsimp only [ptA] at hO hP
  have haw := pawake_any _ (tab_below ht _ hO)
  have HAW := Lib.hid haw
  have HT := Lib.hid (tab_below ht)
  have HL := Lib.hid (fun W (hb : Below w.heap.size w W) => hl.below hb)
  have HLE := Lib.hid hl.le
  clear haw ht hl
  go_enter Tryd.func4, Tryd.ntmps4
  go_wp2_with fail
  refine (HAW.out).mono ?_
  rintro e w1 ⟨rfl, hb1⟩
  have kP := hP.below hb1
  have kB := bl_then hO (Nat.le_refl _) hb1
  clear hP hO hb1 HAW
  have hsz : (s.size : Int) ≤ 140737488351232 := by omega
  by_cases g1 : (100 : Int) < (s.size : Int)
  · go_wp2
    go_ret
    exact ⟨rfl, kB⟩
  by_cases g2 : (20 : Int) < (len : Int)
  · go_wp2
    go_ret
    exact ⟨rfl, kB⟩
  have hc1 := fun W hb => pparse_any s hs W (HT.out W hb)
  have hc2 := fun W => rparse_any s hs W
  have hc3 := fun W hb => pmake_any a len cap xs W (HL.out W hb)
  have hc4 := fun W hb => rmake_any a len cap xs W (HL.out W hb)
  rw [← parse_eq] at hc2
  unfold parseV at hc1 hc2
  unfold makeV at hc3 hc4
  generalize (parseP s.data.toList).getD zeroP = u at hc1 hc2
  generalize (if (parseP s.data.toList).isSome then (0 : Int) else 4) = ue at hc1 hc2
  generalize (makeP xs).getD zeroP = x at hc3 hc4
  generalize (if (makeP xs).isSome then (0 : Int) else 1) = xe at hc3 hc4
  have htp : ∀ W, Below w.heap.size w W → Calls Tryd.prog 12 #[.agg (ptA p)] W fun e w' => e = .returned (.string (bsOf (textP p))) ∧ Below W.heap.size W w' := fun W hb => ptext_any p W (HT.out W hb)
  have htq := fun W => rtext_any p W
  generalize bsOf (textP p) = tp at htp htq
  obtain ⟨mb, hmb⟩ : ∃ b, mayP p = b := ⟨_, rfl⟩
  have HM1 := Lib.hid (may_val hmb)
  have HM2 := Lib.hid (rig_val hmb)
  have HTP0 := Lib.hid htp
  have HTQ := Lib.hid htq
  have H1 := Lib.hid hc1
  have H2 := Lib.hid hc2
  have H3 := Lib.hid hc3
  have H4 := Lib.hid hc4
  clear hc1 hc2 hc3 hc4 htp htq hmb
  go_wp2_with fail
  refine (H1.out _ kB).mono ?_
  rintro e w2 ⟨rfl, hb2⟩
  replace kP := box1 kP hb2 #[.int .i64 u.n0, .int .i64 u.n1, .int .i64 u.n2, .int .i64 u.n3, .int .i64 u.dep]
  have kR0 := Bk.new w2 24 #[.int .i64 u.n0, .int .i64 u.n1, .int .i64 u.n2, .int .i64 u.n3, .int .i64 u.dep]
  replace kB := below1 kB hb2 #[.int .i64 u.n0, .int .i64 u.n1, .int .i64 u.n2, .int .i64 u.n3, .int .i64 u.dep]
  clear hb2
  go_wp2_with fail
  refine (H2.out _).mono ?_
  rintro e w3 ⟨rfl, hb3⟩
  replace kP := box1 kP hb3 #[.int .i64 u.n0, .int .i64 u.n1, .int .i64 u.n2, .int .i64 u.n3, .int .i64 u.dep]
  replace kR0 := box1 kR0 hb3 #[.int .i64 u.n0, .int .i64 u.n1, .int .i64 u.n2, .int .i64 u.n3, .int .i64 u.dep]
  have kR1 := Bk.new w3 24 #[.int .i64 u.n0, .int .i64 u.n1, .int .i64 u.n2, .int .i64 u.n3, .int .i64 u.dep]
  replace kB := below1 kB hb3 #[.int .i64 u.n0, .int .i64 u.n1, .int .i64 u.n2, .int .i64 u.n3, .int .i64 u.dep]
  clear hb3
  go_wp2_with fail
  refine (H3.out _ kB).mono ?_
  rintro e w4 ⟨rfl, hb4⟩
  replace kP := box1 kP hb4 #[.int .i64 x.n0, .int .i64 x.n1, .int .i64 x.n2, .int .i64 x.n3, .int .i64 x.dep]
  replace kR0 := box1 kR0 hb4 #[.int .i64 x.n0, .int .i64 x.n1, .int .i64 x.n2, .int .i64 x.n3, .int .i64 x.dep]
  replace kR1 := box1 kR1 hb4 #[.int .i64 x.n0, .int .i64 x.n1, .int .i64 x.n2, .int .i64 x.n3, .int .i64 x.dep]
  have kR2 := Bk.new w4 24 #[.int .i64 x.n0, .int .i64 x.n1, .int .i64 x.n2, .int .i64 x.n3, .int .i64 x.dep]
  replace kB := below1 kB hb4 #[.int .i64 x.n0, .int .i64 x.n1, .int .i64 x.n2, .int .i64 x.n3, .int .i64 x.dep]
  clear hb4
  go_wp2_with fail
  refine (H4.out _ kB).mono ?_
  rintro e w5 ⟨rfl, hb5⟩
  replace kP := box1 kP hb5 #[.int .i64 x.n0, .int .i64 x.n1, .int .i64 x.n2, .int .i64 x.n3, .int .i64 x.dep]
  replace kR0 := box1 kR0 hb5 #[.int .i64 x.n0, .int .i64 x.n1, .int .i64 x.n2, .int .i64 x.n3, .int .i64 x.dep]
  replace kR1 := box1 kR1 hb5 #[.int .i64 x.n0, .int .i64 x.n1, .int .i64 x.n2, .int .i64 x.n3, .int .i64 x.dep]
  replace kR2 := box1 kR2 hb5 #[.int .i64 x.n0, .int .i64 x.n1, .int .i64 x.n2, .int .i64 x.n3, .int .i64 x.dep]
  have kR3 := Bk.new w5 24 #[.int .i64 x.n0, .int .i64 x.n1, .int .i64 x.n2, .int .i64 x.n3, .int .i64 x.dep]
  replace kB := below1 kB hb5 #[.int .i64 x.n0, .int .i64 x.n1, .int .i64 x.n2, .int .i64 x.n3, .int .i64 x.dep]
  clear hb5
  go_upto_region 9 with fail
  generalize w5.alloc (.cells #[.int .i64 x.n0, .int .i64 x.n1, .int .i64 x.n2, .int .i64 x.n3, .int .i64 x.dep] 24) = wz at kB kP kR0 kR1 kR2 kR3 ⊢
  generalize w2.heap.size = bR0 at kR0 ⊢
  generalize w3.heap.size = bR1 at kR1 ⊢
  generalize w4.heap.size = bR2 at kR2 ⊢
  generalize w5.heap.size = bR3 at kR3 ⊢
  have a0 := fun dq osq => cell_regrown (v := .int .i64 p.n0) (kP.cell 0) dq osq
  have a1 := fun dq osq => cell_regrown (v := .int .i64 p.n1) (kP.cell 1) dq osq
  have a2 := fun dq osq => cell_regrown (v := .int .i64 p.n2) (kP.cell 2) dq osq
  have a3 := fun dq osq => cell_regrown (v := .int .i64 p.n3) (kP.cell 3) dq osq
  have a4 := fun dq osq => cell_regrown (v := .int .i64 p.dep) (kP.cell 4) dq osq
  have b0 := fun dq osq => cell_regrown (v := .int .i64 u.n0) (kR0.cell 0) dq osq
  have b1 := fun dq osq => cell_regrown (v := .int .i64 u.n1) (kR0.cell 1) dq osq
  have b2 := fun dq osq => cell_regrown (v := .int .i64 u.n2) (kR0.cell 2) dq osq
  have b3 := fun dq osq => cell_regrown (v := .int .i64 u.n3) (kR0.cell 3) dq osq
  have b4 := fun dq osq => cell_regrown (v := .int .i64 u.dep) (kR0.cell 4) dq osq
  have c0 := fun dq osq => cell_regrown (v := .int .i64 u.n0) (kR1.cell 0) dq osq
  have c1 := fun dq osq => cell_regrown (v := .int .i64 u.n1) (kR1.cell 1) dq osq
  have c2 := fun dq osq => cell_regrown (v := .int .i64 u.n2) (kR1.cell 2) dq osq
  have c3 := fun dq osq => cell_regrown (v := .int .i64 u.n3) (kR1.cell 3) dq osq
  have c4 := fun dq osq => cell_regrown (v := .int .i64 u.dep) (kR1.cell 4) dq osq
  have d0 := fun dq osq => cell_regrown (v := .int .i64 x.n0) (kR2.cell 0) dq osq
  have d1 := fun dq osq => cell_regrown (v := .int .i64 x.n1) (kR2.cell 1) dq osq
  have d2 := fun dq osq => cell_regrown (v := .int .i64 x.n2) (kR2.cell 2) dq osq
  have d3 := fun dq osq => cell_regrown (v := .int .i64 x.n3) (kR2.cell 3) dq osq
  have d4 := fun dq osq => cell_regrown (v := .int .i64 x.dep) (kR2.cell 4) dq osq
  have f0 := fun dq osq => cell_regrown (v := .int .i64 x.n0) (kR3.cell 0) dq osq
  have f1 := fun dq osq => cell_regrown (v := .int .i64 x.n1) (kR3.cell 1) dq osq
  have f2 := fun dq osq => cell_regrown (v := .int .i64 x.n2) (kR3.cell 2) dq osq
  have f3 := fun dq osq => cell_regrown (v := .int .i64 x.n3) (kR3.cell 3) dq osq
  have f4 := fun dq osq => cell_regrown (v := .int .i64 x.dep) (kR3.cell 4) dq osq
  have HZ := Lib.hid kB
  have HTP : Hid (∀ W, Below wz.heap.size wz W → _) := Lib.hid (fun W hb => HTP0.out W (bl_then HZ.out (Nat.le_refl _) hb))
  have hgd := gdPt
  have heu := eqlPt u u
  rw [decide_eq_true rfl] at heu
  have hex := eqlPt x x
  rw [decide_eq_true rfl] at hex
  clear kP kR0 kR1 kR2 kR3 kB HTP0 HT HL HLE H1 H2 H3 H4
  refine wp_region_quiet_below (by kernel_rfl) (by kernel_rfl) ?_
  repeat (go_big_quiet_step (first
    | (go_at_call 12; exact Calls.regrown_of (HTP.out _ (below_regrown _ _ _)))
    | (go_at_call 17; exact Calls.regrown_of (HTQ.out _))
    | (go_at_call 9; exact Calls.regrown_of (HM1.out _))
    | (go_at_call 16; exact Calls.regrown_of (HM2.out _))))
  refine wpQuiet_nil ?_
  intro _ hw'
  obtain ⟨⟨dq, osq⟩, hw''⟩ := hw'
  subst hw''
  go_wp2
  go_ret
  exact ⟨rfl, bl_then HZ.out (Nat.le_refl _) (below_regrown _ _ _)⟩
end Go.Proofs.YtlbjlopljlblpaaDoor
