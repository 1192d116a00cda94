/- store: the reference's Set: the first row. No condition. -/
import Derived.Test.YtjbhlckdaghppaaStM
set_option linter.unusedVariables false
set_option linter.unusedSimpArgs false
namespace Go.Proofs.Ytjbhlckdaghppaa
open Go.RowKit (wrap32 wrap64)
open Go.RowKit Go.Shelf Go.Sort Go.Lib
set_option maxRecDepth 100000 in
set_option maxHeartbeats 8000000 in
theorem rset_first (x : Nat) (p : Pt) (v : Int) (w : World) (h : RfO w x (.slice none 0 0) (.slice none 0 0) []) (hs : okSet p v = true) :
    Calls Try.prog 14 #[.pointer (some ⟨x, 0, none⟩), .agg (ptA p), .int .i64 v] w (RSet x (.slice none 0 0) (.slice none 0 0) w (putT [] p v)) := by

  have hE := ok0
  have hh : hasE [] p = false := rfl
  obtain ⟨E, hE0⟩ : ∃ E : List Cl, [] = E := ⟨_, rfl⟩
  rw [hE0] at h hE hh ⊢
  have hK : (0 : Nat) ≤ 1000 := by omega
  have hl0 : E.length = 0 := by rw [← hE0]; rfl
  have HEND : Hid (∀ (w4 w3 : World) (g3 c3 : Nat) (v4 vC4 : Value), Bk w4 x 39 #[v4, vC4] → w4.ownsRow (x + 1) 30 6 v4 (0 + (1 + 0)) (flatV enRw ([] ++ ([⟨p.n0, p.n1, p.n2, p.n3, p.dep, v⟩] ++ []))) → Keep (RS x (.slice none 0 0) (.slice none 0 0)) w w4 → plE E p = 0 → Below w4.heap.size w4 w3 → ∀ {base : Nat}, w3.ownsRow base 3 1 (.slice (some ⟨g3, 0, none⟩) (0 + (1 + 0)) c3) (0 + (1 + 0)) (flatV enZ ([] ++ ([1] ++ []))) → x + 1 ≤ base → (∀ i, v4.ownBlock = some i → w.heap.size ≤ i) → w.heap.size ≤ base → RSet x (.slice none 0 0) (.slice none 0 0) w (putT E p v) (.returned (.tuple #[.int .i64 0, .int .i64 0])) (w3.setCell ⟨x, 1, none⟩ (.slice (some ⟨g3, 0, none⟩) (0 + (1 + 0)) c3))) :=
    Lib.hid (fun w4 w3 g3 c3 v4 vC4 a1 a2 a3 a4 a5 {base} a6 a7 a8 a9 => rset_end x _ _ E p v w 0 0 (by rw [← hE0]; rfl) hh hs _ (by rw [← hE0]; rfl) _ (by rw [← hE0]; rfl) w4 w3 g3 c3 v4 vC4 a1 a2 a3 a4 a5 base a6 a7 a8 a9)
  have HPL : Hid (plE E p = 0) := Lib.hid (by rw [← hE0]; rfl)
  obtain ⟨hm, g1, g2, g3⟩ := okSet_iff hs
  have g2' : ¬ v < 0 := by omega
  have g3' : ¬ 1073741824 < v := by omega
  have hf : findE E p = -1 := by
    rcases findE_cases hE p with ⟨h1, _⟩ | ⟨i, c, _, _, hc, hp, _⟩
    · exact h1
    · exfalso
      have : hasE E p = true := by unfold hasE; rw [List.any_eq_true]; exact ⟨c, List.mem_of_getElem? hc, by simpa using hp⟩
      rw [hh] at this; cases this
  obtain ⟨i0, hi, hz0, hz1, hz2⟩ := info_parts Try.infoRw
  obtain ⟨j0, hj, hy0, hy1, hy2⟩ := info_parts infoInt
  have a1 := (Below.refl w.heap.size w).alloc (Nat.le_refl _) (PB p)
  have b1 := Bk.new w 25 (ptA p)
  have HMAY := Lib.hid (fun W1 => rpright_any p W1)
  rw [hm] at HMAY
  have HFD := Lib.hid (fun W1 (hb : Below w.heap.size w W1) => rfind_any x _ _ E 0 p W1 (h.below hb) hE hK)
  rw [hf] at HFD
  have HBX := Lib.hid b1
  have e0 := b1.cell 0
  have e1 := b1.cell 1
  have e2 := b1.cell 2
  have e3 := b1.cell 3
  have e4 := b1.cell 4
  have HR := Lib.hid h
  have HX0 := Lib.hid (fun W1 (hb : Below w.heap.size w W1) => (h.bk.below hb).cell 0)
  clear h hE b1 hf hs hm hh hE0 hl0
  go_enter Try.func14, Try.ntmps14
  go_wp2_with (first
    | (go_at_call 37; refine (HMAY.out _).mono ?_; rintro e w2 ⟨rfl, hb2⟩; have k2 := HBX.out.below hb2; have d0 := k2.cell 0; have d1 := k2.cell 1; have d2 := k2.cell 2; have d3 := k2.cell 3; have d4 := k2.cell 4; clear e0 e1 e2 e3 e4 k2; have hb3 := bl_then a1 (Nat.le_refl _) hb2)
    | (go_at_call 38; refine (HFD.out _ hb3).mono ?_; rintro e w4 ⟨rfl, hb4⟩; have HB := Lib.hid (bl_then hb3 (Nat.le_refl _) hb4); have HBP := Lib.hid (HBX.out.below (bl_then hb2 (Nat.le_refl _) hb4)); clear d0 d1 d2 d3 d4 hb2 hb3 hb4))
  go_loopw [10] (fun c wr => c = .int .i64 0 ∧ Below w.heap.size w wr ∧ Bk wr w.heap.size 25 (ptA p)) (fun c _ => 0)
  case atStart => exact ⟨rfl, HB.out, HBP.out⟩
  case round =>
    obtain ⟨rfl, hb, hbp⟩ := hrel
    have x0 := HX0.out _ hb
    have z0 := fun dq osq => cell_regrown (v := .slice none 0 0) x0 dq osq
    go_wp2_with fail
    refine wp_region_quiet_below (by kernel_rfl) (by kernel_rfl) ?_
    repeat (go_big_quiet_step (fail))
    refine wpQuiet_nil ?_
    intro _ hw'
    obtain ⟨⟨dq, osq⟩, hw''⟩ := hw'
    subst hw''
    have HB5 := Lib.hid (bl_then hb (Nat.le_refl _) (below_regrown wr dq osq))
    have HB5b := Lib.hid (hbp.below (below_regrown wr dq osq))
    clear hb hbp x0 z0
    generalize grow (redrawn wr dq) osq = w5 at HB5 HB5b ⊢
    go_wp2_with fail
    have HR5 := HR.out.below HB5.out
    have HX := Lib.hid HR5.bk
    have hx5 := HR5.bk.lt
    have HLITR : Hid ((w5.drew.alloc (.cells #[.int .i64 p.n0, .int .i64 p.n1, .int .i64 p.n2, .int .i64 p.n3, .int .i64 p.dep, .int .i64 v] 30)).ownsRow (x + 1) 30 6 (.slice (some ⟨w5.heap.size, 0, none⟩) 1 1) 1 (flatV enRw [⟨p.n0, p.n1, p.n2, p.n3, p.dep, v⟩])) := Lib.hid ((RowAt.fresh (enc := enRw) (s := 6) w5.drew 30 1 [⟨p.n0, p.n1, p.n2, p.n3, p.dep, v⟩] (by simp) (by decide) #[.int .i64 p.n0, .int .i64 p.n1, .int .i64 p.n2, .int .i64 p.n3, .int .i64 p.dep, .int .i64 v] rfl rfl).own enRw_len hx5)
    have hp5 := HB5b.out
    have y0 := hp5.cell 0
    have y1 := hp5.cell 1
    have y2 := hp5.cell 2
    have y3 := hp5.cell 3
    have y4 := hp5.cell 4
    clear hp5 HR5
    go_cut [79] from 80 to 100 (fun _ wx => ∃ (g3 c3 : Nat), Bk wx x 39 #[(.slice (some ⟨g3, 0, none⟩) (0 + (1 + 0)) c3), (.slice none 0 0)] ∧ wx.ownsRow (x + 1) 30 6 (.slice (some ⟨g3, 0, none⟩) (0 + (1 + 0)) c3) (0 + (1 + 0)) (flatV enRw ([] ++ ([⟨p.n0, p.n1, p.n2, p.n3, p.dep, v⟩] ++ []))) ∧ wx.ownsRow (x + 1) 3 1 (.slice none 0 0) E.length (E.map fun c => Value.int .i64 c.n) ∧ Keep (RS x (.slice none 0 0) (.slice none 0 0)) w wx ∧ w.heap.size ≤ g3)
    case first =>
      have HD0 : Below w5.heap.size w5 w5.drew := below_drew w5
      have HD1 : Below w5.heap.size w5 (w5.drew.alloc (.cells #[.int .i64 p.n0, .int .i64 p.n1, .int .i64 p.n2, .int .i64 p.n3, .int .i64 p.dep, .int .i64 v] 30)) := HD0.alloc (Nat.le_refl _) _
      have x0 := (HX.out.below HD0).cell 0
      have x8 := HX.out.cell 0
      have x9 := (HX.out.below HD1).cell 0
      go_region_law (first
        | (refine step_append_recs (ok := okRw) enRw_len (by omega) enRw_one (by rfl) _ _ 22 (by rfl) (x + 1) 30 i0 _ 48 Try.underlying22 hi hz0 hz1 hz2 rfl (.slice (some ⟨w5.heap.size, 0, none⟩) 1 1) 1 [⟨p.n0, p.n1, p.n2, p.n3, p.dep, v⟩] (by rfl) HLITR.out none 0 0 [] (by simp [Act.eval, Act.put]) (SR.zero _) (by unfold maxLen; omega) (by omega) (by simp; omega) ?_
           intro v2 w2 hown2 hg2
           obtain ⟨g2, c2, rfl, hbg2, hlg2⟩ := hown2.form (by omega)
           have HB2 : Below w5.heap.size w5 w2 := bl_keep HD1 (grown_keep hg2 (fun i => i = w5.heap.size) (fun k hk => by injection hk with hk; exact hk.symm)) (fun i hi => by rw [hi]; exact Nat.le_refl _)
           have x0 := (HX.out.below HB2).cell 0)
        | (go_loud (refine step_append_grows rfl _ _ 22 (by rfl) 30 i0 _ 6 48 Try.underlying22 hi hz0 hz1 hz2 rfl (by decide) none 0 0 [] (by simp [Act.eval, Act.put]) (by intro _; exact ⟨rfl, rfl⟩) (by rfl) (by intro b hb; cases hb) ⟨g2, 0, none⟩ (1 + 0) c2 (flatV enRw ([⟨p.n0, p.n1, p.n2, p.n3, p.dep, v⟩] ++ [])) (by rfl) hown2.1 (hown2.cells rfl) (flatV_one enRw_one _) (by omega) (by unfold maxLen; omega) (by omega) ?_)
           intro v3 w3 hown3 hg3
           obtain ⟨g3, c3, rfl, hbg3, hlg3⟩ := hown3.form (by omega)
           have HB3 : Below w5.heap.size w5 w3 := grown_below hg3 HB2
           have x0 := (HX.out.below HB3).cell 0
           have f0 := (HX.out.below HB3).frozen 0))
      all_goals
        have bk4 := (HX.out.below HB3).set 0 (.slice (some ⟨g3, 0, none⟩) (0 + (1 + 0)) c3)
        have hw3 : x < w3.heap.size := (HX.out.below HB3).lt
        have ow4 := own_weaken (own_keepS hown3 (Keep.set w3 x 0 (.slice (some ⟨g3, 0, none⟩) (0 + (1 + 0)) c3) (fun i => i = x) rfl) (fun i hi => by rw [hi]; exact Nat.lt_of_lt_of_le hx5 HB2.size)) (show x + 1 ≤ w2.heap.size from Nat.lt_of_lt_of_le hx5 HB2.size)
        have cs4 := own_keepB (HR.out.below (bl_then HB5.out (Nat.le_refl _) HB3)).cs (Keep.set w3 x 0 (.slice (some ⟨g3, 0, none⟩) (0 + (1 + 0)) c3) (fun i => i = x) rfl) (fun i hi => fun e => by have := (HR.out.cs.lt i hi).1; omega)
        have kp4 : Keep (RS x (.slice none 0 0) (.slice none 0 0)) w (w3.setCell ⟨x, 0, none⟩ (.slice (some ⟨g3, 0, none⟩) (0 + (1 + 0)) c3)) := (Keep.of_below (bl_then HB5.out (Nat.le_refl _) HB3) _).trans (Keep.set w3 x 0 _ _ (.inl rfl))
        go_wp2
        go_meet
        exact ⟨g3, c3, bk4, ow4, cs4, kp4, Nat.le_trans HB5.out.size (Nat.le_trans HB2.size hbg3)⟩
    case rest =>
      obtain ⟨g4, c4, bk4, ow4, cs4, kp4, hg4⟩ := hcut
      have HG4 : Hid (w.heap.size ≤ g4) := Lib.hid hg4
      generalize wc = w4 at bk4 ow4 cs4 kp4 ⊢
      clear HX
      have HX := Lib.hid bk4
      have hx4 := bk4.lt
      have HLITC : Hid ((w4.drew.alloc (.cells #[.int .i64 1] 3)).ownsRow (x + 1) 3 1 (.slice (some ⟨w4.heap.size, 0, none⟩) 1 1) 1 (flatV enZ [1])) := Lib.hid ((RowAt.fresh (enc := enZ) (s := 1) w4.drew 3 1 [1] (by simp) (by decide) #[.int .i64 1] rfl rfl).own enZ_len hx4)
      have HOW := Lib.hid ow4
      have HKP := Lib.hid kp4
      clear bk4 ow4 cs4 kp4 hg4 HLITR hx5 y0 y1 y2 y3 y4
      go_wp2_with fail
      have HD0 : Below w4.heap.size w4 w4.drew := below_drew w4
      have HD1 : Below w4.heap.size w4 (w4.drew.alloc (.cells #[.int .i64 1] 3)) := HD0.alloc (Nat.le_refl _) _
      have x0 := (HX.out.below HD0).cell 1
      have x8 := HX.out.cell 1
      have x9 := (HX.out.below HD1).cell 1
      go_region_law (first
        | (refine step_append_recs (ok := (fun _ : Int => True)) enZ_len (by omega) enZ_one (by rfl) _ _ 37 (by rfl) (x + 1) 3 j0 _ 8 Try.underlying37 hj hy0 hy1 hy2 rfl (.slice (some ⟨w4.heap.size, 0, none⟩) 1 1) 1 [1] (by rfl) HLITC.out none 0 0 [] (by simp [Act.eval, Act.put]) (SR.zero _) (by unfold maxLen; omega) (by omega) (by simp; omega) ?_
           intro v2 w2 hown2 hg2
           obtain ⟨g2, c2, rfl, hbg2, hlg2⟩ := hown2.form (by omega)
           have HB2 : Below w4.heap.size w4 w2 := bl_keep HD1 (grown_keep hg2 (fun i => i = w4.heap.size) (fun k hk => by injection hk with hk; exact hk.symm)) (fun i hi => by rw [hi]; exact Nat.le_refl _)
           have x0 := (HX.out.below HB2).cell 1)
        | (go_loud (refine step_append_grows rfl _ _ 37 (by rfl) 3 j0 _ 1 8 Try.underlying37 hj hy0 hy1 hy2 rfl (by decide) none 0 0 [] (by simp [Act.eval, Act.put]) (by intro _; exact ⟨rfl, rfl⟩) (by rfl) (by intro b hb; cases hb) ⟨g2, 0, none⟩ (1 + 0) c2 (flatV enZ ([1] ++ [])) (by rfl) hown2.1 (hown2.cells rfl) (flatV_one enZ_one _) (by omega) (by unfold maxLen; omega) (by omega) ?_)
           intro v3 w3 hown3 hg3
           obtain ⟨g3, c3, rfl, hbg3, hlg3⟩ := hown3.form (by omega)
           have HB3 : Below w4.heap.size w4 w3 := grown_below hg3 HB2
           have x0 := (HX.out.below HB3).cell 1
           have f0 := (HX.out.below HB3).frozen 1))
      all_goals
        go_wp2
        go_ret2
        exact HEND.out w4 w3 g3 c3 _ _ HX.out HOW.out HKP.out HPL.out HB3 hown3 (Nat.lt_of_lt_of_le hx4 HB2.size) (fun i hi => by injection hi with hi; rw [← hi]; exact HG4.out) (Nat.le_trans HKP.out.size HB2.size)
end Go.Proofs.Ytjbhlckdaghppaa
