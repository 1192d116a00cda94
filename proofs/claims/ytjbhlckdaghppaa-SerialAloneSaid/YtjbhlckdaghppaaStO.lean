/- store: the reference's Set: a row set in among others. No condition. -/
import Derived.Test.YtjbhlckdaghppaaStM
set_option linter.unusedVariables false
set_option linter.unusedSimpArgs false
namespace Go.Proofs.Ytjbhlckdaghppaa
open Go.RowKit (wrap32 wrap64)
open Go.RowKit Go.Shelf Go.Sort Go.Lib
set_option maxRecDepth 100000 in
set_option maxHeartbeats 8000000 in
theorem rset_new (x : Nat) (vL vC : Value) (E : List Cl) (K : Nat) (p : Pt) (v : Int) (w : World) (h : RfO w x vL vC E) (hE : OkE E K) (hK : K ≤ 1000) (hs : okSet p v = true) (hh : hasE E p = false) (h0 : 0 < E.length) :
    Calls Try.prog 14 #[.pointer (some ⟨x, 0, none⟩), .agg (ptA p), .int .i64 v] w (RSet x vL vC w (putT E p v)) := by

  obtain ⟨n, hn⟩ : ∃ n, n = E.length := ⟨_, rfl⟩
  have hnK : n ≤ 1000 := by rw [hn]; exact Nat.le_trans hE.len hK
  have HEND : Hid (∀ (k : Nat) (w4 w3 : World) (g3 c3 : Nat) (v4 vC4 : Value), k ≤ n → Bk w4 x 39 #[v4, vC4] → w4.ownsRow (x + 1) 30 6 v4 (k + (1 + (n - k))) (flatV enRw ((E.map rwOf).take k ++ ([⟨p.n0, p.n1, p.n2, p.n3, p.dep, v⟩] ++ (E.map rwOf).drop k))) → Keep (RS x vL vC) w w4 → plE E p = k → Below w4.heap.size w4 w3 → ∀ {base : Nat}, w3.ownsRow base 3 1 (.slice (some ⟨g3, 0, none⟩) (k + (1 + (n - k))) c3) (k + (1 + (n - k))) (flatV enZ ((E.map Cl.n).take k ++ ([1] ++ (E.map Cl.n).drop k))) → x + 1 ≤ base → (∀ i, v4.ownBlock = some i → w.heap.size ≤ i) → w.heap.size ≤ base → RSet x vL vC w (putT E p v) (.returned (.tuple #[.int .i64 0, .int .i64 0])) (w3.setCell ⟨x, 1, none⟩ (.slice (some ⟨g3, 0, none⟩) (k + (1 + (n - k))) c3))) :=
    Lib.hid (fun k w4 w3 g3 c3 v4 vC4 a0 a1 a2 a3 a4 a5 {base} a6 a7 a8 a9 => rset_end x vL vC E p v w k (n - k) (by omega) hh hs _ rfl _ rfl w4 w3 g3 c3 v4 vC4 a1 a2 a3 a4 a5 base a6 a7 a8 a9)
  obtain ⟨hm, g1, g2, g3⟩ := okSet_iff hs
  have g2' : ¬ v < 0 := by omega
  have g3' : ¬ 1073741824 < v := by omega
  have hf : findE E p = -1 := by
    rcases findE_cases hE p with ⟨h1, _⟩ | ⟨i, c, _, _, hc, hp, _⟩
    · exact h1
    · exfalso
      have : hasE E p = true := by unfold hasE; rw [List.any_eq_true]; exact ⟨c, List.mem_of_getElem? hc, by simpa using hp⟩
      rw [hh] at this; cases this
  obtain ⟨i0, hi, hz0, hz1, hz2⟩ := info_parts Try.infoRw
  obtain ⟨j0, hj, hy0, hy1, hy2⟩ := info_parts infoInt
  have a1 := (Below.refl w.heap.size w).alloc (Nat.le_refl _) (PB p)
  have b1 := Bk.new w 25 (ptA p)
  have HMAY := Lib.hid (fun W1 => rpright_any p W1)
  rw [hm] at HMAY
  have HFD := Lib.hid (fun W1 (hb : Below w.heap.size w W1) => rfind_any x _ _ E K p W1 (h.below hb) hE hK)
  rw [hf] at HFD
  have HBX := Lib.hid b1
  have e0 := b1.cell 0
  have e1 := b1.cell 1
  have e2 := b1.cell 2
  have e3 := b1.cell 3
  have e4 := b1.cell 4
  have HR := Lib.hid h
  obtain ⟨g, cL, h', cC, hvL, hvC⟩ := h.some h0
  rw [← hn] at hvL hvC
  have h2 := h
  rw [hvL, hvC] at h2
  have hls2 := h2.ls
  have hcs2 := h2.cs
  rw [← hn] at hls2 hcs2
  have hcl := own_caps hls2
  have hcc := own_caps hcs2
  have hclm : cL ≤ 9223372036854775807 := by have := hcl.2.1; unfold maxLen at this; exact this
  have hccm : cC ≤ 9223372036854775807 := by have := hcc.2.1; unfold maxLen at this; exact this
  have hcl1 := hcl.1
  have hcc1 := hcc.1
  have hs2 : ∀ W1, Below w.heap.size w W1 → SR enRw okRw 6 W1 (some ⟨g, 0, none⟩) n (E.map rwOf) := fun W1 hb => by
    obtain ⟨A, nn, c, e, hnn, hs3⟩ := (h2.below hb).row hE
    injection e with e1 e2 e3
    rw [e1, e2]
    exact hs3
  have hs3 : ∀ W1, W1.ownsRow (x + 1) 3 1 (.slice (some ⟨h', 0, none⟩) E.length cC) E.length (E.map fun c => Value.int .i64 c.n) → SR enZ (fun _ => True) 1 W1 (some ⟨h', 0, none⟩) n (E.map Cl.n) := fun W1 ho => by
    rw [cntZ] at ho
    obtain ⟨A, c, e, hs4, _, _⟩ := SR.own (ok := fun _ => True) enZ_len (by omega) ho (fun _ _ => trivial)
    injection e with e1 e2 e3
    subst e1
    rw [hn]
    exact hs4
  have HX0 := Lib.hid (fun W1 (hb : Below w.heap.size w W1) => (h2.bk.below hb).cell 0)
  have HS2 := Lib.hid hs2
  have HS3 := Lib.hid hs3
  subst hvL
  subst hvC
  have HN := Lib.hid hn
  clear h h2 hE b1 hf hs hm hh hs2 hs3 hcl hcc h0 hn hls2 hcs2
  go_enter Try.func14, Try.ntmps14
  go_upto_block 0 with (first
    | (go_at_call 37; refine (HMAY.out _).mono ?_; rintro e w2 ⟨rfl, hb2⟩; have k2 := HBX.out.below hb2; have d0 := k2.cell 0; have d1 := k2.cell 1; have d2 := k2.cell 2; have d3 := k2.cell 3; have d4 := k2.cell 4; clear e0 e1 e2 e3 e4 k2; have hb3 := bl_then a1 (Nat.le_refl _) hb2)
    | (go_at_call 38; refine (HFD.out _ hb3).mono ?_; rintro e w4 ⟨rfl, hb4⟩; have HB := Lib.hid (bl_then hb3 (Nat.le_refl _) hb4); have HBP := Lib.hid (HBX.out.below (bl_then hb2 (Nat.le_refl _) hb4)); clear d0 d1 d2 d3 d4 hb2 hb3 hb4))
  go_cut [10] from 58 to 78 (fun s10 wx => ∃ k : Nat, k ≤ n ∧ s10 = .int .i64 k ∧ Hid (plE E p = k) ∧ Below w.heap.size w wx ∧ Bk wx w.heap.size 25 (ptA p))
  case first =>
    go_wp2_with fail
    go_loopw [10] (fun c wr => ∃ k : Nat, k ≤ n ∧ c = .int .i64 k ∧ Hid (∀ j c, j < k → E[j]? = some c → lessP c.p p = true) ∧ Below w.heap.size w wr ∧ Bk wr w.heap.size 25 (ptA p)) (fun c _ => n - (intOf c).toNat)
    case atStart => exact ⟨0, by omega, rfl, Lib.hid (by intro j c hj; omega), HB.out, HBP.out⟩
    case round =>
      clear HB HBP
      obtain ⟨k, hk, rfl, HP, hb, hbp⟩ := hrel
      have x0 := HX0.out _ hb
      have z0 := fun dq osq => cell_regrown (v := .slice (some ⟨g, 0, none⟩) n cL) x0 dq osq
      by_cases hlt : k < n
      · obtain ⟨b0, off, y, hby, _, hy, hoky, d0, d1, d2, d3, d4, d5⟩ := Rw_at (HS2.out _ hb) hlt
        injection hby with hby
        injection hby with hb1 hb2 _
        subst hb1; subst hb2
        obtain ⟨c, hc, rfl⟩ : ∃ c, E[k]? = some c ∧ rwOf c = y := by
          rw [List.getElem?_map] at hy
          cases hq : E[k]? with
          | none => rw [hq] at hy; cases hy
          | some c => rw [hq] at hy; injection hy with hy; exact ⟨c, rfl, hy⟩
        unfold rwOf at d0 d1 d2 d3 d4
        dsimp only at d0 d1 d2 d3 d4
        have y0 := fun dq osq => cell_regrown (v := .int .i64 p.n0) (hbp.cell 0) dq osq
        have y1 := fun dq osq => cell_regrown (v := .int .i64 p.n1) (hbp.cell 1) dq osq
        have y2 := fun dq osq => cell_regrown (v := .int .i64 p.n2) (hbp.cell 2) dq osq
        have y3 := fun dq osq => cell_regrown (v := .int .i64 p.n3) (hbp.cell 3) dq osq
        have y4 := fun dq osq => cell_regrown (v := .int .i64 p.dep) (hbp.cell 4) dq osq
        have HL := Lib.hid (fun W1 => rless_any c.p p W1)
        rw [rless_eq] at HL
        have HC := Lib.hid hc
        rw [Nat.zero_add] at d0 d1 d2 d3 d4
        have r0 := fun dq osq => cell_regrown (v := .int .i64 c.p.n0) d0 dq osq
        have r1 := fun dq osq => cell_regrown (v := .int .i64 c.p.n1) d1 dq osq
        have r2 := fun dq osq => cell_regrown (v := .int .i64 c.p.n2) d2 dq osq
        have r3 := fun dq osq => cell_regrown (v := .int .i64 c.p.n3) d3 dq osq
        have r4 := fun dq osq => cell_regrown (v := .int .i64 c.p.dep) d4 dq osq
        clear hy hoky hc d5
        cases hl : lessP c.p p with
        | true =>
          rw [hl] at HL
          have HNX : Hid (∀ j c, j < k + 1 → E[j]? = some c → lessP c.p p = true) := Lib.hid (by
            intro j c' hj hc'
            by_cases e : j = k
            · subst e
              rw [HC.out] at hc'
              injection hc' with hc'
              rw [← hc']; exact hl
            · exact HP.out j c' (by omega) hc')
          clear hl
          go_wp2_with fail
          refine wp_region_quiet_below (by kernel_rfl) (by kernel_rfl) ?_
          repeat (go_big_quiet_step (first | (go_at_call 39; exact Calls.regrown_of (HL.out _))))
          refine wpQuiet_nil ?_
          intro _ hw'
          obtain ⟨⟨dq, osq⟩, hw''⟩ := hw'
          subst hw''
          go_wp2
          go_roundw
          case rel => exact ⟨k + 1, by omega, by go_num, HNX, bl_then hb (Nat.le_refl _) (below_regrown wr dq osq), hbp.below (below_regrown wr dq osq)⟩
          case measure => simp [intOf]; omega
        | false =>
          rw [hl] at HL
          have HPL : Hid (plE E p = k) := Lib.hid (plE_at HC.out hl HP.out)
          clear hl
          go_wp2_with fail
          refine wp_region_quiet_below (by kernel_rfl) (by kernel_rfl) ?_
          repeat (go_big_quiet_step (first | (go_at_call 39; exact Calls.regrown_of (HL.out _))))
          refine wpQuiet_nil ?_
          intro _ hw'
          obtain ⟨⟨dq, osq⟩, hw''⟩ := hw'
          subst hw''
          go_wp2
          go_meet
          exact ⟨k, hk, rfl, HPL, bl_then hb (Nat.le_refl _) (below_regrown wr dq osq), hbp.below (below_regrown wr dq osq)⟩
      · obtain rfl : k = n := by omega
        have HPL : Hid (plE E p = k) := Lib.hid (by rw [plE_end (fun j c hj hc => HP.out j c (by rw [HN.out]; exact hj) hc)]; exact HN.out.symm)
        go_wp2_with fail
        refine wp_region_quiet_below (by kernel_rfl) (by kernel_rfl) ?_
        repeat (go_big_quiet_step (fail))
        refine wpQuiet_nil ?_
        intro _ hw'
        obtain ⟨⟨dq, osq⟩, hw''⟩ := hw'
        subst hw''
        go_wp2
        go_meet
        exact ⟨k, hk, rfl, HPL, bl_then hb (Nat.le_refl _) (below_regrown wr dq osq), hbp.below (below_regrown wr dq osq)⟩
  case rest =>
    obtain ⟨k, hk, rfl, HPL, hb5, hp5⟩ := hcut
    generalize wc = w5 at hb5 hp5 ⊢
    have HB5 := Lib.hid hb5
    have HB5b := Lib.hid hp5
    clear hb5 hp5 HMAY HFD HX0 a1 g1 g2 g3 g2' g3'
    obtain ⟨XR, hXR⟩ : ∃ XR : Option Addr, (if cL = k then (some ⟨g, 0, none⟩ : Option Addr) else some ⟨g, k * 6, none⟩) = XR := ⟨_, rfl⟩
    obtain ⟨XC, hXC⟩ : ∃ XC : Option Addr, (if cC = k then (some ⟨h', 0, none⟩ : Option Addr) else some ⟨h', k, none⟩) = XC := ⟨_, rfl⟩
    have HDR0 : Hid (∀ W1, Below w.heap.size w W1 → SR enRw okRw 6 W1 XR (n - k) ((E.map rwOf).drop k)) := Lib.hid (fun W1 hb => by
      rw [← hXR]
      split
      · rename_i hc
        have hlp : n - k = 0 := by omega
        rw [hlp, List.drop_of_length_le (by rw [List.length_map]; have := HN.out; omega)]
        exact SR.zero _
      · have := (HS2.out W1 hb).drop enRw_len hk
        rw [Nat.zero_add] at this
        exact this)
    have HDC0 : Hid (∀ W1, W1.ownsRow (x + 1) 3 1 (.slice (some ⟨h', 0, none⟩) n cC) E.length (E.map fun c => Value.int .i64 c.n) → SR enZ (fun _ => True) 1 W1 XC (n - k) ((E.map Cl.n).drop k)) := Lib.hid (fun W1 ho => by
      rw [← hXC]
      split
      · rename_i hc
        have hlp : n - k = 0 := by omega
        rw [hlp, List.drop_of_length_le (by rw [List.length_map]; have := HN.out; omega)]
        exact SR.zero _
      · have := (HS3.out W1 (by rw [← HN.out]; rw [← HN.out] at ho; exact ho)).drop enZ_len hk
        rw [Nat.zero_add, Nat.mul_one] at this
        exact this)
    have HTLR : Hid ((flatV enRw ((E.map rwOf).take k)).length = k * 6) := Lib.hid (by rw [flatV_len enRw_len, List.length_take, List.length_map, Nat.min_eq_left (by have := HN.out; omega)])
    have HTLC : Hid ((flatV enZ ((E.map Cl.n).take k)).length = k * 1) := Lib.hid (by rw [flatV_len enZ_len, List.length_take, List.length_map, Nat.min_eq_left (by have := HN.out; omega)])
    have q1 : k ≤ cL := by omega
    have q2 : (k : Int) ≤ (cL : Int) := by omega
    have q3 : (k : Int) ≤ (n : Int) := by omega
    have q4 : k ≤ cC := by omega
    have q5 : (k : Int) ≤ (cC : Int) := by omega
    clear HS2 HS3
    go_wp2_with fail
    have HR5 := HR.out.below HB5.out
    have HX := Lib.hid HR5.bk
    have hx5 := HR5.bk.lt
    have HLITR : Hid ((w5.drew.alloc (.cells #[.int .i64 p.n0, .int .i64 p.n1, .int .i64 p.n2, .int .i64 p.n3, .int .i64 p.dep, .int .i64 v] 30)).ownsRow (x + 1) 30 6 (.slice (some ⟨w5.heap.size, 0, none⟩) 1 1) 1 (flatV enRw [⟨p.n0, p.n1, p.n2, p.n3, p.dep, v⟩])) := Lib.hid ((RowAt.fresh (enc := enRw) (s := 6) w5.drew 30 1 [⟨p.n0, p.n1, p.n2, p.n3, p.dep, v⟩] (by simp) (by decide) #[.int .i64 p.n0, .int .i64 p.n1, .int .i64 p.n2, .int .i64 p.n3, .int .i64 p.dep, .int .i64 v] rfl rfl).own enRw_len hx5)
    have hp5 := HB5b.out
    have y0 := hp5.cell 0
    have y1 := hp5.cell 1
    have y2 := hp5.cell 2
    have y3 := hp5.cell 3
    have y4 := hp5.cell 4
    have HDRR : Hid (∀ W1, Below w5.heap.size w5 W1 → SR enRw okRw 6 W1 XR (n - k) ((E.map rwOf).drop k)) := Lib.hid (fun W1 hb => HDR0.out _ (bl_then HB5.out (Nat.le_refl _) hb))
    have HTCR : Hid (∀ W1, Below w5.heap.size w5 W1 → ∀ b, (some ⟨g, 0, none⟩ : Option Addr) = some b → ∀ j u, (flatV enRw ((E.map rwOf).take k))[j]? = some u → W1.cell? (b.add j) = some u) := Lib.hid (fun W1 hb b e j u hu => by
      injection e with e
      subst e
      exact ((HR5.below hb).ls.cells rfl) j u (flatV_pre enRw_len _ k j u hu))
    clear hp5 HR5
    go_cut [79] from 80 to 100 (fun _ wx => ∃ (g3 c3 : Nat), Bk wx x 39 #[(.slice (some ⟨g3, 0, none⟩) (k + (1 + (n - k))) c3), (.slice (some ⟨h', 0, none⟩) n cC)] ∧ wx.ownsRow (x + 1) 30 6 (.slice (some ⟨g3, 0, none⟩) (k + (1 + (n - k))) c3) (k + (1 + (n - k))) (flatV enRw ((E.map rwOf).take k ++ ([⟨p.n0, p.n1, p.n2, p.n3, p.dep, v⟩] ++ (E.map rwOf).drop k))) ∧ wx.ownsRow (x + 1) 3 1 (.slice (some ⟨h', 0, none⟩) n cC) E.length (E.map fun c => Value.int .i64 c.n) ∧ Keep (RS x (.slice (some ⟨g, 0, none⟩) n cL) (.slice (some ⟨h', 0, none⟩) n cC)) w wx ∧ w.heap.size ≤ g3)
    case first =>
      have HD0 : Below w5.heap.size w5 w5.drew := below_drew w5
      have HD1 : Below w5.heap.size w5 (w5.drew.alloc (.cells #[.int .i64 p.n0, .int .i64 p.n1, .int .i64 p.n2, .int .i64 p.n3, .int .i64 p.dep, .int .i64 v] 30)) := HD0.alloc (Nat.le_refl _) _
      have x0 := (HX.out.below HD0).cell 0
      have x8 := HX.out.cell 0
      have x9 := (HX.out.below HD1).cell 0
      go_region_law (first
        | (refine step_append_recs (ok := okRw) enRw_len (by omega) enRw_one (by rfl) _ _ 22 (by rfl) (x + 1) 30 i0 _ 48 Try.underlying22 hi hz0 hz1 hz2 rfl (.slice (some ⟨w5.heap.size, 0, none⟩) 1 1) 1 [⟨p.n0, p.n1, p.n2, p.n3, p.dep, v⟩] (by rfl) HLITR.out XR (n - k) (cL - k) ((E.map rwOf).drop k) (by simp [Act.eval, Act.put]) (HDRR.out _ HD1) (by unfold maxLen; omega) (by omega) (by simp; omega) ?_
           intro v2 w2 hown2 hg2
           obtain ⟨g2, c2, rfl, hbg2, hlg2⟩ := hown2.form (by omega)
           have HB2 : Below w5.heap.size w5 w2 := bl_keep HD1 (grown_keep hg2 (fun i => i = w5.heap.size) (fun k hk => by injection hk with hk; exact hk.symm)) (fun i hi => by rw [hi]; exact Nat.le_refl _)
           have x0 := (HX.out.below HB2).cell 0)
        | (go_loud (refine step_append_grows rfl _ _ 22 (by rfl) 30 i0 _ 6 48 Try.underlying22 hi hz0 hz1 hz2 rfl (by decide) (some ⟨g, 0, none⟩) k k (flatV enRw ((E.map rwOf).take k)) (by simp [Act.eval, Act.put]) (by intro e; cases e) HTLR.out (HTCR.out _ HB2) ⟨g2, 0, none⟩ (1 + (n - k)) c2 (flatV enRw ([⟨p.n0, p.n1, p.n2, p.n3, p.dep, v⟩] ++ (E.map rwOf).drop k)) (by rfl) hown2.1 (hown2.cells rfl) (flatV_one enRw_one _) (by omega) (by unfold maxLen; omega) (by omega) ?_)
           intro v3 w3 hown3 hg3
           obtain ⟨g3, c3, rfl, hbg3, hlg3⟩ := hown3.form (by omega)
           have HB3 : Below w5.heap.size w5 w3 := grown_below hg3 HB2
           have x0 := (HX.out.below HB3).cell 0
           have f0 := (HX.out.below HB3).frozen 0))
      all_goals
        have bk4 := (HX.out.below HB3).set 0 (.slice (some ⟨g3, 0, none⟩) (k + (1 + (n - k))) c3)
        have hw3 : x < w3.heap.size := (HX.out.below HB3).lt
        have ow4 := own_weaken (own_keepS hown3 (Keep.set w3 x 0 (.slice (some ⟨g3, 0, none⟩) (k + (1 + (n - k))) c3) (fun i => i = x) rfl) (fun i hi => by rw [hi]; exact Nat.lt_of_lt_of_le hx5 HB2.size)) (show x + 1 ≤ w2.heap.size from Nat.lt_of_lt_of_le hx5 HB2.size)
        have cs4 := own_keepB (HR.out.below (bl_then HB5.out (Nat.le_refl _) HB3)).cs (Keep.set w3 x 0 (.slice (some ⟨g3, 0, none⟩) (k + (1 + (n - k))) c3) (fun i => i = x) rfl) (fun i hi => fun e => by have := (HR.out.cs.lt i hi).1; omega)
        have kp4 : Keep (RS x (.slice (some ⟨g, 0, none⟩) n cL) (.slice (some ⟨h', 0, none⟩) n cC)) w (w3.setCell ⟨x, 0, none⟩ (.slice (some ⟨g3, 0, none⟩) (k + (1 + (n - k))) c3)) := (Keep.of_below (bl_then HB5.out (Nat.le_refl _) HB3) _).trans (Keep.set w3 x 0 _ _ (.inl rfl))
        rw [← flatV_append] at ow4
        go_wp2
        go_meet
        exact ⟨g3, c3, bk4, ow4, cs4, kp4, Nat.le_trans HB5.out.size (Nat.le_trans HB2.size hbg3)⟩
    case rest =>
      obtain ⟨g4, c4, bk4, ow4, cs4, kp4, hg4⟩ := hcut
      have HG4 : Hid (w.heap.size ≤ g4) := Lib.hid hg4
      generalize wc = w4 at bk4 ow4 cs4 kp4 ⊢
      clear HX
      have HX := Lib.hid bk4
      have hx4 := bk4.lt
      have HLITC : Hid ((w4.drew.alloc (.cells #[.int .i64 1] 3)).ownsRow (x + 1) 3 1 (.slice (some ⟨w4.heap.size, 0, none⟩) 1 1) 1 (flatV enZ [1])) := Lib.hid ((RowAt.fresh (enc := enZ) (s := 1) w4.drew 3 1 [1] (by simp) (by decide) #[.int .i64 1] rfl rfl).own enZ_len hx4)
      have HOW := Lib.hid ow4
      have HKP := Lib.hid kp4
      have HDRC : Hid (∀ W1, Below w4.heap.size w4 W1 → SR enZ (fun _ => True) 1 W1 XC (n - k) ((E.map Cl.n).drop k)) := Lib.hid (fun W1 hb => HDC0.out W1 (own_below cs4 hb))
      have HTCC : Hid (∀ W1, Below w4.heap.size w4 W1 → ∀ b, (some ⟨h', 0, none⟩ : Option Addr) = some b → ∀ j u, (flatV enZ ((E.map Cl.n).take k))[j]? = some u → W1.cell? (b.add j) = some u) := Lib.hid (fun W1 hb b e j u hu => by
        injection e with e
        subst e
        have h1 := (own_below cs4 hb).cells rfl j u
        rw [cntZ] at h1
        exact h1 (flatV_pre enZ_len _ k j u hu))
      clear bk4 ow4 cs4 kp4 hg4 HLITR hx5 y0 y1 y2 y3 y4
      go_wp2_with fail
      have HD0 : Below w4.heap.size w4 w4.drew := below_drew w4
      have HD1 : Below w4.heap.size w4 (w4.drew.alloc (.cells #[.int .i64 1] 3)) := HD0.alloc (Nat.le_refl _) _
      have x0 := (HX.out.below HD0).cell 1
      have x8 := HX.out.cell 1
      have x9 := (HX.out.below HD1).cell 1
      go_region_law (first
        | (refine step_append_recs (ok := (fun _ : Int => True)) enZ_len (by omega) enZ_one (by rfl) _ _ 37 (by rfl) (x + 1) 3 j0 _ 8 Try.underlying37 hj hy0 hy1 hy2 rfl (.slice (some ⟨w4.heap.size, 0, none⟩) 1 1) 1 [1] (by rfl) HLITC.out XC (n - k) (cC - k) ((E.map Cl.n).drop k) (by simp [Act.eval, Act.put]) (HDRC.out _ HD1) (by unfold maxLen; omega) (by omega) (by simp; omega) ?_
           intro v2 w2 hown2 hg2
           obtain ⟨g2, c2, rfl, hbg2, hlg2⟩ := hown2.form (by omega)
           have HB2 : Below w4.heap.size w4 w2 := bl_keep HD1 (grown_keep hg2 (fun i => i = w4.heap.size) (fun k hk => by injection hk with hk; exact hk.symm)) (fun i hi => by rw [hi]; exact Nat.le_refl _)
           have x0 := (HX.out.below HB2).cell 1)
        | (go_loud (refine step_append_grows rfl _ _ 37 (by rfl) 3 j0 _ 1 8 Try.underlying37 hj hy0 hy1 hy2 rfl (by decide) (some ⟨h', 0, none⟩) k k (flatV enZ ((E.map Cl.n).take k)) (by simp [Act.eval, Act.put]) (by intro e; cases e) HTLC.out (HTCC.out _ HB2) ⟨g2, 0, none⟩ (1 + (n - k)) c2 (flatV enZ ([1] ++ (E.map Cl.n).drop k)) (by rfl) hown2.1 (hown2.cells rfl) (flatV_one enZ_one _) (by omega) (by unfold maxLen; omega) (by omega) ?_)
           intro v3 w3 hown3 hg3
           obtain ⟨g3, c3, rfl, hbg3, hlg3⟩ := hown3.form (by omega)
           have HB3 : Below w4.heap.size w4 w3 := grown_below hg3 HB2
           have x0 := (HX.out.below HB3).cell 1
           have f0 := (HX.out.below HB3).frozen 1))
      all_goals
        rw [← flatV_append] at hown3
        go_wp2
        go_ret2
        exact HEND.out k w4 w3 g3 c3 _ _ hk HX.out HOW.out HKP.out HPL.out HB3 hown3 (Nat.lt_of_lt_of_le hx4 HB2.size) (fun i hi => by injection hi with hi; rw [← hi]; exact HG4.out) (Nat.le_trans HKP.out.size HB2.size)
end Go.Proofs.Ytjbhlckdaghppaa
