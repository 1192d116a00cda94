/- need: With, Level, Right; path.Up. No condition. -/
import Derived.Test.YthkjkmjcnphjgaaNeedS
set_option linter.unusedVariables false
set_option linter.unusedSimpArgs false
namespace Go.Proofs.Ythkjkmjcnphjgaa
open Go.RowKit (wrap32 wrap64)
open Go.RowKit Go.Shelf Go.Sort
set_option maxRecDepth 100000 in
set_option maxHeartbeats 1000000 in
theorem pup_no (p : Pt) (h : mayP p = true) (h1 : p.dep = 1) (w : World) : Calls Try.prog 95 #[.agg (ptA p)] w fun e w' => e = .returned (.tuple #[.agg #[.int .i64 0, .int .i64 0, .int .i64 0, .int .i64 0, .int .i64 0], .bool false]) ∧ Below w.heap.size w w' := by
  have hO : Below w.heap.size w ((w.alloc (.cells (ptA p) 51)).alloc (.cells #[.int .i64 0, .int .i64 0, .int .i64 0, .int .i64 0, .int .i64 0] 51)) := ((Below.refl _ _).alloc (Nat.le_refl _) _).alloc (by simp) _
  have hb0 := (Bk.new w 51 (ptA p)).below ((Below.refl _ _).alloc (Nat.le_refl _) (.cells #[.int .i64 0, .int .i64 0, .int .i64 0, .int .i64 0, .int .i64 0] 51))
  have hb1 : Bk ((w.alloc (.cells (ptA p) 51)).alloc (.cells #[.int .i64 0, .int .i64 0, .int .i64 0, .int .i64 0, .int .i64 0] 51)) (w.heap.size + 1) 51 #[.int .i64 0, .int .i64 0, .int .i64 0, .int .i64 0, .int .i64 0] := by
    have := Bk.new (w.alloc (.cells (ptA p) 51)) 51 #[.int .i64 0, .int .i64 0, .int .i64 0, .int .i64 0, .int .i64 0]
    rw [World.size_alloc] at this
    exact this
  have hm := fun W => pmay_any p W
  rw [h] at hm
  have HM := Lib.hid hm
  obtain ⟨x0, x1, x2, x3, x4⟩ := p
  dsimp only at h1
  subst h1
  have c0 := hb0.cell 0
  have c1 := hb0.cell 1
  have c2 := hb0.cell 2
  have c3 := hb0.cell 3
  have c4 := hb0.cell 4
  clear hm h
  go_enter Try.func95, Try.ntmps95
  go_wp2_with (go_at_call 74; refine (HM.out _).mono ?_; rintro e w1 ⟨rfl, hbw⟩; have k0 := hb0.below hbw; have k1 := hb1.below hbw; have e4 := k0.cell 4; have u0 := k1.cell 0; have u1 := k1.cell 1; have u2 := k1.cell 2; have u3 := k1.cell 3; have u4 := k1.cell 4; have f0 := k1.frozen 0; have f1 := k1.frozen 1; have f2 := k1.frozen 2; have f3 := k1.frozen 3; have f4 := k1.frozen 4; have hF := ((((k1.set 0 (.int .i64 0)).set 1 (.int .i64 0)).set 2 (.int .i64 0)).set 3 (.int .i64 0)).set 4 (.int .i64 0); clear c0 c1 c2 c3 c4 hb0 hb1 k0 k1)
  have z0 := hF.cell 0
  have z1 := hF.cell 1
  have z2 := hF.cell 2
  have z3 := hF.cell 3
  have z4 := hF.cell 4
  have HB1 := bl_then hO (Nat.le_refl _) hbw
  exact bodyPost_ret (v := .tuple #[.agg #[.int .i64 0, .int .i64 0, .int .i64 0, .int .i64 0, .int .i64 0], .bool false]) (by simp [results, Try.results95, go_sem, z0, z1, z2, z3, z4]) rfl ⟨rfl, ((((HB1.setCell (p := ⟨w.heap.size + 1, 0, none⟩) (Nat.le_succ _) _).setCell (p := ⟨w.heap.size + 1, 1, none⟩) (Nat.le_succ _) _).setCell (p := ⟨w.heap.size + 1, 2, none⟩) (Nat.le_succ _) _).setCell (p := ⟨w.heap.size + 1, 3, none⟩) (Nat.le_succ _) _).setCell (p := ⟨w.heap.size + 1, 4, none⟩) (Nat.le_succ _) _⟩
set_option maxRecDepth 100000 in
set_option maxHeartbeats 1000000 in
theorem pup_yes (p : Pt) (h : mayP p = true) (h2 : 2 ≤ p.dep) (w : World) : Calls Try.prog 95 #[.agg (ptA p)] w fun e w' => e = .returned (.tuple #[.agg (ptA (upOf p)), .bool true]) ∧ Below w.heap.size w w' := by
  have hO : Below w.heap.size w ((w.alloc (.cells (ptA p) 51)).alloc (.cells #[.int .i64 0, .int .i64 0, .int .i64 0, .int .i64 0, .int .i64 0] 51)) := ((Below.refl _ _).alloc (Nat.le_refl _) _).alloc (by simp) _
  have hb0 := (Bk.new w 51 (ptA p)).below ((Below.refl _ _).alloc (Nat.le_refl _) (.cells #[.int .i64 0, .int .i64 0, .int .i64 0, .int .i64 0, .int .i64 0] 51))
  have hb1 : Bk ((w.alloc (.cells (ptA p) 51)).alloc (.cells #[.int .i64 0, .int .i64 0, .int .i64 0, .int .i64 0, .int .i64 0] 51)) (w.heap.size + 1) 51 #[.int .i64 0, .int .i64 0, .int .i64 0, .int .i64 0, .int .i64 0] := by
    have := Bk.new (w.alloc (.cells (ptA p) 51)) 51 #[.int .i64 0, .int .i64 0, .int .i64 0, .int .i64 0, .int .i64 0]
    rw [World.size_alloc] at this
    exact this
  have hm := fun W => pmay_any p W
  rw [h] at hm
  have HM := Lib.hid hm
  obtain ⟨D, hD, hD1, hD4⟩ := mayP_dep p h
  have hcut := fun W => cut_any p (D - 1) (by omega) (by omega) W
  have hup : upOf p = front p (D - 1) := by unfold upOf; rw [hD]; rfl
  rw [← hup] at hcut
  have hca : (((D - 1 : Nat) : Int)) = p.dep - 1 := by omega
  rw [hca] at hcut
  have HC := Lib.hid hcut
  have t1 : IntKind.i64.wrap (p.dep - 1) = p.dep - 1 := by rw [IntKind.wrap_i64]; omega
  have hne : (p.dep == 1) = false := beq_eq_false_iff_ne.2 (by omega)
  generalize upOf p = q at HC ⊢
  obtain ⟨y0, y1, y2, y3, y4⟩ := q
  have hp0 : 0 ≤ p.dep - 1 := by omega
  have c0 := hb0.cell 0
  have c1 := hb0.cell 1
  have c2 := hb0.cell 2
  have c3 := hb0.cell 3
  have c4 := hb0.cell 4
  clear hm h hcut hD hca hup
  go_enter Try.func95, Try.ntmps95
  go_wp2_with (first
    | (go_at_call 74; refine (HM.out _).mono ?_; rintro e w1 ⟨rfl, hbw⟩; have k0 := hb0.below hbw; have k1 := hb1.below hbw; have e0 := k0.cell 0; have e1 := k0.cell 1; have e2 := k0.cell 2; have e3 := k0.cell 3; have e4 := k0.cell 4; clear c0 c1 c2 c3 c4 hb0 hb1 k0)
    | (go_at_call 107; refine (HC.out _).mono ?_; rintro e w2 ⟨rfl, hbx⟩; have k2 := k1.below hbx; have u0 := k2.cell 0; have u1 := k2.cell 1; have u2 := k2.cell 2; have u3 := k2.cell 3; have u4 := k2.cell 4; have f0 := k2.frozen 0; have f1 := k2.frozen 1; have f2 := k2.frozen 2; have f3 := k2.frozen 3; have f4 := k2.frozen 4; have hF := ((((k2.set 0 (.int .i64 y0)).set 1 (.int .i64 y1)).set 2 (.int .i64 y2)).set 3 (.int .i64 y3)).set 4 (.int .i64 y4); clear e0 e1 e2 e3 e4 k1 k2))
  have z0 := hF.cell 0
  have z1 := hF.cell 1
  have z2 := hF.cell 2
  have z3 := hF.cell 3
  have z4 := hF.cell 4
  have HB1 := bl_then (bl_then hO (Nat.le_refl _) hbw) (Nat.le_refl _) hbx
  exact bodyPost_ret (v := .tuple #[.agg #[.int .i64 y0, .int .i64 y1, .int .i64 y2, .int .i64 y3, .int .i64 y4], .bool true]) (by simp [results, Try.results95, go_sem, z0, z1, z2, z3, z4]) rfl ⟨rfl, ((((HB1.setCell (p := ⟨w.heap.size + 1, 0, none⟩) (Nat.le_succ _) _).setCell (p := ⟨w.heap.size + 1, 1, none⟩) (Nat.le_succ _) _).setCell (p := ⟨w.heap.size + 1, 2, none⟩) (Nat.le_succ _) _).setCell (p := ⟨w.heap.size + 1, 3, none⟩) (Nat.le_succ _) _).setCell (p := ⟨w.heap.size + 1, 4, none⟩) (Nat.le_succ _) _⟩
theorem row_of {w : World} {base E n : Nat} {v : Value} {L : List Lk} (h : w.ownsRow base E 6 v n (flatV enLk L)) (hn : 0 < n) (hl : L.length = n) : ∃ g c, v = .slice (some ⟨g, 0, none⟩) n c ∧ RowAt enLk E 6 w g c L ∧ base ≤ g := by
  rcases h.2 with ⟨_, hz⟩ | ⟨g, c, cur, rfl, hb, _⟩
  · omega
  · obtain ⟨hr, _⟩ := RowAt.of h hl.symm
    exact ⟨g, c, rfl, hr, hb⟩
theorem run_fb_int (w : World) (i : Int) (hi : 0 ≤ i ∧ i ≤ 3) : (Go.convert 101 3 (.float .f64 (fb i))).run Try.prog w = .ok (.int .i64 i) w := by
  obtain rfl | rfl | rfl | rfl : i = 0 ∨ i = 1 ∨ i = 2 ∨ i = 3 := by omega
  all_goals kernel_rfl
set_option maxRecDepth 100000 in
set_option maxHeartbeats 2000000 in
theorem nlevel_any (a : Option Addr) (len cap : Nat) (L : List Lk) (q : Pt) (hq : okPt q) (w : World) (hl : Lks w a len L) (hn : len ≤ 1000) :
    Calls Try.prog 54 #[.slice a len cap, .agg (ptA q)] w fun e w' => e = .returned (.int .i64 (levT L q)) ∧ Below w.heap.size w w' := by
  have hO : Below w.heap.size w (w.alloc (.cells (ptA q) 51)) := (Below.refl _ _).alloc (Nat.le_refl _) _
  have hb := Bk.new w 51 (ptA q)
  have c0 := hb.cell 0
  have c1 := hb.cell 1
  have c2 := hb.cell 2
  have c3 := hb.cell 3
  have c4 := hb.cell 4
  have hall := okPt_ways q hq
  have hwl := ways_len q
  have HW := Lib.hid (fun W => pways_any q W)
  have hlev : levT L q = (ways q).foldl (fun m a => mxI m (reT (needOf L a))) 0 := rfl
  generalize hws : ways q = ws at hall hwl HW hlev
  have HLV := Lib.hid hlev
  have HALL := Lib.hid hall
  have hrng : ∀ k, 0 ≤ (ws.take k).foldl (fun m a => mxI m (reT (needOf L a))) 0 ∧ (ws.take k).foldl (fun m a => mxI m (reT (needOf L a))) 0 ≤ 3 := by
    intro k
    have : ∀ (l : List Pt) (i : Int), 0 ≤ i ∧ i ≤ 3 → 0 ≤ l.foldl (fun m a => mxI m (reT (needOf L a))) i ∧ l.foldl (fun m a => mxI m (reT (needOf L a))) i ≤ 3 := by
      intro l
      induction l with
      | nil => intro i hi; exact hi
      | cons b l ih => intro i hi; exact ih _ (mxI_range _ _ hi (reT_range _))
    exact this _ 0 (by omega)
  have HRG := Lib.hid hrng
  clear hb hall hlev hws hrng
  go_enter Try.func54, Try.ntmps54
  go_wp2_with (go_at_call 75; refine (HW.out _).mono ?_; rintro e w1 ⟨v, rfl, hown, hb1⟩; obtain ⟨A, c, rfl, hs, _, _⟩ := SR.own (ok := okPt) enPt_len (by omega) hown HALL.out; clear hown)
  have HB1 := bl_then hO (Nat.le_refl _) hb1
  have hlw := hl.below HB1
  clear c0 c1 c2 c3 c4 hO hb1 hl
  go_loopw [5, 11] (fun v c wr => ∃ (k : Nat) (z : Int), k ≤ ws.length ∧ c = .int .i64 k ∧ v = .float .f64 (fb z) ∧ Hid (z = (ws.take k).foldl (fun m a => mxI m (reT (needOf L a))) 0) ∧ (0 ≤ z ∧ z ≤ 3) ∧ Below w1.heap.size w1 wr) (fun _ c _ => ws.length - (intOf c).toNat)
  case atStart => exact ⟨0, 0, by omega, rfl, rfl, Lib.hid rfl, by omega, Below.refl _ _⟩
  case round =>
    obtain ⟨k, z, hk, rfl, rfl, HZ, hz, HC⟩ := hrel
    by_cases hlt : k < ws.length
    · obtain ⟨b, off, x, rfl, _, hx, _, d0, d1, d2, d3, d4⟩ := Pt_at (hs.below HC) hlt
      have hOx : Below wr.heap.size wr (wr.alloc (.cells (ptA x) 51)) := (Below.refl _ _).alloc (Nat.le_refl _) _
      have HC1 := bl_then HC (Nat.le_refl _) hOx
      have hbx := Bk.new wr 51 (ptA x)
      have x0 := hbx.cell 0
      have x1 := hbx.cell 1
      have x2 := hbx.cell 2
      have x3 := hbx.cell 3
      have x4 := hbx.cell 4
      have hof := nof_any _ len cap L x _ (hlw.below HC1) hn
      have hst : mxI z (reT (needOf L x)) = (ws.take (k + 1)).foldl (fun m a => mxI m (reT (needOf L a))) 0 := by rw [take_snocG ws k x hx, List.foldl_append, ← HZ.out]; rfl
      generalize needOf L x = h at hof hst
      have HOF := Lib.hid hof
      have HST := Lib.hid hst
      have hr := reT_range h
      have hmx := fun (w : World) ts t => run_max_fb (P := Try.prog) (w := w) ts t z (reT h) hz hr
      have hmr := mxI_range z (reT h) hz hr
      clear hx hbx hof hst hs hOx
      go_wp2_with (first
        | (go_at_call 35; refine HOF.out.mono ?_; rintro e w2 ⟨rfl, hb2⟩)
        | (go_at_call 77; refine (does_any h _).mono ?_; rintro e w3 ⟨rfl, hb3⟩))
      go_roundw
      case rel => exact ⟨k + 1, _, by omega, by go_num, rfl, HST, hmr, bl_then (bl_then HC1 (Nat.le_refl _) hb2) (Nat.le_refl _) hb3⟩
      case measure => simp [intOf]; omega
    · obtain rfl : k = ws.length := by omega
      have hfin := HZ.out
      rw [List.take_length, ← HLV.out] at hfin
      have HFI := Lib.hid hfin
      have hcv := fun w => run_fb_int w z hz
      clear hfin hs
      go_wp2
      go_ret
      exact ⟨by rw [← HFI.out]; rfl, bl_then HB1 (Nat.le_refl _) HC⟩
set_option maxRecDepth 100000 in
set_option maxHeartbeats 1000000 in
theorem nwith_any (a : Option Addr) (len cap : Nat) (L : List Lk) (x : Lk) (w : World) (hl : Lks w a len L) (hnil : a = none → len = 0 ∧ cap = 0) (hn : len ≤ 900) :
    Calls Try.prog 55 #[.slice a len cap, .agg #[.int .i64 x.n0, .int .i64 x.n1, .int .i64 x.n2, .int .i64 x.n3, .int .i64 x.dep, .int .i64 x.mode]] w (OwnRet enLk 57 6 w (withT x L)) := by
  have hO : Below w.heap.size w (w.alloc (.cells #[.int .i64 x.n0, .int .i64 x.n1, .int .i64 x.n2, .int .i64 x.n3, .int .i64 x.dep, .int .i64 x.mode] 57)) := (Below.refl _ _).alloc (Nat.le_refl _) _
  have hb := Bk.new w 57 #[.int .i64 x.n0, .int .i64 x.n1, .int .i64 x.n2, .int .i64 x.n3, .int .i64 x.dep, .int .i64 x.mode]
  have hll := hl.len
  have hcl := cloneLk_any a len cap L _ (hl.below hO) hnil (by omega)
  obtain ⟨i0, hi, hz0, hz1, hz2⟩ := info_parts Try.infoLk
  have hfi := fun W (hbb : Below w.heap.size w W) => nfind_any a len cap L (pathOf x) W (hl.below hbb) (by omega)
  have har : ptA (pathOf x) = #[.int .i64 x.n0, .int .i64 x.n1, .int .i64 x.n2, .int .i64 x.n3, .int .i64 x.dep] := rfl
  rw [har] at hfi
  have HC := Lib.hid hcl
  rcases idxB_spec (isAt (pathOf x)) L with ⟨h1, hm⟩ | ⟨k, y, h1, hx, hp, hbf⟩
  · rw [withT_miss x L hm]
    rw [h1] at hfi
    have HF := Lib.hid hfi
    have hret : ∀ v W, W.ownsRow w.heap.size 57 6 v (len + 1) (flatV enLk (L ++ [x])) → Below w.heap.size w W → OwnRet enLk 57 6 w (L ++ [x]) (.returned v) W := fun v W h hb => ⟨v, rfl, by rw [List.length_append, hll]; exact h, hb⟩
    have HRT := Lib.hid hret
    have HLL := Lib.hid hll
    clear hl hnil hcl hfi h1 hm hll har hret
    go_enter Try.func55, Try.ntmps55
    go_wp2_with (first
      | (go_at_call 96; refine HC.out.mono ?_; rintro e w1 ⟨v, rfl, hown, hb1⟩; rw [HLL.out] at hown; have HB1 := bl_then hO (Nat.le_refl _) hb1; have hx1 := hb.below hb1; have e0 := hx1.cell 0; have e1 := hx1.cell 1; have e2 := hx1.cell 2; have e3 := hx1.cell 3; have e4 := hx1.cell 4)
      | (go_at_call 82; refine (HF.out _ HB1).mono ?_; rintro e w2 ⟨rfl, hb2⟩; have HB2 := bl_then HB1 (Nat.le_refl _) hb2; have hx2 := hx1.below hb2; clear e0 e1 e2 e3 e4; have e0 := hx2.cell 0; have e1 := hx2.cell 1; have e2 := hx2.cell 2; have e3 := hx2.cell 3; have e4 := hx2.cell 4; have e5 := hx2.cell 5)
      | (at_builtin; refine wpList_append_one enLk_len (by omega) enLk_one rfl _ _ 48 rfl w.heap.size 57 i0 _ 48 Try.underlying48 hi hz0 hz1 hz2 rfl _ len L rfl (own_below (own_weaken hown (by simp)) hb2) x #[.int .i64 x.n0, .int .i64 x.n1, .int .i64 x.n2, .int .i64 x.n3, .int .i64 x.dep, .int .i64 x.mode] rfl 57 _ rfl rfl (by unfold maxLen; omega) (by omega) HB2 HB2.size ?_; intro v' w3 hown3 HB3 hk3))
    go_ret
    exact HRT.out _ _ hown3 HB3
  · rw [withT_hit x L k y hx hp hbf]
    rw [h1] at hfi
    have HF := Lib.hid hfi
    have hkl : k < len := by rw [← hll]; exact (List.getElem?_eq_some_iff.1 hx).1
    have hret : ∀ v W, W.ownsRow w.heap.size 57 6 v len (flatV enLk (L.set k x)) → Below w.heap.size w W → OwnRet enLk 57 6 w (L.set k x) (.returned v) W := fun v W h hb => ⟨v, rfl, by rw [List.length_set, hll]; exact h, hb⟩
    have HX := Lib.hid hx
    have HRT := Lib.hid hret
    have HLL := Lib.hid hll
    clear hl hnil hcl hfi h1 hp hbf hx hll har hret
    go_enter Try.func55, Try.ntmps55
    go_wp2_with (first
      | (go_at_call 96; refine HC.out.mono ?_; rintro e w1 ⟨v, rfl, hown, hb1⟩; rw [HLL.out] at hown; have HB1 := bl_then hO (Nat.le_refl _) hb1; have hx1 := hb.below hb1; have e0 := hx1.cell 0; have e1 := hx1.cell 1; have e2 := hx1.cell 2; have e3 := hx1.cell 3; have e4 := hx1.cell 4; obtain ⟨hv, cp, rfl, hrw, hbh⟩ := row_of hown (by omega) HLL.out)
      | (go_at_call 82; refine (HF.out _ HB1).mono ?_; rintro e w2 ⟨rfl, hb2⟩; have HB2 := bl_then HB1 (Nat.le_refl _) hb2; have hx2 := hx1.below hb2; clear e0 e1 e2 e3 e4; have e0 := hx2.cell 0; have e1 := hx2.cell 1; have e2 := hx2.cell 2; have e3 := hx2.cell 3; have e4 := hx2.cell 4; have e5 := hx2.cell 5; have hr2 := hrw.keep (Keep.of_below hb2 (fun _ => False)) (fun h => h); obtain ⟨g0, g1, g2, g3, g4, g5⟩ := Lk_row hr2 HX.out; have f0 := hr2.frozen (k * 6); have f1 := hr2.frozen (k * 6 + 1); have f2 := hr2.frozen (k * 6 + 2); have f3 := hr2.frozen (k * 6 + 3); have f4 := hr2.frozen (k * 6 + 4); have f5 := hr2.frozen (k * 6 + 5); clear hown hrw))
    have hr3 := hr2.stored enLk_len (by rw [HLL.out]; exact hkl) x
    have hwh : w.heap.size ≤ hv := by simp at hbh; omega
    have ho3 := hr3.own enLk_len hwh
    rw [List.length_set, HLL.out] at ho3
    have hK : Keep (fun i => i = hv) w2 (setsFrom w2 hv (k * 6) (enLk x)) := Keep.trans (Keep.trans (Keep.trans (Keep.trans (Keep.trans (Keep.set _ _ _ _ _ rfl) (Keep.set _ _ _ _ _ rfl)) (Keep.set _ _ _ _ _ rfl)) (Keep.set _ _ _ _ _ rfl)) (Keep.set _ _ _ _ _ rfl)) (Keep.set _ _ _ _ _ rfl)
    go_ret
    exact HRT.out _ _ ho3 (bl_keep HB2 hK (fun i hi => by rw [hi]; exact hwh))
end Go.Proofs.Ythkjkmjcnphjgaa
