/- The statement StoreLast: its walk. No condition. -/
import Derived.Test.YtjbhlckdaghppaaStG
set_option linter.unusedVariables false
set_option linter.unusedSimpArgs false
namespace Go.Proofs.Ytjbhlckdaghppaa
open Go.RowKit (wrap32 wrap64)
open Go.RowKit Go.Shelf Go.Sort Go.Lib
theorem getE_put {E : List Cl} {K : Nat} (h : OkE E K) (q : Pt) (v : Int) (p : Pt) : getE (putT E q v).E p = if okSet q v = true ∧ q = p then (v, (getE E p).2 + 1) else getE E p := by
  unfold putT
  by_cases g : okSet q v = true
  · have hm : mayP q = true := by
      unfold okSet at g
      simp only [Bool.and_eq_true] at g
      exact g.1
    rw [if_pos g]
    show getE (setE E q v) p = _
    rw [set_get h hm]
    by_cases e : p = q
    · rw [if_pos e, if_pos ⟨g, e.symm⟩, e]
    · rw [if_neg e, if_neg (fun h => e h.2.symm)]
  · rw [if_neg g, if_neg (fun h => g h.1)]
def pt1 : Pt := ⟨1, 1, 1, 1, 4⟩
theorem put1 : putT [] pt1 5 = ⟨0, 0, [⟨pt1, 5, 1⟩]⟩ := by unfold putT; rw [if_pos (by decide +kernel)]; rfl
theorem ok0 : OkE [] 0 := ⟨by simp, by simp, by simp, by simp⟩
theorem awake20 (w : World) : Calls Try.prog 9 #[] w fun e w' => e = .returned (.bool true) ∧ Below w.heap.size w w' := by
  have hok : okPt pt1 := by decide
  have HOK := Lib.hid hok
  have HOE := Lib.hid (putT_ok ok0 hok 5)
  rw [put1] at HOE
  have g1 : (getE [⟨pt1, 5, 1⟩] pt1).1 = 5 := by decide +kernel
  have g2 : (goodsE [⟨pt1, 5, 1⟩] mayP).length = 1 := by decide +kernel
  have HG1 := Lib.hid g1
  have HG2 := Lib.hid g2
  clear hok g1 g2
  go_enter Try.func9, Try.ntmps9
  go_wp2_with (go_at_call 10; refine (stnew_any _).mono ?_; rintro e w1 ⟨s, b, rfl, hO, hs, hb, hsb, hb1⟩)
  have al := (Below.refl w1.heap.size w1).alloc (Nat.le_refl _) (PB pt1)
  have hx := Bk.new w1 25 (ptA pt1)
  have hO2 := hO.below al
  have HB2 := Lib.hid (bl_then hb1 (Nat.le_refl _) al)
  have HS := Lib.hid (And.intro hs (And.intro hb hsb))
  have x0 := hx.cell 0
  have x1 := hx.cell 1
  have x2 := hx.cell 2
  have x3 := hx.cell 3
  have x4 := hx.cell 4
  have HX := Lib.hid hx
  have HW := Lib.hid (fun W1 (hO : StO W1 s b []) => stset_any s b [] 0 pt1 5 HOK.out W1 hO ok0 (by omega) hsb)
  rw [put1] at HW
  have hlt := hO.mp.lt
  clear hO hs hb hsb hb1 al hx
  have HO2 := Lib.hid hO2
  clear hO2
  go_wp2_with fail
  refine (HW.out _ HO2.out).mono ?_
  rintro e w3 ⟨rfl, hO3, k3⟩
  have hx3 := k3.bk HX.out (show ¬ w1.heap.size = b by omega)
  have y0 := hx3.cell 0
  have y1 := hx3.cell 1
  have y2 := hx3.cell 2
  have y3 := hx3.cell 3
  have y4 := hx3.cell 4
  have HB3 := Lib.hid (bl_keep HB2.out k3 (fun i hi => by rw [hi]; exact HS.out.2.1))
  have HGE := Lib.hid (stget_any s b _ pt1 HOK.out w3 hO3)
  rw [HG1.out] at HGE
  have HRO := Lib.hid (fun W1 (hb : Below w3.heap.size w3 W1) => strows_any s b _ 1 W1 (hO3.below hb) HOE.out (by omega))
  clear x0 x1 x2 x3 x4 k3 hO3 hx3
  go_wp2_with (first
    | (go_at_call 12; refine HGE.out.mono ?_; rintro e w4 ⟨rfl, hb4⟩)
    | (go_at_call 20; refine (HRO.out _ hb4).mono ?_; rintro e w5 ⟨v, rfl, ho, hb5⟩; rw [HG2.out] at ho; obtain ⟨A, c, rfl⟩ := own_slice ho))
  go_ret
  exact ⟨rfl, bl_then HB3.out (Nat.le_refl _) (bl_then hb4 (Nat.le_refl _) hb5)⟩
set_option maxRecDepth 100000 in
set_option maxHeartbeats 4000000 in
theorem storeLast_walk (a : Option Addr) (len cap : Nat) (css : List (List Value)) (p : Pt) (w : World) (hf : FlatRow w ksRw a len cap css) (hp : okPt p) :
    Calls Try.prog 3 #[.slice a len cap, .agg (ptA p)] w fun e w' => e = .returned (.bool true) ∧ Below w.heap.size w w' := by
  obtain ⟨L, hl, hcap, hcm, hnil⟩ := SR.flat (ks := ksRw) (enc := enRw) (ok := okRw) (s := 6) rfl (by omega) enRw_len decRw hf
  clear hf hnil
  have a1 := (Below.refl w.heap.size w).alloc (Nat.le_refl _) (PB p)
  have b1 := Bk.new w 25 (ptA p)
  by_cases hmany : (60 : Int) < len
  · clear hl hcap hcm b1
    go_enter Try.func3, Try.ntmps3
    go_wp2_with (go_at_call 9; refine (awake20 _).mono ?_; rintro e w1 ⟨rfl, hb1⟩)
    go_ret
    exact ⟨rfl, bl_then a1 (Nat.le_refl _) hb1⟩
  have hfew : ¬ ((len : Int) > 60) := hmany
  have hle : len ≤ 60 := by omega
  have hcm' : cap ≤ 9223372036854775807 := by unfold maxLen at hcm; exact hcm
  have HL := Lib.hid hl
  have HBX := Lib.hid b1
  clear hmany hcm hl b1
  go_enter Try.func3, Try.ntmps3
  go_wp2_with (first
    | (go_at_call 9; refine (awake20 _).mono ?_; rintro e w1 ⟨rfl, hb1⟩)
    | (go_at_call 10; refine (stnew_any _).mono ?_; rintro e w2 ⟨s, b, rfl, hO, hs, hb, hsb, hb2⟩))
  have hb12 := bl_then a1 (Nat.le_refl _) hb1
  have hB2 := bl_then hb12 (Nat.le_refl _) hb2
  have hBX2 := HBX.out.below (bl_then hb1 (Nat.le_refl _) hb2)
  have hss : w.heap.size ≤ s := Nat.le_trans hb12.size hs
  have hbb : w.heap.size < b := by have h1 := hb1.size; rw [World.size_alloc] at h1; omega
  clear hb1 hb2 hb12 hs hb a1
  go_loopw [6, 7, 20] (fun v6 v7 c wr => ∃ (k : Nat) (E : List Cl), k ≤ len ∧ c = .int .i64 k ∧ v6 = .int .i64 (getE E p).1 ∧ v7 = .int .i64 (getE E p).2 ∧ StO wr s b E ∧ OkE E k ∧ Bk wr w.heap.size 25 (ptA p) ∧ Below w.heap.size w wr) (fun _ _ c _ => len - (intOf c).toNat)
  case atStart => exact ⟨0, [], by omega, rfl, rfl, rfl, hO, ok0, hBX2, hB2⟩
  case round =>
    clear hO hBX2 hB2
    obtain ⟨k, E, hk, rfl, rfl, rfl, hO, hE, hBX, HB⟩ := hrel
    by_cases hlt : k < len
    · obtain ⟨b0, off, x, rfl, _, hx, hokx, d0, d1, d2, d3, d4, d5⟩ := Rw_at (HL.out.below HB) hlt
      have al := (Below.refl wr.heap.size wr).alloc (Nat.le_refl _) (.cells #[.int .i64 x.n0, .int .i64 x.n1, .int .i64 x.n2, .int .i64 x.n3, .int .i64 x.dep, .int .i64 x.val] 30)
      have hbx := Bk.new wr 30 #[.int .i64 x.n0, .int .i64 x.n1, .int .i64 x.n2, .int .i64 x.n3, .int .i64 x.dep, .int .i64 x.val]
      have hokp : okPt (rwP x) := ⟨hokx.1, hokx.2.1, hokx.2.2.1, hokx.2.2.2.1, hokx.2.2.2.2.1⟩
      have HW := Lib.hid (stset_any s b E k (rwP x) x.val hokp _ (hO.below al) hE (by omega) hsb)
      have hpk := putT_ok hE hokp x.val
      have hgp := getE_put hE (rwP x) x.val p
      have hcn := get_cnt hE p
      have hpe : (putT E (rwP x) x.val).e = if okSet (rwP x) x.val = true then 0 else 1 := by unfold putT; split <;> rfl
      have hlb := hO.mp.lt
      have HBX2 := Lib.hid (hBX.below al)
      have HBR := Lib.hid hbx
      have HB2 := Lib.hid (bl_then HB (Nat.le_refl _) al)
      have q0 := hbx.cell 0
      have q1 := hbx.cell 1
      have q2 := hbx.cell 2
      have q3 := hbx.cell 3
      have q4 := hbx.cell 4
      have q5 := hbx.cell 5
      have HEQ := Lib.hid (fun w => eqlPt (rwP x) p w)
      generalize putT E (rwP x) x.val = R at HW hpk hgp hpe
      have HPK := Lib.hid hpk
      generalize getE E p = g0 at hgp hcn ⊢
      obtain ⟨ga, gb⟩ := g0
      dsimp only at hgp hcn ⊢
      clear al hbx hx hokx hokp hO hE hBX HB hpk
      go_wp2_with fail
      refine HW.out.mono ?_
      rintro e w4 ⟨rfl, hO4, k4⟩
      have hx4 := k4.bk HBR.out (show ¬ wr.heap.size = b by omega)
      have hp4 := k4.bk HBX2.out (show ¬ w.heap.size = b by omega)
      have z0 := hx4.cell 0
      have z1 := hx4.cell 1
      have z2 := hx4.cell 2
      have z3 := hx4.cell 3
      have z4 := hx4.cell 4
      have z5 := hx4.cell 5
      have y0 := hp4.cell 0
      have y1 := hp4.cell 1
      have y2 := hp4.cell 2
      have y3 := hp4.cell 3
      have y4 := hp4.cell 4
      have HO4 := Lib.hid hO4
      have HP4 := Lib.hid hp4
      have HB4 := Lib.hid (bl_keep HB2.out k4 (fun i hi => by rw [hi]; exact Nat.le_of_lt hbb))
      have HGP := Lib.hid hgp
      clear q0 q1 q2 q3 q4 q5 d0 d1 d2 d3 d4 d5 k4 hx4 hp4 hO4 hgp HW HBX2 HBR
      by_cases g1 : okSet (rwP x) x.val = true
      · rw [if_pos g1] at hpe
        rw [hpe]
        clear hpe
        have h4 : ∀ w, (Op.equalIn 9999 23 (.agg #[.int .i64 x.n0, .int .i64 x.n1, .int .i64 x.n2, .int .i64 x.n3]) (.agg #[.int .i64 p.n0, .int .i64 p.n1, .int .i64 p.n2, .int .i64 p.n3])).run Try.prog w = .ok (decide (x.n0 = p.n0 ∧ x.n1 = p.n1 ∧ x.n2 = p.n2 ∧ x.n3 = p.n3)) w := fun w => eqN4Pt 9997 x.n0 x.n1 x.n2 x.n3 p.n0 p.n1 p.n2 p.n3 w
        by_cases a4 : x.n0 = p.n0 ∧ x.n1 = p.n1 ∧ x.n2 = p.n2 ∧ x.n3 = p.n3
        · rw [decide_eq_true a4] at h4
          by_cases a5 : x.dep = p.dep
          · have g2 : rwP x = p := by
              obtain ⟨e0, e1, e2, e3⟩ := a4
              unfold rwP
              rw [e0, e1, e2, e3, a5]
            have a6 : (x.dep == p.dep) = true := by simp [a5]
            have hw1 : IntKind.i64.wrap (gb + 1) = gb + 1 := by rw [IntKind.wrap_i64] <;> omega
            have HG := Lib.hid (show getE R.E p = (x.val, gb + 1) by rw [HGP.out, if_pos ⟨g1, g2⟩])
            clear g1 g2 HEQ hcn HGP a4 a5
            go_wp2
            go_roundw
            case rel => exact ⟨k + 1, R.E, by omega, by go_num, by rw [HG.out], by rw [HG.out], HO4.out, HPK.out, HP4.out, HB4.out⟩
            case measure => simp [intOf]; omega
          · have g2 : rwP x ≠ p := fun e => a5 (by rw [← e]; rfl)
            have a6 : (x.dep == p.dep) = false := by simp [a5]
            have HG := Lib.hid (show getE R.E p = (ga, gb) by rw [HGP.out, if_neg (fun h => g2 h.2)])
            clear g1 g2 HEQ hcn HGP a4 a5
            go_wp2
            go_roundw
            case rel => exact ⟨k + 1, R.E, by omega, by go_num, by rw [HG.out], by rw [HG.out], HO4.out, HPK.out, HP4.out, HB4.out⟩
            case measure => simp [intOf]; omega
        · rw [decide_eq_false a4] at h4
          have g2 : rwP x ≠ p := fun e => a4 (by rw [← e]; exact ⟨rfl, rfl, rfl, rfl⟩)
          have HG := Lib.hid (show getE R.E p = (ga, gb) by rw [HGP.out, if_neg (fun h => g2 h.2)])
          clear g1 g2 HEQ hcn HGP a4
          go_wp2
          go_roundw
          case rel => exact ⟨k + 1, R.E, by omega, by go_num, by rw [HG.out], by rw [HG.out], HO4.out, HPK.out, HP4.out, HB4.out⟩
          case measure => simp [intOf]; omega
      · rw [if_neg g1] at hpe
        rw [hpe]
        have HG := Lib.hid (show getE R.E p = (ga, gb) by rw [HGP.out, if_neg (fun h => g1 h.1)])
        clear hpe g1 HEQ hcn HGP
        go_wp2
        go_roundw
        case rel => exact ⟨k + 1, R.E, by omega, by go_num, by rw [HG.out], by rw [HG.out], HO4.out, HPK.out, HP4.out, HB4.out⟩
        case measure => simp [intOf]; omega
    · obtain rfl : k = len := by omega
      have HGE := Lib.hid (stget_any s b E p hp wr hO)
      have HCO := Lib.hid (fun W1 (hb : Below wr.heap.size wr W1) => stcount_any s b E p hp W1 (hO.below hb))
      have y0 := hBX.cell 0
      have y1 := hBX.cell 1
      have y2 := hBX.cell 2
      have y3 := hBX.cell 3
      have y4 := hBX.cell 4
      generalize getE E p = g0 at HGE HCO ⊢
      obtain ⟨ga, gb⟩ := g0
      dsimp only at HGE HCO ⊢
      have HBX5 := Lib.hid hBX
      clear hO hE hBX
      go_wp2_with (first
        | (go_at_call 12; refine HGE.out.mono ?_; rintro e w4 ⟨rfl, hb4⟩; have hk4 := HBX5.out.below hb4; have z0 := hk4.cell 0; have z1 := hk4.cell 1; have z2 := hk4.cell 2; have z3 := hk4.cell 3; have z4 := hk4.cell 4; clear y0 y1 y2 y3 y4)
        | (go_at_call 13; refine (HCO.out _ hb4).mono ?_; rintro e w5 ⟨rfl, hb5⟩))
      go_ret
      exact ⟨rfl, bl_then HB (Nat.le_refl _) (bl_then hb4 (Nat.le_refl _) hb5)⟩
end Go.Proofs.Ytjbhlckdaghppaa
