/- The statement StoreDoes: its walk. No condition. -/
import Derived.Test.YtjbhlckdaghppaaStP
import Derived.Test.YtjbhlckdaghppaaStQ
import Derived.Test.YtjbhlckdaghppaaStJ
import Derived.Deep.RegionHeld3
import Derived.Lib.QuietBelow
set_option linter.unusedVariables false
set_option linter.unusedSimpArgs false
namespace Go.Proofs.Ytjbhlckdaghppaa
open Go.RowKit (wrap32 wrap64)
open Go.RowKit Go.Shelf Go.Sort Go.Lib
/-- The two stores, side by side: the program's lies below the reference's. -/
structure Two (w : World) (s b x : Nat) (vL vC : Value) (E : List Cl) (K : Nat) : Prop where
  so : StO w s b E
  rf : RfO w x vL vC E
  ok : OkE E K
  sb : s ≠ b
  sx : s < x
  bx : b < x
theorem Two.below {w w1 : World} {s b x : Nat} {vL vC : Value} {E : List Cl} {K : Nat} (h : Two w s b x vL vC E K) (k : Below w.heap.size w w1) : Two w1 s b x vL vC E K := ⟨h.so.below k, h.rf.below k, h.ok, h.sb, h.sx, h.bx⟩
theorem Two.setS {w w1 : World} {s b x : Nat} {vL vC : Value} {E E' : List Cl} {K : Nat} (h : Two w s b x vL vC E K) (hs : StO w1 s b E') (k : Keep (fun i => i = b) w w1) : RfO w1 x vL vC E := h.rf.keep k (fun i hi e => by have := (h.rf.lt_of hi).1; have := h.bx; omega)
theorem Two.setR {w w1 w2 : World} {s b x : Nat} {vL vC vL' vC' : Value} {E E' : List Cl} {K : Nat} (h : Two w s b x vL vC E K) (hs : StO w1 s b E') (hr : RfO w1 x vL vC E) (k : Keep (RS x vL vC) w1 w2) (hr2 : RfO w2 x vL' vC' E') (ho : OkE E' (K + 1)) : Two w2 s b x vL' vC' E' (K + 1) :=
  ⟨hs.keep k (fun e => by have := (hr.lt_of e).1; have := h.sx; omega) (fun e => by have := (hr.lt_of e).1; have := h.bx; omega), hr2, ho, h.sb, h.sx, h.bx⟩
def BW (x : Rw) : Obj := .cells #[.int .i64 x.n0, .int .i64 x.n1, .int .i64 x.n2, .int .i64 x.n3, .int .i64 x.dep, .int .i64 x.val] 30
set_option maxRecDepth 100000 in
set_option maxHeartbeats 8000000 in
theorem storeDoes_walk (a : Option Addr) (len cap : Nat) (css : List (List Value)) (p : Pt) (w : World) (hf : FlatRow w ksRw a len cap css) (hp : okPt p) :
    Calls Try.prog 4 #[.slice a len cap, .agg (ptA p)] w fun e w' => e = .returned (.bool true) ∧ Below w.heap.size w w' := by
  obtain ⟨L, hl, hcap, hcm, hnil⟩ := SR.flat (ks := ksRw) (enc := enRw) (ok := okRw) (s := 6) rfl (by omega) enRw_len decRw hf
  clear hf hnil
  have a1 := (Below.refl w.heap.size w).alloc (Nat.le_refl _) (PB p)
  have b1 := Bk.new w 25 (ptA p)
  by_cases hmany : (60 : Int) < len
  · clear hl hcap hcm b1
    go_enter Try.func4, Try.ntmps4
    go_wp2_with (go_at_call 9; refine (awake20 _).mono ?_; rintro e w1 ⟨rfl, hb1⟩)
    go_ret
    exact ⟨rfl, bl_then a1 (Nat.le_refl _) hb1⟩
  have hfew : ¬ ((len : Int) > 60) := hmany
  have hle : len ≤ 60 := by omega
  have hcm' : cap ≤ 9223372036854775807 := by unfold maxLen at hcm; exact hcm
  have HL := Lib.hid hl
  have HBX := Lib.hid b1
  clear hmany hcm hl b1
  go_enter Try.func4, Try.ntmps4
  go_wp2_with (first
    | (go_at_call 9; refine (awake20 _).mono ?_; rintro e w1 ⟨rfl, hb1⟩)
    | (go_at_call 10; refine (stnew_any _).mono ?_; rintro e w2 ⟨s, b, rfl, hO, hs, hb, hsb, hb2⟩))
  have hb12 := bl_then a1 (Nat.le_refl _) hb1
  have hBX2 := HBX.out.below (bl_then hb1 (Nat.le_refl _) hb2)
  have al2 := (Below.refl w2.heap.size w2).alloc (Nat.le_refl _) (.cells #[.slice none 0 0, .slice none 0 0] 39)
  have hB2 := bl_then (bl_then hb12 (Nat.le_refl _) hb2) (Nat.le_refl _) al2
  have hT2 : Two (w2.alloc (.cells #[.slice none 0 0, .slice none 0 0] 39)) s b w2.heap.size (.slice none 0 0) (.slice none 0 0) [] 0 := ⟨hO.below al2, RfO.start w2, ok0, hsb, hO.bk.lt, hO.mp.lt⟩
  have hBX3 := hBX2.below al2
  have hbb : w.heap.size < b := by have h1 := hb1.size; rw [World.size_alloc] at h1; omega
  have hss : w.heap.size < s := by have h1 := hb1.size; rw [World.size_alloc] at h1; omega
  have hxw : w.heap.size < w2.heap.size := hBX2.lt
  clear hb1 hb2 hb12 hs hb a1 hO hBX2 al2 hsb
  generalize w2.alloc (.cells #[.slice none 0 0, .slice none 0 0] 39) = w3 at hB2 hT2 hBX3 ⊢
  generalize w2.heap.size = x at hT2 hxw ⊢
  go_loopw [23] (fun c wr => ∃ (k : Nat) (vL vC : Value) (E : List Cl), k ≤ len ∧ c = .int .i64 k ∧ Two wr s b x vL vC E k ∧ Bk wr w.heap.size 25 (ptA p) ∧ Below w.heap.size w wr) (fun c _ => len - (intOf c).toNat)
  case atStart => exact ⟨0, _, _, [], by omega, rfl, hT2, hBX3, hB2⟩
  case round =>
    clear hT2 hBX3 hB2
    obtain ⟨k, vL, vC, E, hk, rfl, hT, hBX, HB⟩ := hrel
    by_cases hlt : k < len
    · obtain ⟨b0, off, y, rfl, _, hy, hoky, d0, d1, d2, d3, d4, d5⟩ := Rw_at (HL.out.below HB) hlt
      have al := (Below.refl wr.heap.size wr).alloc (Nat.le_refl _) (BW y)
      have hby := Bk.new wr 30 #[.int .i64 y.n0, .int .i64 y.n1, .int .i64 y.n2, .int .i64 y.n3, .int .i64 y.dep, .int .i64 y.val]
      have hokp : okPt (rwP y) := ⟨hoky.1, hoky.2.1, hoky.2.2.1, hoky.2.2.2.1, hoky.2.2.2.2.1⟩
      have hT1 := hT.below al
      have HW := Lib.hid (stset_any s b E k (rwP y) y.val hokp _ hT1.so hT1.ok (by omega) hT1.sb)
      have HR := Lib.hid (fun W1 (hr : RfO W1 x vL vC E) => rset_any x vL vC E k (rwP y) y.val W1 hr hT1.ok (by omega))
      have hpk := putT_ok hT1.ok hokp y.val
      have HBX1 := Lib.hid (hBX.below al)
      have HBY := Lib.hid hby
      have HB1 := Lib.hid (bl_then HB (Nat.le_refl _) al)
      have hbr : b < wr.heap.size := hT.so.mp.lt
      have HNE : Hid (¬ RS x vL vC wr.heap.size) := Lib.hid (fun e => Nat.lt_irrefl _ (hT.rf.lt_of e).2)
      have q0 := hby.cell 0
      have q1 := hby.cell 1
      have q2 := hby.cell 2
      have q3 := hby.cell 3
      have q4 := hby.cell 4
      have q5 := hby.cell 5
      have HT1 := Lib.hid hT1
      have HOKP := Lib.hid hokp
      generalize putT E (rwP y) y.val = R at HW HR hpk
      obtain ⟨ra, re, rE⟩ := R
      dsimp only at HW HR hpk
      have HPK := Lib.hid hpk
      clear al hby hy hoky hT hT1 hBX HB hpk hokp
      go_wp2_with fail
      refine HW.out.mono ?_
      rintro e w4 ⟨rfl, hO4, k4⟩
      have hR4 := HT1.out.setS hO4 k4
      have hy4 := k4.bk HBY.out (show ¬ wr.heap.size = b by omega)
      have hp4 := k4.bk HBX1.out (show ¬ w.heap.size = b by omega)
      have hB4 := bl_keep HB1.out k4 (fun i hi => by rw [hi]; exact Nat.le_of_lt hbb)
      have HR4 := Lib.hid hR4
      have HO4 := Lib.hid hO4
      have HY4 := Lib.hid hy4
      have HP4 := Lib.hid hp4
      have HB4 := Lib.hid hB4
      have z0 := hy4.cell 0
      have z1 := hy4.cell 1
      have z2 := hy4.cell 2
      have z3 := hy4.cell 3
      have z4 := hy4.cell 4
      have z5 := hy4.cell 5
      clear hR4 hO4 hy4 hp4 hB4 k4 HW q0 q1 q2 q3 q4 q5 d0 d1 d2 d3 d4 d5
      go_wp2_with fail
      refine (HR.out _ HR4.out).mono ?_
      rintro e w5 ⟨vL', vC', rfl, hR5, k5, _⟩
      have hT5 := HT1.out.setR HO4.out HR4.out k5 hR5 HPK.out
      have hy5 := k5.bk HY4.out HNE.out
      have hp5 := k5.bk HP4.out (fun e => by have := (HR4.out.lt_of e).1; omega)
      have hB5 := bl_keep HB4.out k5 (fun i hi => by have := (HR4.out.lt_of hi).1; omega)
      have hG1 := fun dq osq => stget_any s b rE (rwP y) HOKP.out (grow (redrawn w5 dq) osq) (hT5.so.below (below_regrown w5 dq osq))
      have hG2 := fun dq osq => rget_any x vL' vC' rE (k + 1) (rwP y) (grow (redrawn w5 dq) osq) (hT5.rf.below (below_regrown w5 dq osq)) hT5.ok (by omega)
      have hG3 := fun dq osq => stcount_any s b rE (rwP y) HOKP.out (grow (redrawn w5 dq) osq) (hT5.so.below (below_regrown w5 dq osq))
      have hG4 := fun dq osq => rtimes_any x vL' vC' rE (k + 1) (rwP y) (grow (redrawn w5 dq) osq) (hT5.rf.below (below_regrown w5 dq osq)) hT5.ok (by omega)
      generalize getE rE (rwP y) = gg at hG1 hG2 hG3 hG4
      obtain ⟨ga, gb⟩ := gg
      dsimp only at hG1 hG2 hG3 hG4
      have HG1 := Lib.hid hG1
      have HG2 := Lib.hid hG2
      have HG3 := Lib.hid hG3
      have HG4 := Lib.hid hG4
      have y0 := fun dq osq => cell_regrown (v := .int .i64 y.n0) (hy5.cell 0) dq osq
      have y1 := fun dq osq => cell_regrown (v := .int .i64 y.n1) (hy5.cell 1) dq osq
      have y2 := fun dq osq => cell_regrown (v := .int .i64 y.n2) (hy5.cell 2) dq osq
      have y3 := fun dq osq => cell_regrown (v := .int .i64 y.n3) (hy5.cell 3) dq osq
      have y4 := fun dq osq => cell_regrown (v := .int .i64 y.dep) (hy5.cell 4) dq osq
      have HT5 := Lib.hid hT5
      have HP5 := Lib.hid hp5
      have HB5 := Lib.hid hB5
      clear hG1 hG2 hG3 hG4 hT5 hp5 hB5 hR5 k5 hy5 z0 z1 z2 z3 z4 z5
      go_wp2_with fail
      refine wp_region_quiet_below (by kernel_rfl) (by kernel_rfl) ?_
      repeat (go_big_quiet_step (first
        | (go_at_call 12; exact Calls.regrown_of (HG1.out _ _))
        | (go_at_call 15; exact Calls.regrown_of (HG2.out _ _))
        | (go_at_call 13; exact Calls.regrown_of (HG3.out _ _))
        | (go_at_call 16; exact Calls.regrown_of (HG4.out _ _))))
      refine wpQuiet_nil ?_
      intro _ hw'
      obtain ⟨⟨dq, osq⟩, hw''⟩ := hw'
      subst hw''
      go_wp2
      go_roundw
      case rel => exact ⟨k + 1, vL', vC', rE, by omega, by go_num, HT5.out.below (below_regrown w5 dq osq), HP5.out.below (below_regrown w5 dq osq), bl_then HB5.out (Nat.le_refl _) (below_regrown w5 dq osq)⟩
      case measure => simp [intOf]; omega
    · obtain rfl : k = len := by omega
      have HUN := Lib.hid (fun W1 (hb : Below wr.heap.size wr W1) => stunder_any s b E k p W1 (hT.so.below hb) hT.ok (by omega))
      have HUR := Lib.hid (fun W1 (hb : Below wr.heap.size wr W1) => runder_any x vL vC E k p W1 (hT.rf.below hb) hT.ok (by omega))
      have HRO := Lib.hid (fun W1 (hb : Below wr.heap.size wr W1) => strows_any s b E k W1 (hT.so.below hb) hT.ok (by omega))
      have HRR := Lib.hid (fun W1 (hb : Below wr.heap.size wr W1) => rrows_any x vL vC E k W1 (hT.rf.below hb) hT.ok (by omega))
      have hGE := fun W1 (hb : Below wr.heap.size wr W1) => stget_any s b E p hp W1 (hT.so.below hb)
      have hGR := fun W1 (hb : Below wr.heap.size wr W1) => rget_any x vL vC E k p W1 (hT.rf.below hb) hT.ok (by omega)
      have HSL := Lib.hid (fun W1 (hb : Below wr.heap.size wr W1) => (HL.out.below HB).below hb)
      have HOKW := Lib.hid (goods_ok hT.ok (fun q => withinP q p))
      have HOKR := Lib.hid (goods_ok hT.ok mayP)
      generalize (getE E p).1 = gv at hGE hGR
      have HGE := Lib.hid hGE
      have HGR := Lib.hid hGR
      obtain ⟨bb, hbb2⟩ : ∃ bb, bb = decide (L = goodsE E mayP) := ⟨_, rfl⟩
      have HBB := Lib.hid hbb2
      have HBX5 := Lib.hid hBX
      have HBE := Lib.hid HB
      have y0 := hBX.cell 0
      have y1 := hBX.cell 1
      have y2 := hBX.cell 2
      have y3 := hBX.cell 3
      have y4 := hBX.cell 4
      have hr9 := Below.refl wr.heap.size wr
      have hd9 := below_drew wr
      have M1 : True := trivial
      have M2 : True := trivial
      have M3 : True := trivial
      have M4 : True := trivial
      have M5 : True := trivial
      clear hT hGE hGR hBX HB hbb2
      go_wp2_with fail
      go_region_held3 (fun w' => w'.cell? ⟨w.heap.size, 0, none⟩ = some (.int .i64 p.n0) ∧ w'.cell? ⟨w.heap.size, 1, none⟩ = some (.int .i64 p.n1) ∧ w'.cell? ⟨w.heap.size, 2, none⟩ = some (.int .i64 p.n2) ∧ w'.cell? ⟨w.heap.size, 3, none⟩ = some (.int .i64 p.n3) ∧ w'.cell? ⟨w.heap.size, 4, none⟩ = some (.int .i64 p.dep))
        (first | exact ⟨(HBX5.out.below (by assumption)).cell 0, (HBX5.out.below (by assumption)).cell 1, (HBX5.out.below (by assumption)).cell 2, (HBX5.out.below (by assumption)).cell 3, (HBX5.out.below (by assumption)).cell 4⟩)
        (first
          | (go_at_call 18; refine (HUN.out _ (by assumption)).mono ?_; rintro e w5 ⟨v5, rfl, hown5, hb5⟩; obtain ⟨A5, c5, rfl, hs5, _, _⟩ := SR.own (ok := okRw) enRw_len (by omega) hown5 HOKW.out; clear hown5; have hB5 : Below wr.heap.size wr w5 := bl_then (by assumption) (Nat.le_refl _) hb5)
          | (go_at_call 19; refine (HUR.out _ (by assumption)).mono ?_; rintro e w6 ⟨v6, rfl, hown6, hb6⟩; obtain ⟨A6, c6, rfl, hs6, _, _⟩ := SR.own (ok := okRw) enRw_len (by omega) hown6 HOKW.out; clear hown6; have hB6 : Below wr.heap.size wr w6 := bl_then (by assumption) (Nat.le_refl _) hb6; have hs56 := hs5.below hb6)
          | (go_at_call 17; (have m_ := M1; clear M1 m_); refine (sameRw_yes _ _ _ _ _ _ _ _ hs56 hs6).mono ?_; rintro e w7 ⟨rfl, hb7⟩; have hB7 : Below wr.heap.size wr w7 := bl_then (by assumption) (Nat.le_refl _) hb7)
          | (go_at_call 20; (have m_ := M2; clear M2 m_); refine (HRO.out _ (by assumption)).mono ?_; rintro e w8 ⟨v8, rfl, hown8, hb8⟩; obtain ⟨A8, c8, rfl, hs8, _, _⟩ := SR.own (ok := okRw) enRw_len (by omega) hown8 HOKR.out; clear hown8; have hB8 : Below wr.heap.size wr w8 := bl_then (by assumption) (Nat.le_refl _) hb8)
          | (go_at_call 21; (have m_ := M3; clear M3 m_); refine (HRR.out _ (by assumption)).mono ?_; rintro e w9 ⟨v9, rfl, hown9, hb9⟩; obtain ⟨A9, c9, rfl, hs9, _, _⟩ := SR.own (ok := okRw) enRw_len (by omega) hown9 HOKR.out; clear hown9; have hB9 : Below wr.heap.size wr w9 := bl_then (by assumption) (Nat.le_refl _) hb9; have hs89 := hs8.below hb9)
          | (go_at_call 17; (have m_ := M4; clear M4 m_); refine (sameRw_yes _ _ _ _ _ _ _ _ hs89 hs9).mono ?_; rintro e w10 ⟨rfl, hb10⟩; have hB10 : Below wr.heap.size wr w10 := bl_then (by assumption) (Nat.le_refl _) hb10)
          | (go_at_call 12; refine (HGE.out _ (by assumption)).mono ?_; rintro e w11 ⟨rfl, hb11⟩; have hB11 : Below wr.heap.size wr w11 := bl_then (by assumption) (Nat.le_refl _) hb11)
          | (go_at_call 15; refine (HGR.out _ (by assumption)).mono ?_; rintro e w12 ⟨rfl, hb12⟩; have hB12 : Below wr.heap.size wr w12 := bl_then (by assumption) (Nat.le_refl _) hb12)
          | (go_at_call 22; (have m_ := M5; clear M5 m_); refine (same_any _ _ _ _ _ _ _ _ _ (HSL.out _ (by assumption)) (HSL.out _ (by assumption))).mono ?_; rintro e w13 ⟨rfl, hb13⟩; have hB13 : Below wr.heap.size wr w13 := bl_then (by assumption) (Nat.le_refl _) hb13; rw [decide_eq_true rfl])
          | (go_at_call 20; refine (HRO.out _ (by assumption)).mono ?_; rintro e w14 ⟨v14, rfl, hown14, hb14⟩; obtain ⟨A14, c14, rfl, hs14, _, _⟩ := SR.own (ok := okRw) enRw_len (by omega) hown14 HOKR.out; clear hown14; have hB14 : Below wr.heap.size wr w14 := bl_then (by assumption) (Nat.le_refl _) hb14)
          | (go_at_call 22; refine (same_any _ _ _ _ _ _ _ _ _ (HSL.out _ (by assumption)) hs14).mono ?_; rintro e w15 ⟨rfl, hb15⟩; have hB15 : Below wr.heap.size wr w15 := bl_then (by assumption) (Nat.le_refl _) hb15; rw [← HBB.out])
          | (go_at_call 21; refine (HRR.out _ (by assumption)).mono ?_; rintro e w16 ⟨v16, rfl, hown16, hb16⟩; obtain ⟨A16, c16, rfl, hs16, _, _⟩ := SR.own (ok := okRw) enRw_len (by omega) hown16 HOKR.out; clear hown16; have hB16 : Below wr.heap.size wr w16 := bl_then (by assumption) (Nat.le_refl _) hb16)
          | (go_at_call 17; refine (sameRw_any _ _ _ _ _ _ _ _ _ (HSL.out _ (by assumption)) hs16).mono ?_; rintro e w17 ⟨rfl, hb17⟩; have hB17 : Below wr.heap.size wr w17 := bl_then (by assumption) (Nat.le_refl _) hb17; rw [← HBB.out]))
      all_goals
        go_wp2
        go_ret
        exact ⟨rfl, bl_then HBE.out (Nat.le_refl _) (by assumption)⟩
end Go.Proofs.Ytjbhlckdaghppaa
