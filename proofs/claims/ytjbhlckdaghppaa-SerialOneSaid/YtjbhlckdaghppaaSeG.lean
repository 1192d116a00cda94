/- The statement SerialOne: its walk. No condition. -/
import Derived.Test.YtjbhlckdaghppaaSeF
import Derived.Test.YtjbhlckdaghppaaStR
set_option linter.unusedVariables false
set_option linter.unusedSimpArgs false
namespace Go.Proofs.Ytjbhlckdaghppaa
open Go.RowKit (wrap32 wrap64)
open Go.RowKit Go.Shelf Go.Sort Go.Lib
set_option maxRecDepth 100000 in
set_option maxHeartbeats 8000000 in
theorem serialOne_walk (a : Option Addr) (len cap : Nat) (zss : List (List Value)) (a2 : Option Addr) (len2 cap2 : Nat) (css : List (List Value)) (w : World) (hz : FlatRow w ksRw a len cap zss) (hf : FlatRow w ksEv a2 len2 cap2 css) (hq : ∀ c ∈ css, EvQ w c) :
    Calls Try.prog 7 #[.slice a len cap, .slice a2 len2 cap2] w fun e w' => e = .returned (.bool true) ∧ Below w.heap.size w w' := by
  obtain ⟨F, hl, hcap, hcm, hnil⟩ := SR.flat (ks := ksRw) (enc := enRw) (ok := okRw) (s := 6) rfl (by omega) enRw_len decRw hz
  obtain ⟨L, R, hl2, hlc2, hcm2, hnil2, hr⟩ := events_of hf hq
  clear hf hq hz hnil hcap
  have hcm' : cap ≤ 9223372036854775807 := by unfold maxLen at hcm; exact hcm
  have hlm : len ≤ 9223372036854775807 := by have := hl.max; unfold maxLen at this; exact this
  have HEV := Lib.hid (fun W1 (hb : Below w.heap.size w W1) => (⟨hl2.below hb, hr.below hb⟩ : Evs W1 a2 len2 L ∧ EvRows W1 L R))
  have HLN := Lib.hid hl2.len
  have HALL := Lib.hid hl2.all
  have HL := Lib.hid hl
  clear hl hl2 hr hcm hcm2
  cases hfw : fewL L with
  | false =>
    have HFW := Lib.hid hfw
    go_enter Try.func7, Try.ntmps7
    go_wp2_with (first
      | (go_at_call 25; refine (awake24 _).mono ?_; rintro e w1 ⟨rfl, hb1⟩)
      | (go_at_call 26; refine (few_any a2 len2 cap2 L w1 (HEV.out _ hb1).1).mono ?_; rintro e w2 ⟨rfl, hb2⟩; rw [HFW.out]))
    go_ret
    exact ⟨rfl, bl_then hb1 (Nat.le_refl _) hb2⟩
  | true =>
  have HFW := Lib.hid hfw
  have hn : len2 ≤ 30 := by have := few_len hfw; have := HLN.out; omega
  by_cases hmany : (30 : Int) < len
  · go_enter Try.func7, Try.ntmps7
    go_wp2_with (first
      | (go_at_call 25; refine (awake24 _).mono ?_; rintro e w1 ⟨rfl, hb1⟩)
      | (go_at_call 26; refine (few_any a2 len2 cap2 L w1 (HEV.out _ hb1).1).mono ?_; rintro e w2 ⟨rfl, hb2⟩; rw [HFW.out]))
    go_ret
    exact ⟨rfl, bl_then hb1 (Nat.le_refl _) hb2⟩
  have hfew : ¬ ((len : Int) > 30) := hmany
  have hle : len ≤ 30 := by omega
  clear hmany hfw
  go_enter Try.func7, Try.ntmps7
  go_wp2_with (first
    | (go_at_call 25; refine (awake24 _).mono ?_; rintro e w1 ⟨rfl, hb1⟩)
    | (go_at_call 26; refine (few_any a2 len2 cap2 L w1 (HEV.out _ hb1).1).mono ?_; rintro e w2 ⟨rfl, hb2⟩; rw [HFW.out]; have hB2 := bl_then hb1 (Nat.le_refl _) hb2)
    | (go_at_call 10; refine (stnew_any _).mono ?_; rintro e w3 ⟨s, b, rfl, hO, hs, hb, hsb, hb3⟩))
  have hB3 := bl_then hB2 (Nat.le_refl _) hb3
  have al3 := (Below.refl w3.heap.size w3).alloc (Nat.le_refl _) (.cells #[.slice none 0 0, .slice none 0 0] 39)
  have hB4 := bl_then hB3 (Nat.le_refl _) al3
  have hT4 : Two (w3.alloc (.cells #[.slice none 0 0, .slice none 0 0] 39)) s b w3.heap.size (.slice none 0 0) (.slice none 0 0) [] 0 := ⟨hO.below al3, RfO.start w3, ok0, hsb, hO.bk.lt, hO.mp.lt⟩
  have hbb : w.heap.size ≤ b := Nat.le_trans hB2.size hb
  have hxw : w.heap.size ≤ w3.heap.size := hB3.size
  clear hb1 hb2 hb3 hB2 hB3 hs hb hO al3 hsb
  generalize w3.alloc (.cells #[.slice none 0 0, .slice none 0 0] 39) = w4 at hB4 hT4 ⊢
  generalize w3.heap.size = x at hT4 hxw ⊢
  go_loopw [24] (fun c wr => ∃ (k : Nat) (vL vC : Value) (E : List Cl), k ≤ len ∧ c = .int .i64 k ∧ Two wr s b x vL vC E k ∧ Below w.heap.size w wr) (fun c _ => len - (intOf c).toNat)
  case atStart => exact ⟨0, _, _, [], by omega, rfl, hT4, hB4⟩
  case round =>
    clear hT4 hB4
    obtain ⟨k, vL, vC, E, hk, rfl, hT, HB⟩ := hrel
    by_cases hlt : k < len
    · obtain ⟨b0, off, y, rfl, _, hy, hoky, d0, d1, d2, d3, d4, d5⟩ := Rw_at (HL.out.below HB) hlt
      have al := (Below.refl wr.heap.size wr).alloc (Nat.le_refl _) (BW y)
      have hby := Bk.new wr 30 #[.int .i64 y.n0, .int .i64 y.n1, .int .i64 y.n2, .int .i64 y.n3, .int .i64 y.dep, .int .i64 y.val]
      have hokp : okPt (rwP y) := ⟨hoky.1, hoky.2.1, hoky.2.2.1, hoky.2.2.2.1, hoky.2.2.2.2.1⟩
      have hT1 := hT.below al
      have HW := Lib.hid (stset_any s b E k (rwP y) y.val hokp _ hT1.so hT1.ok (by omega) hT1.sb)
      have HR := Lib.hid (fun W1 (hr : RfO W1 x vL vC E) => rset_any x vL vC E k (rwP y) y.val W1 hr hT1.ok (by omega))
      have hpk := putT_ok hT1.ok hokp y.val
      have HBY := Lib.hid hby
      have HB1 := Lib.hid (bl_then HB (Nat.le_refl _) al)
      have hbr : b < wr.heap.size := hT.so.mp.lt
      have q0 := hby.cell 0
      have q1 := hby.cell 1
      have q2 := hby.cell 2
      have q3 := hby.cell 3
      have q4 := hby.cell 4
      have q5 := hby.cell 5
      have HT1 := Lib.hid hT1
      generalize putT E (rwP y) y.val = RR at HW HR hpk
      obtain ⟨ra, re, rE⟩ := RR
      dsimp only at HW HR hpk
      have HPK := Lib.hid hpk
      clear al hby hy hoky hT hT1 HB hpk hokp
      go_wp2_with fail
      refine HW.out.mono ?_
      rintro e w5 ⟨rfl, hO5, k5⟩
      have hR5 := HT1.out.setS hO5 k5
      have hy5 := k5.bk HBY.out (show ¬ wr.heap.size = b by omega)
      have HR5 := Lib.hid hR5
      have HO5 := Lib.hid hO5
      have HB5 := Lib.hid (bl_keep HB1.out k5 (fun i hi => by rw [hi]; exact hbb))
      have z0 := hy5.cell 0
      have z1 := hy5.cell 1
      have z2 := hy5.cell 2
      have z3 := hy5.cell 3
      have z4 := hy5.cell 4
      have z5 := hy5.cell 5
      clear hR5 hO5 hy5 k5 HW q0 q1 q2 q3 q4 q5 d0 d1 d2 d3 d4 d5
      go_wp2_with fail
      refine (HR.out _ HR5.out).mono ?_
      rintro e w6 ⟨vL', vC', rfl, hR6, k6, _⟩
      have hT6 := HT1.out.setR HO5.out HR5.out k6 hR6 HPK.out
      have hB6 := bl_keep HB5.out k6 (fun i hi => by have := (HR5.out.lt_of hi).1; omega)
      clear z0 z1 z2 z3 z4 z5
      go_wp2
      go_roundw
      case rel => exact ⟨k + 1, vL', vC', rE, by omega, by go_num, hT6, hB6⟩
      case measure => simp [intOf]; omega
    · obtain rfl : k = len := by omega
      have HON := Lib.hid (sone_any s b E k a2 len2 cap2 L R wr hT.sb hT.so hT.ok (by omega) (fun W1 kk => HEV.out W1 (bl_keep HB kk (fun i hi => by rw [hi]; exact hbb))))
      have HRN := Lib.hid (fun W1 (kk : Keep (fun i => i = b) wr W1) (hr : RfO W1 x vL vC E) => rone_any x vL vC E k a2 len2 cap2 L R W1 hr hT.ok (by omega) (fun W2 k2 => HEV.out W2 (bl_keep (bl_keep HB kk (fun i hi => by rw [hi]; exact hbb)) k2 (fun i hi => Nat.le_trans hxw (hr.lt_of hi).1))))
      have hE2 := (oneL_ok (R := R) (s := ⟨E, true⟩) L hT.ok HALL.out).mono (show k + L.length ≤ 60 by have := HLN.out; omega)
      have hE3 : OkE (oneL R E L).E 60 := hE2
      have HT := Lib.hid hT
      have HBB := Lib.hid HB
      clear hT HB hE2
      generalize oneL R E L = Y at HON HRN hE3
      obtain ⟨YE, Yok⟩ := Y
      dsimp only at HON HRN hE3
      have HE3 := Lib.hid hE3
      have HOK := Lib.hid (goods_ok hE3 mayP)
      clear hE3
      go_wp2_with (first
        | (go_at_call 32; refine HON.out.mono ?_; rintro e w5 ⟨rfl, hO5, k5⟩; have hR5 := HT.out.setS hO5 k5; have HR5 := Lib.hid hR5; have HB5 := Lib.hid (bl_keep HBB.out k5 (fun i hi => by rw [hi]; exact hbb)); have HO5 := Lib.hid hO5; have HK5 := Lib.hid k5; clear hR5 hO5 k5)
        | (go_at_call 33; refine (HRN.out _ HK5.out HR5.out).mono ?_; rintro e w6 ⟨rfl, vL6, vC6, hR6, k6, _⟩; have HB6 := Lib.hid (bl_keep HB5.out k6 (fun i hi => Nat.le_trans hxw (HR5.out.lt_of hi).1)); have HO6 := Lib.hid (HO5.out.keep k6 (fun e => by have := (HR5.out.lt_of e).1; have := HT.out.sx; omega) (fun e => by have := (HR5.out.lt_of e).1; have := HT.out.bx; omega)); have HR6 := Lib.hid hR6; clear hR6 k6)
        | (go_at_call 20; refine (strows_any s b YE 60 _ HO6.out HE3.out (by omega)).mono ?_; rintro e w7 ⟨v7, rfl, hown7, hb7⟩; obtain ⟨A7, c7, rfl, hs7, _, _⟩ := SR.own (ok := okRw) enRw_len (by omega) hown7 HOK.out; clear hown7; have HR7 := Lib.hid (HR6.out.below hb7))
        | (go_at_call 21; refine (rrows_any x vL6 vC6 YE 60 _ HR7.out HE3.out (by omega)).mono ?_; rintro e w8 ⟨v8, rfl, hown8, hb8⟩; obtain ⟨A8, c8, rfl, hs8, _, _⟩ := SR.own (ok := okRw) enRw_len (by omega) hown8 HOK.out; clear hown8; have hs78 := hs7.below hb8)
        | (go_at_call 17; refine (sameRw_yes _ _ _ _ _ _ _ _ hs78 hs8).mono ?_; rintro e w9 ⟨rfl, hb9⟩))
      go_ret
      exact ⟨by first | rfl | simp, bl_then HB6.out (Nat.le_refl _) (bl_then hb7 (Nat.le_refl _) (bl_then hb8 (Nat.le_refl _) hb9))⟩
end Go.Proofs.Ytjbhlckdaghppaa
