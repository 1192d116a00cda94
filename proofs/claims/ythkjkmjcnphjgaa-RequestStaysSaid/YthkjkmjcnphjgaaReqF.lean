/- The statement RequestStays: the walk. No condition. -/
import Derived.Test.YthkjkmjcnphjgaaReqE
import Derived.Test.YthkjkmjcnphjgaaReqI
set_option linter.unusedVariables false
set_option linter.unusedSimpArgs false
namespace Go.Proofs.Ythkjkmjcnphjgaa
open Go.RowKit (wrap32 wrap64)
open Go.RowKit
set_option maxRecDepth 100000 in
set_option maxHeartbeats 8000000 in
theorem requestStays_walk (a : Option Addr) (len cap : Nat) (css : List (List Value)) (x : Wt) (w : World) (hf : FlatRow w ksWt a len cap css) (hx : okWt x) :
    Calls Try.prog 11 #[.slice a len cap, .agg #[.int .i64 x.tx, .int .i64 x.mode, .bool x.conv, .bool x.inst]] w fun e w' => e = .returned (.bool true) ∧ Below w.heap.size w w' := by
  obtain ⟨L, hl, hlc, hcm, hnil⟩ := SR.flat (s := 4) rfl (by omega) enWt_len decWt hf
  clear hf
  have hmax := hl.max
  have hll := hl.len
  have hO : Below w.heap.size w (w.alloc (.cells #[.int .i64 x.tx, .int .i64 x.mode, .bool x.conv, .bool x.inst] 79)) := (Below.refl _ _).alloc (Nat.le_refl _) _
  have hb0 := Bk.new w 79 #[.int .i64 x.tx, .int .i64 x.mode, .bool x.conv, .bool x.inst]
  by_cases h30 : 30 < len
  · have HF := few10 a len cap false (by simp; omega) hmax
    clear hl h30 hb0 hll
    go_enter Try.func11, Try.ntmps11
    go_wp2_with (first
      | (go_at_call 57; refine (awake10 _).mono ?_; rintro e w1 ⟨rfl, hbx⟩)
      | (go_at_call 58; refine (HF.out _).mono ?_; rintro e _ ⟨rfl, rfl⟩))
    go_ret
    exact ⟨rfl, bl_then hO (Nat.le_refl _) hbx⟩
  have HF := few10 a len cap true (by simp; omega) hmax
  have HR := Lib.hid (fun W (hb : Below w.heap.size w W) => qright_any a len cap L W (hl.below hb) (by omega))
  by_cases hrt : RightW L
  case neg =>
    have HN := Lib.hid hrt
    clear hl h30 hb0 hll hrt
    go_enter Try.func11, Try.ntmps11
    go_wp2_with (first
      | (go_at_call 57; refine (awake10 _).mono ?_; rintro e w1 ⟨rfl, hbx⟩; have HB1 := bl_then hO (Nat.le_refl _) hbx)
      | (go_at_call 58; refine (HF.out _).mono ?_; rintro e _ ⟨rfl, rfl⟩)
      | (go_at_call 59; refine (HR.out _ HB1).mono ?_; rintro e w2 ⟨bb, rfl, hbb, hb2⟩; obtain rfl : bb = false := (by cases bb with | false => rfl | true => exact absurd (hbb.1 rfl) HN.out); clear hbb))
    go_ret
    exact ⟨rfl, bl_then HB1 (Nat.le_refl _) hb2⟩
  have HYES := Lib.hid hrt
  have HWO := Lib.hid (fun W (hb : Below w.heap.size w W) => qwithout_any a len cap L x.tx W (hl.below hb) hnil (by omega))
  have HOT := Lib.hid (rightW_out x.tx L hrt)
  have HFO := Lib.hid (find_out x.tx L)
  have HOM := Lib.hid (outT_mem x.tx L)
  have HOK := Lib.hid (fun y (hy : y ∈ outT x.tx L) => hl.all y (List.mem_filter.1 hy).1)
  have hol : (outT x.tx L).length ≤ len := by rw [← hll]; exact List.length_filter_le _ _
  have HEQ : Hid ((L.filter fun y => !ofTx x.tx y) = outT x.tx L) := Lib.hid rfl
  generalize hM : outT x.tx L = M at HOT HFO HOM HOK hol HEQ
  clear hM hl hrt hll
  go_enter Try.func11, Try.ntmps11
  go_wp2_with (first
    | (go_at_call 57; refine (awake10 _).mono ?_; rintro e w1 ⟨rfl, hbx⟩; have HB1 := bl_then hO (Nat.le_refl _) hbx)
    | (go_at_call 58; refine (HF.out _).mono ?_; rintro e _ ⟨rfl, rfl⟩)
    | (go_at_call_of 59 (Value.slice a len cap); refine (HR.out _ HB1).mono ?_; rintro e w2 ⟨bb, rfl, hbb, hb2⟩; obtain rfl : bb = true := hbb.2 HYES.out; have HB2 := bl_then HB1 (Nat.le_refl _) hb2; have hbw2 := (hb0.below hbx).below hb2; have c0 := hbw2.cell 0; have c1 := hbw2.cell 1; have c2 := hbw2.cell 2; have c3 := hbw2.cell 3; clear hbb hb0)
    | (go_at_call_of 60 (Value.slice a len cap); refine (HWO.out _ HB2).mono ?_; rintro e w3 ⟨v, rfl, hown, hb3⟩; rw [HEQ.out] at hown; obtain ⟨A, cA, rfl, hs, hAn, _⟩ := SR.own (ok := okWt) enWt_len (by omega) hown HOK.out; have hbw3 := hbw2.below hb3; clear hown c0 c1 c2 c3; have c0 := hbw3.cell 0; have c1 := hbw3.cell 1; have c2 := hbw3.cell 2; have c3 := hbw3.cell 3))
  have HB3 := bl_then HB2 (Nat.le_refl _) hb3
  have hR3 := fun W (hb : Below w3.heap.size w3 W) => qright_any A M.length cA M W (hs.below hb) (by omega)
  have hF3 := fun W (hb : Below w3.heap.size w3 W) => qfind_any A M.length cA M x.tx W (hs.below hb) (by omega)
  rw [HFO.out] at hF3
  have HR3 := Lib.hid hR3
  have HF3 := Lib.hid hF3
  have hck := fun W => qcheck_any x.tx x.mode W
  clear hR3 hF3 HF HR HWO HFO hO hbx hb2 hb3 HB1 HB2 hbw2 HYES
  by_cases hq : 1 ≤ x.tx ∧ 1 ≤ x.mode ∧ x.mode ≤ 6
  case neg =>
    rw [show checkT x.tx x.mode = 1 from if_neg hq] at hck
    have HCK := Lib.hid hck
    have HSS := Lib.hid hs
    clear hck hq hs
    go_wp2_with (first
      | (go_at_call_of 59 (Value.slice A M.length cA); refine (HR3.out _ (Below.refl _ _)).mono ?_; rintro e w4 ⟨bb, rfl, hbb, hb4⟩; obtain rfl : bb = true := hbb.2 HOT.out; have hbw4 := hbw3.below hb4; clear hbb c0 c1 c2 c3; have c0 := hbw4.cell 0; have c1 := hbw4.cell 1; have c2 := hbw4.cell 2; have c3 := hbw4.cell 3)
      | (go_at_call 61; refine (HF3.out _ hb4).mono ?_; rintro e w5 ⟨rfl, hb5⟩; have hbw5 := hbw4.below hb5; clear c0 c1 c2 c3; have c0 := hbw5.cell 0; have c1 := hbw5.cell 1; have c2 := hbw5.cell 2; have c3 := hbw5.cell 3)
      | (go_at_call 62; refine (HCK.out _).mono ?_; rintro e _ ⟨rfl, rfl⟩))
    go_ret
    exact ⟨rfl, bl_then (bl_then HB3 (Nat.le_refl _) hb4) (Nat.le_refl _) hb5⟩
  case pos =>
    rw [show checkT x.tx x.mode = 0 from if_pos hq] at hck
    have HCK := Lib.hid hck
    have hin := fun W (hb : Below w3.heap.size w3 W) => qinsert_any A M.length cA M x W (hs.below hb) hAn hx (by omega)
    have HIN := Lib.hid hin
    have hmo := fun W => may_any x.mode W
    rw [show mayB x.mode = true by unfold mayB; simp; omega] at hmo
    have HMO := Lib.hid hmo
    have HOI := Lib.hid (out_ins x M HOM.out)
    have HRI := Lib.hid (rightW_ins x M HOT.out hq HOM.out)
    have hil := insT_len x M
    have hIO : ∀ y ∈ insT x M, okWt y := fun y hy => by
      rcases insT_mem x M y hy with rfl | hy
      · exact hx
      · exact HOK.out y hy
    have HIO := Lib.hid hIO
    have HSS := Lib.hid hs
    generalize insT x M = N at HIN HOI HRI hil HIO
    obtain ⟨nn, hnn⟩ : ∃ nn, nn = N.length := ⟨_, rfl⟩
    have HNN := Lib.hid hnn
    have hil2 : nn = M.length + 1 := hnn.trans hil
    clear hnn hil
    clear hck hq hs hin hmo hIO
    go_wp2_with (first
      | (go_at_call_of 59 (Value.slice A M.length cA); refine (HR3.out _ (Below.refl _ _)).mono ?_; rintro e w4 ⟨bb, rfl, hbb, hb4⟩; obtain rfl : bb = true := hbb.2 HOT.out; have hbw4 := hbw3.below hb4; clear hbb c0 c1 c2 c3; have c0 := hbw4.cell 0; have c1 := hbw4.cell 1; have c2 := hbw4.cell 2; have c3 := hbw4.cell 3)
      | (go_at_call 61; refine (HF3.out _ hb4).mono ?_; rintro e w5 ⟨rfl, hb5⟩; have hbw5 := hbw4.below hb5; have HB35 := bl_then hb4 (Nat.le_refl _) hb5; clear c0 c1 c2 c3; have c0 := hbw5.cell 0; have c1 := hbw5.cell 1; have c2 := hbw5.cell 2; have c3 := hbw5.cell 3)
      | (go_at_call 62; refine (HCK.out _).mono ?_; rintro e _ ⟨rfl, rfl⟩)
      | (go_at_call 63; refine (HIN.out _ HB35).mono ?_; rintro e w6 ⟨v, rfl, hown, hb6⟩; rw [← HNN.out] at hown; obtain ⟨C, cC, rfl, hsC, hCn, _⟩ := SR.own (ok := okWt) enWt_len (by omega) hown HIO.out; have hbw6 := hbw5.below hb6; have HB36 := bl_then HB35 (Nat.le_refl _) hb6; clear hown c0 c1 c2 c3; have c0 := hbw6.cell 0; have c1 := hbw6.cell 1; have c2 := hbw6.cell 2; have c3 := hbw6.cell 3))
    subst hil2
    have hR6 := qright_any C (M.length + 1) cC N w6 hsC (by omega)
    have hW6 := fun W (hb : Below w6.heap.size w6 W) => qwithout_any C (M.length + 1) cC N x.tx W (hsC.below hb) hCn (by omega)
    rw [show (N.filter fun y => !ofTx x.tx y) = M from HOI.out] at hW6
    have HR6 := Lib.hid hR6
    have HW6 := Lib.hid hW6
    have hsA6 := HSS.out.below HB36
    have HSA := Lib.hid hsA6
    clear hR6 hW6 hsC hsA6
    go_wp2_with (first
      | (go_at_call 59; refine HR6.out.mono ?_; rintro e w7 ⟨bb, rfl, hbb, hb7⟩; obtain rfl : bb = true := hbb.2 HRI.out; have hbw7 := hbw6.below hb7; clear hbb c0 c1 c2 c3; have c0 := hbw7.cell 0; have c1 := hbw7.cell 1; have c2 := hbw7.cell 2; have c3 := hbw7.cell 3)
      | (go_at_call 60; refine (HW6.out _ hb7).mono ?_; rintro e w8 ⟨v, rfl, hown, hb8⟩; obtain ⟨D, cD, rfl, hsD, _, _⟩ := SR.own (ok := okWt) enWt_len (by omega) hown HOK.out; have hbw8 := hbw7.below hb8; have hb78 := bl_then hb7 (Nat.le_refl _) hb8; clear hown c0 c1 c2 c3; have c0 := hbw8.cell 0; have c1 := hbw8.cell 1; have c2 := hbw8.cell 2; have c3 := hbw8.cell 3)
      | (go_at_call 64; refine (sameWt_any D A M.length M.length cD cA M M _ hsD (HSA.out.below hb78)).mono ?_; rintro e w9 ⟨rfl, hb9⟩; rw [decide_eq_true rfl]; have hbw9 := hbw8.below hb9; clear c0 c1 c2 c3; have c0 := hbw9.cell 0; have c1 := hbw9.cell 1; have c2 := hbw9.cell 2; have c3 := hbw9.cell 3)
      | (go_at_call 65; refine (HMO.out _).mono ?_; rintro e _ ⟨rfl, rfl⟩))
    go_ret
    exact ⟨rfl, bl_then (bl_then (bl_then HB3 (Nat.le_refl _) HB36) (Nat.le_refl _) hb78) (Nat.le_refl _) hb9⟩
end Go.Proofs.Ythkjkmjcnphjgaa
