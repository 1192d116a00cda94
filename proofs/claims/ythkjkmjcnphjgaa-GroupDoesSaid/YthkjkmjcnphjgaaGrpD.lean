/- The statement GroupStays: the walk. No condition. -/
import Derived.Test.YthkjkmjcnphjgaaGrpC
import Derived.Deep.DeepCutAuto
set_option linter.unusedVariables false
set_option linter.unusedSimpArgs false
namespace Go.Proofs.Ythkjkmjcnphjgaa
open Go.RowKit (wrap32 wrap64)
open Go.RowKit Go.Shelf Go.Sort
theorem few_yes (a : Option Addr) (len cap : Nat) (h : len ≤ 30) : Hid (∀ w, Calls Try.prog 37 #[.slice a len cap] w fun e w' => e = .returned (.bool true) ∧ w = w') := by
  have hd : decide ((len : Int) ≤ 30) = true := by simp; omega
  refine Lib.hid fun w => ?_
  have := few11 a len cap w (by unfold maxLen; omega)
  rw [hd] at this
  exact this
theorem few_no (a : Option Addr) (len cap : Nat) (h : 30 < len) (hm : len ≤ maxLen) : Hid (∀ w, Calls Try.prog 37 #[.slice a len cap] w fun e w' => e = .returned (.bool false) ∧ w = w') := by
  have hd : decide ((len : Int) ≤ 30) = false := by simp; omega
  refine Lib.hid fun w => ?_
  have := few11 a len cap w hm
  rw [hd] at this
  exact this
theorem setT_ok (tx m : Int) (L : List Hd) (h : ∀ x ∈ L, okHd x) (htx : (Lit.int .i64 tx).wf = true) (hm : (Lit.int .i64 m).wf = true) : ∀ x ∈ setT tx m L, okHd x := by
  intro x hx
  rcases idxB_spec (isTx tx) L with ⟨_, hms⟩ | ⟨k, y, _, hy, hp, hb⟩
  · rw [setT_miss tx m L hms] at hx
    rcases List.mem_append.1 hx with hx | hx
    · exact h x hx
    · rw [List.mem_singleton.1 hx]; exact ⟨htx, hm⟩
  · rw [setT_hit tx m L k y hy hp hb] at hx
    rcases List.mem_or_eq_of_mem_set hx with hx | hx
    · exact h x hx
    · rw [hx]; exact ⟨(h y (List.mem_of_getElem? hy)).1, hm⟩
set_option maxHeartbeats 2000000 in
theorem groupStays_walk (a : Option Addr) (len cap : Nat) (css : List (List Value)) (tx m : Int) (w : World) (hf : FlatRow w ksHd a len cap css) (htx : (Lit.int .i64 tx).wf = true) (hm : (Lit.int .i64 m).wf = true) :
    Calls Try.prog 8 #[.slice a len cap, .int .i64 tx, .int .i64 m] w fun e w' => e = .returned (.bool true) ∧ Below w.heap.size w w' := by
  obtain ⟨L, hl, hlc, hcm, hnil⟩ := SR.flat (s := 2) rfl (by omega) enHd_len decHd hf
  clear hf
  have hmax := hl.max
  have hcm' : cap ≤ 9223372036854775807 := by unfold maxLen at hcm; exact hcm
  by_cases h30 : 30 < len
  · have HF := few_no a len cap h30 hmax
    clear hl h30
    go_enter Try.func8, Try.ntmps8
    go_wp2_with (first
      | (go_at_call 36; refine (awake11 _).mono ?_; rintro e w1 ⟨rfl, hb1⟩)
      | (go_at_call 37; refine (HF.out _).mono ?_; rintro e _ ⟨rfl, rfl⟩))
    go_ret
    exact ⟨rfl, hb1⟩
  · have HF := few_yes a len cap (by omega)
    have hll := hl.len
    have HLL := Lib.hid hll
    have hall := hl.all
    have hR := fun W (hb : Below w.heap.size w W) => gright_any a len cap L W (hl.below hb) (by omega) hlc hcm'
    cases hr : rightT L with
    | false =>
      rw [hr] at hR
      have HR := Lib.hid hR
      clear hl h30 hR hr hall hll
      go_enter Try.func8, Try.ntmps8
      go_wp2_with (first
        | (go_at_call 36; refine (awake11 _).mono ?_; rintro e w1 ⟨rfl, hb1⟩)
        | (go_at_call 37; refine (HF.out _).mono ?_; rintro e _ ⟨rfl, rfl⟩)
        | (go_at_call 43; refine (HR.out _ hb1).mono ?_; rintro e w2 ⟨rfl, hb2⟩; have HB2 := bl_then hb1 (Nat.le_refl _) hb2))
      go_ret
      exact ⟨rfl, HB2⟩
    | true =>
      rw [hr] at hR
      have HR := Lib.hid hR
      have hdr := drop_right L tx hr
      have hD := fun W (hb : Below w.heap.size w W) => gdrop_any a len cap L tx W (hl.below hb) hnil (by omega)
      have HD := Lib.hid hD
      have hdl : (dropT L tx).length ≤ 30 := Nat.le_trans (List.length_filter_le _ _) (by omega)
      have hRD := fun A c W (hs : Hds W A (dropT L tx).length (dropT L tx)) (h1 : (dropT L tx).length ≤ c) (h2 : c ≤ 9223372036854775807) => gright_any A (dropT L tx).length c (dropT L tx) W hs (by omega) h1 h2
      rw [hdr] at hRD
      have HRD := Lib.hid hRD
      have hG := fun W (hb : Below w.heap.size w W) => ggoes_any a len cap L tx m W (hl.below hb) (by omega)
      have hgu : (tx < 1) ∨ (¬ tx < 1 ∧ m < 1) ∨ (¬ tx < 1 ∧ ¬ m < 1 ∧ 6 < m) ∨ (¬ tx < 1 ∧ ¬ m < 1 ∧ ¬ 6 < m) := by omega
      have HGU := Lib.hid hgu
      have HG := Lib.hid hG
      have HSR := Lib.hid (set_right L tx m hr)
      have HST := Lib.hid (fun W (hb : Below w.heap.size w W) => gset_any a len cap L tx m W (hl.below hb) hnil (by omega))
      have hsl : (setT tx m L).length ≤ 31 := by
        rcases idxB_spec (isTx tx) L with ⟨_, hm⟩ | ⟨k, x, _, hx, hp, hb⟩
        · rw [setT_miss tx m L hm]; simp; omega
        · rw [setT_hit tx m L k x hx hp hb]; simp; omega
      have HSO := Lib.hid (fun x (hx : x ∈ setT tx m L) => setT_ok tx m L hall htx hm x hx)
      have HAL := Lib.hid hall
      clear hl h30 hR hr hll hdr hD hRD hG hall hgu
      go_enter Try.func8, Try.ntmps8
      go_upto_region 7 with (first
        | (go_at_call 36; refine (awake11 _).mono ?_; rintro e w1 ⟨rfl, hb1⟩)
        | (go_at_call 37; refine (HF.out _).mono ?_; rintro e _ ⟨rfl, rfl⟩)
        | (go_at_call_of 43 (Value.slice a len cap); refine (HR.out _ hb1).mono ?_; rintro e w2 ⟨rfl, hb2⟩; have HB2 := bl_then hb1 (Nat.le_refl _) hb2)
        | (go_at_call 38; refine (HD.out _ HB2).mono ?_; rintro e w3 ⟨v, rfl, hown, hb3⟩; have HB3 := bl_then HB2 (Nat.le_refl _) hb3; obtain ⟨A, c, rfl, hsd, _, _⟩ := SR.own (ok := okHd) enHd_len (by omega) hown (fun x hx => HAL.out x (List.mem_filter.1 hx).1); obtain ⟨hc1, hc2, _⟩ := own_caps hown; unfold maxLen at hc2; clear hown)
        | (go_at_call 43; refine (HRD.out A c _ hsd hc1 (by omega)).mono ?_; rintro e w4 ⟨rfl, hb4⟩; have HB4 := bl_then HB3 (Nat.le_refl _) hb4; clear hsd))
      rcases HGU.out with h1 | ⟨h1, h2⟩ | ⟨h1, h2, h3⟩ | ⟨h1, h2, h3⟩
      · clear HGU
        go_wp2
        go_ret
        exact ⟨rfl, HB4⟩
      · clear HGU
        go_wp2
        go_ret
        exact ⟨rfl, HB4⟩
      · clear HGU
        go_wp2
        go_ret
        exact ⟨rfl, HB4⟩
      · clear HGU
        cases hg : goesT L tx m with
        | false =>
          have hG := HG.out w4 HB4
          rw [hg] at hG
          have HG' := Lib.hid hG
          clear hG hg
          go_wp2_with (go_at_call 41; refine HG'.out.mono ?_; rintro e w5 ⟨rfl, hb5⟩)
          go_ret
          exact ⟨rfl, bl_then HB4 (Nat.le_refl _) hb5⟩
        | true =>
          have hG := HG.out w4 HB4
          rw [hg] at hG
          have HG' := Lib.hid hG
          obtain ⟨hs1, hs2⟩ := HSR.out (by omega) (by omega) (by omega) hg
          have HS1 := Lib.hid hs1
          have HS2 := Lib.hid hs2
          clear hG hg hs1 hs2
          go_wp2_with (first
            | (go_at_call 41; refine HG'.out.mono ?_; rintro e w5 ⟨rfl, hb5⟩; have HB5 := bl_then HB4 (Nat.le_refl _) hb5)
            | (go_at_call 44; refine (HST.out _ HB5).mono ?_; rintro e w6 ⟨v, rfl, hown, hb6⟩; have HB6 := bl_then HB5 (Nat.le_refl _) hb6; obtain ⟨A, c, rfl, hss, _, _⟩ := SR.own (ok := okHd) enHd_len (by omega) hown HSO.out; obtain ⟨hc1', hc2', _⟩ := own_caps hown; unfold maxLen at hc2'; clear hown)
            | (go_at_call 43; refine (gright_any A _ c _ _ hss (by omega) hc1' (by omega)).mono ?_; rintro e w7 ⟨rfl, hb7⟩; have HB7 := bl_then HB6 (Nat.le_refl _) hb7; rw [HS1.out])
            | (go_at_call 42; refine (gof_any A _ c _ tx _ (hss.below hb7) (by omega)).mono ?_; rintro e w8 ⟨rfl, hb8⟩; have HB8 := bl_then HB7 (Nat.le_refl _) hb8; rw [HS2.out]))
          go_ret
          exact ⟨by simp [go_sem], HB8⟩
end Go.Proofs.Ythkjkmjcnphjgaa
