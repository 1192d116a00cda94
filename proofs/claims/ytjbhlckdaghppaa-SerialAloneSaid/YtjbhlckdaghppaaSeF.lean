/- The statement SerialDoes: the example; its walk. No condition. -/
import Derived.Test.YtjbhlckdaghppaaSeE
set_option linter.unusedVariables false
set_option linter.unusedSimpArgs false
namespace Go.Proofs.Ytjbhlckdaghppaa
open Go.RowKit (wrap32 wrap64)
open Go.RowKit Go.Shelf Go.Sort Go.Lib
def vE1 : Ev := ⟨7, 1, 1, 1, 1, 1, 4, 0, 1, (none, 0, 0), 0⟩
def vE2 : Ev := ⟨9, 1, 0, 0, 0, 0, 0, 0, 0, (none, 0, 0), 0⟩
def vE3 : Ev := ⟨6, 2, 1, 1, 1, 1, 4, 0, 1, (none, 0, 0), 0⟩
def vE4 : Ev := ⟨9, 2, 0, 0, 0, 0, 0, 0, 0, (none, 0, 0), 0⟩
theorem rows_none (w : World) : Rws w none 0 [] := ⟨rfl, Nat.zero_le _, by simp, fun h => absurd h (by omega)⟩
theorem evs_none {w : World} {L : List Ev} (h : ∀ x ∈ L, x.rows = (none, 0, 0)) : EvRows w L (fun _ => []) := fun x hx => by rw [h x hx]; exact rows_none w
theorem awake24 (w : World) : Calls Try.prog 25 #[] w fun e w' => e = .returned (.bool true) ∧ Below w.heap.size w w' := by
  have h1 : eqlL (fun _ => []) [vE1, vE2, vE3, vE4] = true := by decide +kernel
  have h2 : eqlL (fun _ => []) [vE3, vE4] = false := by decide +kernel
  have H1 : Hid (∀ W1, Evs W1 (some ⟨w.heap.size + 1, 0, none⟩) 4 [vE1, vE2, vE3, vE4] → Calls Try.prog 31 #[.slice (some ⟨w.heap.size + 1, 0, none⟩) 4 4] W1 fun e w' => e = .returned (.bool true) ∧ Below W1.heap.size W1 w') := Lib.hid (fun W1 hl => by
    have := equal_any (some ⟨w.heap.size + 1, 0, none⟩) 4 4 [vE1, vE2, vE3, vE4] (fun _ => []) W1 hl (evs_none (by decide)) (by intro h; cases h) (by omega)
    rw [h1] at this; exact this)
  have H2 : Hid (∀ W1 g, Evs W1 (some ⟨g, 0, none⟩) 2 [vE3, vE4] → Calls Try.prog 31 #[.slice (some ⟨g, 0, none⟩) 2 2] W1 fun e w' => e = .returned (.bool false) ∧ Below W1.heap.size W1 w') := Lib.hid (fun W1 g hl => by
    have := equal_any (some ⟨g, 0, none⟩) 2 2 [vE3, vE4] (fun _ => []) W1 hl (evs_none (by decide)) (by intro h; cases h) (by omega)
    rw [h2] at this; exact this)
  have hl1 := SR.made (ok := okEv) enEv_len (w.alloc (PB pt1)) 56 #[.int .i64 7, .int .i64 1, .int .i64 1, .int .i64 1, .int .i64 1, .int .i64 1, .int .i64 4, .int .i64 0, .int .i64 1, .slice none 0 0, .int .i64 0, .int .i64 9, .int .i64 1, .int .i64 0, .int .i64 0, .int .i64 0, .int .i64 0, .int .i64 0, .int .i64 0, .int .i64 0, .slice none 0 0, .int .i64 0, .int .i64 6, .int .i64 2, .int .i64 1, .int .i64 1, .int .i64 1, .int .i64 1, .int .i64 4, .int .i64 0, .int .i64 1, .slice none 0 0, .int .i64 0, .int .i64 9, .int .i64 2, .int .i64 0, .int .i64 0, .int .i64 0, .int .i64 0, .int .i64 0, .int .i64 0, .int .i64 0, .slice none 0 0, .int .i64 0] [vE1, vE2, vE3, vE4] rfl (by decide) (by decide)
  rw [World.size_alloc] at hl1
  have HC1 := Lib.hid (H1.out _ hl1)
  have a1 := (Below.refl w.heap.size w).alloc (Nat.le_refl _) (PB pt1)
  have a2 := (Below.refl (w.alloc (PB pt1)).heap.size (w.alloc (PB pt1))).alloc (Nat.le_refl _) (.cells #[.int .i64 7, .int .i64 1, .int .i64 1, .int .i64 1, .int .i64 1, .int .i64 1, .int .i64 4, .int .i64 0, .int .i64 1, .slice none 0 0, .int .i64 0, .int .i64 9, .int .i64 1, .int .i64 0, .int .i64 0, .int .i64 0, .int .i64 0, .int .i64 0, .int .i64 0, .int .i64 0, .slice none 0 0, .int .i64 0, .int .i64 6, .int .i64 2, .int .i64 1, .int .i64 1, .int .i64 1, .int .i64 1, .int .i64 4, .int .i64 0, .int .i64 1, .slice none 0 0, .int .i64 0, .int .i64 9, .int .i64 2, .int .i64 0, .int .i64 0, .int .i64 0, .int .i64 0, .int .i64 0, .int .i64 0, .int .i64 0, .slice none 0 0, .int .i64 0] 56)
  have HX := Lib.hid ((Bk.new w 25 (ptA pt1)).below a2)
  have HB := Lib.hid (bl_then a1 (Nat.le_refl _) a2)
  clear a1 a2 hl1 h1 h2 H1
  go_enter Try.func25, Try.ntmps25
  go_wp2_with fail
  refine HC1.out.mono ?_
  rintro e w2 ⟨rfl, hb2⟩
  have hx2 := HX.out.below hb2
  have y0 := hx2.cell 0
  have y1 := hx2.cell 1
  have y2 := hx2.cell 2
  have y3 := hx2.cell 3
  have y4 := hx2.cell 4
  have hl2 := SR.made (ok := okEv) enEv_len w2 56 #[.int .i64 6, .int .i64 2, .int .i64 1, .int .i64 1, .int .i64 1, .int .i64 1, .int .i64 4, .int .i64 0, .int .i64 1, .slice none 0 0, .int .i64 0, .int .i64 9, .int .i64 2, .int .i64 0, .int .i64 0, .int .i64 0, .int .i64 0, .int .i64 0, .int .i64 0, .int .i64 0, .slice none 0 0, .int .i64 0] [vE3, vE4] rfl (by decide) (by decide)
  have HC2 := Lib.hid (H2.out _ _ hl2)
  have a3 := (Below.refl w2.heap.size w2).alloc (Nat.le_refl _) (.cells #[.int .i64 6, .int .i64 2, .int .i64 1, .int .i64 1, .int .i64 1, .int .i64 1, .int .i64 4, .int .i64 0, .int .i64 1, .slice none 0 0, .int .i64 0, .int .i64 9, .int .i64 2, .int .i64 0, .int .i64 0, .int .i64 0, .int .i64 0, .int .i64 0, .int .i64 0, .int .i64 0, .slice none 0 0, .int .i64 0] 56)
  clear hl2 hx2 HX HC1
  go_wp2_with fail
  refine HC2.out.mono ?_
  rintro e w3 ⟨rfl, hb3⟩
  go_wp2
  go_ret
  exact ⟨rfl, bl_then HB.out (Nat.le_refl _) (bl_then hb2 (Nat.le_refl _) (bl_then a3 (Nat.le_refl _) hb3))⟩
theorem few_len {L : List Ev} (h : fewL L = true) : L.length ≤ 30 := by
  unfold fewL at h
  rw [Bool.and_eq_true, decide_eq_true_eq] at h
  exact h.2
set_option maxRecDepth 100000 in
set_option maxHeartbeats 8000000 in
theorem serialDoes_walk (a : Option Addr) (len cap : Nat) (css : List (List Value)) (w : World) (hf : FlatRow w ksEv a len cap css) (hq : ∀ c ∈ css, EvQ w c) :
    Calls Try.prog 6 #[.slice a len cap] w fun e w' => e = .returned (.bool true) ∧ Below w.heap.size w w' := by
  obtain ⟨L, R, hl, hlc, hcm, hnil, hr⟩ := events_of hf hq
  clear hf hq
  have HEV := Lib.hid (fun W1 (hb : Below w.heap.size w W1) => (⟨hl.below hb, hr.below hb⟩ : Evs W1 a len L ∧ EvRows W1 L R))
  have HLN := Lib.hid hl.len
  have HALL := Lib.hid hl.all
  clear hl hr
  cases hfw : fewL L with
  | false =>
    have HFW := Lib.hid hfw
    go_enter Try.func6, Try.ntmps6
    go_wp2_with (first
      | (go_at_call 25; refine (awake24 _).mono ?_; rintro e w1 ⟨rfl, hb1⟩)
      | (go_at_call 26; refine (few_any a len cap L w1 (HEV.out _ hb1).1).mono ?_; rintro e w2 ⟨rfl, hb2⟩; rw [HFW.out]))
    go_ret
    exact ⟨rfl, bl_then hb1 (Nat.le_refl _) hb2⟩
  | true =>
    have HFW := Lib.hid hfw
    have hn : len ≤ 30 := by have := few_len hfw; have := HLN.out; omega
    have HOR := Lib.hid (goods_ok (runL_ok (R := R) HALL.out (by rw [HLN.out]; exact hn)) mayP)
    have HOF := Lib.hid (goods_ok (finL_ok HALL.out (by rw [HLN.out]; exact hn)) mayP)
    have hEQ : eqlL R L = ((runL R L).ok && decide (goodsE (runL R L).E mayP = goodsE (finL L) mayP)) := rfl
    have hS := fun W1 (hb : Below w.heap.size w W1) => srun_any a len cap L R W1 (HEV.out _ hb).1 (HEV.out _ hb).2 hnil hn
    have hR := fun W1 (hb : Below w.heap.size w W1) => rrun_any a len cap L R W1 (HEV.out _ hb).1 (HEV.out _ hb).2 hn
    have hF := fun W1 (hb : Below w.heap.size w W1) => sfinal_any a len cap L W1 (HEV.out _ hb).1 hn
    have hG := fun W1 (hb : Below w.heap.size w W1) => rfinal_any a len cap L W1 (HEV.out _ hb).1 hn
    have hQ := fun W1 (hb : Below w.heap.size w W1) => equal_any a len cap L R W1 (HEV.out _ hb).1 (HEV.out _ hb).2 hnil hn
    rw [hEQ] at hQ
    generalize runL R L = X at hS hR hQ HOR
    obtain ⟨XE, Xok⟩ := X
    dsimp only at hS hR hQ HOR
    unfold RunRet at hS hR
    dsimp only at hS hR
    generalize goodsE XE mayP = G at hS hR hQ HOR
    generalize goodsE (finL L) mayP = F at hF hG hQ HOF
    obtain ⟨bb, hbb⟩ : ∃ bb, bb = decide (G = F) := ⟨_, rfl⟩
    rw [← hbb] at hQ
    have HBB := Lib.hid hbb
    have HS := Lib.hid hS
    have HR := Lib.hid hR
    have HF := Lib.hid hF
    have HG := Lib.hid hG
    have HQ := Lib.hid hQ
    clear hS hR hF hG hQ hbb hEQ hfw
    have M1 : True := trivial
    have M2 : True := trivial
    cases Xok with
    | true =>
      rw [Bool.true_and] at HQ
      go_enter Try.func6, Try.ntmps6
      go_wp2_with (first
        | (go_at_call 25; refine (awake24 _).mono ?_; rintro e w1 ⟨rfl, hb1⟩)
        | (go_at_call 26; refine (few_any a len cap L w1 (HEV.out _ hb1).1).mono ?_; rintro e w2 ⟨rfl, hb2⟩; rw [HFW.out]; have hB2 := bl_then hb1 (Nat.le_refl _) hb2)
        | (go_at_call 27; refine (HS.out _ hB2).mono ?_; rintro e w3 ⟨v3, rfl, hown3, hb3⟩; obtain ⟨A3, c3, rfl, hs3, _, _⟩ := SR.own (ok := okRw) enRw_len (by omega) hown3 HOR.out; clear hown3; have hB3 := bl_then hB2 (Nat.le_refl _) hb3)
        | (go_at_call 28; refine (HR.out _ hB3).mono ?_; rintro e w4 ⟨v4, rfl, hown4, hb4⟩; obtain ⟨A4, c4, rfl, hs4, _, _⟩ := SR.own (ok := okRw) enRw_len (by omega) hown4 HOR.out; clear hown4; have hB4 := bl_then hB3 (Nat.le_refl _) hb4; have hs34 := hs3.below hb4)
        | (go_at_call 29; refine (HG.out _ hB4).mono ?_; rintro e w5 ⟨v5, rfl, hown5, hb5⟩; obtain ⟨A5, c5, rfl, hs5, _, _⟩ := SR.own (ok := okRw) enRw_len (by omega) hown5 HOF.out; clear hown5; have hB5 := bl_then hB4 (Nat.le_refl _) hb5; have hs35 := hs34.below hb5; have hs45 := hs4.below hb5)
        | (go_at_call 17; (have m_ := M1; clear M1 m_); refine (sameRw_yes _ _ _ _ _ _ _ _ hs35 hs45).mono ?_; rintro e w6 ⟨rfl, hb6⟩; have hB6 := bl_then hB5 (Nat.le_refl _) hb6; have hs56 := hs5.below hb6; have hs46 := hs45.below hb6)
        | (go_at_call 30; refine (HF.out _ hB6).mono ?_; rintro e w7 ⟨v7, rfl, hown7, hb7⟩; obtain ⟨A7, c7, rfl, hs7, _, _⟩ := SR.own (ok := okRw) enRw_len (by omega) hown7 HOF.out; clear hown7; have hB7 := bl_then hB6 (Nat.le_refl _) hb7; have hs57 := hs56.below hb7; have hs47 := hs46.below hb7)
        | (go_at_call 17; (have m_ := M2; clear M2 m_); refine (sameRw_yes _ _ _ _ _ _ _ _ hs7 hs57).mono ?_; rintro e w8 ⟨rfl, hb8⟩; have hB8 := bl_then hB7 (Nat.le_refl _) hb8; have hs58 := hs57.below hb8; have hs48 := hs47.below hb8)
        | (go_at_call 31; refine (HQ.out _ hB8).mono ?_; rintro e w9 ⟨rfl, hb9⟩; have hB9 := bl_then hB8 (Nat.le_refl _) hb9; have hs59 := hs58.below hb9; have hs49 := hs48.below hb9)
        | (go_at_call 17; refine (sameRw_any _ _ _ _ _ _ _ _ _ hs49 hs59).mono ?_; rintro e w10 ⟨rfl, hb10⟩; rw [← HBB.out]))
      go_ret
      exact ⟨by first | rfl | simp, bl_then hB9 (Nat.le_refl _) hb10⟩
    | false =>
      rw [Bool.false_and] at HQ
      go_enter Try.func6, Try.ntmps6
      go_wp2_with (first
        | (go_at_call 25; refine (awake24 _).mono ?_; rintro e w1 ⟨rfl, hb1⟩)
        | (go_at_call 26; refine (few_any a len cap L w1 (HEV.out _ hb1).1).mono ?_; rintro e w2 ⟨rfl, hb2⟩; rw [HFW.out]; have hB2 := bl_then hb1 (Nat.le_refl _) hb2)
        | (go_at_call 27; refine (HS.out _ hB2).mono ?_; rintro e w3 ⟨v3, rfl, hown3, hb3⟩; obtain ⟨A3, c3, rfl, hs3, _, _⟩ := SR.own (ok := okRw) enRw_len (by omega) hown3 HOR.out; clear hown3; have hB3 := bl_then hB2 (Nat.le_refl _) hb3)
        | (go_at_call 28; refine (HR.out _ hB3).mono ?_; rintro e w4 ⟨v4, rfl, hown4, hb4⟩; obtain ⟨A4, c4, rfl, hs4, _, _⟩ := SR.own (ok := okRw) enRw_len (by omega) hown4 HOR.out; clear hown4; have hB4 := bl_then hB3 (Nat.le_refl _) hb4; have hs34 := hs3.below hb4)
        | (go_at_call 29; refine (HG.out _ hB4).mono ?_; rintro e w5 ⟨v5, rfl, hown5, hb5⟩; obtain ⟨A5, c5, rfl, hs5, _, _⟩ := SR.own (ok := okRw) enRw_len (by omega) hown5 HOF.out; clear hown5; have hB5 := bl_then hB4 (Nat.le_refl _) hb5; have hs35 := hs34.below hb5; have hs45 := hs4.below hb5)
        | (go_at_call 17; (have m_ := M1; clear M1 m_); refine (sameRw_yes _ _ _ _ _ _ _ _ hs35 hs45).mono ?_; rintro e w6 ⟨rfl, hb6⟩; have hB6 := bl_then hB5 (Nat.le_refl _) hb6; have hs56 := hs5.below hb6)
        | (go_at_call 30; refine (HF.out _ hB6).mono ?_; rintro e w7 ⟨v7, rfl, hown7, hb7⟩; obtain ⟨A7, c7, rfl, hs7, _, _⟩ := SR.own (ok := okRw) enRw_len (by omega) hown7 HOF.out; clear hown7; have hB7 := bl_then hB6 (Nat.le_refl _) hb7; have hs57 := hs56.below hb7)
        | (go_at_call 17; (have m_ := M2; clear M2 m_); refine (sameRw_yes _ _ _ _ _ _ _ _ hs7 hs57).mono ?_; rintro e w8 ⟨rfl, hb8⟩; have hB8 := bl_then hB7 (Nat.le_refl _) hb8)
        | (go_at_call 31; refine (HQ.out _ hB8).mono ?_; rintro e w9 ⟨rfl, hb9⟩; have hB9 := bl_then hB8 (Nat.le_refl _) hb9))
      go_ret
      exact ⟨by first | rfl | simp, hB9⟩
end Go.Proofs.Ytjbhlckdaghppaa
