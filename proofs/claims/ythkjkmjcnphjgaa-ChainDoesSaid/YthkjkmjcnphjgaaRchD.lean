/- The reference's rows of places: Ahead. No condition. -/
import Derived.Test.YthkjkmjcnphjgaaRchC
set_option linter.unusedVariables false
set_option linter.unusedSimpArgs false
namespace Go.Proofs.Ythkjkmjcnphjgaa
open Go.RowKit (wrap32 wrap64)
open Go.RowKit
theorem ahead_iff {T : List Ln} {E : List En} {R : List (List Nat)} {n : Nat} (h : Rel T E R n) (k : Nat) (hk : k < n) (a i : Int) : aheadB n R k a i = (freeR n R k i && decide (atI R a = k)) := by
  unfold aheadB
  have : (inC n a && (atR R (k : Int)).contains a.toNat) = decide (atI R a = k) := by
    rcases at_cases h a with ⟨h1, _, _, hno⟩ | ⟨r, x, A, B, rfl, hx, hr, hR, hat, h1, _, _, _⟩
    · rw [h1]
      have e1 : decide ((-1 : Int) = (k : Int)) = false := by simp
      rw [e1]
      cases hin : inC n a with
      | false => rfl
      | true =>
        obtain ⟨y, rfl, hy, _⟩ := lkT_in T n a h.tl hin
        cases hc : (atR R (k : Int)).contains ((y : Nat) : Int).toNat with
        | false => rfl
        | true =>
          have hm : y ∈ atR R (k : Int) := by simpa using hc
          exact absurd rfl (hno _ (List.mem_of_getElem? (atR_in h.rl hk)) y hm)
    · rw [h1]
      have hin : inC n (x : Int) = true := by unfold inC; simp; omega
      rw [hin, show ((x : Nat) : Int).toNat = x by omega]
      by_cases e : r = k
      · subst e
        rw [hat]
        simp
      · have e1 : decide ((r : Int) = (k : Int)) = false := by simp; omega
        rw [e1]
        cases hc : (atR R (k : Int)).contains x with
        | false => rfl
        | true =>
          have hm : x ∈ atR R (k : Int) := by simpa using hc
          exact absurd (h.one hR (atR_in h.rl hk) (i := x) (by simp) hm) e
  rw [← this, Bool.and_assoc]
set_option maxRecDepth 100000 in
set_option maxHeartbeats 8000000 in
theorem rahead_any (gx h B n : Nat) (R : List (List Nat)) (row a i : Int) (w : World) (hc : Rch w gx h B n R) (hB : B ≤ w.heap.size) (T : List Ln) (E : List En) (hrel : Rel T E R n) :
    Calls Try.prog 23 #[.pointer (some ⟨gx, 0, none⟩), .int .i64 row, .int .i64 a, .int .i64 i] w (RchRet w (aheadB n R row a i) gx h B n (aheadR n R row a i)) := by
  have hat := rat_any gx h B n R a w hc
  have hf := fun w1 (hb : Below w.heap.size w w1) => rfree_any gx h B n R row i w1 (hc.below hb)
  rw [frX_eq hrel] at hf
  have HNO : Hid (aheadB n R row a i = false → ∀ w1, Below w.heap.size w w1 → RchRet w (aheadB n R row a i) gx h B n (aheadR n R row a i) (.returned (.bool false)) w1) := Lib.hid (fun h0 w1 hb => by
    have e : aheadR n R row a i = R := if_neg (by rw [h0]; simp)
    rw [e, h0]
    exact ⟨rfl, hc.below hb, Keep.of_below hb _⟩)
  obtain ⟨S, hc⟩ := hc
  have hn4 := hc.n4
  cases hfr : freeR n R row i with
  | false =>
    have HRET := Lib.hid (HNO.out (by unfold aheadB; rw [hfr]; rfl))
    rw [hfr] at hf
    have HF := Lib.hid hf
    have HAT := Lib.hid hat
    generalize aheadB n R row a i = bb at HRET ⊢
    generalize atI R a = t at HAT
    generalize poI R a = u at HAT
    clear hf hc hrel hfr hat HNO
    go_enter Try.func23, Try.ntmps23
    go_wp2_with (first
      | (go_at_call 27; refine HAT.out.mono ?_; rintro e w1 ⟨rfl, hb1⟩)
      | (go_at_call 73; refine (HF.out _ hb1).mono ?_; rintro e w2 ⟨rfl, hb2⟩))
    go_ret
    exact HRET.out _ (bl_then hb1 (Nat.le_refl _) hb2)
  | true =>
    rw [hfr] at hf
    have HF := Lib.hid hf
    have hfr2 := hfr
    unfold freeR at hfr2
    simp only [Bool.and_eq_true, Bool.not_eq_true'] at hfr2
    obtain ⟨k, rfl, hk, _⟩ := lkE_in E n row hrel.el hfr2.1.1
    obtain ⟨j, rfl, hj, _⟩ := lkT_in T n i hrel.tl hfr2.1.2
    have hiff := ahead_iff hrel k hk a j
    rw [hfr, Bool.true_and] at hiff
    by_cases hak : atI R a = k
    · rcases at_cases hrel a with ⟨h1, _, _, _⟩ | ⟨r, x, A, D, rfl, hx, hrn, hR, hatr, h1, hpo, hxA, _⟩
      · omega
      obtain rfl : r = k := by omega
      have hyes : aheadB n R (r : Int) (x : Int) j = true := by rw [hiff, hak]; simp
      have er : aheadR n R (r : Int) (x : Int) j = R.set r (A ++ j :: x :: D) := by
        unfold aheadR
        rw [if_pos hyes, hatr, show ((r : Nat) : Int).toNat = r by omega, show ((x : Nat) : Int).toNat = x by omega, show ((j : Nat) : Int).toNat = j by omega, insB_split _ _ _ _ hxA]
      rw [er, hyes]
      rw [h1, hpo] at hat
      have HAT := Lib.hid hat
      have hlen := (hrel.rows r).2.2
      rw [hatr] at hlen
      obtain ⟨⟨sa, sn, sc⟩, hs⟩ : ∃ s, S[r]? = some s := ⟨_, List.getElem?_eq_getElem (by rw [hc.sl]; exact hrn)⟩
      have HCW : Hid (∀ w1, Below w.heap.size w w1 → RchAt w1 gx h B n S R ∧ RowOk B w1 ⟨sa, sn, sc⟩ (A ++ x :: D) ∧ w1.cell? ⟨h, r, none⟩ = some (.slice sa sn sc)) := Lib.hid (fun w1 hb => by
        have h1 := hc.keep (Keep.of_below hb (fun _ => False)) (fun _ h => h.elim) (fun h => h) (fun h => h)
        have h2 := h1.row.cell enSl_len hs 0 (by omega)
        rw [Nat.mul_one, Nat.add_zero] at h2
        exact ⟨h1, h1.each r _ _ hs hR, h2⟩)
      obtain ⟨i0, hi0, hz0, hz1, hz2⟩ := info_parts Try.infoI
      clear hf hat hc hrel hfr hfr2 er hs hR hatr hyes hiff hak h1 hpo HNO hxA
      obtain ⟨p, hp⟩ : ∃ p, A.length = p := ⟨_, rfl⟩
      obtain ⟨q, hq⟩ : ∃ q, (x :: D).length = q := ⟨_, rfl⟩
      have hq1 : 1 ≤ q := by rw [← hq]; simp
      have HP := Lib.hid hp
      have HQ := Lib.hid hq
      have hpq : p + q ≤ n := by rw [← hp, ← hq]; rw [List.length_append] at hlen; exact hlen
      rw [hp] at HAT
      clear hp hq hlen
      go_enter Try.func23, Try.ntmps23
      go_wp2_with (first
        | (go_at_call 27; refine HAT.out.mono ?_; rintro e w0 ⟨rfl, hb0⟩)
        | (go_at_call 73; refine (HF.out _ hb0).mono ?_; rintro e w1 ⟨rfl, hb1'⟩; have hb1 := bl_then hb0 (Nat.le_refl _) hb1'; obtain ⟨hc1, hro, hcell⟩ := HCW.out w1 hb1; have c1 := hc1.bk.cell 1; have hln := hro.len; rw [List.length_append, HP.out, HQ.out] at hln; dsimp only at hln; subst hln))
      have hB1 : B ≤ w1.heap.size := Nat.le_trans hB hb1.size
      have HC1 := Lib.hid hc1
      have HRO := Lib.hid hro
      have hlc := hro.lc
      have hcm := hro.cm
      dsimp only at hlc hcm
      obtain ⟨b, rfl⟩ : ∃ b, sa = some ⟨b, 0, none⟩ := by
        rcases hro.row with h | ⟨b, h, _⟩
        · have := h.2.1; dsimp only at this; omega
        · exact ⟨b, h⟩
      have kA : Keep (fun _ => False) w1 ((w1.alloc (.cells #[.int .i64 j] 3)).drew) := Keep.trans (Keep.alloc _ _ _) (Keep.drew _ _)
      have hroA := hro.keep kA (fun _ h => h.elim)
      have hnewsA := hroA.drops b rfl p
      rw [show (A ++ x :: D).drop p = x :: D by rw [← HP.out]; exact List.drop_left' rfl] at hnewsA
      have hnl : (flatV enI (natI (x :: D))).length = q * 1 := by rw [flatI_len, HQ.out]
      have cA : (w1.alloc (.cells #[.int .i64 j] 3)).cell? ⟨gx, 1, none⟩ = some (.slice (some ⟨h, 0, none⟩) n n) := (hc1.keep kA (fun _ h => h.elim) (fun h => h) (fun h => h)).bk.cell 1
      have cD : w1.drew.cell? ⟨gx, 1, none⟩ = some (.slice (some ⟨h, 0, none⟩) n n) := c1
      have hone := flatI_one (x :: D)
      have hp1 : p ≤ sc := by omega
      have hp2 : p ≤ p + q := by omega
      have hp3 : (p : Int) ≤ (sc : Int) := by omega
      have hp4 : (p : Int) ≤ ((p + q : Nat) : Int) := by omega
      have hp6 : (p : Int) ≤ (p : Int) + (q : Int) := by omega
      have hp7 : ¬ sc = p := by omega
      have hp5 : p + q - p = q := by omega
      clear hc1 hro
      go_region_law (first
        | (refine step_append_grows (by rfl) _ _ 22 (by rfl) 3 i0 _ 1 8 Try.underlying22 hi0 hz0 hz1 hz2 rfl (by omega) (some ⟨w1.heap.size, 0, none⟩) 1 1 [.int .i64 j] (by rfl) (by intro h; cases h) rfl (fun b hb => by cases hb; exact World.news_of_block (cs := #[.int .i64 j]) (t := 3) (fr := (0, 0)) (heap_alloc_new w1 _)) ⟨b, p, none⟩ q (sc - p) (flatV enI (natI (x :: D))) (by rfl) hnl hnewsA hone (by omega) (by unfold maxLen; omega) (by omega) ?_
           intro v' w2 hown hgr
           have k2 : Keep (fun _ => False) w1 w2 := Keep.trans kA (grown_keep hgr _ (fun i hi => by cases hi))
           obtain ⟨A1, c1', rfl, hro1⟩ := RowOk.of_own (B := B) (l := j :: x :: D) hown (Nat.le_trans hB1 kA.size) (by simp [← HQ.out]; omega)
           obtain ⟨b1, rfl⟩ : ∃ b1, A1 = some ⟨b1, 0, none⟩ := by
             rcases hro1.row with h | ⟨b, h, _⟩
             · have := h.2.1; dsimp only at this; omega
             · exact ⟨b, h⟩
           have cB : w2.cell? ⟨gx, 1, none⟩ = some (.slice (some ⟨h, 0, none⟩) n n) := (HC1.out.keep k2 (fun _ h => h.elim) (fun h => h) (fun h => h)).bk.cell 1
           have hro2 := (HRO.out.keep k2 (fun _ h => h.elim)).cut p (by dsimp only; omega)
           rw [show (A ++ x :: D).take p = A by rw [← HP.out]; exact List.take_left' rfl] at hro2)
        | (refine step_append_grows (by rfl) _ _ 22 (by rfl) 3 i0 _ 1 8 Try.underlying22 hi0 hz0 hz1 hz2 rfl (by omega) (some ⟨b, 0, none⟩) p p (flatV enI (natI A)) (by rfl) (by intro h; cases h) (by rw [flatI_len, HP.out]) hro2.holds ⟨b1, 0, none⟩ (1 + q) c1' (flatV enI (natI (j :: x :: D))) (by rfl) (by rw [flatI_len]; simp [← HQ.out]; omega) (hro1.holds _ rfl) (flatI_one _) (by omega) (by unfold maxLen; omega) (by omega) ?_
           intro v' w3 hown3 hgr3
           obtain ⟨A2, c2, s2, rfl, hc2, hcell2, hfz2, hret2⟩ := rch_stored HC1.out k2 (Nat.le_trans hB1 k2.size) v' (p + (1 + q)) (A ++ j :: x :: D) (by rw [flatI_app]; exact hown3) (by rw [List.length_append, HP.out, ← HQ.out]; simp; omega) hgr3 r hrn))
      all_goals
        clear hcell2 hfz2 hc2 cA cD hcell c1
        go_wp2
        go_ret
        exact ⟨rfl, hret2.2.1, Keep.trans (Keep.of_below hb1 _) hret2.2.2⟩
    · have HRET := Lib.hid (HNO.out (by rw [hiff]; simp; omega))
      have HAT := Lib.hid hat
      have hne : (atI R a != (k : Int)) = true := bne_iff_ne.2 hak
      generalize aheadB n R (k : Int) a (j : Int) = bb at HRET ⊢
      generalize atI R a = t at HAT hne
      generalize poI R a = u at HAT
      clear hf hc hrel hfr hat HNO hfr2 hiff hak
      go_enter Try.func23, Try.ntmps23
      go_wp2_with (first
        | (go_at_call 27; refine HAT.out.mono ?_; rintro e w1 ⟨rfl, hb1⟩)
        | (go_at_call 73; refine (HF.out _ hb1).mono ?_; rintro e w2 ⟨rfl, hb2⟩))
      go_ret
      exact HRET.out _ (bl_then hb1 (Nat.le_refl _) hb2)
end Go.Proofs.Ythkjkmjcnphjgaa
