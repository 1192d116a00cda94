/- The reference's rows of places: Cut. No condition. -/
import Derived.Test.YthkjkmjcnphjgaaRchD
set_option linter.unusedVariables false
set_option linter.unusedSimpArgs false
namespace Go.Proofs.Ythkjkmjcnphjgaa
open Go.RowKit (wrap32 wrap64)
open Go.RowKit
set_option maxRecDepth 100000 in
set_option maxHeartbeats 8000000 in
theorem rcut_any (gx h B n : Nat) (R : List (List Nat)) (i : Int) (w : World) (hc : Rch w gx h B n R) (hB : B ≤ w.heap.size) (T : List Ln) (E : List En) (hrel : Rel T E R n) :
    Calls Try.prog 25 #[.pointer (some ⟨gx, 0, none⟩), .int .i64 i] w (RchRet w (atI R i != -1) gx h B n (cutR R i)) := by
  have hat := rat_any gx h B n R i w hc
  have HRC := Lib.hid hc
  obtain ⟨S, hc⟩ := hc
  have hn4 := hc.n4
  rcases at_cases hrel i with ⟨h1, hpo, _, _⟩ | ⟨r, x, A, D, rfl, hx, hrn, hR, hatr, h1, hpo, hxA, _⟩
  · have e : cutR R i = R := if_pos h1
    rw [e, h1]
    rw [h1, hpo] at hat
    have HAT := Lib.hid hat
    have HRET : Hid (∀ w1, Below w.heap.size w w1 → RchRet w false gx h B n R (.returned (.bool false)) w1) := Lib.hid (fun w1 hb => ⟨rfl, HRC.out.below hb, Keep.of_below hb _⟩)
    clear hat hc hrel e h1 hpo HRC
    go_enter Try.func25, Try.ntmps25
    go_wp2_with (go_at_call 27; refine HAT.out.mono ?_; rintro e w1 ⟨rfl, hb1⟩)
    go_ret
    exact HRET.out _ hb1
  · have e : cutR R (x : Int) = R.set r (A ++ D) := by
      unfold cutR
      rw [h1, if_neg (by omega), show ((x : Nat) : Int).toNat = x by omega]
      exact hrel.cut A D r x hR
    have e2 : ((r : Int) != -1) = true := bne_iff_ne.2 (by omega)
    rw [e, h1, e2]
    rw [h1, hpo] at hat
    have hlen := (hrel.rows r).2.2
    rw [hatr] at hlen
    obtain ⟨⟨sa, sn, sc⟩, hs⟩ : ∃ s, S[r]? = some s := ⟨_, List.getElem?_eq_getElem (by rw [hc.sl]; exact hrn)⟩
    have HCW : Hid (∀ w1, Below w.heap.size w w1 → RchAt w1 gx h B n S R ∧ RowOk B w1 ⟨sa, sn, sc⟩ (A ++ x :: D) ∧ w1.cell? ⟨h, r, none⟩ = some (.slice sa sn sc)) := Lib.hid (fun w1 hb => by
      have h1 := hc.keep (Keep.of_below hb (fun _ => False)) (fun _ h => h.elim) (fun h => h) (fun h => h)
      have h2 := h1.row.cell enSl_len hs 0 (by omega)
      rw [Nat.mul_one, Nat.add_zero] at h2
      exact ⟨h1, h1.each r _ _ hs hR, h2⟩)
    obtain ⟨i0, hi0, hz0, hz1, hz2⟩ := info_parts Try.infoI
    clear hc hrel e e2 h1 hpo HRC hs hR hatr hxA
    obtain ⟨p, hp⟩ : ∃ p, A.length = p := ⟨_, rfl⟩
    obtain ⟨q, hq⟩ : ∃ q, D.length = q := ⟨_, rfl⟩
    have HP := Lib.hid hp
    have HQ := Lib.hid hq
    have hpq : p + 1 + q ≤ n := by rw [← hp, ← hq]; rw [List.length_append, List.length_cons] at hlen; omega
    rw [hp] at hat
    have HAT := Lib.hid hat
    clear hp hq hlen hat
    go_enter Try.func25, Try.ntmps25
    go_wp2_with (go_at_call 27; refine HAT.out.mono ?_; rintro e w1 ⟨rfl, hb1⟩; obtain ⟨hc1, hro, hcell⟩ := HCW.out w1 hb1; have c1 := hc1.bk.cell 1; have hln := hro.len; rw [List.length_append, List.length_cons, HP.out, HQ.out] at hln; dsimp only at hln; obtain rfl : sn = p + 1 + q := by omega)
    have hB1 : B ≤ w1.heap.size := Nat.le_trans hB hb1.size
    have HC1 := Lib.hid hc1
    have HRO := Lib.hid hro
    have hlc := hro.lc
    have hcm := hro.cm
    dsimp only at hlc hcm
    obtain ⟨b, rfl⟩ : ∃ b, sa = some ⟨b, 0, none⟩ := by
      rcases hro.row with h | ⟨b, h, _⟩
      · have := h.2.1; dsimp only at this; omega
      · exact ⟨b, h⟩
    have kA : Keep (fun _ => False) w1 w1.drew := Keep.drew _ _
    have hroA := hro.keep kA (fun _ h => h.elim)
    have hnewsA := hroA.drops b rfl (p + 1)
    rw [show (A ++ x :: D).drop (p + 1) = D by rw [← HP.out]; exact drop_past A x D] at hnewsA
    have hro2 := hroA.cut p (by dsimp only; omega)
    rw [show (A ++ x :: D).take p = A by rw [← HP.out]; exact List.take_left' rfl] at hro2
    have hnl : (flatV enI (natI D)).length = q * 1 := by rw [flatI_len, HQ.out]
    have cD : w1.drew.cell? ⟨gx, 1, none⟩ = some (.slice (some ⟨h, 0, none⟩) n n) := c1
    have hone := flatI_one D
    have hp1 : p ≤ sc := by omega
    have hp2 : p ≤ p + 1 + q := by omega
    have hp3 : (p : Int) ≤ (sc : Int) := by omega
    have hp5 : p + 1 + q - (p + 1) = q := by omega
    have hp6 : (p : Int) + 1 ≤ (p : Int) + 1 + (q : Int) := by omega
    have hp9 : (0 : Int) ≤ (p : Int) + 1 := by omega
    have hp8 : IntKind.i64.wrap ((p : Int) + 1) = (p : Int) + 1 := by rw [IntKind.wrap_i64]; omega
    clear hc1 hro
    by_cases hq0 : q = 0
    · have HQ0 := Lib.hid hq0
      have hD0 : D = [] := List.eq_nil_of_length_eq_zero (HQ.out.trans hq0)
      have HST : Hid (RchRet w1 true gx h B n (R.set r (A ++ D)) (.returned (.bool true)) (w1.drew.setCell ⟨h, r, none⟩ (.slice (some ⟨b, 0, none⟩) p p))) := Lib.hid (by
        rw [hD0, List.append_nil]
        have hcD := HC1.out.keep kA (fun _ h => h.elim) (fun h => h) (fun h => h)
        obtain ⟨hc3, k3⟩ := hcD.put r hrn ⟨some ⟨b, 0, none⟩, p, p⟩ A hro2
        exact ⟨rfl, ⟨_, hc3⟩, Keep.trans (kA.mono (fun _ h => h.elim)) k3⟩)
      have hcD : w1.drew.cell? ⟨h, r, none⟩ = some (.slice (some ⟨b, 0, none⟩) (p + 1 + q) sc) := hcell
      have hfz : w1.frozen? ⟨h, r, none⟩ = false := HC1.out.row.frozen r
      have hfzD : w1.drew.frozen? ⟨h, r, none⟩ = false := hfz
      obtain ⟨XO, hXO⟩ : ∃ XO, (if sc = p + 1 then (some ⟨b, 0, none⟩ : Option Addr) else some ⟨b, p + 1, none⟩) = XO := ⟨_, rfl⟩
      clear hD0 hq0
      go_region_law (refine step_append_nothing (by rfl) _ _ 22 (by rfl) 3 i0 Try.underlying22 hi0 (some ⟨b, 0, none⟩) p p (by simp [Act.eval, Act.put]) (Nat.le_refl _) XO (sc - (p + 1)) (by simp [Act.eval, Act.put]; exact HQ0.out) ?_)
      all_goals
        clear cD hcD hcell c1 hfz hfzD
        go_wp2
        go_ret
        exact ⟨rfl, HST.out.2.1, Keep.trans (Keep.of_below hb1 _) HST.out.2.2⟩
    · have hp7 : ¬ sc = p + 1 := by omega
      go_region_law ((refine step_append_grows (by rfl) _ _ 22 (by rfl) 3 i0 _ 1 8 Try.underlying22 hi0 hz0 hz1 hz2 rfl (by omega) (some ⟨b, 0, none⟩) p p (flatV enI (natI A)) (by simp [Act.eval, Act.put]) (by intro h; cases h) (by rw [flatI_len, HP.out]) hro2.holds ⟨b, p + 1, none⟩ q (sc - (p + 1)) (flatV enI (natI D)) (by simp [Act.eval, Act.put]) hnl hnewsA hone (by omega) (by unfold maxLen; omega) (by omega) ?_
                      intro v' w3 hown3 hgr3
                      obtain ⟨A2, c2, s2, rfl, hc2, hcell2, hfz2, hret2⟩ := rch_stored HC1.out kA hB1 v' (p + q) (A ++ D) (by rw [flatI_app]; exact hown3) (by rw [List.length_append, HP.out, HQ.out]) hgr3 r hrn))
      all_goals
        clear hcell2 hfz2 hc2 cD hcell c1
        go_wp2
        go_ret
        exact ⟨rfl, hret2.2.1, Keep.trans (Keep.of_below hb1 _) hret2.2.2⟩
end Go.Proofs.Ythkjkmjcnphjgaa
