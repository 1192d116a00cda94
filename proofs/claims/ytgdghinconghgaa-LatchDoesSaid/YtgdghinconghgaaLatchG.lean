/- The walk of LatchGives, and what is done ahead in it. No condition. -/
import Derived.Test.YtgdghinconghgaaLatchD
import Derived.Test.YtgdghinconghgaaSame
import Derived.Test.YtgdghinconghgaaFlat
set_option linter.unusedVariables false
set_option linter.unusedSimpArgs false
namespace Go.Proofs.Ytgdghinconghgaa
open Go.RowKit (wrap32 wrap64)
open Go.RowKit
structure D3 where
  kind : Int
  who : Int
  i : Int
def ksD : List CK := [.int .i64, .int .i64, .int .i64]
theorem d3_of {c : List Value} (hl : c.length = ksD.length) (h : PW ksD c) : ∃ d : D3, c = [.int .i64 d.kind, .int .i64 d.who, .int .i64 d.i] := by
  match c, hl with
  | [v0, v1, v2], _ =>
    obtain ⟨n0, rfl, _⟩ := h 0 _ v0 rfl rfl
    obtain ⟨n1, rfl, _⟩ := h 1 _ v1 rfl rfl
    obtain ⟨n2, rfl, _⟩ := h 2 _ v2 rfl rfl
    exact ⟨⟨n0, n1, n2⟩, rfl⟩
theorem deed_at {w : World} {a : Option Addr} {len cap : Nat} {css : List (List Value)} (h : FlatRow w ksD a len cap css) {i : Nat} (hi : i < len) :
    ∃ b off, ∃ d : D3, a = some ⟨b, off, none⟩ ∧ w.cell? ⟨b, off + i * 3, none⟩ = some (.int .i64 d.kind) ∧ w.cell? ⟨b, off + i * 3 + 1, none⟩ = some (.int .i64 d.who) ∧ w.cell? ⟨b, off + i * 3 + 2, none⟩ = some (.int .i64 d.i) := by
  obtain ⟨b, off, c, ha, hc, hl, hp, hcell⟩ := h.get hi
  obtain ⟨d, rfl⟩ := d3_of hl hp
  have e : ksD.length = 3 := rfl
  rw [e] at hcell
  exact ⟨b, off, d, ha, hcell 0 (by omega), hcell 1 (by omega), hcell 2 (by omega)⟩
/-! ### The law -/
theorem ownP_at (L : List Ow) (who : Int) (k : Nat) (x : Ow) (h : L[k]? = some x) : ownP L who k = ownB who x := by unfold ownP; rw [h]
theorem ownP_set_ne (L : List Ow) (who : Int) (k j : Nat) (x : Ow) (h : j ≠ k) : ownP (L.set k x) who j = ownP L who j := by unfold ownP; rw [List.getElem?_set_ne (fun e => h e.symm)]
theorem ownP_set (L : List Ow) (who : Int) (k : Nat) (x : Ow) (hk : k < L.length) : ownP (L.set k x) who k = ownB who x := ownP_at _ _ _ _ (List.getElem?_set_self hk)
/-- A latch that is taken and given. -/
theorem tak_ok (L : List Ow) (who i : Int) (h : takE L who i = 0) : ∃ k : Nat, i = k ∧ k < L.length ∧ 0 ≤ who ∧ ownP L who k = false ∧ takL L who i = L.set k ⟨who, true⟩ := by
  have hl : takL L who i = L.set i.toNat ⟨who, true⟩ := by unfold takL; rw [if_pos h]
  unfold takE at h
  split at h
  · omega
  · split at h
    · omega
    · rename_i x hx
      unfold owAt at hx
      split at hx
      · split at h
        · omega
        · rename_i hw _ hi ho
          refine ⟨i.toNat, by omega, by omega, by omega, ?_, hl⟩
          rw [ownP_at _ _ _ _ hx]
          simpa using ho
      · cases hx
theorem heldL_len (L : List Ow) (who : Int) : (heldL L who).length ≤ L.length := hitTo_le _ _
theorem gives_law (L : List Ow) (who i : Int) (h : takE L who i = 0) :
    oneOf (takL L who i) i = ⟨who, true⟩ ∧ (heldL (takL L who i) who).length = (heldL L who).length + 1 ∧ givE (takL L who i) who i = 0 ∧ heldL (givL (takL L who i) who i) who = heldL L who ∧ givE (givL (takL L who i) who i) who i = 2 := by
  obtain ⟨k, rfl, hk, hw, ho, hl⟩ := tak_ok L who i h
  rw [hl]
  have hk1 : k < (L.set k ⟨who, true⟩).length := by rw [List.length_set]; exact hk
  have a1 : owAt (L.set k ⟨who, true⟩) k = some ⟨who, true⟩ := by
    rw [owAt_yes _ _ hk1]; simp
  have b1 : ownB who ⟨who, true⟩ = true := by unfold ownB; simp
  have b2 : ownB who ⟨0, false⟩ = false := rfl
  have g1 : givE (L.set k ⟨who, true⟩) who k = 0 := by
    unfold givE; rw [if_neg (by omega), a1]; simp [b1]
  have g2 : givL (L.set k ⟨who, true⟩) who k = (L.set k ⟨who, true⟩).set k ⟨0, false⟩ := by unfold givL; rw [if_pos g1]; rfl
  refine ⟨by unfold oneOf; rw [a1]; rfl, ?_, g1, ?_, ?_⟩
  · unfold heldL
    rw [List.length_set]
    exact hitTo_one _ _ k _ hk ho (by rw [ownP_set _ _ _ _ hk]; exact b1) (fun j hj => (ownP_set_ne L who k j _ hj).symm)
  · rw [g2]
    unfold heldL
    rw [List.length_set, List.length_set]
    apply hitTo_congr
    intro j hj
    by_cases e : j = k
    · subst e; rw [ownP_set _ _ _ _ hk1, ho]; exact b2
    · rw [ownP_set_ne _ _ _ _ _ e, ownP_set_ne _ _ _ _ _ e]
  · rw [g2]
    have hk2 : k < ((L.set k ⟨who, true⟩).set k ⟨0, false⟩).length := by rw [List.length_set]; exact hk1
    unfold givE
    rw [if_neg (by omega), owAt_yes _ _ hk2]
    simp [b2]
theorem sameB_refl (xs : List Int) : sameB xs xs = true := by unfold sameB; simp
set_option maxRecDepth 100000 in
set_option maxHeartbeats 4000000 in
theorem gives_any (n : Int) (a : Option Addr) (len cap : Nat) (css : List (List Value)) (who i : Int) (w : World) (hl : FlatRow w ksD a len cap css) :
    Calls Try.prog 12 #[.int .i64 n, .slice a len cap, .int .i64 who, .int .i64 i] w fun e w' => e = .returned (.bool true) ∧ Below w.heap.size w w' := by
  have hlc := hl.2.1
  have hcm : cap ≤ 9223372036854775807 := hl.2.2.1
  by_cases h1 : 40 < len
  · go_enter Try.func12, Try.ntmps12
    go_wp2_with fail
    refine (awake09 _).mono ?_
    rintro e w1 ⟨rfl, hb1⟩
    go_wp2
    go_ret
    exact ⟨rfl, hb1⟩
  go_enter Try.func12, Try.ntmps12
  go_wp2_with fail
  refine (awake09 _).mono ?_
  rintro e w1 ⟨rfl, hb1⟩
  go_wp2_with fail
  refine (lnew_any _ _).mono ?_
  rintro e w2 ⟨g, h, rfl, hB, hg, hh, bel⟩
  have hb2 := bl_then hb1 (Nat.le_refl _) bel
  have hs1 := hb1.size
  have hh0 : w.heap.size ≤ h := by omega
  have hnr := nL_range n
  have hlr : (List.replicate (nL n) (⟨0, false⟩ : Ow)).length = nL n := List.length_replicate
  generalize List.replicate (nL n) (⟨0, false⟩ : Ow) = L0 at hB hlr
  generalize nL n = N at hlr hnr
  clear bel hb1 hg hh hs1
  go_wp2_with fail
  go_loopw [24] (fun c wr => ∃ (k : Nat) (L : List Ow), k ≤ len ∧ c = .int .i64 k ∧ LSet wr g h L ∧ L.length = N ∧ Below w.heap.size w wr) (fun c _ => len - (intOf c).toNat)
  case atStart => exact ⟨0, L0, by omega, rfl, hB, hlr, hb2⟩
  case round =>
    clear hB hb2 hlr
    obtain ⟨k, L, hk, rfl, hB, hLN, HB⟩ := hrel
    by_cases hlt : k < len
    · obtain ⟨b, off, d, rfl, d0, d1, d2⟩ := deed_at (hl.below HB) hlt
      clear hl
      have hBa : LSet (wr.alloc (.cells #[.int .i64 d.kind, .int .i64 d.who, .int .i64 d.i] 81)) g h L := hB.below ((Below.refl _ _).alloc (Nat.le_refl _) _)
      have HBa : Below w.heap.size w (wr.alloc (.cells #[.int .i64 d.kind, .int .i64 d.who, .int .i64 d.i] 81)) := HB.alloc HB.size _
      by_cases hk0 : d.kind = 0
      · rw [hk0] at d0 hBa HBa
        clear hk0
        go_wp2_with fail
        refine (ltake_any _ _ _ _ _ _ hBa (by omega)).mono ?_
        rintro e w3 ⟨rfl, hB3, k3⟩
        have hb3 := bl_keep HBa k3 (fun i hi => by subst hi; omega)
        go_wp2
        go_roundw
        case rel => exact ⟨k + 1, _, by omega, by go_num, hB3, by rw [takL_len]; exact hLN, hb3⟩
        case measure => simp [intOf]; omega
      · have hk1 : (d.kind == 0) = false := beq_eq_false_iff_ne.2 hk0
        clear hk0
        go_wp2_with fail
        refine (lgive_any _ _ _ _ _ _ hBa (by omega)).mono ?_
        rintro e w3 ⟨rfl, hB3, k3⟩
        have hb3 := bl_keep HBa k3 (fun i hi => by subst hi; omega)
        go_wp2
        go_roundw
        case rel => exact ⟨k + 1, _, by omega, by go_num, hB3, by rw [givL_len]; exact hLN, hb3⟩
        case measure => simp [intOf]; omega
    · obtain rfl : k = len := by omega
      clear hl
      have hL64 : L.length ≤ 64 := by omega
      go_wp2_with fail
      refine (lheld_any _ _ _ _ _ hB hL64).mono ?_
      rintro e w3 ⟨v, rfl, hown, bel3⟩
      have hB3 := hB.below bel3
      have hb3 := bl_then HB (Nat.le_refl _) bel3
      obtain ⟨A3, c3, rfl, hI3⟩ := own_ints hown
      have hhl := heldL_len L who
      have hhlt := hB.lt.2
      clear hB HB hI3 bel3
      go_wp2_with fail
      refine (ltake_any _ _ _ _ _ _ hB3 hL64).mono ?_
      rintro e w4 ⟨rfl, hB4, k4⟩
      have hb4 := bl_keep hb3 k4 (fun i hi => by subst hi; omega)
      have hown4 := own_keepS hown k4 (fun i hi => by subst hi; exact hhlt)
      clear hown hB3 hb3 k4
      generalize hH : heldL L who = H at hown4 hhl ⊢
      have HH := Lib.hid hH
      have hlenH : H.length ≤ 64 := by omega
      by_cases ht : takE L who i = 0
      · obtain ⟨q1, q2, q3, q4, q5⟩ := gives_law L who i ht
        rw [hH] at q2 q4
        rw [ht]
        have hL4 : (takL L who i).length ≤ 64 := by rw [takL_len]; exact hL64
        generalize takL L who i = L4 at hB4 q1 q2 q3 q4 q5 hL4
        clear hH ht
        have Q2 := Lib.hid q2
        have Q4 := Lib.hid q4
        clear q2 q4
        go_wp2_with fail
        refine (lowner_any _ _ _ _ _ hB4 hL4).mono ?_
        rintro e w5 ⟨rfl, hb5⟩
        have hB5 := hB4.below hb5
        have hown5 := own_below hown4 hb5
        have hbb5 := bl_then hb4 (Nat.le_refl _) hb5
        clear hB4 hb4 hown4 hb5
        rw [q1]
        go_wp2_with fail
        refine (lheld_any _ _ _ _ _ hB5 hL4).mono ?_
        rintro e w6 ⟨v6, rfl, hown6, hb6⟩
        have hB6 := hB5.below hb6
        have hown7 := own_below hown5 hb6
        have hbb6 := bl_then hbb5 (Nat.le_refl _) hb6
        obtain ⟨A6, c6, rfl⟩ := own_slice hown6
        clear hown6 hB5 hbb5 hown5 hb6
        rw [Q2.out]
        go_wp2_with fail
        refine (lgive_any _ _ _ _ _ _ hB6 hL4).mono ?_
        rintro e w8 ⟨rfl, hB8, k8⟩
        have hbb8 := bl_keep hbb6 k8 (fun i hi => by subst hi; omega)
        have hown8 := own_keepS hown7 k8 (fun i hi => by subst hi; exact hhlt)
        clear hB6 hbb6 hown7 k8
        rw [q3]
        have hL8 : (givL L4 who i).length ≤ 64 := by rw [givL_len]; exact hL4
        go_wp2_with fail
        refine (lheld_any _ _ _ _ _ hB8 hL8).mono ?_
        rintro e w9 ⟨v9, rfl, hown9, hb9⟩
        have hB9 := hB8.below hb9
        have hown10 := own_below hown8 hb9
        have hbb9 := bl_then hbb8 (Nat.le_refl _) hb9
        rw [Q4.out] at hown9
        obtain ⟨A9, c9, rfl, hI9⟩ := own_ints hown9
        have hI10 := own_intsA hown10
        clear hown8 hB8 hbb8 hb9 hown9 hown10
        go_wp2_with fail
        refine (same_any _ _ _ _ _ _ _ _ _ hI9 hI10).mono ?_
        rintro e w11 ⟨rfl, hb11⟩
        have hB11 := hB9.below hb11
        have hbb11 := bl_then hbb9 (Nat.le_refl _) hb11
        clear hB9 hbb9 hb11
        rw [sameB_refl]
        go_wp2_with fail
        refine (lgive_any _ _ _ _ _ _ hB11 hL8).mono ?_
        rintro e w12 ⟨rfl, hB12, k12⟩
        have hbb12 := bl_keep hbb11 k12 (fun i hi => by subst hi; omega)
        rw [q5]
        go_wp2
        go_ret
        exact ⟨by simp, hbb12⟩
      · have hb : (takE L who i == 0) = false := beq_eq_false_iff_ne.2 ht
        have hl : takL L who i = L := by unfold takL; rw [if_neg ht]
        rw [hl] at hB4
        clear ht hl hH
        go_wp2_with fail
        refine (lheld_any _ _ _ _ _ hB4 hL64).mono ?_
        rintro e w9 ⟨v9, rfl, hown9, hb9⟩
        have hown10 := own_below hown4 hb9
        have hbb9 := bl_then hb4 (Nat.le_refl _) hb9
        rw [HH.out] at hown9
        obtain ⟨A9, c9, rfl, hI9⟩ := own_ints hown9
        have hI10 := own_intsA hown10
        go_wp2_with fail
        refine (same_any _ _ _ _ _ _ _ _ _ hI9 hI10).mono ?_
        rintro e w11 ⟨rfl, hb11⟩
        have hbb11 := bl_then hbb9 (Nat.le_refl _) hb11
        rw [sameB_refl]
        go_wp2
        go_ret
        exact ⟨rfl, hbb11⟩
end Go.Proofs.Ytgdghinconghgaa
