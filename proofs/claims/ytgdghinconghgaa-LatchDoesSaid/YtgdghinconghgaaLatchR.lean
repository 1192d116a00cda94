/- The walk of LatchRank. No condition. -/
import Derived.Test.YtgdghinconghgaaLatchG
set_option linter.unusedVariables false
set_option linter.unusedSimpArgs false
namespace Go.Proofs.Ytgdghinconghgaa
open Go.RowKit (wrap32 wrap64)
open Go.RowKit
theorem anyO_drop (L : List Ow) (who : Int) (z k : Nat) (h : anyO who (L.drop z) = false) (hk : ownP L who k = true) : k < z := by
  by_cases hlt : k < z
  · exact hlt
  · exfalso
    unfold ownP at hk
    split at hk
    · rename_i x hx
      have hm : x ∈ L.drop z := by
        rw [List.mem_iff_getElem?]
        exact ⟨k - z, by rw [List.getElem?_drop, show z + (k - z) = k by omega]; exact hx⟩
      have : anyO who (L.drop z) = true := by
        unfold anyO; rw [List.any_eq_true]; exact ⟨x, hm, hk⟩
      rw [h] at this; cases this
    · cases hk
theorem rank_law (L : List Ow) (who z : Int) (h : takE L who z = 31) : (oneOf L z).is = true ∧ (oneOf L z).who ≠ who ∧ ∀ x ∈ heldL L who, x < z := by
  unfold takE at h
  split at h
  · omega
  · split at h
    · omega
    · rename_i x hx
      split at h
      · omega
      · split at h
        · omega
        · split at h
          · rename_i ho ha hi
            have hone : oneOf L z = x := by unfold oneOf; rw [hx]; rfl
            rw [hone]
            refine ⟨hi, ?_, ?_⟩
            · intro e
              apply ho
              unfold ownB
              simp [hi, e]
            · intro y hy
              obtain ⟨k, rfl, hk, hp⟩ := hitTo_mem _ _ _ hy
              have := anyO_drop L who z.toNat k (by simpa using ha) hp
              omega
          · omega
set_option maxRecDepth 100000 in
set_option maxHeartbeats 4000000 in
theorem rank_any (n : Int) (a : Option Addr) (len cap : Nat) (css : List (List Value)) (ab : Option Addr) (lenb capb : Nat) (zs : List Int) (w : World) (hl : FlatRow w ksD a len cap css) (hz : IsRow .i64 w ab lenb capb zs) :
    Calls Try.prog 11 #[.int .i64 n, .slice a len cap, .slice ab lenb capb] w fun e w' => e = .returned (.bool true) ∧ Below w.heap.size w w' := by
  have hlc := hl.2.1
  have hcm : cap ≤ 9223372036854775807 := hl.2.2.1
  obtain ⟨hi, _, hlcb, hcmb⟩ := hz.ints
  generalize zs.take lenb = ys at hi
  have hys := hi.len
  clear hz
  by_cases h1 : 40 < len
  · go_enter Try.func11, Try.ntmps11
    go_wp2_with fail
    refine (awake09 _).mono ?_
    rintro e w1 ⟨rfl, hb1⟩
    go_wp2
    go_ret
    exact ⟨rfl, hb1⟩
  by_cases h8 : 8 < lenb
  · go_enter Try.func11, Try.ntmps11
    go_wp2_with fail
    refine (awake09 _).mono ?_
    rintro e w1 ⟨rfl, hb1⟩
    go_wp2
    go_ret
    exact ⟨rfl, hb1⟩
  go_enter Try.func11, Try.ntmps11
  go_wp2_with fail
  refine (awake09 _).mono ?_
  rintro e w1 ⟨rfl, hb1⟩
  go_wp2_with fail
  refine (lnew_any _ _).mono ?_
  rintro e w2 ⟨g, h, rfl, hB, hg, hh, bel⟩
  have hb2 := bl_then hb1 (Nat.le_refl _) bel
  have hs1 := hb1.size
  have hh0 : w.heap.size ≤ h := by omega
  have hnr := nL_range n
  have hlr : (List.replicate (nL n) (⟨0, false⟩ : Ow)).length = nL n := List.length_replicate
  generalize List.replicate (nL n) (⟨0, false⟩ : Ow) = L0 at hB hlr
  generalize nL n = N at hlr hnr
  clear bel hb1 hg hh hs1
  go_wp2_with fail
  go_loopw [33] (fun c wr => ∃ (k : Nat) (L : List Ow), k ≤ len ∧ c = .int .i64 k ∧ LSet wr g h L ∧ L.length = N ∧ Below w.heap.size w wr) (fun c _ => len - (intOf c).toNat)
  case atStart => exact ⟨0, L0, by omega, rfl, hB, hlr, hb2⟩
  case round =>
    clear hB hb2 hlr
    obtain ⟨k, L, hk, rfl, hB, hLN, HB⟩ := hrel
    by_cases hlt : k < len
    · obtain ⟨b, off, d, rfl, d0, d1, d2⟩ := deed_at (hl.below HB) hlt
      clear hl
      have hBa : LSet (wr.alloc (.cells #[.int .i64 d.kind, .int .i64 d.who, .int .i64 d.i] 81)) g h L := hB.below ((Below.refl _ _).alloc (Nat.le_refl _) _)
      have HBa : Below w.heap.size w (wr.alloc (.cells #[.int .i64 d.kind, .int .i64 d.who, .int .i64 d.i] 81)) := HB.alloc HB.size _
      by_cases hk0 : d.kind = 0
      · rw [hk0] at d0 hBa HBa
        clear hk0
        go_wp2_with fail
        refine (ltake_any _ _ _ _ _ _ hBa (by omega)).mono ?_
        rintro e w3 ⟨rfl, hB3, k3⟩
        have hb3 := bl_keep HBa k3 (fun i hi => by subst hi; omega)
        go_wp2
        go_roundw
        case rel => exact ⟨k + 1, _, by omega, by go_num, hB3, by rw [takL_len]; exact hLN, hb3⟩
        case measure => simp [intOf]; omega
      · have hk1 : (d.kind == 0) = false := beq_eq_false_iff_ne.2 hk0
        clear hk0
        go_wp2_with fail
        refine (lgive_any _ _ _ _ _ _ hBa (by omega)).mono ?_
        rintro e w3 ⟨rfl, hB3, k3⟩
        have hb3 := bl_keep HBa k3 (fun i hi => by subst hi; omega)
        go_wp2
        go_roundw
        case rel => exact ⟨k + 1, _, by omega, by go_num, hB3, by rw [givL_len]; exact hLN, hb3⟩
        case measure => simp [intOf]; omega
    · obtain rfl : k = len := by omega
      clear hl
      go_wp2_with fail
      go_loopw [55] (fun c wr => ∃ (j : Nat) (L : List Ow), j ≤ lenb ∧ c = .int .i64 j ∧ LSet wr g h L ∧ L.length = N ∧ Below w.heap.size w wr) (fun c _ => lenb - (intOf c).toNat)
      case atStart => exact ⟨0, L, by omega, rfl, hB, hLN, HB⟩
      case round =>
        clear hB hLN HB
        obtain ⟨j, L, hj, rfl, hB, hLN, HB⟩ := hrel
        have hL64 : L.length ≤ 64 := by omega
        by_cases hlt2 : j < lenb
        · obtain ⟨b, off, rfl, hcz⟩ := (hi.below HB).get hlt2
          generalize ys.getD j 0 = z at hcz
          have hre := rank_law L j z
          go_wp2_with fail
          refine (ltake_any _ _ _ _ _ _ hB hL64).mono ?_
          rintro e w4 ⟨rfl, hB4, k4⟩
          have hb4 := bl_keep HB k4 (fun i hi => by subst hi; omega)
          clear hB HB k4
          by_cases ht : takE L j z = 31
          · obtain ⟨q1, q2, q3⟩ := hre ht
            have hl : takL L j z = L := by unfold takL; rw [if_neg (by rw [ht]; decide)]
            rw [hl] at hB4
            rw [ht]
            have hcon := lowner_any g h L z w4 hB4 hL64
            generalize oneOf L z = x at q1 q2 hcon
            obtain ⟨xw, xi⟩ := x
            dsimp only at q1 q2
            subst q1
            have q2b : (xw == (j : Int)) = false := beq_eq_false_iff_ne.2 q2
            have Q3 := Lib.hid q3
            have HCON := Lib.hid hcon
            clear hre ht hl q2 q3 hcon
            go_wp2_with fail
            refine HCON.out.mono ?_
            rintro e w5 ⟨rfl, hb5⟩
            have hB5 := hB4.below hb5
            have hbb5 := bl_then hb4 (Nat.le_refl _) hb5
            clear HCON hB4 hb4 hb5
            dsimp only
            go_wp2_with fail
            refine (lheld_any _ _ _ _ _ hB5 hL64).mono ?_
            rintro e w6 ⟨v6, rfl, hown6, hb6⟩
            have hB6 := hB5.below hb6
            have hbb6 := bl_then hbb5 (Nat.le_refl _) hb6
            have hhl := heldL_len L j
            obtain ⟨A6, c6, rfl, hI6⟩ := own_ints hown6
            clear hown6 hB5 hbb5 hb6
            generalize heldL L j = H at hI6 Q3 hhl ⊢
            have hH64 : H.length ≤ 64 := by omega
            go_wp2_with fail
            go_loop [82] (fun c => ∃ q : Nat, q ≤ H.length ∧ c = .int .i64 q) (fun c => H.length - (intOf c).toNat)
            case atStart => exact ⟨0, by omega, rfl⟩
            case round =>
              obtain ⟨q, hq, rfl⟩ := hrel
              by_cases hlt3 : q < H.length
              · obtain ⟨b3, o3, rfl, hc3⟩ := hI6.get hlt3
                have hlt4 : H.getD q 0 < z := Q3.out _ (by rw [List.getD_eq_getElem?_getD, List.getElem?_eq_getElem hlt3]; exact List.getElem_mem _)
                generalize H.getD q 0 = y at hc3 hlt4
                go_wp2
                go_round
                case rel => exact ⟨q + 1, by omega, by go_num⟩
                case measure => simp [intOf]; omega
              · obtain rfl : q = H.length := by omega
                go_wp2
                go_roundw
                case rel => exact ⟨j + 1, L, by omega, by go_num, hB6, hLN, hbb6⟩
                case measure => simp [intOf]; omega
          · have hb : (takE L j z == 31) = false := beq_eq_false_iff_ne.2 ht
            clear ht hre
            go_wp2
            go_roundw
            case rel => exact ⟨j + 1, _, by omega, by go_num, hB4, by rw [takL_len]; exact hLN, hb4⟩
            case measure => simp [intOf]; omega
        · obtain rfl : j = lenb := by omega
          go_wp2_with (first
            | (go_at_call 52; refine (lowner_nil _ _).mono ?_; rintro e w' ⟨rfl, rfl⟩)
            | (go_at_call 48; refine (ltake_nil _ _).mono ?_; rintro e w' ⟨rfl, rfl⟩)
            | (go_at_call 50; refine (lgive_nil _ _).mono ?_; rintro e w' ⟨rfl, rfl⟩)
            | (go_at_call 54; refine (lheld_nil _ _).mono ?_; rintro e w' ⟨rfl, rfl⟩)
            | (go_at_call 56; refine (lfree_nil _).mono ?_; rintro e w' ⟨rfl, rfl⟩)
            | (go_at_call 57; refine (llen_nil _).mono ?_; rintro e w' ⟨rfl, rfl⟩))
          go_ret
          exact ⟨rfl, HB⟩
end Go.Proofs.Ytgdghinconghgaa
