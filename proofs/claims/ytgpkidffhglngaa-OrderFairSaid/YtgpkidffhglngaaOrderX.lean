/- The statement OrderDraws: the walk. No condition. -/
import Derived.Test.YtgpkidffhglngaaOrderW
import Derived.IntWalk
set_option linter.unusedVariables false
set_option linter.unusedSimpArgs false
namespace Go.Proofs.Ytgpkidffhglngaa
open Go.RowKit (wrap32 wrap64)
open Go.RowKit Plain
def oM (n many : Int) : Nat := if oMay n many = true then many.toNat else 0
theorem round_all (n many : Int) (w : World) : Calls Try.prog 15 #[.int .i64 n, .int .i64 many] w (OwnRet w (oM n many) (roundL n (oM n many))) := by
  cases h : oMay n many
  · have e : oM n many = 0 := by unfold oM; rw [h]; rfl
    rw [e]
    refine (round_no n many h w).mono ?_
    rintro e w' ⟨rfl, rfl⟩
    exact ⟨_, rfl, World.ownsRow_nil _ _ _ _, Below.refl _ _⟩
  · have hs := oMay_spec n many h
    obtain ⟨M, rfl⟩ := Int.eq_ofNat_of_zero_le hs.2.2.1
    have e : oM n M = M := by unfold oM; rw [h]; rfl
    rw [e]
    exact round_yes n M h w
theorem drawn_all (n many s : Int) (h0 : 0 ≤ s) (h1 : s < 18446744073709551616) (w : World) : Calls Try.prog 16 #[.int .i64 n, .int .i64 many, .int .u64 s] w (OwnRet w (oM n many) (drawnL n (oM n many) s)) := by
  cases h : oMay n many
  · have e : oM n many = 0 := by unfold oM; rw [h]; rfl
    rw [e]
    refine (drawn_no n many s h w).mono ?_
    rintro e w' ⟨rfl, rfl⟩
    exact ⟨_, rfl, World.ownsRow_nil _ _ _ _, Below.refl _ _⟩
  · have hs := oMay_spec n many h
    obtain ⟨M, rfl⟩ := Int.eq_ofNat_of_zero_le hs.2.2.1
    have e : oM n M = M := by unfold oM; rw [h]; rfl
    rw [e]
    exact drawn_yes n M s h h0 h1 w
theorem roundL_get (n : Int) (M k : Nat) (h : k < M) : (roundL n M).getD k 0 = (k : Int) % n := by
  unfold roundL; simp [List.getD_eq_getElem?_getD, h]
theorem drawnL_get (n s : Int) (M k : Nat) (h : k < M) : (drawnL n M s).getD k 0 = drawI n s k := by
  unfold drawnL; simp [List.getD_eq_getElem?_getD, h]
theorem oM_cases (n many : Int) (hm : many ≤ 300) : (1 ≤ n ∧ n ≤ 64 ∧ 0 ≤ many ∧ (oM n many : Int) = many) ∨ ((n < 1 ∨ 64 < n ∨ many < 0) ∧ oM n many ≤ 0) := by
  unfold oM oMay
  by_cases h : 1 ≤ n ∧ n ≤ 64 ∧ 0 ≤ many
  · left
    have : (decide (1 ≤ n) && decide (n ≤ 64) && decide (0 ≤ many) && decide (many ≤ 65536)) = true := by simp; omega
    rw [if_pos this]; omega
  · right
    have : ¬ (decide (1 ≤ n) && decide (n ≤ 64) && decide (0 ≤ many) && decide (many ≤ 65536)) = true := by simp; omega
    rw [if_neg this]; omega
set_option maxHeartbeats 1000000 in
theorem orderDraws_walk (n many s : Int) (a : Option Addr) (len cap : Nat) (zs : List Int) (w : World) (wn : (Lit.int .i64 n).wf = true) (ws : (Lit.int .u64 s).wf = true) (hz : IsRow .i64 w a len cap zs) :
    Calls Try.prog 4 #[.int .i64 n, .int .i64 many, .int .u64 s, .slice a len cap] w fun e w' => e = .returned (.bool true) ∧ Below w.heap.size w w' := by
  have rs := wf_u64 ws
  have rn := wf_i64 wn
  obtain ⟨hl, hwf, hlc, hcm⟩ := hz.ints
  clear wn ws hz hwf
  generalize zs.take len = xs at hl
  clear zs
  have HB := Below.refl w.heap.size w
  by_cases hmany : 300 < many
  · go_enter Try.func4, Try.ntmps4
    go_wp2_with fail
    refine (awake08 _).mono ?_
    rintro e w1 ⟨rfl, b1⟩
    go_wp2
    go_ret
    exact ⟨rfl, b1⟩
  by_cases hlen : 100 < len
  · go_enter Try.func4, Try.ntmps4
    go_wp2_with fail
    refine (awake08 _).mono ?_
    rintro e w2 ⟨rfl, b2⟩
    go_wp2
    go_ret
    exact ⟨rfl, b2⟩
  have hM := oM_cases n many (by omega)
  have hd : ∃ M, oM n many = M := ⟨_, rfl⟩
  have c1 := round_all n many
  have c2 := drawn_all n many s rs.1 rs.2
  obtain ⟨M, eM⟩ := hd
  rw [eM] at hM c1 c2
  have C1 := Lib.hid c1
  have C2 := Lib.hid c2
  clear eM c1 c2
  obtain ⟨i0, hi, hz0, hz1, hz2⟩ := info_parts Try.infoI
  have hcs : (1 ≤ n ∧ n ≤ 64 ∧ 0 ≤ many ∧ many = (M : Int)) ∨ (n < 1 ∧ M ≤ 0) ∨ (1 ≤ n ∧ 64 < n ∧ M ≤ 0) ∨ (1 ≤ n ∧ n ≤ 64 ∧ many < 0 ∧ M ≤ 0) := by omega
  have hM5 : M ≤ 1000 := by omega
  clear hM
  have hx := hl.len
  rcases hcs with ⟨m1, m2, m3, rfl⟩ | ⟨m1, m4⟩ | ⟨m1, m2, m4⟩ | ⟨m1, m2, m3, m4⟩
  all_goals
    go_enter Try.func4, Try.ntmps4
    go_wp2_with fail
    refine (awake08 _).mono ?_
    rintro e w3 ⟨rfl, b3⟩
    go_wp2_with fail
    refine (C1.out _).mono ?_
    rintro e w2 ⟨v1, rfl, o1, b2⟩
    replace b2 := bl_then b3 (Nat.le_refl _) b2
    obtain ⟨A1, k1, rfl, i1⟩ := own_ints o1
    go_wp2_with fail
    refine (C2.out _).mono ?_
    rintro e w3 ⟨v2, rfl, o2, b3⟩
    have i1 := i1.below b3
    replace b3 := bl_then b2 (Nat.le_refl _) b3
    obtain ⟨A2, k2, rfl, i2⟩ := own_ints o2
    clear o1 o2 b2
    go_wp2_with fail
    go_loopw [12, 71] (fun sd c wr => ∃ k : Nat, k ≤ M ∧ sd = .int .u64 (seedN s k) ∧ c = .int .i64 k ∧ Below w3.heap.size w3 wr) (fun _ c _ => M - (intOf c).toNat)
    case atStart => exact ⟨0, by omega, rfl, rfl, Below.refl _ _⟩
    case round =>
      obtain ⟨k, hk, rfl, rfl, hb⟩ := hrel
      by_cases hlt : k < M
      · have hlt0 : 1 ≤ n ∧ n ≤ 64 := by omega
        obtain ⟨bb1, of1, rfl, g1⟩ := (i1.below hb).get hlt
        obtain ⟨bb2, of2, rfl, g2⟩ := (i2.below hb).get hlt
        rw [roundL_get n M k hlt] at g1
        rw [drawnL_get n s M k hlt] at g2
        have hsr := seedN_range s rs k
        have hsr1 := nextG_range (seedN s k)
        have hd : drawI n s k = nextG (seedN s k) % n := rfl
        rw [hd] at g2
        clear hd
        have hdr : 0 ≤ nextG (seedN s k) % n ∧ nextG (seedN s k) % n < 64 := by
          have a1 := Int.emod_nonneg (nextG (seedN s k)) (show n ≠ 0 by omega)
          have a2 := Int.emod_lt_of_pos (nextG (seedN s k)) (show 0 < n by omega)
          omega
        go_wp2_with (first
          | (go_at_call 17; refine (rnext_any _ hsr.1 hsr.2 _).mono ?_; rintro e w' ⟨rfl, rfl⟩))
        have t0 : n ≠ 0 := by omega
        have t1 : (k : Int).tmod n = (k : Int) % n := Int.tmod_eq_emod_of_nonneg (by omega)
        have t2 : (nextG (seedN s k)).tmod n = nextG (seedN s k) % n := Int.tmod_eq_emod_of_nonneg hsr1.1
        have t3 : IntKind.u64.wrap n = n := by rw [wrap_u64]; omega
        have t4 : IntKind.i64.wrap (nextG (seedN s k) % n) = nextG (seedN s k) % n := IntWalk.i64_in _ (by omega)
        have t5 : IntKind.u64.wrap (nextG (seedN s k) % n) = nextG (seedN s k) % n := by rw [wrap_u64]; omega
        have t6 : (k : Int) % n < 64 := by have := Int.emod_lt_of_pos (k : Int) (show 0 < n by omega); omega
        have t7 : 0 ≤ (k : Int) % n := Int.emod_nonneg _ t0
        have t8 : IntKind.i64.wrap ((k : Int) % n) = (k : Int) % n := IntWalk.i64_in _ (by omega)
        go_quiet (fail)
        clear t1 t2 t3 t4 t5 t8
        go_wp2
        go_roundw
        case rel => exact ⟨k + 1, by omega, rfl, by go_num, by first | exact hb | exact ⟨hb.os, hb.tape, hb.output, hb.size, hb.block⟩⟩
        case measure => simp [intOf]; omega
      · have hb4 := b3.trans (hb.mono b3.size)
        clear i1 i2 hb
        obtain ⟨wo, rfl⟩ : ∃ wo : World, wo = wr := ⟨_, rfl⟩
        obtain rfl : k = M := by omega
        go_wp2_with fail
        go_loopw [14, 99] (fun o c wr => ∃ j : Nat, j ≤ len ∧ c = .int .i64 j ∧ wr.ownsRow w.heap.size 3 1 o (cutL n (xs.take j)).length ((cutL n (xs.take j)).map (Value.int .i64)) ∧ Below w.heap.size w wr) (fun _ c _ => len - (intOf c).toNat)
        case atStart => exact ⟨0, by omega, rfl, World.ownsRow_nil _ _ _ _, hb4⟩
        case round =>
          clear hb4
          obtain ⟨j, hj, rfl, hown, hb⟩ := hrel
          have hlw := hl.below hb
          by_cases hjl : j < len
          · obtain ⟨b, off, rfl, hc⟩ := hlw.get hjl
            clear hlw
            have ht := take_snoc xs j (by omega)
            generalize xs.getD j 0 = x at hc ht
            by_cases h0 : 0 ≤ x
            · by_cases h1 : x < n
              · try (exfalso; omega)
                all_goals
                  have hcy := cutL_yes n (xs.take j) x ⟨h0, h1⟩
                  rw [← ht] at hcy
                  have HCY := Lib.hid hcy
                  clear hcy ht hx
                  have hle := cutL_len n (xs.take j)
                  rw [List.length_take] at hle
                  have hbs := hb.size
                  go_wp2_with (at_builtin; refine wpList_append_own _ rfl _ _ 26 rfl w.heap.size 3 i0 (.int .i64 0) 1 8 Try.underlying26 hi hz0 hz1 hz2 rfl (by decide) _ _ _ rfl (hown.alloc _) ⟨wr.heap.size, 0, none⟩ 1 1 [.int .i64 x] rfl rfl (cell_one_new _ _ _) (by simp [Value.oneCell']) (by unfold maxLen; omega) (by omega) (by simp; omega) ?_; intro v' w2 hown' hgr' _)
                  go_roundw
                  case rel => exact ⟨j + 1, by omega, by go_num, by rw [HCY.out, List.length_append, List.map_append]; exact hown', (hb.alloc hbs _).grown hgr' (by simp; omega) (fun k h => ((hown.lt k h).1))⟩
                  case measure => simp [intOf]; omega
              · have hcn := cutL_no n (xs.take j) x (by omega)
                rw [← ht] at hcn
                have HCN := Lib.hid hcn
                clear hcn ht hx
                go_wp2
                go_roundw
                case rel => exact ⟨j + 1, by omega, by go_num, by rw [HCN.out]; exact hown, hb⟩
                case measure => simp [intOf]; omega
            · have hcn := cutL_no n (xs.take j) x (by omega)
              rw [← ht] at hcn
              have HCN := Lib.hid hcn
              clear hcn ht hx
              go_wp2
              go_roundw
              case rel => exact ⟨j + 1, by omega, by go_num, by rw [HCN.out]; exact hown, hb⟩
              case measure => simp [intOf]; omega
          · obtain rfl : j = len := by omega
            have ht : xs.take xs.length = xs := List.take_length
            rw [hx] at ht
            rw [ht] at hown
            clear ht
            obtain ⟨A3, k3, rfl, i3⟩ := own_ints hown
            have hsm : sameB (cutL n xs) (cutL n xs) = true := by unfold sameB; simp
            go_wp2_with fail
            refine (cut_any _ _ _ xs n _ hlw (by omega)).mono ?_
            rintro e w5 ⟨v5, rfl, o5, b5⟩
            obtain ⟨A5, k5, rfl, i5⟩ := own_ints o5
            go_wp2_with fail
            refine (same_any _ _ _ _ _ _ (cutL n xs) (cutL n xs) _ i5 (i3.below b5)).mono ?_
            rintro e w6 ⟨rfl, b6⟩
            rw [hsm]
            go_wp2_with (first
              | (go_at_call 14; refine (next_any _ rs.1 rs.2 _).mono ?_; rintro e w' ⟨rfl, rfl⟩)
              | (go_at_call 17; refine (rnext_any _ rs.1 rs.2 _).mono ?_; rintro e w' ⟨rfl, rfl⟩))
            go_ret
            exact ⟨by simp, hb.trans ((b5.trans (b6.mono b5.size)).mono hb.size)⟩
end Go.Proofs.Ytgpkidffhglngaa
