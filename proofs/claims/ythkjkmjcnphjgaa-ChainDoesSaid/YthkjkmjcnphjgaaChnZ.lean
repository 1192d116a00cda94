/- chain: New at any number. No condition. -/
import Derived.Test.YthkjkmjcnphjgaaChnR
import Derived.Deep.RegionWith
set_option linter.unusedVariables false
set_option linter.unusedSimpArgs false
namespace Go.Proofs.Ythkjkmjcnphjgaa
open Go.RowKit (wrap32 wrap64)
open Go.RowKit
set_option maxRecDepth 100000 in
set_option maxHeartbeats 4000000 in
theorem cnewN_any (n : Int) (hneg : n < 0) (w : World) : Calls Try.prog 14 #[.int .i64 n] w (CNew w 0) := by
  obtain ⟨M, hM0⟩ : ∃ M : Nat, M = 0 := ⟨0, rfl⟩
  have hM : M ≤ 1000 := by omega
  rw [show CNew w 0 = CNew w M by rw [hM0]]
  have HM1 := Lib.hid (make_ln M hM)
  have HM2 := Lib.hid (make_en M hM)
  go_enter Try.func14, Try.ntmps14
  go_wp2
  rw [show Value.int .i64 0 = Value.int .i64 (M : Int) by rw [hM0]; rfl]
  clear hM0 hneg
  refine wp_region_any (by kernel_rfl) ?_
  change wpAny _ _ _ _ _ _ _ (World.drew _)
  refine wpAny_take (i := 0) (v := ?_) rfl (by kernel_rfl) (by kernel_rfl) (by kernel_rfl) (fun _ _ _ h => h) (Or.inl ⟨by rfl, ?_⟩) ?_
  rotate_left
  · intro w; go_simp; with_reducible rfl
  refine wpAny_take (i := 2) (v := ?_) rfl (by kernel_rfl) (by kernel_rfl) (by kernel_rfl) (fun _ _ _ h => h) (Or.inl ⟨by rfl, ?_⟩) ?_
  rotate_left
  · intro w; go_simp; with_reducible rfl
  refine wpAny_ready (rs := [1, 3]) (by kernel_rfl) (by simp) ?_
  refine AllReady.cons rfl (fun K hK => ?_) (AllReady.cons rfl (fun K hK => ?_) AllReady.nil)
  · obtain ⟨W1, e1, q1, bb1⟩ := HM1.out w.drew
    refine step_make rfl _ _ 89 rfl _ _ (by rfl) (by rfl) e1 ?_
    (try go_simp)
    refine hK _ _ ?_
    clear hK K
    refine wpAny_ready (rs := [3]) (by kernel_rfl) (by simp) ?_
    refine AllReady.cons rfl (fun K hK => ?_) AllReady.nil
    obtain ⟨W2, e2, q2, bb2⟩ := HM2.out W1
    refine step_make rfl _ _ 90 rfl _ _ (by rfl) (by rfl) e2 ?_
    (try go_simp)
    refine hK _ _ ?_
    clear hK K
    refine wpAny_ready (rs := [4]) (by kernel_rfl) (by simp) ?_
    refine AllReady.cons rfl (fun K hK => ?_) AllReady.nil
    go_simp
    refine hK _ _ ?_
    clear hK K
    refine wpAny_ready (rs := [5]) (by kernel_rfl) (by simp) ?_
    refine AllReady.cons rfl (fun K hK => ?_) AllReady.nil
    go_simp
    refine hK _ _ ?_
    clear hK K
    refine wpAny_ready (rs := [6]) (by kernel_rfl) (by simp) ?_
    refine AllReady.cons rfl (fun K hK => ?_) AllReady.nil
    go_simp
    refine hK _ _ ?_
    clear hK K
    refine wpAny_done (by kernel_rfl) ?_ _
    go_wp2_with fail
    have hB0 : Below w.heap.size w W2 := bl_then (bl_then (below_drew w) (Nat.le_refl _) bb1) (Nat.le_refl _) bb2
    have hsz1 : w.heap.size ≤ W1.heap.size := bb1.size
    have hsz2 : w.heap.size ≤ W2.heap.size := hB0.size
    have hr1 : RowAt enLn 94 3 W2 (w.heap.size) M (List.replicate M ⟨0, 0, 0⟩) := (q1.keep (Keep.of_below bb2 (fun _ => False)) (fun h => h))
    have hr2 : RowAt enEn 96 2 W2 (W1.heap.size) M (List.replicate M ⟨0, 0⟩) := q2
    clear q1 q2 bb1 bb2 e1 e2 HM1 HM2
    obtain ⟨h1, hh1⟩ : ∃ h1, h1 = w.heap.size := ⟨_, rfl⟩
    obtain ⟨h2, hh2⟩ : ∃ h2, h2 = W1.heap.size := ⟨_, rfl⟩
    have hle1 : w.heap.size ≤ h1 := by omega
    have hle2 : w.heap.size ≤ h2 := by omega
    rw [← hh1] at hr1
    rw [← hh2] at hr2
    rw [← hh1, ← hh2]
    clear hh1 hh2
    have hcA : ChnAt (W2.alloc (.cells #[.slice (some ⟨h1, 0, none⟩) M M, .slice (some ⟨h2, 0, none⟩) M M] 92)) W2.heap.size h1 h2 M (mixL M 0 ⟨-1, -1, -1⟩ ⟨0, 0, 0⟩) (mixL M 0 ⟨-1, -1⟩ ⟨0, 0⟩) := by
      rw [mixL_zero, mixL_zero]
      exact ⟨Bk.new _ _ _, hr1.keep (Keep.alloc _ _ (fun _ => False)) (fun h => h), hr2.keep (Keep.alloc _ _ (fun _ => False)) (fun h => h), by simp, by simp, by omega⟩
    have hB3 : Below w.heap.size w (W2.alloc (.cells #[.slice (some ⟨h1, 0, none⟩) M M, .slice (some ⟨h2, 0, none⟩) M M] 92)) := hB0.alloc hsz2 _
    generalize W2.alloc (.cells #[.slice (some ⟨h1, 0, none⟩) M M, .slice (some ⟨h2, 0, none⟩) M M] 92) = W3 at hcA hB3 ⊢
    generalize W2.heap.size = g at hcA hsz2 ⊢
    clear hr1 hr2 hB0
    go_loopw [15] (fun c wr => ∃ k : Nat, k ≤ M ∧ c = .int .i64 k ∧ ChnAt wr g h1 h2 M (mixL M k ⟨-1, -1, -1⟩ ⟨0, 0, 0⟩) (mixL M k ⟨-1, -1⟩ ⟨0, 0⟩) ∧ Below w.heap.size w wr) (fun c _ => M - (intOf c).toNat)
    case atStart => exact ⟨0, by omega, rfl, hcA, hB3⟩
    case round =>
      clear hcA hB3
      obtain ⟨k, hk, rfl, hA, HB⟩ := hrel
      by_cases hlt : k < M
      · have a0 := hA.bk.cell 0
        have g1 := mixL_get M k (⟨-1, -1, -1⟩ : Ln) ⟨0, 0, 0⟩ hlt
        have g2 := mixL_get M k (⟨-1, -1⟩ : En) ⟨0, 0⟩ hlt
        have d0 := hA.r1.cell enLn_len g1 0 (by omega)
        have d1 := hA.r1.cell enLn_len g1 1 (by omega)
        have d2 := hA.r1.cell enLn_len g1 2 (by omega)
        rw [show (enLn ⟨0, 0, 0⟩)[0]? = some (.int .i64 0) from rfl, Nat.add_zero] at d0
        rw [show (enLn ⟨0, 0, 0⟩)[1]? = some (.int .i64 0) from rfl] at d1
        rw [show (enLn ⟨0, 0, 0⟩)[2]? = some (.int .i64 0) from rfl] at d2
        have f0 := hA.r1.frozen (k * 3)
        have f1 := hA.r1.frozen (k * 3 + 1)
        have f2 := hA.r1.frozen (k * 3 + 2)
        obtain ⟨m1, k1⟩ := hA.m.setT k ⟨-1, -1, -1⟩ hlt
        obtain ⟨Wa, hWa⟩ : ∃ Wa, setsFrom wr h1 (k * 3) (enLn ⟨-1, -1, -1⟩) = Wa := ⟨_, rfl⟩
        rw [hWa] at m1 k1
        have HWa : Hid ((((wr.setCell ⟨h1, k * 3, none⟩ (.int .i64 (-1))).setCell ⟨h1, k * 3 + 1, none⟩ (.int .i64 (-1))).setCell ⟨h1, k * 3 + 2, none⟩ (.int .i64 (-1))) = Wa) := Lib.hid hWa
        clear hWa
        have b1 := m1.c.bk.cell 1
        have e0 := m1.c.r2.cell enEn_len g2 0 (by omega)
        have e1 := m1.c.r2.cell enEn_len g2 1 (by omega)
        rw [show (enEn ⟨0, 0⟩)[0]? = some (.int .i64 0) from rfl, Nat.add_zero] at e0
        rw [show (enEn ⟨0, 0⟩)[1]? = some (.int .i64 0) from rfl] at e1
        have fe0 := m1.c.r2.frozen (k * 2)
        have fe1 := m1.c.r2.frozen (k * 2 + 1)
        obtain ⟨m2, k2⟩ := m1.setE k ⟨-1, -1⟩ hlt
        rw [mixL_set M k _ _ hlt, mixL_set M k _ _ hlt] at m2
        have HFIN : Hid (ChnAt (((Wa.setCell ⟨h2, k * 2, none⟩ (.int .i64 (-1))).setCell ⟨h2, k * 2 + 1, none⟩ (.int .i64 (-1)))) g h1 h2 M (mixL M (k + 1) ⟨-1, -1, -1⟩ ⟨0, 0, 0⟩) (mixL M (k + 1) ⟨-1, -1⟩ ⟨0, 0⟩) ∧ Below w.heap.size w ((Wa.setCell ⟨h2, k * 2, none⟩ (.int .i64 (-1))).setCell ⟨h2, k * 2 + 1, none⟩ (.int .i64 (-1)))) := Lib.hid ⟨m2.c, bl_keep HB (Keep.trans k1 k2) (fun i hi => by rcases hi with rfl | rfl; exact hle1; exact hle2)⟩
        clear m1 m2 k1 k2 hA HB g1 g2
        go_wp2_with (rw [HWa.out]; clear HWa a0 d0 d1 d2 f0 f1 f2)
        go_roundw
        case rel => exact ⟨k + 1, by omega, by go_num, HFIN.out.1, HFIN.out.2⟩
        case measure => simp [intOf]; omega
      · obtain rfl : k = M := by omega
        have hfin : Chn wr g h1 h2 k (List.replicate k []) := by
          rw [mixL_all, mixL_all] at hA
          exact ⟨_, _, hA, rel_new k⟩
        clear hA
        go_wp2
        go_ret
        exact ⟨g, h1, h2, rfl, hfin, hsz2, hle1, hle2, HB⟩
  · obtain ⟨W1, e1, q1, bb1⟩ := HM2.out w.drew
    refine step_make rfl _ _ 90 rfl _ _ (by rfl) (by rfl) e1 ?_
    (try go_simp)
    refine hK _ _ ?_
    clear hK K
    refine wpAny_ready (rs := [1]) (by kernel_rfl) (by simp) ?_
    refine AllReady.cons rfl (fun K hK => ?_) AllReady.nil
    obtain ⟨W2, e2, q2, bb2⟩ := HM1.out W1
    refine step_make rfl _ _ 89 rfl _ _ (by rfl) (by rfl) e2 ?_
    (try go_simp)
    refine hK _ _ ?_
    clear hK K
    refine wpAny_ready (rs := [4]) (by kernel_rfl) (by simp) ?_
    refine AllReady.cons rfl (fun K hK => ?_) AllReady.nil
    go_simp
    refine hK _ _ ?_
    clear hK K
    refine wpAny_ready (rs := [5]) (by kernel_rfl) (by simp) ?_
    refine AllReady.cons rfl (fun K hK => ?_) AllReady.nil
    go_simp
    refine hK _ _ ?_
    clear hK K
    refine wpAny_ready (rs := [6]) (by kernel_rfl) (by simp) ?_
    refine AllReady.cons rfl (fun K hK => ?_) AllReady.nil
    go_simp
    refine hK _ _ ?_
    clear hK K
    refine wpAny_done (by kernel_rfl) ?_ _
    go_wp2_with fail
    have hB0 : Below w.heap.size w W2 := bl_then (bl_then (below_drew w) (Nat.le_refl _) bb1) (Nat.le_refl _) bb2
    have hsz1 : w.heap.size ≤ W1.heap.size := bb1.size
    have hsz2 : w.heap.size ≤ W2.heap.size := hB0.size
    have hr1 : RowAt enLn 94 3 W2 (W1.heap.size) M (List.replicate M ⟨0, 0, 0⟩) := q2
    have hr2 : RowAt enEn 96 2 W2 (w.heap.size) M (List.replicate M ⟨0, 0⟩) := (q1.keep (Keep.of_below bb2 (fun _ => False)) (fun h => h))
    clear q1 q2 bb1 bb2 e1 e2 HM1 HM2
    obtain ⟨h1, hh1⟩ : ∃ h1, h1 = W1.heap.size := ⟨_, rfl⟩
    obtain ⟨h2, hh2⟩ : ∃ h2, h2 = w.heap.size := ⟨_, rfl⟩
    have hle1 : w.heap.size ≤ h1 := by omega
    have hle2 : w.heap.size ≤ h2 := by omega
    rw [← hh1] at hr1
    rw [← hh2] at hr2
    rw [← hh1, ← hh2]
    clear hh1 hh2
    have hcA : ChnAt (W2.alloc (.cells #[.slice (some ⟨h1, 0, none⟩) M M, .slice (some ⟨h2, 0, none⟩) M M] 92)) W2.heap.size h1 h2 M (mixL M 0 ⟨-1, -1, -1⟩ ⟨0, 0, 0⟩) (mixL M 0 ⟨-1, -1⟩ ⟨0, 0⟩) := by
      rw [mixL_zero, mixL_zero]
      exact ⟨Bk.new _ _ _, hr1.keep (Keep.alloc _ _ (fun _ => False)) (fun h => h), hr2.keep (Keep.alloc _ _ (fun _ => False)) (fun h => h), by simp, by simp, by omega⟩
    have hB3 : Below w.heap.size w (W2.alloc (.cells #[.slice (some ⟨h1, 0, none⟩) M M, .slice (some ⟨h2, 0, none⟩) M M] 92)) := hB0.alloc hsz2 _
    generalize W2.alloc (.cells #[.slice (some ⟨h1, 0, none⟩) M M, .slice (some ⟨h2, 0, none⟩) M M] 92) = W3 at hcA hB3 ⊢
    generalize W2.heap.size = g at hcA hsz2 ⊢
    clear hr1 hr2 hB0
    go_loopw [15] (fun c wr => ∃ k : Nat, k ≤ M ∧ c = .int .i64 k ∧ ChnAt wr g h1 h2 M (mixL M k ⟨-1, -1, -1⟩ ⟨0, 0, 0⟩) (mixL M k ⟨-1, -1⟩ ⟨0, 0⟩) ∧ Below w.heap.size w wr) (fun c _ => M - (intOf c).toNat)
    case atStart => exact ⟨0, by omega, rfl, hcA, hB3⟩
    case round =>
      clear hcA hB3
      obtain ⟨k, hk, rfl, hA, HB⟩ := hrel
      by_cases hlt : k < M
      · have a0 := hA.bk.cell 0
        have g1 := mixL_get M k (⟨-1, -1, -1⟩ : Ln) ⟨0, 0, 0⟩ hlt
        have g2 := mixL_get M k (⟨-1, -1⟩ : En) ⟨0, 0⟩ hlt
        have d0 := hA.r1.cell enLn_len g1 0 (by omega)
        have d1 := hA.r1.cell enLn_len g1 1 (by omega)
        have d2 := hA.r1.cell enLn_len g1 2 (by omega)
        rw [show (enLn ⟨0, 0, 0⟩)[0]? = some (.int .i64 0) from rfl, Nat.add_zero] at d0
        rw [show (enLn ⟨0, 0, 0⟩)[1]? = some (.int .i64 0) from rfl] at d1
        rw [show (enLn ⟨0, 0, 0⟩)[2]? = some (.int .i64 0) from rfl] at d2
        have f0 := hA.r1.frozen (k * 3)
        have f1 := hA.r1.frozen (k * 3 + 1)
        have f2 := hA.r1.frozen (k * 3 + 2)
        obtain ⟨m1, k1⟩ := hA.m.setT k ⟨-1, -1, -1⟩ hlt
        obtain ⟨Wa, hWa⟩ : ∃ Wa, setsFrom wr h1 (k * 3) (enLn ⟨-1, -1, -1⟩) = Wa := ⟨_, rfl⟩
        rw [hWa] at m1 k1
        have HWa : Hid ((((wr.setCell ⟨h1, k * 3, none⟩ (.int .i64 (-1))).setCell ⟨h1, k * 3 + 1, none⟩ (.int .i64 (-1))).setCell ⟨h1, k * 3 + 2, none⟩ (.int .i64 (-1))) = Wa) := Lib.hid hWa
        clear hWa
        have b1 := m1.c.bk.cell 1
        have e0 := m1.c.r2.cell enEn_len g2 0 (by omega)
        have e1 := m1.c.r2.cell enEn_len g2 1 (by omega)
        rw [show (enEn ⟨0, 0⟩)[0]? = some (.int .i64 0) from rfl, Nat.add_zero] at e0
        rw [show (enEn ⟨0, 0⟩)[1]? = some (.int .i64 0) from rfl] at e1
        have fe0 := m1.c.r2.frozen (k * 2)
        have fe1 := m1.c.r2.frozen (k * 2 + 1)
        obtain ⟨m2, k2⟩ := m1.setE k ⟨-1, -1⟩ hlt
        rw [mixL_set M k _ _ hlt, mixL_set M k _ _ hlt] at m2
        have HFIN : Hid (ChnAt (((Wa.setCell ⟨h2, k * 2, none⟩ (.int .i64 (-1))).setCell ⟨h2, k * 2 + 1, none⟩ (.int .i64 (-1)))) g h1 h2 M (mixL M (k + 1) ⟨-1, -1, -1⟩ ⟨0, 0, 0⟩) (mixL M (k + 1) ⟨-1, -1⟩ ⟨0, 0⟩) ∧ Below w.heap.size w ((Wa.setCell ⟨h2, k * 2, none⟩ (.int .i64 (-1))).setCell ⟨h2, k * 2 + 1, none⟩ (.int .i64 (-1)))) := Lib.hid ⟨m2.c, bl_keep HB (Keep.trans k1 k2) (fun i hi => by rcases hi with rfl | rfl; exact hle1; exact hle2)⟩
        clear m1 m2 k1 k2 hA HB g1 g2
        go_wp2_with (rw [HWa.out]; clear HWa a0 d0 d1 d2 f0 f1 f2)
        go_roundw
        case rel => exact ⟨k + 1, by omega, by go_num, HFIN.out.1, HFIN.out.2⟩
        case measure => simp [intOf]; omega
      · obtain rfl : k = M := by omega
        have hfin : Chn wr g h1 h2 k (List.replicate k []) := by
          rw [mixL_all, mixL_all] at hA
          exact ⟨_, _, hA, rel_new k⟩
        clear hA
        go_wp2
        go_ret
        exact ⟨g, h1, h2, rfl, hfin, hsz2, hle1, hle2, HB⟩
/-- New, at any number. -/
theorem cnewA_any (n : Int) (hn : n ≤ 1000) (w : World) : Calls Try.prog 14 #[.int .i64 n] w (CNew w n.toNat) := by
  by_cases h : 0 ≤ n
  · obtain ⟨M, rfl⟩ : ∃ M : Nat, n = M := ⟨n.toNat, by omega⟩
    exact cnew_any M (by omega) w
  · rw [show n.toNat = 0 by omega]
    exact cnewN_any n (by omega) w
end Go.Proofs.Ythkjkmjcnphjgaa
