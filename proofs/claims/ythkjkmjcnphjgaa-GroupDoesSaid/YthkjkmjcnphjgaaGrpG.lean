/- group: Counts; the statement GroupDoes: the walk. No condition. -/
import Derived.Test.YthkjkmjcnphjgaaGrpF
import Derived.Test.YthkjkmjcnphjgaaRefB
import Derived.Deep.RegionHeld3
import Derived.ChangeKeysEq
set_option linter.unusedVariables false
set_option linter.unusedSimpArgs false
namespace Go.Proofs.Ythkjkmjcnphjgaa
open Go.RowKit (wrap32 wrap64)
open Go.RowKit Go.Shelf Go.Sort
theorem plc_in (n : Nat) (h : n < 7) : plc (n : Int) = n := by unfold plc; rw [if_pos (by omega)]; rfl
theorem plc_out (m : Int) (h : ¬ (0 ≤ m ∧ m < 7)) : plc m = 0 := by unfold plc; rw [if_neg h]
theorem cv_zero : cv (cntF []) = #[.int .i64 0, .int .i64 0, .int .i64 0, .int .i64 0, .int .i64 0, .int .i64 0, .int .i64 0] := rfl
set_option maxRecDepth 100000 in
set_option maxHeartbeats 2000000 in
theorem gcounts_any (a : Option Addr) (len cap : Nat) (L : List Hd) (w : World) (hl : Hds w a len L) (hn : len ≤ 1000) :
    Calls Try.prog 51 #[.slice a len cap] w fun e w' => e = .returned (.agg (cv (cntF L))) ∧ Below w.heap.size w w' := by
  have hll := hl.len
  have HLL := Lib.hid hll
  have hA := Bk.new w 71 #[.int .i64 0, .int .i64 0, .int .i64 0, .int .i64 0, .int .i64 0, .int .i64 0, .int .i64 0]
  have hB0 : Below w.heap.size w ((w.alloc (.cells #[.int .i64 0, .int .i64 0, .int .i64 0, .int .i64 0, .int .i64 0, .int .i64 0, .int .i64 0] 71)).alloc (.cells #[.int .i64 0, .int .i64 0, .int .i64 0, .int .i64 0, .int .i64 0, .int .i64 0, .int .i64 0] 71)) := ((Below.refl _ _).alloc (Nat.le_refl _) _).alloc (by simp) _
  have hR0 : Bk ((w.alloc (.cells #[.int .i64 0, .int .i64 0, .int .i64 0, .int .i64 0, .int .i64 0, .int .i64 0, .int .i64 0] 71)).alloc (.cells #[.int .i64 0, .int .i64 0, .int .i64 0, .int .i64 0, .int .i64 0, .int .i64 0, .int .i64 0] 71)) w.heap.size 71 #[.int .i64 0, .int .i64 0, .int .i64 0, .int .i64 0, .int .i64 0, .int .i64 0, .int .i64 0] := hA.below ((Below.refl _ _).alloc (Nat.le_refl _) _)
  have hT0 : Bk ((w.alloc (.cells #[.int .i64 0, .int .i64 0, .int .i64 0, .int .i64 0, .int .i64 0, .int .i64 0, .int .i64 0] 71)).alloc (.cells #[.int .i64 0, .int .i64 0, .int .i64 0, .int .i64 0, .int .i64 0, .int .i64 0, .int .i64 0] 71)) (w.heap.size + 1) 71 (cv (cntF (L.take 0))) := by
    have := Bk.new (w.alloc (.cells #[.int .i64 0, .int .i64 0, .int .i64 0, .int .i64 0, .int .i64 0, .int .i64 0, .int .i64 0] 71)) 71 #[.int .i64 0, .int .i64 0, .int .i64 0, .int .i64 0, .int .i64 0, .int .i64 0, .int .i64 0]
    rw [World.size_alloc] at this
    exact this
  clear hll hA
  go_enter Try.func51, Try.ntmps51
  go_wp2_with fail
  generalize ((w.alloc (.cells #[.int .i64 0, .int .i64 0, .int .i64 0, .int .i64 0, .int .i64 0, .int .i64 0, .int .i64 0] 71)).alloc (.cells #[.int .i64 0, .int .i64 0, .int .i64 0, .int .i64 0, .int .i64 0, .int .i64 0, .int .i64 0] 71)) = w1 at hB0 hR0 hT0 ⊢
  have hRT : w.heap.size ≠ w.heap.size + 1 := by omega
  go_loopw [8] (fun c wr => ∃ k : Nat, k ≤ len ∧ c = .int .i64 k ∧ Bk wr (w.heap.size + 1) 71 (cv (cntF (L.take k))) ∧ Bk wr w.heap.size 71 #[.int .i64 0, .int .i64 0, .int .i64 0, .int .i64 0, .int .i64 0, .int .i64 0, .int .i64 0] ∧ Below w.heap.size w wr) (fun c _ => len - (intOf c).toNat)
  case atStart => exact ⟨0, by omega, rfl, hT0, hR0, hB0⟩
  case round =>
    clear hT0 hR0 hB0
    obtain ⟨k, hk, rfl, hT, hR, HB⟩ := hrel
    by_cases hlt : k < len
    · obtain ⟨b, off, ⟨tx, md⟩, rfl, _, hx, _, d0, d1⟩ := Hd_at (hl.below HB) hlt
      dsimp only at d0 d1
      have hO : Below wr.heap.size wr (wr.alloc (.cells #[.int .i64 tx, .int .i64 md] 65)) := (Below.refl _ _).alloc (Nat.le_refl _) _
      have HB1 := bl_then HB (Nat.le_refl _) hO
      have hT1 := hT.below hO
      have hR1 := hR.below hO
      have q1 := (Bk.new wr 65 #[.int .i64 tx, .int .i64 md]).cell 1
      have hs := cntF_snoc L k _ hx
      have hr := fun j => cntF_le (L.take k) j
      have hlk : (L.take k).length ≤ 1000 := by rw [List.length_take]; omega
      generalize cntF (L.take k) = f at hT1 hs hr
      have hrg : ∀ j, 0 ≤ f j ∧ f j ≤ 1000 := fun j => by have := hr j; omega
      dsimp only at hs
      clear hx hO hT hR hl hr hlk
      by_cases hm : 0 ≤ md ∧ md < 7
      · obtain ⟨n, rfl⟩ : ∃ n : Nat, md = n := ⟨md.toNat, by omega⟩
        have hn7 : n < 7 := by omega
        rw [plc_in n hn7] at hs
        have hmy : mayB (n : Int) = true := by unfold mayB; simp; omega
        have c0 := hT1.cell n
        rw [cv_get f n hn7] at c0
        have f0 := hT1.frozen n
        have hT2 := hT1.set n (.int .i64 (f n + 1))
        rw [cv_set f n hn7, ← hs] at hT2
        have hR2 := (Keep.set (wr.alloc (.cells #[.int .i64 tx, .int .i64 n] 65)) (w.heap.size + 1) n (.int .i64 (f n + 1)) (fun i => i = w.heap.size + 1) rfl).bk hR1 hRT
        have HB2 := HB1.setCell (p := ⟨w.heap.size + 1, n, none⟩) (by simp) (.int .i64 (f n + 1))
        have hrn := hrg n
        have t0 : IntKind.i64.wrap (f n + 1) = f n + 1 := by rw [IntKind.wrap_i64]; omega
        have hn0 : (0 : Int) ≤ (n : Int) := by omega
        have hn1 : (n : Int) < 7 := by omega
        generalize f n = fn at c0 hT2 hR2 HB2 hrn t0
        have HM := Lib.hid hmy
        clear hs hT1 hR1 HB1 hrg hm hmy
        go_wp2_with (go_at_call 65; refine (may_any _ _).mono ?_; rintro e _ ⟨rfl, rfl⟩; rw [HM.out])
        go_roundw
        case rel => exact ⟨k + 1, by omega, by go_num, hT2, hR2, HB2⟩
        case measure => simp [intOf]; omega
      · have hmy : mayB md = false := by unfold mayB; simp; omega
        rw [plc_out md hm] at hs
        have c0 := hT1.cell 0
        rw [cv_get f 0 (by omega)] at c0
        have f0 := hT1.frozen 0
        have hT2 := hT1.set 0 (.int .i64 (f 0 + 1))
        rw [cv_set f 0 (by omega), ← hs] at hT2
        have hR2 := (Keep.set (wr.alloc (.cells #[.int .i64 tx, .int .i64 md] 65)) (w.heap.size + 1) 0 (.int .i64 (f 0 + 1)) (fun i => i = w.heap.size + 1) rfl).bk hR1 hRT
        have HB2 := HB1.setCell (p := ⟨w.heap.size + 1, 0, none⟩) (by simp) (.int .i64 (f 0 + 1))
        have hrn := hrg 0
        have t0 : IntKind.i64.wrap (f 0 + 1) = f 0 + 1 := by rw [IntKind.wrap_i64]; omega
        generalize f 0 = fn at c0 hT2 hR2 HB2 hrn t0
        have HM := Lib.hid hmy
        clear hs hT1 hR1 HB1 hrg hm hmy
        go_wp2_with (go_at_call 65; refine (may_any _ _).mono ?_; rintro e _ ⟨rfl, rfl⟩; rw [HM.out])
        go_roundw
        case rel => exact ⟨k + 1, by omega, by go_num, hT2, hR2, HB2⟩
        case measure => simp [intOf]; omega
    · obtain rfl : k = len := by omega
      have hfull : L.take k = L := List.take_of_length_le (by rw [HLL.out]; exact Nat.le_refl _)
      rw [hfull] at hT
      unfold cv at hT
      generalize hc0 : cntF L 0 = c0 at hT
      generalize hc1 : cntF L 1 = c1 at hT
      generalize hc2 : cntF L 2 = c2 at hT
      generalize hc3 : cntF L 3 = c3 at hT
      generalize hc4 : cntF L 4 = c4 at hT
      generalize hc5 : cntF L 5 = c5 at hT
      generalize hc6 : cntF L 6 = c6 at hT
      have hfin : cv (cntF L) = #[.int .i64 c0, .int .i64 c1, .int .i64 c2, .int .i64 c3, .int .i64 c4, .int .i64 c5, .int .i64 c6] := by unfold cv; rw [hc0, hc1, hc2, hc3, hc4, hc5, hc6]
      have HF := Lib.hid hfin
      have t0 := hT.cell 0
      have u0 := hR.cell 0
      have f0 := hR.frozen 0
      have t1 := hT.cell 1
      have u1 := hR.cell 1
      have f1 := hR.frozen 1
      have t2 := hT.cell 2
      have u2 := hR.cell 2
      have f2 := hR.frozen 2
      have t3 := hT.cell 3
      have u3 := hR.cell 3
      have f3 := hR.frozen 3
      have t4 := hT.cell 4
      have u4 := hR.cell 4
      have f4 := hR.frozen 4
      have t5 := hT.cell 5
      have u5 := hR.cell 5
      have f5 := hR.frozen 5
      have t6 := hT.cell 6
      have u6 := hR.cell 6
      have f6 := hR.frozen 6
      have hF := ((((((hR.set 0 (.int .i64 c0)).set 1 (.int .i64 c1)).set 2 (.int .i64 c2)).set 3 (.int .i64 c3)).set 4 (.int .i64 c4)).set 5 (.int .i64 c5)).set 6 (.int .i64 c6)
      have hBF := ((((((HB.setCell (p := ⟨w.heap.size, 0, none⟩) (Nat.le_refl _) (.int .i64 c0)).setCell (p := ⟨w.heap.size, 1, none⟩) (Nat.le_refl _) (.int .i64 c1)).setCell (p := ⟨w.heap.size, 2, none⟩) (Nat.le_refl _) (.int .i64 c2)).setCell (p := ⟨w.heap.size, 3, none⟩) (Nat.le_refl _) (.int .i64 c3)).setCell (p := ⟨w.heap.size, 4, none⟩) (Nat.le_refl _) (.int .i64 c4)).setCell (p := ⟨w.heap.size, 5, none⟩) (Nat.le_refl _) (.int .i64 c5)).setCell (p := ⟨w.heap.size, 6, none⟩) (Nat.le_refl _) (.int .i64 c6)
      clear hl hfull hc0 hc1 hc2 hc3 hc4 hc5 hc6 hT hR hfin
      go_wp2
      have y0 := hF.cell 0
      have y1 := hF.cell 1
      have y2 := hF.cell 2
      have y3 := hF.cell 3
      have y4 := hF.cell 4
      have y5 := hF.cell 5
      have y6 := hF.cell 6
      exact bodyPost_ret (v := .agg #[.int .i64 c0, .int .i64 c1, .int .i64 c2, .int .i64 c3, .int .i64 c4, .int .i64 c5, .int .i64 c6]) (by simp [results, Try.results51, go_sem, y0, y1, y2, y3, y4, y5, y6]) rfl ⟨by rw [HF.out], hBF⟩
end Go.Proofs.Ythkjkmjcnphjgaa
