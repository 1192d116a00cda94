/- Chapter 3's example; the contracts of the reference's clock, and of no clock. No condition. -/
import Derived.Test.YtgdghinconghgaaClock
set_option linter.unusedVariables false
set_option linter.unusedSimpArgs false
namespace Go.Proofs.Ytgdghinconghgaa
open Go.RowKit (wrap32 wrap64)
open Go.RowKit
theorem clk_new (w : World) (m : Int) : Clk (w.alloc (.cells (ckCells 0 0 (bound m)) 106)) w.heap.size 0 0 (bound m) := by
  have := bound_range m
  exact ⟨Bk.new _ _ _, by omega, by omega, by omega, by omega, by omega⟩
theorem clk_copy (w : World) {g : Nat} {t s m : Int} (h : Clk w g t s m) : Clk (w.alloc (.cells (ckCells t s m) 106)) w.heap.size t s m := ⟨Bk.new _ _ _, h.2⟩
theorem Clk.keep {w w1 : World} {S : Nat → Prop} {g : Nat} {t s m : Int} (h : Clk w g t s m) (k : Keep S w w1) (hg : ¬ S g) : Clk w1 g t s m := ⟨k.bk h.1 hg, h.2⟩
theorem Clk.lt {w : World} {g : Nat} {t s m : Int} (h : Clk w g t s m) : g < w.heap.size := h.1.lt
set_option maxHeartbeats 400000 in
theorem awake03 (w : World) : Calls Try.prog 15 #[] w fun e w' => e = .returned (.bool true) ∧ Below w.heap.size w w' := by
  have hb : bound 1 = 1 := by decide
  go_enter Try.func15, Try.ntmps15
  go_wp2_with fail
  refine (new_any _ _).mono ?_
  rintro e w1 ⟨rfl, hw1⟩
  have hc : Clk w1 w.heap.size 0 0 1 := by rw [hw1]; have := clk_new w 1; rw [hb] at this ⊢; exact this
  have hb1 : Below w.heap.size w w1 := by rw [hw1]; exact (Below.refl _ _).alloc (Nat.le_refl _) _
  clear hw1 hb
  go_wp2_with fail
  refine (stamp_any _ _ _ _ _ hc).mono ?_
  rintro e w2 ⟨v, er, s', rfl, h, hc2, hk⟩
  obtain ⟨rfl, rfl, rfl⟩ : v = 1 ∧ er = 0 ∧ s' = 1 := by omega
  have hb2 := hb1.trans (hk.below hb1.size (fun k h => by omega))
  clear h hk hc
  go_wp2_with fail
  refine (stamp_any _ _ _ _ _ hc2).mono ?_
  rintro e w3 ⟨v, er, s', rfl, h, hc3, hk⟩
  obtain ⟨rfl, rfl, rfl⟩ : v = 0 ∧ er = 20 ∧ s' = 1 := by omega
  have hb3 := hb2.trans (hk.below hb2.size (fun k h => by omega))
  clear h hk hc2 hc3
  go_wp2
  go_ret
  exact ⟨rfl, hb3⟩
/-! ### No clock -/
set_option maxHeartbeats 400000 in
theorem tick_nil (n : Int) (w : World) : Calls Try.prog 20 #[.pointer none, .int .i64 n] w fun e w' => e = .returned (.int .i64 70) ∧ w = w' := by
  go_enter Try.func20, Try.ntmps20
  go_wp2_with (first | (go_at_call 67; refine (ok_nil _).mono ?_; rintro e w' ⟨rfl, rfl⟩))
  go_ret
  exact ⟨rfl, rfl⟩
set_option maxHeartbeats 400000 in
theorem stamp_nil (w : World) : Calls Try.prog 18 #[.pointer none] w fun e w' => e = .returned (.tuple #[.int .i64 0, .int .i64 70]) ∧ w = w' := by
  go_enter Try.func18, Try.ntmps18
  go_wp2_with (first | (go_at_call 67; refine (ok_nil _).mono ?_; rintro e w' ⟨rfl, rfl⟩))
  go_ret2
  exact ⟨rfl, rfl⟩
set_option maxHeartbeats 400000 in
theorem now_nil (w : World) : Calls Try.prog 23 #[.pointer none] w fun e w' => e = .returned (.int .i64 0) ∧ w = w' := by
  go_enter Try.func23, Try.ntmps23
  go_wp2_with (first | (go_at_call 67; refine (ok_nil _).mono ?_; rintro e w' ⟨rfl, rfl⟩))
  go_ret
  exact ⟨rfl, rfl⟩
set_option maxHeartbeats 400000 in
theorem left_nil (w : World) : Calls Try.prog 24 #[.pointer none] w fun e w' => e = .returned (.int .i64 0) ∧ w = w' := by
  go_enter Try.func24, Try.ntmps24
  go_wp2_with (first | (go_at_call 67; refine (ok_nil _).mono ?_; rintro e w' ⟨rfl, rfl⟩))
  go_ret
  exact ⟨rfl, rfl⟩
set_option maxHeartbeats 400000 in
theorem copy_nil (w : World) : Calls Try.prog 22 #[.pointer none] w fun e w' => e = .returned (.pointer none) ∧ w = w' := by
  go_enter Try.func22, Try.ntmps22
  go_wp2_with (first | (go_at_call 67; refine (ok_nil _).mono ?_; rintro e w' ⟨rfl, rfl⟩))
  go_ret
  exact ⟨rfl, rfl⟩
/-! ### The reference's clock -/
def RClk (w : World) (g : Nat) (t s m : Int) : Prop := Bk w g 38 #[.int .i64 t, .int .i64 s, .int .i64 m] ∧ 0 ≤ t ∧ t ≤ m ∧ 0 ≤ s ∧ s ≤ m ∧ m ≤ 1099511627776
theorem RClk.keep {w w1 : World} {S : Nat → Prop} {g : Nat} {t s m : Int} (h : RClk w g t s m) (k : Keep S w w1) (hg : ¬ S g) : RClk w1 g t s m := ⟨k.bk h.1 hg, h.2⟩
theorem RClk.facts {w : World} {g : Nat} {t s m : Int} (h : RClk w g t s m) :
    w.cell? ⟨g, 0, none⟩ = some (.int .i64 t) ∧ w.cell? ⟨g, 1, none⟩ = some (.int .i64 s) ∧ w.cell? ⟨g, 2, none⟩ = some (.int .i64 m) ∧ w.frozen? ⟨g, 0, none⟩ = false ∧ w.frozen? ⟨g, 1, none⟩ = false :=
  ⟨h.1.cell 0, h.1.cell 1, h.1.cell 2, h.1.frozen 0, h.1.frozen 1⟩
def RNewRet (m : Int) (w : World) (e : Ending) (w' : World) : Prop := e = .returned (.pointer (some ⟨w.heap.size, 0, none⟩)) ∧ w' = w.alloc (.cells #[.int .i64 0, .int .i64 0, .int .i64 (bound m)] 38)
set_option maxHeartbeats 400000 in
theorem rnew_any (m : Int) (w : World) : Calls Try.prog 17 #[.int .i64 m] w (RNewRet m w) := by
  by_cases h0 : m < 0
  · have hb := Lib.hid (show bound m = 0 from if_pos h0)
    go_enter Try.func17, Try.ntmps17
    go_wp2
    go_ret
    exact ⟨rfl, by rw [hb.out]⟩
  · by_cases h1 : 1099511627776 < m
    · have hb := Lib.hid (show bound m = 1099511627776 by unfold bound; rw [if_neg h0, if_pos h1])
      go_enter Try.func17, Try.ntmps17
      go_wp2
      go_ret
      exact ⟨rfl, by rw [hb.out]⟩
    · have hb := Lib.hid (show bound m = m by unfold bound; rw [if_neg h0, if_neg h1])
      go_enter Try.func17, Try.ntmps17
      go_wp2
      all_goals (go_ret; exact ⟨rfl, by rw [hb.out]⟩)
theorem rclk_new (w : World) (m : Int) : RClk (w.alloc (.cells #[.int .i64 0, .int .i64 0, .int .i64 (bound m)] 38)) w.heap.size 0 0 (bound m) := by
  have := bound_range m
  exact ⟨Bk.new _ _ _, by omega, by omega, by omega, by omega, by omega⟩
def RTickRet (g : Nat) (t s m n : Int) (w : World) (e : Ending) (w' : World) : Prop :=
  ∃ er t', e = .returned (.int .i64 er) ∧ ((n < 0 ∧ er = 1 ∧ t' = t) ∨ (0 ≤ n ∧ m - t < n ∧ er = 20 ∧ t' = t) ∨ (0 ≤ n ∧ n ≤ m - t ∧ er = 0 ∧ t' = t + n)) ∧ RClk w' g t' s m ∧ Keep (· = g) w w'
set_option maxHeartbeats 400000 in
theorem rtick_any (g : Nat) (t s m n : Int) (w : World) (h : RClk w g t s m) : Calls Try.prog 21 #[.pointer (some ⟨g, 0, none⟩), .int .i64 n] w (RTickRet g t s m n w) := by
  obtain ⟨c0, c1, c2, f0, f1⟩ := h.facts
  have hr := h.2
  have H := Lib.hid h
  clear h
  have t1 : IntKind.i64.wrap (m - t) = m - t := by rw [IntKind.wrap_i64]; omega
  by_cases hn : n < 0
  · go_enter Try.func21, Try.ntmps21
    go_wp2
    go_ret
    exact ⟨1, t, rfl, .inl ⟨hn, rfl, rfl⟩, H.out, Keep.refl _ _⟩
  · by_cases hle : n ≤ m - t
    · go_enter Try.func21, Try.ntmps21
      go_wp2
      go_quiet (fail)
      go_wp2
      go_ret
      exact ⟨0, t + n, rfl, .inr (.inr ⟨by omega, hle, rfl, rfl⟩), ⟨H.out.1.set 0 _, by omega, by omega, by omega, by omega, by omega⟩, Keep.trans (Keep.drewN w _ _) (Keep.set _ g 0 _ _ rfl)⟩
    · go_enter Try.func21, Try.ntmps21
      go_wp2
      go_quiet (fail)
      go_wp2
      go_ret
      exact ⟨20, t, rfl, .inr (.inl ⟨by omega, by omega, rfl, rfl⟩), H.out, Keep.drewN w _ _⟩
def RStampRet (g : Nat) (t s m : Int) (w : World) (e : Ending) (w' : World) : Prop :=
  ∃ v er s', e = .returned (.tuple #[.int .i64 v, .int .i64 er]) ∧ ((m ≤ s ∧ v = 0 ∧ er = 20 ∧ s' = s) ∨ (s < m ∧ v = s + 1 ∧ er = 0 ∧ s' = s + 1)) ∧ RClk w' g t s' m ∧ Keep (· = g) w w'
set_option maxHeartbeats 400000 in
theorem rnext_clk (g : Nat) (t s m : Int) (w : World) (h : RClk w g t s m) : Calls Try.prog 19 #[.pointer (some ⟨g, 0, none⟩)] w (RStampRet g t s m w) := by
  obtain ⟨c0, c1, c2, f0, f1⟩ := h.facts
  have hr := h.2
  have H := Lib.hid h
  clear h
  by_cases hle : m ≤ s
  · go_enter Try.func19, Try.ntmps19
    go_wp2
    go_quiet (fail)
    go_wp2
    go_ret2
    exact ⟨0, 20, s, rfl, .inl ⟨by omega, rfl, rfl, rfl⟩, H.out, Keep.drewN w _ _⟩
  · go_enter Try.func19, Try.ntmps19
    go_wp2
    go_quiet (fail)
    go_wp2
    go_ret2
    exact ⟨s + 1, 0, s + 1, rfl, .inr ⟨by omega, rfl, rfl, rfl⟩, ⟨H.out.1.set 1 _, by omega, by omega, by omega, by omega, by omega⟩, Keep.trans (Keep.drewN w _ _) (Keep.set _ g 1 _ _ rfl)⟩
end Go.Proofs.Ytgdghinconghgaa
