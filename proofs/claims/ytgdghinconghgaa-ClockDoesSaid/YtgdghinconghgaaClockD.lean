/- The walk of ClockDoes. No condition. -/
import Derived.Test.YtgdghinconghgaaClockW
set_option linter.unusedVariables false
set_option linter.unusedSimpArgs false
namespace Go.Proofs.Ytgdghinconghgaa
open Go.RowKit (wrap32 wrap64)
open Go.RowKit
set_option maxHeartbeats 3000000 in
theorem does_any (most : Int) (a : Option Addr) (len cap : Nat) (zs : List Int) (w : World) (ha : IsRow .i64 w a len cap zs) :
    Calls Try.prog 3 #[.int .i64 most, .slice a len cap] w fun e w' => e = .returned (.bool true) ∧ Below w.heap.size w w' := by
  obtain ⟨hl, hwf, hlc, hcm⟩ := ha.ints
  generalize zs.take len = xs at hl hwf
  have hx := hl.len
  clear ha
  have HB := Below.refl w.heap.size w
  by_cases h1 : 40 < len
  · go_enter Try.func3, Try.ntmps3
    go_wp2_with fail
    refine (awake03 _).mono ?_
    rintro e w1 ⟨rfl, b1⟩
    go_wp2
    go_ret
    exact ⟨rfl, b1⟩
  go_enter Try.func3, Try.ntmps3
  go_wp2_with fail
  refine (awake03 _).mono ?_
  rintro e w1 ⟨rfl, hb1⟩
  go_wp2_with fail
  refine (new_any _ _).mono ?_
  rintro e w2 ⟨rfl, hw2⟩
  have hc2 : Clk w2 w1.heap.size 0 0 (bound most) := by rw [hw2]; exact clk_new _ _
  have hb2 : Below w.heap.size w w2 := by rw [hw2]; exact hb1.alloc hb1.size _
  have hg : w.heap.size ≤ w1.heap.size := hb1.size
  clear hw2
  generalize w1.heap.size = g at hc2 hg
  have hmr := bound_range most
  go_wp2_with fail
  refine (rnew_any _ _).mono ?_
  rintro e w3 ⟨rfl, hw3⟩
  have hx3 : RClk w3 w2.heap.size 0 0 (bound most) := by rw [hw3]; exact rclk_new _ _
  have hc3 : Clk w3 g 0 0 (bound most) := by rw [hw3]; exact hc2.keep (Keep.alloc _ _ (fun _ => False)) (fun h => h)
  have hb3 : Below w.heap.size w w3 := by rw [hw3]; exact hb2.alloc hb2.size _
  have hgx : g < w2.heap.size := hc2.lt
  have hsx : w.heap.size ≤ w2.heap.size := hb2.size
  clear hw3 hb2 hc2
  generalize w2.heap.size = gx at hx3 hgx hsx
  generalize bound most = m at hc3 hx3 hmr
  go_wp2_with fail
  go_loopw [25] (fun c wr => ∃ (k : Nat) (t s : Int), k ≤ len ∧ c = .int .i64 k ∧ Clk wr g t s m ∧ RClk wr gx t s m ∧ Below w.heap.size w wr) (fun c _ => len - (intOf c).toNat)
  case atStart => exact ⟨0, 0, 0, by omega, rfl, hc3, hx3, hb3⟩
  case round =>
    clear HB
    obtain ⟨k, t, s, hk, rfl, HC, HX, HB⟩ := hrel
    by_cases hlt : k < len
    · obtain ⟨b, off, rfl, hc⟩ := (hl.below HB).get hlt
      clear hl hc3 hx3 hb3
      generalize xs.getD k 0 = x at hc
      by_cases hx1 : (Int.tmod x 3 == 1) = true
      · go_wp2_with fail
        refine (stamp_fn _ _ _ _ _ HC).mono ?_
        rintro e w4 ⟨rfl, hc4, hk4⟩
        have hb4 := bl_keep HB hk4 (fun i h => by omega)
        have hx4 := HX.keep hk4 (by omega)
        clear HB HX HC hk4
        go_wp2_with fail
        refine (rnext_fn _ _ _ _ _ hx4).mono ?_
        rintro e w5 ⟨rfl, hx5, hk5⟩
        have hb5 := bl_keep hb4 hk5 (fun i h => by omega)
        have hc5 := hc4.keep hk5 (by omega)
        clear hb4 hx4 hc4 hk5
        go_wp2_with fail
        refine (copy_any _ _ _ _ _ hc5).mono ?_
        rintro e w6 ⟨rfl, hw6⟩
        have hd6 : Clk w6 w5.heap.size t (stS m s) m := by rw [hw6]; exact clk_copy w5 hc5
        have hc6 : Clk w6 g t (stS m s) m := by rw [hw6]; exact hc5.keep (Keep.alloc _ _ (fun _ => False)) (fun h => h)
        have hx6 : RClk w6 gx t (stS m s) m := by rw [hw6]; exact hx5.keep (Keep.alloc _ _ (fun _ => False)) (fun h => h)
        have hb6 : Below w.heap.size w w6 := by rw [hw6]; exact hb5.alloc hb5.size _
        have hgd : g < w5.heap.size := hc5.lt
        have hxd : gx < w5.heap.size := hx5.1.lt
        clear hw6 hb5 hc5 hx5
        generalize w5.heap.size = d at hd6 hgd hxd
        go_wp2_with fail
        refine (tick_fn _ _ _ _ _ _ hd6).mono ?_
        rintro e w7 ⟨rfl, hd7, hk7⟩
        have hb7 := bl_keep hb6 hk7 (fun i h => by omega)
        have hc7 := hc6.keep hk7 (by omega)
        have hx7 := hx6.keep hk7 (by omega)
        clear hb6 hc6 hx6 hd6 hk7
        go_wp2_with fail
        refine (stamp_fn _ _ _ _ _ hd7).mono ?_
        rintro e w8 ⟨rfl, hd8, hk8⟩
        have hb8 := bl_keep hb7 hk8 (fun i h => by omega)
        have hc8 := hc7.keep hk8 (by omega)
        have hx8 := hx7.keep hk8 (by omega)
        clear hb7 hc7 hx7 hd7 hd8 hk8
        obtain ⟨c0, c1, c2, f0, f1⟩ := hx8.facts
        have hr := hx8.2
        have t1 : IntKind.i64.wrap (m - (stS m s)) = m - (stS m s) := by rw [IntKind.wrap_i64]; omega
        go_wp2
        go_quiet (first
          | (go_at_call 23; exact Calls.quiet_of_same ((now_any _ _ _ _ _ (clk_drewN hc8 _)).mono fun _ _ h => ⟨h.1, h.2.symm⟩))
          | (go_at_call 24; exact Calls.quiet_of (left_any _ _ _ _ _ (clk_drewN hc8 _))))
        go_wp2
        go_roundw
        case rel => exact ⟨k + 1, _, _, by omega, by go_num, clk_drewN hc8 _, hx8, bl_keep hb8 (Keep.drewN _ _ (fun _ => False)) (fun i h => h.elim)⟩
        case measure => simp [intOf]; omega
      · go_wp2_with fail
        refine (tick_fn _ _ _ _ _ _ HC).mono ?_
        rintro e w4 ⟨rfl, hc4, hk4⟩
        have hb4 := bl_keep HB hk4 (fun i h => by omega)
        have hx4 := HX.keep hk4 (by omega)
        clear HB HX HC hk4
        go_wp2_with fail
        refine (rtick_fn _ _ _ _ _ _ hx4).mono ?_
        rintro e w5 ⟨rfl, hx5, hk5⟩
        have hb5 := bl_keep hb4 hk5 (fun i h => by omega)
        have hc5 := hc4.keep hk5 (by omega)
        clear hb4 hx4 hc4 hk5
        go_wp2_with fail
        refine (copy_any _ _ _ _ _ hc5).mono ?_
        rintro e w6 ⟨rfl, hw6⟩
        have hd6 : Clk w6 w5.heap.size (tkT m t x) s m := by rw [hw6]; exact clk_copy w5 hc5
        have hc6 : Clk w6 g (tkT m t x) s m := by rw [hw6]; exact hc5.keep (Keep.alloc _ _ (fun _ => False)) (fun h => h)
        have hx6 : RClk w6 gx (tkT m t x) s m := by rw [hw6]; exact hx5.keep (Keep.alloc _ _ (fun _ => False)) (fun h => h)
        have hb6 : Below w.heap.size w w6 := by rw [hw6]; exact hb5.alloc hb5.size _
        have hgd : g < w5.heap.size := hc5.lt
        have hxd : gx < w5.heap.size := hx5.1.lt
        clear hw6 hb5 hc5 hx5
        generalize w5.heap.size = d at hd6 hgd hxd
        go_wp2_with fail
        refine (tick_fn _ _ _ _ _ _ hd6).mono ?_
        rintro e w7 ⟨rfl, hd7, hk7⟩
        have hb7 := bl_keep hb6 hk7 (fun i h => by omega)
        have hc7 := hc6.keep hk7 (by omega)
        have hx7 := hx6.keep hk7 (by omega)
        clear hb6 hc6 hx6 hd6 hk7
        go_wp2_with fail
        refine (stamp_fn _ _ _ _ _ hd7).mono ?_
        rintro e w8 ⟨rfl, hd8, hk8⟩
        have hb8 := bl_keep hb7 hk8 (fun i h => by omega)
        have hc8 := hc7.keep hk8 (by omega)
        have hx8 := hx7.keep hk8 (by omega)
        clear hb7 hc7 hx7 hd7 hd8 hk8
        obtain ⟨c0, c1, c2, f0, f1⟩ := hx8.facts
        have hr := hx8.2
        have t1 : IntKind.i64.wrap (m - s) = m - s := by rw [IntKind.wrap_i64]; omega
        go_wp2
        go_quiet (first
          | (go_at_call 23; exact Calls.quiet_of_same ((now_any _ _ _ _ _ (clk_drewN hc8 _)).mono fun _ _ h => ⟨h.1, h.2.symm⟩))
          | (go_at_call 24; exact Calls.quiet_of (left_any _ _ _ _ _ (clk_drewN hc8 _))))
        go_wp2
        go_roundw
        case rel => exact ⟨k + 1, _, _, by omega, by go_num, clk_drewN hc8 _, hx8, bl_keep hb8 (Keep.drewN _ _ (fun _ => False)) (fun i h => h.elim)⟩
        case measure => simp [intOf]; omega
    · obtain rfl : k = len := by omega
      go_wp2
      go_ret
      exact ⟨rfl, HB⟩
end Go.Proofs.Ytgdghinconghgaa
