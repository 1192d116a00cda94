/- The walks of chapter 3's statements. No condition. -/
import Derived.Test.YtgdghinconghgaaClockA
import Derived.Test.YtgdghinconghgaaSl
set_option linter.unusedVariables false
set_option linter.unusedSimpArgs false
namespace Go.Proofs.Ytgdghinconghgaa
open Go.RowKit (wrap32 wrap64)
open Go.RowKit
theorem bl_keep {w w1 w2 : World} {S : Nat → Prop} (h : Below w.heap.size w w1) (k : Keep S w1 w2) (hS : ∀ i, S i → w.heap.size ≤ i) : Below w.heap.size w w2 := h.trans (k.below h.size hS)
set_option maxHeartbeats 3000000 in
theorem never_any (most : Int) (a : Option Addr) (len cap : Nat) (zs : List Int) (w : World) (ha : IsRow .i64 w a len cap zs) :
    Calls Try.prog 4 #[.int .i64 most, .slice a len cap] w fun e w' => e = .returned (.bool true) ∧ Below w.heap.size w w' := by
  obtain ⟨hl, hwf, hlc, hcm⟩ := ha.ints
  generalize zs.take len = xs at hl hwf
  have hx := hl.len
  clear ha
  have HB := Below.refl w.heap.size w
  by_cases h1 : 40 < len
  · go_enter Try.func4, Try.ntmps4
    go_wp2_with fail
    refine (awake03 _).mono ?_
    rintro e w1 ⟨rfl, b1⟩
    go_wp2
    go_ret
    exact ⟨rfl, b1⟩
  go_enter Try.func4, Try.ntmps4
  go_wp2_with fail
  refine (awake03 _).mono ?_
  rintro e w1 ⟨rfl, hb1⟩
  go_wp2_with fail
  refine (new_any _ _).mono ?_
  rintro e w2 ⟨rfl, hw2⟩
  have hc2 : Clk w2 w1.heap.size 0 0 (bound most) := by rw [hw2]; exact clk_new _ _
  have hb2 : Below w.heap.size w w2 := by rw [hw2]; exact hb1.alloc hb1.size _
  have hg : w.heap.size ≤ w1.heap.size := hb1.size
  clear hw2
  generalize w1.heap.size = g at hc2 hg
  have hmr := bound_range most
  generalize bound most = m at hc2 hmr
  go_wp2_with fail
  go_loopw [6, 25] (fun st c wr => ∃ (k : Nat) (t s : Int), k ≤ len ∧ st = .int .i64 s ∧ c = .int .i64 k ∧ Clk wr g t s m ∧ Below w.heap.size w wr) (fun _ c _ => len - (intOf c).toNat)
  case atStart => exact ⟨0, 0, 0, by omega, rfl, rfl, hc2, hb2⟩
  case round =>
    clear HB
    obtain ⟨k, t, s, hk, rfl, rfl, HC, HB⟩ := hrel
    by_cases hlt : k < len
    · obtain ⟨b, off, rfl, hc⟩ := (hl.below HB).get hlt
      clear hl hc2 hb2
      generalize xs.getD k 0 = x at hc
      have hr := HC.2
      go_wp2_with fail
      refine (now_any _ _ _ _ _ HC).mono ?_
      rintro e _ ⟨rfl, rfl⟩
      go_wp2_with fail
      refine (tick_any _ _ _ _ _ _ HC).mono ?_
      rintro e w3 ⟨er, t', rfl, h, hc3, hk3⟩
      have hb3 := bl_keep HB hk3 (fun i h => by omega)
      clear HB hk3 HC
      have hr3 := hc3.2
      rcases h with ⟨h1, rfl, rfl⟩ | ⟨h1, h2, rfl, rfl⟩ | ⟨h1, h2, rfl, rfl⟩
      all_goals
        go_wp2_with (first
          | (go_at_call 23; refine (now_any _ _ _ _ _ hc3).mono ?_; rintro e w' ⟨rfl, rfl⟩))
        refine (stamp_any _ _ _ _ _ hc3).mono ?_
        rintro e w4 ⟨v, er, s', rfl, h, hc4, hk4⟩
        have hb4 := bl_keep hb3 hk4 (fun i h => by omega)
        clear hb3 hk4 hc3
        rcases h with ⟨h5, rfl, rfl, rfl⟩ | ⟨h5, rfl, rfl, rfl⟩
        · go_wp2_with fail
          refine (left_any _ _ _ _ _ hc4).mono ?_
          rintro e _ ⟨rfl, n, rfl⟩
          go_wp2
          go_roundw
          case rel => exact ⟨k + 1, _, _, by omega, rfl, by go_num, clk_drewN hc4 n, bl_keep hb4 (Keep.drewN _ n (fun _ => False)) (fun i h => h.elim)⟩
          case measure => simp [intOf]; omega
        · go_wp2
          go_roundw
          case rel => exact ⟨k + 1, _, _, by omega, rfl, by go_num, hc4, hb4⟩
          case measure => simp [intOf]; omega
    · obtain rfl : k = len := by omega
      go_wp2_with (first
        | (go_at_call 18; refine (stamp_nil _).mono ?_; rintro e w' ⟨rfl, rfl⟩)
        | (go_at_call 23; refine (now_nil _).mono ?_; rintro e w' ⟨rfl, rfl⟩)
        | (go_at_call 20; refine (tick_nil _ _).mono ?_; rintro e w' ⟨rfl, rfl⟩)
        | (go_at_call 24; refine (left_nil _).mono ?_; rintro e w' ⟨rfl, rfl⟩)
        | (go_at_call 22; refine (copy_nil _).mono ?_; rintro e w' ⟨rfl, rfl⟩))
      go_ret
      exact ⟨rfl, HB⟩
/-! ### What a tick and a stamp answer -/
def tkE (m t n : Int) : Int := if n < 0 then 1 else if m - t < n then 20 else 0
def tkT (m t n : Int) : Int := if n < 0 then t else if m - t < n then t else t + n
def stE (m s : Int) : Int := if m ≤ s then 20 else 0
def stV (m s : Int) : Int := if m ≤ s then 0 else s + 1
def stS (m s : Int) : Int := if m ≤ s then s else s + 1
theorem tk_of {n m t er t' : Int} (h : (n < 0 ∧ er = 1 ∧ t' = t) ∨ (0 ≤ n ∧ m - t < n ∧ er = 20 ∧ t' = t) ∨ (0 ≤ n ∧ n ≤ m - t ∧ er = 0 ∧ t' = t + n)) : er = tkE m t n ∧ t' = tkT m t n := by
  unfold tkE tkT
  repeat' split
  all_goals omega
theorem st_of {m s v er s' : Int} (h : (m ≤ s ∧ v = 0 ∧ er = 20 ∧ s' = s) ∨ (s < m ∧ v = s + 1 ∧ er = 0 ∧ s' = s + 1)) : v = stV m s ∧ er = stE m s ∧ s' = stS m s := by
  unfold stV stE stS
  repeat' split
  all_goals omega
def TickFn (g : Nat) (t s m n : Int) (w : World) (e : Ending) (w' : World) : Prop := e = .returned (.int .i64 (tkE m t n)) ∧ Clk w' g (tkT m t n) s m ∧ Keep (· = g) w w'
theorem tick_fn (g : Nat) (t s m n : Int) (w : World) (h : Clk w g t s m) : Calls Try.prog 20 #[.pointer (some ⟨g, 0, none⟩), .int .i64 n] w (TickFn g t s m n w) := by
  refine (tick_any g t s m n w h).mono ?_
  rintro e w1 ⟨er, t', rfl, h, hc, hk⟩
  obtain ⟨rfl, rfl⟩ := tk_of h
  exact ⟨rfl, hc, hk⟩
def StampFn (g : Nat) (t s m : Int) (w : World) (e : Ending) (w' : World) : Prop := e = .returned (.tuple #[.int .i64 (stV m s), .int .i64 (stE m s)]) ∧ Clk w' g t (stS m s) m ∧ Keep (· = g) w w'
theorem stamp_fn (g : Nat) (t s m : Int) (w : World) (h : Clk w g t s m) : Calls Try.prog 18 #[.pointer (some ⟨g, 0, none⟩)] w (StampFn g t s m w) := by
  refine (stamp_any g t s m w h).mono ?_
  rintro e w1 ⟨v, er, s', rfl, h, hc, hk⟩
  obtain ⟨rfl, rfl, rfl⟩ := st_of h
  exact ⟨rfl, hc, hk⟩
def RTickFn (g : Nat) (t s m n : Int) (w : World) (e : Ending) (w' : World) : Prop := e = .returned (.int .i64 (tkE m t n)) ∧ RClk w' g (tkT m t n) s m ∧ Keep (· = g) w w'
theorem rtick_fn (g : Nat) (t s m n : Int) (w : World) (h : RClk w g t s m) : Calls Try.prog 21 #[.pointer (some ⟨g, 0, none⟩), .int .i64 n] w (RTickFn g t s m n w) := by
  refine (rtick_any g t s m n w h).mono ?_
  rintro e w1 ⟨er, t', rfl, h, hc, hk⟩
  obtain ⟨rfl, rfl⟩ := tk_of h
  exact ⟨rfl, hc, hk⟩
def RStampFn (g : Nat) (t s m : Int) (w : World) (e : Ending) (w' : World) : Prop := e = .returned (.tuple #[.int .i64 (stV m s), .int .i64 (stE m s)]) ∧ RClk w' g t (stS m s) m ∧ Keep (· = g) w w'
theorem rnext_fn (g : Nat) (t s m : Int) (w : World) (h : RClk w g t s m) : Calls Try.prog 19 #[.pointer (some ⟨g, 0, none⟩)] w (RStampFn g t s m w) := by
  refine (rnext_clk g t s m w h).mono ?_
  rintro e w1 ⟨v, er, s', rfl, h, hc, hk⟩
  obtain ⟨rfl, rfl, rfl⟩ := st_of h
  exact ⟨rfl, hc, hk⟩
set_option maxHeartbeats 3000000 in
theorem copies_any (most : Int) (a : Option Addr) (len cap : Nat) (zs : List Int) (more : Int) (w : World) (ha : IsRow .i64 w a len cap zs) :
    Calls Try.prog 5 #[.int .i64 most, .slice a len cap, .int .i64 more] w fun e w' => e = .returned (.bool true) ∧ Below w.heap.size w w' := by
  obtain ⟨hl, hwf, hlc, hcm⟩ := ha.ints
  generalize zs.take len = xs at hl hwf
  have hx := hl.len
  clear ha
  have HB := Below.refl w.heap.size w
  by_cases h1 : 40 < len
  · go_enter Try.func5, Try.ntmps5
    go_wp2_with fail
    refine (awake03 _).mono ?_
    rintro e w1 ⟨rfl, b1⟩
    go_wp2
    go_ret
    exact ⟨rfl, b1⟩
  go_enter Try.func5, Try.ntmps5
  go_wp2_with fail
  refine (awake03 _).mono ?_
  rintro e w1 ⟨rfl, hb1⟩
  go_wp2_with fail
  refine (new_any _ _).mono ?_
  rintro e w2 ⟨rfl, hw2⟩
  have hc2 : Clk w2 w1.heap.size 0 0 (bound most) := by rw [hw2]; exact clk_new _ _
  have hb2 : Below w.heap.size w w2 := by rw [hw2]; exact hb1.alloc hb1.size _
  have hg : w.heap.size ≤ w1.heap.size := hb1.size
  clear hw2
  generalize w1.heap.size = g at hc2 hg
  have hmr := bound_range most
  generalize bound most = m at hc2 hmr
  go_wp2_with fail
  go_loopw [28] (fun c wr => ∃ (k : Nat) (t s : Int), k ≤ len ∧ c = .int .i64 k ∧ Clk wr g t s m ∧ Below w.heap.size w wr) (fun c _ => len - (intOf c).toNat)
  case atStart => exact ⟨0, 0, 0, by omega, rfl, hc2, hb2⟩
  case round =>
    clear HB
    obtain ⟨k, t, s, hk, rfl, HC, HB⟩ := hrel
    by_cases hlt : k < len
    · obtain ⟨b, off, rfl, hc⟩ := (hl.below HB).get hlt
      clear hl hc2 hb2
      generalize xs.getD k 0 = x at hc
      go_wp2_with fail
      refine (tick_fn _ _ _ _ _ _ HC).mono ?_
      rintro e w3 ⟨rfl, hc3, hk3⟩
      have hb3 := bl_keep HB hk3 (fun i h => by omega)
      clear HB hk3 HC
      go_wp2_with fail
      refine (stamp_fn _ _ _ _ _ hc3).mono ?_
      rintro e w4 ⟨rfl, hc4, hk4⟩
      have hb4 := bl_keep hb3 hk4 (fun i h => by omega)
      clear hb3 hk4 hc3
      go_wp2
      go_roundw
      case rel => exact ⟨k + 1, _, _, by omega, by go_num, hc4, hb4⟩
      case measure => simp [intOf]; omega
    · obtain rfl : k = len := by omega
      clear hl hc2 hb2
      go_wp2_with fail
      refine (copy_any _ _ _ _ _ HC).mono ?_
      rintro e w3 ⟨rfl, hw3⟩
      have hd : Clk w3 wr.heap.size t s m := by rw [hw3]; exact clk_copy wr HC
      have hc3 : Clk w3 g t s m := by rw [hw3]; exact HC.keep (Keep.alloc _ _ (fun _ => False)) (fun h => h)
      have hb3 : Below w.heap.size w w3 := by rw [hw3]; exact HB.alloc HB.size _
      have hgd : g < wr.heap.size := HC.lt
      clear hw3
      generalize wr.heap.size = d at hd hgd
      clear HC HB
      go_wp2_with (first | (go_at_call 23; refine (now_any _ _ _ _ _ hc3).mono ?_; rintro e w' ⟨rfl, rfl⟩))
      refine (left_any _ _ _ _ _ hc3).mono ?_
      rintro e w4 ⟨rfl, n4, rfl⟩
      replace hb3 := bl_keep hb3 (Keep.drewN _ n4 (fun _ => False)) (fun i h => h.elim)
      replace hc3 := clk_drewN hc3 n4
      replace hd := clk_drewN hd n4
      generalize w3.drewN n4 = w5 at *
      go_wp2_with fail
      refine (tick_fn _ _ _ _ _ _ hd).mono ?_
      rintro e w6 ⟨rfl, hd6, hk6⟩
      have hb6 := bl_keep hb3 hk6 (fun i h => by omega)
      have hc6 := hc3.keep hk6 (by omega)
      clear hk6 hb3 hc3 hd
      go_wp2_with fail
      refine (left_any _ _ _ _ _ hd6).mono ?_
      rintro e w7 ⟨rfl, n7, rfl⟩
      replace hb6 := bl_keep hb6 (Keep.drewN _ n7 (fun _ => False)) (fun i h => h.elim)
      replace hc6 := clk_drewN hc6 n7
      replace hd6 := clk_drewN hd6 n7
      generalize w6.drewN n7 = w8 at *
      go_wp2_with fail
      refine (stamp_fn _ _ _ _ _ hd6).mono ?_
      rintro e w9 ⟨rfl, hd9, hk9⟩
      have hb9 := bl_keep hb6 hk9 (fun i h => by omega)
      have hc9 := hc6.keep hk9 (by omega)
      clear hk9 hb6 hc6 hd6
      go_wp2_with (first | (go_at_call 23; refine (now_any _ _ _ _ _ hc9).mono ?_; rintro e w' ⟨rfl, rfl⟩))
      refine (left_any _ _ _ _ _ hc9).mono ?_
      rintro e wa ⟨rfl, na, rfl⟩
      replace hb9 := bl_keep hb9 (Keep.drewN _ na (fun _ => False)) (fun i h => h.elim)
      replace hc9 := clk_drewN hc9 na
      replace hd9 := clk_drewN hd9 na
      generalize w9.drewN na = wb at *
      go_wp2_with fail
      refine (stamp_fn _ _ _ _ _ hc9).mono ?_
      rintro e wc ⟨rfl, hcc, hkc⟩
      have hbc := bl_keep hb9 hkc (fun i h => by omega)
      have hdc := hd9.keep hkc (by omega)
      clear hkc hb9 hc9 hd9
      go_wp2_with fail
      refine (tick_fn _ _ _ _ _ _ hcc).mono ?_
      rintro e wd ⟨rfl, hce, hke⟩
      have hbe := bl_keep hbc hke (fun i h => by omega)
      have hde := hdc.keep hke (by omega)
      clear hke hbc hcc hdc
      go_wp2_with fail
      refine (now_any _ _ _ _ _ hce).mono ?_
      rintro e _ ⟨rfl, rfl⟩
      go_wp2_with fail
      refine (now_any _ _ _ _ _ hde).mono ?_
      rintro e _ ⟨rfl, rfl⟩
      go_wp2_with fail
      refine (left_any _ _ _ _ _ hce).mono ?_
      rintro e wf ⟨rfl, nf, rfl⟩
      replace hbe := bl_keep hbe (Keep.drewN _ nf (fun _ => False)) (fun i h => h.elim)
      replace hde := clk_drewN hde nf
      generalize wd.drewN nf = wh at *
      go_wp2_with fail
      refine (left_any _ _ _ _ _ hde).mono ?_
      rintro e wi ⟨rfl, ni, rfl⟩
      replace hbe := bl_keep hbe (Keep.drewN _ ni (fun _ => False)) (fun i h => h.elim)
      go_wp2
      go_ret
      exact ⟨rfl, hbe⟩
end Go.Proofs.Ytgdghinconghgaa
