/- The contracts of package clock. No condition. -/
import Derived.Test.YtgdghinconghgaaMem
set_option linter.unusedVariables false
set_option linter.unusedSimpArgs false
namespace Go.Proofs.Ytgdghinconghgaa
open Go.RowKit (wrap32 wrap64)
open Go.RowKit
/-- A clock's time, stamps, bound. -/
structure Ck where
  t : Int
  s : Int
  m : Int
def Ck.ok (c : Ck) : Prop := 0 ≤ c.t ∧ c.t ≤ c.m ∧ 0 ≤ c.s ∧ c.s ≤ c.m ∧ c.m ≤ 1099511627776
def ckCells (t s m : Int) : Array Value := #[.int .i64 t, .int .i64 m, .int .i64 s, .int .i64 m, .bool true]
def Clk (w : World) (g : Nat) (t s m : Int) : Prop := Bk w g 106 (ckCells t s m) ∧ 0 ≤ t ∧ t ≤ m ∧ 0 ≤ s ∧ s ≤ m ∧ m ≤ 1099511627776
theorem Clk.facts {w : World} {g : Nat} {t s m : Int} (h : Clk w g t s m) :
    (w.cell? ⟨g, 0, none⟩ = some (.int .i64 t) ∧ w.cell? ⟨g, 1, none⟩ = some (.int .i64 m) ∧ w.cell? ⟨g, 2, none⟩ = some (.int .i64 s) ∧ w.cell? ⟨g, 3, none⟩ = some (.int .i64 m) ∧ w.cell? ⟨g, 4, none⟩ = some (.bool true)) ∧
    (w.frozen? ⟨g, 0, none⟩ = false ∧ w.frozen? ⟨g, 2, none⟩ = false) :=
  ⟨⟨h.1.cell 0, h.1.cell 1, h.1.cell 2, h.1.cell 3, h.1.cell 4⟩, h.1.frozen 0, h.1.frozen 2⟩
def bound (m : Int) : Int := if m < 0 then 0 else if 1099511627776 < m then 1099511627776 else m
theorem bound_range (m : Int) : 0 ≤ bound m ∧ bound m ≤ 1099511627776 := by unfold bound; repeat' split
                                                                            all_goals omega
def NewRet (m : Int) (w : World) (e : Ending) (w' : World) : Prop := e = .returned (.pointer (some ⟨w.heap.size, 0, none⟩)) ∧ w' = w.alloc (.cells (ckCells 0 0 (bound m)) 106)
set_option maxHeartbeats 400000 in
theorem new_any (m : Int) (w : World) : Calls Try.prog 16 #[.int .i64 m] w (NewRet m w) := by
  by_cases h0 : m < 0
  · have hb := Lib.hid (show bound m = 0 from if_pos h0)
    go_enter Try.func16, Try.ntmps16
    go_wp2
    go_ret
    exact ⟨rfl, by rw [hb.out]; rfl⟩
  · by_cases h1 : 1099511627776 < m
    · have hb := Lib.hid (show bound m = 1099511627776 by unfold bound; rw [if_neg h0, if_pos h1])
      go_enter Try.func16, Try.ntmps16
      go_wp2
      go_ret
      exact ⟨rfl, by rw [hb.out]; rfl⟩
    · have hb := Lib.hid (show bound m = m by unfold bound; rw [if_neg h0, if_neg h1])
      go_enter Try.func16, Try.ntmps16
      go_wp2
      all_goals (go_ret; exact ⟨rfl, by rw [hb.out]; first | rfl | (congr; omega)⟩)
set_option maxHeartbeats 400000 in
theorem ok_yes (g : Nat) (w : World) (h : w.cell? ⟨g, 4, none⟩ = some (.bool true)) : Calls Try.prog 67 #[.pointer (some ⟨g, 0, none⟩)] w fun e w' => e = .returned (.bool true) ∧ w = w' := by
  go_enter Try.func67, Try.ntmps67
  go_wp2
  go_ret
  exact ⟨rfl, rfl⟩
set_option maxHeartbeats 400000 in
theorem ok_nil (w : World) : Calls Try.prog 67 #[.pointer none] w fun e w' => e = .returned (.bool false) ∧ w = w' := by
  go_enter Try.func67, Try.ntmps67
  go_wp2
  go_ret
  exact ⟨rfl, rfl⟩
def UpRet (g o : Nat) (c n : Int) (yes : Bool) (w : World) (e : Ending) (w' : World) : Prop := e = .returned (.bool yes) ∧ ∃ k, w' = if yes then (w.drewN k).setCell ⟨g, o, none⟩ (.int .i64 (c + n)) else w.drewN k
set_option maxHeartbeats 400000 in
theorem up_any (g o : Nat) (c m n : Int) (w : World) (h0 : w.cell? ⟨g, o, none⟩ = some (.int .i64 c)) (h1 : w.cell? ⟨g, o + 1, none⟩ = some (.int .i64 m)) (hf : w.frozen? ⟨g, o, none⟩ = false)
    (hc : 0 ≤ c ∧ c ≤ m ∧ m ≤ 1099511627776) (hn : 0 ≤ n) : Calls Try.prog 68 #[.pointer (some ⟨g, o, none⟩), .int .i64 n] w (UpRet g o c n (decide (n ≤ m - c)) w) := by
  have t1 : IntKind.i64.wrap (m - c) = m - c := by rw [IntKind.wrap_i64]; omega
  by_cases h : n ≤ m - c
  · rw [decide_eq_true h]
    go_enter Try.func68, Try.ntmps68
    go_wp2
    go_quiet (fail)
    go_wp2
    go_ret
    exact ⟨rfl, _, rfl⟩
  · rw [decide_eq_false h]
    go_enter Try.func68, Try.ntmps68
    go_wp2
    go_quiet (fail)
    go_wp2
    go_ret
    exact ⟨rfl, _, rfl⟩
theorem keep_quiet (w : World) (k : Nat) (S : Nat → Prop) : Keep S w (w.drewN k) := Keep.drewN w k S
theorem clk_drewN {w : World} {g : Nat} {t s m : Int} (h : Clk w g t s m) (k : Nat) : Clk (w.drewN k) g t s m := h
def TickRet (g : Nat) (t s m n : Int) (w : World) (e : Ending) (w' : World) : Prop :=
  ∃ er t', e = .returned (.int .i64 er) ∧ ((n < 0 ∧ er = 1 ∧ t' = t) ∨ (0 ≤ n ∧ m - t < n ∧ er = 20 ∧ t' = t) ∨ (0 ≤ n ∧ n ≤ m - t ∧ er = 0 ∧ t' = t + n)) ∧ Clk w' g t' s m ∧ Keep (· = g) w w'
set_option maxHeartbeats 400000 in
theorem tick_any (g : Nat) (t s m n : Int) (w : World) (h : Clk w g t s m) : Calls Try.prog 20 #[.pointer (some ⟨g, 0, none⟩), .int .i64 n] w (TickRet g t s m n w) := by
  have hmf : ∀ (fn : Fn) (first cap : Array Value) (w : World), (Instr.makeFunc fn first cap).run Try.prog w = .ok (.func fn first cap) w := fun _ _ _ _ => rfl
  obtain ⟨⟨c0, c1, c2, c3, c4⟩, f0, f2⟩ := h.facts
  have hr := h.2
  have H := Lib.hid h
  clear h
  by_cases hn : n < 0
  · go_enter Try.func20, Try.ntmps20
    go_wp2_with (first
      | (go_at_call 67; refine (ok_yes _ _ c4).mono ?_; rintro e w' ⟨rfl, rfl⟩))
    go_ret
    exact ⟨1, t, rfl, .inl ⟨hn, rfl, rfl⟩, H.out, Keep.refl _ _⟩
  · have hup := Lib.hid (up_any g 0 t m n w c0 c1 f0 ⟨by omega, by omega, by omega⟩ (by omega))
    by_cases hle : n ≤ m - t
    · rw [decide_eq_true hle] at hup
      go_enter Try.func20, Try.ntmps20
      go_wp2_with (first
        | (go_at_call 67; refine (ok_yes _ _ c4).mono ?_; rintro e w' ⟨rfl, rfl⟩))
      refine hup.out.mono ?_
      rintro e w1 ⟨rfl, k, hw1⟩
      rw [if_pos rfl] at hw1
      subst hw1
      go_wp2
      go_ret
      exact ⟨0, t + n, rfl, .inr (.inr ⟨by omega, hle, rfl, rfl⟩), ⟨H.out.1.set 0 _, by omega, by omega, by omega, by omega, by omega⟩, Keep.trans (Keep.drewN w k _) (Keep.set _ g 0 _ _ rfl)⟩
    · rw [decide_eq_false hle] at hup
      go_enter Try.func20, Try.ntmps20
      go_wp2_with (first
        | (go_at_call 67; refine (ok_yes _ _ c4).mono ?_; rintro e w' ⟨rfl, rfl⟩))
      refine hup.out.mono ?_
      rintro e w1 ⟨rfl, k, hw1⟩
      rw [if_neg (by decide)] at hw1
      subst hw1
      go_wp2
      go_ret
      exact ⟨20, t, rfl, .inr (.inl ⟨by omega, by omega, rfl, rfl⟩), H.out, Keep.drewN w k _⟩
def StampRet (g : Nat) (t s m : Int) (w : World) (e : Ending) (w' : World) : Prop :=
  ∃ v er s', e = .returned (.tuple #[.int .i64 v, .int .i64 er]) ∧ ((m ≤ s ∧ v = 0 ∧ er = 20 ∧ s' = s) ∨ (s < m ∧ v = s + 1 ∧ er = 0 ∧ s' = s + 1)) ∧ Clk w' g t s' m ∧ Keep (· = g) w w'
set_option maxHeartbeats 400000 in
theorem stamp_any (g : Nat) (t s m : Int) (w : World) (h : Clk w g t s m) : Calls Try.prog 18 #[.pointer (some ⟨g, 0, none⟩)] w (StampRet g t s m w) := by
  have hmf : ∀ (fn : Fn) (first cap : Array Value) (w : World), (Instr.makeFunc fn first cap).run Try.prog w = .ok (.func fn first cap) w := fun _ _ _ _ => rfl
  obtain ⟨⟨c0, c1, c2, c3, c4⟩, f0, f2⟩ := h.facts
  have hr := h.2
  have H := Lib.hid h
  clear h
  have hup := Lib.hid (up_any g 2 s m 1 w c2 c3 f2 ⟨by omega, by omega, by omega⟩ (by omega))
  by_cases hle : 1 ≤ m - s
  · rw [decide_eq_true hle] at hup
    go_enter Try.func18, Try.ntmps18
    go_wp2_with (first
      | (go_at_call 67; refine (ok_yes _ _ c4).mono ?_; rintro e w' ⟨rfl, rfl⟩))
    refine hup.out.mono ?_
    rintro e w1 ⟨rfl, k, hw1⟩
    rw [if_pos rfl] at hw1
    subst hw1
    go_wp2
    go_ret2
    exact ⟨s + 1, 0, s + 1, rfl, .inr ⟨by omega, rfl, rfl, rfl⟩, ⟨H.out.1.set 2 _, by omega, by omega, by omega, by omega, by omega⟩, Keep.trans (Keep.drewN w k _) (Keep.set _ g 2 _ _ rfl)⟩
  · rw [decide_eq_false hle] at hup
    go_enter Try.func18, Try.ntmps18
    go_wp2_with (first
      | (go_at_call 67; refine (ok_yes _ _ c4).mono ?_; rintro e w' ⟨rfl, rfl⟩))
    refine hup.out.mono ?_
    rintro e w1 ⟨rfl, k, hw1⟩
    rw [if_neg (by decide)] at hw1
    subst hw1
    go_wp2
    go_ret2
    exact ⟨0, 20, s, rfl, .inl ⟨by omega, rfl, rfl, rfl⟩, H.out, Keep.drewN w k _⟩
set_option maxHeartbeats 400000 in
theorem now_any (g : Nat) (t s m : Int) (w : World) (h : Clk w g t s m) : Calls Try.prog 23 #[.pointer (some ⟨g, 0, none⟩)] w fun e w' => e = .returned (.int .i64 t) ∧ w = w' := by
  obtain ⟨⟨c0, c1, c2, c3, c4⟩, f0, f2⟩ := h.facts
  clear h
  go_enter Try.func23, Try.ntmps23
  go_wp2_with (first
    | (go_at_call 67; refine (ok_yes _ _ c4).mono ?_; rintro e w' ⟨rfl, rfl⟩))
  go_ret
  exact ⟨rfl, rfl⟩
def LeftRet (s m : Int) (w : World) (e : Ending) (w' : World) : Prop := e = .returned (.int .i64 (m - s)) ∧ ∃ k, w' = w.drewN k
set_option maxHeartbeats 400000 in
theorem left_any (g : Nat) (t s m : Int) (w : World) (h : Clk w g t s m) : Calls Try.prog 24 #[.pointer (some ⟨g, 0, none⟩)] w (LeftRet s m w) := by
  obtain ⟨⟨c0, c1, c2, c3, c4⟩, f0, f2⟩ := h.facts
  have hr := h.2
  clear h
  have t1 : IntKind.i64.wrap (m - s) = m - s := by rw [IntKind.wrap_i64]; omega
  go_enter Try.func24, Try.ntmps24
  go_wp2_with (first
    | (go_at_call 67; refine (ok_yes _ _ c4).mono ?_; rintro e w' ⟨rfl, rfl⟩))
  go_quiet (fail)
  go_wp2
  go_ret
  exact ⟨rfl, _, rfl⟩
def CopyRet (t s m : Int) (w : World) (e : Ending) (w' : World) : Prop := e = .returned (.pointer (some ⟨w.heap.size, 0, none⟩)) ∧ w' = w.alloc (.cells (ckCells t s m) 106)
set_option maxHeartbeats 400000 in
theorem copy_any (g : Nat) (t s m : Int) (w : World) (h : Clk w g t s m) : Calls Try.prog 22 #[.pointer (some ⟨g, 0, none⟩)] w (CopyRet t s m w) := by
  obtain ⟨⟨c0, c1, c2, c3, c4⟩, f0, f2⟩ := h.facts
  clear h
  go_enter Try.func22, Try.ntmps22
  go_wp2_with (first
    | (go_at_call 67; refine (ok_yes _ _ c4).mono ?_; rintro e w' ⟨rfl, rfl⟩))
  go_ret
  exact ⟨rfl, rfl⟩
end Go.Proofs.Ytgdghinconghgaa
