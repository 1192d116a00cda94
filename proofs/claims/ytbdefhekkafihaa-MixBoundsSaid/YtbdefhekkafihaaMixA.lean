/- mix: May, the draws, a row, one operation. No condition. -/
import Derived.Test.YtbdefhekkafihaaMixN
import Derived.Test.YtbdefhekkafihaaPthV
import Derived.Test.YtbdefhekkafihaaSamAc
set_option linter.unusedVariables false
set_option linter.unusedSimpArgs false
namespace Go.Proofs.Ytbdefhekkafihaa
open Go.RowKit (wrap32 wrap64)
open Go.RowKit Go.Shelf
def inR (n lo hi : Int) : Bool := decide (lo ≤ n) && decide (n ≤ hi)
theorem mwithin_val {n lo hi : Int} {b : Bool} (h : inR n lo hi = b) (w : World) : Calls Try.prog 26 #[.int .i64 n, .int .i64 lo, .int .i64 hi] w fun e w' => e = .returned (.bool b) ∧ w = w' := by
  subst h
  unfold inR
  by_cases h1 : lo ≤ n
  · rw [decide_eq_true h1, Bool.true_and]
    go_enter Try.func26, Try.ntmps26
    go_wp2
    go_ret
    exact ⟨rfl, rfl⟩
  · rw [decide_eq_false h1, Bool.false_and]
    go_enter Try.func26, Try.ntmps26
    go_wp2
    go_ret
    exact ⟨rfl, rfl⟩
def mayR (cl tx op rw wr sc : Int) : Bool := inR cl 1 8 && (inR tx 0 8 && (inR op 0 6 && (inR rw 1 100 && (inR wr 0 100 && inR sc 0 (100 - wr)))))
theorem mayR_iff (cl tx op rw wr sc : Int) : mayR cl tx op rw wr sc = true ↔ (1 ≤ cl ∧ cl ≤ 8) ∧ (0 ≤ tx ∧ tx ≤ 8) ∧ (0 ≤ op ∧ op ≤ 6) ∧ (1 ≤ rw ∧ rw ≤ 100) ∧ (0 ≤ wr ∧ wr ≤ 100) ∧ (0 ≤ sc ∧ sc ≤ 100 - wr) := by
  unfold mayR inR
  simp only [Bool.and_eq_true, decide_eq_true_eq]
set_option maxRecDepth 100000 in
set_option maxHeartbeats 4000000 in
theorem mmay_any (cl tx op rw wr sc sd : Int) (w : World) : Calls Try.prog 9 #[.agg #[.int .i64 cl, .int .i64 tx, .int .i64 op, .int .i64 rw, .int .i64 wr, .int .i64 sc, .int .u64 sd]] w fun e w' => e = .returned (.bool (mayR cl tx op rw wr sc)) ∧ Below w.heap.size w w' := by
  have hO : Below w.heap.size w (w.alloc (.cells #[.int .i64 cl, .int .i64 tx, .int .i64 op, .int .i64 rw, .int .i64 wr, .int .i64 sc, .int .u64 sd] 24)) := (Below.refl _ _).alloc (Nat.le_refl _) _
  unfold mayR
  cases h0 : inR cl 1 8 with
  | false =>
    go_enter Try.func9, Try.ntmps9
    go_wp2_with (go_at_call 26; refine (mwithin_val (by assumption) _).mono ?_; rintro e _ ⟨rfl, rfl⟩)
    go_ret
    exact ⟨rfl, hO⟩
  | true =>
  cases h1 : inR tx 0 8 with
  | false =>
    go_enter Try.func9, Try.ntmps9
    go_wp2_with (go_at_call 26; refine (mwithin_val (by assumption) _).mono ?_; rintro e _ ⟨rfl, rfl⟩)
    go_ret
    exact ⟨rfl, hO⟩
  | true =>
  cases h2 : inR op 0 6 with
  | false =>
    go_enter Try.func9, Try.ntmps9
    go_wp2_with (go_at_call 26; refine (mwithin_val (by assumption) _).mono ?_; rintro e _ ⟨rfl, rfl⟩)
    go_ret
    exact ⟨rfl, hO⟩
  | true =>
  cases h3 : inR rw 1 100 with
  | false =>
    go_enter Try.func9, Try.ntmps9
    go_wp2_with (go_at_call 26; refine (mwithin_val (by assumption) _).mono ?_; rintro e _ ⟨rfl, rfl⟩)
    go_ret
    exact ⟨rfl, hO⟩
  | true =>
  cases h4 : inR wr 0 100 with
  | false =>
    go_enter Try.func9, Try.ntmps9
    go_wp2_with (go_at_call 26; refine (mwithin_val (by assumption) _).mono ?_; rintro e _ ⟨rfl, rfl⟩)
    go_ret
    exact ⟨rfl, hO⟩
  | true =>
  cases h5 : inR sc 0 (100 - wr) with
  | false =>
    have t1 : IntKind.i64.wrap (100 - wr) = 100 - wr := by unfold inR at h4; simp at h4; rw [IntKind.wrap_i64]; omega
    go_enter Try.func9, Try.ntmps9
    go_wp2_with (go_at_call 26; refine (mwithin_val (by assumption) _).mono ?_; rintro e _ ⟨rfl, rfl⟩)
    go_ret
    exact ⟨rfl, hO⟩
  | true =>
  have t1 : IntKind.i64.wrap (100 - wr) = 100 - wr := by unfold inR at h4; simp at h4; rw [IntKind.wrap_i64]; omega
  go_enter Try.func9, Try.ntmps9
  go_wp2_with (go_at_call 26; refine (mwithin_val (by assumption) _).mono ?_; rintro e _ ⟨rfl, rfl⟩)
  go_ret
  exact ⟨rfl, hO⟩
set_option maxRecDepth 100000 in
set_option maxHeartbeats 4000000 in
theorem rmayR_any (cl tx op rw wr sc sd : Int) (hwr : -9223372036854775808 ≤ wr ∧ wr ≤ 9223372036854775807) (w : World) : Calls Try.prog 10 #[.agg #[.int .i64 cl, .int .i64 tx, .int .i64 op, .int .i64 rw, .int .i64 wr, .int .i64 sc, .int .u64 sd]] w fun e w' => e = .returned (.bool (mayR cl tx op rw wr sc)) ∧ Below w.heap.size w w' := by
  have hO : Below w.heap.size w (w.alloc (.cells #[.int .i64 cl, .int .i64 tx, .int .i64 op, .int .i64 rw, .int .i64 wr, .int .i64 sc, .int .u64 sd] 28)) := (Below.refl _ _).alloc (Nat.le_refl _) _
  by_cases g0 : cl < 1
  · have hr : mayR cl tx op rw wr sc = false := by rw [← Bool.not_eq_true, mayR_iff]; omega
    rw [hr]
    clear hr
    go_enter Try.func10, Try.ntmps10
    go_wp2
    go_ret
    exact ⟨rfl, hO⟩
  by_cases g1 : 8 < cl
  · have hr : mayR cl tx op rw wr sc = false := by rw [← Bool.not_eq_true, mayR_iff]; omega
    rw [hr]
    clear hr
    go_enter Try.func10, Try.ntmps10
    go_wp2
    go_ret
    exact ⟨rfl, hO⟩
  by_cases g2 : tx < 0
  · have hr : mayR cl tx op rw wr sc = false := by rw [← Bool.not_eq_true, mayR_iff]; omega
    rw [hr]
    clear hr
    go_enter Try.func10, Try.ntmps10
    go_wp2
    go_ret
    exact ⟨rfl, hO⟩
  by_cases g3 : 8 < tx
  · have hr : mayR cl tx op rw wr sc = false := by rw [← Bool.not_eq_true, mayR_iff]; omega
    rw [hr]
    clear hr
    go_enter Try.func10, Try.ntmps10
    go_wp2
    go_ret
    exact ⟨rfl, hO⟩
  by_cases g4 : op < 0
  · have hr : mayR cl tx op rw wr sc = false := by rw [← Bool.not_eq_true, mayR_iff]; omega
    rw [hr]
    clear hr
    go_enter Try.func10, Try.ntmps10
    go_wp2
    go_ret
    exact ⟨rfl, hO⟩
  by_cases g5 : 6 < op
  · have hr : mayR cl tx op rw wr sc = false := by rw [← Bool.not_eq_true, mayR_iff]; omega
    rw [hr]
    clear hr
    go_enter Try.func10, Try.ntmps10
    go_wp2
    go_ret
    exact ⟨rfl, hO⟩
  by_cases g6 : rw < 1
  · have hr : mayR cl tx op rw wr sc = false := by rw [← Bool.not_eq_true, mayR_iff]; omega
    rw [hr]
    clear hr
    go_enter Try.func10, Try.ntmps10
    go_wp2
    go_ret
    exact ⟨rfl, hO⟩
  by_cases g7 : 100 < rw
  · have hr : mayR cl tx op rw wr sc = false := by rw [← Bool.not_eq_true, mayR_iff]; omega
    rw [hr]
    clear hr
    go_enter Try.func10, Try.ntmps10
    go_wp2
    go_ret
    exact ⟨rfl, hO⟩
  by_cases f0 : 0 ≤ wr
  case neg =>
    have hr : mayR cl tx op rw wr sc = false := by rw [← Bool.not_eq_true, mayR_iff]; omega
    rw [hr]
    clear hr
    go_enter Try.func10, Try.ntmps10
    go_wp2
    go_ret
    exact ⟨rfl, hO⟩
  by_cases f1 : wr ≤ 100
  case neg =>
    have hr : mayR cl tx op rw wr sc = false := by rw [← Bool.not_eq_true, mayR_iff]; omega
    rw [hr]
    clear hr
    go_enter Try.func10, Try.ntmps10
    go_wp2
    go_ret
    exact ⟨rfl, hO⟩
  by_cases f2 : 0 ≤ sc
  case neg =>
    have hr : mayR cl tx op rw wr sc = false := by rw [← Bool.not_eq_true, mayR_iff]; omega
    rw [hr]
    clear hr
    go_enter Try.func10, Try.ntmps10
    go_wp2
    go_ret
    exact ⟨rfl, hO⟩
  by_cases f3 : sc ≤ 100
  case neg =>
    have hr : mayR cl tx op rw wr sc = false := by rw [← Bool.not_eq_true, mayR_iff]; omega
    rw [hr]
    clear hr
    go_enter Try.func10, Try.ntmps10
    go_wp2
    go_ret
    exact ⟨rfl, hO⟩
  have t1 : IntKind.i64.wrap (wr + sc) = wr + sc := by rw [IntKind.wrap_i64]; omega
  have hr : mayR cl tx op rw wr sc = decide (wr + sc ≤ 100) := by rw [Bool.eq_iff_iff, mayR_iff]; simp; omega
  rw [hr]
  clear hr
  go_enter Try.func10, Try.ntmps10
  go_wp2
  go_ret
  exact ⟨rfl, hO⟩
theorem draw_any (g : Nat) (s n : Int) (w : World) (hb : Bk w g 61 #[.int .u64 s]) (h0 : 0 ≤ s) (h1 : s < 18446744073709551616) (hn : 1 ≤ n) (hn2 : n ≤ 1000) :
    Calls Try.prog 22 #[.pointer (some ⟨g, 0, none⟩), .int .i64 n] w fun e w' => e = .returned (.int .i64 (nextG s % n)) ∧ w' = w.setCell ⟨g, 0, none⟩ (.int .u64 (nextG s)) := by
  have c0 := hb.cell 0
  have f0 := hb.frozen 0
  have hb2 := hb.set 0 (.int .u64 (nextG s))
  have d0 := hb2.cell 0
  have hr := nextG_range s
  have hm := Int.emod_nonneg (nextG s) (show n ≠ 0 by omega)
  have hm2 := Int.emod_lt_of_pos (nextG s) (show 0 < n by omega)
  have t0 : n ≠ 0 := by omega
  have t2 : (nextG s).tmod n = nextG s % n := Int.tmod_eq_emod_of_nonneg hr.1
  have t3 : IntKind.u64.wrap n = n := by rw [IntKind.wrap_u64]; omega
  have t4 : IntKind.i64.wrap (nextG s % n) = nextG s % n := by rw [IntKind.wrap_i64]; omega
  have t5 : IntKind.u64.wrap (nextG s % n) = nextG s % n := by rw [IntKind.wrap_u64]; omega
  have HN := Lib.hid (fun W => next_any s h0 h1 W)
  clear hb hb2 hr
  generalize nextG s = z at *
  go_enter Try.func22, Try.ntmps22
  go_wp2_with (go_at_call 35; refine (HN.out _).mono ?_; rintro e _ ⟨rfl, rfl⟩)
  go_ret
  exact ⟨rfl, rfl⟩
def rowP (n : Int) : Pt := ⟨1, n / 25 + 1, n / 5 % 5 + 1, n % 5 + 1, 4⟩
theorem rowP_may (n : Int) (h : 0 ≤ n) (h2 : n < 100) : mayP (rowP n) = true := by
  rw [mayP_iff]
  unfold rowP
  dsimp only
  omega
theorem row_ints (w : World) (a b c d : Int) : Ints (w.alloc (.cells #[.int .i64 a, .int .i64 b, .int .i64 c, .int .i64 d] 3)) (some ⟨w.heap.size, 0, none⟩) 4 [a, b, c, d] := by
  have hk := Bk.new w 3 #[.int .i64 a, .int .i64 b, .int .i64 c, .int .i64 d]
  refine ⟨rfl, by unfold maxLen; omega, fun _ => ⟨w.heap.size, 0, rfl, hk.lt, fun i hi => ?_⟩⟩
  rw [hk.cell (0 + i)]
  obtain rfl | rfl | rfl | rfl : i = 0 ∨ i = 1 ∨ i = 2 ∨ i = 3 := by omega
  all_goals rfl
set_option maxRecDepth 100000 in
set_option maxHeartbeats 4000000 in
theorem mrow_any (n : Int) (h : 0 ≤ n) (h2 : n < 100) (w : World) : Calls Try.prog 36 #[.int .i64 n] w fun e w' => e = .returned (.agg (ptA (rowP n))) ∧ Below w.heap.size w w' := by
  have t1 : n.tdiv 25 = n / 25 := Int.tdiv_eq_ediv_of_nonneg h
  have t2 : IntKind.i64.wrap (n / 25) = n / 25 := by rw [IntKind.wrap_i64]; omega
  have t3 : IntKind.i64.wrap (n / 25 + 1) = n / 25 + 1 := by rw [IntKind.wrap_i64]; omega
  have t4 : n.tdiv 5 = n / 5 := Int.tdiv_eq_ediv_of_nonneg h
  have t5 : IntKind.i64.wrap (n / 5) = n / 5 := by rw [IntKind.wrap_i64]; omega
  have t6 : (n / 5).tmod 5 = n / 5 % 5 := Int.tmod_eq_emod_of_nonneg (by omega)
  have t7 : IntKind.i64.wrap (n / 5 % 5) = n / 5 % 5 := by rw [IntKind.wrap_i64]; omega
  have t8 : IntKind.i64.wrap (n / 5 % 5 + 1) = n / 5 % 5 + 1 := by rw [IntKind.wrap_i64]; omega
  have t9 : n.tmod 5 = n % 5 := Int.tmod_eq_emod_of_nonneg h
  have ta : IntKind.i64.wrap (n % 5) = n % 5 := by rw [IntKind.wrap_i64]; omega
  have tb : IntKind.i64.wrap (n % 5 + 1) = n % 5 + 1 := by rw [IntKind.wrap_i64]; omega
  have hmk : makeP [1, n / 25 + 1, n / 5 % 5 + 1, n % 5 + 1] = some (rowP n) := if_pos ⟨Nat.le_refl 4, rowP_may n h h2⟩
  have hO : Below w.heap.size w (w.alloc (.cells #[.int .i64 0, .int .i64 0, .int .i64 0, .int .i64 0, .int .i64 0] 50)) := (Below.refl _ _).alloc (Nat.le_refl _) _
  have hR := Bk.new w 50 #[.int .i64 0, .int .i64 0, .int .i64 0, .int .i64 0, .int .i64 0]
  have hcall : ∀ (W : World) (g : Nat) (a b c d : Int) (p : Pt), g = W.heap.size → makeP [a, b, c, d] = some p → Calls Try.prog 44 #[.slice (some ⟨g, 0, none⟩) 4 4] (W.alloc (.cells #[.int .i64 a, .int .i64 b, .int .i64 c, .int .i64 d] 3)) fun e w' => e = .returned (.tuple #[.agg (ptA p), .int .i64 0]) ∧ Below W.heap.size W w' := fun W g a b c d p hg hp => by
    subst hg
    refine (pmake_any (some ⟨W.heap.size, 0, none⟩) 4 4 [a, b, c, d] _ (row_ints W a b c d)).mono fun e w' ⟨he, hb⟩ => ⟨?_, bl_then ((Below.refl _ _).alloc (Nat.le_refl _) _) (Nat.le_refl _) hb⟩
    rw [he, hp]; rfl
  have hcc := hcall (w.alloc (.cells #[.int .i64 0, .int .i64 0, .int .i64 0, .int .i64 0, .int .i64 0] 50)) (w.heap.size + 1) _ _ _ _ _ (by simp) hmk
  generalize rowP n = q at hcc ⊢
  obtain ⟨y0, y1, y2, y3, y4⟩ := q
  have HC := Lib.hid hcc
  clear hcall hcc hmk
  go_enter Try.func36, Try.ntmps36
  go_wp2_with (go_at_call 44; refine HC.out.mono ?_; rintro e w1 ⟨rfl, hb1⟩; have kR := (hR.below hb1).below ((Below.refl _ _).alloc (Nat.le_refl _) (.cells #[.int .i64 y0, .int .i64 y1, .int .i64 y2, .int .i64 y3, .int .i64 y4] 50)); have HB := Lib.hid (bl_then (bl_then hO (Nat.le_refl _) hb1) (Nat.le_refl _) ((Below.refl _ _).alloc (Nat.le_refl _) (.cells #[.int .i64 y0, .int .i64 y1, .int .i64 y2, .int .i64 y3, .int .i64 y4] 50))); have kX := Bk.new w1 50 #[.int .i64 y0, .int .i64 y1, .int .i64 y2, .int .i64 y3, .int .i64 y4]; have x0 := kX.cell 0; have r0 := kR.cell 0; have f0 := kR.frozen 0; have x1 := kX.cell 1; have r1 := kR.cell 1; have f1 := kR.frozen 1; have x2 := kX.cell 2; have r2 := kR.cell 2; have f2 := kR.frozen 2; have x3 := kX.cell 3; have r3 := kR.cell 3; have f3 := kR.frozen 3; have x4 := kX.cell 4; have r4 := kR.cell 4; have f4 := kR.frozen 4; have HF := Lib.hid (five_sets kR (.int .i64 y0) (.int .i64 y1) (.int .i64 y2) (.int .i64 y3) (.int .i64 y4)); clear kR kX hb1 hR hO)
  obtain ⟨z0, z1, z2, z3, z4⟩ := HF.out
  exact bodyPost_ret (v := .agg #[.int .i64 y0, .int .i64 y1, .int .i64 y2, .int .i64 y3, .int .i64 y4]) (by simp [results, Try.results36, go_sem, z0, z1, z2, z3, z4]) rfl ⟨rfl, five_below HB.out (Nat.le_refl _) _ _ _ _ _⟩
end Go.Proofs.Ytbdefhekkafihaa
