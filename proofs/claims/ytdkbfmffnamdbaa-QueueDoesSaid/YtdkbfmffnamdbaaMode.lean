/- The contracts of package mode's functions: each comes to what the plain words below say. No condition. -/
import Derived.Test.YtdkbfmffnamdbaaBase
set_option linter.unusedVariables false
set_option linter.unusedSimpArgs false
namespace Go.Proofs.Ytdkbfmffnamdbaa
open Go.RowKit (wrap32 wrap64)
open Go.RowKit

/-! ### The plain words -/
def rt (m : Int) : Int := if 0 ≤ m ∧ m ≤ 6 then m else 0
theorem rt_range (m : Int) : 0 ≤ rt m ∧ rt m ≤ 6 := by unfold rt; split <;> omega
def reT (m : Int) : Int := if m = 3 ∨ m = 4 then 1 else if m = 5 then 2 else if m = 6 then 3 else 0
def imT (m : Int) : Int := if m = 1 ∨ m = 3 ∨ m = 5 then 1 else if m = 2 ∨ m = 4 ∨ m = 6 then 2 else 0
theorem reT_rt (m : Int) : reT (rt m) = reT m := by unfold rt reT; repeat' split
                                                    all_goals omega
theorem imT_rt (m : Int) : imT (rt m) = imT m := by unfold rt imT; repeat' split
                                                    all_goals omega
theorem reT_range (m : Int) : 0 ≤ reT m ∧ reT m ≤ 3 := by unfold reT; repeat' split
                                                          all_goals omega
theorem imT_range (m : Int) : 0 ≤ imT m ∧ imT m ≤ 3 := by unfold imT; repeat' split
                                                          all_goals omega
/-- The bits of 0, 1, 2, 3 as float64. -/
def fb (i : Int) : Nat := if i = 1 then 4607182418800017408 else if i = 2 then 4611686018427387904 else if i = 3 then 4613937818241073152 else 0
def cmpI (i j : Int) : Ordering := if i < j then .lt else if i = j then .eq else .gt
theorem four {p : Int → Prop} (h0 : p 0) (h1 : p 1) (h2 : p 2) (h3 : p 3) (i : Int) (h : 0 ≤ i ∧ i ≤ 3) : p i := by
  obtain rfl | rfl | rfl | rfl : i = 0 ∨ i = 1 ∨ i = 2 ∨ i = 3 := by omega
  all_goals assumption
theorem order_fb (i j : Int) (hi : 0 ≤ i ∧ i ≤ 3) (hj : 0 ≤ j ∧ j ≤ 3) : FloatKind.f64.format.order (fb i) (fb j) = some (cmpI i j) := by
  refine four (p := fun i => FloatKind.f64.format.order (fb i) (fb j) = some (cmpI i j)) ?_ ?_ ?_ ?_ i hi <;>
  refine four (p := fun j => FloatKind.f64.format.order (fb _) (fb j) = some (cmpI _ j)) ?_ ?_ ?_ ?_ j hj <;> decide +kernel
def ptv (m : Int) : Value := .complex .f64 (fb (reT m)) (fb (imT m))
/-- The mode of the least point that isn't below a point. -/
def ofS (i j : Int) : Int := if i ≤ 0 then (if j ≤ 0 then 0 else if j ≤ 1 then 1 else if j ≤ 2 then 2 else 6) else if i ≤ 1 then (if j ≤ 1 then 3 else if j ≤ 2 then 4 else 6) else if i ≤ 2 ∧ j ≤ 1 then 5 else 6
def mxI (i j : Int) : Int := if i < j then j else i
def supT (m n : Int) : Int := ofS (mxI (reT m) (reT n)) (mxI (imT m) (imT n))
def covT (m n : Int) : Bool := decide (reT n ≤ reT m) && decide (imT n ≤ imT m)

/-! ### May, right, points, At -/
abbrev pts : Array Value := #[.complex .f64 0 0, .complex .f64 0 4607182418800017408, .complex .f64 0 4611686018427387904, .complex .f64 4607182418800017408 4607182418800017408, .complex .f64 4607182418800017408 4611686018427387904, .complex .f64 4611686018427387904 4607182418800017408, .complex .f64 4613937818241073152 4611686018427387904]
set_option maxHeartbeats 400000 in
theorem points_any (w : World) : Calls Try.prog 80 #[] w fun e w' => e = .returned (.agg pts) ∧ Below w.heap.size w w' := by
  go_enter Try.func80, Try.ntmps80
  go_wp2
  exact bodyPost_ret (v := .agg pts) (by simp [results, Try.results80, go_sem]) rfl ⟨rfl, (Below.refl _ _).alloc (Nat.le_refl _) _⟩

def mayB (m : Int) : Bool := decide (0 ≤ m) && decide (m < 7)
set_option maxHeartbeats 400000 in
theorem may_any (m : Int) (w : World) : Calls Try.prog 53 #[.int .i64 m] w fun e w' => e = .returned (.bool (mayB m)) ∧ w = w' := by
  unfold mayB
  by_cases h : 0 ≤ m
  · go_enter Try.func53, Try.ntmps53
    go_wp2
    go_ret
    exact ⟨by simp [h], rfl⟩
  · go_enter Try.func53, Try.ntmps53
    go_wp2
    go_ret
    exact ⟨by simp; omega, rfl⟩
set_option maxHeartbeats 400000 in
theorem right_any (m : Int) (w : World) : Calls Try.prog 72 #[.int .i64 m] w fun e w' => e = .returned (.int .i64 (rt m)) ∧ w = w' := by
  by_cases h0 : m < 0
  · have hr : rt m = 0 := if_neg (by omega)
    rw [hr]; clear hr
    go_enter Try.func72, Try.ntmps72
    go_wp2
    go_ret
    exact ⟨rfl, rfl⟩
  · by_cases h1 : 6 < m
    · have hr : rt m = 0 := if_neg (by omega)
      rw [hr]; clear hr
      go_enter Try.func72, Try.ntmps72
      go_wp2
      go_ret
      exact ⟨rfl, rfl⟩
    · have hr : rt m = m := if_pos (by omega)
      rw [hr]; clear hr
      go_enter Try.func72, Try.ntmps72
      go_wp2
      go_ret
      exact ⟨rfl, rfl⟩
theorem idx_pts (m : Int) (h : 0 ≤ m ∧ m ≤ 6) (w : World) : (Instr.index 100 (.agg pts) (.int .i64 m)).run Try.prog w = .ok (ptv m) w := by
  obtain rfl | rfl | rfl | rfl | rfl | rfl | rfl : m = 0 ∨ m = 1 ∨ m = 2 ∨ m = 3 ∨ m = 4 ∨ m = 5 ∨ m = 6 := by omega
  all_goals kernel_rfl
theorem ptv_rt (m : Int) : ptv (rt m) = ptv m := by unfold ptv; rw [reT_rt, imT_rt]
set_option maxHeartbeats 400000 in
theorem at_any (m : Int) (w : World) : Calls Try.prog 74 #[.int .i64 m] w fun e w' => e = .returned (ptv m) ∧ Below w.heap.size w w' := by
  have hi := idx_pts (rt m) (rt_range m)
  have hr := rt_range m
  rw [← ptv_rt]
  go_enter Try.func74, Try.ntmps74
  go_wp2_with (first | (go_at_call 80; refine (points_any _).mono ?_; rintro e w1 ⟨rfl, hb1⟩) | (go_at_call 72; refine (right_any _ _).mono ?_; rintro e w' ⟨rfl, rfl⟩))
  go_ret
  exact ⟨rfl, hb1⟩

/-! ### below, less, Covers, Of, Sup -/
def leF (a b : Nat) : Bool := FloatKind.f64.format.order a b == some Ordering.lt || FloatKind.f64.format.order a b == some Ordering.eq
def ltF (a b : Nat) : Bool := FloatKind.f64.format.order a b == some Ordering.lt
theorem leF_fb (i j : Int) (hi : 0 ≤ i ∧ i ≤ 3) (hj : 0 ≤ j ∧ j ≤ 3) : leF (fb i) (fb j) = decide (i ≤ j) := by
  unfold leF; rw [order_fb i j hi hj]; unfold cmpI
  split
  · simp; omega
  · split
    · simp; omega
    · simp; omega
theorem ltF_fb (i j : Int) (hi : 0 ≤ i ∧ i ≤ 3) (hj : 0 ≤ j ∧ j ≤ 3) : ltF (fb i) (fb j) = decide (i < j) := by
  unfold ltF; rw [order_fb i j hi hj]; unfold cmpI
  split
  · simp; omega
  · split
    · simp; omega
    · simp; omega
set_option maxHeartbeats 400000 in
theorem below_bits (a b c d : Nat) (w : World) : Calls Try.prog 76 #[.complex .f64 a b, .complex .f64 c d] w fun e w' => e = .returned (.bool (leF a c && leF b d)) ∧ w = w' := by
  unfold leF
  go_enter Try.func76, Try.ntmps76
  go_wp2
  · go_ret
    exact ⟨rfl, rfl⟩
  · rename_i h
    go_ret
    exact ⟨by rw [show (FloatKind.f64.format.order a c == some Ordering.lt || FloatKind.f64.format.order a c == some Ordering.eq) = false by simpa using h]; rfl, rfl⟩
theorem below_any (i j k l : Int) (hi : 0 ≤ i ∧ i ≤ 3) (hj : 0 ≤ j ∧ j ≤ 3) (hk : 0 ≤ k ∧ k ≤ 3) (hl : 0 ≤ l ∧ l ≤ 3) (w : World) : Calls Try.prog 76 #[.complex .f64 (fb i) (fb j), .complex .f64 (fb k) (fb l)] w fun e w' => e = .returned (.bool (decide (i ≤ k) && decide (j ≤ l))) ∧ w = w' := by
  rw [← leF_fb i k hi hk, ← leF_fb j l hj hl]; exact below_bits _ _ _ _ w
set_option maxHeartbeats 400000 in
theorem less_bits (a b c d : Nat) (w : World) : Calls Try.prog 81 #[.complex .f64 a b, .complex .f64 c d] w fun e w' => e = .returned (.bool (if FloatKind.f64.format.order a c != some Ordering.eq then ltF a c else ltF b d)) ∧ w = w' := by
  unfold ltF
  go_enter Try.func81, Try.ntmps81
  go_wp2
  all_goals (go_ret; exact ⟨rfl, rfl⟩)
def lessI (i j k l : Int) : Bool := if i ≠ k then decide (i < k) else decide (j < l)
theorem less_any (i j k l : Int) (hi : 0 ≤ i ∧ i ≤ 3) (hj : 0 ≤ j ∧ j ≤ 3) (hk : 0 ≤ k ∧ k ≤ 3) (hl : 0 ≤ l ∧ l ≤ 3) (w : World) : Calls Try.prog 81 #[.complex .f64 (fb i) (fb j), .complex .f64 (fb k) (fb l)] w fun e w' => e = .returned (.bool (lessI i j k l)) ∧ w = w' := by
  have e : lessI i j k l = if FloatKind.f64.format.order (fb i) (fb k) != some Ordering.eq then ltF (fb i) (fb k) else ltF (fb j) (fb l) := by
    rw [ltF_fb i k hi hk, ltF_fb j l hj hl, order_fb i k hi hk]; unfold lessI cmpI
    by_cases h1 : i < k
    · rw [if_pos h1, if_pos (by omega)]; rfl
    · by_cases h2 : i = k
      · rw [if_neg h1, if_pos h2, if_neg (by omega)]; rfl
      · rw [if_neg h1, if_neg h2, if_pos (by omega)]; rfl
  rw [e]; exact less_bits _ _ _ _ w
set_option maxHeartbeats 400000 in
theorem covers_any (m n : Int) (w : World) : Calls Try.prog 60 #[.int .i64 m, .int .i64 n] w fun e w' => e = .returned (.bool (covT m n)) ∧ Below w.heap.size w w' := by
  have r1 := reT_range m
  have r2 := reT_range n
  have r3 := imT_range m
  have r4 := imT_range n
  unfold covT
  go_enter Try.func60, Try.ntmps60
  go_wp2_with fail
  refine (at_any _ _).mono ?_
  rintro e w1 ⟨rfl, hb1⟩
  go_wp2_with fail
  refine (at_any _ _).mono ?_
  rintro e w2 ⟨rfl, hb2⟩
  unfold ptv
  go_wp2_with fail
  refine (below_any _ _ _ _ r2 r4 r1 r3 _).mono ?_
  rintro e w' ⟨rfl, rfl⟩
  go_wp2
  go_ret
  exact ⟨rfl, hb1.trans (hb2.mono hb1.size)⟩
def ofTo (i j : Int) : Nat → Int
  | 0 => 6
  | k + 1 => if i ≤ reT k ∧ j ≤ imT k ∧ lessI (reT k) (imT k) (reT (ofTo i j k)) (imT (ofTo i j k)) = true then (k : Int) else ofTo i j k
theorem ofTo_end (i j : Int) (hi : 0 ≤ i ∧ i ≤ 3) (hj : 0 ≤ j ∧ j ≤ 3) : ofTo i j 7 = ofS i j := by
  refine four (p := fun i => ofTo i j 7 = ofS i j) ?_ ?_ ?_ ?_ i hi <;>
  refine four (p := fun j => ofTo _ j 7 = ofS _ j) ?_ ?_ ?_ ?_ j hj <;> decide +kernel
set_option maxHeartbeats 400000 in
theorem of_any (i j : Int) (hi : 0 ≤ i ∧ i ≤ 3) (hj : 0 ≤ j ∧ j ≤ 3) (w : World) : Calls Try.prog 75 #[.complex .f64 (fb i) (fb j)] w fun e w' => e = .returned (.int .i64 (ofS i j)) ∧ Below w.heap.size w w' := by
  rw [← ofTo_end i j hi hj]
  go_enter Try.func75, Try.ntmps75
  go_wp2_with fail
  refine (points_any _).mono ?_
  rintro e w1 ⟨rfl, hb1⟩
  go_wp2_with fail
  go_loopw [3, 7] (fun o c wr => ∃ k : Nat, k ≤ 7 ∧ c = .int .i64 k ∧ o = .int .i64 (ofTo i j k) ∧ Below w.heap.size w wr) (fun _ c _ => 7 - (intOf c).toNat)
  case atStart => exact ⟨0, by omega, rfl, rfl, hb1⟩
  case round =>
    obtain ⟨k, hk, rfl, rfl, hb⟩ := hrel
    by_cases hlt : k < 7
    · have hix := idx_pts k (by omega)
      have r1 := reT_range k
      have r2 := imT_range k
      have r3 := reT_range (ofTo i j k)
      have r4 := imT_range (ofTo i j k)
      unfold ptv at hix
      by_cases hbl : i ≤ reT k ∧ j ≤ imT k
      · have hg : (decide (i ≤ reT k) && decide (j ≤ imT k)) = true := by simp [hbl]
        by_cases hls : lessI (reT k) (imT k) (reT (ofTo i j k)) (imT (ofTo i j k)) = true
        · have hs : ofTo i j (k + 1) = k := by rw [ofTo, if_pos ⟨hbl.1, hbl.2, hls⟩]
          have Hs := Lib.hid hs
          clear hs
          go_wp2_with fail
          refine (below_any i j _ _ hi hj r1 r2 _).mono ?_
          rintro e w2 ⟨rfl, rfl⟩
          rw [hg]
          go_wp2_with fail
          refine (at_any _ _).mono ?_
          rintro e w3 ⟨rfl, hb3⟩
          unfold ptv
          go_wp2_with fail
          refine (less_any _ _ _ _ r1 r2 r3 r4 _).mono ?_
          rintro e w2 ⟨rfl, rfl⟩
          rw [hls]
          go_wp2
          go_roundw
          case rel => exact ⟨k + 1, by omega, by go_num, by rw [Hs.out], hb.trans (hb3.mono hb.size)⟩
          case measure => simp [intOf]; omega
        · have hs : ofTo i j (k + 1) = ofTo i j k := by rw [ofTo, if_neg (fun h => hls h.2.2)]
          have Hs := Lib.hid hs
          clear hs
          go_wp2_with fail
          refine (below_any i j _ _ hi hj r1 r2 _).mono ?_
          rintro e w2 ⟨rfl, rfl⟩
          rw [hg]
          go_wp2_with fail
          refine (at_any _ _).mono ?_
          rintro e w3 ⟨rfl, hb3⟩
          unfold ptv
          go_wp2_with fail
          refine (less_any _ _ _ _ r1 r2 r3 r4 _).mono ?_
          rintro e w2 ⟨rfl, rfl⟩
          rw [Bool.eq_false_iff.2 hls]
          go_wp2
          go_roundw
          case rel => exact ⟨k + 1, by omega, by go_num, by rw [Hs.out], hb.trans (hb3.mono hb.size)⟩
          case measure => simp [intOf]; omega
      · have hg : (decide (i ≤ reT k) && decide (j ≤ imT k)) = false := by simp; omega
        have hs : ofTo i j (k + 1) = ofTo i j k := by rw [ofTo, if_neg (fun h => hbl ⟨h.1, h.2.1⟩)]
        have Hs := Lib.hid hs
        clear hs hbl
        go_wp2_with fail
        refine (below_any i j _ _ hi hj r1 r2 _).mono ?_
        rintro e w2 ⟨rfl, rfl⟩
        rw [hg]
        go_wp2
        go_roundw
        case rel => exact ⟨k + 1, by omega, by go_num, by rw [Hs.out], hb⟩
        case measure => simp [intOf]; omega
    · obtain rfl : k = 7 := by omega
      go_wp2
      go_ret
      exact ⟨rfl, hb⟩
theorem mxI_range (i j : Int) (hi : 0 ≤ i ∧ i ≤ 3) (hj : 0 ≤ j ∧ j ≤ 3) : 0 ≤ mxI i j ∧ mxI i j ≤ 3 := by unfold mxI; split <;> omega
theorem run_max_fb {P : Program} {w : World} (ts : Array TypeId) (t : TypeId) (i j : Int) (hi : 0 ≤ i ∧ i ≤ 3) (hj : 0 ≤ j ∧ j ≤ 3) : (Builtin.max_ ts t #[.float .f64 (fb i), .float .f64 (fb j)]).run P w = .ok (.float .f64 (fb (mxI i j))) w := by
  have e : Builtin.max_ ts t #[.float .f64 (fb i), .float .f64 (fb j)] = pure (.float .f64 (fb (mxI i j))) := by
    refine four (p := fun i => Builtin.max_ ts t #[.float .f64 (fb i), .float .f64 (fb j)] = pure (.float .f64 (fb (mxI i j)))) ?_ ?_ ?_ ?_ i hi <;>
    refine four (p := fun j => Builtin.max_ ts t #[.float .f64 (fb _), .float .f64 (fb j)] = pure (.float .f64 (fb (mxI _ j)))) ?_ ?_ ?_ ?_ j hj <;> kernel_rfl
  rw [e]; rfl
set_option maxHeartbeats 400000 in
theorem sup_any (m n : Int) (w : World) : Calls Try.prog 59 #[.int .i64 m, .int .i64 n] w fun e w' => e = .returned (.int .i64 (supT m n)) ∧ Below w.heap.size w w' := by
  have r1 := reT_range m
  have r2 := reT_range n
  have r3 := imT_range m
  have r4 := imT_range n
  have o1 := fun (w : World) ts t => run_max_fb (P := Try.prog) (w := w) ts t _ _ r1 r2
  have o2 := fun (w : World) ts t => run_max_fb (P := Try.prog) (w := w) ts t _ _ r3 r4
  unfold supT
  go_enter Try.func59, Try.ntmps59
  go_wp2_with fail
  refine (at_any _ _).mono ?_
  rintro e w1 ⟨rfl, hb1⟩
  go_wp2_with fail
  refine (at_any _ _).mono ?_
  rintro e w2 ⟨rfl, hb2⟩
  unfold ptv
  go_wp2_with fail
  refine (of_any _ _ (mxI_range _ _ r1 r2) (mxI_range _ _ r3 r4) _).mono ?_
  rintro e w3 ⟨rfl, hb3⟩
  go_wp2
  go_ret
  exact ⟨rfl, hb1.trans ((hb2.trans (hb3.mono hb2.size)).mono hb1.size)⟩
end Go.Proofs.Ytdkbfmffnamdbaa
