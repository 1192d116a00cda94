/- Nodes: their parts, whether they may be. No condition. -/
import Derived.Test.YtbdefhekkafihaaRecPt
import Derived.Test.YtbdefhekkafihaaSamPt
set_option linter.unusedVariables false
set_option linter.unusedSimpArgs false
namespace Go.Proofs.Ytbdefhekkafihaa
open Go.RowKit (wrap32 wrap64)
open Go.RowKit Go.Shelf
def num (p : Pt) : Nat → Int
  | 0 => p.n0
  | 1 => p.n1
  | 2 => p.n2
  | 3 => p.n3
  | _ => 0
def okAt (p : Pt) (k : Nat) : Bool := !decide (num p k < 0) && !decide (999 < num p k) && !(decide (p.dep ≤ k) && num p k != 0)
def okTo (p : Pt) : Nat → Bool
  | 0 => true
  | k + 1 => okTo p k && okAt p k
def mayP (p : Pt) : Bool := decide (1 ≤ p.dep) && decide (p.dep ≤ 4) && okTo p 4
abbrev ptA (p : Pt) : Array Value := #[.int .i64 p.n0, .int .i64 p.n1, .int .i64 p.n2, .int .i64 p.n3, .int .i64 p.dep]
theorem ptA_num (p : Pt) (k : Nat) (h : k < 4) : (ptA p)[k]? = some (.int .i64 (num p k)) := by
  match k, h with
  | 0, _ => rfl
  | 1, _ => rfl
  | 2, _ => rfl
  | 3, _ => rfl
theorem okTo_no (p : Pt) (k n : Nat) (hk : k < n) (h : okAt p k = false) : okTo p n = false := by
  induction n with
  | zero => omega
  | succ n ih =>
    unfold okTo
    by_cases e : k = n
    · subst e; rw [h, Bool.and_false]
    · rw [ih (by omega), Bool.false_and]
theorem num_dep (x0 x1 x2 x3 d : Int) (k : Nat) : num ⟨x0, x1, x2, x3, 0⟩ k = num ⟨x0, x1, x2, x3, d⟩ k := by
  match k with
  | 0 => rfl
  | 1 => rfl
  | 2 => rfl
  | 3 => rfl
  | _ + 4 => rfl
theorem idx4 (x0 x1 x2 x3 : Int) (k : Nat) (h : k < 4) (w : World) : (Instr.index 48 (.agg #[.int .i64 x0, .int .i64 x1, .int .i64 x2, .int .i64 x3]) (.int .i64 (k : Int))).run Try.prog w = .ok (.int .i64 (num ⟨x0, x1, x2, x3, 0⟩ k)) w := by
  obtain rfl | rfl | rfl | rfl : k = 0 ∨ k = 1 ∨ k = 2 ∨ k = 3 := by omega
  all_goals kernel_rfl
set_option maxHeartbeats 1000000 in
theorem pmay_any (p : Pt) (w : World) : Calls Try.prog 31 #[.agg (ptA p)] w fun e w' => e = .returned (.bool (mayP p)) ∧ Below w.heap.size w w' := by
  obtain ⟨x0, x1, x2, x3, d⟩ := p
  have hO : Below w.heap.size w (w.alloc (.cells #[.int .i64 x0, .int .i64 x1, .int .i64 x2, .int .i64 x3, .int .i64 d] 50)) := (Below.refl _ _).alloc (Nat.le_refl _) _
  by_cases h1 : d < 1
  · have hf : mayP ⟨x0, x1, x2, x3, d⟩ = false := by unfold mayP; rw [decide_eq_false (show ¬ (1 ≤ d) by omega)]; rfl
    rw [hf]
    clear hf
    go_enter Try.func31, Try.ntmps31
    go_wp2
    go_ret
    exact ⟨rfl, hO⟩
  by_cases h2 : 4 < d
  · have hf : mayP ⟨x0, x1, x2, x3, d⟩ = false := by unfold mayP; rw [decide_eq_false (show ¬ (d ≤ 4) by omega), Bool.and_false]; rfl
    rw [hf]
    clear hf
    go_enter Try.func31, Try.ntmps31
    go_wp2
    go_ret
    exact ⟨rfl, hO⟩
  have hm : mayP ⟨x0, x1, x2, x3, d⟩ = okTo ⟨x0, x1, x2, x3, d⟩ 4 := by unfold mayP; rw [decide_eq_true (show 1 ≤ d by omega), decide_eq_true (show d ≤ 4 by omega)]; rfl
  rw [hm]
  clear hm
  have hB := Bk.new w 50 #[.int .i64 x0, .int .i64 x1, .int .i64 x2, .int .i64 x3, .int .i64 d]
  have q4 := hB.cell 4
  clear hB
  go_enter Try.func31, Try.ntmps31
  go_wp2_with fail
  go_loop [15] (fun c => ∃ k : Nat, k ≤ 4 ∧ c = .int .i64 k ∧ Hid (okTo ⟨x0, x1, x2, x3, d⟩ k = true)) (fun c => 4 - (intOf c).toNat)
  case atStart => exact ⟨0, by omega, rfl, Lib.hid rfl⟩
  case round =>
    obtain ⟨k, hk, rfl, HO⟩ := hrel
    by_cases hlt : k < 4
    · have hi := fun w => idx4 x0 x1 x2 x3 k hlt w
      have hn := num_dep x0 x1 x2 x3 d k
      rw [hn] at hi
      have hlti : (k : Int) < 4 := by omega
      cases hok : okAt ⟨x0, x1, x2, x3, d⟩ k with
      | true =>
        have hs : okTo ⟨x0, x1, x2, x3, d⟩ (k + 1) = true := by unfold okTo; rw [HO.out, hok]; rfl
        have HS := Lib.hid hs
        unfold okAt at hok
        clear hn hs
        dsimp only at hok
        generalize num ⟨x0, x1, x2, x3, d⟩ k = x at hi hok
        have a1 : decide (x < 0) = false := by simp at hok ⊢; omega
        have a2 : decide (999 < x) = false := by simp at hok ⊢; omega
        by_cases hd : d ≤ (k : Int)
        · have a3 : decide (d ≤ (k : Int)) = true := by simp; omega
          have a4 : (x != 0) = false := by simp at hok ⊢; omega
          clear hok hd
          go_wp2
          go_round
          case rel => exact ⟨k + 1, by omega, by go_num, HS⟩
          case measure => simp [intOf]; omega
        · have a3 : decide (d ≤ (k : Int)) = false := by simp; omega
          clear hok hd
          go_wp2
          go_round
          case rel => exact ⟨k + 1, by omega, by go_num, HS⟩
          case measure => simp [intOf]; omega
      | false =>
        have hs := okTo_no ⟨x0, x1, x2, x3, d⟩ k 4 hlt hok
        have HS := Lib.hid hs
        unfold okAt at hok
        clear hn hs
        dsimp only at hok
        generalize num ⟨x0, x1, x2, x3, d⟩ k = x at hi hok
        have hcase : (decide (x < 0) = true) ∨ (decide (x < 0) = false ∧ decide (999 < x) = true) ∨ (decide (x < 0) = false ∧ decide (999 < x) = false ∧ decide (d ≤ (k : Int)) = true ∧ (x != 0) = true) := by
          simp at hok ⊢; omega
        clear hok
        rcases hcase with a1 | ⟨a1, a2⟩ | ⟨a1, a2, a3, a4⟩
        all_goals
          go_wp2
          go_ret
          exact ⟨by rw [HS.out]; rfl, hO⟩
    · obtain rfl : k = 4 := by omega
      go_wp2
      go_ret
      exact ⟨by rw [HO.out]; rfl, hO⟩
end Go.Proofs.Ytbdefhekkafihaa
