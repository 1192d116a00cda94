/- The contracts of package txn, its second half. No condition. -/
import Derived.Test.YtgdghinconghgaaTxn
set_option linter.unusedVariables false
set_option linter.unusedSimpArgs false
namespace Go.Proofs.Ytgdghinconghgaa
open Go.RowKit (wrap32 wrap64)
open Go.RowKit
set_option maxHeartbeats 1000000 in
theorem tget_no (g h cap : Nat) (L : List Tx) (id : Int) (w : World) (hb : Book w g h cap L) (h0 : 1 ≤ L.length) (h1 : ¬ (1 ≤ id ∧ id < L.length)) (h2 : L.length ≤ 4097) :
    Calls Try.prog 38 #[.pointer (some ⟨g, 0, none⟩), .int .i64 id] w (GetRet txZero false w) := by
  have hc := hb.cell
  obtain ⟨m, hm⟩ : ∃ m, L.length = m + 1 := ⟨L.length - 1, by omega⟩
  have hml : m ≤ 4096 := by omega
  have hid : id < 1 ∨ (m : Int) < id := by omega
  have hgl := hb.lt.1
  rw [hm] at hc
  clear hb h1 h2 hm
  have hcn := cell_new_a (.cells #[.int .i64 0, .int .i64 0, .int .i64 0, .int .i64 0] 57) hc
  by_cases hi : id < 1
  · go_enter Try.func38, Try.ntmps38
    go_wp2
    exact bodyPost_ret (v := .tuple #[.agg #[.int .i64 0, .int .i64 0, .int .i64 0, .int .i64 0], .bool false]) (by simp [results, Try.results38, go_sem]) rfl ⟨rfl, (Below.refl _ _).alloc (Nat.le_refl _) _⟩
  · have hj : (m : Int) < id := by omega
    go_enter Try.func38, Try.ntmps38
    go_wp2_with (first | (go_at_call 34; refine (tlen_yes _ _ _ _ _ hcn (by omega)).mono ?_; rintro e w' ⟨rfl, rfl⟩))
    exact bodyPost_ret (v := .tuple #[.agg #[.int .i64 0, .int .i64 0, .int .i64 0, .int .i64 0], .bool false]) (by simp [results, Try.results38, go_sem]) rfl ⟨rfl, (Below.refl _ _).alloc (Nat.le_refl _) _⟩
/-! ### May -/
def mayT (a b : Int) : Bool := (a == 1 && b == 2) || (a == 1 && b == 3) || (a == 1 && b == 4) || (a == 2 && b == 4) || (a == 3 && b == 5) || (a == 4 && b == 6)
def waysA : Nat → Int
  | 0 => 1 | 1 => 1 | 2 => 1 | 3 => 2 | 4 => 3 | _ => 4
def waysB : Nat → Int
  | 0 => 2 | 1 => 3 | 2 => 4 | 3 => 4 | 4 => 5 | _ => 6
theorem mayT_at (a b : Int) (k : Nat) (hk : k < 6) (ha : a = waysA k) (hb : b = waysB k) : mayT a b = true := by
  subst ha hb
  have : k = 0 ∨ k = 1 ∨ k = 2 ∨ k = 3 ∨ k = 4 ∨ k = 5 := by omega
  rcases this with rfl | rfl | rfl | rfl | rfl | rfl <;> decide
theorem mayT_none (a b : Int) (h : ∀ k, k < 6 → ¬ (a = waysA k ∧ b = waysB k)) : mayT a b = false := by
  have h0 := h 0 (by omega); have h1 := h 1 (by omega); have h2 := h 2 (by omega); have h3 := h 3 (by omega); have h4 := h 4 (by omega); have h5 := h 5 (by omega)
  simp only [waysA, waysB] at h0 h1 h2 h3 h4 h5
  cases hm : mayT a b with
  | false => rfl
  | true =>
    exfalso
    unfold mayT at hm
    simp only [Bool.or_eq_true, Bool.and_eq_true, beq_iff_eq] at hm
    omega
set_option maxRecDepth 100000 in
theorem tway_at (P : Program) (hP : P = Try.prog) (w : World) :
    (Instr.index 127 (.agg #[.int .i64 1, .int .i64 2, .int .i64 1, .int .i64 3, .int .i64 1, .int .i64 4, .int .i64 2, .int .i64 4, .int .i64 3, .int .i64 5, .int .i64 4, .int .i64 6]) (.int .i64 0)).run P w = .ok (.agg #[.int .i64 1, .int .i64 2]) w ∧
    (Instr.index 127 (.agg #[.int .i64 1, .int .i64 2, .int .i64 1, .int .i64 3, .int .i64 1, .int .i64 4, .int .i64 2, .int .i64 4, .int .i64 3, .int .i64 5, .int .i64 4, .int .i64 6]) (.int .i64 1)).run P w = .ok (.agg #[.int .i64 1, .int .i64 3]) w ∧
    (Instr.index 127 (.agg #[.int .i64 1, .int .i64 2, .int .i64 1, .int .i64 3, .int .i64 1, .int .i64 4, .int .i64 2, .int .i64 4, .int .i64 3, .int .i64 5, .int .i64 4, .int .i64 6]) (.int .i64 2)).run P w = .ok (.agg #[.int .i64 1, .int .i64 4]) w ∧
    (Instr.index 127 (.agg #[.int .i64 1, .int .i64 2, .int .i64 1, .int .i64 3, .int .i64 1, .int .i64 4, .int .i64 2, .int .i64 4, .int .i64 3, .int .i64 5, .int .i64 4, .int .i64 6]) (.int .i64 3)).run P w = .ok (.agg #[.int .i64 2, .int .i64 4]) w ∧
    (Instr.index 127 (.agg #[.int .i64 1, .int .i64 2, .int .i64 1, .int .i64 3, .int .i64 1, .int .i64 4, .int .i64 2, .int .i64 4, .int .i64 3, .int .i64 5, .int .i64 4, .int .i64 6]) (.int .i64 4)).run P w = .ok (.agg #[.int .i64 3, .int .i64 5]) w ∧
    (Instr.index 127 (.agg #[.int .i64 1, .int .i64 2, .int .i64 1, .int .i64 3, .int .i64 1, .int .i64 4, .int .i64 2, .int .i64 4, .int .i64 3, .int .i64 5, .int .i64 4, .int .i64 6]) (.int .i64 5)).run P w = .ok (.agg #[.int .i64 4, .int .i64 6]) w := by
  subst hP
  exact ⟨rfl, rfl, rfl, rfl, rfl, rfl⟩
set_option maxRecDepth 100000 in
set_option maxHeartbeats 2000000 in
theorem tmay_any (a b : Int) (w : World) : Calls Try.prog 64 #[.int .i64 a, .int .i64 b] w fun e w' => e = .returned (.bool (mayT a b)) ∧ Below w.heap.size w w' := by
  go_enter Try.func64, Try.ntmps64
  go_wp2
  go_loopw [16] (fun c wr => ∃ k : Nat, k ≤ 6 ∧ c = .int .i64 k ∧ Hid (∀ j, j < k → ¬ (a = waysA j ∧ b = waysB j)) ∧ Below w.heap.size w wr) (fun c _ => 6 - (intOf c).toNat)
  case atStart => exact ⟨0, by omega, rfl, Lib.hid (fun j hj => by omega), (Below.refl _ _).alloc (Nat.le_refl _) _⟩
  case round =>
    obtain ⟨k, hk, rfl, hw, HB⟩ := hrel
    by_cases hlt : k < 6
    · by_cases he : a = waysA k ∧ b = waysB k
      · have hm := mayT_at a b k hlt he.1 he.2
        have HM := Lib.hid hm
        have : k = 0 ∨ k = 1 ∨ k = 2 ∨ k = 3 ∨ k = 4 ∨ k = 5 := by omega
        obtain ⟨ea, eb⟩ := he
        clear hm hw
        rcases this with rfl | rfl | rfl | rfl | rfl | rfl
        all_goals
          simp only [waysA, waysB] at ea eb
          subst ea eb
          obtain ⟨x0, x1, x2, x3, x4, x5⟩ := tway_at Try.prog rfl wr
          go_wp2
          go_ret
          exact ⟨rfl, HB.alloc HB.size _⟩
      · have hnew : Hid (∀ j, j < k + 1 → ¬ (a = waysA j ∧ b = waysB j)) := Lib.hid (fun j hj => if e : j = k then by rw [e]; exact he else hw.out j (by omega))
        have : k = 0 ∨ k = 1 ∨ k = 2 ∨ k = 3 ∨ k = 4 ∨ k = 5 := by omega
        clear hw
        have ht : (waysA k == a) = false ∨ (a = waysA k ∧ (waysB k == b) = false) := by
          by_cases ha : a = waysA k
          · exact .inr ⟨ha, beq_eq_false_iff_ne.2 (fun e => he ⟨ha, e.symm⟩)⟩
          · exact .inl (beq_eq_false_iff_ne.2 (fun e => ha e.symm))
        clear he
        rcases this with rfl | rfl | rfl | rfl | rfl | rfl
        all_goals
          simp only [waysA, waysB] at ht
          obtain ⟨x0, x1, x2, x3, x4, x5⟩ := tway_at Try.prog rfl wr
          rcases ht with ht | ⟨rfl, ht⟩
          all_goals
            go_wp2
            go_roundw
            case rel => refine ⟨_, ?_, ?_, hnew, HB.alloc HB.size _⟩ <;> first | decide | rfl
            case measure => simp [intOf]
    · obtain rfl : k = 6 := by omega
      have hm := Lib.hid (mayT_none a b hw.out)
      go_wp2
      go_ret
      exact ⟨by rw [hm.out]; rfl, HB⟩
end Go.Proofs.Ytgdghinconghgaa
