/- The contracts of the reference's functions on modes: Parent, Name, Sup. No condition. -/
import Derived.Test.YtdkbfmffnamdbaaRefA
set_option linter.unusedVariables false
set_option linter.unusedSimpArgs false
namespace Go.Proofs.Ytdkbfmffnamdbaa
open Go.RowKit (wrap32 wrap64)
open Go.RowKit
/-! ### Sup -/
def lstTo (m n k : Int) : Nat → Bool
  | 0 => covT k m && covT k n
  | j + 1 => lstTo m n k j && (!covT j m || !covT j n || covT j k)
theorem lstTo_rt (m n k : Int) (j : Nat) : lstTo (rt m) (rt n) k j = lstTo m n k j := by
  induction j with
  | zero => simp only [lstTo, cov_r]
  | succ j ih => simp only [lstTo, cov_r, ih]
theorem lst_all : ∀ m n k : Fin 7, lstTo (m.val : Int) (n.val : Int) (k.val : Int) 7 = ((k.val : Int) == supT (m.val : Int) (n.val : Int)) := by decide +kernel
theorem lst_is (m n : Int) (k : Nat) (hk : k < 7) : lstTo m n k 7 = ((k : Int) == supT m n) := by
  have h := lst_all (f7 m) (f7 n) ⟨k, hk⟩
  rw [f7_rt, f7_rt, lstTo_rt, supT_rt] at h
  exact h
set_option maxHeartbeats 1000000 in
theorem rsup_any (m n : Int) (w : World) : Calls Try.prog 12 #[.int .i64 m, .int .i64 n] w fun e w' => e = .returned (.int .i64 (supT m n)) ∧ Below w.heap.size w w' := by
  have hsr := supT_range m n
  go_enter Try.func12, Try.ntmps12
  go_wp2
  go_loopw [5] (fun kk wr => ∃ k : Nat, k ≤ 7 ∧ (∀ j : Nat, j < k → ((j : Int) == supT m n) = false) ∧ kk = .int .i64 k ∧ Below w.heap.size w wr) (fun kk _ => 7 - (intOf kk).toNat)
  case atStart => exact ⟨0, by omega, fun j hj => absurd hj (by omega), rfl, Below.refl _ _⟩
  case round =>
    obtain ⟨k, hk, hno, rfl, hb⟩ := hrel
    obtain ⟨wo, rfl⟩ : ∃ wo : World, wo = wr := ⟨_, rfl⟩
    have HNO := Lib.hid hno
    clear hno
    by_cases hlt : k < 7
    · have hl := Lib.hid (lst_is m n k hlt)
      have h0 : lstTo m n k 0 = (covT k m && covT k n) := rfl
      have HB := Below.refl w.heap.size w
      clear HB
      have hst : (covT k m = false ∧ lstTo m n k 0 = false) ∨ (covT k m = true ∧ covT k n = lstTo m n k 0) := by
        cases e : covT k m
        · exact .inl ⟨rfl, by rw [h0, e]; rfl⟩
        · exact .inr ⟨rfl, by rw [h0, e]; rfl⟩
      clear h0
      rcases hst with ⟨c1, c2⟩ | ⟨c1, c2⟩
      all_goals
        have HB := hb
        go_wp2_with (first
          | (go_at_call 42; refine (rcovers_any _ _ _).mono ?_; rintro e w1 ⟨rfl, b1⟩; replace HB := bl_then HB (Nat.le_refl _) b1; clear b1))
        clear hb
        go_loopw [6, 7] (fun ll jj wr => ∃ j : Nat, j ≤ 7 ∧ ll = .bool (lstTo m n k j) ∧ jj = .int .i64 j ∧ Below w.heap.size w wr) (fun _ jj _ => 7 - (intOf jj).toNat)
        case atStart => exact ⟨0, by omega, by first | rw [c2] | rfl, rfl, HB⟩
        case round =>
          obtain ⟨j, hj, rfl, rfl, hb⟩ := hrel
          by_cases hjl : j < 7
          · have hst : (lstTo m n k j = false ∧ lstTo m n k (j + 1) = false) ∨ (lstTo m n k j = true ∧ lstTo m n k (j + 1) = (!covT j m || !covT j n || covT j k)) := by
              cases e : lstTo m n k j
              · exact .inl ⟨rfl, by rw [lstTo, e]; rfl⟩
              · exact .inr ⟨rfl, by rw [lstTo, e]; rfl⟩
            rcases hst with ⟨d1, d2⟩ | ⟨d1, d2⟩
            · have HB := hb
              go_wp2
              go_roundw
              case rel => exact ⟨j + 1, by omega, by rw [d2], by go_num, HB⟩
              case measure => simp [intOf]; omega
            · have D2 := Lib.hid d2
              clear d2
              cases e1 : covT j m
              · have HB := hb
                go_wp2_with (first
                  | (go_at_call 42; refine (rcovers_any _ _ _).mono ?_; rintro e w1 ⟨rfl, b1⟩; replace HB := bl_then HB (Nat.le_refl _) b1; clear b1))
                go_roundw
                case rel => exact ⟨j + 1, by omega, by rw [D2.out, e1]; rfl, by go_num, HB⟩
                case measure => simp [intOf]; omega
              · cases e2 : covT j n
                · have HB := hb
                  go_wp2_with (first
                    | (go_at_call 42; refine (rcovers_any _ _ _).mono ?_; rintro e w1 ⟨rfl, b1⟩; replace HB := bl_then HB (Nat.le_refl _) b1; clear b1))
                  go_roundw
                  case rel => exact ⟨j + 1, by omega, by rw [D2.out, e2]; simp, by go_num, HB⟩
                  case measure => simp [intOf]; omega
                · have HB := hb
                  go_wp2_with (first
                    | (go_at_call 42; refine (rcovers_any _ _ _).mono ?_; rintro e w1 ⟨rfl, b1⟩; replace HB := bl_then HB (Nat.le_refl _) b1; clear b1))
                  go_roundw
                  case rel => exact ⟨j + 1, by omega, by rw [D2.out, e1, e2]; simp, by go_num, HB⟩
                  case measure => simp [intOf]; omega
          · obtain rfl : j = 7 := by omega
            cases e : (k : Int) == supT m n
            · have he := hl.out
              rw [e] at he
              rw [he]
              go_wp2
              exact ⟨⟨k + 1, by omega, fun i hi => by
                by_cases h : i = k
                · rw [h]; exact e
                · exact HNO.out i (by omega), by go_num, hb⟩, by simp [intOf]; omega⟩
            · have he := hl.out
              rw [e] at he
              rw [he]
              have E := Lib.hid (beq_iff_eq.1 e)
              clear e
              go_wp2
              go_ret
              exact ⟨by rw [← E.out]; rfl, hb⟩
    · exfalso
      have := HNO.out (supT m n).toNat (by omega)
      rw [beq_eq_false_iff_ne] at this
      omega
end Go.Proofs.Ytdkbfmffnamdbaa
