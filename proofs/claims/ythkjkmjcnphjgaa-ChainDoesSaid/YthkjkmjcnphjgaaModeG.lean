/- The statement ModeGroups: the walk. No condition. -/
import Derived.Test.YthkjkmjcnphjgaaRefB
import Derived.Test.YthkjkmjcnphjgaaSl
set_option linter.unusedVariables false
set_option linter.unusedSimpArgs false
namespace Go.Proofs.Ythkjkmjcnphjgaa
open Go.RowKit (wrap32 wrap64)
open Go.RowKit
def grpT (l : List Int) : Int := l.foldl supT 0
theorem grpT_snoc (l : List Int) (x : Int) : grpT (l ++ [x]) = supT (grpT l) x := by unfold grpT; rw [List.foldl_append]; rfl
theorem grpT_range (l : List Int) : 0 ≤ grpT l ∧ grpT l ≤ 6 := by
  unfold grpT
  rcases List.eq_nil_or_concat l with rfl | ⟨l', x, rfl⟩
  · exact ⟨by decide, by decide⟩
  · rw [List.concat_eq_append, List.foldl_append]; exact supT_range _ _
theorem sup_zero (m : Int) (h : 0 ≤ m ∧ m ≤ 6) : supT m 0 = m := by
  refine seven (p := fun m => supT m 0 = m) ?_ ?_ ?_ ?_ ?_ ?_ ?_ m h <;> decide
theorem fold_sup (m : Int) (l : List Int) (h : 0 ≤ m ∧ m ≤ 6) : l.foldl supT m = supT m (grpT l) := by
  induction l generalizing m with
  | nil => exact (sup_zero m h).symm
  | cons x l ih =>
    have e1 := ih (supT m x) (supT_range m x)
    have e2 := ih (supT 0 x) (supT_range 0 x)
    have e3 : grpT (x :: l) = l.foldl supT (supT 0 x) := rfl
    show l.foldl supT (supT m x) = supT m (grpT (x :: l))
    rw [e1, e3, e2, ← sup_assoc, ← sup_assoc, sup_zero m h]
theorem grpT_append (l k : List Int) : grpT (l ++ k) = supT (grpT l) (grpT k) := by
  have e : grpT (l ++ k) = k.foldl supT (grpT l) := by unfold grpT; rw [List.foldl_append]
  rw [e, fold_sup _ _ (grpT_range l)]
theorem cov_trans (a b c : Int) (h1 : covT a b = true) (h2 : covT b c = true) : covT a c = true := by
  unfold covT at *; simp at *; omega
theorem grpT_cov (l : List Int) (x : Int) (h : x ∈ l) : covT (grpT l) x = true := by
  obtain ⟨a, b, rfl⟩ := List.append_of_mem h
  have : a ++ x :: b = (a ++ [x]) ++ b := by simp
  rw [this, grpT_append, grpT_snoc]
  exact cov_trans _ _ _ (cov_sup_l _ _) (cov_sup_r _ _)
theorem Try.infoI : (Try.prog.info? 3).map (fun i => (i.zero, i.size, i.bytes)) = some (some (.int .i64 0), 1, 8) := by kernel_rfl
theorem take_snocI (xs : List Int) (k : Nat) (h : k < xs.length) : xs.take (k + 1) = xs.take k ++ [xs.getD k 0] := by
  rw [List.take_succ_eq_append_getElem h, List.getD_eq_getElem?_getD, List.getElem?_eq_getElem h]; rfl
set_option maxHeartbeats 400000 in
theorem group_any (a : Option Addr) (len cap : Nat) (xs : List Int) (w : World) (hl : Ints w a len xs) : Calls Try.prog 86 #[.slice a len cap] w fun e w' => e = .returned (.int .i64 (grpT xs)) ∧ Below w.heap.size w w' := by
  have hx := hl.len
  have hmx := hl.le
  go_enter Try.func86, Try.ntmps86
  go_wp2
  go_loopw [3, 8] (fun o c wr => ∃ k : Nat, k ≤ len ∧ o = .int .i64 (grpT (xs.take k)) ∧ c = .int .i64 k ∧ Below w.heap.size w wr) (fun _ c _ => len - (intOf c).toNat)
  case atStart => exact ⟨0, by omega, rfl, rfl, Below.refl _ _⟩
  case round =>
    obtain ⟨k, hk, rfl, rfl, HB⟩ := hrel
    by_cases hlt : k < len
    · obtain ⟨b, off, rfl, hc⟩ := (hl.below HB).get hlt
      have ht := take_snocI xs k (by omega)
      generalize xs.getD k 0 = x at hc ht
      have hg := grpT_snoc (xs.take k) x
      rw [← ht] at hg
      have HG := Lib.hid hg
      clear hg ht hx
      go_wp2_with (first
        | (go_at_call 78; refine (sup_any _ _ _).mono ?_; rintro e w1 ⟨rfl, b1⟩; replace HB := bl_then HB (Nat.le_refl _) b1; clear b1))
      go_roundw
      case rel => exact ⟨k + 1, by omega, by rw [HG.out], by go_num, HB⟩
      case measure => simp [intOf]; omega
    · obtain rfl : k = len := by omega
      have ht : xs.take xs.length = xs := List.take_length
      rw [hx] at ht
      rw [ht]
      go_wp2
      go_ret
      exact ⟨rfl, HB⟩
set_option maxHeartbeats 400000 in
theorem rgroup_any (a : Option Addr) (len cap : Nat) (xs : List Int) (w : World) (hl : Ints w a len xs) : Calls Try.prog 45 #[.slice a len cap] w fun e w' => e = .returned (.int .i64 (grpT xs)) ∧ Below w.heap.size w w' := by
  have hx := hl.len
  have hmx := hl.le
  go_enter Try.func45, Try.ntmps45
  go_wp2
  go_loopw [3, 8] (fun o c wr => ∃ k : Nat, k ≤ len ∧ o = .int .i64 (grpT (xs.take k)) ∧ c = .int .i64 k ∧ Below w.heap.size w wr) (fun _ c _ => len - (intOf c).toNat)
  case atStart => exact ⟨0, by omega, rfl, rfl, Below.refl _ _⟩
  case round =>
    obtain ⟨k, hk, rfl, rfl, HB⟩ := hrel
    by_cases hlt : k < len
    · obtain ⟨b, off, rfl, hc⟩ := (hl.below HB).get hlt
      have ht := take_snocI xs k (by omega)
      generalize xs.getD k 0 = x at hc ht
      have hg := grpT_snoc (xs.take k) x
      rw [← ht] at hg
      have HG := Lib.hid hg
      clear hg ht hx
      go_wp2_with (first
        | (go_at_call 92; refine (rsup_any _ _ _).mono ?_; rintro e w1 ⟨rfl, b1⟩; replace HB := bl_then HB (Nat.le_refl _) b1; clear b1))
      go_roundw
      case rel => exact ⟨k + 1, by omega, by rw [HG.out], by go_num, HB⟩
      case measure => simp [intOf]; omega
    · obtain rfl : k = len := by omega
      have ht : xs.take xs.length = xs := List.take_length
      rw [hx] at ht
      rw [ht]
      go_wp2
      go_ret
      exact ⟨rfl, HB⟩
end Go.Proofs.Ythkjkmjcnphjgaa
