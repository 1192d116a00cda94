/- The statement ModeGroups: the walk. No condition. -/
import Derived.Test.YtgpkidffhglngaaRefB
import Derived.Test.YtgpkidffhglngaaSl
namespace Go.Proofs.Ytgpkidffhglngaa
open Go.RowKit (wrap32 wrap64)
open Go.RowKit
def grpT (l : List Int) : Int := l.foldl supT 0
theorem grpT_snoc (l : List Int) (x : Int) : grpT (l ++ [x]) = supT (grpT l) x := by unfold grpT; rw [List.foldl_append]; rfl
theorem grpT_range (l : List Int) : 0 ≤ grpT l ∧ grpT l ≤ 6 := by
  unfold grpT
  rcases List.eq_nil_or_concat l with rfl | ⟨l', x, rfl⟩
  · exact ⟨by decide, by decide⟩
  · rw [List.concat_eq_append, List.foldl_append]; exact supT_range _ _
theorem sup_zero (m : Int) (h : 0 ≤ m ∧ m ≤ 6) : supT m 0 = m := by
  refine seven (p := fun m => supT m 0 = m) ?_ ?_ ?_ ?_ ?_ ?_ ?_ m h <;> decide
theorem fold_sup (m : Int) (l : List Int) (h : 0 ≤ m ∧ m ≤ 6) : l.foldl supT m = supT m (grpT l) := by
  induction l generalizing m with
  | nil => exact (sup_zero m h).symm
  | cons x l ih =>
    have e1 := ih (supT m x) (supT_range m x)
    have e2 := ih (supT 0 x) (supT_range 0 x)
    have e3 : grpT (x :: l) = l.foldl supT (supT 0 x) := rfl
    show l.foldl supT (supT m x) = supT m (grpT (x :: l))
    rw [e1, e3, e2, ← sup_assoc, ← sup_assoc, sup_zero m h]
theorem grpT_append (l k : List Int) : grpT (l ++ k) = supT (grpT l) (grpT k) := by
  have e : grpT (l ++ k) = k.foldl supT (grpT l) := by unfold grpT; rw [List.foldl_append]
  rw [e, fold_sup _ _ (grpT_range l)]
theorem cov_trans (a b c : Int) (h1 : covT a b = true) (h2 : covT b c = true) : covT a c = true := by
  unfold covT at *; simp at *; omega
theorem grpT_cov (l : List Int) (x : Int) (h : x ∈ l) : covT (grpT l) x = true := by
  obtain ⟨a, b, rfl⟩ := List.append_of_mem h
  have : a ++ x :: b = (a ++ [x]) ++ b := by simp
  rw [this, grpT_append, grpT_snoc]
  exact cov_trans _ _ _ (cov_sup_l _ _) (cov_sup_r _ _)
theorem Try.infoI : (Try.prog.info? 3).map (fun i => (i.zero, i.size, i.bytes)) = some (some (.int .i64 0), 1, 8) := by kernel_rfl
theorem take_snocI (xs : List Int) (k : Nat) (h : k < xs.length) : xs.take (k + 1) = xs.take k ++ [xs.getD k 0] := by
  rw [List.take_succ_eq_append_getElem h, List.getD_eq_getElem?_getD, List.getElem?_eq_getElem h]; rfl
set_option maxHeartbeats 400000 in
theorem group_any (a : Option Addr) (len cap : Nat) (xs : List Int) (w : World) (hl : Ints w a len xs) : Calls Try.prog 30 #[.slice a len cap] w fun e w' => e = .returned (.int .i64 (grpT xs)) ∧ Below w.heap.size w w' := by
  have hx := hl.len
  have hmx := hl.le
  go_enter Try.func30, Try.ntmps30
  go_wp2
  go_loopw [3, 8] (fun o c wr => ∃ k : Nat, k ≤ len ∧ o = .int .i64 (grpT (xs.take k)) ∧ c = .int .i64 k ∧ Below w.heap.size w wr) (fun _ c _ => len - (intOf c).toNat)
  case atStart => exact ⟨0, by omega, rfl, rfl, Below.refl _ _⟩
  case round =>
    obtain ⟨k, hk, rfl, rfl, HB⟩ := hrel
    by_cases hlt : k < len
    · obtain ⟨b, off, rfl, hc⟩ := (hl.below HB).get hlt
      have ht := take_snocI xs k (by omega)
      generalize xs.getD k 0 = x at hc ht
      have hg := grpT_snoc (xs.take k) x
      rw [← ht] at hg
      have HG := Lib.hid hg
      clear hg ht hx
      go_wp2_with (first
        | (go_at_call 21; refine (sup_any _ _ _).mono ?_; rintro e w1 ⟨rfl, b1⟩; replace HB := bl_then HB (Nat.le_refl _) b1; clear b1))
      go_roundw
      case rel => exact ⟨k + 1, by omega, by rw [HG.out], by go_num, HB⟩
      case measure => simp [intOf]; omega
    · obtain rfl : k = len := by omega
      have ht : xs.take xs.length = xs := List.take_length
      rw [hx] at ht
      rw [ht]
      go_wp2
      go_ret
      exact ⟨rfl, HB⟩
set_option maxHeartbeats 400000 in
theorem rgroup_any (a : Option Addr) (len cap : Nat) (xs : List Int) (w : World) (hl : Ints w a len xs) : Calls Try.prog 31 #[.slice a len cap] w fun e w' => e = .returned (.int .i64 (grpT xs)) ∧ Below w.heap.size w w' := by
  have hx := hl.len
  have hmx := hl.le
  go_enter Try.func31, Try.ntmps31
  go_wp2
  go_loopw [3, 8] (fun o c wr => ∃ k : Nat, k ≤ len ∧ o = .int .i64 (grpT (xs.take k)) ∧ c = .int .i64 k ∧ Below w.heap.size w wr) (fun _ c _ => len - (intOf c).toNat)
  case atStart => exact ⟨0, by omega, rfl, rfl, Below.refl _ _⟩
  case round =>
    obtain ⟨k, hk, rfl, rfl, HB⟩ := hrel
    by_cases hlt : k < len
    · obtain ⟨b, off, rfl, hc⟩ := (hl.below HB).get hlt
      have ht := take_snocI xs k (by omega)
      generalize xs.getD k 0 = x at hc ht
      have hg := grpT_snoc (xs.take k) x
      rw [← ht] at hg
      have HG := Lib.hid hg
      clear hg ht hx
      go_wp2_with (first
        | (go_at_call 59; refine (rsup_any _ _ _).mono ?_; rintro e w1 ⟨rfl, b1⟩; replace HB := bl_then HB (Nat.le_refl _) b1; clear b1))
      go_roundw
      case rel => exact ⟨k + 1, by omega, by rw [HG.out], by go_num, HB⟩
      case measure => simp [intOf]; omega
    · obtain rfl : k = len := by omega
      have ht : xs.take xs.length = xs := List.take_length
      rw [hx] at ht
      rw [ht]
      go_wp2
      go_ret
      exact ⟨rfl, HB⟩
set_option maxHeartbeats 1000000 in
theorem modeGroups_walk (la : Option Addr) (len cap : Nat) (za : List Int) (lb : Option Addr) (lem cbp : Nat) (zb : List Int) (w : World) (ha : IsRow .i64 w la len cap za) (hb : IsRow .i64 w lb lem cbp zb) :
    Calls Try.prog 7 #[.slice la len cap, .slice lb lem cbp] w fun e w' => e = .returned (.bool true) ∧ Below w.heap.size w w' := by
  obtain ⟨hl, _, hlc, hcm⟩ := ha.ints
  obtain ⟨hm, _, hmc, hcn⟩ := hb.ints
  have na := ha.nil
  have nb := hb.nil
  generalize za.take len = xs at hl
  generalize zb.take lem = ys at hm
  have HB := Below.refl w.heap.size w
  by_cases h1 : 50 < len
  · go_enter Try.func7, Try.ntmps7
    go_wp2_with fail
    refine (awake01 _).mono ?_
    rintro e w1 ⟨rfl, b1⟩
    go_wp2
    go_ret
    exact ⟨rfl, b1⟩
  by_cases h2 : 50 < lem
  · go_enter Try.func7, Try.ntmps7
    go_wp2_with fail
    refine (awake01 _).mono ?_
    rintro e w2 ⟨rfl, b2⟩
    go_wp2
    go_ret
    exact ⟨rfl, b2⟩
  have hx := hl.len
  have hy := hm.len
  obtain ⟨i0, hi, hz0, hz1, hz2⟩ := info_parts Try.infoI
  go_enter Try.func7, Try.ntmps7
  go_wp2_with fail
  refine (awake01 _).mono ?_
  rintro e w3 ⟨rfl, b3⟩
  go_wp2_with fail
  refine (group_any _ _ _ xs _ (hl.below b3)).mono ?_
  rintro e w2 ⟨rfl, b2⟩
  replace b2 := bl_then b3 (Nat.le_refl _) b2
  go_wp2_with fail
  go_loopw [22] (fun c wr => ∃ k : Nat, k ≤ len ∧ c = .int .i64 k ∧ Below w.heap.size w wr) (fun c _ => len - (intOf c).toNat)
  case atStart => exact ⟨0, by omega, rfl, b2⟩
  case round =>
    clear HB
    obtain ⟨k, hk, rfl, HB⟩ := hrel
    by_cases hlt : k < len
    · obtain ⟨b, off, rfl, hc⟩ := (hl.below HB).get hlt
      have hcv : covT (grpT xs) (xs.getD k 0) = true := by
        apply grpT_cov
        rw [List.getD_eq_getElem?_getD, List.getElem?_eq_getElem (by omega)]
        exact List.getElem_mem _
      generalize xs.getD k 0 = x at hc hcv
      go_wp2_with fail
      refine (covers_any _ _ _).mono ?_
      rintro e w3 ⟨rfl, b3⟩
      replace b3 := bl_then HB (Nat.le_refl _) b3
      rw [hcv]
      go_wp2
      go_roundw
      case rel => exact ⟨k + 1, by omega, by go_num, b3⟩
      case measure => simp [intOf]; omega
    · obtain rfl : k = len := by omega
      have hap := Lib.hid (grpT_append xs ys)
      go_wp2_with fail
      refine (rgroup_any _ _ _ xs _ (hl.below HB)).mono ?_
      rintro e w3 ⟨rfl, b3⟩
      replace b3 := bl_then HB (Nat.le_refl _) b3
      go_wp2_with (first
        | (at_builtin; refine wpList_append_src ?_ _ _ 26 rfl w.heap.size 3 i0 Try.underlying26 hi hz0 hz1 hz2 v4 k xs rfl o4 lb lem cbp ys rfl (hm.below b4) nb (by unfold maxLen; omega) (by omega) b4.size ?_; (rfl); intro v5 w5 o5 g5; have b5 := b4.grown g5 b4.size (fun k h => (o4.lt k h).1); obtain ⟨A5, k5, hv5, i5⟩ := own_ints o5; clear o4 o5 g4 g5)
        | (at_builtin; refine wpList_append_src ?_ _ _ 26 rfl w.heap.size 3 i0 Try.underlying26 hi hz0 hz1 hz2 (.slice none 0 0) 0 [] rfl (World.ownsRow_nil _ _ _ _) la k cap xs rfl (hl.below b3) na (by unfold maxLen; omega) (by omega) b3.size ?_; (rfl); intro v4 w4 o4 g4; have b4 := b3.grown g4 b3.size (fun k h => by cases h); rw [List.nil_append, Nat.zero_add] at o4))
      refine (group_any _ _ _ (xs ++ ys) _ i5).mono ?_
      rintro e w6 ⟨rfl, b6⟩
      replace b6 := bl_then b5 (Nat.le_refl _) b6
      rw [hap.out]
      go_wp2_with fail
      refine (group_any _ _ _ ys _ (hm.below b6)).mono ?_
      rintro e w7 ⟨rfl, b7⟩
      replace b7 := bl_then b6 (Nat.le_refl _) b7
      go_wp2_with fail
      refine (sup_any _ _ _).mono ?_
      rintro e w8 ⟨rfl, b8⟩
      replace b8 := bl_then b7 (Nat.le_refl _) b8
      go_wp2
      go_ret
      exact ⟨by simp, b8⟩
end Go.Proofs.Ytgpkidffhglngaa
