/- The statements of chapter 1 (mode): the walks. No condition. -/
import Derived.Test.YtgpkidffhglngaaModeC
import Derived.Test.YtgpkidffhglngaaModeLaws
namespace Go.Proofs.Ytgpkidffhglngaa
open Go.RowKit (wrap32 wrap64)
open Go.RowKit

set_option maxHeartbeats 1000000 in
theorem modeLattice_walk (a b c : Int) (w : World) : Calls Try.prog 5 #[.int .i64 a, .int .i64 b, .int .i64 c] w fun e w' => e = .returned (.bool true) ∧ Below w.heap.size w w' := by
  have hs := supT_range a b
  have h1 := Lib.hid (sup_comm b a)
  have h2 := Lib.hid (sup_assoc a b c)
  have h3 := Lib.hid (cov_sup_l a b)
  have h4 := Lib.hid (cov_sup_r a b)
  have h5 := Lib.hid (cov_least a b c)
  have h6 := Lib.hid (sup_self a)
  have h7 := Lib.hid ((cov_l a a).trans (cov_self a))
  have h8 := Lib.hid ((cov_r a a).trans (cov_self a))
  have h9 := Lib.hid (of_at (supT a b) hs)
  have p1 := reT_range (supT a b)
  have p2 := imT_range (supT a b)
  go_enter Try.func5, Try.ntmps5
  go_wp2_with fail
  refine (awake01 _).mono ?_
  rintro e w1 ⟨rfl, b1⟩
  go_wp2_with fail
  refine (sup_any _ _ _).mono ?_
  rintro e w2 ⟨rfl, b2⟩
  replace b2 := below_then b1 (Nat.le_refl _) b2
  go_wp2_with fail
  refine (sup_any _ _ _).mono ?_
  rintro e w3 ⟨rfl, b3⟩
  replace b3 := below_then b2 (Nat.le_refl _) b3
  rw [h1.out]
  go_wp2_with fail
  refine (sup_any _ _ _).mono ?_
  rintro e w4 ⟨rfl, b4⟩
  replace b4 := below_then b3 (Nat.le_refl _) b4
  go_wp2_with fail
  refine (sup_any _ _ _).mono ?_
  rintro e w5 ⟨rfl, b5⟩
  replace b5 := below_then b4 (Nat.le_refl _) b5
  go_wp2_with fail
  refine (sup_any _ _ _).mono ?_
  rintro e w6 ⟨rfl, b6⟩
  replace b6 := below_then b5 (Nat.le_refl _) b6
  rw [h2.out]
  go_wp2_with fail
  refine (covers_any _ _ _).mono ?_
  rintro e w7 ⟨rfl, b7⟩
  replace b7 := below_then b6 (Nat.le_refl _) b7
  rw [h3.out]
  go_wp2_with fail
  refine (covers_any _ _ _).mono ?_
  rintro e w8 ⟨rfl, b8⟩
  replace b8 := below_then b7 (Nat.le_refl _) b8
  rw [h4.out]
  go_wp2_with fail
  refine (covers_any _ _ _).mono ?_
  rintro e w9 ⟨rfl, b9⟩
  replace b9 := below_then b8 (Nat.le_refl _) b9
  cases k1 : covT c a
  · go_wp2_with fail
    refine (sup_any _ _ _).mono ?_
    rintro e w10 ⟨rfl, b10⟩
    replace b10 := below_then b9 (Nat.le_refl _) b10
    rw [h6.out]
    go_wp2_with fail
    refine (covers_any _ _ _).mono ?_
    rintro e w11 ⟨rfl, b11⟩
    replace b11 := below_then b10 (Nat.le_refl _) b11
    rw [h7.out]
    go_wp2_with fail
    refine (sup_any _ _ _).mono ?_
    rintro e w12 ⟨rfl, b12⟩
    replace b12 := below_then b11 (Nat.le_refl _) b12
    rw [h6.out]
    go_wp2_with fail
    refine (covers_any _ _ _).mono ?_
    rintro e w13 ⟨rfl, b13⟩
    replace b13 := below_then b12 (Nat.le_refl _) b13
    rw [h8.out]
    go_wp2_with fail
    refine (at_any _ _).mono ?_
    rintro e w14 ⟨rfl, b14⟩
    replace b14 := below_then b13 (Nat.le_refl _) b14
    unfold ptv
    go_wp2_with fail
    refine (of_any _ _ p1 p2 _).mono ?_
    rintro e w15 ⟨rfl, b15⟩
    replace b15 := below_then b14 (Nat.le_refl _) b15
    rw [h9.out]
    go_wp2
    go_ret
    exact ⟨by simp, b15⟩
  · go_wp2_with fail
    refine (covers_any _ _ _).mono ?_
    rintro e w16 ⟨rfl, b16⟩
    replace b16 := below_then b9 (Nat.le_refl _) b16
    cases k2 : covT c b
    · go_wp2_with fail
      refine (sup_any _ _ _).mono ?_
      rintro e w17 ⟨rfl, b17⟩
      replace b17 := below_then b16 (Nat.le_refl _) b17
      rw [h6.out]
      go_wp2_with fail
      refine (covers_any _ _ _).mono ?_
      rintro e w18 ⟨rfl, b18⟩
      replace b18 := below_then b17 (Nat.le_refl _) b18
      rw [h7.out]
      go_wp2_with fail
      refine (sup_any _ _ _).mono ?_
      rintro e w19 ⟨rfl, b19⟩
      replace b19 := below_then b18 (Nat.le_refl _) b19
      rw [h6.out]
      go_wp2_with fail
      refine (covers_any _ _ _).mono ?_
      rintro e w20 ⟨rfl, b20⟩
      replace b20 := below_then b19 (Nat.le_refl _) b20
      rw [h8.out]
      go_wp2_with fail
      refine (at_any _ _).mono ?_
      rintro e w21 ⟨rfl, b21⟩
      replace b21 := below_then b20 (Nat.le_refl _) b21
      unfold ptv
      go_wp2_with fail
      refine (of_any _ _ p1 p2 _).mono ?_
      rintro e w22 ⟨rfl, b22⟩
      replace b22 := below_then b21 (Nat.le_refl _) b22
      rw [h9.out]
      go_wp2
      go_ret
      exact ⟨by simp, b22⟩
    · go_wp2_with fail
      refine (covers_any _ _ _).mono ?_
      rintro e w23 ⟨rfl, b23⟩
      replace b23 := below_then b16 (Nat.le_refl _) b23
      rw [h5.out k1 k2]
      go_wp2_with fail
      refine (sup_any _ _ _).mono ?_
      rintro e w24 ⟨rfl, b24⟩
      replace b24 := below_then b23 (Nat.le_refl _) b24
      rw [h6.out]
      go_wp2_with fail
      refine (covers_any _ _ _).mono ?_
      rintro e w25 ⟨rfl, b25⟩
      replace b25 := below_then b24 (Nat.le_refl _) b25
      rw [h7.out]
      go_wp2_with fail
      refine (sup_any _ _ _).mono ?_
      rintro e w26 ⟨rfl, b26⟩
      replace b26 := below_then b25 (Nat.le_refl _) b26
      rw [h6.out]
      go_wp2_with fail
      refine (covers_any _ _ _).mono ?_
      rintro e w27 ⟨rfl, b27⟩
      replace b27 := below_then b26 (Nat.le_refl _) b27
      rw [h8.out]
      go_wp2_with fail
      refine (at_any _ _).mono ?_
      rintro e w28 ⟨rfl, b28⟩
      replace b28 := below_then b27 (Nat.le_refl _) b28
      unfold ptv
      go_wp2_with fail
      refine (of_any _ _ p1 p2 _).mono ?_
      rintro e w29 ⟨rfl, b29⟩
      replace b29 := below_then b28 (Nat.le_refl _) b29
      rw [h9.out]
      go_wp2
      go_ret
      exact ⟨by simp, b29⟩
set_option maxHeartbeats 1000000 in
theorem modeLess_walk (m n k : Int) (w : World) : Calls Try.prog 9 #[.int .i64 m, .int .i64 n, .int .i64 k] w fun e w' => e = .returned (.bool true) ∧ Below w.heap.size w w' := by
  cases hc : covT m n
  · go_enter Try.func9, Try.ntmps9
    go_wp2_with fail
    refine (awake01 _).mono ?_
    rintro e w1 ⟨rfl, b1⟩
    go_wp2_with fail
    refine (covers_any _ _ _).mono ?_
    rintro e w2 ⟨rfl, b2⟩
    replace b2 := below_then b1 (Nat.le_refl _) b2
    rw [hc]
    go_wp2
    go_ret
    exact ⟨rfl, b2⟩
  · have h1 := com_less_l m n k hc
    have h2 := com_less_r m n k hc
    have h3 := par_cov m n hc
    have h4 := re_cov m n hc
    have t1 : (comT m k = true ∧ comT n k = true) ∨ comT m k = false := by
      cases e : comT m k
      · exact .inr rfl
      · exact .inl ⟨rfl, h1 e⟩
    have t2 : (comT k m = true ∧ comT k n = true) ∨ comT k m = false := by
      cases e : comT k m
      · exact .inr rfl
      · exact .inl ⟨rfl, h2 e⟩
    have t3 : (decide (1 ≤ reT n) = true ∧ decide (1 ≤ reT m) = true) ∨ decide (1 ≤ reT n) = false := by
      by_cases e : 1 ≤ reT n
      · exact .inl ⟨by simp [e], by simp; omega⟩
      · exact .inr (by simp; omega)
    have t4 : (decide (3 ≤ reT n) = true ∧ decide (3 ≤ reT m) = true) ∨ decide (3 ≤ reT n) = false := by
      by_cases e : 3 ≤ reT n
      · exact .inl ⟨by simp [e], by simp; omega⟩
      · exact .inr (by simp; omega)
    clear h1 h2 h4
    have HB := Below.refl w.heap.size w
    rcases t1 with ⟨t1, t1'⟩ | t1 <;> rcases t2 with ⟨t2, t2'⟩ | t2 <;> rcases t3 with ⟨t3, t3'⟩ | t3 <;> rcases t4 with ⟨t4, t4'⟩ | t4 <;>
    · as_aux_lemma =>
        go_enter Try.func9, Try.ntmps9
        go_wp2_with (first
          | (go_at_call 20; refine (awake01 _).mono ?_; rintro e w1 ⟨rfl, b1⟩; replace HB := below_then HB (Nat.le_refl _) b1; clear b1)
          | (go_at_call 22; refine (covers_any _ _ _).mono ?_; rintro e w1 ⟨rfl, b1⟩; replace HB := below_then HB (Nat.le_refl _) b1; clear b1)
          | (go_at_call 34; refine (compat_any _ _ _).mono ?_; rintro e w1 ⟨rfl, b1⟩; replace HB := below_then HB (Nat.le_refl _) b1; clear b1)
          | (go_at_call 35; refine (parent_any _ _).mono ?_; rintro e w' ⟨rfl, rfl⟩)
          | (go_at_call 36; refine (reads_any _ _).mono ?_; rintro e w1 ⟨rfl, b1⟩; replace HB := below_then HB (Nat.le_refl _) b1; clear b1; first | rw [t3] | rw [t3'])
          | (go_at_call 37; refine (writes_any _ _).mono ?_; rintro e w1 ⟨rfl, b1⟩; replace HB := below_then HB (Nat.le_refl _) b1; clear b1; first | rw [t4] | rw [t4']))
        go_ret
        exact ⟨rfl, HB⟩
end Go.Proofs.Ytgpkidffhglngaa
