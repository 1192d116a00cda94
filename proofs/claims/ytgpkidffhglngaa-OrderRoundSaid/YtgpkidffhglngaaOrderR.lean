/- The statement OrderRound: the walk. No condition. -/
import Derived.Test.YtgpkidffhglngaaOrderX
import Derived.Test.YtgpkidffhglngaaGapR
set_option linter.unusedVariables false
set_option linter.unusedSimpArgs false
set_option linter.unusedVariables false
namespace Go.Proofs.Ytgpkidffhglngaa
open Go.RowKit (wrap32 wrap64)
open Go.RowKit Plain
theorem round_fair (n M : Nat) (hn : 1 ≤ n) : fairW (roundL n M) n n := by
  intro x hx f hf
  have hlen : (roundL n M).length = M := by simp [roundL]
  rw [hlen] at hf
  -- the first place from f on that is x by n
  have h1 : ((x + (n - f % n)) % n + f) % n = x := by
    have hfm := Nat.mod_lt f (show 0 < n by omega)
    have e1 : f = n * (f / n) + f % n := (Nat.div_add_mod f n).symm
    generalize f % n = r at *
    generalize f / n = q at *
    subst e1
    rw [Nat.mod_add_mod]
    have : x + (n - r) + (n * q + r) = x + n * (q + 1) := by
      rw [Nat.mul_add, Nat.mul_one]; omega
    rw [this, Nat.add_mul_mod_self_left]
    exact Nat.mod_eq_of_lt hx
  have h2 := Nat.mod_lt (x + (n - f % n)) (show 0 < n by omega)
  generalize (x + (n - f % n)) % n = d at h1 h2
  refine ⟨d + f, by omega, by omega, ?_⟩
  rw [roundL_get _ _ _ (by omega)]
  omega
set_option maxHeartbeats 2000000 in
theorem orderRound_walk (la : Option Addr) (len cap : Nat) (zs : List Int) (n many win more : Int) (w : World) (hz : IsRow .i64 w la len cap zs) (wn : (Lit.int .i64 n).wf = true) :
    Calls Try.prog 8 #[.slice la len cap, .int .i64 n, .int .i64 many, .int .i64 win, .int .i64 more] w fun e w' => e = .returned (.bool true) ∧ Below w.heap.size w w' := by
  obtain ⟨hl, hwf, hlc, hcm⟩ := hz.ints
  have rn := wf_i64 wn
  clear wn hz hwf
  generalize zs.take len = xs at hl
  clear zs
  by_cases hearly : 60 < len ∨ 300 < many ∨ 64 < n ∨ win < 0 ∨ 1000 < win ∨ more < 0 ∨ 1000 < more
  · have hcs : (60 < len) ∨ (len ≤ 60 ∧ 300 < many) ∨ (len ≤ 60 ∧ many ≤ 300 ∧ 64 < n) ∨ (len ≤ 60 ∧ many ≤ 300 ∧ n ≤ 64 ∧ win < 0) ∨ (len ≤ 60 ∧ many ≤ 300 ∧ n ≤ 64 ∧ 0 ≤ win ∧ 1000 < win) ∨ (len ≤ 60 ∧ many ≤ 300 ∧ n ≤ 64 ∧ 0 ≤ win ∧ win ≤ 1000 ∧ more < 0) ∨ (len ≤ 60 ∧ many ≤ 300 ∧ n ≤ 64 ∧ 0 ≤ win ∧ win ≤ 1000 ∧ 0 ≤ more ∧ 1000 < more) := by omega
    clear hearly
    rcases hcs with h | ⟨h1, h⟩ | ⟨h1, h2, h⟩ | ⟨h1, h2, h3, h⟩ | ⟨h1, h2, h3, h4, h⟩ | ⟨h1, h2, h3, h4, h5, h⟩ | ⟨h1, h2, h3, h4, h5, h6, h⟩ <;>
    · as_aux_lemma =>
        go_enter Try.func8, Try.ntmps8
        go_wp2_with fail
        refine (awake08 _).mono ?_
        rintro e w1 ⟨rfl, b1⟩
        go_wp2
        go_ret
        exact ⟨rfl, b1⟩
  have q1 : len ≤ 60 := by omega
  have q2 : many ≤ 300 := by omega
  have q3 : n ≤ 64 := by omega
  have q4 : 0 ≤ win := by omega
  have q5 : win ≤ 1000 := by omega
  have q6 : 0 ≤ more := by omega
  have q7 : more ≤ 1000 := by omega
  clear hearly
  have hh := Lib.hid hl
  clear hl
  by_cases hn : n < 1
  · go_enter Try.func8, Try.ntmps8
    go_wp2_with fail
    refine (awake08 _).mono ?_
    rintro e w2 ⟨rfl, b2⟩
    go_wp2_with fail
    refine (gap_zero _ _ _ n hn _).mono ?_
    rintro e w2 ⟨rfl, rfl⟩
    go_wp2_with fail
    refine (fair_any _ _ _ xs n win _ (hh.out.below b2) (by omega)).mono ?_
    rintro e w3 ⟨bb, rfl, hb, rfl⟩
    cases bb
    · clear hb
      go_wp2
      go_ret
      exact ⟨rfl, b2⟩
    · exfalso; have := hb.1 rfl; omega
  obtain ⟨n, rfl⟩ := Int.eq_ofNat_of_zero_le (show 0 ≤ n by omega)
  go_enter Try.func8, Try.ntmps8
  go_wp2_with fail
  refine (awake08 _).mono ?_
  rintro e w3 ⟨rfl, b3⟩
  have hl1 := Lib.hid (hh.out.below b3)
  have b1 := b3
  go_wp2_with fail
  refine (gap_any _ _ _ xs n (by omega) (by omega) _ hl1.out (by omega)).mono ?_
  rintro e w3 ⟨g, rfl, hg, hgm, rfl⟩
  have HG := Lib.hid hg
  clear hg
  have hgn := HG.out.1
  have hg60 : g ≤ 64 := by have := hl1.out.len; omega
  clear hgm
  go_wp2_with fail
  refine (fair_any _ _ _ xs n win _ hl1.out (by omega)).mono ?_
  rintro e w3 ⟨bb, rfl, hb, rfl⟩
  have HB := Lib.hid hb
  clear hb
  have hmono : bb = true → (1 ≤ (n : Int) ∧ (n : Int) ≤ win + more ∧ fairW xs (n : Int).toNat (win + more).toNat) := fun h => by
    have := HB.out.1 h
    exact ⟨this.1, by omega, fun x hx => winX_mono _ _ _ _ (by omega) (this.2.2 x hx)⟩
  have HM := Lib.hid hmono
  clear hmono HB
  have hgf : 1 ≤ (n : Int) ∧ (n : Int) ≤ (g : Int) ∧ fairW xs (n : Int).toNat (g : Int).toNat := ⟨by omega, by omega, by
    rw [Int.toNat_natCast, Int.toNat_natCast]; exact (HG.out.2 g hgn).1 (Nat.le_refl _)⟩
  have HGF := Lib.hid hgf
  clear hgf
  have hm0 : many < 0 ∨ (0 ≤ many ∧ oM n many = many.toNat) := by
    rcases oM_cases n many q2 with h | h
    · right; omega
    · left; omega
  cases bb
  · clear HM
    go_wp2_with fail
    refine (fair_any _ _ _ xs n g _ hl1.out (by omega)).mono ?_
    rintro e w3 ⟨bb2, rfl, hb3, rfl⟩
    have hb4 := hb3.2 HGF.out
    subst hb4
    clear hb3 HGF
    have hgc : (g : Int) ≤ n ∨ (n : Int) < g := by omega
    rcases hgc with hgc | hgc
    · rcases hm0 with hm0 | ⟨hm0, hoM⟩
      · go_wp2
        go_ret
        exact ⟨rfl, b1⟩
      · obtain ⟨M, rfl⟩ := Int.eq_ofNat_of_zero_le hm0
        have hrf := Lib.hid (round_fair n M (by omega))
        have hr := Lib.hid (round_all n M)
        rw [hoM, Int.toNat_natCast] at hr
        clear hoM
        go_wp2_with fail
        refine (hr.out _).mono ?_
        rintro e w4 ⟨v, rfl, ho, hb5⟩
        obtain ⟨A4, k4, rfl, i4⟩ := own_ints ho
        go_wp2_with fail
        refine (fair_any _ _ _ (roundL n M) n n _ i4 (by omega)).mono ?_
        rintro e w5 ⟨bb3, rfl, hb6, rfl⟩
        have hb7 := hb6.2 ⟨by omega, by omega, by rw [Int.toNat_natCast]; exact hrf.out⟩
        subst hb7
        clear hb6 ho
        go_wp2
        go_ret
        exact ⟨rfl, bl_then b1 (Nat.le_refl _) hb5⟩
    · go_wp2_with fail
      refine (fair_any _ _ _ xs n ((g : Int) - 1) _ hl1.out (by omega)).mono ?_
      rintro e w3 ⟨bb4, rfl, hb3, rfl⟩
      cases bb4
      · clear hb3
        rcases hm0 with hm0 | ⟨hm0, hoM⟩
        · go_wp2
          go_ret
          exact ⟨rfl, b1⟩
        · obtain ⟨M, rfl⟩ := Int.eq_ofNat_of_zero_le hm0
          have hrf := Lib.hid (round_fair n M (by omega))
          have hr := Lib.hid (round_all n M)
          rw [hoM, Int.toNat_natCast] at hr
          clear hoM
          go_wp2_with fail
          refine (hr.out _).mono ?_
          rintro e w4 ⟨v, rfl, ho, hb5⟩
          obtain ⟨A4, k4, rfl, i4⟩ := own_ints ho
          go_wp2_with fail
          refine (fair_any _ _ _ (roundL n M) n n _ i4 (by omega)).mono ?_
          rintro e w5 ⟨bb3, rfl, hb6, rfl⟩
          have hb7 := hb6.2 ⟨by omega, by omega, by rw [Int.toNat_natCast]; exact hrf.out⟩
          subst hb7
          clear hb6 ho
          go_wp2
          go_ret
          exact ⟨rfl, bl_then b1 (Nat.le_refl _) hb5⟩
      · exfalso
        have hx := (hb3.1 (by simp)).2.2
        have := (HG.out.2 (g - 1) (by omega)).2 (by
          have e1 : ((g : Int) - 1).toNat = g - 1 := by omega
          rw [e1, Int.toNat_natCast] at hx
          exact hx)
        omega
  · go_wp2_with fail
    refine (fair_any _ _ _ xs n (win + more) _ hl1.out (by omega)).mono ?_
    rintro e w3 ⟨bb, rfl, hb, rfl⟩
    have hb2 := hb.2 (HM.out (by trivial))
    subst hb2
    clear hb HM
    go_wp2_with fail
    refine (fair_any _ _ _ xs n g _ hl1.out (by omega)).mono ?_
    rintro e w3 ⟨bb2, rfl, hb3, rfl⟩
    have hb4 := hb3.2 HGF.out
    subst hb4
    clear hb3 HGF
    have hgc : (g : Int) ≤ n ∨ (n : Int) < g := by omega
    rcases hgc with hgc | hgc
    · rcases hm0 with hm0 | ⟨hm0, hoM⟩
      · go_wp2
        go_ret
        exact ⟨rfl, b1⟩
      · obtain ⟨M, rfl⟩ := Int.eq_ofNat_of_zero_le hm0
        have hrf := Lib.hid (round_fair n M (by omega))
        have hr := Lib.hid (round_all n M)
        rw [hoM, Int.toNat_natCast] at hr
        clear hoM
        go_wp2_with fail
        refine (hr.out _).mono ?_
        rintro e w4 ⟨v, rfl, ho, hb5⟩
        obtain ⟨A4, k4, rfl, i4⟩ := own_ints ho
        go_wp2_with fail
        refine (fair_any _ _ _ (roundL n M) n n _ i4 (by omega)).mono ?_
        rintro e w5 ⟨bb3, rfl, hb6, rfl⟩
        have hb7 := hb6.2 ⟨by omega, by omega, by rw [Int.toNat_natCast]; exact hrf.out⟩
        subst hb7
        clear hb6 ho
        go_wp2
        go_ret
        exact ⟨rfl, bl_then b1 (Nat.le_refl _) hb5⟩
    · go_wp2_with fail
      refine (fair_any _ _ _ xs n ((g : Int) - 1) _ hl1.out (by omega)).mono ?_
      rintro e w3 ⟨bb4, rfl, hb3, rfl⟩
      cases bb4
      · clear hb3
        rcases hm0 with hm0 | ⟨hm0, hoM⟩
        · go_wp2
          go_ret
          exact ⟨rfl, b1⟩
        · obtain ⟨M, rfl⟩ := Int.eq_ofNat_of_zero_le hm0
          have hrf := Lib.hid (round_fair n M (by omega))
          have hr := Lib.hid (round_all n M)
          rw [hoM, Int.toNat_natCast] at hr
          clear hoM
          go_wp2_with fail
          refine (hr.out _).mono ?_
          rintro e w4 ⟨v, rfl, ho, hb5⟩
          obtain ⟨A4, k4, rfl, i4⟩ := own_ints ho
          go_wp2_with fail
          refine (fair_any _ _ _ (roundL n M) n n _ i4 (by omega)).mono ?_
          rintro e w5 ⟨bb3, rfl, hb6, rfl⟩
          have hb7 := hb6.2 ⟨by omega, by omega, by rw [Int.toNat_natCast]; exact hrf.out⟩
          subst hb7
          clear hb6 ho
          go_wp2
          go_ret
          exact ⟨rfl, bl_then b1 (Nat.le_refl _) hb5⟩
      · exfalso
        have hx := (hb3.1 (by simp)).2.2
        have := (HG.out.2 (g - 1) (by omega)).2 (by
          have e1 : ((g : Int) - 1).toNat = g - 1 := by omega
          rw [e1, Int.toNat_natCast] at hx
          exact hx)
        omega
end Go.Proofs.Ytgpkidffhglngaa
