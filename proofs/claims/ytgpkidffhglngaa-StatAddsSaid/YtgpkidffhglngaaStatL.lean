/- stat's Add; the walk of StatAdds. No condition. -/
import Derived.Test.YtgpkidffhglngaaStatM
import Derived.Deep.RegionHeld3
set_option linter.unusedVariables false
set_option linter.unusedSimpArgs false
namespace Go.Proofs.Ytgpkidffhglngaa
open Go.RowKit (wrap32 wrap64)
open Go.RowKit
set_option maxHeartbeats 2000000 in
theorem add_any (p0 p1 p2 p3 p4 p5 q0 q1 q2 q3 q4 q5 : Int) (w : World) :
    Calls Try.prog 28 #[.agg #[.int .i64 p0, .int .i64 p1, .int .i64 p2, .int .i64 p3, .int .i64 p4, .int .i64 p5], .agg #[.int .i64 q0, .int .i64 q1, .int .i64 q2, .int .i64 q3, .int .i64 q4, .int .i64 q5]] w fun e w' => e = .returned (.agg #[.int .i64 (wrap64 (p0 + q0)), .int .i64 (wrap64 (p1 + q1)), .int .i64 (wrap64 (p2 + q2)), .int .i64 (wrap64 (p3 + q3)), .int .i64 (wrap64 (p4 + q4)), .int .i64 (wrap64 (p5 + q5))]) ∧ Below w.heap.size w w' := by
  go_enter Try.func28, Try.ntmps28
  go_wp2
  exact bodyPost_ret (v := .agg #[.int .i64 (wrap64 (p0 + q0)), .int .i64 (wrap64 (p1 + q1)), .int .i64 (wrap64 (p2 + q2)), .int .i64 (wrap64 (p3 + q3)), .int .i64 (wrap64 (p4 + q4)), .int .i64 (wrap64 (p5 + q5))]) (by simp [results, Try.results28, go_sem]) rfl ⟨rfl, (((Below.refl _ _).alloc (Nat.le_refl _) _).alloc (by simp) _).alloc (by simp; omega) _⟩
theorem w64 (x : Int) (h : -9223372036854775808 ≤ x ∧ x ≤ 9223372036854775807) : wrap64 x = x := by
  unfold wrap64; omega
theorem add_tal (L M : List Ev) (hL : L.length ≤ 1000) (hM : M.length ≤ 1000) (w : World) :
    Calls Try.prog 28 #[.agg #[.int .i64 (cn pB L), .int .i64 (cn pC L), .int .i64 (cn pA L), .int .i64 (cn pW L), .int .i64 (cn pK L), .int .i64 (cn pG L)], .agg #[.int .i64 (cn pB M), .int .i64 (cn pC M), .int .i64 (cn pA M), .int .i64 (cn pW M), .int .i64 (cn pK M), .int .i64 (cn pG M)]] w fun e w' => e = .returned (.agg #[.int .i64 (cn pB (L ++ M)), .int .i64 (cn pC (L ++ M)), .int .i64 (cn pA (L ++ M)), .int .i64 (cn pW (L ++ M)), .int .i64 (cn pK (L ++ M)), .int .i64 (cn pG (L ++ M))]) ∧ Below w.heap.size w w' := by
  have hs : ∀ p, wrap64 (cn p L + cn p M) = cn p (L ++ M) := fun p => by
    have h1 := cn_range p L
    have h2 := cn_range p M
    rw [cn_append]
    exact w64 _ (by omega)
  have h := add_any (cn pB L) (cn pC L) (cn pA L) (cn pW L) (cn pK L) (cn pG L) (cn pB M) (cn pC M) (cn pA M) (cn pW M) (cn pK M) (cn pG M) w
  simp only [hs] at h
  exact h
theorem add_rev (p0 p1 p2 p3 p4 p5 q0 q1 q2 q3 q4 q5 : Int) (w : World) :
    Calls Try.prog 28 #[.agg #[.int .i64 q0, .int .i64 q1, .int .i64 q2, .int .i64 q3, .int .i64 q4, .int .i64 q5], .agg #[.int .i64 p0, .int .i64 p1, .int .i64 p2, .int .i64 p3, .int .i64 p4, .int .i64 p5]] w fun e w' => e = .returned (.agg #[.int .i64 (wrap64 (p0 + q0)), .int .i64 (wrap64 (p1 + q1)), .int .i64 (wrap64 (p2 + q2)), .int .i64 (wrap64 (p3 + q3)), .int .i64 (wrap64 (p4 + q4)), .int .i64 (wrap64 (p5 + q5))]) ∧ Below w.heap.size w w' := by
  have h := add_any q0 q1 q2 q3 q4 q5 p0 p1 p2 p3 p4 p5 w
  rw [Int.add_comm q0 p0, Int.add_comm q1 p1, Int.add_comm q2 p2, Int.add_comm q3 p3, Int.add_comm q4 p4, Int.add_comm q5 p5] at h
  exact h
theorem add_zero_any (p0 p1 p2 p3 p4 p5 : Int) (h0 : -9223372036854775808 ≤ p0 ∧ p0 ≤ 9223372036854775807) (h1 : -9223372036854775808 ≤ p1 ∧ p1 ≤ 9223372036854775807) (h2 : -9223372036854775808 ≤ p2 ∧ p2 ≤ 9223372036854775807) (h3 : -9223372036854775808 ≤ p3 ∧ p3 ≤ 9223372036854775807) (h4 : -9223372036854775808 ≤ p4 ∧ p4 ≤ 9223372036854775807) (h5 : -9223372036854775808 ≤ p5 ∧ p5 ≤ 9223372036854775807) (w : World) :
    Calls Try.prog 28 #[.agg #[.int .i64 p0, .int .i64 p1, .int .i64 p2, .int .i64 p3, .int .i64 p4, .int .i64 p5], .agg #[.int .i64 0, .int .i64 0, .int .i64 0, .int .i64 0, .int .i64 0, .int .i64 0]] w fun e w' => e = .returned (.agg #[.int .i64 p0, .int .i64 p1, .int .i64 p2, .int .i64 p3, .int .i64 p4, .int .i64 p5]) ∧ Below w.heap.size w w' := by
  have h := add_any p0 p1 p2 p3 p4 p5 0 0 0 0 0 0 w
  simp only [Int.add_zero] at h
  rw [w64 p0 h0, w64 p1 h1, w64 p2 h2, w64 p3 h3, w64 p4 h4, w64 p5 h5] at h
  exact h
theorem evs_two (w : World) : Evs (w.alloc (.cells #[.int .i64 1, .int .i64 0, .int .i64 0, .int .i64 0, .int .i64 0, .int .i64 0, .int .i64 0, .int .i64 0, .int .i64 0, .slice none 0 0, .int .i64 0, .int .i64 2, .int .i64 0, .int .i64 0, .int .i64 0, .int .i64 0, .int .i64 0, .int .i64 0, .int .i64 0, .int .i64 2, .slice none 0 0, .int .i64 0] 68)) (some ⟨w.heap.size, 0, none⟩) 2 [⟨1, 0, 0, 0, 0, 0, 0, 0, 0, none, 0, 0, 0⟩, ⟨2, 0, 0, 0, 0, 0, 0, 0, 2, none, 0, 0, 0⟩] := by
  refine ⟨rfl, by unfold maxLen; omega, ?_, fun _ => ⟨w.heap.size, 0, rfl, by simp, fun j hj => ?_⟩⟩
  · intro x hx
    simp only [List.mem_cons, List.not_mem_nil, or_false] at hx
    rcases hx with rfl | rfl <;> exact Nat.zero_le _
  · rw [Nat.zero_add, (Bk.new w 68 #[.int .i64 1, .int .i64 0, .int .i64 0, .int .i64 0, .int .i64 0, .int .i64 0, .int .i64 0, .int .i64 0, .int .i64 0, .slice none 0 0, .int .i64 0, .int .i64 2, .int .i64 0, .int .i64 0, .int .i64 0, .int .i64 0, .int .i64 0, .int .i64 0, .int .i64 0, .int .i64 2, .slice none 0 0, .int .i64 0]).cell j, ← Array.getElem?_toList]
    rfl
theorem tal_two : tal [⟨1, 0, 0, 0, 0, 0, 0, 0, 0, none, 0, 0, 0⟩, ⟨2, 0, 0, 0, 0, 0, 0, 0, 2, none, 0, 0, 0⟩] = .agg #[.int .i64 1, .int .i64 0, .int .i64 0, .int .i64 1, .int .i64 0, .int .i64 0] := by unfold tal; rfl
set_option maxHeartbeats 1000000 in
theorem awake33 (w : World) : Calls Try.prog 25 #[] w fun e w' => e = .returned (.bool true) ∧ Below w.heap.size w w' := by
  go_enter Try.func25, Try.ntmps25
  go_wp2_with fail
  refine (of_any _ _ _ _ _ (evs_two w) (by omega)).mono ?_
  rintro e w1 ⟨rfl, hb1⟩
  rw [tal_two]
  go_wp2
  go_ret
  exact ⟨rfl, bl_then ((Below.refl _ _).alloc (Nat.le_refl _) _) (Nat.le_refl _) hb1⟩
theorem Try.infoE : (Try.prog.info? 68).map (fun i => (i.zero, i.size, i.bytes)) = some (some (.agg #[.int .i64 0, .int .i64 0, .int .i64 0, .int .i64 0, .int .i64 0, .int .i64 0, .int .i64 0, .int .i64 0, .int .i64 0, .slice none 0 0, .int .i64 0]), 11, 104) := by kernel_rfl
theorem of_exp (a : Option Addr) (len cap : Nat) (L : List Ev) (w : World) (hl : Evs w a len L) (hn : len ≤ 1000) :
    Calls Try.prog 29 #[.slice a len cap] w fun e w' => e = .returned (.agg #[.int .i64 (cn pB L), .int .i64 (cn pC L), .int .i64 (cn pA L), .int .i64 (cn pW L), .int .i64 (cn pK L), .int .i64 (cn pG L)]) ∧ Below w.heap.size w w' := by
  have h := of_any a len cap L w hl hn
  unfold tal at h
  exact h
theorem step_want {c : Bool} {X Y : Prop} (hw : c = true) (h : X) : if c = true then X else Y := by rw [if_pos hw]; exact h
theorem below_drewN (w : World) (n : Nat) : Below w.heap.size w (w.drewN n) := (Keep.drewN w n (fun _ => False)).below (Nat.le_refl _) (fun _ h => h.elim)
theorem below_drew (w : World) : Below w.heap.size w w.drew := (Keep.drew w (fun _ => False)).below (Nat.le_refl _) (fun _ h => h.elim)
theorem six_of {cs : Array Value} (hz : cs.size = 6) (h : PW [.int .i64, .int .i64, .int .i64, .int .i64, .int .i64, .int .i64] cs.toList) : ∃ p0 p1 p2 p3 p4 p5 : Int, cs = #[.int .i64 p0, .int .i64 p1, .int .i64 p2, .int .i64 p3, .int .i64 p4, .int .i64 p5] ∧ (-9223372036854775808 ≤ p0 ∧ p0 ≤ 9223372036854775807) ∧ (-9223372036854775808 ≤ p1 ∧ p1 ≤ 9223372036854775807) ∧ (-9223372036854775808 ≤ p2 ∧ p2 ≤ 9223372036854775807) ∧ (-9223372036854775808 ≤ p3 ∧ p3 ≤ 9223372036854775807) ∧ (-9223372036854775808 ≤ p4 ∧ p4 ≤ 9223372036854775807) ∧ (-9223372036854775808 ≤ p5 ∧ p5 ≤ 9223372036854775807) := by
  obtain ⟨l⟩ := cs
  match l, hz with
  | [v0, v1, v2, v3, v4, v5], _ =>
    obtain ⟨n0, rfl, w0⟩ := h 0 _ v0 rfl rfl
    obtain ⟨n1, rfl, w1⟩ := h 1 _ v1 rfl rfl
    obtain ⟨n2, rfl, w2⟩ := h 2 _ v2 rfl rfl
    obtain ⟨n3, rfl, w3⟩ := h 3 _ v3 rfl rfl
    obtain ⟨n4, rfl, w4⟩ := h 4 _ v4 rfl rfl
    obtain ⟨n5, rfl, w5⟩ := h 5 _ v5 rfl rfl
    exact ⟨n0, n1, n2, n3, n4, n5, rfl, wf_i64 w0, wf_i64 w1, wf_i64 w2, wf_i64 w3, wf_i64 w4, wf_i64 w5⟩
theorem adds_S {w w' : World} {A B : Nat} {p0 p1 p2 p3 p4 p5 q0 q1 q2 q3 q4 q5 : Int} (hA : Bk w A 40 #[.int .i64 p0, .int .i64 p1, .int .i64 p2, .int .i64 p3, .int .i64 p4, .int .i64 p5]) (hB : Bk w B 40 #[.int .i64 q0, .int .i64 q1, .int .i64 q2, .int .i64 q3, .int .i64 q4, .int .i64 q5]) (h : Below w.heap.size w w') :
    Below w.heap.size w w' ∧ w'.cell? ⟨A, 0, none⟩ = some (.int .i64 p0) ∧ w'.cell? ⟨A, 1, none⟩ = some (.int .i64 p1) ∧ w'.cell? ⟨A, 2, none⟩ = some (.int .i64 p2) ∧ w'.cell? ⟨A, 3, none⟩ = some (.int .i64 p3) ∧ w'.cell? ⟨A, 4, none⟩ = some (.int .i64 p4) ∧ w'.cell? ⟨A, 5, none⟩ = some (.int .i64 p5) ∧ w'.cell? ⟨B, 0, none⟩ = some (.int .i64 q0) ∧ w'.cell? ⟨B, 1, none⟩ = some (.int .i64 q1) ∧ w'.cell? ⟨B, 2, none⟩ = some (.int .i64 q2) ∧ w'.cell? ⟨B, 3, none⟩ = some (.int .i64 q3) ∧ w'.cell? ⟨B, 4, none⟩ = some (.int .i64 q4) ∧ w'.cell? ⟨B, 5, none⟩ = some (.int .i64 q5) := by
  have a := hA.below h
  have b := hB.below h
  exact ⟨h, a.cell 0, a.cell 1, a.cell 2, a.cell 3, a.cell 4, a.cell 5, b.cell 0, b.cell 1, b.cell 2, b.cell 3, b.cell 4, b.cell 5⟩
set_option maxRecDepth 100000 in
set_option maxHeartbeats 8000000 in
theorem adds_any (a0 a1 : Option Addr) (l0 c0 l1 c1 : Nat) (L0 L1 : List Ev) (p0 p1 p2 p3 p4 p5 q0 q1 q2 q3 q4 q5 : Int) (h0 : -9223372036854775808 ≤ p0 ∧ p0 ≤ 9223372036854775807) (h1 : -9223372036854775808 ≤ p1 ∧ p1 ≤ 9223372036854775807) (h2 : -9223372036854775808 ≤ p2 ∧ p2 ≤ 9223372036854775807) (h3 : -9223372036854775808 ≤ p3 ∧ p3 ≤ 9223372036854775807) (h4 : -9223372036854775808 ≤ p4 ∧ p4 ≤ 9223372036854775807) (h5 : -9223372036854775808 ≤ p5 ∧ p5 ≤ 9223372036854775807) (w : World)
    (hE0 : Evs w a0 l0 L0) (n0 : a0 = none → l0 = 0 ∧ c0 = 0) (hE1 : Evs w a1 l1 L1) (n1 : a1 = none → l1 = 0 ∧ c1 = 0) :
    Calls Try.prog 6 #[.slice a0 l0 c0, .slice a1 l1 c1, .agg #[.int .i64 p0, .int .i64 p1, .int .i64 p2, .int .i64 p3, .int .i64 p4, .int .i64 p5], .agg #[.int .i64 q0, .int .i64 q1, .int .i64 q2, .int .i64 q3, .int .i64 q4, .int .i64 q5]] w fun e w' => e = .returned (.bool true) ∧ Below w.heap.size w w' := by
  have HB2 : Below w.heap.size w ((w.alloc (.cells #[.int .i64 p0, .int .i64 p1, .int .i64 p2, .int .i64 p3, .int .i64 p4, .int .i64 p5] 40)).alloc (.cells #[.int .i64 q0, .int .i64 q1, .int .i64 q2, .int .i64 q3, .int .i64 q4, .int .i64 q5] 40)) := ((Below.refl _ _).alloc (Nat.le_refl _) _).alloc (by simp) _
  have hA : Bk ((w.alloc (.cells #[.int .i64 p0, .int .i64 p1, .int .i64 p2, .int .i64 p3, .int .i64 p4, .int .i64 p5] 40)).alloc (.cells #[.int .i64 q0, .int .i64 q1, .int .i64 q2, .int .i64 q3, .int .i64 q4, .int .i64 q5] 40)) w.heap.size 40 #[.int .i64 p0, .int .i64 p1, .int .i64 p2, .int .i64 p3, .int .i64 p4, .int .i64 p5] := (Bk.new w 40 #[.int .i64 p0, .int .i64 p1, .int .i64 p2, .int .i64 p3, .int .i64 p4, .int .i64 p5]).below ((Below.refl _ _).alloc (Nat.le_refl _) _)
  have hB : Bk ((w.alloc (.cells #[.int .i64 p0, .int .i64 p1, .int .i64 p2, .int .i64 p3, .int .i64 p4, .int .i64 p5] 40)).alloc (.cells #[.int .i64 q0, .int .i64 q1, .int .i64 q2, .int .i64 q3, .int .i64 q4, .int .i64 q5] 40)) (w.heap.size + 1) 40 #[.int .i64 q0, .int .i64 q1, .int .i64 q2, .int .i64 q3, .int .i64 q4, .int .i64 q5] := by
    have := Bk.new (w.alloc (.cells #[.int .i64 p0, .int .i64 p1, .int .i64 p2, .int .i64 p3, .int .i64 p4, .int .i64 p5] 40)) 40 #[.int .i64 q0, .int .i64 q1, .int .i64 q2, .int .i64 q3, .int .i64 q4, .int .i64 q5]
    simpa only [World.size_alloc] using this
  cases hf0 : fewL L0 with
  | false =>
    have HF := Lib.hid hf0
    clear hf0
    go_enter Try.func6, Try.ntmps6
    go_wp2_with fail
    refine (awake33 _).mono ?_
    rintro e w3 ⟨rfl, hb3⟩
    have HB3 := bl_then HB2 (Nat.le_refl _) hb3
    go_wp2_with fail
    refine (few_any _ _ _ _ _ (hE0.below HB3)).mono ?_
    rintro e w4 ⟨rfl, hb4⟩
    rw [HF.out]
    go_wp2
    go_ret
    exact ⟨rfl, bl_then HB3 (Nat.le_refl _) hb4⟩
  | true =>
    cases hf1 : fewL L1 with
    | false =>
      have HF := Lib.hid hf0
      have HG := Lib.hid hf1
      clear hf0 hf1
      go_enter Try.func6, Try.ntmps6
      go_wp2_with fail
      refine (awake33 _).mono ?_
      rintro e w3 ⟨rfl, hb3⟩
      have HB3 := bl_then HB2 (Nat.le_refl _) hb3
      go_wp2_with fail
      refine (few_any _ _ _ _ _ (hE0.below HB3)).mono ?_
      rintro e w4 ⟨rfl, hb4⟩
      have HB4 := bl_then HB3 (Nat.le_refl _) hb4
      rw [HF.out]
      go_wp2_with fail
      refine (few_any _ _ _ _ _ (hE1.below HB4)).mono ?_
      rintro e w5 ⟨rfl, hb5⟩
      rw [HG.out]
      go_wp2
      go_ret
      exact ⟨rfl, bl_then HB4 (Nat.le_refl _) hb5⟩
    | true =>
      have hn0 : l0 ≤ 30 := by
        unfold fewL at hf0
        rw [Bool.and_eq_true] at hf0
        have := of_decide_eq_true hf0.2
        have := hE0.1
        omega
      have hn1 : l1 ≤ 30 := by
        unfold fewL at hf1
        rw [Bool.and_eq_true] at hf1
        have := of_decide_eq_true hf1.2
        have := hE1.1
        omega
      have HF := Lib.hid hf0
      have HG := Lib.hid hf1
      clear hf0 hf1
      have hl0 := hE0.1
      have hl1 := hE1.1
      have hR0 := hE0.2.2.1
      have hR1 := hE1.2.2.1
      obtain ⟨i0, hi, hz0, hz1, hz2⟩ := info_parts Try.infoE
      have M1 : True := trivial
      have M2 : True := trivial
      go_enter Try.func6, Try.ntmps6
      go_wp2_with fail
      refine (awake33 _).mono ?_
      rintro e w3 ⟨rfl, hb3⟩
      have HB3 := bl_then HB2 (Nat.le_refl _) hb3
      replace hA := hA.below hb3
      replace hB := hB.below hb3
      go_wp2_with fail
      refine (few_any _ _ _ _ _ (hE0.below HB3)).mono ?_
      rintro e w4 ⟨rfl, hb4⟩
      have HB4 := bl_then HB3 (Nat.le_refl _) hb4
      replace hA := hA.below hb4
      replace hB := hB.below hb4
      rw [HF.out]
      go_wp2_with fail
      refine (few_any _ _ _ _ _ (hE1.below HB4)).mono ?_
      rintro e w5 ⟨rfl, hb5⟩
      have HB5 := bl_then HB4 (Nat.le_refl _) hb5
      replace hA := hA.below hb5
      replace hB := hB.below hb5
      rw [HG.out]
      clear HB2 HB3 HB4 hb3 hb4 hb5
      go_wp2_with fail
      refine (modes_any _ _ _ L0 _ (hE0.below HB5) (by omega)).mono ?_
      rintro e w6 ⟨rfl, hb6⟩
      have HB6 := bl_then HB5 (Nat.le_refl _) hb6
      replace hA := hA.below hb6
      replace hB := hB.below hb6
      go_wp2_with fail
      refine (modes_any _ _ _ L1 _ (hE1.below HB6) (by omega)).mono ?_
      rintro e w7 ⟨rfl, hb7⟩
      have HB7 := bl_then HB6 (Nat.le_refl _) hb7
      replace hA := hA.below hb7
      replace hB := hB.below hb7
      clear HB5 HB6 hb6 hb7
      have hO : Below w7.heap.size w7 ((w7.alloc (.cells #[.int .i64 (cn (pM 0) L0), .int .i64 (cn (pM 1) L0), .int .i64 (cn (pM 2) L0), .int .i64 (cn (pM 3) L0), .int .i64 (cn (pM 4) L0), .int .i64 (cn (pM 5) L0), .int .i64 (cn (pM 6) L0)] 42)).alloc (.cells #[.int .i64 (cn (pM 0) L1), .int .i64 (cn (pM 1) L1), .int .i64 (cn (pM 2) L1), .int .i64 (cn (pM 3) L1), .int .i64 (cn (pM 4) L1), .int .i64 (cn (pM 5) L1), .int .i64 (cn (pM 6) L1)] 42)) := ((Below.refl _ _).alloc (Nat.le_refl _) _).alloc (by simp) _
      have hX : Bk ((w7.alloc (.cells #[.int .i64 (cn (pM 0) L0), .int .i64 (cn (pM 1) L0), .int .i64 (cn (pM 2) L0), .int .i64 (cn (pM 3) L0), .int .i64 (cn (pM 4) L0), .int .i64 (cn (pM 5) L0), .int .i64 (cn (pM 6) L0)] 42)).alloc (.cells #[.int .i64 (cn (pM 0) L1), .int .i64 (cn (pM 1) L1), .int .i64 (cn (pM 2) L1), .int .i64 (cn (pM 3) L1), .int .i64 (cn (pM 4) L1), .int .i64 (cn (pM 5) L1), .int .i64 (cn (pM 6) L1)] 42)) w7.heap.size 42 #[.int .i64 (cn (pM 0) L0), .int .i64 (cn (pM 1) L0), .int .i64 (cn (pM 2) L0), .int .i64 (cn (pM 3) L0), .int .i64 (cn (pM 4) L0), .int .i64 (cn (pM 5) L0), .int .i64 (cn (pM 6) L0)] := (Bk.new w7 42 #[.int .i64 (cn (pM 0) L0), .int .i64 (cn (pM 1) L0), .int .i64 (cn (pM 2) L0), .int .i64 (cn (pM 3) L0), .int .i64 (cn (pM 4) L0), .int .i64 (cn (pM 5) L0), .int .i64 (cn (pM 6) L0)]).below ((Below.refl _ _).alloc (Nat.le_refl _) _)
      have hY : Bk ((w7.alloc (.cells #[.int .i64 (cn (pM 0) L0), .int .i64 (cn (pM 1) L0), .int .i64 (cn (pM 2) L0), .int .i64 (cn (pM 3) L0), .int .i64 (cn (pM 4) L0), .int .i64 (cn (pM 5) L0), .int .i64 (cn (pM 6) L0)] 42)).alloc (.cells #[.int .i64 (cn (pM 0) L1), .int .i64 (cn (pM 1) L1), .int .i64 (cn (pM 2) L1), .int .i64 (cn (pM 3) L1), .int .i64 (cn (pM 4) L1), .int .i64 (cn (pM 5) L1), .int .i64 (cn (pM 6) L1)] 42)) (w7.heap.size + 1) 42 #[.int .i64 (cn (pM 0) L1), .int .i64 (cn (pM 1) L1), .int .i64 (cn (pM 2) L1), .int .i64 (cn (pM 3) L1), .int .i64 (cn (pM 4) L1), .int .i64 (cn (pM 5) L1), .int .i64 (cn (pM 6) L1)] := by
        have := Bk.new (w7.alloc (.cells #[.int .i64 (cn (pM 0) L0), .int .i64 (cn (pM 1) L0), .int .i64 (cn (pM 2) L0), .int .i64 (cn (pM 3) L0), .int .i64 (cn (pM 4) L0), .int .i64 (cn (pM 5) L0), .int .i64 (cn (pM 6) L0)] 42)) 42 #[.int .i64 (cn (pM 0) L1), .int .i64 (cn (pM 1) L1), .int .i64 (cn (pM 2) L1), .int .i64 (cn (pM 3) L1), .int .i64 (cn (pM 4) L1), .int .i64 (cn (pM 5) L1), .int .i64 (cn (pM 6) L1)]
        simpa only [World.size_alloc] using this
      replace hA := hA.below hO
      replace hB := hB.below hO
      have HB8 := bl_then HB7 (Nat.le_refl _) hO
      have hE08 := hE0.below HB8
      have hE18 := hE1.below HB8
      have hsz8 : w7.heap.size + 2 = ((w7.alloc (.cells #[.int .i64 (cn (pM 0) L0), .int .i64 (cn (pM 1) L0), .int .i64 (cn (pM 2) L0), .int .i64 (cn (pM 3) L0), .int .i64 (cn (pM 4) L0), .int .i64 (cn (pM 5) L0), .int .i64 (cn (pM 6) L0)] 42)).alloc (.cells #[.int .i64 (cn (pM 0) L1), .int .i64 (cn (pM 1) L1), .int .i64 (cn (pM 2) L1), .int .i64 (cn (pM 3) L1), .int .i64 (cn (pM 4) L1), .int .i64 (cn (pM 5) L1), .int .i64 (cn (pM 6) L1)] 42)).heap.size := by simp
      unfold mdV
      have hBl0 : Below (w7.heap.size + 2) ((w7.alloc (.cells #[.int .i64 (cn (pM 0) L0), .int .i64 (cn (pM 1) L0), .int .i64 (cn (pM 2) L0), .int .i64 (cn (pM 3) L0), .int .i64 (cn (pM 4) L0), .int .i64 (cn (pM 5) L0), .int .i64 (cn (pM 6) L0)] 42)).alloc (.cells #[.int .i64 (cn (pM 0) L1), .int .i64 (cn (pM 1) L1), .int .i64 (cn (pM 2) L1), .int .i64 (cn (pM 3) L1), .int .i64 (cn (pM 4) L1), .int .i64 (cn (pM 5) L1), .int .i64 (cn (pM 6) L1)] 42)) ((w7.alloc (.cells #[.int .i64 (cn (pM 0) L0), .int .i64 (cn (pM 1) L0), .int .i64 (cn (pM 2) L0), .int .i64 (cn (pM 3) L0), .int .i64 (cn (pM 4) L0), .int .i64 (cn (pM 5) L0), .int .i64 (cn (pM 6) L0)] 42)).alloc (.cells #[.int .i64 (cn (pM 0) L1), .int .i64 (cn (pM 1) L1), .int .i64 (cn (pM 2) L1), .int .i64 (cn (pM 3) L1), .int .i64 (cn (pM 4) L1), .int .i64 (cn (pM 5) L1), .int .i64 (cn (pM 6) L1)] 42)) := Below.refl _ _
      clear HB7 hO
      go_wp2_with (first
        | (at_builtin; (have m1 := M1; clear M1 m1); refine wpList_want rfl fun K hK => ?_; refine wp_append_ev _ _ 38 rfl (w7.heap.size + 2) 68 i0 _ 104 Try.underlying38 hi hz0 hz1 hz2 rfl _ 0 [] rfl (World.ownsRow_nil _ _ _ _) a0 l0 c0 L0 rfl hE08 n0 (by unfold maxLen; omega) (by omega) (by rw [hsz8]; exact Nat.le_refl _) ?_; intro v1 wA hown1 hgr1; refine hK _ _ ?_; clear hK K; rw [Nat.zero_add, List.nil_append] at hown1; have hBlA := hBl0.grown hgr1 (by rw [hsz8]; exact Nat.le_refl _) (fun k h => by cases h))
        | (at_builtin; (have m2 := M2; clear M2 m2); refine wpList_want rfl fun K hK => ?_; refine wp_append_ev _ _ 38 rfl (w7.heap.size + 2) 68 i0 _ 104 Try.underlying38 hi hz0 hz1 hz2 rfl _ l0 L0 rfl hown1 a1 l1 c1 L1 rfl (hE18.below (by rw [← hsz8]; exact hBlA)) n1 (by unfold maxLen; omega) (by omega) (by have := hBlA.size; omega) ?_; intro v2 wB hown2 hgr2; refine hK _ _ ?_; clear hK K; have hBlB := hBlA.grown hgr2 (by have := hBlA.size; omega) (fun k h => (hown1.lt k h).1)))
      have hRR : ∀ x ∈ L0 ++ L1, x.rl ≤ maxLen := fun x hx => (List.mem_append.1 hx).elim (hR0 x) (hR1 x)
      obtain ⟨A2, c2, rfl, hE2, hn2⟩ := evs_own hown2 hRR
      rw [hsz8] at hBlB
      replace hA := hA.below hBlB
      replace hB := hB.below hBlB
      replace hX := hX.below hBlB
      replace hY := hY.below hBlB
      have HB9 := bl_then HB8 (Nat.le_refl _) hBlB
      clear hBlB hBlA hBl0 hown1 hown2 hgr1 hgr2 hE08 hE18 hsz8 HB8
      refine (modes_any _ _ _ (L0 ++ L1) _ hE2 (by omega)).mono ?_
      rintro e w9 ⟨rfl, hb9⟩
      unfold mdV
      have hO : Below w9.heap.size w9 (w9.alloc (.cells #[.int .i64 (cn (pM 0) (L0 ++ L1)), .int .i64 (cn (pM 1) (L0 ++ L1)), .int .i64 (cn (pM 2) (L0 ++ L1)), .int .i64 (cn (pM 3) (L0 ++ L1)), .int .i64 (cn (pM 4) (L0 ++ L1)), .int .i64 (cn (pM 5) (L0 ++ L1)), .int .i64 (cn (pM 6) (L0 ++ L1))] 42)) := (Below.refl _ _).alloc (Nat.le_refl _) _
      have hZ : Bk (w9.alloc (.cells #[.int .i64 (cn (pM 0) (L0 ++ L1)), .int .i64 (cn (pM 1) (L0 ++ L1)), .int .i64 (cn (pM 2) (L0 ++ L1)), .int .i64 (cn (pM 3) (L0 ++ L1)), .int .i64 (cn (pM 4) (L0 ++ L1)), .int .i64 (cn (pM 5) (L0 ++ L1)), .int .i64 (cn (pM 6) (L0 ++ L1))] 42)) w9.heap.size 42 #[.int .i64 (cn (pM 0) (L0 ++ L1)), .int .i64 (cn (pM 1) (L0 ++ L1)), .int .i64 (cn (pM 2) (L0 ++ L1)), .int .i64 (cn (pM 3) (L0 ++ L1)), .int .i64 (cn (pM 4) (L0 ++ L1)), .int .i64 (cn (pM 5) (L0 ++ L1)), .int .i64 (cn (pM 6) (L0 ++ L1))] := Bk.new _ _ _
      replace hA := (hA.below hb9).below hO
      replace hB := (hB.below hb9).below hO
      replace hX := (hX.below hb9).below hO
      replace hY := (hY.below hb9).below hO
      have HB10 := bl_then (bl_then HB9 (Nat.le_refl _) hb9) (Nat.le_refl _) hO
      clear HB9 hb9 hO hE2 hn2
      go_wp2_with fail
      generalize w9.alloc (.cells #[.int .i64 (cn (pM 0) (L0 ++ L1)), .int .i64 (cn (pM 1) (L0 ++ L1)), .int .i64 (cn (pM 2) (L0 ++ L1)), .int .i64 (cn (pM 3) (L0 ++ L1)), .int .i64 (cn (pM 4) (L0 ++ L1)), .int .i64 (cn (pM 5) (L0 ++ L1)), .int .i64 (cn (pM 6) (L0 ++ L1))] 42) = w10 at hA hB hX hY hZ HB10 ⊢
      go_loopw [32] (fun c wr => ∃ i : Nat, i ≤ 7 ∧ c = .int .i64 i ∧ Below w10.heap.size w10 wr) (fun c _ => 7 - (intOf c).toNat)
      case atStart => exact ⟨0, by omega, rfl, Below.refl _ _⟩
      case round =>
        obtain ⟨i, hi7, rfl, hbr⟩ := hrel
        by_cases hlt : i < 7
        · replace hX := hX.below hbr
          replace hY := hY.below hbr
          replace hZ := hZ.below hbr
          clear hA hB
          have hr0 : ∀ p, 0 ≤ cn p L0 ∧ cn p L0 ≤ 1000 := fun p => by have := cn_range p L0; omega
          have hr1 : ∀ p, 0 ≤ cn p L1 ∧ cn p L1 ≤ 1000 := fun p => by have := cn_range p L1; omega
          rcases (show i = 0 ∨ i = 1 ∨ i = 2 ∨ i = 3 ∨ i = 4 ∨ i = 5 ∨ i = 6 by omega) with rfl | rfl | rfl | rfl | rfl | rfl | rfl
          · have x0 := hX.cell 0
            have y0 := hY.cell 0
            have z0 := hZ.cell 0
            have s0 := cn_append (pM 0) L0 L1
            have r0 := hr0 (pM 0)
            have r1 := hr1 (pM 0)
            clear hX hY hZ hr0 hr1
            generalize cn (pM 0) L0 = x at x0 s0 r0
            generalize cn (pM 0) L1 = y at y0 s0 r1
            generalize cn (pM 0) (L0 ++ L1) = z at z0 s0
            subst s0
            have t1 : IntKind.i64.wrap (x + y) = x + y := by rw [IntKind.wrap_i64]; omega
            go_wp2_with fail
            go_big_quiet (fail)
            go_wp2
            go_roundw
            case rel => exact ⟨1, by omega, by first | rfl | go_num, bl_then hbr (Nat.le_refl _) (below_drewN _ _)⟩
            case measure => simp [intOf]
          · have x0 := hX.cell 1
            have y0 := hY.cell 1
            have z0 := hZ.cell 1
            have s0 := cn_append (pM 1) L0 L1
            have r0 := hr0 (pM 1)
            have r1 := hr1 (pM 1)
            clear hX hY hZ hr0 hr1
            generalize cn (pM 1) L0 = x at x0 s0 r0
            generalize cn (pM 1) L1 = y at y0 s0 r1
            generalize cn (pM 1) (L0 ++ L1) = z at z0 s0
            subst s0
            have t1 : IntKind.i64.wrap (x + y) = x + y := by rw [IntKind.wrap_i64]; omega
            go_wp2_with fail
            go_big_quiet (fail)
            go_wp2
            go_roundw
            case rel => exact ⟨2, by omega, by first | rfl | go_num, bl_then hbr (Nat.le_refl _) (below_drewN _ _)⟩
            case measure => simp [intOf]
          · have x0 := hX.cell 2
            have y0 := hY.cell 2
            have z0 := hZ.cell 2
            have s0 := cn_append (pM 2) L0 L1
            have r0 := hr0 (pM 2)
            have r1 := hr1 (pM 2)
            clear hX hY hZ hr0 hr1
            generalize cn (pM 2) L0 = x at x0 s0 r0
            generalize cn (pM 2) L1 = y at y0 s0 r1
            generalize cn (pM 2) (L0 ++ L1) = z at z0 s0
            subst s0
            have t1 : IntKind.i64.wrap (x + y) = x + y := by rw [IntKind.wrap_i64]; omega
            go_wp2_with fail
            go_big_quiet (fail)
            go_wp2
            go_roundw
            case rel => exact ⟨3, by omega, by first | rfl | go_num, bl_then hbr (Nat.le_refl _) (below_drewN _ _)⟩
            case measure => simp [intOf]
          · have x0 := hX.cell 3
            have y0 := hY.cell 3
            have z0 := hZ.cell 3
            have s0 := cn_append (pM 3) L0 L1
            have r0 := hr0 (pM 3)
            have r1 := hr1 (pM 3)
            clear hX hY hZ hr0 hr1
            generalize cn (pM 3) L0 = x at x0 s0 r0
            generalize cn (pM 3) L1 = y at y0 s0 r1
            generalize cn (pM 3) (L0 ++ L1) = z at z0 s0
            subst s0
            have t1 : IntKind.i64.wrap (x + y) = x + y := by rw [IntKind.wrap_i64]; omega
            go_wp2_with fail
            go_big_quiet (fail)
            go_wp2
            go_roundw
            case rel => exact ⟨4, by omega, by first | rfl | go_num, bl_then hbr (Nat.le_refl _) (below_drewN _ _)⟩
            case measure => simp [intOf]
          · have x0 := hX.cell 4
            have y0 := hY.cell 4
            have z0 := hZ.cell 4
            have s0 := cn_append (pM 4) L0 L1
            have r0 := hr0 (pM 4)
            have r1 := hr1 (pM 4)
            clear hX hY hZ hr0 hr1
            generalize cn (pM 4) L0 = x at x0 s0 r0
            generalize cn (pM 4) L1 = y at y0 s0 r1
            generalize cn (pM 4) (L0 ++ L1) = z at z0 s0
            subst s0
            have t1 : IntKind.i64.wrap (x + y) = x + y := by rw [IntKind.wrap_i64]; omega
            go_wp2_with fail
            go_big_quiet (fail)
            go_wp2
            go_roundw
            case rel => exact ⟨5, by omega, by first | rfl | go_num, bl_then hbr (Nat.le_refl _) (below_drewN _ _)⟩
            case measure => simp [intOf]
          · have x0 := hX.cell 5
            have y0 := hY.cell 5
            have z0 := hZ.cell 5
            have s0 := cn_append (pM 5) L0 L1
            have r0 := hr0 (pM 5)
            have r1 := hr1 (pM 5)
            clear hX hY hZ hr0 hr1
            generalize cn (pM 5) L0 = x at x0 s0 r0
            generalize cn (pM 5) L1 = y at y0 s0 r1
            generalize cn (pM 5) (L0 ++ L1) = z at z0 s0
            subst s0
            have t1 : IntKind.i64.wrap (x + y) = x + y := by rw [IntKind.wrap_i64]; omega
            go_wp2_with fail
            go_big_quiet (fail)
            go_wp2
            go_roundw
            case rel => exact ⟨6, by omega, by first | rfl | go_num, bl_then hbr (Nat.le_refl _) (below_drewN _ _)⟩
            case measure => simp [intOf]
          · have x0 := hX.cell 6
            have y0 := hY.cell 6
            have z0 := hZ.cell 6
            have s0 := cn_append (pM 6) L0 L1
            have r0 := hr0 (pM 6)
            have r1 := hr1 (pM 6)
            clear hX hY hZ hr0 hr1
            generalize cn (pM 6) L0 = x at x0 s0 r0
            generalize cn (pM 6) L1 = y at y0 s0 r1
            generalize cn (pM 6) (L0 ++ L1) = z at z0 s0
            subst s0
            have t1 : IntKind.i64.wrap (x + y) = x + y := by rw [IntKind.wrap_i64]; omega
            go_wp2_with fail
            go_big_quiet (fail)
            go_wp2
            go_roundw
            case rel => exact ⟨7, by omega, by first | rfl | go_num, bl_then hbr (Nat.le_refl _) (below_drewN _ _)⟩
            case measure => simp [intOf]
        · obtain rfl : i = 7 := by omega
          have hAd : Bk wr.drew w.heap.size 40 #[.int .i64 p0, .int .i64 p1, .int .i64 p2, .int .i64 p3, .int .i64 p4, .int .i64 p5] := Bk.below (w' := wr) hA hbr
          have hBd : Bk wr.drew (w.heap.size + 1) 40 #[.int .i64 q0, .int .i64 q1, .int .i64 q2, .int .i64 q3, .int .i64 q4, .int .i64 q5] := Bk.below (w' := wr) hB hbr
          have HBd : Below w.heap.size w wr.drew := bl_then (bl_then HB10 (Nat.le_refl _) hbr) (Nat.le_refl _) (below_drew _)
          have hE0d := hE0.below HBd
          have hE1d := hE1.below HBd
          have hS0 := adds_S hAd hBd (Below.refl _ _)
          have S1 : True := trivial
          have S2 : True := trivial
          have O1 : True := trivial
          have O2 : True := trivial
          have O3 : True := trivial
          have D1 : True := trivial
          have D2 : True := trivial
          have D3 : True := trivial
          have D4 : True := trivial
          clear hA hB hX hY hZ HB10 hbr hlt hE0 hE1
          go_wp2_with fail
          first | go_region_held3 (fun w' => Below wr.drew.heap.size wr.drew w' ∧ w'.cell? ⟨w.heap.size, 0, none⟩ = some (.int .i64 p0) ∧ w'.cell? ⟨w.heap.size, 1, none⟩ = some (.int .i64 p1) ∧ w'.cell? ⟨w.heap.size, 2, none⟩ = some (.int .i64 p2) ∧ w'.cell? ⟨w.heap.size, 3, none⟩ = some (.int .i64 p3) ∧ w'.cell? ⟨w.heap.size, 4, none⟩ = some (.int .i64 p4) ∧ w'.cell? ⟨w.heap.size, 5, none⟩ = some (.int .i64 p5) ∧ w'.cell? ⟨w.heap.size + 1, 0, none⟩ = some (.int .i64 q0) ∧ w'.cell? ⟨w.heap.size + 1, 1, none⟩ = some (.int .i64 q1) ∧ w'.cell? ⟨w.heap.size + 1, 2, none⟩ = some (.int .i64 q2) ∧ w'.cell? ⟨w.heap.size + 1, 3, none⟩ = some (.int .i64 q3) ∧ w'.cell? ⟨w.heap.size + 1, 4, none⟩ = some (.int .i64 q4) ∧ w'.cell? ⟨w.heap.size + 1, 5, none⟩ = some (.int .i64 q5))
            (first
              | exact hS0
              | assumption
              | exact adds_S hAd hBd hbS
              | exact adds_S hAd hBd (bl_then (And.left (by assumption)) (Nat.le_refl _) hb))
            (first
              | ((have m := S1; clear S1 m); refine step_want (by rfl) ?_; refine wp_append_ev _ _ 38 rfl (wr.drew.heap.size) 68 i0 _ 104 Try.underlying38 hi hz0 hz1 hz2 rfl _ 0 [] rfl (World.ownsRow_nil _ _ _ _) a0 l0 c0 L0 rfl (by exact hE0d.below (And.left (by assumption))) n0 (by unfold maxLen; omega) (by omega) (And.left (by assumption : Below wr.drew.heap.size wr.drew _ ∧ _)).size ?_; intro v1 wA hown1 hgr1; rw [Nat.zero_add, List.nil_append] at hown1; have hbS : Below wr.drew.heap.size wr.drew wA := Below.grown (And.left (by assumption)) hgr1 (And.left (by assumption : Below wr.drew.heap.size wr.drew _ ∧ _)).size (fun k h => by cases h))
              | ((have m := S2; clear S2 m); refine step_want (by rfl) ?_; refine wp_append_ev _ _ 38 rfl (wr.drew.heap.size) 68 i0 _ 104 Try.underlying38 hi hz0 hz1 hz2 rfl _ l0 L0 rfl hown1 a1 l1 c1 L1 rfl (by exact hE1d.below (And.left (by assumption))) n1 (by unfold maxLen; omega) (by omega) (And.left (by assumption : Below wr.drew.heap.size wr.drew _ ∧ _)).size ?_; intro v2 wB hown2 hgr2; have hbS : Below wr.drew.heap.size wr.drew wB := Below.grown (And.left (by assumption)) hgr2 (And.left (by assumption : Below wr.drew.heap.size wr.drew _ ∧ _)).size (fun k h => (hown1.lt k h).1); obtain ⟨A2, c2, rfl, hE2, hn2⟩ := evs_own hown2 hRR)
              | (go_at_call 29; (have m := O1; clear O1 m); refine (of_exp a0 l0 c0 L0 _ (by exact hE0d.below (And.left (by assumption))) (by omega)).mono ?_; rintro e wn ⟨rfl, hb⟩; (try replace hown1 := own_below hown1 hb); (try replace hE2 := hE2.below hb); (try clear hbS))
              | (go_at_call 29; (have m := O2; clear O2 m); refine (of_exp a1 l1 c1 L1 _ (by exact hE1d.below (And.left (by assumption))) (by omega)).mono ?_; rintro e wn ⟨rfl, hb⟩; (try replace hown1 := own_below hown1 hb); (try replace hE2 := hE2.below hb); (try clear hbS))
              | (go_at_call 29; (have m := O3; clear O3 m); refine (of_exp _ _ _ (L0 ++ L1) _ (by exact hE2) (by omega)).mono ?_; rintro e wn ⟨rfl, hb⟩; (try clear hbS))
              | (go_at_call 28; (have m := D1; clear D1 m); refine (add_tal L0 L1 (by omega) (by omega) _).mono ?_; rintro e wn ⟨rfl, hb⟩; (try replace hown1 := own_below hown1 hb); (try replace hE2 := hE2.below hb); (try clear hbS))
              | (go_at_call 28; (have m := D2; clear D2 m); refine (add_any p0 p1 p2 p3 p4 p5 q0 q1 q2 q3 q4 q5 _).mono ?_; rintro e wn ⟨rfl, hb⟩; (try clear hbS))
              | (go_at_call 28; (have m := D3; clear D3 m); refine (add_rev p0 p1 p2 p3 p4 p5 q0 q1 q2 q3 q4 q5 _).mono ?_; rintro e wn ⟨rfl, hb⟩; (try clear hbS))
              | (go_at_call 28; (have m := D4; clear D4 m); refine (add_zero_any p0 p1 p2 p3 p4 p5 h0 h1 h2 h3 h4 h5 _).mono ?_; rintro e wn ⟨rfl, hb⟩; (try clear hbS)))
          have hfin := bl_then HBd (Nat.le_refl _) (And.left (by assumption : Below wr.drew.heap.size wr.drew wn ∧ _))
          go_wp2
          go_ret
          exact ⟨rfl, hfin⟩
end Go.Proofs.Ytgpkidffhglngaa
