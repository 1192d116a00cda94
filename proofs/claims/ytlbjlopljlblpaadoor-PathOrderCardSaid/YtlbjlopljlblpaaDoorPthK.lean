/- Nodes: Key, by the program and by the reference. No condition. -/
import Derived.Test.YtlbjlopljlblpaaDoorPthF
set_option linter.unusedVariables false
set_option linter.unusedSimpArgs false
namespace Go.Proofs.YtlbjlopljlblpaaDoor
open Go.RowKit (wrap32 wrap64)
open Go.RowKit Go.Shelf
theorem okTo_at (p : Pt) : ∀ (n k : Nat), k < n → okTo p n = true → okAt p k = true
  | 0, k, h, _ => absurd h (by omega)
  | n + 1, k, h, ho => by
    unfold okTo at ho
    rw [Bool.and_eq_true] at ho
    by_cases e : k = n
    · subst e; exact ho.2
    · exact okTo_at p n k (by omega) ho.1
theorem mayP_num (p : Pt) (h : mayP p = true) (k : Nat) (hk : k < 4) : 0 ≤ num p k ∧ num p k ≤ 999 ∧ (p.dep ≤ k → num p k = 0) := by
  unfold mayP at h
  rw [Bool.and_eq_true] at h
  have := okTo_at p 4 k hk h.2
  unfold okAt at this
  simp at this
  omega
def keyR (p : Pt) : Nat → Int
  | 0 => 0
  | k + 1 => keyR p k * 1001 + num p k + 1
def keyP (p : Pt) : Int := if mayP p then keyR p (depN p) else 0
theorem keyR_range (p : Pt) (h : mayP p = true) : ∀ k, k ≤ 4 → 0 ≤ keyR p k ∧ keyR p k < 1001 ^ k
  | 0, _ => by unfold keyR; omega
  | k + 1, hk => by
    have ih := keyR_range p h k (by omega)
    have hn := mayP_num p h k (by omega)
    unfold keyR
    rw [Int.pow_succ]
    omega
theorem keyR_small (p : Pt) (h : mayP p = true) (k : Nat) (hk : k < 4) : 0 ≤ keyR p k ∧ keyR p k < 1003003001 := by
  have ih := keyR_range p h k (by omega)
  obtain rfl | rfl | rfl | rfl : k = 0 ∨ k = 1 ∨ k = 2 ∨ k = 3 := by omega
  all_goals (constructor; exact ih.1; have := ih.2; simp at this; omega)
set_option maxRecDepth 100000 in
set_option maxHeartbeats 2000000 in
theorem pkey_any (p : Pt) (w : World) : Calls Tryd.prog 10 #[.agg (ptA p)] w fun e w' => e = .returned (.int .u64 (keyP p)) ∧ Below w.heap.size w w' := by
  have hO : Below w.heap.size w (w.alloc (.cells (ptA p) 24)) := (Below.refl _ _).alloc (Nat.le_refl _) _
  have hb := Bk.new w 24 (ptA p)
  have c0 := hb.cell 0
  have c1 := hb.cell 1
  have c2 := hb.cell 2
  have c3 := hb.cell 3
  have c4 := hb.cell 4
  have hm := fun W => pmay_any p W
  unfold keyP
  cases hmp : mayP p with
  | false =>
    rw [hmp] at hm
    have HM := Lib.hid hm
    clear hm hmp hb
    go_enter Tryd.func10, Tryd.ntmps10
    go_wp2_with (go_at_call 9; refine (HM.out _).mono ?_; rintro e w1 ⟨rfl, hb1⟩)
    go_ret
    exact ⟨rfl, bl_then hO (Nat.le_refl _) hb1⟩
  | true =>
    rw [hmp] at hm
    rw [if_pos rfl]
    obtain ⟨D, hD, hD1, hD4⟩ := mayP_dep p hmp
    have hdp : depN p = D := by unfold depN; omega
    rw [hdp]
    have hrg := keyR_small p hmp
    have hnum := mayP_num p hmp
    have HM := Lib.hid hm
    have HRG := Lib.hid hrg
    have HNUM := Lib.hid hnum
    have hnm := fun k h => ptA_num p k h
    obtain ⟨x0, x1, x2, x3, x4⟩ := p
    dsimp only at hD
    subst hD
    have q1 : (D : Int) ≤ 4 := by omega
    clear hm hmp hrg hnum hdp
    go_enter Tryd.func10, Tryd.ntmps10
    go_wp2_with (go_at_call 9; refine (HM.out _).mono ?_; rintro e w1 ⟨rfl, hb1⟩; have k1 := hb.below hb1; have e4 := k1.cell 4; clear c0 c1 c2 c3 c4)
    have HB := bl_then hO (Nat.le_refl _) hb1
    clear hO hb1 hb
    go_loop [3, 5, 15] (fun v _ c => ∃ k : Nat, k ≤ D ∧ c = .int .i64 k ∧ v = .int .u64 (keyR ⟨x0, x1, x2, x3, D⟩ k)) (fun _ _ c => D - (intOf c).toNat)
    case atStart => exact ⟨0, by omega, rfl, rfl⟩
    case round =>
      obtain ⟨k, hk, rfl, rfl⟩ := hrel
      by_cases hlt : k < D
      · have hr := HRG.out k (by omega)
        have hn := HNUM.out k (by omega)
        have g1 := k1.cell k
        rw [hnm k (by omega)] at g1
        have hs : keyR ⟨x0, x1, x2, x3, D⟩ (k + 1) = keyR ⟨x0, x1, x2, x3, D⟩ k * 1001 + num ⟨x0, x1, x2, x3, D⟩ k + 1 := rfl
        generalize num ⟨x0, x1, x2, x3, (D : Int)⟩ k = x at g1 hs hn
        generalize keyR ⟨x0, x1, x2, x3, (D : Int)⟩ k = y at hs hr ⊢
        have HS := Lib.hid hs
        have t1 : IntKind.u64.wrap (y * 1001) = y * 1001 := by rw [IntKind.wrap_u64]; omega
        have t2 : IntKind.u64.wrap x = x := by rw [IntKind.wrap_u64]; omega
        have t3 : IntKind.u64.wrap (y * 1001 + x) = y * 1001 + x := by rw [IntKind.wrap_u64]; omega
        have t4 : IntKind.u64.wrap (y * 1001 + x + 1) = y * 1001 + x + 1 := by rw [IntKind.wrap_u64]; omega
        clear hs hr hn
        go_wp2
        go_round
        case rel => exact ⟨k + 1, by omega, by go_num, by rw [HS.out]⟩
        case measure => simp [intOf]; omega
      · obtain rfl : k = D := by omega
        go_wp2
        go_ret
        exact ⟨rfl, HB⟩
set_option maxRecDepth 100000 in
set_option maxHeartbeats 2000000 in
theorem rkey_any (p : Pt) (w : World) : Calls Tryd.prog 31 #[.agg (ptA p)] w fun e w' => e = .returned (.int .u64 (keyP p)) ∧ Below w.heap.size w w' := by
  have hO : Below w.heap.size w (w.alloc (.cells (ptA p) 24)) := (Below.refl _ _).alloc (Nat.le_refl _) _
  have hb := Bk.new w 24 (ptA p)
  have c0 := hb.cell 0
  have c1 := hb.cell 1
  have c2 := hb.cell 2
  have c3 := hb.cell 3
  have c4 := hb.cell 4
  have hm := fun W => rpright_any p W
  unfold keyP
  cases hmp : mayP p with
  | false =>
    rw [hmp] at hm
    have HM := Lib.hid hm
    clear hm hmp hb
    go_enter Tryd.func31, Tryd.ntmps31
    go_wp2_with fail
    refine wp_loop_rounds 1 ?_
    rw [rounds_succ]
    go_wp2_with (go_at_call 16; refine (HM.out _).mono ?_; rintro e w1 ⟨rfl, hb1⟩)
    go_ret
    exact ⟨rfl, bl_then hO (Nat.le_refl _) hb1⟩
  | true =>
    rw [hmp] at hm
    rw [if_pos rfl]
    obtain ⟨D, hD, hD1, hD4⟩ := mayP_dep p hmp
    have hdp : depN p = D := by unfold depN; omega
    rw [hdp]
    have hrg := keyR_small p hmp
    have hnum := mayP_num p hmp
    have HM := Lib.hid hm
    have HRG := Lib.hid hrg
    have HNUM := Lib.hid hnum
    have hnm := fun k h => ptA_num p k h
    obtain ⟨x0, x1, x2, x3, x4⟩ := p
    dsimp only at hD
    subst hD
    have q1 : (D : Int) ≤ 4 := by omega
    clear hm hmp hrg hnum hdp c0 c1 c2 c3 c4
    go_enter Tryd.func31, Tryd.ntmps31
    go_wp2_with fail
    generalize w.alloc (.cells #[.int .i64 x0, .int .i64 x1, .int .i64 x2, .int .i64 x3, .int .i64 (D : Int)] 24) = w1 at hO hb ⊢
    go_loopw [3, 4] (fun v c wr => ∃ k : Nat, k ≤ D ∧ c = .int .i64 k ∧ v = .int .u64 (keyR ⟨x0, x1, x2, x3, D⟩ k) ∧ Bk wr w.heap.size 24 (ptA ⟨x0, x1, x2, x3, D⟩) ∧ Below w.heap.size w wr) (fun _ c _ => D - (intOf c).toNat)
    case atStart => exact ⟨0, by omega, rfl, rfl, hb, hO⟩
    case round =>
      clear hb hO
      obtain ⟨k, hk, rfl, rfl, hb, HB⟩ := hrel
      have c0 := hb.cell 0
      have c1 := hb.cell 1
      have c2 := hb.cell 2
      have c3 := hb.cell 3
      have c4 := hb.cell 4
      by_cases hlt : k < D
      · have hr := HRG.out k (by omega)
        have hn := HNUM.out k (by omega)
        have hnk := hnm k (by omega)
        have hlt4 : (k : Int) < 4 := by omega
        have hs : keyR ⟨x0, x1, x2, x3, D⟩ (k + 1) = keyR ⟨x0, x1, x2, x3, D⟩ k * 1001 + num ⟨x0, x1, x2, x3, D⟩ k + 1 := rfl
        generalize num ⟨x0, x1, x2, x3, (D : Int)⟩ k = x at hnk hs hn
        generalize keyR ⟨x0, x1, x2, x3, (D : Int)⟩ k = y at hs hr ⊢
        have HS := Lib.hid hs
        have HNK := Lib.hid hnk
        have t1 : IntKind.u64.wrap (y * 1001) = y * 1001 := by rw [IntKind.wrap_u64]; omega
        have t2 : IntKind.u64.wrap x = x := by rw [IntKind.wrap_u64]; omega
        have t3 : IntKind.u64.wrap (y * 1001 + x) = y * 1001 + x := by rw [IntKind.wrap_u64]; omega
        have t4 : IntKind.u64.wrap (y * 1001 + x + 1) = y * 1001 + x + 1 := by rw [IntKind.wrap_u64]; omega
        clear hs hr hn hnk
        go_wp2_with (go_at_call 16; refine (HM.out _).mono ?_; rintro e w2 ⟨rfl, hb2⟩; have k2 := hb.below hb2; have g1 := (k2.cell k).trans HNK.out; have g4 := k2.cell 4; clear c0 c1 c2 c3 c4)
        go_roundw
        case rel => exact ⟨k + 1, by omega, by go_num, by rw [HS.out], k2, bl_then HB (Nat.le_refl _) hb2⟩
        case measure => simp [intOf]; omega
      · obtain rfl : k = D := by omega
        go_wp2_with (go_at_call 16; refine (HM.out _).mono ?_; rintro e w2 ⟨rfl, hb2⟩; have k2 := hb.below hb2; have g4 := k2.cell 4; clear c0 c1 c2 c3 c4)
        go_ret
        exact ⟨rfl, bl_then HB (Nat.le_refl _) hb2⟩
end Go.Proofs.YtlbjlopljlblpaaDoor
