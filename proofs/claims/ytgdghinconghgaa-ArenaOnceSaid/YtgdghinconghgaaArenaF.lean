/- The walk of ArenaFull. No condition. -/
import Derived.Test.YtgdghinconghgaaArenaU
set_option linter.unusedVariables false
set_option linter.unusedSimpArgs false
namespace Go.Proofs.Ytgdghinconghgaa
open Go.RowKit (wrap32 wrap64)
open Go.RowKit
set_option maxRecDepth 100000 in
set_option maxHeartbeats 1000000 in
theorem awake05 (w : World) : Calls Try.prog 25 #[] w fun e w' => e = .returned (.bool true) ∧ Below w.heap.size w w' := by
  go_enter Try.func25, Try.ntmps25
  go_wp2_with fail
  refine (anew_any 2 2 (.inr rfl) (by omega) _).mono ?_
  rintro e w1 ⟨g, h, rfl, hA, hg, hh, hb1⟩
  replace hA : Ar w1 g h [⟨0, false, 1⟩, ⟨0, false, 2⟩] ((0 : Nat) : Int) 0 := hA
  go_wp2_with fail
  refine (atake_yes g h _ 0 ⟨0, false, 1⟩ 0 7 _ hA rfl (by decide) (by decide)).mono ?_
  rintro e w2 ⟨rfl, hA2, k2⟩
  have hb2 := bl_keep hb1 k2 (fun i hi => by rcases hi with rfl | rfl <;> omega)
  replace hA2 : Ar w2 g h [⟨7, true, 0⟩, ⟨0, false, 2⟩] ((1 : Nat) : Int) 1 := hA2
  go_wp2_with fail
  refine (atake_yes g h _ 1 ⟨0, false, 2⟩ 1 8 _ hA2 rfl (by decide) (by decide)).mono ?_
  rintro e w3 ⟨rfl, hA3, k3⟩
  have hb3 := bl_keep hb2 k3 (fun i hi => by rcases hi with rfl | rfl <;> omega)
  replace hA3 : Ar w3 g h [⟨7, true, 0⟩, ⟨8, true, 0⟩] 2 2 := hA3
  go_wp2_with fail
  refine (afree_yes g h _ 0 ⟨7, true, 0⟩ 2 2 _ hA3 rfl rfl (by decide) (by decide)).mono ?_
  rintro e w4 ⟨rfl, hA4, k4⟩
  have hb4 := bl_keep hb3 k4 (fun i hi => by rcases hi with rfl | rfl <;> omega)
  replace hA4 : Ar w4 g h [⟨0, false, 2⟩, ⟨8, true, 0⟩] ((0 : Nat) : Int) 1 := hA4
  go_wp2_with fail
  refine (atake_yes g h _ 0 ⟨0, false, 2⟩ 1 9 _ hA4 rfl (by decide) (by decide)).mono ?_
  rintro e w5 ⟨rfl, hA5, k5⟩
  have hb5 := bl_keep hb4 k5 (fun i hi => by rcases hi with rfl | rfl <;> omega)
  replace hA5 : Ar w5 g h [⟨9, true, 0⟩, ⟨8, true, 0⟩] 2 2 := hA5
  have hget := aget_any g h _ 2 2 0 w5 hA5 (by decide)
  have hu : usA [⟨9, true, 0⟩, ⟨8, true, 0⟩] 0 = some ⟨9, true, 0⟩ := rfl
  rw [hu] at hget
  unfold xOf at hget
  have HG := Lib.hid hget
  clear hget
  go_wp2_with fail
  refine HG.out.mono ?_
  rintro e w6 ⟨rfl, rfl⟩
  dsimp only [Option.isSome_some]
  go_wp2
  go_ret
  exact ⟨rfl, hb5⟩
def fullTo (N k : Nat) : List Pl := (List.range N).map fun j => if j < k then ⟨(j : Int) * 2, true, 0⟩ else ⟨0, false, j + 1⟩
theorem fullTo_len (N k : Nat) : (fullTo N k).length = N := by unfold fullTo; simp
theorem fullTo_get (N k i : Nat) (hi : i < N) : (fullTo N k)[i]? = some (if i < k then ⟨(i : Int) * 2, true, 0⟩ else ⟨0, false, i + 1⟩) := by unfold fullTo; simp [hi]
theorem fullTo_zero (N : Nat) : fullTo N 0 = freshTo N N := by
  apply List.ext_getElem?
  intro i
  by_cases hi : i < N
  · rw [fullTo_get N 0 i hi, freshTo_get N N i hi, if_neg (by omega), if_pos hi]
  · rw [List.getElem?_eq_none (by rw [fullTo_len]; omega), List.getElem?_eq_none (by rw [freshTo_len]; omega)]
theorem fullTo_set (N k : Nat) (hk : k < N) : (fullTo N k).set k ⟨(k : Int) * 2, true, 0⟩ = fullTo N (k + 1) := by
  apply List.ext_getElem?
  intro i
  by_cases hi : i < N
  · rw [fullTo_get N (k + 1) i hi]
    by_cases e : i = k
    · subst e
      rw [List.getElem?_set_self (by rw [fullTo_len]; exact hi), if_pos (by omega)]
    · rw [List.getElem?_set_ne (fun q => e q.symm), fullTo_get N k i hi]
      congr 1
      by_cases h1 : i < k
      · rw [if_pos h1, if_pos (by omega)]
      · rw [if_neg h1, if_neg (by omega)]
  · rw [List.getElem?_eq_none (by rw [List.length_set, fullTo_len]; omega), List.getElem?_eq_none (by rw [fullTo_len]; omega)]
theorem used_all (L : List Pl) (h : ∀ (j : Nat) (p : Pl), L[j]? = some p → p.used = true) : ∀ k, k ≤ L.length → (usedTo L k).length = k := by
  intro k
  induction k with
  | zero => intro _; rfl
  | succ k ih =>
    intro hk
    have hp : L[k]? = some L[k] := List.getElem?_eq_getElem (by omega)
    have hu := usA_at L k _ hp
    rw [if_pos (h k _ hp)] at hu
    show (match usA L k with | some p => usedTo L k ++ [(k, p.x)] | none => usedTo L k).length = k + 1
    rw [hu]
    simp [ih (by omega)]
set_option maxRecDepth 100000 in
set_option maxHeartbeats 4000000 in
theorem afull_any (n i : Int) (w : World) : Calls Try.prog 6 #[.int .i64 n, .int .i64 i] w fun e w' => e = .returned (.bool true) ∧ Below w.heap.size w w' := by
  by_cases hn0 : n < 0
  · go_enter Try.func6, Try.ntmps6
    go_wp2_with fail
    refine (awake05 _).mono ?_
    rintro e w1 ⟨rfl, hb1⟩
    go_wp2
    go_ret
    exact ⟨rfl, hb1⟩
  by_cases hn1 : 60 < n
  · go_enter Try.func6, Try.ntmps6
    go_wp2_with fail
    refine (awake05 _).mono ?_
    rintro e w1 ⟨rfl, hb1⟩
    go_wp2
    go_ret
    exact ⟨rfl, hb1⟩
  obtain ⟨N, rfl⟩ : ∃ N : Nat, n = N := ⟨n.toNat, by omega⟩
  have hN : N ≤ 60 := by omega
  go_enter Try.func6, Try.ntmps6
  go_wp2_with fail
  refine (awake05 _).mono ?_
  rintro e w1 ⟨rfl, hb1⟩
  go_wp2_with fail
  refine (anew_any N N (.inr rfl) (by omega) _).mono ?_
  rintro e w2 ⟨g, h, rfl, hA, hg, hh, hb2⟩
  replace hb2 := bl_then hb1 (Nat.le_refl _) hb2
  have hs1 := hb1.size
  have hg0 : w.heap.size ≤ g := by omega
  have hh0 : w.heap.size ≤ h := by omega
  clear hg hh hb1 hs1
  rw [← fullTo_zero] at hA
  go_wp2_with fail
  go_loopw [26] (fun c wr => ∃ k : Nat, k ≤ N ∧ c = .int .i64 k ∧ Ar wr g h (fullTo N k) k k ∧ Below w.heap.size w wr) (fun c _ => N - (intOf c).toNat)
  case atStart => exact ⟨0, by omega, rfl, hA, hb2⟩
  case round =>
    clear hA hb2
    obtain ⟨k, hk, rfl, hA, HB⟩ := hrel
    by_cases hlt : k < N
    · have hp := fullTo_get N k k hlt
      rw [if_neg (by omega)] at hp
      have t1 : IntKind.i64.wrap ((k : Int) * 2) = (k : Int) * 2 := by rw [IntKind.wrap_i64]; omega
      have hset := Lib.hid (fullTo_set N k hlt)
      have hlen := fullTo_len N k
      go_wp2_with fail
      refine (atake_yes g h _ k _ k ((k : Int) * 2) _ hA hp (by omega) (by omega)).mono ?_
      rintro e w3 ⟨rfl, hA3, k3⟩
      rw [hset.out] at hA3
      have hb3 := bl_keep HB k3 (fun i hi => by rcases hi with rfl | rfl <;> omega)
      clear hp hset hA
      go_wp2
      go_roundw
      case rel => exact ⟨k + 1, by omega, by go_num, hA3, hb3⟩
      case measure => simp [intOf]; omega
    · obtain rfl : k = N := by omega
      have hlen := fullTo_len k k
      have hAn : Ar wr g h (fullTo k k) k (fullTo k k).length := by rw [fullTo_len]; exact hA
      go_wp2_with fail
      refine (atake_no g h _ k 1 _ hAn (by omega)).mono ?_
      rintro e w3 ⟨rfl, hA3, k3⟩
      have hb3 := bl_keep HB k3 (fun i hi => by rcases hi with rfl | rfl <;> omega)
      clear hA hAn
      have hleft := aleft_any g h _ k _ w3 hA3 (by omega) (by omega)
      rw [show (((fullTo k k).length : Nat) : Int) - ((fullTo k k).length : Nat) = 0 by omega] at hleft
      have HL := Lib.hid hleft
      clear hleft
      go_wp2_with fail
      refine HL.out.mono ?_
      rintro e w4 ⟨rfl, m, hw4⟩
      have hA4 : Ar w4 g h (fullTo k k) k k := by rw [hw4]; have := hA3.below (below_drewN w3 m); rw [hlen] at this; exact this
      have hb4 : Below w.heap.size w w4 := by rw [hw4]; exact bl_then hb3 (Nat.le_refl _) (below_drewN _ _)
      clear hw4 hA3 hb3 HL k3 HB
      by_cases hi : 0 ≤ i ∧ i < k
      · obtain ⟨j, rfl⟩ : ∃ j : Nat, i = j := ⟨i.toNat, by omega⟩
        have hjk : j < k := by omega
        have hp := fullTo_get k k j hjk
        rw [if_pos hjk] at hp
        go_wp2_with fail
        refine (afree_yes g h _ j _ k k _ hA4 hp rfl (by omega) (by omega)).mono ?_
        rintro e w5 ⟨rfl, hA5, k5⟩
        have hb5 := bl_keep hb4 k5 (fun i hi => by rcases hi with rfl | rfl <;> omega)
        have hp5 : ((fullTo k k).set j ⟨0, false, k⟩)[j]? = some ⟨0, false, k⟩ := List.getElem?_set_self (by omega)
        go_wp2_with fail
        refine (atake_yes g h _ j _ ((k : Int) - 1) 99 _ hA5 hp5 (by rw [List.length_set]; omega) (by rw [List.length_set]; omega)).mono ?_
        rintro e w6 ⟨rfl, hA6, k6⟩
        have hb6 := bl_keep hb5 k6 (fun i hi => by rcases hi with rfl | rfl <;> omega)
        rw [List.set_set] at hA6
        have hp6 : ((fullTo k k).set j ⟨99, true, 0⟩)[j]? = some ⟨99, true, 0⟩ := List.getElem?_set_self (by omega)
        have hl6 : ((fullTo k k).set j ⟨99, true, 0⟩).length = k := by rw [List.length_set]; exact hlen
        have hall : ∀ (q : Nat) (p : Pl), ((fullTo k k).set j ⟨99, true, 0⟩)[q]? = some p → p.used = true := by
          intro q p hq
          by_cases e : q = j
          · subst e; rw [hp6] at hq; injection hq with hq; rw [← hq]
          · rw [List.getElem?_set_ne (fun z => e z.symm)] at hq
            by_cases hqk : q < k
            · rw [fullTo_get k k q hqk, if_pos hqk] at hq; injection hq with hq; rw [← hq]
            · rw [List.getElem?_eq_none (by omega)] at hq; cases hq
        have hus := usA_at _ j _ hp6
        rw [if_pos rfl] at hus
        have hget := aget_any g h _ _ _ j w6 hA6 (by omega)
        rw [hus] at hget
        unfold xOf at hget
        have hlenA := alen_any g h _ _ _ w6 hA6 (by omega)
        rw [used_all _ hall _ (Nat.le_refl _), hl6] at hlenA
        have HG := Lib.hid hget
        have HLN := Lib.hid hlenA
        clear hget hlenA hall hus hp6 hl6 hp5 hA5 hp hA4 hA6
        go_wp2_with fail
        refine HG.out.mono ?_
        rintro e _ ⟨rfl, rfl⟩
        dsimp only [Option.isSome_some]
        go_wp2_with fail
        refine HLN.out.mono ?_
        rintro e w7 ⟨rfl, hb7⟩
        go_wp2
        go_ret
        exact ⟨rfl, bl_then hb6 (Nat.le_refl _) hb7⟩
      · have hus := usA_out (fullTo k k) i (by omega)
        go_wp2_with fail
        refine (afree_no g h _ k k i _ hA4 hus (by omega)).mono ?_
        rintro e w5 ⟨rfl, hA5, k5⟩
        have hb5 := bl_keep hb4 k5 (fun i hi => by rcases hi with rfl | rfl <;> omega)
        clear hus
        by_cases h0 : i < 0
        · clear hi
          go_wp2
          go_ret
          exact ⟨rfl, hb5⟩
        · have h1 : (k : Int) ≤ i := by omega
          clear hi
          go_wp2
          go_ret
          exact ⟨rfl, hb5⟩
end Go.Proofs.Ytgdghinconghgaa
