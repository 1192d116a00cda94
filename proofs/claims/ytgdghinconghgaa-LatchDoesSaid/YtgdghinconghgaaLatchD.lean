/- The contracts of package latch: Held, Free, no set; the example. No condition. -/
import Derived.Test.YtgdghinconghgaaLatchC
set_option linter.unusedVariables false
set_option linter.unusedSimpArgs false
namespace Go.Proofs.Ytgdghinconghgaa
open Go.RowKit (wrap32 wrap64)
open Go.RowKit
def hitTo (p : Nat → Bool) : Nat → List Int
  | 0 => []
  | k + 1 => if p k = true then hitTo p k ++ [(k : Int)] else hitTo p k
theorem hitTo_le (p : Nat → Bool) (k : Nat) : (hitTo p k).length ≤ k := by
  induction k with
  | zero => simp [hitTo]
  | succ k ih =>
    unfold hitTo
    split
    · rw [List.length_append]; simp; omega
    · omega
theorem hitTo_congr (p q : Nat → Bool) (n : Nat) (h : ∀ j, j < n → p j = q j) : hitTo p n = hitTo q n := by
  induction n with
  | zero => rfl
  | succ n ih => unfold hitTo; rw [h n (by omega), ih (fun j hj => h j (by omega))]
theorem hitTo_one (p q : Nat → Bool) (k n : Nat) (hk : k < n) (hp : p k = false) (hq : q k = true) (h : ∀ j, j ≠ k → p j = q j) : (hitTo q n).length = (hitTo p n).length + 1 := by
  induction n with
  | zero => omega
  | succ n ih =>
    unfold hitTo
    by_cases e : k = n
    · subst e
      rw [hp, hq, if_pos rfl, if_neg (by decide), List.length_append, hitTo_congr p q k (fun j hj => h j (by omega))]
      rfl
    · have := ih (by omega)
      rw [h n (fun x => e x.symm)]
      split
      · rw [List.length_append, List.length_append, this]; simp
      · exact this
theorem hitTo_mem (p : Nat → Bool) (n : Nat) (x : Int) (h : x ∈ hitTo p n) : ∃ k : Nat, x = k ∧ k < n ∧ p k = true := by
  induction n with
  | zero => simp [hitTo] at h
  | succ n ih =>
    unfold hitTo at h
    split at h
    · rename_i hp
      rcases List.mem_append.1 h with h | h
      · obtain ⟨k, a, b, c⟩ := ih h; exact ⟨k, a, by omega, c⟩
      · simp at h; exact ⟨n, h, by omega, hp⟩
    · obtain ⟨k, a, b, c⟩ := ih h; exact ⟨k, a, by omega, c⟩
def ownP (L : List Ow) (who : Int) (k : Nat) : Bool := match L[k]? with
  | some x => ownB who x
  | none => false
def heldL (L : List Ow) (who : Int) : List Int := hitTo (ownP L who) L.length
def OwnRet (w : World) (M : Nat) (xs : List Int) (e : Ending) (w' : World) : Prop := ∃ v, e = .returned v ∧ w'.ownsRow w.heap.size 3 1 v M (xs.map (Value.int .i64)) ∧ Below w.heap.size w w'
set_option maxRecDepth 100000 in
set_option maxHeartbeats 2000000 in
theorem lheld_any (g h : Nat) (L : List Ow) (who : Int) (w : World) (hb : LSet w g h L) (hL : L.length ≤ 64) :
    Calls Try.prog 54 #[.pointer (some ⟨g, 0, none⟩), .int .i64 who] w (OwnRet w (heldL L who).length (heldL L who)) := by
  obtain ⟨i0, hi, hz0, hz1, hz2⟩ := info_parts Try.infoI
  have hc := hb.cell
  unfold heldL
  generalize hN : L.length = N at hc hL ⊢
  have HN := Lib.hid hN
  clear hN
  go_enter Try.func54, Try.ntmps54
  go_wp2_with (first | (go_at_call 57; refine (llen_yes _ _ _ _ _ hc).mono ?_; rintro e w' ⟨rfl, rfl⟩))
  go_loopw [5, 9] (fun o c wr => ∃ k : Nat, k ≤ N ∧ c = .int .i64 k ∧ wr.ownsRow w.heap.size 3 1 o (hitTo (ownP L who) k).length ((hitTo (ownP L who) k).map (Value.int .i64)) ∧ Below w.heap.size w wr) (fun _ c _ => N - (intOf c).toNat)
  case atStart => exact ⟨0, by omega, rfl, World.ownsRow_nil _ _ _ _, Below.refl _ _⟩
  case round =>
    obtain ⟨k, hk, rfl, hown, HB⟩ := hrel
    have hbw := hb.below HB
    have hcw := hbw.cell
    rw [HN.out] at hcw
    by_cases hlt : k < N
    · have hkl : k < L.length := by rw [HN.out]; exact hlt
      have hx : L[k]? = some L[k] := List.getElem?_eq_getElem hkl
      have hp : ownP L who k = ownB who L[k] := by unfold ownP; rw [hx]
      have hst : hitTo (ownP L who) (k + 1) = if ownP L who k = true then hitTo (ownP L who) k ++ [(k : Int)] else hitTo (ownP L who) k := rfl
      have hle := hitTo_le (ownP L who) k
      obtain ⟨⟨d0, d1⟩, _⟩ := lset_cells hbw k _ hx
      generalize L[k] = x at d0 d1 hp hx
      obtain ⟨xw, xi⟩ := x
      dsimp only at d0 d1
      rw [hp] at hst
      have HST := Lib.hid hst
      clear hst hx hp hkl
      have hbs := HB.size
      go_wp2_with fail
      refine (owns_any _ _ _ _).mono ?_
      rintro e w3 ⟨rfl, hb3⟩
      have hown3 := own_below hown hb3
      have hb4 := bl_then HB (Nat.le_refl _) hb3
      have hbs4 := hb4.size
      clear hown
      cases ho : ownB who ⟨xw, xi⟩ with
      | true =>
        have hs : hitTo (ownP L who) (k + 1) = hitTo (ownP L who) k ++ [(k : Int)] := by rw [HST.out, if_pos ho]
        have HS := Lib.hid hs
        clear hs HST
        go_wp2_with (at_builtin; refine wpList_append_own _ rfl _ _ 54 rfl w.heap.size 3 i0 (.int .i64 0) 1 8 Try.underlying54 hi hz0 hz1 hz2 rfl (by decide) _ _ _ rfl (hown3.alloc _) ⟨w3.heap.size, 0, none⟩ 1 1 [.int .i64 k] rfl rfl (cell_one_new _ _ _) (by simp [Value.oneCell']) (by unfold maxLen; omega) (by omega) (by simp; omega) ?_; intro v' w2 hown' hgr' _)
        go_roundw
        case rel => exact ⟨k + 1, by omega, by go_num, by rw [HS.out, List.length_append, List.map_append]; exact hown', (hb4.alloc hbs4 _).grown hgr' (by simp; omega) (fun k h => ((hown3.lt k h).1))⟩
        case measure => simp [intOf]; omega
      | false =>
        have hs : hitTo (ownP L who) (k + 1) = hitTo (ownP L who) k := by rw [HST.out, if_neg (by rw [ho]; decide)]
        have HS := Lib.hid hs
        clear hs HST
        go_wp2
        go_roundw
        case rel => exact ⟨k + 1, by omega, by go_num, by rw [HS.out]; exact hown3, hb4⟩
        case measure => simp [intOf]; omega
    · obtain rfl : k = N := by omega
      have HO := Lib.hid hown
      clear hown
      go_wp2
      go_ret
      exact ⟨_, rfl, HO.out, HB⟩
def freeTo (L : List Ow) (k : Nat) : Bool := (L.take k).all fun x => !x.is
set_option maxRecDepth 100000 in
set_option maxHeartbeats 2000000 in
theorem lfree_any (g h : Nat) (L : List Ow) (w : World) (hb : LSet w g h L) (hL : L.length ≤ 64) :
    Calls Try.prog 56 #[.pointer (some ⟨g, 0, none⟩)] w fun e w' => e = .returned (.bool (L.all fun x => !x.is)) ∧ w = w' := by
  have hc := hb.cell
  generalize hN : L.length = N at hc hL
  have HN := Lib.hid hN
  clear hN
  go_enter Try.func56, Try.ntmps56
  go_wp2_with (first | (go_at_call 57; refine (llen_yes _ _ _ _ _ hc).mono ?_; rintro e w' ⟨rfl, rfl⟩))
  go_loop [6] (fun c => ∃ k : Nat, k ≤ N ∧ c = .int .i64 k ∧ Hid (freeTo L k = true)) (fun c => N - (intOf c).toNat)
  case atStart => exact ⟨0, by omega, rfl, Lib.hid rfl⟩
  case round =>
    obtain ⟨k, hk, rfl, hf⟩ := hrel
    by_cases hlt : k < N
    · have hkl : k < L.length := by rw [HN.out]; exact hlt
      have hx : L[k]? = some L[k] := List.getElem?_eq_getElem hkl
      have hn : freeTo L (k + 1) = (freeTo L k && !L[k].is) := by
        unfold freeTo; rw [List.take_succ_eq_append_getElem hkl, List.all_append]; simp
      have hm : L[k].is = true → (L.all fun x => !x.is) = false := fun h => by
        rw [List.all_eq_false]; exact ⟨L[k], List.getElem_mem hkl, by simp [h]⟩
      obtain ⟨⟨d0, d1⟩, _⟩ := lset_cells hb k _ hx
      rw [hf.out, Bool.true_and] at hn
      generalize L[k] = x at d0 d1 hn hm
      obtain ⟨xw, xi⟩ := x
      dsimp only at d0 d1 hn hm
      clear hx hf
      cases xi with
      | true =>
        have HM := Lib.hid (hm rfl)
        clear hm hn
        go_wp2
        go_ret
        exact ⟨by rw [HM.out]; rfl, rfl⟩
      | false =>
        have HN2 := Lib.hid hn
        clear hm hn
        go_wp2
        go_round
        case rel => exact ⟨k + 1, by omega, by go_num, Lib.hid (by rw [HN2.out]; rfl)⟩
        case measure => simp [intOf]; omega
    · obtain rfl : k = N := by omega
      have hall : (L.all fun x => !x.is) = true := by
        have := hf.out
        unfold freeTo at this
        rwa [List.take_of_length_le (by rw [HN.out]; exact Nat.le_refl _)] at this
      have HA := Lib.hid hall
      clear hall
      go_wp2
      go_ret
      exact ⟨by rw [HA.out]; rfl, rfl⟩
set_option maxRecDepth 100000 in
set_option maxHeartbeats 2000000 in
theorem awake09 (w : World) : Calls Try.prog 45 #[] w fun e w' => e = .returned (.bool true) ∧ Below w.heap.size w w' := by
  have e1 : takE (List.replicate (nL 4) ⟨0, false⟩) 1 3 = 0 := by decide
  have e2 : takE (takL (List.replicate (nL 4) ⟨0, false⟩) 1 3) 1 2 = 30 := by decide
  have e3 : takE (takL (takL (List.replicate (nL 4) ⟨0, false⟩) 1 3) 1 2) 2 3 = 31 := by decide
  have e4 : ((takL (takL (takL (List.replicate (nL 4) ⟨0, false⟩) 1 3) 1 2) 2 3).all fun x => !x.is) = false := by decide
  have l0 : (List.replicate (nL 4) (⟨0, false⟩ : Ow)).length ≤ 64 := by decide
  obtain ⟨L, hLe⟩ : ∃ L, L = List.replicate (nL 4) (⟨0, false⟩ : Ow) := ⟨_, rfl⟩
  rw [← hLe] at e1 e2 e3 e4 l0
  have HL := Lib.hid hLe
  clear hLe
  go_enter Try.func45, Try.ntmps45
  go_wp2_with fail
  refine (lnew_any _ _).mono ?_
  rintro e w1 ⟨g, h, rfl, hb1, hg, hh, bel1⟩
  rw [← HL.out] at hb1
  go_wp2_with fail
  refine (ltake_any _ _ _ _ _ _ hb1 l0).mono ?_
  rintro e w2 ⟨rfl, hb2, k2⟩
  have bel2 := bel1.trans (k2.below bel1.size (fun i hi => by subst hi; omega))
  rw [e1]
  go_wp2_with fail
  refine (ltake_any _ _ _ _ _ _ hb2 (by rw [takL_len]; exact l0)).mono ?_
  rintro e w3 ⟨rfl, hb3, k3⟩
  have bel3 := bel2.trans (k3.below bel2.size (fun i hi => by subst hi; omega))
  rw [e2]
  go_wp2_with fail
  refine (ltake_any _ _ _ _ _ _ hb3 (by rw [takL_len, takL_len]; exact l0)).mono ?_
  rintro e w4 ⟨rfl, hb4, k4⟩
  have bel4 := bel3.trans (k4.below bel3.size (fun i hi => by subst hi; omega))
  rw [e3]
  go_wp2_with fail
  refine (lfree_any _ _ _ _ hb4 (by rw [takL_len, takL_len, takL_len]; exact l0)).mono ?_
  rintro e _ ⟨rfl, rfl⟩
  rw [e4]
  go_wp2
  go_ret
  exact ⟨rfl, bel4⟩
/-! ### No set -/
set_option maxHeartbeats 400000 in
theorem ltake_nil (i : Int) (w : World) : Calls Try.prog 48 #[.pointer none, .int .i64 0, .int .i64 i] w fun e w' => e = .returned (.int .i64 1) ∧ w = w' := by
  go_enter Try.func48, Try.ntmps48
  go_wp2_with (first | (go_at_call 72; refine (lhas_nil _ _).mono ?_; rintro e w' ⟨rfl, rfl⟩))
  go_ret
  exact ⟨rfl, rfl⟩
set_option maxHeartbeats 400000 in
theorem lgive_nil (i : Int) (w : World) : Calls Try.prog 50 #[.pointer none, .int .i64 0, .int .i64 i] w fun e w' => e = .returned (.int .i64 1) ∧ w = w' := by
  go_enter Try.func50, Try.ntmps50
  go_wp2_with (first | (go_at_call 72; refine (lhas_nil _ _).mono ?_; rintro e w' ⟨rfl, rfl⟩))
  go_ret
  exact ⟨rfl, rfl⟩
set_option maxHeartbeats 400000 in
theorem lowner_nil (i : Int) (w : World) : Calls Try.prog 52 #[.pointer none, .int .i64 i] w fun e w' => e = .returned (.tuple #[.int .i64 0, .bool false]) ∧ w = w' := by
  go_enter Try.func52, Try.ntmps52
  go_wp2_with (first | (go_at_call 72; refine (lhas_nil _ _).mono ?_; rintro e w' ⟨rfl, rfl⟩))
  go_ret2
  exact ⟨rfl, rfl⟩
set_option maxHeartbeats 400000 in
theorem lheld_nil (who : Int) (w : World) : Calls Try.prog 54 #[.pointer none, .int .i64 who] w fun e w' => e = .returned (.slice none 0 0) ∧ w = w' := by
  go_enter Try.func54, Try.ntmps54
  go_wp2_with (first | (go_at_call 57; refine (llen_nil _).mono ?_; rintro e w' ⟨rfl, rfl⟩))
  go_loop [5, 9] (fun o c => o = .slice none 0 0 ∧ c = .int .i64 0) (fun _ _ => 0)
  case atStart => exact ⟨rfl, rfl⟩
  case round =>
    obtain ⟨rfl, rfl⟩ := hrel
    go_wp2
    go_ret
    exact ⟨rfl, rfl⟩
set_option maxHeartbeats 400000 in
theorem lfree_nil (w : World) : Calls Try.prog 56 #[.pointer none] w fun e w' => e = .returned (.bool true) ∧ w = w' := by
  go_enter Try.func56, Try.ntmps56
  go_wp2_with (first | (go_at_call 57; refine (llen_nil _).mono ?_; rintro e w' ⟨rfl, rfl⟩))
  go_loop [6] (fun c => c = .int .i64 0) (fun _ => 0)
  case atStart => rfl
  case round =>
    subst hrel
    go_wp2
    go_ret
    exact ⟨rfl, rfl⟩
end Go.Proofs.Ytgdghinconghgaa
