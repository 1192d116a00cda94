/- The reference's latches: their contracts, said over the list of owners. No condition. -/
import Derived.Test.YtgdghinconghgaaLatchG
import Derived.Deep.RegionLaw
set_option linter.unusedVariables false
set_option linter.unusedSimpArgs false
namespace Go.Proofs.Ytgdghinconghgaa
open Go.RowKit (wrap32 wrap64)
open Go.RowKit
def refV (x : Ow) : Int := if x.is then x.who else -1
def enR (x : Ow) : List Value := [.int .i64 (refV x)]
theorem enR_len (x : Ow) : (enR x).length = 1 := rfl
theorem flatR (L : List Ow) : flatV enR L = (L.map refV).map (Value.int .i64) := by
  induction L with
  | nil => rfl
  | cons x L ih => rw [flatV_cons, ih]; rfl
def RSet (w : World) (g h cap : Nat) (L : List Ow) : Prop := Tab enR w 85 3 1 g h cap L
theorem RSet.cell {w : World} {g h cap : Nat} {L : List Ow} (b : RSet w g h cap L) : w.cell? ⟨g, 0, none⟩ = some (.slice (some ⟨h, 0, none⟩) L.length cap) := b.1.cell 0
theorem RSet.below {w w1 : World} {g h cap : Nat} {L : List Ow} (hb : RSet w g h cap L) (b : Below w.heap.size w w1) : RSet w1 g h cap L := Tab.keep hb (Keep.of_below b (fun _ => False)) (fun h => h) (fun h => h)
theorem rset_cell {w : World} {g h cap : Nat} {L : List Ow} (hb : RSet w g h cap L) (k : Nat) (x : Ow) (hx : L[k]? = some x) : w.cell? ⟨h, k, none⟩ = some (.int .i64 (refV x)) ∧ w.frozen? ⟨h, k, none⟩ = false := by
  have := Tab.get hb enR_len k x hx 0 (by omega)
  rw [Nat.mul_one] at this
  exact ⟨this, hb.2.1.frozenAt _⟩
theorem rset_stored {w : World} {g h cap : Nat} {L : List Ow} (hb : RSet w g h cap L) (k : Nat) (hk : k < L.length) (x : Ow) :
    RSet (w.setCell ⟨h, k, none⟩ (.int .i64 (refV x))) g h cap (L.set k x) ∧ Keep (fun i => i = h) w (w.setCell ⟨h, k, none⟩ (.int .i64 (refV x))) := by
  have kk : Keep (fun i => i = h) w (w.setCell ⟨h, k, none⟩ (.int .i64 (refV x))) := Keep.set _ h _ _ _ rfl
  refine ⟨⟨?_, ?_, hb.2.2⟩, kk⟩
  · rw [List.length_set]; exact kk.bk hb.1 hb.2.2
  · rw [List.length_set, ← flatV_set enR_len L k x hk, Nat.mul_one]
    exact (hb.2.1.stored _ _).1
/-- Owners are no negative numbers. -/
def okO (L : List Ow) : Prop := ∀ (k : Nat) (x : Ow), L[k]? = some x → x.is = true → 0 ≤ x.who
theorem okO_set (L : List Ow) (k : Nat) (x : Ow) (h : okO L) (hx : x.is = true → 0 ≤ x.who) : okO (L.set k x) := by
  intro j y hj hy
  by_cases e : j = k
  · subst e
    by_cases hl : j < L.length
    · rw [List.getElem?_set_self hl] at hj
      simp at hj; subst hj; exact hx hy
    · rw [List.getElem?_eq_none (by simp; omega)] at hj; cases hj
  · rw [List.getElem?_set_ne (fun q => e q.symm)] at hj
    exact h j y hj hy
theorem okO_tak (L : List Ow) (who i : Int) (h : okO L) : okO (takL L who i) := by
  unfold takL
  split
  · rename_i ht
    obtain ⟨k, rfl, hk, hw, _, _⟩ := tak_ok L who i ht
    exact okO_set L _ _ h (fun _ => hw)
  · exact h
theorem okO_giv (L : List Ow) (who i : Int) (h : okO L) : okO (givL L who i) := by
  unfold givL
  split
  · exact okO_set L _ _ h (fun e => by cases e)
  · exact h
theorem ref_own (x : Ow) (who : Int) (hw : 0 ≤ who) : (refV x == who) = ownB who x := by
  unfold refV ownB
  cases x.is with
  | true => simp
  | false => simp; omega
theorem ref_is (x : Ow) (h : x.is = true → 0 ≤ x.who) : decide (0 ≤ refV x) = x.is := by
  unfold refV
  cases hx : x.is with
  | true => simp [h hx]
  | false => simp
/-! ### NewLatches -/
def RNew (w : World) (n : Int) (e : Ending) (w' : World) : Prop := ∃ g h cap, e = .returned (.pointer (some ⟨g, 0, none⟩)) ∧ RSet w' g h cap (List.replicate (nL n) ⟨0, false⟩) ∧ w.heap.size ≤ g ∧ w.heap.size ≤ h ∧ Below w.heap.size w w'
set_option maxRecDepth 100000 in
set_option maxHeartbeats 2000000 in
theorem rlnew_any (n : Int) (w : World) : Calls Try.prog 47 #[.int .i64 n] w (RNew w n) := by
  obtain ⟨i0, hi, hz0, hz1, hz2⟩ := info_parts Try.infoI
  have hnr := nL_range n
  have hcond : ∀ k : Nat, k ≤ nL n → ((k = 0 ∨ ((k : Int) < n ∧ (k : Int) < 64)) ↔ k < nL n) := by
    intro k hk
    by_cases h1 : n < 1
    · have e : nL n = 1 := if_pos h1
      omega
    · by_cases h2 : 64 < n
      · have e : nL n = 64 := by unfold nL; rw [if_neg h1, if_pos h2]
        omega
      · have e : nL n = n.toNat := by unfold nL; rw [if_neg h1, if_neg h2]
        omega
  obtain ⟨N, hN⟩ : ∃ N, N = nL n := ⟨_, rfl⟩
  rw [← hN] at hnr hcond
  have HN := Lib.hid hN
  clear hN
  go_enter Try.func47, Try.ntmps47
  go_wp2
  obtain ⟨g, hg⟩ : ∃ g, g = w.heap.size := ⟨_, rfl⟩
  rw [← hg]
  have HG := Lib.hid hg
  have hbk : Bk (w.alloc (.cells #[.slice none 0 0] 85)) g 85 #[.slice none 0 0] := by rw [hg]; exact Bk.new _ _ _
  have hb0 : Below w.heap.size w (w.alloc (.cells #[.slice none 0 0] 85)) := (Below.refl _ _).alloc (Nat.le_refl _) _
  clear hg
  go_loopw [4] (fun c wr => ∃ (k : Nat) (v : Value), k ≤ N ∧ c = .int .i64 k ∧ Bk wr g 85 #[v] ∧ wr.ownsRow (g + 1) 3 1 v k ((List.replicate k (-1 : Int)).map (Value.int .i64)) ∧ Below w.heap.size w wr) (fun c _ => N - (intOf c).toNat)
  case atStart => exact ⟨0, .slice none 0 0, by omega, rfl, hbk, World.ownsRow_nil _ _ _ _, hb0⟩
  case round =>
    clear hbk hb0
    obtain ⟨k, v, hk, rfl, hBk, hown, HB⟩ := hrel
    obtain ⟨A0, c0, rfl⟩ := own_slice hown
    have hc := hBk.cell 0
    have hf := hBk.frozen 0
    have hgl := hBk.lt
    have hcd := hcond k hk
    clear hcond
    by_cases hlt : k < N
    · have hcd2 := hcd.2 hlt
      have hgs : w.heap.size ≤ g := by rw [HG.out]; exact Nat.le_refl _
      have hne : (Value.slice A0 k c0).ownBlock ≠ some g := fun e => by have := (hown.lt g e).1; omega
      clear hcd
      have hcs : (((k : Int) == 0) = true) ∨ (((k : Int) == 0) = false ∧ (k : Int) < n ∧ (k : Int) < 64) := by
        rcases hcd2 with h | ⟨h1, h2⟩
        · exact .inl (by rw [h]; rfl)
        · by_cases e : k = 0
          · exact .inl (by rw [e]; rfl)
          · exact .inr ⟨beq_eq_false_iff_ne.2 (by omega), h1, h2⟩
      clear hcd2
      rcases hcs with q1 | ⟨q1, q2, q3⟩
      all_goals
        go_wp2_with (at_builtin
                     refine wpList_append_own _ rfl _ _ 54 rfl (g + 1) 3 i0 (.int .i64 0) 1 8 Try.underlying54 hi hz0 hz1 hz2 rfl (by decide) _ _ _ rfl (hown.alloc _) ⟨wr.heap.size, 0, none⟩ 1 1 [.int .i64 (-1)] rfl rfl (cell_one_new _ _ _) (by simp [Value.oneCell']) (by unfold maxLen; omega) (by omega) (by simp; omega) ?_
                     intro v' w2 hown' hgr' _
                     obtain ⟨A', c', rfl⟩ := own_slice hown'
                     have hc2 := (hgr'.cell_far ⟨g, 0, none⟩ (by simp; omega) (by simpa using fun e => hne e.symm)).trans (cell_new_a _ hc)
                     have hf2 := (hgr'.frozen_far ⟨g, 0, none⟩ (by simp; omega) (by simpa using fun e => hne e.symm)).trans (frozen_new_a _ hc hf))
        have hl : Below w.heap.size w w2 := (HB.alloc HB.size _).grown hgr' (by simp; omega) (fun k e => by have := (hown.lt k e).1; omega)
        have kk : Keep (fun i => some i = (Value.slice A0 k c0).ownBlock) wr w2 := Keep.trans (Keep.alloc wr _ _) (grown_keep hgr' _ (fun k e => e.symm))
        have hB2 : Bk w2 g 85 #[.slice A0 k c0] := kk.bk hBk (fun e => hne e.symm)
        have hB3 := hB2.set 0 (.slice A' (k + 1) c')
        have hb3 := hl.setCell (p := ⟨g, 0, none⟩) hgs (.slice A' (k + 1) c')
        have kset : Keep (fun i => i = g) w2 (w2.setCell ⟨g, 0, none⟩ (.slice A' (k + 1) c')) := Keep.set w2 g 0 _ _ rfl
        go_roundw
        case rel =>
          refine ⟨k + 1, _, ?_, ?_, hB3, ?_, hb3⟩
          · omega
          · go_num
          · have := own_keepS hown' kset (fun i hi => by omega)
            rw [List.replicate_succ', List.map_append]
            exact this
        case measure => simp [intOf]; omega
    · obtain rfl : k = N := by omega
      have q1 : ((k : Int) == 0) = false := beq_eq_false_iff_ne.2 (by omega)
      have hno : ¬ ((k : Int) < n ∧ (k : Int) < 64) := fun h => by
        have := hcd.1 (.inr h); omega
      obtain ⟨hh, hcap, hv, hbase, hlt2⟩ := hown.form (by omega)
      injection hv with e1 _ e3
      subst e1 e3
      have hrs : RSet wr g hh c0 (List.replicate k ⟨0, false⟩) := by
        refine ⟨?_, ?_, by omega⟩
        · rw [List.length_replicate]; exact hBk
        · rw [List.length_replicate, flatR]
          have := own_weaken hown (Nat.zero_le _)
          rw [List.map_replicate] at this ⊢
          rw [List.map_replicate]
          exact this
      have HR := Lib.hid hrs
      have hgs : w.heap.size ≤ g := by rw [HG.out]; exact Nat.le_refl _
      have hhs : w.heap.size ≤ hh := by omega
      clear hrs hcd hown
      by_cases q2 : (k : Int) < n
      · have q3 : (64 : Int) ≤ k := by omega
        clear hno
        go_wp2
        go_ret
        exact ⟨g, hh, c0, rfl, by rw [← HN.out]; exact HR.out, hgs, hhs, HB⟩
      · have q3 : n ≤ (k : Int) := by omega
        clear hno q2
        go_wp2
        go_ret
        exact ⟨g, hh, c0, rfl, by rw [← HN.out]; exact HR.out, hgs, hhs, HB⟩
end Go.Proofs.Ytgdghinconghgaa
