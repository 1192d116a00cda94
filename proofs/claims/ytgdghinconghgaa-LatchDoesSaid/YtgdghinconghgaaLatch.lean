/- The contracts of package latch. No condition. -/
import Derived.Test.YtgdghinconghgaaTab
set_option linter.unusedVariables false
set_option linter.unusedSimpArgs false
namespace Go.Proofs.Ytgdghinconghgaa
open Go.RowKit (wrap32 wrap64)
open Go.RowKit
structure Ow where
  who : Int
  is : Bool
def enO (x : Ow) : List Value := [.int .i64 x.who, .bool x.is]
theorem enO_len (x : Ow) : (enO x).length = 2 := rfl
def LSet (w : World) (g h : Nat) (L : List Ow) : Prop := Tab enO w 118 123 2 g h L.length L
theorem LSet.cell {w : World} {g h : Nat} {L : List Ow} (b : LSet w g h L) : w.cell? ⟨g, 0, none⟩ = some (.slice (some ⟨h, 0, none⟩) L.length L.length) := b.1.cell 0
theorem LSet.below {w w1 : World} {g h : Nat} {L : List Ow} (hb : LSet w g h L) (b : Below w.heap.size w w1) : LSet w1 g h L := Tab.keep hb (Keep.of_below b (fun _ => False)) (fun h => h) (fun h => h)
theorem Try.infoO : (Try.prog.info? 123).map (fun i => (i.zero, i.size, i.bytes)) = some (some (.agg #[.int .i64 0, .bool false]), 2, 16) := by kernel_rfl
theorem Try.infoI : (Try.prog.info? 3).map (fun i => (i.zero, i.size, i.bytes)) = some (some (.int .i64 0), 1, 8) := by kernel_rfl
theorem lset_cells {w : World} {g h : Nat} {L : List Ow} (hb : LSet w g h L) (k : Nat) (x : Ow) (hx : L[k]? = some x) :
    (w.cell? ⟨h, k * 2, none⟩ = some (.int .i64 x.who) ∧ w.cell? ⟨h, k * 2 + 1, none⟩ = some (.bool x.is)) ∧ (w.frozen? ⟨h, k * 2, none⟩ = false ∧ w.frozen? ⟨h, k * 2 + 1, none⟩ = false) :=
  ⟨⟨Tab.get hb enO_len k x hx 0 (by omega), Tab.get hb enO_len k x hx 1 (by omega)⟩, hb.2.1.frozenAt _, hb.2.1.frozenAt _⟩
theorem lset_stored {w : World} {g h : Nat} {L : List Ow} (hb : LSet w g h L) (k : Nat) (hk : k < L.length) (x : Ow) :
    LSet ((w.setCell ⟨h, k * 2, none⟩ (.int .i64 x.who)).setCell ⟨h, k * 2 + 1, none⟩ (.bool x.is)) g h (L.set k x) ∧
    Keep (fun i => i = h) w ((w.setCell ⟨h, k * 2, none⟩ (.int .i64 x.who)).setCell ⟨h, k * 2 + 1, none⟩ (.bool x.is)) := by
  have kk : Keep (fun i => i = h) w ((w.setCell ⟨h, k * 2, none⟩ (.int .i64 x.who)).setCell ⟨h, k * 2 + 1, none⟩ (.bool x.is)) := Keep.trans (Keep.set _ h _ _ _ rfl) (Keep.set _ h _ _ _ rfl)
  refine ⟨⟨?_, ?_, hb.2.2⟩, kk⟩
  · rw [List.length_set]; exact kk.bk hb.1 hb.2.2
  · rw [List.length_set, ← flatV_set enO_len L k x hk]
    exact ((hb.2.1.stored _ _).1.stored _ _).1
/-! ### New, Len, has -/
def nL (n : Int) : Nat := if n < 1 then 1 else if 64 < n then 64 else n.toNat
theorem nL_range (n : Int) : 1 ≤ nL n ∧ nL n ≤ 64 := by unfold nL; repeat' split
                                                        all_goals omega
theorem made_ow (M : Nat) : (madeCells (Value.agg #[.int .i64 0, .bool false]).cells (M * 2)).toList = flatV enO (List.replicate M ⟨0, false⟩) := made_flat (enc := enO) (s := 2) _ ⟨0, false⟩ rfl rfl (by omega) enO_len M
def LNew (w : World) (n : Int) (e : Ending) (w' : World) : Prop := ∃ g h, e = .returned (.pointer (some ⟨g, 0, none⟩)) ∧ LSet w' g h (List.replicate (nL n) ⟨0, false⟩) ∧ w.heap.size ≤ g ∧ w.heap.size ≤ h ∧ Below w.heap.size w w'
theorem lnew_end {w w1 : World} {M : Nat} (hown : w1.ownsRow w.heap.size 123 2 (.slice (some ⟨w.heap.size, 0, none⟩) M M) M (flatV enO (List.replicate M ⟨0, false⟩))) (hgr : w.grownBy w1 none) :
    LSet (w1.alloc (.cells #[.slice (some ⟨w.heap.size, 0, none⟩) M M] 118)) w1.heap.size w.heap.size (List.replicate M ⟨0, false⟩) ∧ w.heap.size ≤ w1.heap.size ∧ Below w.heap.size w (w1.alloc (.cells #[.slice (some ⟨w.heap.size, 0, none⟩) M M] 118)) := by
  have hlt := (hown.lt w.heap.size rfl).2
  have hb : Below w.heap.size w w1 := (Below.refl _ _).grown hgr (Nat.le_refl _) (fun k h => by cases h)
  refine ⟨⟨?_, ?_, by omega⟩, by omega, hb.alloc hb.size _⟩
  · rw [List.length_replicate]; exact Bk.new _ _ _
  · rw [List.length_replicate]; exact (own_weaken hown (Nat.zero_le _)).alloc _
set_option maxHeartbeats 1000000 in
theorem lnew_any (n : Int) (w : World) : Calls Try.prog 46 #[.int .i64 n] w (LNew w n) := by
  obtain ⟨i0, hi, hz0, hz1, hz2⟩ := info_parts Try.infoO
  by_cases h1 : n < 1
  · have hn := Lib.hid (show nL n = 1 from if_pos h1)
    go_enter Try.func46, Try.ntmps46
    go_wp2_with (first | (at_make; refine wpList_make_full _ rfl _ _ _ rfl w.heap.size 123 i0 _ 2 Try.underlying116 hi hz0 hz1 .i64 .i64 1 1 1 rfl rfl rfl rfl (by rw [hz2]; omega) (by unfold maxLen; omega) (Nat.le_refl _) ?_; intro w1 hown hgr; rw [made_ow] at hown))
    go_ret
    obtain ⟨a1, a2, a3⟩ := lnew_end hown hgr
    exact ⟨_, _, rfl, by rw [hn.out]; exact a1, a2, Nat.le_refl _, a3⟩
  · by_cases h2 : 64 < n
    · have hn := Lib.hid (show nL n = 64 by unfold nL; rw [if_neg h1, if_pos h2])
      go_enter Try.func46, Try.ntmps46
      go_wp2_with (first | (at_make; refine wpList_make_full _ rfl _ _ _ rfl w.heap.size 123 i0 _ 2 Try.underlying116 hi hz0 hz1 .i64 .i64 64 64 64 rfl rfl rfl rfl (by rw [hz2]; omega) (by unfold maxLen; omega) (Nat.le_refl _) ?_; intro w1 hown hgr; rw [made_ow] at hown))
      go_ret
      obtain ⟨a1, a2, a3⟩ := lnew_end hown hgr
      exact ⟨_, _, rfl, by rw [hn.out]; exact a1, a2, Nat.le_refl _, a3⟩
    · obtain ⟨M, rfl⟩ : ∃ M : Nat, n = M := ⟨n.toNat, by omega⟩
      have hn := Lib.hid (show nL M = M by unfold nL; rw [if_neg h1, if_neg h2]; omega)
      go_enter Try.func46, Try.ntmps46
      go_wp2_with (first | (at_make; refine wpList_make_full _ rfl _ _ _ rfl w.heap.size 123 i0 _ 2 Try.underlying116 hi hz0 hz1 .i64 .i64 M M M rfl rfl rfl rfl (by rw [hz2]; omega) (by unfold maxLen; omega) (Nat.le_refl _) ?_; intro w1 hown hgr; rw [made_ow] at hown))
      all_goals
        go_ret
        obtain ⟨a1, a2, a3⟩ := lnew_end hown hgr
        exact ⟨_, _, rfl, by rw [hn.out]; exact a1, a2, Nat.le_refl _, a3⟩
set_option maxHeartbeats 400000 in
theorem llen_yes (g : Nat) (a : Option Addr) (n cap : Nat) (w : World) (h : w.cell? ⟨g, 0, none⟩ = some (.slice a n cap)) : Calls Try.prog 57 #[.pointer (some ⟨g, 0, none⟩)] w fun e w' => e = .returned (.int .i64 n) ∧ w = w' := by
  go_enter Try.func57, Try.ntmps57
  go_wp2
  go_ret
  exact ⟨rfl, rfl⟩
set_option maxHeartbeats 400000 in
theorem llen_nil (w : World) : Calls Try.prog 57 #[.pointer none] w fun e w' => e = .returned (.int .i64 0) ∧ w = w' := by
  go_enter Try.func57, Try.ntmps57
  go_wp2
  go_ret
  exact ⟨rfl, rfl⟩
def hasT (n : Nat) (i : Int) : Bool := decide (0 ≤ i) && decide (i < n)
set_option maxHeartbeats 400000 in
theorem lhas_yes (g : Nat) (a : Option Addr) (n cap : Nat) (i : Int) (w : World) (h : w.cell? ⟨g, 0, none⟩ = some (.slice a n cap)) : Calls Try.prog 72 #[.pointer (some ⟨g, 0, none⟩), .int .i64 i] w fun e w' => e = .returned (.bool (hasT n i)) ∧ w = w' := by
  by_cases h0 : 0 ≤ i
  · have he : hasT n i = decide (i < n) := by unfold hasT; rw [decide_eq_true h0]; rfl
    rw [he]
    go_enter Try.func72, Try.ntmps72
    go_wp2_with (first | (go_at_call 57; refine (llen_yes _ _ _ _ _ h).mono ?_; rintro e w' ⟨rfl, rfl⟩))
    all_goals (go_ret; exact ⟨rfl, rfl⟩)
  · have he : hasT n i = false := by unfold hasT; rw [decide_eq_false h0]; rfl
    rw [he]
    have h1 : i < 0 := by omega
    go_enter Try.func72, Try.ntmps72
    go_wp2
    go_ret
    exact ⟨rfl, rfl⟩
set_option maxHeartbeats 400000 in
theorem lhas_nil (i : Int) (w : World) : Calls Try.prog 72 #[.pointer none, .int .i64 i] w fun e w' => e = .returned (.bool false) ∧ w = w' := by
  by_cases h0 : 0 ≤ i
  · go_enter Try.func72, Try.ntmps72
    go_wp2_with (first | (go_at_call 57; refine (llen_nil _).mono ?_; rintro e w' ⟨rfl, rfl⟩))
    all_goals (go_ret; exact ⟨by first | rfl | (simp; exact h0), rfl⟩)
  · have h1 : i < 0 := by omega
    go_enter Try.func72, Try.ntmps72
    go_wp2
    go_ret
    exact ⟨rfl, rfl⟩
/-! ### owns -/
def ownB (who : Int) (x : Ow) : Bool := x.is && (x.who == who)
set_option maxHeartbeats 400000 in
theorem owns_any (who o : Int) (is : Bool) (w : World) : Calls Try.prog 73 #[.agg #[.int .i64 who], .agg #[.int .i64 o, .bool is]] w fun e w' => e = .returned (.bool (ownB who ⟨o, is⟩)) ∧ Below w.heap.size w w' := by
  unfold ownB
  have hb : ∀ B : Nat, True := fun _ => trivial
  cases is with
  | false =>
    go_enter Try.func73, Try.ntmps73
    go_wp2
    go_ret
    exact ⟨rfl, ((Below.refl _ _).alloc (Nat.le_refl _) _).alloc (by simp) _⟩
  | true =>
    go_enter Try.func73, Try.ntmps73
    go_wp2
    all_goals
      go_ret
      exact ⟨by simp, ((Below.refl _ _).alloc (Nat.le_refl _) _).alloc (by simp) _⟩
end Go.Proofs.Ytgdghinconghgaa
