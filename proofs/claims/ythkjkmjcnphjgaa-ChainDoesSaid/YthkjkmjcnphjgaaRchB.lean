/- The reference's rows of places: free, List, NewChain. No condition. -/
import Derived.Test.YthkjkmjcnphjgaaRch
set_option linter.unusedVariables false
set_option linter.unusedSimpArgs false
namespace Go.Proofs.Ythkjkmjcnphjgaa
open Go.RowKit (wrap32 wrap64)
open Go.RowKit
def frX (n : Nat) (R : List (List Nat)) (row i : Int) : Bool := inC n row && inC n i && decide (atI R i < 0)
theorem frX_eq {T : List Ln} {E : List En} {R : List (List Nat)} {n : Nat} (h : Rel T E R n) (row i : Int) : frX n R row i = freeR n R row i := by
  unfold frX freeR
  cases hi : inC n i with
  | false => simp
  | true =>
    have : decide (atI R i < 0) = !usedR R i.toNat := by
      obtain ⟨k, rfl, hk, _⟩ := lkT_in T n i h.tl hi
      rw [show ((k : Nat) : Int).toNat = k by omega]
      rcases at_cases h (k : Int) with ⟨h1, _, _, hno⟩ | ⟨r, x, A, B, e, _, _, hR, _, h1, _, _, _⟩
      · rw [h1, usedR_false.2 (fun l hl hm => hno l hl k hm rfl)]; rfl
      · obtain rfl : k = x := by omega
        rw [h1, usedR_true.2 ⟨_, List.mem_of_getElem? hR, by simp⟩]
        simp
    rw [this]
set_option maxHeartbeats 2000000 in
theorem rfree_any (gx h B n : Nat) (R : List (List Nat)) (row i : Int) (w : World) (hc : Rch w gx h B n R) :
    Calls Try.prog 73 #[.pointer (some ⟨gx, 0, none⟩), .int .i64 row, .int .i64 i] w fun e w' => e = .returned (.bool (frX n R row i)) ∧ Below w.heap.size w w' := by
  have HA := Lib.hid (rat_any gx h B n R i w hc)
  have HC : Hid (∀ w1, Below w.heap.size w w1 → w1.cell? ⟨gx, 0, none⟩ = some (.int .i64 n)) := Lib.hid (fun w1 hb => by
    obtain ⟨S, hc⟩ := hc.below hb
    exact hc.bk.cell 0)
  have hv : frX n R row i = (decide (0 ≤ row) && decide (row < n) && (decide (0 ≤ i) && decide (i < n)) && decide (atI R i < 0)) := rfl
  clear hc
  rw [hv]
  clear hv
  generalize atI R i = t at HA ⊢
  generalize poI R i = u at HA
  have hX : ∀ b : Bool, (decide (0 ≤ row) && decide (row < n) && (decide (0 ≤ i) && decide (i < n)) && decide (t < 0)) = b → (Calls Try.prog 73 #[.pointer (some ⟨gx, 0, none⟩), .int .i64 row, .int .i64 i] w fun e w' => e = .returned (.bool b) ∧ Below w.heap.size w w') → Calls Try.prog 73 #[.pointer (some ⟨gx, 0, none⟩), .int .i64 row, .int .i64 i] w fun e w' => e = .returned (.bool (decide (0 ≤ row) && decide (row < n) && (decide (0 ≤ i) && decide (i < n)) && decide (t < 0))) ∧ Below w.heap.size w w' := fun b hb h => by rw [hb]; exact h
  by_cases h1 : 0 ≤ row
  · by_cases h2 : row < (n : Int)
    · by_cases h3 : 0 ≤ i
      · by_cases h4 : i < (n : Int)
        · by_cases h5 : t < 0
          · refine hX true (by simp [h1, h2, h3, h4, h5]) ?_
            clear hX
            go_enter Try.func73, Try.ntmps73
            go_wp2_with (go_at_call 27; refine HA.out.mono ?_; rintro e w1 ⟨rfl, hb1⟩; have c0 := HC.out w1 hb1)
            go_ret
            exact ⟨rfl, hb1⟩
          · refine hX false (by simp [h5]) ?_
            clear hX
            go_enter Try.func73, Try.ntmps73
            go_wp2_with (go_at_call 27; refine HA.out.mono ?_; rintro e w1 ⟨rfl, hb1⟩; have c0 := HC.out w1 hb1)
            go_ret
            have h5' : decide (t < 0) = false := by simp; omega
            exact ⟨by show Ending.returned (.bool (decide (t < 0))) = _; rw [h5'], hb1⟩
        · refine hX false (by simp [h4]) ?_
          clear hX
          go_enter Try.func73, Try.ntmps73
          go_wp2_with (go_at_call 27; refine HA.out.mono ?_; rintro e w1 ⟨rfl, hb1⟩; have c0 := HC.out w1 hb1)
          go_ret
          exact ⟨rfl, hb1⟩
      · refine hX false (by simp [h3]) ?_
        clear hX
        go_enter Try.func73, Try.ntmps73
        go_wp2_with (go_at_call 27; refine HA.out.mono ?_; rintro e w1 ⟨rfl, hb1⟩; have c0 := HC.out w1 hb1)
        go_ret
        exact ⟨rfl, hb1⟩
    · refine hX false (by simp [h2]) ?_
      clear hX
      go_enter Try.func73, Try.ntmps73
      go_wp2_with (go_at_call 27; refine HA.out.mono ?_; rintro e w1 ⟨rfl, hb1⟩; have c0 := HC.out w1 hb1)
      go_ret
      exact ⟨rfl, hb1⟩
  · refine hX false (by simp [h1]) ?_
    clear hX
    go_enter Try.func73, Try.ntmps73
    go_wp2_with (go_at_call 27; refine HA.out.mono ?_; rintro e w1 ⟨rfl, hb1⟩; have c0 := HC.out w1 hb1)
    go_ret
    exact ⟨rfl, hb1⟩
/-- What List hands back: a row. -/
def RowRet (B : Nat) (w : World) (l : List Nat) (e : Ending) (w' : World) : Prop := ∃ A c, e = .returned (.slice A l.length c) ∧ RowOk B w ⟨A, l.length, c⟩ l ∧ w = w'
theorem rlist_any (gx h B n : Nat) (R : List (List Nat)) (row : Int) (w : World) (hc : Rch w gx h B n R) :
    Calls Try.prog 28 #[.pointer (some ⟨gx, 0, none⟩), .int .i64 row] w (RowRet B w (atR R row)) := by
  obtain ⟨S, hc⟩ := hc
  have hn4 := hc.n4
  have c0 := hc.bk.cell 0
  have c1 := hc.bk.cell 1
  have HNO : Hid (inC n row = false → RowRet B w (atR R row) (.returned (.slice none 0 0)) w) := Lib.hid (fun hi => by
    have : atR R row = [] := by
      unfold atR
      split
      · rename_i h0
        unfold inC at hi
        simp [h0] at hi
        rw [List.getElem?_eq_none (by rw [hc.rl]; omega)]; rfl
      · rfl
    rw [this]
    exact ⟨_, _, rfl, RowOk.nil0 _ _, rfl⟩)
  by_cases h0 : 0 ≤ row
  · by_cases h1 : row < (n : Int)
    · obtain ⟨k, rfl⟩ : ∃ k : Nat, row = k := ⟨row.toNat, by omega⟩
      have hk : k < n := by omega
      obtain ⟨⟨sa, sn, sc⟩, l, hl, hro, hcell⟩ := hc.get hk
      have hat := atR_in hc.rl hk
      rw [hl] at hat
      injection hat with hat
      rw [← hat]
      have hln := hro.len
      dsimp only at hcell hln
      subst hln
      have HRET : Hid (RowRet B w l (.returned (.slice sa l.length sc)) w) := Lib.hid ⟨_, _, rfl, hro, rfl⟩
      clear hc hl hro hat HNO
      go_enter Try.func28, Try.ntmps28
      go_wp2
      go_ret
      exact HRET.out
    · have HRET := Lib.hid (HNO.out (by unfold inC; simp [h1]))
      clear hc HNO
      go_enter Try.func28, Try.ntmps28
      go_wp2
      go_ret
      exact HRET.out
  · have HRET := Lib.hid (HNO.out (by unfold inC; simp [h0]))
    clear hc HNO
    go_enter Try.func28, Try.ntmps28
    go_wp2
    go_ret
    exact HRET.out
theorem Try.infoSl : (Try.prog.info? 22).map (fun i => (i.zero, i.size, i.bytes)) = some (some (.slice none 0 0), 1, 24) := by kernel_rfl
theorem make_sl (M : Nat) (hM : M ≤ 1000) (W : World) : ∃ W', (Instr.makeSlice 42 (.int .i64 (M : Int)) (.int .i64 (M : Int))).run Try.prog W = .ok (.slice (some ⟨W.heap.size, 0, none⟩) M M) W' ∧ RowAt enSl 22 1 W' W.heap.size M (List.replicate M ⟨none, 0, 0⟩) ∧ Below W.heap.size W W' := by
  obtain ⟨i0, hi, hz0, hz1, hz2⟩ := info_parts Try.infoSl
  obtain ⟨W', e, ho, hg⟩ := run_make_full (P := Try.prog) W W.heap.size 42 22 i0 _ 1 Try.underlying42 hi hz0 hz1 .i64 .i64 M (by rw [hz2]; omega) (by unfold maxLen; omega) (Nat.le_refl _)
  rw [made_flat (enc := enSl) (s := 1) (Value.slice none 0 0).cells ⟨none, 0, 0⟩ rfl rfl (by omega) enSl_len] at ho
  exact ⟨W', e, (RowAt.of ho (by simp)).1, (grown_keep hg (fun _ => False) (fun k h => by cases h)).below (Nat.le_refl _) (fun k h => h.elim)⟩
/-- What NewChain hands back. -/
def RchNew (w : World) (M : Nat) (e : Ending) (w' : World) : Prop := ∃ gx h, e = .returned (.pointer (some ⟨gx, 0, none⟩)) ∧ Rch w' gx h w'.heap.size M (List.replicate M []) ∧ w.heap.size ≤ gx ∧ w.heap.size ≤ h ∧ Below w.heap.size w w'
theorem rchNew_of (w W : World) (M : Nat) (hM : M ≤ 1000) (hr : RowAt enSl 22 1 W w.heap.size M (List.replicate M ⟨none, 0, 0⟩)) (hb : Below w.heap.size w W) (cs : Array Value) (hcs : cs = #[.int .i64 M, .slice (some ⟨w.heap.size, 0, none⟩) M M]) : RchNew w M (.returned (.pointer (some ⟨W.heap.size, 0, none⟩))) (W.alloc (.cells cs 44)) := by
  subst hcs
  have hs := hb.size
  have hlt := hr.lt
  refine ⟨_, _, rfl, ⟨_, Bk.new _ _ _, hr.keep (Keep.alloc _ _ (fun _ => False)) (fun h => h), by simp, by simp, by simp, by simp; omega, ?_, hM⟩, by omega, Nat.le_refl _, hb.alloc hs _⟩
  intro i s l h1 h2
  have e1 : s = ⟨none, 0, 0⟩ := List.eq_of_mem_replicate (List.mem_of_getElem? h1)
  have e2 : l = [] := List.eq_of_mem_replicate (List.mem_of_getElem? h2)
  subst e1
  subst e2
  exact RowOk.nil0 _ _
set_option maxRecDepth 100000 in
set_option maxHeartbeats 1000000 in
theorem rnew_any (n : Int) (hn : n ≤ 1000) (w : World) : Calls Try.prog 21 #[.int .i64 n] w (RchNew w n.toNat) := by
  by_cases h0 : 0 ≤ n
  · obtain ⟨M, rfl⟩ : ∃ M : Nat, n = M := ⟨n.toNat, by omega⟩
    rw [show ((M : Nat) : Int).toNat = M by omega]
    have hM : M ≤ 1000 := by omega
    obtain ⟨W', e, hr, hb⟩ := make_sl M hM w
    have HRET := Lib.hid (rchNew_of w W' M hM hr hb _ rfl)
    clear hr hb
    go_enter Try.func21, Try.ntmps21
    go_wp2
    go_ret
    exact HRET.out
  · rw [show n.toNat = 0 by omega]
    obtain ⟨W', e', hr, hb⟩ := make_sl 0 (by omega) w
    have e : (Instr.makeSlice 42 (.int .i64 0) (.int .i64 0)).run Try.prog w = .ok (.slice (some ⟨w.heap.size, 0, none⟩) 0 0) W' := e'
    have HRET := Lib.hid (rchNew_of w W' 0 (by omega) hr hb _ rfl)
    clear hr hb e'
    go_enter Try.func21, Try.ntmps21
    go_wp2
    go_ret
    exact HRET.out
end Go.Proofs.Ythkjkmjcnphjgaa
