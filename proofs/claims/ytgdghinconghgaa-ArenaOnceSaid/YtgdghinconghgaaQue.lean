/- A queue of ints in memory: pushed behind. No condition. -/
import Derived.Test.YtgdghinconghgaaMapS
import Derived.Test.YtgdghinconghgaaTab
import Derived.ArgAppend
import Derived.Laws.AppendOwn
import Derived.WalkSpells
set_option linter.unusedVariables false
set_option linter.unusedSimpArgs false
namespace Go.Proofs.Ytgdghinconghgaa
open Go.RowKit (wrap32 wrap64)
open Go.RowKit
theorem Try.infoQ : (Try.prog.info? 3).map (fun i => (i.zero, i.size, i.bytes)) = some (some (.int .i64 0), 1, 8) := by kernel_rfl
def qV (O : List Nat) : List Value := O.map fun k : Nat => Value.int .i64 (k : Int)
theorem qV_len (O : List Nat) : (qV O).length = O.length * 1 := by unfold qV; simp
theorem qV_get (O : List Nat) (j x : Nat) (h : O[j]? = some x) : (qV O)[j]? = some (.int .i64 x) := by unfold qV; rw [List.getElem?_map, h]; rfl
theorem qV_of (O : List Nat) (j : Nat) (u : Value) (h : (qV O)[j]? = some u) : ∃ x : Nat, O[j]? = some x ∧ u = .int .i64 x := by
  unfold qV at h
  rw [List.getElem?_map] at h
  cases hx : O[j]? with
  | none => rw [hx] at h; cases h
  | some x => rw [hx] at h; cases h; exact ⟨x, rfl, rfl⟩
theorem qV_app (O : List Nat) (x : Nat) : qV (O ++ [x]) = qV O ++ [.int .i64 x] := by unfold qV; simp
theorem que_of_own {w : World} {base b0 n : Nat} {v : Value} {O : List Nat} (ho : w.ownsRow b0 3 1 v n (qV O)) (hn : O.length = n) (hb : base ≤ b0) : Que w base v O := by
  rcases ho.2 with ⟨hv, h0⟩ | ⟨g, cap, cur, hv, hb', hg, hnc, hcm, hcs, ht⟩
  · exact .inl ⟨hv, List.eq_nil_of_length_eq_zero (by omega)⟩
  · refine .inr ⟨g, 0, cap, cur, by rw [hn]; exact hv, Nat.le_trans hb hb', by omega, hcm, hg, by omega, fun j x hx => ?_⟩
    have h1 := qV_get O j x hx
    rw [← ht, List.getElem?_take] at h1
    split at h1
    · rw [Nat.zero_add, ← Array.getElem?_toList]; exact h1
    · cases h1
/-- What the slice's block is. -/
def queB (v : Value) (i : Nat) : Prop := ∃ off n cap, v = .slice (some ⟨i, off, none⟩) n cap
theorem Que.push {w : World} {base : Nat} {v : Value} {O : List Nat} (h : Que w base v O) (x : Nat) (hn : O.length ≤ 1000) (hbase : base ≤ w.heap.size) (ty : TypeId) :
    ∃ v' w', (Builtin.append_ #[54, 54] ty #[v, .slice (some ⟨w.heap.size, 0, none⟩) 1 1]).run Try.prog (w.alloc (.cells #[.int .i64 x] 3)) = .ok v' w' ∧ Que w' base v' (O ++ [x]) ∧ Keep (fun i => queB v i) w w' := by
  obtain ⟨i0, hi, hz0, hz1, hz2⟩ := info_parts Try.infoQ
  have hlit : ∀ j u, ([Value.int .i64 x] : List Value)[j]? = some u → (w.alloc (.cells #[.int .i64 x] 3)).cell? ((⟨w.heap.size, 0, none⟩ : Addr).add j) = some u := by
    intro j u hu
    have hadd : (⟨w.heap.size, 0, none⟩ : Addr).add j = ⟨w.heap.size, j, none⟩ := by unfold Addr.add; split <;> simp_all
    rw [hadd, (Bk.new w 3 #[.int .i64 x]).cell j]
    simpa using hu
  have kA : Keep (fun i => queB v i) w (w.alloc (.cells #[.int .i64 x] 3)) := Keep.alloc _ _ _
  rcases h with ⟨rfl, rfl⟩ | ⟨b, off, cap, cur, hv, hb, hle, hm, hg, hs, hc⟩
  · obtain ⟨v', w', hrun, ho, hgr, _⟩ := run_append_own (P := Try.prog) (w.alloc (.cells #[.int .i64 x] 3)) w.heap.size 54 ty 3 i0 _ 1 8 Try.underlying54 hi hz0 hz1 hz2 rfl (by omega) (.slice none 0 0) 0 [] (World.ownsRow_nil _ _ _ _) ⟨w.heap.size, 0, none⟩ 1 1 [.int .i64 x] rfl hlit (by simp [Value.oneCell']) (by unfold maxLen; omega) (by omega) (by simp)
    refine ⟨v', w', hrun, que_of_own (O := [x]) ho rfl hbase, Keep.trans kA (grown_keep hgr _ (fun k hk => by cases hk))⟩
  · subst hv
    have hgA : (w.alloc (.cells #[.int .i64 x] 3)).heap[b]? = some (.cells cur 3 (0, 0)) := (Below.heap_alloc w _ b (Array.getElem?_eq_some_iff.1 hg).1).trans hg
    by_cases hroom : O.length + 1 ≤ cap
    · have hrun := run_append_room_cells (P := Try.prog) (w.alloc (.cells #[.int .i64 x] 3)) 54 ty 3 i0 Try.underlying54 hi b off O.length cap ⟨w.heap.size, 0, none⟩ 1 1 [.int .i64 x] (by rw [hz1]; rfl) hlit (by simp [Value.oneCell']) hroom (by
        intro j hj
        have hj0 : j = 0 := by simpa using hj
        subst hj0
        rw [hz1, cell_of_row _ b _ cur _ _ hgA, Array.getElem?_eq_getElem (by omega)]; rfl) (by
        intro j hj
        exact frozen_of_row _ b _ cur _ hgA)
      rw [hz1] at hrun
      refine ⟨_, _, hrun, .inr ⟨b, off, cap, cur.setIfInBounds (off + O.length * 1) (.int .i64 x), ?_, hb, ?_, hm, ?_, ?_, ?_⟩, ?_⟩
      · rw [List.length_append]; rfl
      · rw [List.length_append]; exact hroom
      · exact heap_setCell_same _ b _ cur _ _ hgA
      · rw [Array.size_setIfInBounds]; exact hs
      · intro j y hy
        rw [Array.getElem?_setIfInBounds]
        by_cases e : off + O.length * 1 = off + j
        · rw [if_pos e, if_pos (by omega)]
          rw [List.getElem?_append_right (by omega), show j - O.length = 0 by omega] at hy
          cases hy
          rfl
        · rw [if_neg e]
          have hj : j < O.length := by
            have := (List.getElem?_eq_some_iff.1 hy).1
            rw [List.length_append] at this
            simp at this
            omega
          rw [List.getElem?_append_left hj] at hy
          exact hc j y hy
      · exact Keep.trans kA (Keep.set _ b _ _ _ ⟨off, O.length, cap, rfl⟩)
    · obtain ⟨v', w', hrun, ho, hgr⟩ := run_append_arg_grows (P := Try.prog) (w.alloc (.cells #[.int .i64 x] 3)) 54 ty 3 i0 _ 1 8 Try.underlying54 hi hz0 hz1 hz2 rfl (by omega) ⟨b, off, none⟩ O.length cap (qV O) (qV_len O) (by
        intro j u hu
        obtain ⟨y, hy, rfl⟩ := qV_of O j u hu
        have hadd : (⟨b, off, none⟩ : Addr).add j = ⟨b, off + j, none⟩ := by unfold Addr.add; split <;> simp_all
        rw [hadd, cell_of_row _ b _ cur _ _ hgA]
        exact hc j y hy) ⟨w.heap.size, 0, none⟩ 1 1 [.int .i64 x] rfl hlit (by omega) (by unfold maxLen; omega) (by omega)
      rw [← qV_app] at ho
      exact ⟨v', w', hrun, que_of_own ho (by simp) (by simp; omega), Keep.trans kA (grown_keep hgr _ (fun k hk => by cases hk))⟩
end Go.Proofs.Ytgdghinconghgaa
