/- arena's Used: what its closure hands to a loop. No condition. -/
import Derived.RangeFuncNested
import Derived.RangeFuncBound
import Derived.RangeFuncCalls
import Derived.RangeFuncLeaves
import Derived.Shelf.Abstract
import Derived.Shelf.RegionOpen
import Derived.WalkKit
import Derived.OwnWalkIn
import Derived.TacticsInMore
import Derived.LoopNIn
import Derived.LoopIn
import Derived.Test.YtgdghinconghgaaArena
set_option linter.unusedVariables false
set_option linter.unusedSimpArgs false
namespace Go.Proofs.Ytgdghinconghgaa
open Go.RowKit (wrap32 wrap64)
open Go.RowKit Go.Shelf
attribute [local go_sem] Oper.semAt_some
def usedTo (L : List Pl) : Nat → List (Nat × Int)
  | 0 => []
  | k + 1 => match usA L k with
    | some p => usedTo L k ++ [(k, p.x)]
    | none => usedTo L k
theorem usedTo_le (L : List Pl) (k : Nat) : (usedTo L k).length ≤ k := by
  induction k with
  | zero => exact Nat.le_refl _
  | succ k ih =>
    unfold usedTo
    split
    · simp; omega
    · omega
theorem Keep.cellS {S : Nat → Prop} {w w1 : World} (k : Keep S w w1) {p : Addr} {v : Value} (h : w.cell? p = some v) (hS : ¬ S p.block) : w1.cell? p = some v := (World.cell?_of_block (k.block p.block (World.block_lt_of_cell? w p h) hS)).trans h
theorem Keep.ofB {n : Nat} {w w' : World} (h : Below n w w') : Keep (fun k => n ≤ k) w w' := ⟨h.os, h.tape, h.output, h.size, fun k hk hs => h.block k (by omega)⟩
theorem Ar.belowN {n : Nat} {w w' : World} {g h : Nat} {L : List Pl} {f u : Int} (b : Ar w g h L f u) (k : Below n w w') (hg : g < n) (hh : h < n) : Ar w' g h L f u := b.keep (Keep.ofB k) (by omega) (by omega)
set_option maxRecDepth 100000 in
set_option maxHeartbeats 2000000 in
theorem used1_in (n : Nat) (hn : 1 ≤ n) (l Bs n₀ g h : Nat) (L : List Pl) (f u : Int) (hL : L.length ≤ 1000) (hg : g < n₀) (hh : h < n₀) (J Jx : List (Nat × Int) → World → Prop)
    (hY : ∀ pre x W, J pre W → pre.length < L.length → YieldAt Fence.wide (n - 1) Try.prog l #[.int .i64 (x.1 : Int), .int .i64 x.2] W fun e W' =>
      (e = .returned (.bool true) ∧ J (pre ++ [x]) W' ∧ Keep (fun k => n₀ ≤ k ∧ k ≠ Bs) W W') ∨ (e = .returned (.bool false) ∧ Jx (pre ++ [x]) W'))
    (W : World) (hBs : W.cell? ⟨Bs, 0, none⟩ = some (.pointer (some ⟨g, 0, none⟩))) (hA : Ar W g h L f u) (h0 : J [] W) :
    CallsIn Fence.wide n Try.prog 71 #[.func (.yield l) #[] #[], .pointer (some ⟨Bs, 0, none⟩)] W fun e W' => (∃ v, e = .returned v) ∧
      ((∃ ys, ys = usedTo L L.length ∧ J ys W') ∨ (∃ pre, (∃ k, k ≤ L.length ∧ pre = usedTo L k) ∧ Jx pre W')) := by
  have c0 := hA.cells.1.1
  have hN0 : L.length = L.length := rfl
  generalize hN : L.length = N at c0 hY hL ⊢
  have HN := Lib.hid hN
  have HY := Lib.hid hY
  have HA := Lib.hid hA
  clear hN hN0 hY hA
  refine callsIn_of_wp Try.func71 rfl trivial ?_ rfl
  simp only [Try.ntmps71, List.size_toArray, List.length_cons, List.length_nil, Nat.reduceAdd, Nat.reduceSub, Array.replicate_succ, Array.replicate_zero, List.push_toArray, List.append_toArray, List.nil_append, List.cons_append]
  gi_wp2
  gi_loopw [13] (fun i wr => ∃ k : Nat, k ≤ N ∧ i = .int .i64 k ∧ J (usedTo L k) wr ∧ Keep (fun k => n₀ ≤ k ∧ k ≠ Bs) W wr)
    (fun i _ => N - (intOf i).toNat)
  case atStart => exact ⟨0, Nat.zero_le _, rfl, h0, Keep.refl _ _⟩
  case round =>
    obtain ⟨k, hk, rfl, hJs, hnx⟩ := hrel
    have hBr : wr.cell? ⟨Bs, 0, none⟩ = some (.pointer (some ⟨g, 0, none⟩)) := Keep.cellS hnx hBs (fun q => q.2 rfl)
    have hAr := HA.out.keep hnx (fun q => by omega) (fun q => by omega)
    by_cases hlt : k < N
    · have hget := aget_any g h L f u k wr hAr (by rw [HN.out]; exact hL)
      cases hu : usA L k with
      | none =>
        have hs : usedTo L (k + 1) = usedTo L k := by show (match usA L k with | some p => _ | none => _) = _; rw [hu]
        rw [hu] at hget
        have HS := Lib.hid hs
        have HG := Lib.hid hget
        clear hs hget hu hAr
        gi_wp2_with (first | (refine ⟨trivial, ?_⟩; gi_at_call 30; refine (callsIn_wide.2 HG.out).mono ?_; rintro e w' ⟨rfl, rfl⟩; dsimp only [Option.isSome_none]))
        refine ⟨fun _ h => (by cases h), ?_⟩
        gi_wp2
        go_roundw
        case rel => exact ⟨k + 1, by omega, by simp, by rw [HS.out]; exact hJs, hnx⟩
        case measure => simp [intOf]; omega
      | some p =>
        have hs : usedTo L (k + 1) = usedTo L k ++ [(k, p.x)] := by show (match usA L k with | some p => _ | none => _) = _; rw [hu]
        have hlen := usedTo_le L k
        obtain ⟨fn, tmps, assign, body, hy, hR⟩ := HY.out _ (k, p.x) wr hJs (by omega)
        dsimp only at hy
        rw [hu] at hget
        have HS := Lib.hid hs
        have HG := Lib.hid hget
        clear hs hget hu hAr
        unfold xOf at HG
        gi_wp2_with (first | (refine ⟨trivial, ?_⟩; gi_at_call 30; refine (callsIn_wide.2 HG.out).mono ?_; rintro e w' ⟨rfl, rfl⟩; dsimp only [Option.isSome_some]))
        refine hR.mono ?_
        rintro e W3 (⟨rfl, hJ3, hk3⟩ | ⟨rfl, hJx3⟩)
        · gi_wp2
          go_roundw
          case rel => exact ⟨k + 1, by omega, by simp, by rw [HS.out]; exact hJ3, hnx.trans hk3⟩
          case measure => simp [intOf]; omega
        · gi_wp2
          refine bodyPost_ret (results_none rfl _ _ _) rfl ?_
          exact ⟨⟨_, rfl⟩, .inr ⟨_, ⟨k + 1, by omega, HS.out.symm⟩, hJx3⟩⟩
    · obtain rfl : k = N := by omega
      gi_wp2
      go_end0
      exact ⟨⟨_, rfl⟩, .inl ⟨_, rfl, hJs⟩⟩
/-- Used of an arena: the function value captures a box. -/
theorem used_in (n : Nat) (p0 : Option Addr) (w : World) :
    CallsIn Fence.wide n Try.prog 44 #[.pointer p0] w fun e w' => e = .returned (.func (.func 71) #[] #[.pointer (some ⟨w.heap.size, 0, none⟩)]) ∧ w' = w.alloc (.cells #[.pointer p0] 41) := by
  refine callsIn_of_wp Try.func44 rfl trivial ?_ rfl
  simp only [Try.ntmps44, List.size_toArray, List.length_cons, List.length_nil, Nat.reduceAdd, Nat.reduceSub, Array.replicate_succ, Array.replicate_zero, List.push_toArray, List.append_toArray, List.nil_append, List.cons_append]
  gi_wp2
  go_ret
  exact ⟨rfl, rfl⟩
theorem usedTo_pre (L : List Pl) (k n : Nat) (h : k ≤ n) : usedTo L k <+: usedTo L n := by
  induction n with
  | zero => obtain rfl : k = 0 := by omega
            exact List.prefix_refl _
  | succ n ih =>
    by_cases e : k = n + 1
    · subst e; exact List.prefix_refl _
    · have := ih (by omega)
      refine this.trans ?_
      show usedTo L n <+: (match usA L n with | some p => usedTo L n ++ [(n, p.x)] | none => usedTo L n)
      split
      · exact List.prefix_append _ _
      · exact List.prefix_refl _
theorem used_stops (n : Nat) (hn : 1 ≤ n) (Bs n₀ g h : Nat) (L : List Pl) (f u : Int) (hL : L.length ≤ 1000) (w : World) (hBw : Bs < w.heap.size) (hg : g < n₀) (hh : h < n₀)
    (hc : w.cell? ⟨Bs, 0, none⟩ = some (.pointer (some ⟨g, 0, none⟩))) (hA : Ar w g h L f u) :
    SeqStopsK Fence.wide n Try.prog 71 #[.pointer (some ⟨Bs, 0, none⟩)] (fun x : Nat × Int => #[.int .i64 (x.1 : Int), .int .i64 x.2]) (Keep (fun k => n₀ ≤ k ∧ k ≠ Bs)) (fun ys => ys = usedTo L L.length) (fun pre => pre <+: usedTo L L.length) L.length w := fun l J Jx W hW _ _ hY h0 => by
  have hc' := (hW.cell (p := ⟨Bs, 0, none⟩) hBw).trans hc
  refine (used1_in n hn l Bs n₀ g h L f u hL hg hh J Jx hY W hc' (hA.below hW) h0).mono ?_
  rintro e W' ⟨he, ⟨ys, rfl, hj⟩ | ⟨pre, ⟨k, hk, rfl⟩, hj⟩⟩
  · exact ⟨he, .inl ⟨_, rfl, hj⟩⟩
  · exact ⟨he, .inr ⟨_, usedTo_pre L k _ hk, hj⟩⟩
set_option maxRecDepth 100000 in
set_option maxHeartbeats 2000000 in
theorem used1_nil (n : Nat) (l Bs : Nat) (J : List (Nat × Int) → World → Prop) (W : World) (hBs : W.cell? ⟨Bs, 0, none⟩ = some (.pointer none)) (h0 : J [] W) :
    CallsIn Fence.wide n Try.prog 71 #[.func (.yield l) #[] #[], .pointer (some ⟨Bs, 0, none⟩)] W fun e W' => (∃ v, e = .returned v) ∧ J [] W' := by
  refine callsIn_of_wp Try.func71 rfl trivial ?_ rfl
  simp only [Try.ntmps71, List.size_toArray, List.length_cons, List.length_nil, Nat.reduceAdd, Nat.reduceSub, Array.replicate_succ, Array.replicate_zero, List.push_toArray, List.append_toArray, List.nil_append, List.cons_append]
  gi_wp2
  refine bodyPost_ret (results_none rfl _ _ _) rfl ?_
  exact ⟨⟨_, rfl⟩, h0⟩
theorem used_nil_stops (n : Nat) (Bs n₀ : Nat) (w : World) (hBw : Bs < w.heap.size) (hc : w.cell? ⟨Bs, 0, none⟩ = some (.pointer none)) :
    SeqStopsK Fence.wide n Try.prog 71 #[.pointer (some ⟨Bs, 0, none⟩)] (fun x : Nat × Int => #[.int .i64 (x.1 : Int), .int .i64 x.2]) (Keep (fun k => n₀ ≤ k ∧ k ≠ Bs)) (fun ys => ys = []) (fun pre => pre <+: []) 0 w := fun l J Jx W hW _ _ hY h0 => by
  have hc' := (hW.cell (p := ⟨Bs, 0, none⟩) hBw).trans hc
  exact (used1_nil n l Bs J W hc' h0).mono fun e W' ⟨he, hj⟩ => ⟨he, .inl ⟨_, rfl, hj⟩⟩
set_option maxRecDepth 100000 in
set_option maxHeartbeats 2000000 in
/-- Len: how many Used hands over. -/
theorem alen_any (g h : Nat) (L : List Pl) (f u : Int) (w : World) (b : Ar w g h L f u) (hL : L.length ≤ 1000) :
    Calls Try.prog 31 #[.pointer (some ⟨g, 0, none⟩)] w fun e w' => e = .returned (.int .i64 (usedTo L L.length).length) ∧ Below w.heap.size w w' := by
  have hlen := usedTo_le L L.length
  have hgl := b.lt
  refine (callsIn_wide (n := 3)).1 ?_
  refine callsIn_of_wp_marks Try.func31 rfl trivial ?_ rfl
  simp only [Try.ntmps31, List.size_toArray, List.length_cons, List.length_nil, Nat.reduceAdd, Nat.reduceSub, Array.replicate_succ, Array.replicate_zero, List.push_toArray, List.append_toArray, List.nil_append, List.cons_append]
  gi_wp2_with (first | (refine ⟨trivial, ?_⟩; gi_at_call 44; refine (used_in _ _ _).mono ?_; rintro e w' ⟨rfl, rfl⟩))
  have hs : (w.alloc (.cells #[.int .i64 0] 3)).cell? ⟨w.heap.size, 0, none⟩ = some (.int .i64 0) ∧ (w.alloc (.cells #[.int .i64 0] 3)).frozen? ⟨w.heap.size, 0, none⟩ = false := ⟨(Bk.new w 3 #[.int .i64 0]).cell 0, (Bk.new w 3 #[.int .i64 0]).frozen 0⟩
  have hb := (Bk.new (w.alloc (.cells #[.int .i64 0] 3)) 41 #[.pointer (some ⟨g, 0, none⟩)]).cell 0
  rw [World.size_alloc] at hb
  have hB0 : Below w.heap.size w ((w.alloc (.cells #[.int .i64 0] 3)).alloc (.cells #[.pointer (some ⟨g, 0, none⟩)] 41)) := ((Below.refl _ w).alloc (Nat.le_refl _) _).alloc (by simp) _
  refine wpIn_rangeFunc_ownF rfl (by omega) (gf := 71) (lb := #[.pointer (some ⟨w.heap.size + 1, 0, none⟩)]) rfl trivial (enters_of Try.func71 (by kernel_rfl) rfl)
    (used_stops 2 (by omega) (w.heap.size + 1) w.heap.size g h L f u hL _ (by simp) hgl.1 hgl.2 hb (b.below hB0)) Keep.trans
    (fun W l o o' hl ho h1 h2 => grown_keep (grownBy_putObj' W l o') _ (fun k e => by cases e; simp at hl; constructor <;> omega)) (Below.refl _ _) (fun _ => rfl)
    (fun pre W => (W.cell? ⟨w.heap.size, 0, none⟩ = some (.int .i64 pre.length) ∧ W.frozen? ⟨w.heap.size, 0, none⟩ = false) ∧ Below w.heap.size w W)
    (fun _ _ _ => False)
    (OwnFrom.and (Own.from (fun s A B row hs hg hr => ⟨cell_kept hs.1 hg hr, (frozen_kept hs.1 hg hr).trans hs.2⟩) _) (ownFrom_below (Nat.le_refl _) (by simp; omega)))
    (fun _ _ _ _ _ hs _ _ => hs)
    ⟨⟨cell_new_a _ hs.1, frozen_new_a _ hs.1 hs.2⟩, hB0⟩
    (fun x => { tmps := #[.pointer (some ⟨g, 0, none⟩), undef, .int .i64 0, .pointer (some ⟨w.heap.size, 0, none⟩), .pointer (some ⟨g, 0, none⟩), .func (.func 71) #[] #[.pointer (some ⟨w.heap.size + 1, 0, none⟩)], .int .i64 (x.1 : Int), .int .i64 x.2, undef, undef, undef], defers := [] }) ?assign ?body ?done ?stop
  case assign =>
    intro l x W K hK
    gi_wp2
    refine cast (congrArg (fun t => K { tmps := t, defers := [] } W) ?_) hK
    first
      | rfl
      | kernel_rfl
      | (simp [Array.zip, Array.zipWith]; done)
  case body =>
    rintro l pre x W ⟨⟨hc, hf⟩, hB⟩ hpre
    have t1 : IntKind.i64.wrap ((pre.length : Int) + 1) = (pre.length : Int) + 1 := by rw [IntKind.wrap_i64]; omega
    gi_wp2
    exact ⟨KeepsOthers.setCell _ _ _, Keep.set W w.heap.size 0 _ _ ⟨Nat.le_refl _, by omega⟩, ⟨by rw [List.length_append]; exact World.cell?_setCell_same' _ _ _ (by rw [hc]; rfl), by rw [World.frozen?_setCell]; exact hf⟩, hB.setCell (p := ⟨w.heap.size, 0, none⟩) (Nat.le_refl _) _⟩
  case done =>
    rintro D ys W hD rfl ⟨⟨hc, _⟩, hB⟩ hK
    gi_wp2
    refine ⟨by simp, .inl ⟨_, _, rfl, run_takeDeferred hK, ?_⟩⟩
    exact ⟨_, results_tmp rfl _ _ _, rfl, hB.trans (belowK_b (w := w) (Nat.le_refl _) W D _ _ (by simp at hD; omega) hK rfl rfl)⟩
  case stop =>
    rintro D c pre W _ _ h _
    exact h.elim
end Go.Proofs.Ytgdghinconghgaa
