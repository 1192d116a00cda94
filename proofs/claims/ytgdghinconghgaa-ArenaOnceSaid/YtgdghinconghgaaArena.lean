/- The contracts of package arena: New, Left, has, Get, Set. No condition. -/
import Derived.Test.YtgdghinconghgaaTab
import Derived.StillTailTactics
set_option linter.unusedVariables false
set_option linter.unusedSimpArgs false
namespace Go.Proofs.Ytgdghinconghgaa
open Go.RowKit (wrap32 wrap64)
open Go.RowKit
structure Pl where
  x : Int
  used : Bool
  next : Int
def enP (p : Pl) : List Value := [.int .i64 p.x, .bool p.used, .int .i64 p.next]
theorem enP_len (p : Pl) : (enP p).length = 3 := rfl
def Ar (w : World) (g h : Nat) (L : List Pl) (f u : Int) : Prop :=
  Bk w g 110 #[.slice (some ⟨h, 0, none⟩) L.length L.length, .int .i64 f, .int .i64 u] ∧ w.ownsRow 0 112 3 (.slice (some ⟨h, 0, none⟩) L.length L.length) L.length (flatV enP L) ∧ g ≠ h
theorem Ar.cells {w : World} {g h : Nat} {L : List Pl} {f u : Int} (b : Ar w g h L f u) :
    (w.cell? ⟨g, 0, none⟩ = some (.slice (some ⟨h, 0, none⟩) L.length L.length) ∧ w.cell? ⟨g, 1, none⟩ = some (.int .i64 f) ∧ w.cell? ⟨g, 2, none⟩ = some (.int .i64 u)) ∧ (w.frozen? ⟨g, 1, none⟩ = false ∧ w.frozen? ⟨g, 2, none⟩ = false) :=
  ⟨⟨b.1.cell 0, b.1.cell 1, b.1.cell 2⟩, b.1.frozen 1, b.1.frozen 2⟩
theorem Ar.lt {w : World} {g h : Nat} {L : List Pl} {f u : Int} (b : Ar w g h L f u) : g < w.heap.size ∧ h < w.heap.size := ⟨b.1.lt, (b.2.1.lt h rfl).2⟩
theorem Ar.keep {w w1 : World} {S : Nat → Prop} {g h : Nat} {L : List Pl} {f u : Int} (b : Ar w g h L f u) (k : Keep S w w1) (hg : ¬ S g) (hh : ¬ S h) : Ar w1 g h L f u :=
  ⟨k.bk b.1 hg, own_keep b.2.1 k hh, b.2.2⟩
theorem Ar.below {w w1 : World} {g h : Nat} {L : List Pl} {f u : Int} (b : Ar w g h L f u) (k : Below w.heap.size w w1) : Ar w1 g h L f u := b.keep (Keep.of_below k (fun _ => False)) (fun h => h) (fun h => h)
theorem Ar.get {w : World} {g h : Nat} {L : List Pl} {f u : Int} (b : Ar w g h L f u) (i : Nat) (p : Pl) (hp : L[i]? = some p) :
    (w.cell? ⟨h, i * 3, none⟩ = some (.int .i64 p.x) ∧ w.cell? ⟨h, i * 3 + 1, none⟩ = some (.bool p.used) ∧ w.cell? ⟨h, i * 3 + 2, none⟩ = some (.int .i64 p.next)) ∧
    (w.frozen? ⟨h, i * 3, none⟩ = false ∧ w.frozen? ⟨h, i * 3 + 1, none⟩ = false ∧ w.frozen? ⟨h, i * 3 + 2, none⟩ = false) := by
  have hk : i < L.length := (List.getElem?_eq_some_iff.1 hp).1
  have hc : ∀ j, j < 3 → w.cell? ⟨h, i * 3 + j, none⟩ = (enP p)[j]? := fun j hj => by
    rw [b.2.1.cellAt (i * 3 + j) (by omega)]
    exact flatV_get enP_len L i p hp j hj
  exact ⟨⟨hc 0 (by omega), hc 1 (by omega), hc 2 (by omega)⟩, b.2.1.frozenAt _, b.2.1.frozenAt _, b.2.1.frozenAt _⟩
theorem flatV_set1 {α : Type} {enc : α → List Value} {s : Nat} (h : ∀ a, (enc a).length = s) (L : List α) (i j : Nat) (v : Value) (x y : α) (hx : L[i]? = some x) (hj : j < s) (hy : enc y = (enc x).set j v) : (flatV enc L).set (i * s + j) v = flatV enc (L.set i y) := by
  induction L generalizing i with
  | nil => simp at hx
  | cons z L ih =>
    cases i with
    | zero =>
      simp at hx; subst hx
      rw [flatV_cons, List.set_cons_zero, flatV_cons, hy, Nat.zero_mul, Nat.zero_add, List.set_append_left _ _ (by rw [h]; exact hj)]
    | succ i =>
      simp at hx
      rw [flatV_cons, List.set_cons_succ, flatV_cons, ← ih i hx, List.set_append_right _ _ (by rw [h, Nat.add_mul]; omega), h]
      congr 2
      rw [Nat.add_mul]; omega
theorem ar_next {w : World} {g h : Nat} {L : List Pl} {f u : Int} (b : Ar w g h L f u) (i : Nat) (p : Pl) (hp : L[i]? = some p) (n : Int) :
    Ar (w.setCell ⟨h, i * 3 + 2, none⟩ (.int .i64 n)) g h (L.set i ⟨p.x, p.used, n⟩) f u ∧ Keep (fun k => k = h) w (w.setCell ⟨h, i * 3 + 2, none⟩ (.int .i64 n)) := by
  have kk : Keep (fun k => k = h) w (w.setCell ⟨h, i * 3 + 2, none⟩ (.int .i64 n)) := Keep.set _ h _ _ _ rfl
  refine ⟨⟨?_, ?_, b.2.2⟩, kk⟩
  · rw [List.length_set]; exact kk.bk b.1 b.2.2
  · rw [List.length_set, ← flatV_set1 enP_len L i 2 (.int .i64 n) p ⟨p.x, p.used, n⟩ hp (by omega) rfl]
    exact (b.2.1.stored _ _).1
theorem ar_x {w : World} {g h : Nat} {L : List Pl} {f u : Int} (b : Ar w g h L f u) (i : Nat) (p : Pl) (hp : L[i]? = some p) (n : Int) :
    Ar (w.setCell ⟨h, i * 3, none⟩ (.int .i64 n)) g h (L.set i ⟨n, p.used, p.next⟩) f u ∧ Keep (fun k => k = h) w (w.setCell ⟨h, i * 3, none⟩ (.int .i64 n)) := by
  have kk : Keep (fun k => k = h) w (w.setCell ⟨h, i * 3, none⟩ (.int .i64 n)) := Keep.set _ h _ _ _ rfl
  refine ⟨⟨?_, ?_, b.2.2⟩, kk⟩
  · rw [List.length_set]; exact kk.bk b.1 b.2.2
  · rw [List.length_set, ← flatV_set1 enP_len L i 0 (.int .i64 n) p ⟨n, p.used, p.next⟩ hp (by omega) rfl]
    exact (b.2.1.stored _ _).1
theorem ar_place {w : World} {g h : Nat} {L : List Pl} {f u : Int} (b : Ar w g h L f u) (i : Nat) (hi : i < L.length) (p : Pl) :
    Ar (((w.setCell ⟨h, i * 3, none⟩ (.int .i64 p.x)).setCell ⟨h, i * 3 + 1, none⟩ (.bool p.used)).setCell ⟨h, i * 3 + 2, none⟩ (.int .i64 p.next)) g h (L.set i p) f u ∧
    Keep (fun k => k = h) w (((w.setCell ⟨h, i * 3, none⟩ (.int .i64 p.x)).setCell ⟨h, i * 3 + 1, none⟩ (.bool p.used)).setCell ⟨h, i * 3 + 2, none⟩ (.int .i64 p.next)) := by
  have kk : Keep (fun k => k = h) w (((w.setCell ⟨h, i * 3, none⟩ (.int .i64 p.x)).setCell ⟨h, i * 3 + 1, none⟩ (.bool p.used)).setCell ⟨h, i * 3 + 2, none⟩ (.int .i64 p.next)) :=
    Keep.trans (Keep.trans (Keep.set _ h _ _ _ rfl) (Keep.set _ h _ _ _ rfl)) (Keep.set _ h _ _ _ rfl)
  refine ⟨⟨?_, ?_, b.2.2⟩, kk⟩
  · rw [List.length_set]; exact kk.bk b.1 b.2.2
  · rw [List.length_set, ← flatV_set enP_len L i p hi]
    exact ((((b.2.1.stored _ _).1).stored _ _).1.stored _ _).1
theorem ar_first {w : World} {g h : Nat} {L : List Pl} {f u : Int} (b : Ar w g h L f u) (n : Int) :
    Ar (w.setCell ⟨g, 1, none⟩ (.int .i64 n)) g h L n u ∧ Keep (fun k => k = g) w (w.setCell ⟨g, 1, none⟩ (.int .i64 n)) :=
  ⟨⟨b.1.set 1 _, own_keep b.2.1 (Keep.set w g 1 _ (fun k => k = g) rfl) (fun e => b.2.2 e.symm), b.2.2⟩, Keep.set _ g _ _ _ rfl⟩
theorem ar_used {w : World} {g h : Nat} {L : List Pl} {f u : Int} (b : Ar w g h L f u) (n : Int) :
    Ar (w.setCell ⟨g, 2, none⟩ (.int .i64 n)) g h L f n ∧ Keep (fun k => k = g) w (w.setCell ⟨g, 2, none⟩ (.int .i64 n)) :=
  ⟨⟨b.1.set 2 _, own_keep b.2.1 (Keep.set w g 2 _ (fun k => k = g) rfl) (fun e => b.2.2 e.symm), b.2.2⟩, Keep.set _ g _ _ _ rfl⟩
theorem Try.infoP : (Try.prog.info? 112).map (fun i => (i.zero, i.size, i.bytes)) = some (some (.agg #[.int .i64 0, .bool false, .int .i64 0]), 3, 24) := by kernel_rfl
theorem made_pl (M : Nat) : (madeCells (Value.agg #[.int .i64 0, .bool false, .int .i64 0]).cells (M * 3)).toList = flatV enP (List.replicate M ⟨0, false, 0⟩) := made_flat (enc := enP) (s := 3) _ ⟨0, false, 0⟩ rfl rfl (by omega) enP_len M
def freshTo (M k : Nat) : List Pl := (List.range M).map fun i => if i < k then ⟨0, false, i + 1⟩ else ⟨0, false, 0⟩
theorem freshTo_len (M k : Nat) : (freshTo M k).length = M := by unfold freshTo; simp
theorem freshTo_get (M k i : Nat) (hi : i < M) : (freshTo M k)[i]? = some (if i < k then ⟨0, false, i + 1⟩ else ⟨0, false, 0⟩) := by unfold freshTo; simp [hi]
theorem freshTo_set (M k : Nat) (hk : k < M) : (freshTo M k).set k ⟨0, false, k + 1⟩ = freshTo M (k + 1) := by
  apply List.ext_getElem?
  intro i
  by_cases hi : i < M
  · rw [freshTo_get M (k + 1) i hi]
    by_cases e : i = k
    · subst e
      rw [List.getElem?_set_self (by rw [freshTo_len]; exact hi)]; simp
    · rw [List.getElem?_set_ne (fun q => e q.symm), freshTo_get M k i hi]
      congr 1
      by_cases h1 : i < k
      · rw [if_pos h1, if_pos (by omega)]
      · rw [if_neg h1, if_neg (by omega)]
  · rw [List.getElem?_eq_none (by rw [List.length_set, freshTo_len]; omega), List.getElem?_eq_none (by rw [freshTo_len]; omega)]
theorem freshTo_zero (M : Nat) : freshTo M 0 = List.replicate M ⟨0, false, 0⟩ := by
  unfold freshTo
  apply List.ext_getElem?
  intro i
  by_cases hi : i < M
  · simp [hi]
  · simp [hi]
def ANew (w : World) (M : Nat) (e : Ending) (w' : World) : Prop := ∃ g h, e = .returned (.pointer (some ⟨g, 0, none⟩)) ∧ Ar w' g h (freshTo M M) 0 0 ∧ w.heap.size ≤ g ∧ w.heap.size ≤ h ∧ Below w.heap.size w w'
theorem anew_start {w w1 : World} {M : Nat} (hown : w1.ownsRow w.heap.size 112 3 (.slice (some ⟨w.heap.size, 0, none⟩) M M) M (flatV enP (List.replicate M ⟨0, false, 0⟩))) (hgr : w.grownBy w1 none) :
    Ar (w1.alloc (.cells #[.slice (some ⟨w.heap.size, 0, none⟩) M M, .int .i64 0, .int .i64 0] 110)) w1.heap.size w.heap.size (freshTo M 0) 0 0 ∧ w.heap.size ≤ w1.heap.size ∧ Below w.heap.size w (w1.alloc (.cells #[.slice (some ⟨w.heap.size, 0, none⟩) M M, .int .i64 0, .int .i64 0] 110)) := by
  have hlt := (hown.lt w.heap.size rfl).2
  have hb : Below w.heap.size w w1 := (Below.refl _ _).grown hgr (Nat.le_refl _) (fun k h => by cases h)
  rw [freshTo_zero]
  refine ⟨⟨?_, ?_, by omega⟩, by omega, hb.alloc hb.size _⟩
  · rw [List.length_replicate]; exact Bk.new _ _ _
  · rw [List.length_replicate]; exact (own_weaken hown (Nat.zero_le _)).alloc _
set_option maxRecDepth 100000 in
set_option maxHeartbeats 2000000 in
theorem anew_any (M : Nat) (n : Int) (hn : (n < 0 ∧ M = 0) ∨ n = M) (hM : M ≤ 1000) (w : World) : Calls Try.prog 26 #[.int .i64 n] w (ANew w M) := by
  obtain ⟨i0, hi, hz0, hz1, hz2⟩ := info_parts Try.infoP
  rcases hn with ⟨hn, rfl⟩ | rfl
  · go_enter Try.func26, Try.ntmps26
    go_wp2_with (first | (at_make; refine wpList_make_full _ rfl _ _ _ rfl w.heap.size 112 i0 _ 3 Try.underlying108 hi hz0 hz1 .i64 .i64 0 0 0 rfl rfl rfl rfl (by rw [hz2]; omega) (by unfold maxLen; omega) (Nat.le_refl _) ?_; intro w1 hown hgr; rw [made_pl] at hown; obtain ⟨a1, a2, a3⟩ := anew_start hown hgr; have c0 := a1.cells.1.1; rw [freshTo_len] at c0))
    go_loopw [16] (fun c wr => ∃ k : Nat, k ≤ 0 ∧ c = .int .i64 k ∧ Ar wr w1.heap.size w.heap.size (freshTo 0 k) 0 0 ∧ Below w.heap.size w wr) (fun c _ => 0 - (intOf c).toNat)
    case atStart => exact ⟨0, by omega, rfl, a1, a3⟩
    case round =>
      clear a1 a3
      obtain ⟨k, hk, rfl, hA, HB⟩ := hrel
      by_cases hlt : k < 0
      · exact absurd hlt (Nat.not_lt_zero _)
      · obtain rfl : k = 0 := by omega
        clear hown hgr
        go_wp2
        go_ret
        exact ⟨_, _, rfl, hA, a2, Nat.le_refl _, HB⟩
  · go_enter Try.func26, Try.ntmps26
    go_wp2_with (first | (at_make; refine wpList_make_full _ rfl _ _ _ rfl w.heap.size 112 i0 _ 3 Try.underlying108 hi hz0 hz1 .i64 .i64 M M M rfl rfl rfl rfl (by rw [hz2]; omega) (by unfold maxLen; omega) (Nat.le_refl _) ?_; intro w1 hown hgr; rw [made_pl] at hown; obtain ⟨a1, a2, a3⟩ := anew_start hown hgr; have c0 := a1.cells.1.1; rw [freshTo_len] at c0))
    go_loopw [16] (fun c wr => ∃ k : Nat, k ≤ M ∧ c = .int .i64 k ∧ Ar wr w1.heap.size w.heap.size (freshTo M k) 0 0 ∧ Below w.heap.size w wr) (fun c _ => M - (intOf c).toNat)
    case atStart => exact ⟨0, by omega, rfl, a1, a3⟩
    case round =>
      clear a1 a3
      obtain ⟨k, hk, rfl, hA, HB⟩ := hrel
      by_cases hlt : k < M
      · have hc := hA.cells.1.1
        rw [freshTo_len] at hc
        have hp := freshTo_get M k k hlt
        rw [if_neg (by omega)] at hp
        obtain ⟨⟨p0, p1, p2⟩, f0, f1, f2⟩ := hA.get k _ hp
        obtain ⟨hA2, k2⟩ := ar_next hA k _ hp (k + 1)
        rw [freshTo_set M k hlt] at hA2
        have t1 : IntKind.i64.wrap ((k : Int) + 1) = (k : Int) + 1 := by rw [IntKind.wrap_i64]; omega
        have HA := Lib.hid hA2
        clear hp hA hA2 hown hgr
        go_wp2
        go_roundw
        case rel => exact ⟨k + 1, by omega, by go_num, HA.out, bl_keep HB k2 (fun i hi => by subst hi; exact Nat.le_refl _)⟩
        case measure => simp [intOf]; omega
      · obtain rfl : k = M := by omega
        clear hown hgr
        go_wp2
        go_ret
        exact ⟨_, _, rfl, hA, a2, Nat.le_refl _, HB⟩
theorem below_drewN (w : World) (n : Nat) : Below w.heap.size w (w.drewN n) := (Keep.drewN w n (fun _ => False)).below (Nat.le_refl _) (fun _ h => h.elim)
theorem below_drew (w : World) : Below w.heap.size w w.drew := (Keep.drew w (fun _ => False)).below (Nat.le_refl _) (fun _ h => h.elim)
set_option maxHeartbeats 1000000 in
theorem aleft_any (g h : Nat) (L : List Pl) (f u : Int) (w : World) (b : Ar w g h L f u) (hu : 0 ≤ u ∧ u ≤ L.length) (hL : L.length ≤ 1000) :
    Calls Try.prog 28 #[.pointer (some ⟨g, 0, none⟩)] w fun e w' => e = .returned (.int .i64 (L.length - u)) ∧ ∃ m, w' = w.drewN m := by
  obtain ⟨⟨c0, c1, c2⟩, _⟩ := b.cells
  generalize L.length = N at c0 hu hL ⊢
  have t1 : IntKind.i64.wrap ((N : Int) - u) = (N : Int) - u := by rw [IntKind.wrap_i64]; omega
  clear b
  go_enter Try.func28, Try.ntmps28
  go_wp2
  go_big_quiet (fail)
  go_wp2
  go_ret
  exact ⟨rfl, _, rfl⟩
theorem aleft_nil (w : World) : Calls Try.prog 28 #[.pointer none] w fun e w' => e = .returned (.int .i64 0) ∧ w = w' := by
  go_enter Try.func28, Try.ntmps28
  go_wp2
  go_ret
  exact ⟨rfl, rfl⟩
/-- The place of a number, if there is one that is taken. -/
def usA (L : List Pl) (i : Int) : Option Pl := if 0 ≤ i then (match L[i.toNat]? with | some p => if p.used then some p else none | none => none) else none
theorem usA_out (L : List Pl) (i : Int) (h : ¬ (0 ≤ i ∧ i < L.length)) : usA L i = none := by
  unfold usA
  split
  · rw [List.getElem?_eq_none (by omega)]
  · rfl
theorem usA_at (L : List Pl) (k : Nat) (p : Pl) (h : L[k]? = some p) : usA L k = if p.used then some p else none := by
  unfold usA
  rw [if_pos (by omega), Int.toNat_natCast, h]
set_option maxHeartbeats 1000000 in
theorem ahas_any (g h : Nat) (L : List Pl) (f u : Int) (i : Int) (w : World) (b : Ar w g h L f u) (hL : L.length ≤ 1000) :
    Calls Try.prog 69 #[.pointer (some ⟨g, 0, none⟩), .int .i64 i] w fun e w' => e = .returned (.bool (usA L i).isSome) ∧ w = w' := by
  obtain ⟨⟨c0, c1, c2⟩, _⟩ := b.cells
  by_cases hi : 0 ≤ i ∧ i < L.length
  · obtain ⟨k, rfl⟩ : ∃ k : Nat, i = k := ⟨i.toNat, by omega⟩
    have hk : k < L.length := by omega
    have hp : L[k]? = some L[k] := List.getElem?_eq_getElem hk
    obtain ⟨⟨p0, p1, p2⟩, _⟩ := b.get k _ hp
    rw [usA_at L k _ hp]
    clear hp
    generalize L[k] = p at p0 p1 p2 ⊢
    obtain ⟨px, pu, pn⟩ := p
    dsimp only at p0 p1 p2 ⊢
    generalize L.length = N at c0 hk hL
    clear b hi
    cases pu <;>
    · go_enter Try.func69, Try.ntmps69
      go_wp2
      go_ret
      exact ⟨rfl, rfl⟩
  · rw [usA_out L i hi]
    generalize L.length = N at c0 hi hL
    clear b
    by_cases h0 : 0 ≤ i
    · have h1 : ¬ (i < (N : Int)) := by omega
      clear hi
      go_enter Try.func69, Try.ntmps69
      go_wp2
      go_ret
      exact ⟨rfl, rfl⟩
    · have h1 : i < 0 := by omega
      clear hi
      go_enter Try.func69, Try.ntmps69
      go_wp2
      go_ret
      exact ⟨rfl, rfl⟩
theorem ahas_nil (i : Int) (w : World) : Calls Try.prog 69 #[.pointer none, .int .i64 i] w fun e w' => e = .returned (.bool false) ∧ w = w' := by
  go_enter Try.func69, Try.ntmps69
  go_wp2
  go_ret
  exact ⟨rfl, rfl⟩
theorem usA_some (L : List Pl) (i : Int) (p : Pl) (h : usA L i = some p) : ∃ k : Nat, i = k ∧ L[k]? = some p ∧ p.used = true := by
  unfold usA at h
  split at h
  · rename_i h0
    refine ⟨i.toNat, by omega, ?_⟩
    split at h
    · rename_i q hq
      split at h
      · rename_i hu
        injection h with h; subst h
        exact ⟨hq, hu⟩
      · cases h
    · cases h
  · cases h
def xOf : Option Pl → Int
  | some p => p.x
  | none => 0
set_option maxHeartbeats 1000000 in
theorem aget_any (g h : Nat) (L : List Pl) (f u : Int) (i : Int) (w : World) (b : Ar w g h L f u) (hL : L.length ≤ 1000) :
    Calls Try.prog 30 #[.pointer (some ⟨g, 0, none⟩), .int .i64 i] w fun e w' => e = .returned (.tuple #[.int .i64 (xOf (usA L i)), .bool (usA L i).isSome]) ∧ w = w' := by
  obtain ⟨⟨c0, c1, c2⟩, _⟩ := b.cells
  have hh := ahas_any g h L f u i w b hL
  cases hu : usA L i with
  | none =>
    rw [hu] at hh
    have HH := Lib.hid hh
    unfold xOf
    clear b hh hu
    go_enter Try.func30, Try.ntmps30
    go_wp2_with (first | (go_at_call 69; refine HH.out.mono ?_; rintro e w' ⟨rfl, rfl⟩; dsimp only [Option.isSome_none]))
    go_ret2
    exact ⟨rfl, rfl⟩
  | some p =>
    obtain ⟨k, rfl, hp, _⟩ := usA_some L i p hu
    have hk : k < L.length := (List.getElem?_eq_some_iff.1 hp).1
    obtain ⟨⟨p0, p1, p2⟩, _⟩ := b.get k _ hp
    rw [hu] at hh
    have HH := Lib.hid hh
    unfold xOf
    generalize L.length = N at c0 hk hL
    clear b hh hu hp
    go_enter Try.func30, Try.ntmps30
    go_wp2_with (first | (go_at_call 69; refine HH.out.mono ?_; rintro e w' ⟨rfl, rfl⟩; dsimp only [Option.isSome_some]))
    go_ret2
    exact ⟨rfl, rfl⟩
theorem aget_nil (i : Int) (w : World) : Calls Try.prog 30 #[.pointer none, .int .i64 i] w fun e w' => e = .returned (.tuple #[.int .i64 0, .bool false]) ∧ w = w' := by
  go_enter Try.func30, Try.ntmps30
  go_wp2_with (first | (go_at_call 69; refine (ahas_nil _ _).mono ?_; rintro e w' ⟨rfl, rfl⟩))
  go_ret2
  exact ⟨rfl, rfl⟩
def ASetRet (g h : Nat) (L : List Pl) (f u : Int) (ok : Bool) (w : World) (e : Ending) (w' : World) : Prop := e = .returned (.bool ok) ∧ Ar w' g h L f u ∧ Keep (fun k => k = g ∨ k = h) w w'
def setA (L : List Pl) (i x : Int) : List Pl := match usA L i with
  | some p => L.set i.toNat ⟨x, p.used, p.next⟩
  | none => L
set_option maxHeartbeats 1000000 in
theorem aset_any (g h : Nat) (L : List Pl) (f u : Int) (i x : Int) (w : World) (b : Ar w g h L f u) (hL : L.length ≤ 1000) :
    Calls Try.prog 42 #[.pointer (some ⟨g, 0, none⟩), .int .i64 i, .int .i64 x] w (ASetRet g h (setA L i x) f u (usA L i).isSome w) := by
  obtain ⟨⟨c0, c1, c2⟩, _⟩ := b.cells
  have hh := ahas_any g h L f u i w b hL
  have HB := Lib.hid b
  unfold setA
  cases hu : usA L i with
  | none =>
    rw [hu] at hh
    have HH := Lib.hid hh
    clear b hh hu
    go_enter Try.func42, Try.ntmps42
    go_wp2_with (first | (go_at_call 69; refine HH.out.mono ?_; rintro e w' ⟨rfl, rfl⟩; dsimp only [Option.isSome_none]))
    go_ret
    exact ⟨rfl, HB.out, Keep.refl _ _⟩
  | some p =>
    obtain ⟨k, rfl, hp, _⟩ := usA_some L i p hu
    have hk : k < L.length := (List.getElem?_eq_some_iff.1 hp).1
    obtain ⟨⟨p0, p1, p2⟩, f0, f1, f2⟩ := b.get k _ hp
    obtain ⟨hA, kA⟩ := ar_x b k _ hp x
    rw [hu] at hh
    have HH := Lib.hid hh
    have HA := Lib.hid hA
    rw [Int.toNat_natCast]
    generalize L.length = N at c0 hk hL
    clear b hh hu hp hA
    go_enter Try.func42, Try.ntmps42
    go_wp2_with (first | (go_at_call 69; refine HH.out.mono ?_; rintro e w' ⟨rfl, rfl⟩; dsimp only [Option.isSome_some]))
    go_ret
    exact ⟨rfl, HA.out, kA.mono (fun _ h => .inr h)⟩
def TakeRet (g h : Nat) (L : List Pl) (f u : Int) (v : Int) (ok : Bool) (w : World) (e : Ending) (w' : World) : Prop := e = .returned (.tuple #[.int .i64 v, .bool ok]) ∧ Ar w' g h L f u ∧ Keep (fun k => k = g ∨ k = h) w w'
set_option maxHeartbeats 1000000 in
theorem atake_no (g h : Nat) (L : List Pl) (f : Int) (x : Int) (w : World) (b : Ar w g h L f L.length) (hL : L.length ≤ 1000) :
    Calls Try.prog 27 #[.pointer (some ⟨g, 0, none⟩), .int .i64 x] w (TakeRet g h L f L.length 0 false w) := by
  have hl := aleft_any g h L f L.length w b (by omega) hL
  have e0 : ((L.length : Nat) : Int) - L.length = 0 := by omega
  rw [e0] at hl
  have HL := Lib.hid hl
  have HB := Lib.hid b
  clear hl b e0
  go_enter Try.func27, Try.ntmps27
  go_wp2_with fail
  refine HL.out.mono ?_
  rintro e w1 ⟨rfl, m, rfl⟩
  go_wp2
  go_ret2
  exact ⟨rfl, HB.out.below (below_drewN _ _), Keep.drewN _ _ _⟩
set_option maxHeartbeats 2000000 in
theorem atake_yes (g h : Nat) (L : List Pl) (k : Nat) (p : Pl) (u : Int) (x : Int) (w : World) (b : Ar w g h L k u) (hp : L[k]? = some p) (hu : 0 ≤ u ∧ u < L.length) (hL : L.length ≤ 1000) :
    Calls Try.prog 27 #[.pointer (some ⟨g, 0, none⟩), .int .i64 x] w (TakeRet g h (L.set k ⟨x, true, 0⟩) p.next (u + 1) k true w) := by
  have hl := aleft_any g h L k u w b (by omega) hL
  have hk : k < L.length := (List.getElem?_eq_some_iff.1 hp).1
  have HL := Lib.hid hl
  have HB := Lib.hid b
  have HP := Lib.hid hp
  have hLl : L.length ≤ 1000 := hL
  have n0 : (((L.length : Nat) : Int) - u == 0) = false := beq_eq_false_iff_ne.2 (by omega)
  clear hl b hp
  go_enter Try.func27, Try.ntmps27
  go_wp2_with fail
  refine HL.out.mono ?_
  rintro e w1 ⟨rfl, m, hw1⟩
  have hb : Ar w1 g h L k u := by rw [hw1]; exact HB.out.below (below_drewN _ _)
  have k1 : Keep (fun k => k = g ∨ k = h) w w1 := by rw [hw1]; exact Keep.drewN _ _ _
  clear hw1
  obtain ⟨⟨c0, c1, c2⟩, f1, f2⟩ := hb.cells
  obtain ⟨⟨p0, p1, p2⟩, q0, q1, q2⟩ := hb.get k _ HP.out
  obtain ⟨h2, k2⟩ := ar_first hb p.next
  obtain ⟨⟨d0, d1, d2⟩, e1, e2⟩ := h2.cells
  obtain ⟨⟨r0, r1, r2⟩, s0, s1, s2⟩ := h2.get k _ HP.out
  obtain ⟨h3, k3⟩ := ar_place h2 k hk ⟨x, true, 0⟩
  obtain ⟨⟨g0, g1, g2⟩, i1, i2⟩ := h3.cells
  obtain ⟨h4, k4⟩ := ar_used h3 (u + 1)
  rw [List.length_set] at g0
  have t1 : IntKind.i64.wrap (u + 1) = u + 1 := by rw [IntKind.wrap_i64]; omega
  have H4 := Lib.hid h4
  have KK := Lib.hid (Keep.trans (Keep.trans (Keep.trans k1 (k2.mono (fun _ h => .inl h))) (k3.mono (fun _ h => .inr h))) (k4.mono (fun _ h => .inl h)) : Keep (fun k => k = g ∨ k = h) w _)
  clear hb h2 h3 h4 k1 k2 k3 k4
  obtain ⟨px, pu, pn⟩ := p
  dsimp only at p0 p1 p2 r0 r1 r2 H4 KK c1 d1 g1 d0 c0 d2 c2 g0 g2 f1 f2 e1 e2 i1 i2 q0 q1 q2 s0 s1 s2 ⊢
  generalize L.length = N at c0 d0 g0 hk hu hL n0
  go_wp2
  go_ret2
  exact ⟨rfl, H4.out, KK.out⟩
set_option maxHeartbeats 1000000 in
theorem afree_no (g h : Nat) (L : List Pl) (f u : Int) (i : Int) (w : World) (b : Ar w g h L f u) (hi : usA L i = none) (hL : L.length ≤ 1000) :
    Calls Try.prog 29 #[.pointer (some ⟨g, 0, none⟩), .int .i64 i] w (ASetRet g h L f u false w) := by
  have hh := ahas_any g h L f u i w b hL
  rw [hi] at hh
  have HH := Lib.hid hh
  have HB := Lib.hid b
  clear b hh hi
  go_enter Try.func29, Try.ntmps29
  go_wp2_with (first | (go_at_call 69; refine HH.out.mono ?_; rintro e w' ⟨rfl, rfl⟩; dsimp only [Option.isSome_none]))
  go_ret
  exact ⟨rfl, HB.out, Keep.refl _ _⟩
set_option maxRecDepth 100000 in
set_option maxHeartbeats 2000000 in
theorem afree_yes (g h : Nat) (L : List Pl) (k : Nat) (p : Pl) (f u : Int) (w : World) (b : Ar w g h L f u) (hp : L[k]? = some p) (hpu : p.used = true) (hu : 1 ≤ u ∧ u ≤ L.length) (hL : L.length ≤ 1000) :
    Calls Try.prog 29 #[.pointer (some ⟨g, 0, none⟩), .int .i64 k] w (ASetRet g h (L.set k ⟨0, false, f⟩) k (u - 1) true w) := by
  have hh := ahas_any g h L f u k w b hL
  rw [usA_at L k p hp, if_pos hpu] at hh
  have HH := Lib.hid hh
  have hk : k < L.length := (List.getElem?_eq_some_iff.1 hp).1
  have HP := Lib.hid hp
  have HB := Lib.hid b
  obtain ⟨⟨c0, c1, c2⟩, f1, f2⟩ := b.cells
  have hL2 := hL
  have hkN := hk
  generalize hN : L.length = N at c0 hkN hL2
  have HN := Lib.hid hN
  clear hh hp b hN
  go_enter Try.func29, Try.ntmps29
  go_wp2_with (first | (go_at_call 69; refine HH.out.mono ?_; rintro e w' ⟨rfl, rfl⟩; dsimp only [Option.isSome_some]))
  have hB4 : Hid (Ar w.drew g h L f u) := Lib.hid HB.out
  have k4 : Keep (fun k => k = g ∨ k = h) w w.drew := Keep.drew _ _
  go_still_tail 11, (by kernel_rfl)
  change wpList _ _ _ _ _ w.drew
  clear c0 c1 c2 f1 f2
  generalize w.drew = w4 at hB4 k4 ⊢
  obtain ⟨⟨c0, c1, c2⟩, f1, f2⟩ := hB4.out.cells
  obtain ⟨⟨p0, p1, p2⟩, q0, q1, q2⟩ := hB4.out.get k _ HP.out
  obtain ⟨h3, k3⟩ := ar_place hB4.out k hk ⟨0, false, f⟩
  obtain ⟨⟨g0, g1, g2⟩, i1, i2⟩ := h3.cells
  obtain ⟨h5, k5⟩ := ar_first h3 k
  obtain ⟨⟨d0, d1, d2⟩, e1, e2⟩ := h5.cells
  obtain ⟨h6, k6⟩ := ar_used h5 (u - 1)
  have t1 : IntKind.i64.wrap (u - 1) = u - 1 := by rw [IntKind.wrap_i64]; omega
  have H6 := Lib.hid h6
  have KK := Lib.hid (Keep.trans (Keep.trans (Keep.trans k4 (k3.mono (fun _ h => .inr h))) (k5.mono (fun _ h => .inl h))) (k6.mono (fun _ h => .inl h)) : Keep (fun k => k = g ∨ k = h) w _)
  rw [HN.out] at c0
  rw [List.length_set, HN.out] at g0 d0
  clear h3 h5 h6 k3 k5 k6 k4
  dsimp only at g0 g1 g2 d0 d1 d2 i1 i2 e1 e2 H6 KK
  obtain ⟨px, pu, pn⟩ := p
  dsimp only at p0 p1 p2
  go_wp2
  go_ret
  exact ⟨rfl, H6.out, KK.out⟩
end Go.Proofs.Ytgdghinconghgaa
