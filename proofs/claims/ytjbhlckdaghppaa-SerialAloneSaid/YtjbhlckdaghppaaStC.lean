/- store: New, at, Get, Count, Set. No condition. -/
import Derived.Test.YtjbhlckdaghppaaStB
import Derived.RegionTactic
import Derived.Deep.QuietTactic
import Derived.Deep.RegionWith
import Derived.Deep.RegionHeld3
import Derived.Lib.QuietBelow
import Derived.Shelf.SlMaps.Clone
set_option linter.unusedVariables false
set_option linter.unusedSimpArgs false
namespace Go.Proofs.Ytjbhlckdaghppaa
open Go.RowKit (wrap32 wrap64)
open Go.RowKit
/-- A store: a map behind a pointer. -/
structure StO (w : World) (s b : Nat) (E : List Cl) : Prop where
  bk : Bk w s 60 #[.map (some b)]
  mp : MapT w b E
theorem StO.below {w w1 : World} {s b : Nat} {E : List Cl} (h : StO w s b E) (k : Below w.heap.size w w1) : StO w1 s b E := ⟨h.bk.below k, h.mp.below k⟩
theorem StO.keep {S : Nat → Prop} {w w1 : World} {s b : Nat} {E : List Cl} (h : StO w s b E) (k : Keep S w w1) (h1 : ¬ S s) (h2 : ¬ S b) : StO w1 s b E := ⟨k.bk h.bk h1, h.mp.keep k h2⟩
theorem neq_map (b : Nat) (w : World) : (binOp .neq 58 (.map (some b)) (.map none)).run Try.prog w = .ok (.bool true) w := by
  simp only [binOp]
  simp [show Op.equal 58 (.map (some b)) (.map none) = Op.equalIn (9999 + 1) 58 (.map (some b)) (.map none) from rfl, run_equalIn_map_nil_sl w 9999 58 _ _ (some b) Try.underlying58]
theorem stok_any (s b : Nat) (E : List Cl) (w : World) (h : StO w s b E) : Calls Try.prog 34 #[.pointer (some ⟨s, 0, none⟩)] w fun e w' => e = .returned (.bool true) ∧ w = w' := by
  have c0 := h.bk.cell 0
  have hn := fun w => neq_map b w
  clear h
  go_enter Try.func34, Try.ntmps34
  go_wp2
  go_ret
  exact ⟨rfl, rfl⟩
theorem stok_nil (w : World) : Calls Try.prog 34 #[.pointer none] w fun e w' => e = .returned (.bool false) ∧ w = w' := by
  go_enter Try.func34, Try.ntmps34
  go_wp2
  go_ret
  exact ⟨rfl, rfl⟩
abbrev PB (p : Pt) : Obj := .cells #[.int .i64 p.n0, .int .i64 p.n1, .int .i64 p.n2, .int .i64 p.n3, .int .i64 p.dep] 25
set_option maxHeartbeats 1000000 in
theorem stat_any (s b : Nat) (E : List Cl) (p : Pt) (hp : okPt p) (w : World) (h : StO w s b E) : Calls Try.prog 36 #[.pointer (some ⟨s, 0, none⟩), .agg (ptA p)] w fun e w' => e = .returned (.agg #[.int .i64 (getE E p).1, .int .i64 (getE E p).2]) ∧ Below w.heap.size w w' := by
  have a1 := (Below.refl w.heap.size w).alloc (Nat.le_refl _) (PB p)
  have b1 := Bk.new w 25 (ptA p)
  have a2 := (Below.refl (w.alloc (PB p)).heap.size (w.alloc (PB p))).alloc (Nat.le_refl _) (.cells #[.int .i64 0, .int .i64 0] 63)
  have b2 := b1.below a2
  have b3 := Bk.new (w.alloc (PB p)) 63 #[.int .i64 0, .int .i64 0]
  rw [World.size_alloc] at b3
  have hb := bl_then a1 (Nat.le_refl _) a2
  have hO := h.below hb
  have HO := Lib.hid hO
  have hok := fun W hO => stok_any s b E W hO
  have hl := fun W (hO : StO W s b E) => hO.mp.look p hp
  obtain ⟨x0, x1, x2, x3, x4⟩ := p
  generalize hg : getE E ⟨x0, x1, x2, x3, x4⟩ = g at hl ⊢
  obtain ⟨g1, g2⟩ := g
  dsimp only at hl ⊢
  have l1 := hl _ hO
  have l2 := hl _ (hO.below (below_drew _))
  have c0 := hO.bk.cell 0
  have e0 := b2.cell 0
  have e1 := b2.cell 1
  have e2 := b2.cell 2
  have e3 := b2.cell 3
  have e4 := b2.cell 4
  have r0 := b3.cell 0
  have r1 := b3.cell 1
  have z0 := b3.frozen 0
  have z1 := b3.frozen 1
  clear a1 a2 b1 b2 hl hO hg h
  go_enter Try.func36, Try.ntmps36
  go_wp2_with (go_at_call 34; refine (hok _ HO.out).mono ?_; rintro e w' ⟨rfl, rfl⟩)
  go_region_with (fail)
  all_goals
    go_wp2
    (try simp only [Exit.inBlock, Exit.then])
    refine bodyPost_ret (results_cell_row rfl _ _ (w.heap.size + 1) 63 #[.int .i64 g1, .int .i64 g2] (0, 0) _ rfl (by have h9 := Bk.new (w.alloc (PB ⟨x0, x1, x2, x3, x4⟩)) 63 #[.int .i64 g1, .int .i64 g2]; rw [World.size_alloc] at h9; exact h9) Try.underlying63 rfl (by kernel_rfl)) rfl ⟨rfl, bl_then (bl_then ((Below.refl w.heap.size w).alloc (Nat.le_refl _) (PB ⟨x0, x1, x2, x3, x4⟩)) (Nat.le_refl _) ((Below.refl _ _).alloc (Nat.le_refl _) (.cells #[.int .i64 g1, .int .i64 g2] 63))) (Nat.le_refl _) (below_drew _)⟩
theorem cell_v (a b : Int) (w : World) : (Instr.field 63 (.agg #[.int .i64 a, .int .i64 b]) 0).run Try.prog w = .ok (.int .i64 a) w := by kernel_rfl
theorem cell_c (a b : Int) (w : World) : (Instr.field 63 (.agg #[.int .i64 a, .int .i64 b]) 1).run Try.prog w = .ok (.int .i64 b) w := by kernel_rfl
set_option maxRecDepth 100000 in
theorem stget_any (s b : Nat) (E : List Cl) (p : Pt) (hp : okPt p) (w : World) (h : StO w s b E) : Calls Try.prog 12 #[.pointer (some ⟨s, 0, none⟩), .agg (ptA p)] w fun e w' => e = .returned (.int .i64 (getE E p).1) ∧ Below w.heap.size w w' := by
  have a1 := (Below.refl w.heap.size w).alloc (Nat.le_refl _) (PB p)
  have b1 := Bk.new w 25 (ptA p)
  have HA := Lib.hid (fun W1 (hb : Below w.heap.size w W1) => stat_any s b E p hp W1 (h.below hb))
  generalize getE E p = g at HA ⊢
  obtain ⟨g1, g2⟩ := g
  dsimp only at HA ⊢
  have f0 := fun w => cell_v g1 g2 w
  have f1 := fun w => cell_c g1 g2 w
  have e0 := b1.cell 0
  have e1 := b1.cell 1
  have e2 := b1.cell 2
  have e3 := b1.cell 3
  have e4 := b1.cell 4
  clear b1 h
  go_enter Try.func12, Try.ntmps12
  go_wp2_with (go_at_call 36; refine (HA.out _ a1).mono ?_; rintro e w1 ⟨rfl, hb1⟩)
  go_ret
  exact ⟨rfl, bl_then a1 (Nat.le_refl _) hb1⟩
set_option maxRecDepth 100000 in
theorem stcount_any (s b : Nat) (E : List Cl) (p : Pt) (hp : okPt p) (w : World) (h : StO w s b E) : Calls Try.prog 13 #[.pointer (some ⟨s, 0, none⟩), .agg (ptA p)] w fun e w' => e = .returned (.int .i64 (getE E p).2) ∧ Below w.heap.size w w' := by
  have a1 := (Below.refl w.heap.size w).alloc (Nat.le_refl _) (PB p)
  have b1 := Bk.new w 25 (ptA p)
  have HA := Lib.hid (fun W1 (hb : Below w.heap.size w W1) => stat_any s b E p hp W1 (h.below hb))
  generalize getE E p = g at HA ⊢
  obtain ⟨g1, g2⟩ := g
  dsimp only at HA ⊢
  have f0 := fun w => cell_v g1 g2 w
  have f1 := fun w => cell_c g1 g2 w
  have e0 := b1.cell 0
  have e1 := b1.cell 1
  have e2 := b1.cell 2
  have e3 := b1.cell 3
  have e4 := b1.cell 4
  clear b1 h
  go_enter Try.func13, Try.ntmps13
  go_wp2_with (go_at_call 36; refine (HA.out _ a1).mono ?_; rintro e w1 ⟨rfl, hb1⟩)
  go_ret
  exact ⟨rfl, bl_then a1 (Nat.le_refl _) hb1⟩
def StNew (w : World) (e : Ending) (w' : World) : Prop := ∃ s b, e = .returned (.pointer (some ⟨s, 0, none⟩)) ∧ StO w' s b [] ∧ w.heap.size ≤ s ∧ w.heap.size ≤ b ∧ s ≠ b ∧ Below w.heap.size w w'
theorem stnew_any (w : World) : Calls Try.prog 10 #[] w (StNew w) := by
  have hmk := fun W => run_makeMap (P := Try.prog) 58 W
  have hm := MapT.made w
  have a1 := (Below.refl w.heap.size w).alloc (Nat.le_refl _) (.map #[] 0)
  have a2 := (Below.refl (w.alloc (.map #[] 0)).heap.size (w.alloc (.map #[] 0))).alloc (Nat.le_refl _) (.cells #[.map (some w.heap.size)] 60)
  have hb := Bk.new (w.alloc (.map #[] 0)) 60 #[.map (some w.heap.size)]
  rw [World.size_alloc] at hb
  go_enter Try.func10, Try.ntmps10
  go_wp2
  go_ret
  exact ⟨w.heap.size + 1, w.heap.size, rfl, ⟨hb, hm.below a2⟩, by omega, Nat.le_refl _, by omega, bl_then a1 (Nat.le_refl _) a2⟩
end Go.Proofs.Ytjbhlckdaghppaa
