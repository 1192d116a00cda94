/- store: Copy; a store that nobody made. No condition. -/
import Derived.Test.YtjbhlckdaghppaaStH
set_option linter.unusedVariables false
set_option linter.unusedSimpArgs false
namespace Go.Proofs.Ytjbhlckdaghppaa
open Go.RowKit (wrap32 wrap64)
open Go.RowKit Go.Shelf Go.Sort Go.Lib
def StCopy (w : World) (E : List Cl) (e : Ending) (w' : World) : Prop := ∃ s b, e = .returned (.pointer (some ⟨s, 0, none⟩)) ∧ StO w' s b E ∧ w.heap.size ≤ s ∧ w.heap.size ≤ b ∧ s ≠ b ∧ Below w.heap.size w w'
theorem stcopy_any (s b : Nat) (E : List Cl) (w : World) (h : StO w s b E) : Calls Try.prog 23 #[.pointer (some ⟨s, 0, none⟩)] w (StCopy w E) := by
  have HOK := Lib.hid (stok_any s b E w h)
  have c0 := h.bk.cell 0
  obtain ⟨D, hown, hsz, h1, h2, h3⟩ := h.mp
  have hc := AnyW.maps_Clone_owns Try.cloneM 25 elC b E.length D w hown
  change Calls Try.prog 44 _ _ _ at hc
  have HC := Lib.hid hc
  have HD : Hid (∀ w', w'.ownsMap Try.prog 25 elC w.heap.size E.length D → MapT w' w.heap.size E) := Lib.hid (fun w' ho => ⟨D, ho, hsz, h1, h2, h3⟩)
  clear h hown hsz h1 h2 h3 hc
  go_enter Try.func23, Try.ntmps23
  go_wp2_with (first
    | (go_at_call 34; refine HOK.out.mono ?_; rintro e w' ⟨rfl, rfl⟩)
    | (go_at_call 44; refine HC.out.mono ?_; rintro e w1 ⟨rfl, ho, _, hb⟩))
  go_ret
  have al := (Below.refl w1.heap.size w1).alloc (Nat.le_refl _) (.cells #[.map (some w.heap.size)] 60)
  exact ⟨w1.heap.size, w.heap.size, rfl, ⟨Bk.new w1 _ _, (HD.out w1 ho).below al⟩, hb.size, Nat.le_refl _, by have := (HD.out w1 ho).lt; omega, bl_then hb (Nat.le_refl _) al⟩
theorem stcopy_nil (w : World) : Calls Try.prog 23 #[.pointer none] w fun e w' => e = .returned (.pointer none) ∧ w = w' := by
  go_enter Try.func23, Try.ntmps23
  go_wp2_with (go_at_call 34; refine (stok_nil _).mono ?_; rintro e w' ⟨rfl, rfl⟩)
  go_ret
  exact ⟨rfl, rfl⟩
theorem stat_nil (p : Pt) (w : World) : Calls Try.prog 36 #[.pointer none, .agg (ptA p)] w fun e w' => e = .returned (.agg #[.int .i64 0, .int .i64 0]) ∧ Below w.heap.size w w' := by
  have b3 := Bk.new (w.alloc (PB p)) 63 #[.int .i64 0, .int .i64 0]
  rw [World.size_alloc] at b3
  have r0 := b3.cell 0
  have r1 := b3.cell 1
  have z0 := b3.frozen 0
  have z1 := b3.frozen 1
  go_enter Try.func36, Try.ntmps36
  go_wp2_with (go_at_call 34; refine (stok_nil _).mono ?_; rintro e w' ⟨rfl, rfl⟩)
  (try simp only [Exit.inBlock, Exit.then])
  refine bodyPost_ret (results_cell_row rfl _ _ (w.heap.size + 1) 63 #[.int .i64 0, .int .i64 0] (0, 0) _ rfl (by have h9 := Bk.new (w.alloc (PB p)) 63 #[.int .i64 0, .int .i64 0]; rw [World.size_alloc] at h9; exact h9) Try.underlying63 rfl (by kernel_rfl)) rfl ⟨rfl, bl_then ((Below.refl w.heap.size w).alloc (Nat.le_refl _) (PB p)) (Nat.le_refl _) ((Below.refl _ _).alloc (Nat.le_refl _) (.cells #[.int .i64 0, .int .i64 0] 63))⟩
set_option maxRecDepth 100000 in
theorem stget_nil (p : Pt) (w : World) : Calls Try.prog 12 #[.pointer none, .agg (ptA p)] w fun e w' => e = .returned (.int .i64 0) ∧ Below w.heap.size w w' := by
  have a1 := (Below.refl w.heap.size w).alloc (Nat.le_refl _) (PB p)
  have b1 := Bk.new w 25 (ptA p)
  have HA := Lib.hid (fun W1 => stat_nil p W1)
  have f0 := fun w => cell_v 0 0 w
  have e0 := b1.cell 0
  have e1 := b1.cell 1
  have e2 := b1.cell 2
  have e3 := b1.cell 3
  have e4 := b1.cell 4
  clear b1
  go_enter Try.func12, Try.ntmps12
  go_wp2_with (go_at_call 36; refine (HA.out _).mono ?_; rintro e w1 ⟨rfl, hb1⟩)
  go_ret
  exact ⟨rfl, bl_then a1 (Nat.le_refl _) hb1⟩
set_option maxRecDepth 100000 in
theorem stcount_nil (p : Pt) (w : World) : Calls Try.prog 13 #[.pointer none, .agg (ptA p)] w fun e w' => e = .returned (.int .i64 0) ∧ Below w.heap.size w w' := by
  have a1 := (Below.refl w.heap.size w).alloc (Nat.le_refl _) (PB p)
  have b1 := Bk.new w 25 (ptA p)
  have HA := Lib.hid (fun W1 => stat_nil p W1)
  have f0 := fun w => cell_c 0 0 w
  have e0 := b1.cell 0
  have e1 := b1.cell 1
  have e2 := b1.cell 2
  have e3 := b1.cell 3
  have e4 := b1.cell 4
  clear b1
  go_enter Try.func13, Try.ntmps13
  go_wp2_with (go_at_call 36; refine (HA.out _).mono ?_; rintro e w1 ⟨rfl, hb1⟩)
  go_ret
  exact ⟨rfl, bl_then a1 (Nat.le_refl _) hb1⟩
theorem goods_within {E : List Cl} {K : Nat} (h : OkE E K) (p : Pt) : (goodsE E mayP).filter (fun x => withinP (rwP x) p) = goodsE E (fun q => withinP q p) := by
  unfold goodsE
  rw [List.filter_map, List.filter_filter]
  congr 1
  refine List.filter_congr (fun c hc => ?_)
  show (withinP (rwP (rwOf c)) p && goodC mayP c) = goodC (fun q => withinP q p) c
  unfold goodC
  rw [(h.may c hc).1, rwP_of, Bool.and_true, Bool.and_comm]
theorem sameRw_yes (a b : Option Addr) (n m cn cm : Nat) (xs : List Rw) (w : World) (ha : Rws w a n xs) (hb : Rws w b m xs) : Calls Try.prog 17 #[.slice a n cn, .slice b m cm] w fun e w' => e = .returned (.bool true) ∧ Below w.heap.size w w' :=
  (sameRw_any a b n m cn cm xs xs w ha hb).mono fun e w' ⟨h1, h2⟩ => ⟨by rw [h1, decide_eq_true rfl], h2⟩
end Go.Proofs.Ytjbhlckdaghppaa
