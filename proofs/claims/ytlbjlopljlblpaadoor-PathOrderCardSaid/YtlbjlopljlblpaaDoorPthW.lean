/- Nodes: the chapter's example. Condition: the library's table of powers of ten reads as the program lays it. -/
import Derived.Test.YtlbjlopljlblpaaDoorPthP
import Derived.Test.YtlbjlopljlblpaaDoorPthL
import Derived.Deep.CutRange
set_option linter.unusedVariables false
set_option linter.unusedSimpArgs false
namespace Go.Proofs.YtlbjlopljlblpaaDoor
open Go.RowKit (wrap32 wrap64)
open Go.RowKit Go.Shelf
open Go.Sort (grow)
/-- A world that is w0 with some blocks behind it, whatever was drawn. -/
abbrev rg (w0 : World) (d : Nat) (os : Array Obj) : World := grow (redrawn w0 d) os
theorem rg_start {w0 w : World} (h : Below w0.heap.size w0 w) : ∃ d os, w = rg w0 d os := by
  obtain ⟨⟨d, os⟩, hh⟩ := regrown_of_below h
  exact ⟨d, os, hh⟩
theorem rg_next {w0 w : World} {d : Nat} {os : Array Obj} (h : Below (rg w0 d os).heap.size (rg w0 d os) w) : ∃ d os, w = rg w0 d os :=
  rg_start (bl_then (below_regrown w0 d os) (Nat.le_refl _) h)
theorem wp_region_quiet_rg {P : Program} {id : Nat} {Q : Exit → Act → World → Prop} {a : Act} {w0 : World} {d : Nat} {os : Array Obj} {l : List Oper} (hm : P.follows .mixedOrders = true) (hB : Region.lexB .any l.toArray = true)
    (h : wpQuiet P l.toArray (fun w' => ∃ p : Regrown, w' = grow (redrawn w0 p.d) p.os) (fun a' => ∀ w', (∃ p : Regrown, w' = grow (redrawn w0 p.d) p.os) → Q .normal a' w') l a) : (Code.region id l.toArray true).wp P Q a (rg w0 d os) :=
  wp_region_quiet (C := fun w' => ∃ p : Regrown, w' = grow (redrawn w0 p.d) p.os) hm hB ⟨⟨d + 1, os⟩, rfl⟩ (by simpa using h)
theorem pt_cells {w0 : World} {b : Nat} {p : Pt} (h : Bk w0 b 24 (ptA p)) : (∀ d os, (rg w0 d os).cell? ⟨b, 0, none⟩ = some (.int .i64 p.n0)) ∧ (∀ d os, (rg w0 d os).cell? ⟨b, 1, none⟩ = some (.int .i64 p.n1)) ∧ (∀ d os, (rg w0 d os).cell? ⟨b, 2, none⟩ = some (.int .i64 p.n2)) ∧ (∀ d os, (rg w0 d os).cell? ⟨b, 3, none⟩ = some (.int .i64 p.n3)) ∧ (∀ d os, (rg w0 d os).cell? ⟨b, 4, none⟩ = some (.int .i64 p.dep)) :=
  ⟨cell_regrown (h.cell 0), cell_regrown (h.cell 1), cell_regrown (h.cell 2), cell_regrown (h.cell 3), cell_regrown (h.cell 4)⟩
theorem may_val {p : Pt} {b : Bool} (h : mayP p = b) (w : World) : Calls Tryd.prog 9 #[.agg (ptA p)] w fun e w' => e = .returned (.bool b) ∧ Below w.heap.size w w' := h ▸ pmay_any p w
theorem rig_val {p : Pt} {b : Bool} (h : mayP p = b) (w : World) : Calls Tryd.prog 16 #[.agg (ptA p)] w fun e w' => e = .returned (.bool b) ∧ Below w.heap.size w w' := h ▸ rpright_any p w
theorem within_val {p q : Pt} {b : Bool} (h : withinP p q = b) (w : World) : Calls Tryd.prog 18 #[.agg (ptA p), .agg (ptA q)] w fun e w' => e = .returned (.bool b) ∧ Below w.heap.size w w' := h ▸ pwithin_any p q w
theorem less_val {p q : Pt} {b : Bool} (h : lessP p q = b) (w : World) : Calls Tryd.prog 19 #[.agg (ptA p), .agg (ptA q)] w fun e w' => e = .returned (.bool b) ∧ Below w.heap.size w w' := h ▸ pless_any p q w
theorem key_val {p : Pt} {k : Int} (h : keyP p = k) (w : World) : Calls Tryd.prog 10 #[.agg (ptA p)] w fun e w' => e = .returned (.int .u64 k) ∧ Below w.heap.size w w' := h ▸ pkey_any p w
theorem parse_a : parseP (ByteArray.mk #[49, 46, 50, 48, 46, 51]).data.toList = some ⟨1, 20, 3, 0, 3⟩ := by
  show parseP [49, 46, 50, 48, 46, 51] = some ⟨1, 20, 3, 0, 3⟩
  have hs : scanP [49, 46, 50, 48, 46, 51] 0 0 [] = some [1, 20, 3] := by decide
  have hp : ptOf [1, 20, 3] = ⟨1, 20, 3, 0, 3⟩ := rfl
  have hm : mayP ⟨1, 20, 3, 0, 3⟩ = true := by decide
  have h1 : digs ⟨1, 20, 3, 0, 3⟩ 0 = [49] := by unfold digs; exact Lib.decDigits_one (by decide)
  have h2 : digs ⟨1, 20, 3, 0, 3⟩ 1 = [50, 48] := by unfold digs; exact Lib.decDigits_two (by decide) (by decide)
  have h3 : digs ⟨1, 20, 3, 0, 3⟩ 2 = [51] := by unfold digs; exact Lib.decDigits_one (by decide)
  have ht : textP ⟨1, 20, 3, 0, 3⟩ = [49, 46, 50, 48, 46, 51] := by
    unfold textP
    rw [if_pos hm]
    show preT ⟨1, 20, 3, 0, 3⟩ 3 = _
    rw [preT_succ _ 2 (by omega), preT_succ _ 1 (by omega), preT_one, h1, h2, h3]
    rfl
  unfold parseP
  rw [hs]
  unfold finP
  dsimp only
  rw [hp, ht]
  rfl
theorem parse_b : parseP (ByteArray.mk #[48, 49]).data.toList = none := by
  show parseP [48, 49] = none
  have hs : scanP [48, 49] 0 0 [] = some [1] := by decide
  have hp : ptOf [1] = ⟨1, 0, 0, 0, 1⟩ := rfl
  have hm : mayP ⟨1, 0, 0, 0, 1⟩ = true := by decide
  have h1 : digs ⟨1, 0, 0, 0, 1⟩ 0 = [49] := by unfold digs; exact Lib.decDigits_one (by decide)
  have ht : textP ⟨1, 0, 0, 0, 1⟩ = [49] := by
    unfold textP
    rw [if_pos hm]
    show preT ⟨1, 0, 0, 0, 1⟩ 1 = _
    rw [preT_one, h1]
  unfold parseP
  rw [hs]
  unfold finP
  dsimp only
  rw [hp, ht]
  rfl
set_option maxRecDepth 100000 in
set_option maxHeartbeats 1000000 in
theorem pawake_any (w : World) (ht : Tab10 w) : Calls Tryd.prog 8 #[] w fun e w' => e = .returned (.bool true) ∧ Below w.heap.size w w' := by
  have h1 : ∀ W, Below w.heap.size w W → Calls Tryd.prog 11 #[.string ⟨#[49, 46, 50, 48, 46, 51]⟩] W fun e w' => e = .returned (.tuple #[.agg #[.int .i64 1, .int .i64 20, .int .i64 3, .int .i64 0, .int .i64 3], .int .i64 0]) ∧ Below W.heap.size W w' := fun W hb => by
    have := pparse_any ⟨#[49, 46, 50, 48, 46, 51]⟩ (by decide) W (tab_below ht W hb)
    rw [parse_a] at this
    exact this
  have h2 : ∀ W, Below w.heap.size w W → Calls Tryd.prog 11 #[.string ⟨#[48, 49]⟩] W fun e w' => e = .returned (.tuple #[.agg #[.int .i64 0, .int .i64 0, .int .i64 0, .int .i64 0, .int .i64 0], .int .i64 4]) ∧ Below W.heap.size W w' := fun W hb => by
    have := pparse_any ⟨#[48, 49]⟩ (by decide) W (tab_below ht W hb)
    rw [parse_b] at this
    exact this
  have H1 := Lib.hid h1
  have H2 := Lib.hid h2
  have M1 : True := trivial
  clear h1 h2 ht
  go_enter Tryd.func8, Tryd.ntmps8
  go_wp2_with (first
    | (go_at_call 11; (have m_ := M1; clear M1 m_); refine (H1.out _ (Below.refl _ _)).mono ?_; rintro e w1 ⟨rfl, hb1⟩; have HB1 := bl_then hb1 (Nat.le_refl _) ((Below.refl _ _).alloc (Nat.le_refl _) (.cells #[.int .i64 1, .int .i64 20, .int .i64 3, .int .i64 0, .int .i64 3] 24)); have c0 := Bk.new w1 24 #[.int .i64 1, .int .i64 20, .int .i64 3, .int .i64 0, .int .i64 3])
    | (go_at_call 11; refine (H2.out _ HB1).mono ?_; rintro e w2 ⟨rfl, hb2⟩; have c1 := c0.below hb2; have c2 := c1.below ((Below.refl _ _).alloc (Nat.le_refl _) (.cells #[.int .i64 0, .int .i64 0, .int .i64 0, .int .i64 0, .int .i64 0] 24)); have x1 := c2.cell 1; have x4 := c2.cell 4; clear c0 c1 c2))
  go_ret
  exact ⟨rfl, (bl_then HB1 (Nat.le_refl _) hb2).alloc (bl_then HB1 (Nat.le_refl _) hb2).size _⟩
end Go.Proofs.YtlbjlopljlblpaaDoor
