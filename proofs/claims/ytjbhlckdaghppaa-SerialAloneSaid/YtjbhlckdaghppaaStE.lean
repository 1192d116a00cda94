/- store: rows sorted by their nodes: slices.SortFunc with the program's comparison. No condition. -/
import Derived.Test.YtjbhlckdaghppaaStD
import Derived.Test.YtjbhlckdaghppaaSamRw
import Derived.Test.YtjbhlckdaghppaaShelf
set_option linter.unusedVariables false
set_option linter.unusedSimpArgs false
namespace Go.Proofs.Ytjbhlckdaghppaa
open Go.RowKit (wrap32 wrap64)
open Go.RowKit Go.Shelf Go.Sort Go.Lib
def rwP (x : Rw) : Pt := ⟨x.n0, x.n1, x.n2, x.n3, x.dep⟩
/-- A row at a node that may be. -/
structure VR where
  val : Rw
  may : mayP (rwP val) = true
instance : Inhabited VR := ⟨⟨⟨1, 0, 0, 0, 1, 0⟩, by decide⟩⟩
def enVR (x : VR) : List Value := enRw x.1
def cfVR (x y : VR) : Int := if lessP (rwP x.1) (rwP y.1) = true then -1 else 1
theorem ltVR (x y : VR) : ltOf cfVR x y = lessP (rwP x.1) (rwP y.1) := by
  unfold ltOf cfVR
  cases h : lessP (rwP x.1) (rwP y.1) <;> simp
theorem swoVR : SWO (ltOf cfVR) where
  irrefl x := by rw [ltVR]; exact less_irrefl _
  trans x y z h1 h2 := by rw [ltVR] at *; exact less_trans h1 h2
  ntrans x y z h1 h2 := by
    rw [ltVR] at *
    cases h3 : lessP (rwP x.1) (rwP z.1) with
    | false => rfl
    | true =>
      exfalso
      by_cases e1 : rwP x.1 = rwP y.1
      · rw [e1, h2] at h3; cases h3
      · have a := less_tri x.2 y.2 e1
        rw [h1] at a
        have : lessP (rwP y.1) (rwP z.1) = true := less_trans (by simpa using a) h3
        rw [h2] at this; cases this
theorem bd_grow {w w' : World} (h : BD w w') : ∃ q os', w' = grow (w.drewN q) os' := by
  obtain ⟨⟨d, os⟩, hp⟩ := regrown_of_below h.1
  refine ⟨w'.drawn - w.drawn, os, ?_⟩
  have hd : w'.drawn = d := by rw [hp]; rfl
  have h2 := h.2
  rw [hp]
  unfold World.drewN redrawn grow
  congr 1
  show d = w.drawn + (d - w.drawn)
  omega
set_option maxRecDepth 100000 in
theorem rowcmp_any (x y : Rw) (W : World) : Calls Try.prog 52 #[.agg #[.int .i64 x.n0, .int .i64 x.n1, .int .i64 x.n2, .int .i64 x.n3, .int .i64 x.dep, .int .i64 x.val], .agg #[.int .i64 y.n0, .int .i64 y.n1, .int .i64 y.n2, .int .i64 y.n3, .int .i64 y.dep, .int .i64 y.val]] W fun e w' => e = .returned (.int .i64 (if lessP (rwP x) (rwP y) = true then -1 else 1)) ∧ BD W w' := by
  have a1 := (BD.alloc W (.cells #[.int .i64 x.n0, .int .i64 x.n1, .int .i64 x.n2, .int .i64 x.n3, .int .i64 x.dep, .int .i64 x.val] 30)).trans (BD.alloc _ (.cells #[.int .i64 y.n0, .int .i64 y.n1, .int .i64 y.n2, .int .i64 y.n3, .int .i64 y.dep, .int .i64 y.val] 30))
  have b1 := (Bk.new W 30 #[.int .i64 x.n0, .int .i64 x.n1, .int .i64 x.n2, .int .i64 x.n3, .int .i64 x.dep, .int .i64 x.val]).below (BD.alloc _ (.cells #[.int .i64 y.n0, .int .i64 y.n1, .int .i64 y.n2, .int .i64 y.n3, .int .i64 y.dep, .int .i64 y.val] 30)).1
  have b2 := Bk.new (W.alloc (.cells #[.int .i64 x.n0, .int .i64 x.n1, .int .i64 x.n2, .int .i64 x.n3, .int .i64 x.dep, .int .i64 x.val] 30)) 30 #[.int .i64 y.n0, .int .i64 y.n1, .int .i64 y.n2, .int .i64 y.n3, .int .i64 y.dep, .int .i64 y.val]
  rw [World.size_alloc] at b2
  have hL := fun W1 => plessD_any (rwP x) (rwP y) W1
  cases hl : lessP (rwP x) (rwP y) with
  | true =>
    rw [hl] at hL
    have HL := Lib.hid hL
    have x0 := b1.cell 0
    have x1 := b1.cell 1
    have x2 := b1.cell 2
    have x3 := b1.cell 3
    have x4 := b1.cell 4
    have y0 := b2.cell 0
    have y1 := b2.cell 1
    have y2 := b2.cell 2
    have y3 := b2.cell 3
    have y4 := b2.cell 4
    clear hL hl b1 b2
    go_enter Try.func52, Try.ntmps52
    go_wp2_with (go_at_call 53; refine (HL.out _).mono ?_; rintro e w1 ⟨rfl, hb1⟩)
    go_ret
    exact ⟨rfl, a1.trans hb1⟩
  | false =>
    rw [hl] at hL
    have HL := Lib.hid hL
    have x0 := b1.cell 0
    have x1 := b1.cell 1
    have x2 := b1.cell 2
    have x3 := b1.cell 3
    have x4 := b1.cell 4
    have y0 := b2.cell 0
    have y1 := b2.cell 1
    have y2 := b2.cell 2
    have y3 := b2.cell 3
    have y4 := b2.cell 4
    clear hL hl b1 b2
    go_enter Try.func52, Try.ntmps52
    go_wp2_with (go_at_call 53; refine (HL.out _).mono ?_; rintro e w1 ⟨rfl, hb1⟩)
    go_ret
    exact ⟨rfl, a1.trans hb1⟩
theorem cmpVR (blk off size : Nat) (w : World) : CmpLays Try.prog 52 #[] enVR 6 cfVR blk off size w :=
  fun m os dk _ x y => (rowcmp_any x.1 y.1 _).mono fun e w' ⟨he, hb⟩ => ⟨he, bd_grow hb⟩
end Go.Proofs.Ytjbhlckdaghppaa
