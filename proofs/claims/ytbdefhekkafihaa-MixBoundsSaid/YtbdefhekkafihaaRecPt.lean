/- Records of type api.Path: their cells, slices of them, and the library's functions over such slices. No condition. -/
import Derived.Test.YtbdefhekkafihaaRecF
import Derived.WalkSpells
import Derived.Lib.SliceRun
set_option linter.unusedVariables false
set_option linter.unusedSimpArgs false
namespace Go.Proofs.Ytbdefhekkafihaa
open Go.RowKit (wrap32 wrap64)
open Go.RowKit
structure Pt where
  n0 : Int
  n1 : Int
  n2 : Int
  n3 : Int
  dep : Int
  deriving DecidableEq, Inhabited
def enPt (x : Pt) : List Value := [.int .i64 x.n0, .int .i64 x.n1, .int .i64 x.n2, .int .i64 x.n3, .int .i64 x.dep]
def ksPt : List CK := [.int .i64, .int .i64, .int .i64, .int .i64, .int .i64]
def okPt (x : Pt) : Prop := (Lit.int .i64 x.n0).wf = true ∧ (Lit.int .i64 x.n1).wf = true ∧ (Lit.int .i64 x.n2).wf = true ∧ (Lit.int .i64 x.n3).wf = true ∧ (Lit.int .i64 x.dep).wf = true
instance (x : Pt) : Decidable (okPt x) := by unfold okPt; infer_instance
theorem enPt_len (x : Pt) : (enPt x).length = 5 := rfl
theorem enPt_one : ∀ x, ∀ u ∈ enPt x, u.oneCell' = true := by
  intro x u hu
  unfold enPt at hu
  simp only [List.mem_cons, List.not_mem_nil, or_false] at hu
  rcases hu with rfl | rfl | rfl | rfl | rfl <;> rfl
theorem decPt (c : List Value) (hl : c.length = ksPt.length) (h : PW ksPt c) : ∃ x : Pt, c = enPt x ∧ okPt x := by
  match c, hl with
  | [v0, v1, v2, v3, v4], _ =>
    obtain ⟨n0, rfl, w0⟩ := h 0 _ v0 rfl rfl
    obtain ⟨n1, rfl, w1⟩ := h 1 _ v1 rfl rfl
    obtain ⟨n2, rfl, w2⟩ := h 2 _ v2 rfl rfl
    obtain ⟨n3, rfl, w3⟩ := h 3 _ v3 rfl rfl
    obtain ⟨n4, rfl, w4⟩ := h 4 _ v4 rfl rfl
    exact ⟨⟨n0, n1, n2, n3, n4⟩, rfl, w0, w1, w2, w3, w4⟩
abbrev Pts (w : World) (a : Option Addr) (n : Nat) (L : List Pt) : Prop := SR enPt okPt 5 w a n L
theorem Pt_at {w : World} {a : Option Addr} {n : Nat} {L : List Pt} (h : Pts w a n L) {i : Nat} (hi : i < n) : ∃ b off, ∃ x : Pt, a = some ⟨b, off, none⟩ ∧ b < w.heap.size ∧ L[i]? = some x ∧ okPt x ∧ w.cell? ⟨b, off + i * 5, none⟩ = some (.int .i64 x.n0) ∧ w.cell? ⟨b, off + i * 5 + 1, none⟩ = some (.int .i64 x.n1) ∧ w.cell? ⟨b, off + i * 5 + 2, none⟩ = some (.int .i64 x.n2) ∧ w.cell? ⟨b, off + i * 5 + 3, none⟩ = some (.int .i64 x.n3) ∧ w.cell? ⟨b, off + i * 5 + 4, none⟩ = some (.int .i64 x.dep) := by
  obtain ⟨b, off, x, ha, hb, hx, hk, hc⟩ := h.get enPt_len hi
  exact ⟨b, off, x, ha, hb, hx, hk, hc 0 (by omega), hc 1 (by omega), hc 2 (by omega), hc 3 (by omega), hc 4 (by omega)⟩
theorem Pt_row {w : World} {E h cap : Nat} {D : List Pt} (r : RowAt enPt E 5 w h cap D) {i : Nat} {x : Pt} (hx : D[i]? = some x) : w.cell? ⟨h, i * 5, none⟩ = some (.int .i64 x.n0) ∧ w.cell? ⟨h, i * 5 + 1, none⟩ = some (.int .i64 x.n1) ∧ w.cell? ⟨h, i * 5 + 2, none⟩ = some (.int .i64 x.n2) ∧ w.cell? ⟨h, i * 5 + 3, none⟩ = some (.int .i64 x.n3) ∧ w.cell? ⟨h, i * 5 + 4, none⟩ = some (.int .i64 x.dep) := by
  have hc := fun j hj => r.cell enPt_len hx j hj
  exact ⟨hc 0 (by omega), hc 1 (by omega), hc 2 (by omega), hc 3 (by omega), hc 4 (by omega)⟩
theorem Try.infoPt : (Try.prog.info? 50).map (fun i => (i.zero, i.size, i.bytes)) = some (some (.agg #[.int .i64 0, .int .i64 0, .int .i64 0, .int .i64 0, .int .i64 0]), 5, 40) := by kernel_rfl
end Go.Proofs.Ytbdefhekkafihaa
