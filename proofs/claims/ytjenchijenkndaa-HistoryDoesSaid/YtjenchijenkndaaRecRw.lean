/- Records of type api.Row: their cells, slices of them, and the library's functions over such slices. No condition. -/
import Derived.Test.YtjenchijenkndaaRecF
import Derived.WalkSpells
import Derived.Lib.SliceRun
set_option linter.unusedVariables false
set_option linter.unusedSimpArgs false
namespace Go.Proofs.Ytjenchijenkndaa
open Go.RowKit (wrap32 wrap64)
open Go.RowKit
structure Rw where
  n0 : Int
  n1 : Int
  n2 : Int
  n3 : Int
  dep : Int
  val : Int
  deriving DecidableEq, Inhabited
def enRw (x : Rw) : List Value := [.int .i64 x.n0, .int .i64 x.n1, .int .i64 x.n2, .int .i64 x.n3, .int .i64 x.dep, .int .i64 x.val]
def ksRw : List CK := [.int .i64, .int .i64, .int .i64, .int .i64, .int .i64, .int .i64]
def okRw (x : Rw) : Prop := (Lit.int .i64 x.n0).wf = true ∧ (Lit.int .i64 x.n1).wf = true ∧ (Lit.int .i64 x.n2).wf = true ∧ (Lit.int .i64 x.n3).wf = true ∧ (Lit.int .i64 x.dep).wf = true ∧ (Lit.int .i64 x.val).wf = true
instance (x : Rw) : Decidable (okRw x) := by unfold okRw; infer_instance
theorem enRw_len (x : Rw) : (enRw x).length = 6 := rfl
theorem enRw_one : ∀ x, ∀ u ∈ enRw x, u.oneCell' = true := by
  intro x u hu
  unfold enRw at hu
  simp only [List.mem_cons, List.not_mem_nil, or_false] at hu
  rcases hu with rfl | rfl | rfl | rfl | rfl | rfl <;> rfl
theorem decRw (c : List Value) (hl : c.length = ksRw.length) (h : PW ksRw c) : ∃ x : Rw, c = enRw x ∧ okRw x := by
  match c, hl with
  | [v0, v1, v2, v3, v4, v5], _ =>
    obtain ⟨n0, rfl, w0⟩ := h 0 _ v0 rfl rfl
    obtain ⟨n1, rfl, w1⟩ := h 1 _ v1 rfl rfl
    obtain ⟨n2, rfl, w2⟩ := h 2 _ v2 rfl rfl
    obtain ⟨n3, rfl, w3⟩ := h 3 _ v3 rfl rfl
    obtain ⟨n4, rfl, w4⟩ := h 4 _ v4 rfl rfl
    obtain ⟨n5, rfl, w5⟩ := h 5 _ v5 rfl rfl
    exact ⟨⟨n0, n1, n2, n3, n4, n5⟩, rfl, w0, w1, w2, w3, w4, w5⟩
abbrev Rws (w : World) (a : Option Addr) (n : Nat) (L : List Rw) : Prop := SR enRw okRw 6 w a n L
theorem Rw_at {w : World} {a : Option Addr} {n : Nat} {L : List Rw} (h : Rws w a n L) {i : Nat} (hi : i < n) : ∃ b off, ∃ x : Rw, a = some ⟨b, off, none⟩ ∧ b < w.heap.size ∧ L[i]? = some x ∧ okRw x ∧ w.cell? ⟨b, off + i * 6, none⟩ = some (.int .i64 x.n0) ∧ w.cell? ⟨b, off + i * 6 + 1, none⟩ = some (.int .i64 x.n1) ∧ w.cell? ⟨b, off + i * 6 + 2, none⟩ = some (.int .i64 x.n2) ∧ w.cell? ⟨b, off + i * 6 + 3, none⟩ = some (.int .i64 x.n3) ∧ w.cell? ⟨b, off + i * 6 + 4, none⟩ = some (.int .i64 x.dep) ∧ w.cell? ⟨b, off + i * 6 + 5, none⟩ = some (.int .i64 x.val) := by
  obtain ⟨b, off, x, ha, hb, hx, hk, hc⟩ := h.get enRw_len hi
  exact ⟨b, off, x, ha, hb, hx, hk, hc 0 (by omega), hc 1 (by omega), hc 2 (by omega), hc 3 (by omega), hc 4 (by omega), hc 5 (by omega)⟩
theorem Rw_row {w : World} {E h cap : Nat} {D : List Rw} (r : RowAt enRw E 6 w h cap D) {i : Nat} {x : Rw} (hx : D[i]? = some x) : w.cell? ⟨h, i * 6, none⟩ = some (.int .i64 x.n0) ∧ w.cell? ⟨h, i * 6 + 1, none⟩ = some (.int .i64 x.n1) ∧ w.cell? ⟨h, i * 6 + 2, none⟩ = some (.int .i64 x.n2) ∧ w.cell? ⟨h, i * 6 + 3, none⟩ = some (.int .i64 x.n3) ∧ w.cell? ⟨h, i * 6 + 4, none⟩ = some (.int .i64 x.dep) ∧ w.cell? ⟨h, i * 6 + 5, none⟩ = some (.int .i64 x.val) := by
  have hc := fun j hj => r.cell enRw_len hx j hj
  exact ⟨hc 0 (by omega), hc 1 (by omega), hc 2 (by omega), hc 3 (by omega), hc 4 (by omega), hc 5 (by omega)⟩
theorem Try.infoRw : (Try.prog.info? 58).map (fun i => (i.zero, i.size, i.bytes)) = some (some (.agg #[.int .i64 0, .int .i64 0, .int .i64 0, .int .i64 0, .int .i64 0, .int .i64 0]), 6, 48) := by kernel_rfl
end Go.Proofs.Ytjenchijenkndaa
