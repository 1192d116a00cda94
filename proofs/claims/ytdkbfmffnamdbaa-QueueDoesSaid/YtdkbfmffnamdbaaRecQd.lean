/- Records of type escutcheonlaw12.Deed: their cells, slices of them, and the library's functions over such slices. No condition. -/
import Derived.Test.YtdkbfmffnamdbaaRecF
import Derived.WalkSpells
import Derived.Lib.SliceRun
set_option linter.unusedVariables false
set_option linter.unusedSimpArgs false
namespace Go.Proofs.Ytdkbfmffnamdbaa
open Go.RowKit (wrap32 wrap64)
open Go.RowKit
structure Qd where
  kind : Int
  tx : Int
  mode : Int
  fl : Int
  deriving DecidableEq, Inhabited
def enQd (x : Qd) : List Value := [.int .i64 x.kind, .int .i64 x.tx, .int .i64 x.mode, .int .i64 x.fl]
def ksQd : List CK := [.int .i64, .int .i64, .int .i64, .int .i64]
def okQd (x : Qd) : Prop := (Lit.int .i64 x.kind).wf = true ∧ (Lit.int .i64 x.tx).wf = true ∧ (Lit.int .i64 x.mode).wf = true ∧ (Lit.int .i64 x.fl).wf = true
instance (x : Qd) : Decidable (okQd x) := by unfold okQd; infer_instance
theorem enQd_len (x : Qd) : (enQd x).length = 4 := rfl
theorem enQd_one : ∀ x, ∀ u ∈ enQd x, u.oneCell' = true := by
  intro x u hu
  unfold enQd at hu
  simp only [List.mem_cons, List.not_mem_nil, or_false] at hu
  rcases hu with rfl | rfl | rfl | rfl <;> rfl
theorem decQd (c : List Value) (hl : c.length = ksQd.length) (h : PW ksQd c) : ∃ x : Qd, c = enQd x ∧ okQd x := by
  match c, hl with
  | [v0, v1, v2, v3], _ =>
    obtain ⟨n0, rfl, w0⟩ := h 0 _ v0 rfl rfl
    obtain ⟨n1, rfl, w1⟩ := h 1 _ v1 rfl rfl
    obtain ⟨n2, rfl, w2⟩ := h 2 _ v2 rfl rfl
    obtain ⟨n3, rfl, w3⟩ := h 3 _ v3 rfl rfl
    exact ⟨⟨n0, n1, n2, n3⟩, rfl, w0, w1, w2, w3⟩
abbrev Qds (w : World) (a : Option Addr) (n : Nat) (L : List Qd) : Prop := SR enQd okQd 4 w a n L
theorem Qd_at {w : World} {a : Option Addr} {n : Nat} {L : List Qd} (h : Qds w a n L) {i : Nat} (hi : i < n) : ∃ b off, ∃ x : Qd, a = some ⟨b, off, none⟩ ∧ b < w.heap.size ∧ L[i]? = some x ∧ okQd x ∧ w.cell? ⟨b, off + i * 4, none⟩ = some (.int .i64 x.kind) ∧ w.cell? ⟨b, off + i * 4 + 1, none⟩ = some (.int .i64 x.tx) ∧ w.cell? ⟨b, off + i * 4 + 2, none⟩ = some (.int .i64 x.mode) ∧ w.cell? ⟨b, off + i * 4 + 3, none⟩ = some (.int .i64 x.fl) := by
  obtain ⟨b, off, x, ha, hb, hx, hk, hc⟩ := h.get enQd_len hi
  exact ⟨b, off, x, ha, hb, hx, hk, hc 0 (by omega), hc 1 (by omega), hc 2 (by omega), hc 3 (by omega)⟩
theorem Qd_row {w : World} {E h cap : Nat} {D : List Qd} (r : RowAt enQd E 4 w h cap D) {i : Nat} {x : Qd} (hx : D[i]? = some x) : w.cell? ⟨h, i * 4, none⟩ = some (.int .i64 x.kind) ∧ w.cell? ⟨h, i * 4 + 1, none⟩ = some (.int .i64 x.tx) ∧ w.cell? ⟨h, i * 4 + 2, none⟩ = some (.int .i64 x.mode) ∧ w.cell? ⟨h, i * 4 + 3, none⟩ = some (.int .i64 x.fl) := by
  have hc := fun j hj => r.cell enQd_len hx j hj
  exact ⟨hc 0 (by omega), hc 1 (by omega), hc 2 (by omega), hc 3 (by omega)⟩
theorem Try.infoQd : (Try.prog.info? 31).map (fun i => (i.zero, i.size, i.bytes)) = some (some (.agg #[.int .i64 0, .int .i64 0, .int .i64 0, .int .i64 0]), 4, 32) := by kernel_rfl
end Go.Proofs.Ytdkbfmffnamdbaa
