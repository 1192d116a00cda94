/- Records of type api.Op: their cells, slices of them, and the library's functions over such slices. No condition. -/
import Derived.Test.YtbdefhekkafihaaRecF
import Derived.WalkSpells
import Derived.Lib.SliceRun
set_option linter.unusedVariables false
set_option linter.unusedSimpArgs false
namespace Go.Proofs.Ytbdefhekkafihaa
open Go.RowKit (wrap32 wrap64)
open Go.RowKit
structure Ac where
  kind : Int
  n0 : Int
  n1 : Int
  n2 : Int
  n3 : Int
  dep : Int
  val : Int
  deriving DecidableEq, Inhabited
def enAc (x : Ac) : List Value := [.int .i64 x.kind, .int .i64 x.n0, .int .i64 x.n1, .int .i64 x.n2, .int .i64 x.n3, .int .i64 x.dep, .int .i64 x.val]
def ksAc : List CK := [.int .i64, .int .i64, .int .i64, .int .i64, .int .i64, .int .i64, .int .i64]
def okAc (x : Ac) : Prop := (Lit.int .i64 x.kind).wf = true ∧ (Lit.int .i64 x.n0).wf = true ∧ (Lit.int .i64 x.n1).wf = true ∧ (Lit.int .i64 x.n2).wf = true ∧ (Lit.int .i64 x.n3).wf = true ∧ (Lit.int .i64 x.dep).wf = true ∧ (Lit.int .i64 x.val).wf = true
instance (x : Ac) : Decidable (okAc x) := by unfold okAc; infer_instance
theorem enAc_len (x : Ac) : (enAc x).length = 7 := rfl
theorem enAc_one : ∀ x, ∀ u ∈ enAc x, u.oneCell' = true := by
  intro x u hu
  unfold enAc at hu
  simp only [List.mem_cons, List.not_mem_nil, or_false] at hu
  rcases hu with rfl | rfl | rfl | rfl | rfl | rfl | rfl <;> rfl
theorem decAc (c : List Value) (hl : c.length = ksAc.length) (h : PW ksAc c) : ∃ x : Ac, c = enAc x ∧ okAc x := by
  match c, hl with
  | [v0, v1, v2, v3, v4, v5, v6], _ =>
    obtain ⟨n0, rfl, w0⟩ := h 0 _ v0 rfl rfl
    obtain ⟨n1, rfl, w1⟩ := h 1 _ v1 rfl rfl
    obtain ⟨n2, rfl, w2⟩ := h 2 _ v2 rfl rfl
    obtain ⟨n3, rfl, w3⟩ := h 3 _ v3 rfl rfl
    obtain ⟨n4, rfl, w4⟩ := h 4 _ v4 rfl rfl
    obtain ⟨n5, rfl, w5⟩ := h 5 _ v5 rfl rfl
    obtain ⟨n6, rfl, w6⟩ := h 6 _ v6 rfl rfl
    exact ⟨⟨n0, n1, n2, n3, n4, n5, n6⟩, rfl, w0, w1, w2, w3, w4, w5, w6⟩
abbrev Acs (w : World) (a : Option Addr) (n : Nat) (L : List Ac) : Prop := SR enAc okAc 7 w a n L
theorem Ac_at {w : World} {a : Option Addr} {n : Nat} {L : List Ac} (h : Acs w a n L) {i : Nat} (hi : i < n) : ∃ b off, ∃ x : Ac, a = some ⟨b, off, none⟩ ∧ b < w.heap.size ∧ L[i]? = some x ∧ okAc x ∧ w.cell? ⟨b, off + i * 7, none⟩ = some (.int .i64 x.kind) ∧ w.cell? ⟨b, off + i * 7 + 1, none⟩ = some (.int .i64 x.n0) ∧ w.cell? ⟨b, off + i * 7 + 2, none⟩ = some (.int .i64 x.n1) ∧ w.cell? ⟨b, off + i * 7 + 3, none⟩ = some (.int .i64 x.n2) ∧ w.cell? ⟨b, off + i * 7 + 4, none⟩ = some (.int .i64 x.n3) ∧ w.cell? ⟨b, off + i * 7 + 5, none⟩ = some (.int .i64 x.dep) ∧ w.cell? ⟨b, off + i * 7 + 6, none⟩ = some (.int .i64 x.val) := by
  obtain ⟨b, off, x, ha, hb, hx, hk, hc⟩ := h.get enAc_len hi
  exact ⟨b, off, x, ha, hb, hx, hk, hc 0 (by omega), hc 1 (by omega), hc 2 (by omega), hc 3 (by omega), hc 4 (by omega), hc 5 (by omega), hc 6 (by omega)⟩
theorem Ac_row {w : World} {E h cap : Nat} {D : List Ac} (r : RowAt enAc E 7 w h cap D) {i : Nat} {x : Ac} (hx : D[i]? = some x) : w.cell? ⟨h, i * 7, none⟩ = some (.int .i64 x.kind) ∧ w.cell? ⟨h, i * 7 + 1, none⟩ = some (.int .i64 x.n0) ∧ w.cell? ⟨h, i * 7 + 2, none⟩ = some (.int .i64 x.n1) ∧ w.cell? ⟨h, i * 7 + 3, none⟩ = some (.int .i64 x.n2) ∧ w.cell? ⟨h, i * 7 + 4, none⟩ = some (.int .i64 x.n3) ∧ w.cell? ⟨h, i * 7 + 5, none⟩ = some (.int .i64 x.dep) ∧ w.cell? ⟨h, i * 7 + 6, none⟩ = some (.int .i64 x.val) := by
  have hc := fun j hj => r.cell enAc_len hx j hj
  exact ⟨hc 0 (by omega), hc 1 (by omega), hc 2 (by omega), hc 3 (by omega), hc 4 (by omega), hc 5 (by omega), hc 6 (by omega)⟩
theorem Try.infoAc : (Try.prog.info? 52).map (fun i => (i.zero, i.size, i.bytes)) = some (some (.agg #[.int .i64 0, .int .i64 0, .int .i64 0, .int .i64 0, .int .i64 0, .int .i64 0, .int .i64 0]), 7, 56) := by kernel_rfl
end Go.Proofs.Ytbdefhekkafihaa
