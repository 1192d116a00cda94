/- An event that came in: its rows. No condition. -/
import Derived.Test.YtjenchijenkndaaHisM
set_option linter.unusedVariables false
set_option linter.unusedSimpArgs false
namespace Go.Proofs.Ytjenchijenkndaa
open Go.RowKit (wrap32 wrap64)
open Go.RowKit
theorem open_event {H : Type} {enc : TypeId × Value → H} {w : World} {base : Nat} {spare : Nat → Bool} {held : Bool} {x : Ev} {d : DataW H} {p : List MemPlace}
    (h : DataW.Trod enc Try.prog w base spare held 31 (.agg (evA x)) d p) : ∃ l, Rws w x.rows.1 x.rows.2.1 l := by
  obtain ⟨n, hn⟩ := h
  obtain ⟨a, l, c, css, he, hf⟩ := field_rows ksRw (by decide) Try.underlying31 (i := 5) rfl rfl (by kernel_rfl) Try.underlying28 (by kernel_rfl) (by kernel_rfl) hn
  obtain ⟨M, hm, _⟩ := SR.flat (ks := ksRw) (enc := enRw) (ok := okRw) (s := 6) rfl (by omega) enRw_len decRw hf
  have e9 : (Value.agg (evA x)).cells.toList[9]? = some (.slice x.rows.1 x.rows.2.1 x.rows.2.2) := rfl
  have he' : (Value.agg (evA x)).cells.toList[9]? = some (.slice a l c) := he
  rw [e9] at he'
  injection he' with he'
  injection he' with e1 e2 _
  rw [e1, e2]
  exact ⟨M, hm⟩
end Go.Proofs.Ytjenchijenkndaa
