/- store: the reference's Set: every case. No condition. -/
import Derived.Test.YtjbhlckdaghppaaStN
import Derived.Test.YtjbhlckdaghppaaStO
set_option linter.unusedVariables false
set_option linter.unusedSimpArgs false
namespace Go.Proofs.Ytjbhlckdaghppaa
open Go.RowKit (wrap32 wrap64)
open Go.RowKit Go.Shelf Go.Sort Go.Lib
theorem rset_any (x : Nat) (vL vC : Value) (E : List Cl) (K : Nat) (p : Pt) (v : Int) (w : World) (h : RfO w x vL vC E) (hE : OkE E K) (hK : K ≤ 1000) :
    Calls Try.prog 14 #[.pointer (some ⟨x, 0, none⟩), .agg (ptA p), .int .i64 v] w (RSet x vL vC w (putT E p v)) := by
  by_cases hs : okSet p v = true
  · rcases findE_cases hE p with ⟨_, hh⟩ | ⟨i, c, hf, hi, hc, hp, hg⟩
    · by_cases h0 : 0 < E.length
      · exact rset_new x vL vC E K p v w h hE hK hs hh h0
      · have hE0 : E = [] := List.eq_nil_of_length_eq_zero (by omega)
        subst hE0
        obtain ⟨rfl, rfl⟩ := h.nil rfl
        exact rset_first x p v w h hs
    · exact rset_put x vL vC E K p v w h hE hK hs i c hf hi hc hp hg
  · exact rset_no x vL vC E p v w h hs
end Go.Proofs.Ytjbhlckdaghppaa
