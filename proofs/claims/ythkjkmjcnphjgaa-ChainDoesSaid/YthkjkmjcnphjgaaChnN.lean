/- chain: free, First, Next, lay. No condition. -/
import Derived.Test.YthkjkmjcnphjgaaChnM
set_option linter.unusedVariables false
set_option linter.unusedSimpArgs false
namespace Go.Proofs.Ythkjkmjcnphjgaa
open Go.RowKit (wrap32 wrap64)
open Go.RowKit
def freeB (n : Nat) (T : List Ln) (row i : Int) : Bool := inC n row && inC n i && ((lkT T i).row == -1)
def nxV (T : List Ln) (i : Int) : Int := if (lkT T i).row = -1 then -1 else (lkT T i).next
theorem cfree_any (g h1 h2 n : Nat) (T : List Ln) (E : List En) (row i : Int) (w : World) (hc : ChnAt w g h1 h2 n T E) :
    Calls Try.prog 68 #[.pointer (some ⟨g, 0, none⟩), .int .i64 row, .int .i64 i] w fun e w' => e = .returned (.bool (freeB n T row i)) ∧ w = w' := by
  have HR := Lib.hid (crow_any g h1 h2 n T E i w hc)
  have HH := Lib.hid (fun j => chas_any g h1 h2 n T E j w hc)
  have hb : freeB n T row i = (inC n row && inC n i && ((lkT T i).row == -1)) := rfl
  rw [hb]
  clear hb hc
  generalize (lkT T i).row = y at HR
  generalize z1 y = zy at HR
  have hyy : (y == -1) = !(y != -1) := by unfold bne; simp
  rw [hyy]
  clear hyy
  have HR1 := HR
  generalize (y != -1) = b1 at HR HR1 ⊢
  have hr2 := HH.out row
  have hi2 := HH.out i
  generalize inC n row = b2 at hr2 ⊢
  generalize inC n i = b3 at hi2 ⊢
  have HA := Lib.hid hr2
  have HB := Lib.hid hi2
  clear hr2 hi2 HH HR
  cases b1 <;> cases b2 <;> cases b3 <;>
    (go_enter Try.func68, Try.ntmps68
     go_wp2_with (first
      | (go_at_call 26; refine HR1.out.mono ?_; rintro e _ ⟨rfl, rfl⟩)
      | (go_at_call_of 70 (Value.int .i64 row); refine HA.out.mono ?_; rintro e _ ⟨rfl, rfl⟩)
      | (go_at_call_of 70 (Value.int .i64 i); refine HB.out.mono ?_; rintro e _ ⟨rfl, rfl⟩))
     go_ret
     exact ⟨rfl, rfl⟩)
theorem cfirst_any (g h1 h2 n : Nat) (T : List Ln) (E : List En) (i : Int) (w : World) (hc : ChnAt w g h1 h2 n T E) :
    Calls Try.prog 16 #[.pointer (some ⟨g, 0, none⟩), .int .i64 i] w fun e w' => e = .returned (.tuple #[.int .i64 (z1 (lkE E i).first), .bool ((lkE E i).first != -1)]) ∧ w = w' := by
  have hn4 := hc.n4
  have c1 := hc.bk.cell 1
  have hh := chas_any g h1 h2 n T E i w hc
  cases hin : inC n i with
  | false =>
    rw [lkE_out E n i hc.el hin]
    rw [hin] at hh
    have HH := Lib.hid hh
    clear hh hc hin
    go_enter Try.func16, Try.ntmps16
    go_wp2_with (go_at_call 70; refine HH.out.mono ?_; rintro e _ ⟨rfl, rfl⟩)
    go_ret2
    exact ⟨rfl, rfl⟩
  | true =>
    obtain ⟨k, rfl, hk, hx⟩ := lkE_in E n i hc.el hin
    rw [hin] at hh
    have HH := Lib.hid hh
    generalize lkE E (k : Int) = y at hx ⊢
    have d0 := hc.r2.cell enEn_len hx 0 (by omega)
    rw [show (enEn y)[0]? = some (.int .i64 y.first) from rfl, Nat.add_zero] at d0
    have HT := Lib.hid (told_any y.first w)
    generalize z1 y.first = za at HT ⊢
    generalize (y.first != -1) = zb at HT ⊢
    clear hh hc hin hx
    go_enter Try.func16, Try.ntmps16
    go_wp2_with (first
      | (go_at_call 70; refine HH.out.mono ?_; rintro e _ ⟨rfl, rfl⟩)
      | (go_at_call 71; refine HT.out.mono ?_; rintro e _ ⟨rfl, rfl⟩))
    go_ret2
    exact ⟨rfl, rfl⟩
theorem cnext_any (g h1 h2 n : Nat) (T : List Ln) (E : List En) (i : Int) (w : World) (hc : ChnAt w g h1 h2 n T E) :
    Calls Try.prog 29 #[.pointer (some ⟨g, 0, none⟩), .int .i64 i] w fun e w' => e = .returned (.tuple #[.int .i64 (z1 (nxV T i)), .bool (nxV T i != -1)]) ∧ w = w' := by
  have hn4 := hc.n4
  have c0 := hc.bk.cell 0
  have hr := crow_any g h1 h2 n T E i w hc
  by_cases hy : (lkT T i).row = -1
  · have e : nxV T i = -1 := if_pos hy
    rw [e]
    rw [hy] at hr
    have HR := Lib.hid hr
    clear hr hc hy e
    go_enter Try.func29, Try.ntmps29
    go_wp2_with (go_at_call 26; refine HR.out.mono ?_; rintro e _ ⟨rfl, rfl⟩)
    go_ret2
    exact ⟨rfl, rfl⟩
  · have hin : inC n i = true := by
      cases h : inC n i with
      | true => rfl
      | false => exact absurd (by rw [lkT_out T n i hc.tl h]) hy
    obtain ⟨k, rfl, hk, hx⟩ := lkT_in T n i hc.tl hin
    have e : nxV T (k : Int) = (lkT T (k : Int)).next := if_neg hy
    rw [e]
    have e3 : ((lkT T (k : Int)).row != -1) = true := by unfold bne; rw [beq_eq_false_iff_ne.2 hy]; rfl
    rw [e3] at hr
    generalize z1 (lkT T (k : Int)).row = zr at hr
    generalize lkT T (k : Int) = y at hx ⊢
    have HR := Lib.hid hr
    have d2 := hc.r1.cell enLn_len hx 2 (by omega)
    rw [show (enLn y)[2]? = some (.int .i64 y.next) from rfl] at d2
    have HT := Lib.hid (told_any y.next w)
    generalize z1 y.next = za at HT ⊢
    generalize (y.next != -1) = zb at HT ⊢
    clear hr hc hin hx e e3 hy
    go_enter Try.func29, Try.ntmps29
    go_wp2_with (first
      | (go_at_call 26; refine HR.out.mono ?_; rintro e _ ⟨rfl, rfl⟩)
      | (go_at_call 71; refine HT.out.mono ?_; rintro e _ ⟨rfl, rfl⟩))
    go_ret2
    exact ⟨rfl, rfl⟩
end Go.Proofs.Ythkjkmjcnphjgaa
