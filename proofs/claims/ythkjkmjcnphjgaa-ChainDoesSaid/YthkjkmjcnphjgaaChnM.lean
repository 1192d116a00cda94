/- chain: what lies in memory; has, told, Row, free, First, Next. No condition. -/
import Derived.Test.YthkjkmjcnphjgaaChn
import Derived.WalkSpells
set_option linter.unusedVariables false
set_option linter.unusedSimpArgs false
namespace Go.Proofs.Ythkjkmjcnphjgaa
open Go.RowKit (wrap32 wrap64)
open Go.RowKit
def enLn (x : Ln) : List Value := [.int .i64 x.row, .int .i64 x.back, .int .i64 x.next]
def enEn (x : En) : List Value := [.int .i64 x.first, .int .i64 x.last]
theorem enLn_len (x : Ln) : (enLn x).length = 3 := rfl
theorem enEn_len (x : En) : (enEn x).length = 2 := rfl
structure ChnAt (w : World) (g h1 h2 n : Nat) (T : List Ln) (E : List En) : Prop where
  bk : Bk w g 92 #[.slice (some ⟨h1, 0, none⟩) n n, .slice (some ⟨h2, 0, none⟩) n n]
  r1 : RowAt enLn 94 3 w h1 n T
  r2 : RowAt enEn 96 2 w h2 n E
  tl : T.length = n
  el : E.length = n
  n4 : n ≤ 4096
theorem ChnAt.keep {S : Nat → Prop} {w w1 : World} {g h1 h2 n : Nat} {T : List Ln} {E : List En} (c : ChnAt w g h1 h2 n T E) (k : Keep S w w1) (hg : ¬ S g) (a : ¬ S h1) (b : ¬ S h2) : ChnAt w1 g h1 h2 n T E :=
  ⟨k.bk c.bk hg, c.r1.keep k a, c.r2.keep k b, c.tl, c.el, c.n4⟩
theorem ChnAt.below {w w1 : World} {g h1 h2 n : Nat} {T : List Ln} {E : List En} (c : ChnAt w g h1 h2 n T E) (k : Below w.heap.size w w1) : ChnAt w1 g h1 h2 n T E := c.keep (Keep.of_below k (fun _ => False)) (fun h => h) (fun h => h) (fun h => h)
def lkT (T : List Ln) (i : Int) : Ln := if 0 ≤ i then (T[i.toNat]?).getD ⟨-1, -1, -1⟩ else ⟨-1, -1, -1⟩
def lkE (E : List En) (i : Int) : En := if 0 ≤ i then (E[i.toNat]?).getD ⟨-1, -1⟩ else ⟨-1, -1⟩
def inC (n : Nat) (i : Int) : Bool := decide (0 ≤ i) && decide (i < n)
def z1 (x : Int) : Int := if x = -1 then 0 else x
theorem lkT_out (T : List Ln) (n : Nat) (i : Int) (hn : T.length = n) (h : inC n i = false) : lkT T i = ⟨-1, -1, -1⟩ := by
  unfold lkT
  split
  · rename_i h0
    unfold inC at h
    simp [h0] at h
    rw [List.getElem?_eq_none (by omega)]; rfl
  · rfl
theorem lkT_in (T : List Ln) (n : Nat) (i : Int) (hn : T.length = n) (h : inC n i = true) : ∃ k : Nat, i = k ∧ k < n ∧ T[k]? = some (lkT T i) := by
  unfold inC at h
  simp at h
  refine ⟨i.toNat, by omega, by omega, ?_⟩
  unfold lkT
  rw [if_pos h.1, List.getElem?_eq_getElem (by omega)]; rfl
theorem lkE_out (E : List En) (n : Nat) (i : Int) (hn : E.length = n) (h : inC n i = false) : lkE E i = ⟨-1, -1⟩ := by
  unfold lkE
  split
  · rename_i h0
    unfold inC at h
    simp [h0] at h
    rw [List.getElem?_eq_none (by omega)]; rfl
  · rfl
theorem lkE_in (E : List En) (n : Nat) (i : Int) (hn : E.length = n) (h : inC n i = true) : ∃ k : Nat, i = k ∧ k < n ∧ E[k]? = some (lkE E i) := by
  unfold inC at h
  simp at h
  refine ⟨i.toNat, by omega, by omega, ?_⟩
  unfold lkE
  rw [if_pos h.1, List.getElem?_eq_getElem (by omega)]; rfl
theorem chas_any (g h1 h2 n : Nat) (T : List Ln) (E : List En) (i : Int) (w : World) (hc : ChnAt w g h1 h2 n T E) :
    Calls Try.prog 70 #[.pointer (some ⟨g, 0, none⟩), .int .i64 i] w fun e w' => e = .returned (.bool (inC n i)) ∧ w = w' := by
  have hn4 := hc.n4
  have c0 := hc.bk.cell 0
  clear hc
  by_cases h0 : 0 ≤ i
  · by_cases h1 : i < (n : Int)
    · have e : inC n i = true := by unfold inC; simp [h0, h1]
      rw [e]; clear e
      go_enter Try.func70, Try.ntmps70
      go_wp2
      go_ret
      exact ⟨rfl, rfl⟩
    · have e : inC n i = false := by unfold inC; simp [h0, h1]
      rw [e]; clear e
      go_enter Try.func70, Try.ntmps70
      go_wp2
      go_ret
      exact ⟨rfl, rfl⟩
  · have e : inC n i = false := by unfold inC; simp [h0]
    rw [e]; clear e
    go_enter Try.func70, Try.ntmps70
    go_wp2
    go_ret
    exact ⟨rfl, rfl⟩
theorem told_any (i : Int) (w : World) : Calls Try.prog 71 #[.int .i64 i] w fun e w' => e = .returned (.tuple #[.int .i64 (z1 i), .bool (i != -1)]) ∧ w = w' := by
  by_cases h : i = -1
  · subst h
    go_enter Try.func71, Try.ntmps71
    go_wp2
    go_ret2
    exact ⟨rfl, rfl⟩
  · have e : z1 i = i := if_neg h
    have e2 : (i == -1) = false := beq_eq_false_iff_ne.2 h
    have e3 : (i != -1) = true := by unfold bne; rw [e2]; rfl
    rw [e, e3]
    clear e e3
    go_enter Try.func71, Try.ntmps71
    go_wp2
    go_ret2
    exact ⟨rfl, rfl⟩
theorem crow_any (g h1 h2 n : Nat) (T : List Ln) (E : List En) (i : Int) (w : World) (hc : ChnAt w g h1 h2 n T E) :
    Calls Try.prog 26 #[.pointer (some ⟨g, 0, none⟩), .int .i64 i] w fun e w' => e = .returned (.tuple #[.int .i64 (z1 (lkT T i).row), .bool ((lkT T i).row != -1)]) ∧ w = w' := by
  have hn4 := hc.n4
  have c0 := hc.bk.cell 0
  have hh := fun W (e : w = W) => chas_any g h1 h2 n T E i W (e ▸ hc)
  cases hin : inC n i with
  | false =>
    rw [lkT_out T n i hc.tl hin]
    rw [hin] at hh
    have HH := Lib.hid hh
    clear hh hc hin
    go_enter Try.func26, Try.ntmps26
    go_wp2_with (go_at_call 70; refine (HH.out _ rfl).mono ?_; rintro e _ ⟨rfl, rfl⟩)
    go_ret2
    exact ⟨rfl, rfl⟩
  | true =>
    obtain ⟨k, rfl, hk, hx⟩ := lkT_in T n i hc.tl hin
    rw [hin] at hh
    have HH := Lib.hid hh
    generalize lkT T (k : Int) = y at hx ⊢
    have d0 := hc.r1.cell enLn_len hx 0 (by omega)
    rw [show (enLn y)[0]? = some (.int .i64 y.row) from rfl, Nat.add_zero] at d0
    by_cases hy : y.row = -1
    · rw [hy] at d0 ⊢
      clear hh hc hin hx
      go_enter Try.func26, Try.ntmps26
      go_wp2_with (go_at_call 70; refine (HH.out _ rfl).mono ?_; rintro e _ ⟨rfl, rfl⟩)
      go_ret2
      exact ⟨rfl, rfl⟩
    · have e : z1 y.row = y.row := if_neg hy
      have e2 : (y.row == -1) = false := beq_eq_false_iff_ne.2 hy
      have e3 : (y.row != -1) = true := by unfold bne; rw [e2]; rfl
      rw [e, e3]
      clear hh hc hin hx e e3
      go_enter Try.func26, Try.ntmps26
      go_wp2_with (go_at_call 70; refine (HH.out _ rfl).mono ?_; rintro e _ ⟨rfl, rfl⟩)
      go_ret2
      exact ⟨rfl, rfl⟩
end Go.Proofs.Ythkjkmjcnphjgaa
