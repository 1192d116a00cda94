/- chain: Back, Ahead, as the rows say. No condition. -/
import Derived.Test.YthkjkmjcnphjgaaChnO
set_option linter.unusedVariables false
set_option linter.unusedSimpArgs false
namespace Go.Proofs.Ythkjkmjcnphjgaa
open Go.RowKit (wrap32 wrap64)
open Go.RowKit
/-- A chain in memory: its rows are R. -/
def Chn (w : World) (g h1 h2 n : Nat) (R : List (List Nat)) : Prop := ∃ T E, ChnAt w g h1 h2 n T E ∧ Rel T E R n
theorem Chn.keep {S : Nat → Prop} {w w1 : World} {g h1 h2 n : Nat} {R : List (List Nat)} (c : Chn w g h1 h2 n R) (k : Keep S w w1) (hg : ¬ S g) (a : ¬ S h1) (b : ¬ S h2) : Chn w1 g h1 h2 n R := by
  obtain ⟨T, E, c, r⟩ := c
  exact ⟨T, E, c.keep k hg a b, r⟩
theorem Chn.below {w w1 : World} {g h1 h2 n : Nat} {R : List (List Nat)} (c : Chn w g h1 h2 n R) (k : Below w.heap.size w w1) : Chn w1 g h1 h2 n R := c.keep (Keep.of_below k (fun _ => False)) (fun h => h) (fun h => h) (fun h => h)
def usedR (R : List (List Nat)) (i : Nat) : Bool := R.any fun l => l.contains i
theorem usedR_true {R : List (List Nat)} {i : Nat} : usedR R i = true ↔ ∃ l ∈ R, i ∈ l := by unfold usedR; simp
theorem usedR_false {R : List (List Nat)} {i : Nat} : usedR R i = false ↔ ∀ l ∈ R, i ∉ l := by unfold usedR; simp
def atR (R : List (List Nat)) (r : Int) : List Nat := if 0 ≤ r then (R[r.toNat]?).getD [] else []
def freeR (n : Nat) (R : List (List Nat)) (row i : Int) : Bool := inC n row && inC n i && !usedR R i.toNat
theorem atR_in {R : List (List Nat)} {n k : Nat} (hR : R.length = n) (hk : k < n) : R[k]? = some (atR R (k : Int)) := by
  unfold atR
  rw [if_pos (by omega), show (k : Int).toNat = k by omega, List.getElem?_eq_getElem (by omega)]; rfl
theorem lkT_used {T : List Ln} {E : List En} {R : List (List Nat)} {n : Nat} (h : Rel T E R n) (i : Nat) (hi : i < n) : ((lkT T i).row == -1) = !usedR R i := by
  have hl : lkT T (i : Int) = (T[i]?).getD ⟨-1, -1, -1⟩ := by
    unfold lkT
    rw [if_pos (by omega), show (i : Int).toNat = i by omega]
  cases hu : usedR R i with
  | true =>
    obtain ⟨l, hl2, hil⟩ := usedR_true.1 hu
    obtain ⟨A, B, rfl⟩ := List.append_of_mem hil
    obtain ⟨r, hr, hre⟩ := List.getElem_of_mem hl2
    have := h.at' r A i B (by rw [List.getElem?_eq_getElem hr, hre])
    rw [hl, this]
    simp
  | false =>
    have := h.off i hi (usedR_false.1 hu)
    rw [hl, this]; rfl
theorem free_eq {T : List Ln} {E : List En} {R : List (List Nat)} {n : Nat} (h : Rel T E R n) (row i : Int) : freeB n T row i = freeR n R row i := by
  unfold freeB freeR
  cases hi : inC n i with
  | false => simp
  | true =>
    obtain ⟨k, rfl, hk, _⟩ := lkT_in T n i h.tl hi
    rw [lkT_used h k hk]
    rfl
def backR (n : Nat) (R : List (List Nat)) (row i : Int) : List (List Nat) := if freeR n R row i = true then R.set row.toNat (atR R row ++ [i.toNat]) else R
def ChnRet (w : World) (b : Bool) (g h1 h2 n : Nat) (R : List (List Nat)) (e : Ending) (w' : World) : Prop := e = .returned (.bool b) ∧ Chn w' g h1 h2 n R ∧ Keep (LayS h1 h2) w w'
theorem laI_in {l : List Nat} {n : Nat} (h : ∀ i ∈ l, i < n) : laI l = -1 ∨ ∃ b : Nat, laI l = b ∧ b < n := by
  rcases Int.lt_or_le (laI l) 0 with h0 | h0
  · have := laI_ge l
    exact .inl (by omega)
  · exact .inr ⟨(laI l).toNat, by omega, h _ (laI_mem l _ (by omega))⟩
theorem hdI_in {l : List Nat} {n : Nat} (h : ∀ i ∈ l, i < n) : hdI l = -1 ∨ ∃ b : Nat, hdI l = b ∧ b < n := by
  rcases Int.lt_or_le (hdI l) 0 with h0 | h0
  · have := hdI_ge l
    exact .inl (by omega)
  · exact .inr ⟨(hdI l).toNat, by omega, h _ (hdI_mem l _ (by omega))⟩
set_option maxHeartbeats 1000000 in
theorem cback_any (g h1 h2 n : Nat) (R : List (List Nat)) (row i : Int) (w : World) (hc : Chn w g h1 h2 n R) :
    Calls Try.prog 15 #[.pointer (some ⟨g, 0, none⟩), .int .i64 row, .int .i64 i] w (ChnRet w (freeR n R row i) g h1 h2 n (backR n R row i)) := by
  obtain ⟨T, E, hc, hrel⟩ := hc
  have hn4 := hc.n4
  have hf := cfree_any g h1 h2 n T E row i w hc
  rw [free_eq hrel] at hf
  cases hfr : freeR n R row i with
  | false =>
    have e : backR n R row i = R := if_neg (by rw [hfr]; simp)
    rw [e]
    rw [hfr] at hf
    have HF := Lib.hid hf
    have HRET : Hid (ChnRet w false g h1 h2 n R (.returned (.bool false)) w) := Lib.hid ⟨rfl, ⟨T, E, hc, hrel⟩, Keep.refl _ _⟩
    clear hf hc hrel hfr e
    go_enter Try.func15, Try.ntmps15
    go_wp2_with (go_at_call 68; refine HF.out.mono ?_; rintro e _ ⟨rfl, rfl⟩)
    go_ret
    exact HRET.out
  | true =>
    have e : backR n R row i = R.set row.toNat (atR R row ++ [i.toNat]) := if_pos hfr
    rw [e]
    rw [hfr] at hf
    have HF := Lib.hid hf
    unfold freeR at hfr
    simp only [Bool.and_eq_true, Bool.not_eq_true'] at hfr
    obtain ⟨k, rfl, hk, hE⟩ := lkE_in E n row hc.el hfr.1.1
    obtain ⟨j, rfl, hj, _⟩ := lkT_in T n i hc.tl hfr.1.2
    rw [show ((j : Nat) : Int).toNat = j by omega, show ((k : Nat) : Int).toNat = k by omega]
    have hfree : ∀ l ∈ R, j ∉ l := usedR_false.1 (by have := hfr.2; rw [show ((j : Nat) : Int).toNat = j by omega] at this; exact this)
    have hrow := atR_in hrel.rl hk
    have hlast := hrel.ends k _ hrow
    rw [hlast] at hE
    generalize atR R (k : Int) = A at hrow hlast ⊢
    have hlaw := lay_law hrel A [] k j (by rw [List.append_nil]; exact hrow) hj hfree
    have hlay := clay_any g h1 h2 n T E k j (laI A) (-1) w hc hk hj (laI_in (hrel.lt A (List.mem_of_getElem? hrow))) (.inl rfl)
    have c1 := hc.bk.cell 1
    have d1 := hc.r2.cell enEn_len hlast 1 (by omega)
    rw [show (enEn ⟨hdI A, laI A⟩)[1]? = some (.int .i64 (laI A)) from rfl] at d1
    have HRET : Hid (∀ W, ChnAt W g h1 h2 n (layT T k (laI A) j (-1)) (layE E k (laI A) j (-1)) → Keep (LayS h1 h2) w W → ChnRet w true g h1 h2 n (R.set k (A ++ [j])) (.returned (.bool true)) W) := Lib.hid (fun W h1 h2 => ⟨rfl, ⟨_, _, h1, hlaw⟩, h2⟩)
    have HL := Lib.hid hlay
    generalize laI A = la at d1 HL HRET
    clear hf hc hrel hfr e hE hrow hlast hlaw hlay hfree
    go_enter Try.func15, Try.ntmps15
    go_wp2_with (first
      | (go_at_call 68; refine HF.out.mono ?_; rintro e _ ⟨rfl, rfl⟩)
      | (go_at_call 69; refine HL.out.mono ?_; rintro e w1 ⟨rfl, hc1, hk1⟩))
    go_ret
    exact HRET.out _ hc1 hk1
end Go.Proofs.Ythkjkmjcnphjgaa
