/- chain: Ahead, as the rows say. No condition. -/
import Derived.Test.YthkjkmjcnphjgaaChnP
set_option linter.unusedVariables false
set_option linter.unusedSimpArgs false
namespace Go.Proofs.Ythkjkmjcnphjgaa
open Go.RowKit (wrap32 wrap64)
open Go.RowKit
def insB (a i : Nat) : List Nat → List Nat
  | [] => []
  | x :: l => if x = a then i :: x :: l else x :: insB a i l
theorem insB_split (a i : Nat) (A B : List Nat) (h : a ∉ A) : insB a i (A ++ a :: B) = A ++ i :: a :: B := by
  induction A with
  | nil => exact if_pos rfl
  | cons x A ih =>
    have hx : x ≠ a := fun e => h (by rw [e]; exact List.mem_cons_self)
    show (if x = a then i :: x :: (A ++ a :: B) else x :: insB a i (A ++ a :: B)) = _
    rw [if_neg hx, ih (fun e => h (List.mem_cons_of_mem _ e))]; rfl
def aheadB (n : Nat) (R : List (List Nat)) (row at' i : Int) : Bool := freeR n R row i && inC n at' && (atR R row).contains at'.toNat
def aheadR (n : Nat) (R : List (List Nat)) (row at' i : Int) : List (List Nat) := if aheadB n R row at' i = true then R.set row.toNat (insB at'.toNat i.toNat (atR R row)) else R
theorem lkT_row {T : List Ln} {E : List En} {R : List (List Nat)} {n : Nat} (h : Rel T E R n) (a k : Nat) (ha : a < n) (hk : k < n) : (lkT T a).row = k ↔ a ∈ atR R k := by
  have hrow := atR_in h.rl hk
  have hl : lkT T (a : Int) = (T[a]?).getD ⟨-1, -1, -1⟩ := by
    unfold lkT
    rw [if_pos (by omega), show (a : Int).toNat = a by omega]
  constructor
  · intro he
    cases hu : usedR R a with
    | false =>
      have := h.off a ha (usedR_false.1 hu)
      rw [hl, this] at he
      have : (-1 : Int) = k := he
      omega
    | true =>
      obtain ⟨l, hl2, hil⟩ := usedR_true.1 hu
      obtain ⟨r, hr, hre⟩ := List.getElem_of_mem hl2
      obtain ⟨A, B, hAB⟩ := List.append_of_mem hil
      have h2 := h.at' r A a B (by rw [List.getElem?_eq_getElem hr, hre, hAB])
      rw [hl, h2] at he
      have : (r : Int) = k := he
      obtain rfl : r = k := by omega
      rw [List.getElem?_eq_getElem hr, hre] at hrow
      injection hrow with hrow
      rw [← hrow]; exact hil
  · intro hm
    obtain ⟨A, B, hAB⟩ := List.append_of_mem hm
    have h2 := h.at' k A a B (by rw [hrow, hAB])
    rw [hl, h2]; rfl
set_option maxHeartbeats 2000000 in
theorem cahead_any (g h1 h2 n : Nat) (R : List (List Nat)) (row a i : Int) (w : World) (hc : Chn w g h1 h2 n R) :
    Calls Try.prog 17 #[.pointer (some ⟨g, 0, none⟩), .int .i64 row, .int .i64 a, .int .i64 i] w (ChnRet w (aheadB n R row a i) g h1 h2 n (aheadR n R row a i)) := by
  obtain ⟨T, E, hc, hrel⟩ := hc
  have hn4 := hc.n4
  have hf := cfree_any g h1 h2 n T E row i w hc
  rw [free_eq hrel] at hf
  have hr := crow_any g h1 h2 n T E a w hc
  have HNO : Hid (aheadB n R row a i = false → ChnRet w (aheadB n R row a i) g h1 h2 n (aheadR n R row a i) (.returned (.bool false)) w) := Lib.hid (fun h => by
    have e : aheadR n R row a i = R := if_neg (by rw [h]; simp)
    rw [e, h]
    exact ⟨rfl, ⟨T, E, hc, hrel⟩, Keep.refl _ _⟩)
  cases hfr : freeR n R row i with
  | false =>
    have hno : aheadB n R row a i = false := by unfold aheadB; rw [hfr]; rfl
    rw [hfr] at hf
    have HF := Lib.hid hf
    have HRET := Lib.hid (HNO.out hno)
    have HR := Lib.hid hr
    generalize z1 (lkT T a).row = zr at HR
    generalize ((lkT T a).row != -1) = zb at HR
    clear hf hc hrel hfr hno hr
    go_enter Try.func17, Try.ntmps17
    go_wp2_with (first
      | (go_at_call 26; refine HR.out.mono ?_; rintro e _ ⟨rfl, rfl⟩)
      | (go_at_call 68; refine HF.out.mono ?_; rintro e _ ⟨rfl, rfl⟩))
    go_ret
    exact HRET.out
  | true =>
    rw [hfr] at hf
    have HF := Lib.hid hf
    have hfr2 := hfr
    unfold freeR at hfr2
    simp only [Bool.and_eq_true, Bool.not_eq_true'] at hfr2
    obtain ⟨k, rfl, hk, hE⟩ := lkE_in E n row hc.el hfr2.1.1
    by_cases hy : (lkT T a).row = -1
    · have hno : aheadB n R k a i = false := by
        cases hb : aheadB n R k a i with
        | false => rfl
        | true =>
          unfold aheadB at hb
          simp only [Bool.and_eq_true] at hb
          obtain ⟨a', rfl, ha, _⟩ := lkT_in T n a hc.tl hb.1.2
          have := (lkT_row hrel a' k ha hk).2 (by simpa using hb.2)
          omega
      rw [hy] at hr
      have HRET := Lib.hid (HNO.out hno)
      have HR := Lib.hid hr
      clear hf hc hrel hfr hno hr hE hy hfr2
      go_enter Try.func17, Try.ntmps17
      go_wp2_with (first
        | (go_at_call 26; refine HR.out.mono ?_; rintro e _ ⟨rfl, rfl⟩)
        | (go_at_call 68; refine HF.out.mono ?_; rintro e _ ⟨rfl, rfl⟩))
      go_ret
      exact HRET.out
    · have hin : inC n a = true := by
        cases h : inC n a with
        | true => rfl
        | false => exact absurd (by rw [lkT_out T n a hc.tl h]) hy
      obtain ⟨a', rfl, ha, hx⟩ := lkT_in T n a hc.tl hin
      have e3 : ((lkT T (a' : Int)).row != -1) = true := by unfold bne; rw [beq_eq_false_iff_ne.2 hy]; rfl
      have e4 : z1 (lkT T (a' : Int)).row = (lkT T (a' : Int)).row := if_neg hy
      rw [e3, e4] at hr
      have hiff := lkT_row hrel a' k ha hk
      by_cases hyk : (lkT T (a' : Int)).row = k
      · have hmem := hiff.1 hyk
        have hyes : aheadB n R k a' i = true := by
          unfold aheadB
          rw [hfr, hin]
          simpa using hmem
        obtain ⟨j, rfl, hj, _⟩ := lkT_in T n i hc.tl hfr2.1.2
        have hfree : ∀ l ∈ R, j ∉ l := usedR_false.1 (by have := hfr2.2; rw [show ((j : Nat) : Int).toNat = j by omega] at this; exact this)
        have hrow := atR_in hrel.rl hk
        obtain ⟨A, B, hAB⟩ := List.append_of_mem hmem
        have hnd := hrel.nd _ (List.mem_of_getElem? hrow)
        rw [hAB] at hrow hnd
        have haA : a' ∉ A := by
          rw [List.nodup_append] at hnd
          exact fun e => hnd.2.2 a' e a' (by simp) rfl
        have hT := hrel.at' k A a' B hrow
        have hlaw := lay_law hrel A (a' :: B) k j hrow hj hfree
        have hall := hrel.lt _ (List.mem_of_getElem? hrow)
        have hlay := clay_any g h1 h2 n T E k j (laI A) (hdI (a' :: B)) w hc hk hj (laI_in (fun q hq => hall q (List.mem_append_left _ hq))) (.inr ⟨a', rfl, ha⟩)
        have c0 := hc.bk.cell 0
        have d1 := hc.r1.cell enLn_len hT 1 (by omega)
        rw [show (enLn ⟨(k : Int), laI A, hdI B⟩)[1]? = some (.int .i64 (laI A)) from rfl] at d1
        have er : aheadR n R k a' j = R.set k (A ++ j :: a' :: B) := by
          unfold aheadR
          rw [if_pos hyes, show ((k : Nat) : Int).toNat = k by omega, show ((a' : Nat) : Int).toNat = a' by omega, show ((j : Nat) : Int).toNat = j by omega, hAB, insB_split _ _ _ _ haA]
        rw [er, hyes]
        rw [hyk] at hr
        have HR := Lib.hid hr
        rw [show hdI (a' :: B) = (a' : Int) from rfl] at hlaw hlay
        have HRET : Hid (∀ W, ChnAt W g h1 h2 n (layT T k (laI A) j a') (layE E k (laI A) j a') → Keep (LayS h1 h2) w W → ChnRet w true g h1 h2 n (R.set k (A ++ j :: a' :: B)) (.returned (.bool true)) W) := Lib.hid (fun W h1 h2 => ⟨rfl, ⟨_, _, h1, hlaw⟩, h2⟩)
        have HL := Lib.hid hlay
        generalize laI A = la at d1 HL HRET
        clear hf hc hrel hfr hE hrow hlaw hlay hfree hr hy e3 e4 hiff hyk hmem hyes hAB hnd haA hT hall er hx hin hfr2 HNO
        go_enter Try.func17, Try.ntmps17
        go_wp2_with (first
          | (go_at_call 26; refine HR.out.mono ?_; rintro e _ ⟨rfl, rfl⟩)
          | (go_at_call 68; refine HF.out.mono ?_; rintro e _ ⟨rfl, rfl⟩)
          | (go_at_call 69; refine HL.out.mono ?_; rintro e w1 ⟨rfl, hc1, hk1⟩))
        go_ret
        exact HRET.out _ hc1 hk1
      · have hno : aheadB n R k a' i = false := by
          cases hb : aheadB n R k a' i with
          | false => rfl
          | true =>
            unfold aheadB at hb
            simp only [Bool.and_eq_true] at hb
            exact absurd (hiff.2 (by simpa using hb.2)) hyk
        have hne : ((lkT T (a' : Int)).row != (k : Int)) = true := by unfold bne; rw [beq_eq_false_iff_ne.2 hyk]; rfl
        have HRET := Lib.hid (HNO.out hno)
        have HR := Lib.hid hr
        generalize (lkT T (a' : Int)).row = y at HR hne
        clear hf hc hrel hfr hno hr hE hy hfr2 e3 e4 hiff hyk hx hin HNO
        go_enter Try.func17, Try.ntmps17
        go_wp2_with (first
          | (go_at_call 26; refine HR.out.mono ?_; rintro e _ ⟨rfl, rfl⟩)
          | (go_at_call 68; refine HF.out.mono ?_; rintro e _ ⟨rfl, rfl⟩))
        go_ret
        exact HRET.out
end Go.Proofs.Ythkjkmjcnphjgaa
