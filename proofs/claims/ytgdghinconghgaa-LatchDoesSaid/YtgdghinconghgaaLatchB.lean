/- The contracts of package latch: IndexFunc, ContainsFunc, Take, Give. No condition. -/
import Derived.Test.YtgdghinconghgaaLatch
set_option linter.unusedVariables false
set_option linter.unusedSimpArgs false
namespace Go.Proofs.Ytgdghinconghgaa
open Go.RowKit (wrap32 wrap64)
open Go.RowKit
def ownsF (who : Int) : Value := .func (.func 73) #[.agg #[.int .i64 who]] #[]
/-- The first of xs that is who's. -/
def anyO (who : Int) (xs : List Ow) : Bool := xs.any (ownB who)
def IdxRet (who : Int) (xs : List Ow) (w : World) (e : Ending) (w' : World) : Prop := ∃ r : Int, e = .returned (.int .i64 r) ∧ (decide (0 ≤ r) = anyO who xs) ∧ Below w.heap.size w w'
theorem anyO_take (who : Int) (xs : List Ow) (k : Nat) (hk : k < xs.length) : anyO who (xs.take (k + 1)) = (anyO who (xs.take k) || ownB who xs[k]) := by
  unfold anyO
  rw [List.take_succ_eq_append_getElem hk, List.any_append]
  simp
theorem anyO_hit (who : Int) (xs : List Ow) (k : Nat) (hk : k < xs.length) (h : ownB who xs[k] = true) : anyO who xs = true := by
  unfold anyO
  rw [List.any_eq_true]
  exact ⟨xs[k], List.getElem_mem hk, h⟩
set_option maxHeartbeats 1000000 in
theorem idx_any (who : Int) (h i m c : Nat) (xs : List Ow) (w : World) (hm : xs.length = m) (hm2 : m ≤ 64) (hh : h < w.heap.size)
    (hc : ∀ j x, xs[j]? = some x → w.cell? ⟨h, i * 2 + j * 2, none⟩ = some (.int .i64 x.who) ∧ w.cell? ⟨h, i * 2 + j * 2 + 1, none⟩ = some (.bool x.is)) :
    Calls Try.prog 75 #[.slice (some ⟨h, i * 2, none⟩) m c, ownsF who] w (IdxRet who xs w) := by
  unfold ownsF
  go_enter Try.func75, Try.ntmps75
  go_wp2
  go_loopw [8] (fun cc wr => ∃ k : Nat, k ≤ m ∧ cc = .int .i64 k ∧ Hid (anyO who (xs.take k) = false) ∧ Below w.heap.size w wr) (fun cc _ => m - (intOf cc).toNat)
  case atStart => exact ⟨0, by omega, rfl, Lib.hid rfl, Below.refl _ _⟩
  case round =>
    obtain ⟨k, hk, rfl, ha, HB⟩ := hrel
    by_cases hlt : k < m
    · have hkl : k < xs.length := by omega
      obtain ⟨c0, c1⟩ := hc k _ (List.getElem?_eq_getElem hkl)
      have hat := anyO_take who xs k hkl
      have hit := anyO_hit who xs k hkl
      rw [ha.out, Bool.false_or] at hat
      generalize xs[k] = x at c0 c1 hat hit
      obtain ⟨xw, xi⟩ := x
      dsimp only at c0 c1
      have e0 : wr.cell? ⟨h, i * 2 + k * 2, none⟩ = some (.int .i64 xw) := (HB.cell (p := ⟨h, _, none⟩) hh).trans c0
      have e1 : wr.cell? ⟨h, i * 2 + k * 2 + 1, none⟩ = some (.bool xi) := (HB.cell (p := ⟨h, _, none⟩) hh).trans c1
      have HAT := Lib.hid hat
      have HIT := Lib.hid hit
      clear hat hit c0 c1 hc
      go_wp2_with fail
      refine (owns_any _ _ _ _).mono ?_
      rintro e w3 ⟨rfl, hb3⟩
      have hb4 := bl_then HB (Nat.le_refl _) hb3
      cases ho : ownB who ⟨xw, xi⟩ with
      | true =>
        have hh := HIT.out ho
        go_wp2
        go_ret
        exact ⟨k, rfl, by rw [hh]; simp, hb4⟩
      | false =>
        have hf := HAT.out
        rw [ho] at hf
        have HF := Lib.hid hf
        clear hf
        go_wp2
        go_roundw
        case rel => exact ⟨k + 1, by omega, by go_num, HF, hb4⟩
        case measure => simp [intOf]; omega
    · obtain rfl : k = m := by omega
      have hf := ha.out
      rw [List.take_of_length_le (by omega)] at hf
      have HF := Lib.hid hf
      clear hf
      go_wp2
      go_ret
      exact ⟨-1, rfl, by rw [HF.out]; rfl, HB⟩
set_option maxHeartbeats 400000 in
theorem contains_any (who : Int) (h i m c : Nat) (xs : List Ow) (w : World) (hm : xs.length = m) (hm2 : m ≤ 64) (hh : h < w.heap.size)
    (hc : ∀ j x, xs[j]? = some x → w.cell? ⟨h, i * 2 + j * 2, none⟩ = some (.int .i64 x.who) ∧ w.cell? ⟨h, i * 2 + j * 2 + 1, none⟩ = some (.bool x.is)) :
    Calls Try.prog 74 #[.slice (some ⟨h, i * 2, none⟩) m c, ownsF who] w fun e w' => e = .returned (.bool (anyO who xs)) ∧ Below w.heap.size w w' := by
  go_enter Try.func74, Try.ntmps74
  go_wp2_with fail
  refine (idx_any who h i m c xs w hm hm2 hh hc).mono ?_
  rintro e w1 ⟨r, rfl, hr, hb⟩
  have HR := Lib.hid hr
  clear hr
  go_wp2
  all_goals
    go_ret
    exact ⟨by rw [← HR.out]; rfl, hb⟩
def owAt (L : List Ow) (i : Int) : Option Ow := if 0 ≤ i ∧ i < L.length then L[i.toNat]? else none
def takE (L : List Ow) (who i : Int) : Int :=
  if who < 0 then 1 else match owAt L i with
  | none => 1
  | some x => if ownB who x = true then 3 else if anyO who (L.drop i.toNat) = true then 30 else if x.is = true then 31 else 0
def takL (L : List Ow) (who i : Int) : List Ow := if takE L who i = 0 then L.set i.toNat ⟨who, true⟩ else L
def LRet (g h : Nat) (er : Int) (L : List Ow) (w : World) (e : Ending) (w' : World) : Prop := e = .returned (.int .i64 er) ∧ LSet w' g h L ∧ Keep (fun k => k = h) w w'
theorem hasT_yes {n : Nat} {i : Int} (h : 0 ≤ i ∧ i < n) : hasT n i = true := by unfold hasT; simp [h]
theorem hasT_no {n : Nat} {i : Int} (h : ¬ (0 ≤ i ∧ i < n)) : hasT n i = false := by
  unfold hasT
  cases hd : decide (0 ≤ i) && decide (i < n) with
  | false => rfl
  | true => exfalso; simp at hd; exact h hd
theorem owAt_yes (L : List Ow) (k : Nat) (h2 : k < L.length) : owAt L k = some L[k] := by
  unfold owAt; rw [if_pos (by omega)]; simp [h2]
theorem owAt_no (L : List Ow) (i : Int) (h : ¬ (0 ≤ i ∧ i < L.length)) : owAt L i = none := if_neg h
set_option maxHeartbeats 3000000 in
theorem ltake_any (g h : Nat) (L : List Ow) (who i : Int) (w : World) (hb : LSet w g h L) (hL : L.length ≤ 64) :
    Calls Try.prog 48 #[.pointer (some ⟨g, 0, none⟩), .int .i64 who, .int .i64 i] w (LRet g h (takE L who i) (takL L who i) w) := by
  have hmf : ∀ (fn : Fn) (first cap : Array Value) (w : World), (Instr.makeFunc fn first cap).run Try.prog w = .ok (.func fn first cap) w := fun _ _ _ _ => rfl
  have hc := hb.cell
  by_cases hw : who < 0
  · have he : takE L who i = 1 := if_pos hw
    have hl : takL L who i = L := by unfold takL; rw [he, if_neg (by decide)]
    rw [he, hl]
    go_enter Try.func48, Try.ntmps48
    go_wp2
    go_ret
    exact ⟨rfl, hb, Keep.refl _ _⟩
  by_cases hi : 0 ≤ i ∧ i < L.length
  · obtain ⟨k, rfl⟩ : ∃ k : Nat, i = k := ⟨i.toNat, by omega⟩
    have hk : k < L.length := by omega
    have hx : L[k]? = some L[k] := List.getElem?_eq_getElem hk
    have hh := hasT_yes hi
    have he : takE L who k = if ownB who L[k] = true then 3 else if anyO who (L.drop k) = true then 30 else if L[k].is = true then 31 else 0 := by
      unfold takE; rw [if_neg hw, owAt_yes L k hk]; rfl
    have hl : takL L who k = if takE L who k = 0 then L.set k ⟨who, true⟩ else L := rfl
    obtain ⟨⟨c0, c1⟩, f0, f1⟩ := lset_cells hb k _ hx
    have hcells : ∀ j x, (L.drop k)[j]? = some x → w.cell? ⟨h, k * 2 + j * 2, none⟩ = some (.int .i64 x.who) ∧ w.cell? ⟨h, k * 2 + j * 2 + 1, none⟩ = some (.bool x.is) := by
      intro j x hj
      rw [List.getElem?_drop] at hj
      have := (lset_cells hb (k + j) x hj).1
      rw [Nat.add_mul] at this
      exact this
    have hhl := hb.lt.2
    have hcon : ∀ w1, Below w.heap.size w w1 → Calls Try.prog 74 #[.slice (some ⟨h, k * 2, none⟩) (L.length - k) (L.length - k), ownsF who] w1 fun e w' => e = .returned (.bool (anyO who (L.drop k))) ∧ Below w1.heap.size w1 w' := fun w1 hb1 =>
      contains_any who h k _ _ (L.drop k) w1 (by simp) (by omega) (Nat.lt_of_lt_of_le hhl hb1.size) (fun j x hj => ⟨(hb1.cell (p := ⟨h, _, none⟩) hhl).trans (hcells j x hj).1, (hb1.cell (p := ⟨h, _, none⟩) hhl).trans (hcells j x hj).2⟩)
    generalize L[k] = x at c0 c1 he hx
    generalize anyO who (L.drop k) = b2 at he hcon
    generalize hN : L.length = N at hk hc hh hcon
    have HN := Lib.hid hN
    have HL := Lib.hid hl
    have HE := Lib.hid he
    have HX := Lib.hid hx
    have HC := Lib.hid hcon
    have hi2 := hi.1
    obtain ⟨xw, xi⟩ := x
    dsimp only at c0 c1
    have hN64 : N ≤ 64 := by omega
    clear hN hl he hx hcells hcon hi
    go_enter Try.func48, Try.ntmps48
    go_wp2_with (first | (go_at_call 72; refine (lhas_yes _ _ _ _ _ _ hc).mono ?_; rintro e w' ⟨rfl, rfl⟩))
    refine (owns_any _ _ _ _).mono ?_
    rintro e w1 ⟨rfl, hb1⟩
    have d0 : w1.cell? ⟨h, k * 2, none⟩ = some (.int .i64 xw) := (hb1.cell (p := ⟨h, _, none⟩) hhl).trans c0
    have d1 : w1.cell? ⟨h, k * 2 + 1, none⟩ = some (.bool xi) := (hb1.cell (p := ⟨h, _, none⟩) hhl).trans c1
    have hB1 := hb.below hb1
    have hc1 := hB1.cell
    rw [HN.out] at hc1
    cases h1 : ownB who ⟨xw, xi⟩ with
    | true =>
      have e1 : takE L who k = 3 := by rw [HE.out, if_pos h1]
      have e2 : takL L who k = L := by rw [HL.out, e1, if_neg (by decide)]
      have E1 := Lib.hid e1
      have E2 := Lib.hid e2
      clear e1 e2 h1
      go_wp2
      go_ret
      exact ⟨by rw [E1.out]; rfl, by rw [E2.out]; exact hB1, Keep.of_below hb1 _⟩
    | false =>
      have hn1 : ¬ (ownB who ⟨xw, xi⟩ = true) := by rw [h1]; decide
      have HN1 := Lib.hid hn1
      clear h1 hn1
      go_wp2_with fail
      refine (HC.out w1 hb1).mono ?_
      rintro e w2 ⟨rfl, hb2⟩
      have hbb := bl_then hb1 (Nat.le_refl _) hb2
      have hB2 := hb.below hbb
      have hc2 := hB2.cell
      rw [HN.out] at hc2
      obtain ⟨⟨g0, g1⟩, q0, q1⟩ := lset_cells hB2 k _ HX.out
      dsimp only at g0 g1
      cases b2 with
      | true =>
        have e1 : takE L who k = 30 := by rw [HE.out, if_neg HN1.out, if_pos rfl]
        have e2 : takL L who k = L := by rw [HL.out, e1, if_neg (by decide)]
        have E1 := Lib.hid e1
        have E2 := Lib.hid e2
        clear e1 e2
        go_wp2
        go_ret
        exact ⟨by rw [E1.out]; rfl, by rw [E2.out]; exact hB2, Keep.of_below hbb _⟩
      | false =>
        cases xi with
        | true =>
          have e1 : takE L who k = 31 := by rw [HE.out, if_neg HN1.out, if_neg (by decide), if_pos rfl]
          have e2 : takL L who k = L := by rw [HL.out, e1, if_neg (by decide)]
          have E1 := Lib.hid e1
          have E2 := Lib.hid e2
          clear e1 e2
          go_wp2
          go_ret
          exact ⟨by rw [E1.out]; rfl, by rw [E2.out]; exact hB2, Keep.of_below hbb _⟩
        | false =>
          have e1 : takE L who k = 0 := by rw [HE.out, if_neg HN1.out, if_neg (by decide), if_neg (by decide)]
          have e2 : takL L who k = L.set k ⟨who, true⟩ := by rw [HL.out, e1, if_pos rfl]
          have E1 := Lib.hid e1
          have E2 := Lib.hid e2
          clear e1 e2
          obtain ⟨hS, kS⟩ := lset_stored hB2 k (by rw [HN.out]; exact hk) ⟨who, true⟩
          have HS := Lib.hid hS
          have KS := Lib.hid kS
          clear hS kS
          go_wp2
          go_ret
          exact ⟨by rw [E1.out]; rfl, by rw [E2.out]; exact HS.out, Keep.trans (Keep.of_below hbb _) KS.out⟩
  · have he : takE L who i = 1 := by unfold takE; rw [if_neg hw, owAt_no L i hi]
    have hl : takL L who i = L := by unfold takL; rw [he, if_neg (by decide)]
    have hh := hasT_no hi
    rw [he, hl]
    clear he hl hi
    go_enter Try.func48, Try.ntmps48
    go_wp2_with (first | (go_at_call 72; refine (lhas_yes _ _ _ _ _ _ hc).mono ?_; rintro e w' ⟨rfl, rfl⟩))
    go_ret
    exact ⟨rfl, hb, Keep.refl _ _⟩
end Go.Proofs.Ytgdghinconghgaa
