/- The contracts of package latch: Give, Owner, Held, Free; the example. No condition. -/
import Derived.Test.YtgdghinconghgaaLatchB
set_option linter.unusedVariables false
set_option linter.unusedSimpArgs false
namespace Go.Proofs.Ytgdghinconghgaa
open Go.RowKit (wrap32 wrap64)
open Go.RowKit
def givE (L : List Ow) (who i : Int) : Int :=
  if who < 0 then 1 else match owAt L i with
  | none => 1
  | some x => if ownB who x = true then 0 else 2
def givL (L : List Ow) (who i : Int) : List Ow := if givE L who i = 0 then L.set i.toNat ⟨0, false⟩ else L
theorem takL_len (L : List Ow) (who i : Int) : (takL L who i).length = L.length := by unfold takL; split <;> simp
theorem givL_len (L : List Ow) (who i : Int) : (givL L who i).length = L.length := by unfold givL; split <;> simp
set_option maxHeartbeats 3000000 in
theorem lgive_any (g h : Nat) (L : List Ow) (who i : Int) (w : World) (hb : LSet w g h L) (hL : L.length ≤ 64) :
    Calls Try.prog 50 #[.pointer (some ⟨g, 0, none⟩), .int .i64 who, .int .i64 i] w (LRet g h (givE L who i) (givL L who i) w) := by
  have hc := hb.cell
  by_cases hw : who < 0
  · have he : givE L who i = 1 := if_pos hw
    have hl : givL L who i = L := by unfold givL; rw [he, if_neg (by decide)]
    rw [he, hl]
    go_enter Try.func50, Try.ntmps50
    go_wp2
    go_ret
    exact ⟨rfl, hb, Keep.refl _ _⟩
  by_cases hi : 0 ≤ i ∧ i < L.length
  · obtain ⟨k, rfl⟩ : ∃ k : Nat, i = k := ⟨i.toNat, by omega⟩
    have hk : k < L.length := by omega
    have hx : L[k]? = some L[k] := List.getElem?_eq_getElem hk
    have hh := hasT_yes hi
    have he : givE L who k = if ownB who L[k] = true then 0 else 2 := by
      unfold givE; rw [if_neg hw, owAt_yes L k hk]
    have hl : givL L who k = if givE L who k = 0 then L.set k ⟨0, false⟩ else L := rfl
    obtain ⟨⟨c0, c1⟩, f0, f1⟩ := lset_cells hb k _ hx
    have hhl := hb.lt.2
    generalize L[k] = x at c0 c1 he hx
    generalize hN : L.length = N at hk hc hh
    have HN := Lib.hid hN
    have HL := Lib.hid hl
    have HE := Lib.hid he
    have HX := Lib.hid hx
    have hi2 := hi.1
    obtain ⟨xw, xi⟩ := x
    dsimp only at c0 c1
    have hN64 : N ≤ 64 := by omega
    clear hN hl he hx hi
    go_enter Try.func50, Try.ntmps50
    go_wp2_with (first | (go_at_call 72; refine (lhas_yes _ _ _ _ _ _ hc).mono ?_; rintro e w' ⟨rfl, rfl⟩))
    refine (owns_any _ _ _ _).mono ?_
    rintro e w1 ⟨rfl, hb1⟩
    have hB1 := hb.below hb1
    have hc1 := hB1.cell
    rw [HN.out] at hc1
    obtain ⟨⟨g0, g1⟩, q0, q1⟩ := lset_cells hB1 k _ HX.out
    dsimp only at g0 g1
    cases h1 : ownB who ⟨xw, xi⟩ with
    | true =>
      have e1 : givE L who k = 0 := by rw [HE.out, if_pos h1]
      have e2 : givL L who k = L.set k ⟨0, false⟩ := by rw [HL.out, e1, if_pos rfl]
      have E1 := Lib.hid e1
      have E2 := Lib.hid e2
      obtain ⟨hS, kS⟩ := lset_stored hB1 k (by rw [HN.out]; exact hk) ⟨0, false⟩
      have HS := Lib.hid hS
      have KS := Lib.hid kS
      clear hS kS e1 e2 h1
      go_wp2
      go_ret
      exact ⟨by rw [E1.out]; rfl, by rw [E2.out]; exact HS.out, Keep.trans (Keep.of_below hb1 _) KS.out⟩
    | false =>
      have e1 : givE L who k = 2 := by rw [HE.out, if_neg (by rw [h1]; decide)]
      have e2 : givL L who k = L := by rw [HL.out, e1, if_neg (by decide)]
      have E1 := Lib.hid e1
      have E2 := Lib.hid e2
      clear e1 e2 h1
      go_wp2
      go_ret
      exact ⟨by rw [E1.out]; rfl, by rw [E2.out]; exact hB1, Keep.of_below hb1 _⟩
  · have he : givE L who i = 1 := by unfold givE; rw [if_neg hw, owAt_no L i hi]
    have hl : givL L who i = L := by unfold givL; rw [he, if_neg (by decide)]
    have hh := hasT_no hi
    rw [he, hl]
    clear he hl hi
    go_enter Try.func50, Try.ntmps50
    go_wp2_with (first | (go_at_call 72; refine (lhas_yes _ _ _ _ _ _ hc).mono ?_; rintro e w' ⟨rfl, rfl⟩))
    go_ret
    exact ⟨rfl, hb, Keep.refl _ _⟩
def OwnerRet (x : Ow) (w : World) (e : Ending) (w' : World) : Prop := e = .returned (.tuple #[.int .i64 x.who, .bool x.is]) ∧ Below w.heap.size w w'
def oneOf (L : List Ow) (i : Int) : Ow := (owAt L i).getD ⟨0, false⟩
set_option maxHeartbeats 1000000 in
theorem lowner_any (g h : Nat) (L : List Ow) (i : Int) (w : World) (hb : LSet w g h L) (hL : L.length ≤ 64) :
    Calls Try.prog 52 #[.pointer (some ⟨g, 0, none⟩), .int .i64 i] w (OwnerRet (oneOf L i) w) := by
  have hc := hb.cell
  by_cases hi : 0 ≤ i ∧ i < L.length
  · obtain ⟨k, rfl⟩ : ∃ k : Nat, i = k := ⟨i.toNat, by omega⟩
    have hk : k < L.length := by omega
    have hh := hasT_yes hi
    have ho : oneOf L k = L[k] := by unfold oneOf; rw [owAt_yes L k hk]; rfl
    rw [ho]
    obtain ⟨⟨c0, c1⟩, f0, f1⟩ := lset_cells hb k _ (List.getElem?_eq_getElem hk)
    generalize L[k] = x at c0 c1 ho ⊢
    obtain ⟨xw, xi⟩ := x
    dsimp only at c0 c1
    generalize L.length = N at hc hk hh hL
    have hki : (k : Int) < N := by omega
    clear ho hi
    go_enter Try.func52, Try.ntmps52
    go_wp2_with (first | (go_at_call 72; refine (lhas_yes _ _ _ _ _ _ hc).mono ?_; rintro e w' ⟨rfl, rfl⟩))
    go_quiet (fail)
    go_wp2
    go_ret2
    exact ⟨rfl, (Keep.drewN _ _ (fun _ => False)).below (Nat.le_refl _) (fun _ h => h.elim)⟩
  · have ho : oneOf L i = ⟨0, false⟩ := by unfold oneOf; rw [owAt_no L i hi]; rfl
    rw [ho]
    have hh := hasT_no hi
    clear ho hi
    go_enter Try.func52, Try.ntmps52
    go_wp2_with (first | (go_at_call 72; refine (lhas_yes _ _ _ _ _ _ hc).mono ?_; rintro e w' ⟨rfl, rfl⟩))
    go_ret2
    exact ⟨rfl, Below.refl _ _⟩
end Go.Proofs.Ytgdghinconghgaa
