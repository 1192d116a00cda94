/- The reference's book of transactions: what it is, May, State. No condition. -/
import Derived.Test.YtgdghinconghgaaTxnO
import Derived.Test.YtgdghinconghgaaSame
set_option linter.unusedVariables false
set_option linter.unusedSimpArgs false
namespace Go.Proofs.Ytgdghinconghgaa
open Go.RowKit (wrap32 wrap64)
open Go.RowKit
/-- The reference's cells: stamp, state, why. -/
def enX (x : Tx) : List Value := [.int .i64 x.stamp, .int .i64 x.state, .int .i64 x.why]
theorem enX_len (x : Tx) : (enX x).length = 3 := rfl
set_option maxRecDepth 100000 in
set_option maxHeartbeats 2000000 in
theorem rmay_any (a b : Int) (w : World) : Calls Try.prog 65 #[.int .i64 a, .int .i64 b] w fun e w' => e = .returned (.bool (mayT a b)) ∧ w = w' := by
  by_cases a1 : a = 1
  · subst a1
    have hm : mayT 1 b = ((b == 2) || (b == 3) || (b == 4)) := by unfold mayT; simp [Bool.or_assoc]
    have HM := Lib.hid hm
    clear hm
    by_cases b2 : b = 2
    · subst b2
      go_enter Try.func65, Try.ntmps65
      go_wp2
      go_ret
      exact ⟨by rw [HM.out]; rfl, rfl⟩
    · have n2 : (b == 2) = false := beq_eq_false_iff_ne.2 b2
      by_cases b3 : b = 3
      · subst b3
        go_enter Try.func65, Try.ntmps65
        go_wp2
        go_ret
        exact ⟨by rw [HM.out]; rfl, rfl⟩
      · have n3 : (b == 3) = false := beq_eq_false_iff_ne.2 b3
        by_cases b4 : b = 4
        · subst b4
          go_enter Try.func65, Try.ntmps65
          go_wp2
          go_ret
          exact ⟨by rw [HM.out]; rfl, rfl⟩
        · have n4 : (b == 4) = false := beq_eq_false_iff_ne.2 b4
          have hf : mayT 1 b = false := by rw [HM.out, n2, n3, n4]; rfl
          have HF := Lib.hid hf
          clear hf b2 b3 b4 HM
          go_enter Try.func65, Try.ntmps65
          go_wp2
          go_ret
          exact ⟨by rw [HF.out]; rfl, rfl⟩
  · have na1 : (a == 1) = false := beq_eq_false_iff_ne.2 a1
    by_cases a2 : a = 2
    · subst a2
      have hm : mayT 2 b = (b == 4) := by unfold mayT; simp
      have HM := Lib.hid hm
      clear hm a1
      go_enter Try.func65, Try.ntmps65
      go_wp2
      go_ret
      exact ⟨by rw [HM.out]; rfl, rfl⟩
    · have na2 : (a == 2) = false := beq_eq_false_iff_ne.2 a2
      by_cases a3 : a = 3
      · subst a3
        have hm : mayT 3 b = (b == 5) := by unfold mayT; simp
        have HM := Lib.hid hm
        clear hm a1 a2
        go_enter Try.func65, Try.ntmps65
        go_wp2
        go_ret
        exact ⟨by rw [HM.out]; rfl, rfl⟩
      · have na3 : (a == 3) = false := beq_eq_false_iff_ne.2 a3
        by_cases a4 : a = 4
        · subst a4
          have hm : mayT 4 b = (b == 6) := by unfold mayT; simp
          have HM := Lib.hid hm
          clear hm a1 a2 a3
          go_enter Try.func65, Try.ntmps65
          go_wp2
          go_ret
          exact ⟨by rw [HM.out]; rfl, rfl⟩
        · have na4 : (a == 4) = false := beq_eq_false_iff_ne.2 a4
          have hf : mayT a b = false := by unfold mayT; rw [na1, na2, na3, na4]; rfl
          have HF := Lib.hid hf
          clear hf a1 a2 a3 a4
          go_enter Try.func65, Try.ntmps65
          go_wp2
          go_ret
          exact ⟨by rw [HF.out]; rfl, rfl⟩
def XBook (w : World) (g : Nat) (A : Option Addr) (c : Nat) (L : List Tx) : Prop :=
  Bk w g 94 #[.slice A L.length c] ∧ w.ownsRow 0 98 3 (.slice A L.length c) L.length (flatV enX L) ∧ (∀ x, A = some x → x.block ≠ g ∧ 1 ≤ L.length)
theorem Try.infoX : (Try.prog.info? 98).map (fun i => (i.zero, i.size, i.bytes)) = some (some (.agg #[.int .i64 0, .int .i64 0, .int .i64 0]), 3, 24) := by kernel_rfl
theorem XBook.cell {w : World} {g c : Nat} {A : Option Addr} {L : List Tx} (b : XBook w g A c L) : w.cell? ⟨g, 0, none⟩ = some (.slice A L.length c) := b.1.cell 0
theorem XBook.form {w : World} {g c : Nat} {A : Option Addr} {L : List Tx} (b : XBook w g A c L) : (A = none ∧ L = [] ∧ c = 0) ∨ ∃ h, A = some ⟨h, 0, none⟩ ∧ h ≠ g ∧ h < w.heap.size ∧ 1 ≤ L.length ∧ L.length ≤ c ∧ c ≤ maxLen := by
  rcases b.2.1.2 with ⟨hv, hn⟩ | ⟨h, cap, cur, hv, hb, hg, r1, r2, _⟩
  · injection hv with e1 _ e3
    exact .inl ⟨e1, List.eq_nil_of_length_eq_zero hn, e3⟩
  · injection hv with e1 _ e3
    exact .inr ⟨h, e1, (b.2.2 _ e1).1, (Array.getElem?_eq_some_iff.1 hg).1, (b.2.2 _ e1).2, by rw [e3]; exact r1, by rw [e3]; exact r2⟩
theorem XBook.keep {w w1 : World} {S : Nat → Prop} {g c : Nat} {A : Option Addr} {L : List Tx} (b : XBook w g A c L) (k : Keep S w w1) (hg : ¬ S g) (hA : ∀ x, A = some x → ¬ S x.block) : XBook w1 g A c L := by
  refine ⟨k.bk b.1 hg, ?_, b.2.2⟩
  refine ⟨b.2.1.1, ?_⟩
  rcases b.2.1.2 with hn | ⟨h, cap, cur, hv, hb, hgg, r⟩
  · exact .inl hn
  · injection hv with e1 e2 e3
    exact .inr ⟨h, cap, cur, by rw [e1, e3], hb, (k.block h (Array.getElem?_eq_some_iff.1 hgg).1 (hA _ e1)).trans hgg, r⟩
theorem XBook.below {w w1 : World} {g c : Nat} {A : Option Addr} {L : List Tx} (b : XBook w g A c L) (k : Below w.heap.size w w1) : XBook w1 g A c L := b.keep (Keep.of_below k (fun _ => False)) (fun h => h) (fun _ _ h => h)
theorem xcells {w : World} {g h c : Nat} {L : List Tx} (b : XBook w g (some ⟨h, 0, none⟩) c L) (k : Nat) (x : Tx) (hx : L[k]? = some x) :
    (w.cell? ⟨h, k * 3, none⟩ = some (.int .i64 x.stamp) ∧ w.cell? ⟨h, k * 3 + 1, none⟩ = some (.int .i64 x.state) ∧ w.cell? ⟨h, k * 3 + 2, none⟩ = some (.int .i64 x.why)) ∧
    (w.frozen? ⟨h, k * 3, none⟩ = false ∧ w.frozen? ⟨h, k * 3 + 1, none⟩ = false ∧ w.frozen? ⟨h, k * 3 + 2, none⟩ = false) := by
  have hk : k < L.length := (List.getElem?_eq_some_iff.1 hx).1
  have hc : ∀ j, j < 3 → w.cell? ⟨h, k * 3 + j, none⟩ = (enX x)[j]? := fun j hj => by
    rw [b.2.1.cellAt (k * 3 + j) (by omega)]
    exact flatV_get enX_len L k x hx j hj
  exact ⟨⟨hc 0 (by omega), hc 1 (by omega), hc 2 (by omega)⟩, b.2.1.frozenAt _, b.2.1.frozenAt _, b.2.1.frozenAt _⟩
def XBegin (g : Nat) (A : Option Addr) (L : List Tx) (x : Tx) (w : World) (e : Ending) (w' : World) : Prop :=
  ∃ h' c', e = .returned (.int .i64 (L.length + 1)) ∧ XBook w' g (some ⟨h', 0, none⟩) c' (L ++ [x]) ∧ Keep (fun k => k = g) w w' ∧ w.heap.size ≤ h'
set_option maxHeartbeats 1000000 in
theorem xstate_any (g c : Nat) (A : Option Addr) (L : List Tx) (id : Int) (w : World) (hb : XBook w g A c L) (hL : L.length ≤ 1000) :
    Calls Try.prog 60 #[.pointer (some ⟨g, 0, none⟩), .int .i64 id] w fun e w' => e = .returned (.int .i64 (if 1 ≤ id ∧ id ≤ L.length then (L.getD (id - 1).toNat ⟨0, 0, 0, 0⟩).state else 0)) ∧ w = w' := by
  have hc := hb.cell
  by_cases hi : 1 ≤ id ∧ id ≤ L.length
  · rw [if_pos hi]
    obtain ⟨k, rfl⟩ : ∃ k : Nat, id = (k : Int) + 1 := ⟨(id - 1).toNat, by omega⟩
    have hk : k < L.length := by omega
    have e : ((k : Int) + 1 - 1).toNat = k := by omega
    rw [e]
    have hg : L.getD k ⟨0, 0, 0, 0⟩ = L[k] := by simp [List.getD_eq_getElem?_getD, hk]
    rw [hg]
    rcases hb.form with ⟨rfl, rfl, rfl⟩ | ⟨h, rfl, hgh, hhl, hN1, hNc, hcm⟩
    · simp at hk
    · obtain ⟨⟨d0, d1, d2⟩, _⟩ := xcells hb k _ (List.getElem?_eq_getElem hk)
      clear d0 d2 hg
      generalize L[k] = x at d1 ⊢
      generalize L.length = N at hc hk hL hi
      have q1 : ¬ ((k : Int) + 1 < 1) := by omega
      have q2 : ¬ ((N : Int) < (k : Int) + 1) := by omega
      have q3 : (k : Int) < N := by omega
      clear hb e hi
      go_enter Try.func60, Try.ntmps60
      go_wp2
      go_ret
      exact ⟨rfl, rfl⟩
  · rw [if_neg hi]
    generalize L.length = N at hc hL hi
    clear hb
    by_cases h1 : id < 1
    · go_enter Try.func60, Try.ntmps60
      go_wp2
      go_ret
      exact ⟨rfl, rfl⟩
    · have h2 : (N : Int) < id := by omega
      clear hi
      go_enter Try.func60, Try.ntmps60
      go_wp2
      go_ret
      exact ⟨rfl, rfl⟩
end Go.Proofs.Ytgdghinconghgaa
