/- The reference's book of transactions: Turn. No condition. -/
import Derived.Test.YtgdghinconghgaaTxnV
import Derived.StillTailTactics
set_option linter.unusedVariables false
set_option linter.unusedSimpArgs false
namespace Go.Proofs.Ytgdghinconghgaa
open Go.RowKit (wrap32 wrap64)
open Go.RowKit
def XTurn (g c : Nat) (A : Option Addr) (er : Int) (L : List Tx) (w : World) (e : Ending) (w' : World) : Prop :=
  e = .returned (.int .i64 er) ∧ XBook w' g A c L ∧ Keep (fun i => ∃ x, A = some x ∧ i = x.block) w w'
theorem xstored {w : World} {g h c : Nat} {L : List Tx} (hb : XBook w g (some ⟨h, 0, none⟩) c L) (k : Nat) (hk : k < L.length) (x : Tx) :
    XBook (((w.setCell ⟨h, k * 3, none⟩ (.int .i64 x.stamp)).setCell ⟨h, k * 3 + 1, none⟩ (.int .i64 x.state)).setCell ⟨h, k * 3 + 2, none⟩ (.int .i64 x.why)) g (some ⟨h, 0, none⟩) c (L.set k x) ∧
    Keep (fun i => i = h) w (((w.setCell ⟨h, k * 3, none⟩ (.int .i64 x.stamp)).setCell ⟨h, k * 3 + 1, none⟩ (.int .i64 x.state)).setCell ⟨h, k * 3 + 2, none⟩ (.int .i64 x.why)) := by
  have kk : Keep (fun i => i = h) w (((w.setCell ⟨h, k * 3, none⟩ (.int .i64 x.stamp)).setCell ⟨h, k * 3 + 1, none⟩ (.int .i64 x.state)).setCell ⟨h, k * 3 + 2, none⟩ (.int .i64 x.why)) :=
    Keep.trans (Keep.trans (Keep.set _ h _ _ _ rfl) (Keep.set _ h _ _ _ rfl)) (Keep.set _ h _ _ _ rfl)
  have hne := (hb.2.2 _ rfl).1
  refine ⟨⟨?_, ?_, ?_⟩, kk⟩
  · rw [List.length_set]; exact kk.bk hb.1 (fun e => hne e.symm)
  · rw [List.length_set, ← flatV_set enX_len L k x hk]
    exact ((((hb.2.1.stored _ _).1).stored _ _).1.stored _ _).1
  · rw [List.length_set]; exact hb.2.2
set_option maxHeartbeats 1000000 in
theorem xturn_none (g c : Nat) (A : Option Addr) (L : List Tx) (id st why : Int) (w : World) (hb : XBook w g A c L) (hi : ¬ (1 ≤ id ∧ id ≤ L.length)) (hL : L.length ≤ 1000) :
    Calls Try.prog 59 #[.pointer (some ⟨g, 0, none⟩), .int .i64 id, .int .i64 st, .int .i64 why] w (XTurn g c A 2 L w) := by
  have hc := hb.cell
  have HB := Lib.hid hb
  generalize L.length = N at hc hL hi
  clear hb
  by_cases h1 : id < 1
  · go_enter Try.func59, Try.ntmps59
    go_wp2
    go_ret
    exact ⟨rfl, HB.out, Keep.refl _ _⟩
  · have h2 : (N : Int) < id := by omega
    clear hi
    go_enter Try.func59, Try.ntmps59
    go_wp2
    go_ret
    exact ⟨rfl, HB.out, Keep.refl _ _⟩
set_option maxRecDepth 100000 in
set_option maxHeartbeats 4000000 in
theorem xturn_some (g c h : Nat) (L : List Tx) (k : Nat) (x : Tx) (st why : Int) (w : World) (hb : XBook w g (some ⟨h, 0, none⟩) c L) (hx : L[k]? = some x) (hL : L.length ≤ 1000) :
    Calls Try.prog 59 #[.pointer (some ⟨g, 0, none⟩), .int .i64 (k + 1), .int .i64 st, .int .i64 why] w (XTurn g c (some ⟨h, 0, none⟩) (if mayT x.state st = false then 50 else if st = 2 ∧ why = 0 then 1 else 0) (if mayT x.state st = false then L else if st = 2 ∧ why = 0 then L else L.set k (nextT x st why)) w) := by
  have hc := hb.cell
  have hk : k < L.length := (List.getElem?_eq_some_iff.1 hx).1
  obtain ⟨⟨d0, d1, d2⟩, _⟩ := xcells hb k x hx
  have HB := Lib.hid hb
  have HX := Lib.hid hx
  have HK := Lib.hid hk
  obtain ⟨xi, xs, xt, xw⟩ := x
  dsimp only at d0 d1 d2
  dsimp only
  generalize hN : L.length = N at hc hk hL
  have HN := Lib.hid hN
  have q1 : ¬ ((k : Int) + 1 < 1) := by omega
  have q2 : ¬ ((N : Int) < (k : Int) + 1) := by omega
  have q3 : (k : Int) < N := by omega
  have ka : Keep (fun _ => False) w (w.alloc (.cells #[.int .i64 xs, .int .i64 xt, .int .i64 xw] 98)) := Keep.alloc _ _ _
  have hBa := hb.keep ka (fun h => h) (fun _ _ h => h)
  clear hb hx hN
  cases hm : mayT xt st with
  | false =>
    have HM := Lib.hid hm
    rw [if_pos rfl, if_pos rfl]
    clear hm
    go_enter Try.func59, Try.ntmps59
    go_wp2_with fail
    refine (rmay_any _ _ _).mono ?_
    rintro e _ ⟨rfl, rfl⟩
    rw [HM.out]
    go_wp2
    go_ret
    exact ⟨rfl, hBa, ka.mono (fun _ h => h.elim)⟩
  | true =>
    have HM := Lib.hid hm
    have ht : ¬ (true = false) := by decide
    rw [if_neg ht, if_neg ht]
    clear hm ht
    by_cases ha : st = 2 ∧ why = 0
    · rw [if_pos ha, if_pos ha]
      obtain ⟨rfl, rfl⟩ := ha
      go_enter Try.func59, Try.ntmps59
      go_wp2_with fail
      refine (rmay_any _ _ _).mono ?_
      rintro e _ ⟨rfl, rfl⟩
      rw [HM.out]
      go_wp2
      go_ret
      exact ⟨rfl, hBa, ka.mono (fun _ h => h.elim)⟩
    · rw [if_neg ha, if_neg ha]
      have hcase : (st = 2 ∧ (why == 0) = false) ∨ ((st == 2) = false ∧ st = 4 ∧ xt = 1) ∨ ((st == 2) = false ∧ st = 4 ∧ (xt == 1) = false) ∨ ((st == 2) = false ∧ (st == 4) = false) := by
        by_cases e2 : st = 2
        · exact .inl ⟨e2, beq_eq_false_iff_ne.2 (fun e => ha ⟨e2, e⟩)⟩
        · right
          have n2 : (st == 2) = false := beq_eq_false_iff_ne.2 e2
          by_cases e4 : st = 4
          · by_cases e1 : xt = 1
            · exact .inl ⟨n2, e4, e1⟩
            · exact .inr (.inl ⟨n2, e4, beq_eq_false_iff_ne.2 e1⟩)
          · exact .inr (.inr ⟨n2, beq_eq_false_iff_ne.2 e4⟩)
      clear ha
      rcases hcase with ⟨rfl, hw⟩ | ⟨hn, rfl, rfl⟩ | ⟨hn, rfl, ht⟩ | ⟨hn, hn4⟩
      · have hX3 : Bk (w.alloc (.cells #[.int .i64 xs, .int .i64 2, .int .i64 why] 98)) w.heap.size 98 #[.int .i64 xs, .int .i64 2, .int .i64 why] := Bk.new _ _ _
        have k3 : Keep (fun _ => False) w (w.alloc (.cells #[.int .i64 xs, .int .i64 2, .int .i64 why] 98)) := Keep.alloc _ _ _
        have HIF : Hid (nextT ⟨xi, xs, xt, xw⟩ 2 why = ⟨xi, xs, 2, why⟩) := Lib.hid (by unfold nextT; simp [True])
        go_enter Try.func59, Try.ntmps59
        go_wp2_with fail
        refine (rmay_any _ _ _).mono ?_
        rintro e _ ⟨rfl, rfl⟩
        rw [HM.out]
        go_wp2
        generalize (w.alloc (.cells #[.int .i64 xs, .int .i64 2, .int .i64 why] 98)) = w3 at hX3 k3 ⊢
        have hB3 : XBook w3 g (some ⟨h, 0, none⟩) c L := HB.out.keep k3 (fun h => h) (fun _ _ h => h)
        generalize w.heap.size = X at hX3 ⊢
        have x0 := hX3.cell 0; have x1 := hX3.cell 1; have x2 := hX3.cell 2
        have hc3 := hB3.cell
        rw [HN.out] at hc3
        have hB4 : Hid (XBook w3.drew g (some ⟨h, 0, none⟩) c L) := Lib.hid hB3
        have k4 : Keep (fun _ => False) w w3.drew := Keep.trans k3 (Keep.drew _ _)
        have t1 : IntKind.i64.wrap ((k : Int) + 1 - 1) = k := by rw [IntKind.wrap_i64]; omega
        have t2 : IntKind.i64.wrap (k : Int) = k := by rw [IntKind.wrap_i64]; omega
        clear hB3 hX3 hc d0 d1 d2 hBa ka
        go_still_tail 7, (by kernel_rfl)
        change wpList _ _ _ _ _ w3.drew
        generalize w3.drew = w4 at hB4 k4 ⊢
        clear t1 t2
        obtain ⟨⟨e0, e1, e2⟩, g0, g1, g2⟩ := xcells hB4.out k _ HX.out
        obtain ⟨hS, kS⟩ := xstored hB4.out k HK.out ⟨xi, xs, 2, why⟩
        have HS := Lib.hid hS
        have KS := Lib.hid kS
        clear hS kS x0 x1 x2 hc3 k3
        go_wp2
        go_ret
        exact ⟨rfl, by rw [HIF.out]; exact HS.out, Keep.trans (k4.mono (fun _ h => h.elim)) (KS.out.mono (fun i hi => ⟨_, rfl, hi⟩))⟩
      · have hX3 : Bk (w.alloc (.cells #[.int .i64 xs, .int .i64 4, .int .i64 why] 98)) w.heap.size 98 #[.int .i64 xs, .int .i64 4, .int .i64 why] := Bk.new _ _ _
        have k3 : Keep (fun _ => False) w (w.alloc (.cells #[.int .i64 xs, .int .i64 4, .int .i64 why] 98)) := Keep.alloc _ _ _
        have HIF : Hid (nextT ⟨xi, xs, 1, xw⟩ 4 why = ⟨xi, xs, 4, why⟩) := Lib.hid (by unfold nextT; simp [True])
        go_enter Try.func59, Try.ntmps59
        go_wp2_with fail
        refine (rmay_any _ _ _).mono ?_
        rintro e _ ⟨rfl, rfl⟩
        rw [HM.out]
        go_wp2
        generalize (w.alloc (.cells #[.int .i64 xs, .int .i64 4, .int .i64 why] 98)) = w3 at hX3 k3 ⊢
        have hB3 : XBook w3 g (some ⟨h, 0, none⟩) c L := HB.out.keep k3 (fun h => h) (fun _ _ h => h)
        generalize w.heap.size = X at hX3 ⊢
        have x0 := hX3.cell 0; have x1 := hX3.cell 1; have x2 := hX3.cell 2
        have hc3 := hB3.cell
        rw [HN.out] at hc3
        have hB4 : Hid (XBook w3.drew g (some ⟨h, 0, none⟩) c L) := Lib.hid hB3
        have k4 : Keep (fun _ => False) w w3.drew := Keep.trans k3 (Keep.drew _ _)
        have t1 : IntKind.i64.wrap ((k : Int) + 1 - 1) = k := by rw [IntKind.wrap_i64]; omega
        have t2 : IntKind.i64.wrap (k : Int) = k := by rw [IntKind.wrap_i64]; omega
        clear hB3 hX3 hc d0 d1 d2 hBa ka
        go_still_tail 7, (by kernel_rfl)
        change wpList _ _ _ _ _ w3.drew
        generalize w3.drew = w4 at hB4 k4 ⊢
        clear t1 t2
        obtain ⟨⟨e0, e1, e2⟩, g0, g1, g2⟩ := xcells hB4.out k _ HX.out
        obtain ⟨hS, kS⟩ := xstored hB4.out k HK.out ⟨xi, xs, 4, why⟩
        have HS := Lib.hid hS
        have KS := Lib.hid kS
        clear hS kS x0 x1 x2 hc3 k3
        go_wp2
        go_ret
        exact ⟨rfl, by rw [HIF.out]; exact HS.out, Keep.trans (k4.mono (fun _ h => h.elim)) (KS.out.mono (fun i hi => ⟨_, rfl, hi⟩))⟩
      · have hX3 : Bk (w.alloc (.cells #[.int .i64 xs, .int .i64 4, .int .i64 xw] 98)) w.heap.size 98 #[.int .i64 xs, .int .i64 4, .int .i64 xw] := Bk.new _ _ _
        have k3 : Keep (fun _ => False) w (w.alloc (.cells #[.int .i64 xs, .int .i64 4, .int .i64 xw] 98)) := Keep.alloc _ _ _
        have HIF : Hid (nextT ⟨xi, xs, xt, xw⟩ 4 why = ⟨xi, xs, 4, xw⟩) := Lib.hid (by unfold nextT; simp [beq_eq_false_iff_ne.1 ht])
        go_enter Try.func59, Try.ntmps59
        go_wp2_with fail
        refine (rmay_any _ _ _).mono ?_
        rintro e _ ⟨rfl, rfl⟩
        rw [HM.out]
        go_wp2
        generalize (w.alloc (.cells #[.int .i64 xs, .int .i64 4, .int .i64 xw] 98)) = w3 at hX3 k3 ⊢
        have hB3 : XBook w3 g (some ⟨h, 0, none⟩) c L := HB.out.keep k3 (fun h => h) (fun _ _ h => h)
        generalize w.heap.size = X at hX3 ⊢
        have x0 := hX3.cell 0; have x1 := hX3.cell 1; have x2 := hX3.cell 2
        have hc3 := hB3.cell
        rw [HN.out] at hc3
        have hB4 : Hid (XBook w3.drew g (some ⟨h, 0, none⟩) c L) := Lib.hid hB3
        have k4 : Keep (fun _ => False) w w3.drew := Keep.trans k3 (Keep.drew _ _)
        have t1 : IntKind.i64.wrap ((k : Int) + 1 - 1) = k := by rw [IntKind.wrap_i64]; omega
        have t2 : IntKind.i64.wrap (k : Int) = k := by rw [IntKind.wrap_i64]; omega
        clear hB3 hX3 hc d0 d1 d2 hBa ka
        go_still_tail 7, (by kernel_rfl)
        change wpList _ _ _ _ _ w3.drew
        generalize w3.drew = w4 at hB4 k4 ⊢
        clear t1 t2
        obtain ⟨⟨e0, e1, e2⟩, g0, g1, g2⟩ := xcells hB4.out k _ HX.out
        obtain ⟨hS, kS⟩ := xstored hB4.out k HK.out ⟨xi, xs, 4, xw⟩
        have HS := Lib.hid hS
        have KS := Lib.hid kS
        clear hS kS x0 x1 x2 hc3 k3
        go_wp2
        go_ret
        exact ⟨rfl, by rw [HIF.out]; exact HS.out, Keep.trans (k4.mono (fun _ h => h.elim)) (KS.out.mono (fun i hi => ⟨_, rfl, hi⟩))⟩
      · have hX3 : Bk (w.alloc (.cells #[.int .i64 xs, .int .i64 st, .int .i64 xw] 98)) w.heap.size 98 #[.int .i64 xs, .int .i64 st, .int .i64 xw] := Bk.new _ _ _
        have k3 : Keep (fun _ => False) w (w.alloc (.cells #[.int .i64 xs, .int .i64 st, .int .i64 xw] 98)) := Keep.alloc _ _ _
        have HIF : Hid (nextT ⟨xi, xs, xt, xw⟩ st why = ⟨xi, xs, st, xw⟩) := Lib.hid (by unfold nextT; simp [beq_eq_false_iff_ne.1 hn, beq_eq_false_iff_ne.1 hn4])
        go_enter Try.func59, Try.ntmps59
        go_wp2_with fail
        refine (rmay_any _ _ _).mono ?_
        rintro e _ ⟨rfl, rfl⟩
        rw [HM.out]
        go_wp2
        generalize (w.alloc (.cells #[.int .i64 xs, .int .i64 st, .int .i64 xw] 98)) = w3 at hX3 k3 ⊢
        have hB3 : XBook w3 g (some ⟨h, 0, none⟩) c L := HB.out.keep k3 (fun h => h) (fun _ _ h => h)
        generalize w.heap.size = X at hX3 ⊢
        have x0 := hX3.cell 0; have x1 := hX3.cell 1; have x2 := hX3.cell 2
        have hc3 := hB3.cell
        rw [HN.out] at hc3
        have hB4 : Hid (XBook w3.drew g (some ⟨h, 0, none⟩) c L) := Lib.hid hB3
        have k4 : Keep (fun _ => False) w w3.drew := Keep.trans k3 (Keep.drew _ _)
        have t1 : IntKind.i64.wrap ((k : Int) + 1 - 1) = k := by rw [IntKind.wrap_i64]; omega
        have t2 : IntKind.i64.wrap (k : Int) = k := by rw [IntKind.wrap_i64]; omega
        clear hB3 hX3 hc d0 d1 d2 hBa ka
        go_still_tail 7, (by kernel_rfl)
        change wpList _ _ _ _ _ w3.drew
        generalize w3.drew = w4 at hB4 k4 ⊢
        clear t1 t2
        obtain ⟨⟨e0, e1, e2⟩, g0, g1, g2⟩ := xcells hB4.out k _ HX.out
        obtain ⟨hS, kS⟩ := xstored hB4.out k HK.out ⟨xi, xs, st, xw⟩
        have HS := Lib.hid hS
        have KS := Lib.hid kS
        clear hS kS x0 x1 x2 hc3 k3
        go_wp2
        go_ret
        exact ⟨rfl, by rw [HIF.out]; exact HS.out, Keep.trans (k4.mono (fun _ h => h.elim)) (KS.out.mono (fun i hi => ⟨_, rfl, hi⟩))⟩
end Go.Proofs.Ytgdghinconghgaa
