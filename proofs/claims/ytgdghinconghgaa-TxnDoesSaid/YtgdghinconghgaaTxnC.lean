/- The contracts of package txn: Turn, Live, the example. No condition. -/
import Derived.Test.YtgdghinconghgaaTxnB
import Derived.StillTailTactics
set_option linter.unusedVariables false
set_option linter.unusedSimpArgs false
namespace Go.Proofs.Ytgdghinconghgaa
open Go.RowKit (wrap32 wrap64)
open Go.RowKit
def nextT (x : Tx) (st why : Int) : Tx := ⟨x.id, x.stamp, st, if st = 2 ∨ (st = 4 ∧ x.state = 1) then why else x.why⟩
def TurnRet (g h cap : Nat) (er : Int) (L : List Tx) (w : World) (e : Ending) (w' : World) : Prop :=
  e = .returned (.int .i64 er) ∧ Book w' g h cap L ∧ Keep (fun k => k = h) w w'
set_option maxHeartbeats 1000000 in
theorem tturn_none (g h cap : Nat) (L : List Tx) (id st why : Int) (w : World) (hb : Book w g h cap L) (h0 : 1 ≤ L.length) (h1 : ¬ (1 ≤ id ∧ id < L.length)) (h2 : L.length ≤ 4097) :
    Calls Try.prog 36 #[.pointer (some ⟨g, 0, none⟩), .int .i64 id, .int .i64 st, .int .i64 why] w (TurnRet g h cap 2 L w) := by
  have hc := hb.cell
  have HB := Lib.hid hb
  go_enter Try.func36, Try.ntmps36
  go_wp2_with (first | (go_at_call 70; refine (tok_yes _ _ _ _ _ hc h0).mono ?_; rintro e w' ⟨rfl, rfl⟩))
  refine (tget_no _ _ _ _ _ _ HB.out h0 h1 h2).mono ?_
  rintro e w1 ⟨rfl, hb1⟩
  unfold aggT txZero
  go_wp2
  go_ret
  have k2 := Keep.trans (Keep.of_below hb1 (fun k => k = h)) (Keep.alloc w1 (.cells #[.int .i64 0, .int .i64 0, .int .i64 0, .int .i64 0] 57) _)
  exact ⟨rfl, Tab.keep HB.out (Keep.trans (Keep.of_below hb1 (fun _ => False)) (Keep.alloc _ _ _)) (fun h => h) (fun h => h), k2⟩
set_option maxHeartbeats 1000000 in
theorem tturn_state (g h cap : Nat) (L : List Tx) (k : Nat) (x : Tx) (st why : Int) (w : World) (hb : Book w g h cap L) (h1 : 1 ≤ k) (hx : L[k]? = some x) (h2 : L.length ≤ 4097) (hm : mayT x.state st = false) :
    Calls Try.prog 36 #[.pointer (some ⟨g, 0, none⟩), .int .i64 k, .int .i64 st, .int .i64 why] w (TurnRet g h cap 50 L w) := by
  have hc := hb.cell
  have HB := Lib.hid hb
  have h0 : 1 ≤ L.length := by have := (List.getElem?_eq_some_iff.1 hx).1; omega
  have HX := Lib.hid hx
  clear hx hb
  go_enter Try.func36, Try.ntmps36
  go_wp2_with (first | (go_at_call 70; refine (tok_yes _ _ _ _ _ hc h0).mono ?_; rintro e w' ⟨rfl, rfl⟩))
  refine (tget_yes _ _ _ _ _ x _ HB.out h1 HX.out h2).mono ?_
  rintro e w1 ⟨rfl, hb1⟩
  have k1 := Keep.of_below hb1 (fun _ => False)
  unfold aggT
  go_wp2_with fail
  refine (tmay_any _ _ _).mono ?_
  rintro e w2 ⟨rfl, hb2⟩
  rw [hm]
  have k2 := Keep.trans (Keep.trans k1 (Keep.alloc _ _ _)) (Keep.of_below hb2 (fun _ => False))
  go_wp2
  go_ret
  exact ⟨rfl, Tab.keep HB.out k2 (fun h => h) (fun h => h), k2.mono (fun _ h => h.elim)⟩
set_option maxHeartbeats 1000000 in
theorem tturn_arg (g h cap : Nat) (L : List Tx) (k : Nat) (x : Tx) (w : World) (hb : Book w g h cap L) (h1 : 1 ≤ k) (hx : L[k]? = some x) (h2 : L.length ≤ 4097) (hm : mayT x.state 2 = true) :
    Calls Try.prog 36 #[.pointer (some ⟨g, 0, none⟩), .int .i64 k, .int .i64 2, .int .i64 0] w (TurnRet g h cap 1 L w) := by
  have hc := hb.cell
  have HB := Lib.hid hb
  have h0 : 1 ≤ L.length := by have := (List.getElem?_eq_some_iff.1 hx).1; omega
  have HX := Lib.hid hx
  clear hx hb
  go_enter Try.func36, Try.ntmps36
  go_wp2_with (first | (go_at_call 70; refine (tok_yes _ _ _ _ _ hc h0).mono ?_; rintro e w' ⟨rfl, rfl⟩))
  refine (tget_yes _ _ _ _ _ x _ HB.out h1 HX.out h2).mono ?_
  rintro e w1 ⟨rfl, hb1⟩
  have k1 := Keep.of_below hb1 (fun _ => False)
  unfold aggT
  go_wp2_with fail
  refine (tmay_any _ _ _).mono ?_
  rintro e w2 ⟨rfl, hb2⟩
  rw [hm]
  have k2 := Keep.trans (Keep.trans k1 (Keep.alloc _ _ _)) (Keep.of_below hb2 (fun _ => False))
  go_wp2
  go_ret
  exact ⟨rfl, Tab.keep HB.out k2 (fun h => h) (fun h => h), k2.mono (fun _ h => h.elim)⟩
theorem tx_stored {w : World} {g h cap : Nat} {L : List Tx} (hb : Book w g h cap L) (k : Nat) (hk : k < L.length) (x : Tx) :
    Book ((((w.setCell ⟨h, k * 4, none⟩ (.int .i64 x.id)).setCell ⟨h, k * 4 + 1, none⟩ (.int .i64 x.stamp)).setCell ⟨h, k * 4 + 2, none⟩ (.int .i64 x.state)).setCell ⟨h, k * 4 + 3, none⟩ (.int .i64 x.why)) g h cap (L.set k x) ∧
    Keep (fun i => i = h) w ((((w.setCell ⟨h, k * 4, none⟩ (.int .i64 x.id)).setCell ⟨h, k * 4 + 1, none⟩ (.int .i64 x.stamp)).setCell ⟨h, k * 4 + 2, none⟩ (.int .i64 x.state)).setCell ⟨h, k * 4 + 3, none⟩ (.int .i64 x.why)) := by
  have kk : Keep (fun i => i = h) w ((((w.setCell ⟨h, k * 4, none⟩ (.int .i64 x.id)).setCell ⟨h, k * 4 + 1, none⟩ (.int .i64 x.stamp)).setCell ⟨h, k * 4 + 2, none⟩ (.int .i64 x.state)).setCell ⟨h, k * 4 + 3, none⟩ (.int .i64 x.why)) :=
    Keep.trans (Keep.trans (Keep.trans (Keep.set _ h _ _ _ rfl) (Keep.set _ h _ _ _ rfl)) (Keep.set _ h _ _ _ rfl)) (Keep.set _ h _ _ _ rfl)
  refine ⟨⟨?_, ?_, hb.2.2⟩, kk⟩
  · rw [List.length_set]; exact kk.bk hb.1 hb.2.2
  · rw [List.length_set, ← flatV_set enT_len L k x hk]
    exact (((((hb.own.stored _ _).1).stored _ _).1.stored _ _).1.stored _ _).1
theorem tx_cells {w : World} {g h cap : Nat} {L : List Tx} (hb : Book w g h cap L) (k : Nat) (x : Tx) (hx : L[k]? = some x) :
    (w.cell? ⟨h, k * 4, none⟩ = some (.int .i64 x.id) ∧ w.cell? ⟨h, k * 4 + 1, none⟩ = some (.int .i64 x.stamp) ∧ w.cell? ⟨h, k * 4 + 2, none⟩ = some (.int .i64 x.state) ∧ w.cell? ⟨h, k * 4 + 3, none⟩ = some (.int .i64 x.why)) ∧
    (w.frozen? ⟨h, k * 4, none⟩ = false ∧ w.frozen? ⟨h, k * 4 + 1, none⟩ = false ∧ w.frozen? ⟨h, k * 4 + 2, none⟩ = false ∧ w.frozen? ⟨h, k * 4 + 3, none⟩ = false) :=
  ⟨⟨Tab.get hb enT_len k x hx 0 (by omega), Tab.get hb enT_len k x hx 1 (by omega), Tab.get hb enT_len k x hx 2 (by omega), Tab.get hb enT_len k x hx 3 (by omega)⟩,
   hb.own.frozenAt _, hb.own.frozenAt _, hb.own.frozenAt _, hb.own.frozenAt _⟩
set_option maxRecDepth 100000 in
set_option maxHeartbeats 4000000 in
theorem tturn_ok (g h cap : Nat) (L : List Tx) (k : Nat) (x : Tx) (st why : Int) (w : World) (hb : Book w g h cap L) (h1 : 1 ≤ k) (hx : L[k]? = some x) (h2 : L.length ≤ 4097) (hm : mayT x.state st = true) (ha : ¬ (st = 2 ∧ why = 0)) :
    Calls Try.prog 36 #[.pointer (some ⟨g, 0, none⟩), .int .i64 k, .int .i64 st, .int .i64 why] w (TurnRet g h cap 0 (L.set k (nextT x st why)) w) := by
  have hc := hb.cell
  have HB := Lib.hid hb
  have hk : k < L.length := (List.getElem?_eq_some_iff.1 hx).1
  have h0 : 1 ≤ L.length := by omega
  have HX := Lib.hid hx
  clear hx hb
  obtain ⟨xi, xs, xt, xw⟩ := x
  dsimp only at hm
  have hcase : (st = 2 ∧ (why == 0) = false) ∨ ((st == 2) = false ∧ st = 4 ∧ xt = 1) ∨ ((st == 2) = false ∧ st = 4 ∧ (xt == 1) = false) ∨ ((st == 2) = false ∧ (st == 4) = false) := by
    by_cases e2 : st = 2
    · exact .inl ⟨e2, beq_eq_false_iff_ne.2 (fun e => ha ⟨e2, e⟩)⟩
    · right
      have n2 : (st == 2) = false := beq_eq_false_iff_ne.2 e2
      by_cases e4 : st = 4
      · by_cases e1 : xt = 1
        · exact .inl ⟨n2, e4, e1⟩
        · exact .inr (.inl ⟨n2, e4, beq_eq_false_iff_ne.2 e1⟩)
      · exact .inr (.inr ⟨n2, beq_eq_false_iff_ne.2 e4⟩)
  clear ha
  go_enter Try.func36, Try.ntmps36
  go_wp2_with (first | (go_at_call 70; refine (tok_yes _ _ _ _ _ hc h0).mono ?_; rintro e w' ⟨rfl, rfl⟩))
  refine (tget_yes _ _ _ _ _ _ _ HB.out h1 HX.out h2).mono ?_
  rintro e w1 ⟨rfl, hb1⟩
  have k1 := Keep.of_below hb1 (fun _ => False)
  unfold aggT
  dsimp only
  go_wp2_with fail
  refine (tmay_any _ _ _).mono ?_
  rintro e w2 ⟨rfl, hb2⟩
  rw [hm]
  have hX : Bk w2 w1.heap.size 57 #[.int .i64 xi, .int .i64 xs, .int .i64 xt, .int .i64 xw] := (Bk.new w1 57 _).below hb2
  have hgt : w.heap.size ≤ w1.heap.size := hb1.size
  have k2 := Keep.trans (Keep.trans k1 (Keep.alloc _ _ _)) (Keep.of_below hb2 (fun _ => False))
  clear k1 hb1 hb2
  generalize w1.heap.size = X at hX hgt ⊢
  have x0 := hX.cell 0; have x1 := hX.cell 1; have x2 := hX.cell 2; have x3 := hX.cell 3
  have f2 := hX.frozen 2; have f3 := hX.frozen 3
  have HK := Lib.hid k2
  clear k2
  rcases hcase with ⟨rfl, hw⟩ | ⟨hn, rfl, rfl⟩ | ⟨hn, rfl, ht⟩ | ⟨hn, hn4⟩
  · have hX3 : Bk ((w2.setCell ⟨X, 3, none⟩ (.int .i64 why)).setCell ⟨X, 2, none⟩ (.int .i64 2)) X 57 #[.int .i64 xi, .int .i64 xs, .int .i64 2, .int .i64 why] := (hX.set 3 _).set 2 _
    have k3 : Keep (fun _ => False) w ((w2.setCell ⟨X, 3, none⟩ (.int .i64 why)).setCell ⟨X, 2, none⟩ (.int .i64 2)) := Keep.fresh HK.out (Keep.trans (Keep.set _ X _ _ (fun i => i = X) rfl) (Keep.set _ X _ _ _ rfl)) (fun i h => .inr (by omega))
    have hev : Hid (nextT ⟨xi, xs, xt, xw⟩ 2 why = ⟨xi, xs, 2, why⟩) := Lib.hid (by unfold nextT; simp [True])
    go_wp2
    generalize ((w2.setCell ⟨X, 3, none⟩ (.int .i64 why)).setCell ⟨X, 2, none⟩ (.int .i64 2)) = w3 at hX3 k3 ⊢
    have hB3 : Book w3 g h cap L := Tab.keep HB.out k3 (fun h => h) (fun h => h)
    clear x0 x1 x2 x3 f2 f3 hX hc HK
    have x0 := hX3.cell 0; have x1 := hX3.cell 1; have x2 := hX3.cell 2; have x3 := hX3.cell 3
    have hc := hB3.cell
    have hB4 : Hid (Book w3.drew g h cap L) := Lib.hid hB3
    have k4 : Keep (fun _ => False) w w3.drew := Keep.trans k3 (Keep.drew _ _)
    clear hB3 hX3
    go_still_tail 6, (by kernel_rfl)
    change wpList _ _ _ _ _ w3.drew
    generalize w3.drew = w4 at hB4 k4 ⊢
    obtain ⟨⟨d0, d1, d2, d3⟩, g0, g1, g2, g3⟩ := tx_cells hB4.out k _ HX.out
    obtain ⟨hS, kS⟩ := tx_stored hB4.out k hk ⟨xi, xs, 2, why⟩
    have HS := Lib.hid hS
    have KS := Lib.hid kS
    clear hS kS x0 x1 x2 x3 hc k3
    go_wp2
    go_ret
    exact ⟨rfl, by rw [hev.out]; exact HS.out, Keep.trans (k4.mono (fun _ h => h.elim)) KS.out⟩
  · have hX3 : Bk ((w2.setCell ⟨X, 3, none⟩ (.int .i64 why)).setCell ⟨X, 2, none⟩ (.int .i64 4)) X 57 #[.int .i64 xi, .int .i64 xs, .int .i64 4, .int .i64 why] := (hX.set 3 _).set 2 _
    have k3 : Keep (fun _ => False) w ((w2.setCell ⟨X, 3, none⟩ (.int .i64 why)).setCell ⟨X, 2, none⟩ (.int .i64 4)) := Keep.fresh HK.out (Keep.trans (Keep.set _ X _ _ (fun i => i = X) rfl) (Keep.set _ X _ _ _ rfl)) (fun i h => .inr (by omega))
    have hev : Hid (nextT ⟨xi, xs, 1, xw⟩ 4 why = ⟨xi, xs, 4, why⟩) := Lib.hid (by unfold nextT; simp [True])
    go_wp2
    generalize ((w2.setCell ⟨X, 3, none⟩ (.int .i64 why)).setCell ⟨X, 2, none⟩ (.int .i64 4)) = w3 at hX3 k3 ⊢
    have hB3 : Book w3 g h cap L := Tab.keep HB.out k3 (fun h => h) (fun h => h)
    clear x0 x1 x2 x3 f2 f3 hX hc HK
    have x0 := hX3.cell 0; have x1 := hX3.cell 1; have x2 := hX3.cell 2; have x3 := hX3.cell 3
    have hc := hB3.cell
    have hB4 : Hid (Book w3.drew g h cap L) := Lib.hid hB3
    have k4 : Keep (fun _ => False) w w3.drew := Keep.trans k3 (Keep.drew _ _)
    clear hB3 hX3
    go_still_tail 6, (by kernel_rfl)
    change wpList _ _ _ _ _ w3.drew
    generalize w3.drew = w4 at hB4 k4 ⊢
    obtain ⟨⟨d0, d1, d2, d3⟩, g0, g1, g2, g3⟩ := tx_cells hB4.out k _ HX.out
    obtain ⟨hS, kS⟩ := tx_stored hB4.out k hk ⟨xi, xs, 4, why⟩
    have HS := Lib.hid hS
    have KS := Lib.hid kS
    clear hS kS x0 x1 x2 x3 hc k3
    go_wp2
    go_ret
    exact ⟨rfl, by rw [hev.out]; exact HS.out, Keep.trans (k4.mono (fun _ h => h.elim)) KS.out⟩
  · have hX3 : Bk (w2.setCell ⟨X, 2, none⟩ (.int .i64 4)) X 57 #[.int .i64 xi, .int .i64 xs, .int .i64 4, .int .i64 xw] := hX.set 2 _
    have k3 : Keep (fun _ => False) w (w2.setCell ⟨X, 2, none⟩ (.int .i64 4)) := Keep.fresh HK.out (Keep.set _ X _ _ (fun i => i = X) rfl) (fun i h => .inr (by omega))
    have hev : Hid (nextT ⟨xi, xs, xt, xw⟩ 4 why = ⟨xi, xs, 4, xw⟩) := Lib.hid (by unfold nextT; simp [beq_eq_false_iff_ne.1 ht])
    go_wp2
    generalize (w2.setCell ⟨X, 2, none⟩ (.int .i64 4)) = w3 at hX3 k3 ⊢
    have hB3 : Book w3 g h cap L := Tab.keep HB.out k3 (fun h => h) (fun h => h)
    clear x0 x1 x2 x3 f2 f3 hX hc HK
    have x0 := hX3.cell 0; have x1 := hX3.cell 1; have x2 := hX3.cell 2; have x3 := hX3.cell 3
    have hc := hB3.cell
    have hB4 : Hid (Book w3.drew g h cap L) := Lib.hid hB3
    have k4 : Keep (fun _ => False) w w3.drew := Keep.trans k3 (Keep.drew _ _)
    clear hB3 hX3
    go_still_tail 6, (by kernel_rfl)
    change wpList _ _ _ _ _ w3.drew
    generalize w3.drew = w4 at hB4 k4 ⊢
    obtain ⟨⟨d0, d1, d2, d3⟩, g0, g1, g2, g3⟩ := tx_cells hB4.out k _ HX.out
    obtain ⟨hS, kS⟩ := tx_stored hB4.out k hk ⟨xi, xs, 4, xw⟩
    have HS := Lib.hid hS
    have KS := Lib.hid kS
    clear hS kS x0 x1 x2 x3 hc k3
    go_wp2
    go_ret
    exact ⟨rfl, by rw [hev.out]; exact HS.out, Keep.trans (k4.mono (fun _ h => h.elim)) KS.out⟩
  · have hX3 : Bk (w2.setCell ⟨X, 2, none⟩ (.int .i64 st)) X 57 #[.int .i64 xi, .int .i64 xs, .int .i64 st, .int .i64 xw] := hX.set 2 _
    have k3 : Keep (fun _ => False) w (w2.setCell ⟨X, 2, none⟩ (.int .i64 st)) := Keep.fresh HK.out (Keep.set _ X _ _ (fun i => i = X) rfl) (fun i h => .inr (by omega))
    have hev : Hid (nextT ⟨xi, xs, xt, xw⟩ st why = ⟨xi, xs, st, xw⟩) := Lib.hid (by unfold nextT; simp [beq_eq_false_iff_ne.1 hn, beq_eq_false_iff_ne.1 hn4])
    go_wp2
    generalize (w2.setCell ⟨X, 2, none⟩ (.int .i64 st)) = w3 at hX3 k3 ⊢
    have hB3 : Book w3 g h cap L := Tab.keep HB.out k3 (fun h => h) (fun h => h)
    clear x0 x1 x2 x3 f2 f3 hX hc HK
    have x0 := hX3.cell 0; have x1 := hX3.cell 1; have x2 := hX3.cell 2; have x3 := hX3.cell 3
    have hc := hB3.cell
    have hB4 : Hid (Book w3.drew g h cap L) := Lib.hid hB3
    have k4 : Keep (fun _ => False) w w3.drew := Keep.trans k3 (Keep.drew _ _)
    clear hB3 hX3
    go_still_tail 6, (by kernel_rfl)
    change wpList _ _ _ _ _ w3.drew
    generalize w3.drew = w4 at hB4 k4 ⊢
    obtain ⟨⟨d0, d1, d2, d3⟩, g0, g1, g2, g3⟩ := tx_cells hB4.out k _ HX.out
    obtain ⟨hS, kS⟩ := tx_stored hB4.out k hk ⟨xi, xs, st, xw⟩
    have HS := Lib.hid hS
    have KS := Lib.hid kS
    clear hS kS x0 x1 x2 x3 hc k3
    go_wp2
    go_ret
    exact ⟨rfl, by rw [hev.out]; exact HS.out, Keep.trans (k4.mono (fun _ h => h.elim)) KS.out⟩
end Go.Proofs.Ytgdghinconghgaa
