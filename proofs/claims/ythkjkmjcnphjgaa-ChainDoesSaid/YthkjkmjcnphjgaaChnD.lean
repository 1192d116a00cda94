/- chain: Cut, as the rows say. No condition. -/
import Derived.Test.YthkjkmjcnphjgaaChnL
import Derived.StillTailTactics
set_option linter.unusedVariables false
set_option linter.unusedSimpArgs false
namespace Go.Proofs.Ythkjkmjcnphjgaa
open Go.RowKit (wrap32 wrap64)
open Go.RowKit
def cutR (R : List (List Nat)) (i : Int) : List (List Nat) := if atI R i = -1 then R else R.map fun l => l.erase i.toNat
theorem cutE_set (E : List En) (row : Nat) (back next : Int) (y : En) (hy : E[row]? = some y) : cutE E row back next = E.set row ⟨if back = -1 then next else y.first, if next = -1 then back else y.last⟩ := modify_set _ _ _ _ hy
theorem set_same {α : Type} (E : List α) (r : Nat) (y : α) (hy : E[r]? = some y) : E.set r y = E := by
  apply List.ext_getElem?
  intro j
  rw [List.getElem?_set]
  split
  · rename_i e
    subst e
    rw [if_pos (List.getElem?_eq_some_iff.1 hy).1, hy]
  · rfl
set_option maxRecDepth 100000 in
set_option maxHeartbeats 8000000 in
theorem ccut_any (g h1 h2 n : Nat) (R : List (List Nat)) (i : Int) (w : World) (hc : Chn w g h1 h2 n R) :
    Calls Try.prog 24 #[.pointer (some ⟨g, 0, none⟩), .int .i64 i] w (ChnRet w (atI R i != -1) g h1 h2 n (cutR R i)) := by
  have hr := crowR_any g h1 h2 n R i w hc
  have HC := Lib.hid hc
  obtain ⟨T, E, hc, hrel⟩ := hc
  have hn4 := hc.n4
  rcases at_cases hrel i with ⟨h1', _, _, _⟩ | ⟨r, x, A, B, rfl, hx, hrn, hR, _, h1', _, _, _⟩
  · have e : cutR R i = R := if_pos h1'
    rw [e, h1']
    rw [h1'] at hr
    have HRET : Hid (ChnRet w false g h1 h2 n R (.returned (.bool false)) w) := Lib.hid ⟨rfl, HC.out, Keep.refl _ _⟩
    have HR := Lib.hid hr
    clear hr hc hrel e h1' HC
    go_enter Try.func24, Try.ntmps24
    go_wp2_with (go_at_call 26; refine HR.out.mono ?_; rintro e _ ⟨rfl, rfl⟩)
    go_ret
    exact HRET.out
  · have e : cutR R (x : Int) = R.set r (A ++ B) := by
      unfold cutR
      rw [h1', if_neg (by omega), show ((x : Nat) : Int).toNat = x by omega]
      exact hrel.cut A B r x hR
    have e2 : ((r : Int) != -1) = true := bne_iff_ne.2 (by omega)
    have e3 : z1 (r : Int) = r := if_neg (by omega)
    rw [e, h1', e2]
    rw [h1', e2, e3] at hr
    have HR := Lib.hid hr
    have hT := hrel.at' r A x B hR
    have hall := hrel.lt _ (List.mem_of_getElem? hR)
    have hbk : laI A = -1 ∨ ∃ b : Nat, laI A = b ∧ b < n := laI_in (fun q hq => hall q (List.mem_append_left _ hq))
    have hnx : hdI B = -1 ∨ ∃ b : Nat, hdI B = b ∧ b < n := hdI_in (fun q hq => hall q (List.mem_append_right _ (List.mem_cons_of_mem _ hq)))
    have hlaw := cut_law hrel A B r x hR
    have HRET : Hid (∀ W, ChnAt W g h1 h2 n (cutT T x (laI A) (hdI B)) (cutE E r (laI A) (hdI B)) → Keep (LayS h1 h2) w W → ChnRet w true g h1 h2 n (R.set r (A ++ B)) (.returned (.bool true)) W) := Lib.hid (fun W h1 h2 => ⟨rfl, ⟨_, _, h1, hlaw⟩, h2⟩)
    obtain ⟨y, hy⟩ : ∃ y, E[r]? = some y := ⟨_, List.getElem?_eq_getElem (by rw [hc.el]; exact hrn)⟩
    clear hrel hlaw hr e e2 e3 h1' hall hR HC
    generalize R.set r (A ++ B) = R' at HRET ⊢
    generalize laI A = la at hT hbk HRET
    generalize hdI B = nb at hT hnx HRET
    have a0 := hc.bk.cell 0
    have d0 := hc.r1.cell enLn_len hT 0 (by omega)
    have d1 := hc.r1.cell enLn_len hT 1 (by omega)
    have d2 := hc.r1.cell enLn_len hT 2 (by omega)
    rw [show (enLn ⟨(r : Int), la, nb⟩)[0]? = some (.int .i64 r) from rfl, Nat.add_zero] at d0
    rw [show (enLn ⟨(r : Int), la, nb⟩)[1]? = some (.int .i64 la) from rfl] at d1
    rw [show (enLn ⟨(r : Int), la, nb⟩)[2]? = some (.int .i64 nb) from rfl] at d2
    have hX3 : Bk (w.alloc (.cells #[.int .i64 r, .int .i64 la, .int .i64 nb] 94)) w.heap.size 94 #[.int .i64 r, .int .i64 la, .int .i64 nb] := Bk.new _ _ _
    have k3 : Keep (LayS h1 h2) w (w.alloc (.cells #[.int .i64 r, .int .i64 la, .int .i64 nb] 94)) := Keep.alloc _ _ _
    have m3 : ChnM (w.alloc (.cells #[.int .i64 r, .int .i64 la, .int .i64 nb] 94)) g h1 h2 n T E := (hc.keep (Keep.alloc _ _ (fun _ => False)) (fun h => h) (fun h => h) (fun h => h)).m
    have hXh1 : w.heap.size ≠ h1 := fun e => by have := hc.r1.lt; omega
    have hXh2 : w.heap.size ≠ h2 := fun e => by have := hc.r2.lt; omega
    have htl := hc.tl
    rcases hbk with rfl | ⟨b, rfl, hb⟩ <;> rcases hnx with rfl | ⟨b', rfl, hb'⟩
    · skip
      have hlt := hc.r1.lt
      clear hc
      go_enter Try.func24, Try.ntmps24
      go_wp2_with (go_at_call 26; refine HR.out.mono ?_; rintro e _ ⟨rfl, rfl⟩)
      generalize w.alloc (.cells #[.int .i64 r, .int .i64 (-1), .int .i64 (-1)] 94) = w3 at hX3 k3 m3 ⊢
      generalize w.heap.size = X at hX3 hXh1 hXh2 ⊢
      clear a0 d0 d1 d2
      have a0 := m3.c.bk.cell 0
      have a1 := m3.c.bk.cell 1
      have x0 := hX3.cell 0
      have x1 := hX3.cell 1
      have x2 := hX3.cell 2
      have k4 : Keep (LayS h1 h2) w w3.drew := Keep.trans k3 (Keep.drew _ _)
      have hX4 : Bk w3.drew X 94 #[.int .i64 r, .int .i64 (-1), .int .i64 (-1)] := hX3
      have m4 : ChnM w3.drew g h1 h2 n T E := (m3.c.keep (Keep.drew _ (fun _ => False)) (fun h => h) (fun h => h) (fun h => h)).m
      have HM3 := Lib.hid m3
      have HX3 := Lib.hid hX3
      clear m3 hX3 k3
      go_still_tail 9, (by kernel_rfl)
      change wpList _ _ _ _ _ w3.drew
      generalize w3.drew = w4 at hX4 m4 k4 ⊢
      clear a0 a1 x0 x1 x2
      have e0 := m4.c.r2.cell enEn_len hy 0 (by omega)
      rw [show (enEn y)[0]? = some (.int .i64 y.first) from rfl, Nat.add_zero] at e0
      have fe0 := m4.c.r2.frozen (r * 2)
      obtain ⟨m5, k5⟩ := m4.putE r y ⟨(-1), y.last⟩ hy 0 (by omega) (.int .i64 (-1)) rfl
      rw [Nat.add_zero] at m5 k5
      have hX5 := k5.bk hX4 (fun e => by rcases e with e | e; exact hXh1 e; exact hXh2 e)
      have hy5 : (E.set r ⟨(-1), y.last⟩)[r]? = some ⟨(-1), y.last⟩ := by rw [List.getElem?_set_self (List.getElem?_eq_some_iff.1 hy).1]
      obtain ⟨W5, hW5⟩ : ∃ W5, w4.setCell ⟨h2, r * 2, none⟩ (.int .i64 (-1)) = W5 := ⟨_, rfl⟩
      have hE5 : True := trivial
      rw [hW5] at m5 k5 hX5
      have HW5 := Lib.hid hW5
      have hsn : setNext T (-1) (-1) = T := if_pos rfl
      obtain ⟨T1, hT1⟩ : ∃ T1, T = T1 := ⟨_, rfl⟩
      rw [hT1] at m5
      replace hsn := hsn.trans hT1
      clear hW5
      have hT1l : T1.length = n := m5.c.tl
      have k6 : Keep (LayS h1 h2) w W5.drew := Keep.trans k4 (Keep.trans k5 (Keep.drew _ _))
      have hX6 : Bk W5.drew X 94 #[.int .i64 r, .int .i64 (-1), .int .i64 (-1)] := hX5
      have m6 : ChnM W5.drew g h1 h2 n T1 (E.set r ⟨(-1), y.last⟩) := (m5.c.keep (Keep.drew _ (fun _ => False)) (fun h => h) (fun h => h) (fun h => h)).m
      have a0 := m5.c.bk.cell 0
      have a1 := m5.c.bk.cell 1
      have x0 := hX5.cell 0
      have x1 := hX5.cell 1
      have x2 := hX5.cell 2
      clear m4 m5 k4 k5 hX4 hX5 hT1
      go_wp2_with (rw [HW5.out]; clear HW5 e0 fe0)
      go_still_tail 9, (by kernel_rfl)
      change wpList _ _ _ _ _ W5.drew
      generalize W5.drew = w6 at hX6 m6 k6 ⊢
      clear a0 a1 x0 x1 x2
      have e0 := m6.c.r2.cell enEn_len hy5 1 (by omega)
      rw [show (enEn ⟨(-1), y.last⟩)[1]? = some (.int .i64 y.last) from rfl] at e0
      have fe0 := m6.c.r2.frozen (r * 2 + 1)
      obtain ⟨m7, k7⟩ := m6.putE r _ ⟨(-1), (-1)⟩ hy5 1 (by omega) (.int .i64 (-1)) rfl
      obtain ⟨W7, hW7⟩ : ∃ W7, w6.setCell ⟨h2, r * 2 + 1, none⟩ (.int .i64 (-1)) = W7 := ⟨_, rfl⟩
      have hsb : setBack T1 (-1) (-1) = T1 := if_pos rfl
      obtain ⟨T2, hT2⟩ : ∃ T2, T1 = T2 := ⟨_, rfl⟩
      rw [hT2] at m7
      replace hsb := hsb.trans hT2
      rw [hW7] at m7 k7
      have HW7 := Lib.hid hW7
      clear hW7 hT2
      have hT2l : T2.length = n := m7.c.tl
      obtain ⟨q, hq⟩ : ∃ q, T2[x]? = some q := ⟨_, List.getElem?_eq_getElem (by rw [hT2l]; exact hx)⟩
      have a0 := m7.c.bk.cell 0
      have d0 := m7.c.r1.cell enLn_len hq 0 (by omega)
      have d1 := m7.c.r1.cell enLn_len hq 1 (by omega)
      have d2 := m7.c.r1.cell enLn_len hq 2 (by omega)
      rw [show (enLn q)[0]? = some (.int .i64 q.row) from rfl, Nat.add_zero] at d0
      rw [show (enLn q)[1]? = some (.int .i64 q.back) from rfl] at d1
      rw [show (enLn q)[2]? = some (.int .i64 q.next) from rfl] at d2
      have f0 := m7.c.r1.frozen (x * 3)
      have f1 := m7.c.r1.frozen (x * 3 + 1)
      have f2 := m7.c.r1.frozen (x * 3 + 2)
      obtain ⟨m8, k8⟩ := m7.setT x ⟨-1, -1, -1⟩ hx
      have HFIN : Hid (∀ W8, (((W7.setCell ⟨h1, x * 3, none⟩ (.int .i64 (-1))).setCell ⟨h1, x * 3 + 1, none⟩ (.int .i64 (-1))).setCell ⟨h1, x * 3 + 2, none⟩ (.int .i64 (-1))) = W8 → ChnRet w true g h1 h2 n R' (.returned (.bool true)) W8) := Lib.hid (by
        rintro W8 rfl
        refine HRET.out _ ?_ (Keep.trans k6 (Keep.trans k7 k8))
        have h := m8.c
        have eT : cutT T x (-1) (-1) = T2.set x ⟨-1, -1, -1⟩ := by
          unfold cutT
          rw [hsn, hsb]
        have eE : cutE E r (-1) (-1) = (E.set r ⟨(-1), y.last⟩).set r ⟨(-1), (-1)⟩ := by
          rw [cutE_set _ _ _ _ y hy]
          rw [List.set_set]; rfl
        rw [eT, eE]
        exact h)
      clear m6 m7 m8 k6 k7 k8 hy hy5 hsn hsb hX6 hq hT2l hT1l HRET
      go_wp2_with (rw [HW7.out]; clear HW7 e0 fe0)
      go_ret
      exact HFIN.out _ rfl
    · skip
      have hne2 : ((b' : Int) == -1) = false := beq_eq_false_iff_ne.2 (by omega)
      have hlt := hc.r1.lt
      clear hc
      go_enter Try.func24, Try.ntmps24
      go_wp2_with (go_at_call 26; refine HR.out.mono ?_; rintro e _ ⟨rfl, rfl⟩)
      generalize w.alloc (.cells #[.int .i64 r, .int .i64 (-1), .int .i64 (b' : Int)] 94) = w3 at hX3 k3 m3 ⊢
      generalize w.heap.size = X at hX3 hXh1 hXh2 ⊢
      clear a0 d0 d1 d2
      have a0 := m3.c.bk.cell 0
      have a1 := m3.c.bk.cell 1
      have x0 := hX3.cell 0
      have x1 := hX3.cell 1
      have x2 := hX3.cell 2
      have k4 : Keep (LayS h1 h2) w w3.drew := Keep.trans k3 (Keep.drew _ _)
      have hX4 : Bk w3.drew X 94 #[.int .i64 r, .int .i64 (-1), .int .i64 (b' : Int)] := hX3
      have m4 : ChnM w3.drew g h1 h2 n T E := (m3.c.keep (Keep.drew _ (fun _ => False)) (fun h => h) (fun h => h) (fun h => h)).m
      have HM3 := Lib.hid m3
      have HX3 := Lib.hid hX3
      clear m3 hX3 k3
      go_still_tail 9, (by kernel_rfl)
      change wpList _ _ _ _ _ w3.drew
      generalize w3.drew = w4 at hX4 m4 k4 ⊢
      clear a0 a1 x0 x1 x2
      have e0 := m4.c.r2.cell enEn_len hy 0 (by omega)
      rw [show (enEn y)[0]? = some (.int .i64 y.first) from rfl, Nat.add_zero] at e0
      have fe0 := m4.c.r2.frozen (r * 2)
      obtain ⟨m5, k5⟩ := m4.putE r y ⟨(b' : Int), y.last⟩ hy 0 (by omega) (.int .i64 (b' : Int)) rfl
      rw [Nat.add_zero] at m5 k5
      have hX5 := k5.bk hX4 (fun e => by rcases e with e | e; exact hXh1 e; exact hXh2 e)
      have hy5 : (E.set r ⟨(b' : Int), y.last⟩)[r]? = some ⟨(b' : Int), y.last⟩ := by rw [List.getElem?_set_self (List.getElem?_eq_some_iff.1 hy).1]
      obtain ⟨W5, hW5⟩ : ∃ W5, w4.setCell ⟨h2, r * 2, none⟩ (.int .i64 (b' : Int)) = W5 := ⟨_, rfl⟩
      have hE5 : True := trivial
      rw [hW5] at m5 k5 hX5
      have HW5 := Lib.hid hW5
      have hsn : setNext T (-1) (b' : Int) = T := if_pos rfl
      obtain ⟨T1, hT1⟩ : ∃ T1, T = T1 := ⟨_, rfl⟩
      rw [hT1] at m5
      replace hsn := hsn.trans hT1
      clear hW5
      have hT1l : T1.length = n := m5.c.tl
      have k6 : Keep (LayS h1 h2) w W5.drew := Keep.trans k4 (Keep.trans k5 (Keep.drew _ _))
      have hX6 : Bk W5.drew X 94 #[.int .i64 r, .int .i64 (-1), .int .i64 (b' : Int)] := hX5
      have m6 : ChnM W5.drew g h1 h2 n T1 (E.set r ⟨(b' : Int), y.last⟩) := (m5.c.keep (Keep.drew _ (fun _ => False)) (fun h => h) (fun h => h) (fun h => h)).m
      have a0 := m5.c.bk.cell 0
      have a1 := m5.c.bk.cell 1
      have x0 := hX5.cell 0
      have x1 := hX5.cell 1
      have x2 := hX5.cell 2
      clear m4 m5 k4 k5 hX4 hX5 hT1
      go_wp2_with (rw [HW5.out]; clear HW5 e0 fe0)
      go_still_tail 10, (by kernel_rfl)
      change wpList _ _ _ _ _ W5.drew
      generalize W5.drew = w6 at hX6 m6 k6 ⊢
      clear a0 a1 x0 x1 x2
      obtain ⟨z', hz'⟩ : ∃ z', T1[b']? = some z' := ⟨_, List.getElem?_eq_getElem (by rw [hT1l]; exact hb')⟩
      have e0 := m6.c.r1.cell enLn_len hz' 1 (by omega)
      rw [show (enLn z')[1]? = some (.int .i64 z'.back) from rfl] at e0
      have fe0 := m6.c.r1.frozen (b' * 3 + 1)
      obtain ⟨m7, k7⟩ := m6.putT b' z' ⟨z'.row, (-1), z'.next⟩ hz' 1 (by omega) (.int .i64 (-1)) rfl
      obtain ⟨W7, hW7⟩ : ∃ W7, w6.setCell ⟨h1, b' * 3 + 1, none⟩ (.int .i64 (-1)) = W7 := ⟨_, rfl⟩
      have hsb := setBack_set T1 b' (-1) z' hz'
      generalize hT2 : T1.set b' ⟨z'.row, (-1), z'.next⟩ = T2 at m7 hsb
      rw [hW7] at m7 k7
      have HW7 := Lib.hid hW7
      clear hW7 hT2
      have hT2l : T2.length = n := m7.c.tl
      obtain ⟨q, hq⟩ : ∃ q, T2[x]? = some q := ⟨_, List.getElem?_eq_getElem (by rw [hT2l]; exact hx)⟩
      have a0 := m7.c.bk.cell 0
      have d0 := m7.c.r1.cell enLn_len hq 0 (by omega)
      have d1 := m7.c.r1.cell enLn_len hq 1 (by omega)
      have d2 := m7.c.r1.cell enLn_len hq 2 (by omega)
      rw [show (enLn q)[0]? = some (.int .i64 q.row) from rfl, Nat.add_zero] at d0
      rw [show (enLn q)[1]? = some (.int .i64 q.back) from rfl] at d1
      rw [show (enLn q)[2]? = some (.int .i64 q.next) from rfl] at d2
      have f0 := m7.c.r1.frozen (x * 3)
      have f1 := m7.c.r1.frozen (x * 3 + 1)
      have f2 := m7.c.r1.frozen (x * 3 + 2)
      obtain ⟨m8, k8⟩ := m7.setT x ⟨-1, -1, -1⟩ hx
      have HFIN : Hid (∀ W8, (((W7.setCell ⟨h1, x * 3, none⟩ (.int .i64 (-1))).setCell ⟨h1, x * 3 + 1, none⟩ (.int .i64 (-1))).setCell ⟨h1, x * 3 + 2, none⟩ (.int .i64 (-1))) = W8 → ChnRet w true g h1 h2 n R' (.returned (.bool true)) W8) := Lib.hid (by
        rintro W8 rfl
        refine HRET.out _ ?_ (Keep.trans k6 (Keep.trans k7 k8))
        have h := m8.c
        have eT : cutT T x (-1) (b' : Int) = T2.set x ⟨-1, -1, -1⟩ := by
          unfold cutT
          rw [hsn, hsb]
        have eE : cutE E r (-1) (b' : Int) = (E.set r ⟨(b' : Int), y.last⟩) := by
          rw [cutE_set _ _ _ _ y hy]
          rw [if_pos rfl, if_neg (by omega)]
        rw [eT, eE]
        exact h)
      clear m6 m7 m8 k6 k7 k8 hy hy5 hsn hsb hX6 hq hT2l hT1l HRET
      go_wp2_with (rw [HW7.out]; clear HW7 e0 fe0)
      go_ret
      exact HFIN.out _ rfl
    · have hne1 : ((b : Int) == -1) = false := beq_eq_false_iff_ne.2 (by omega)
      have hlt := hc.r1.lt
      clear hc
      go_enter Try.func24, Try.ntmps24
      go_wp2_with (go_at_call 26; refine HR.out.mono ?_; rintro e _ ⟨rfl, rfl⟩)
      generalize w.alloc (.cells #[.int .i64 r, .int .i64 (b : Int), .int .i64 (-1)] 94) = w3 at hX3 k3 m3 ⊢
      generalize w.heap.size = X at hX3 hXh1 hXh2 ⊢
      clear a0 d0 d1 d2
      have a0 := m3.c.bk.cell 0
      have a1 := m3.c.bk.cell 1
      have x0 := hX3.cell 0
      have x1 := hX3.cell 1
      have x2 := hX3.cell 2
      have k4 : Keep (LayS h1 h2) w w3.drew := Keep.trans k3 (Keep.drew _ _)
      have hX4 : Bk w3.drew X 94 #[.int .i64 r, .int .i64 (b : Int), .int .i64 (-1)] := hX3
      have m4 : ChnM w3.drew g h1 h2 n T E := (m3.c.keep (Keep.drew _ (fun _ => False)) (fun h => h) (fun h => h) (fun h => h)).m
      have HM3 := Lib.hid m3
      have HX3 := Lib.hid hX3
      clear m3 hX3 k3
      go_still_tail 10, (by kernel_rfl)
      change wpList _ _ _ _ _ w3.drew
      generalize w3.drew = w4 at hX4 m4 k4 ⊢
      clear a0 a1 x0 x1 x2
      obtain ⟨z, hz⟩ : ∃ z, T[b]? = some z := ⟨_, List.getElem?_eq_getElem (by rw [htl]; exact hb)⟩
      have e0 := m4.c.r1.cell enLn_len hz 2 (by omega)
      rw [show (enLn z)[2]? = some (.int .i64 z.next) from rfl] at e0
      have fe0 := m4.c.r1.frozen (b * 3 + 2)
      obtain ⟨m5, k5⟩ := m4.putT b z ⟨z.row, z.back, (-1)⟩ hz 2 (by omega) (.int .i64 (-1)) rfl
      have hX5 := k5.bk hX4 (fun e => by rcases e with e | e; exact hXh1 e; exact hXh2 e)
      have hy5 := hy
      obtain ⟨W5, hW5⟩ : ∃ W5, w4.setCell ⟨h1, b * 3 + 2, none⟩ (.int .i64 (-1)) = W5 := ⟨_, rfl⟩
      rw [hW5] at m5 k5 hX5
      have HW5 := Lib.hid hW5
      have hsn := setNext_set T b (-1) z hz
      generalize hT1 : T.set b ⟨z.row, z.back, (-1)⟩ = T1 at m5 hsn
      clear hW5
      have hT1l : T1.length = n := m5.c.tl
      have k6 : Keep (LayS h1 h2) w W5.drew := Keep.trans k4 (Keep.trans k5 (Keep.drew _ _))
      have hX6 : Bk W5.drew X 94 #[.int .i64 r, .int .i64 (b : Int), .int .i64 (-1)] := hX5
      have m6 : ChnM W5.drew g h1 h2 n T1 E := (m5.c.keep (Keep.drew _ (fun _ => False)) (fun h => h) (fun h => h) (fun h => h)).m
      have a0 := m5.c.bk.cell 0
      have a1 := m5.c.bk.cell 1
      have x0 := hX5.cell 0
      have x1 := hX5.cell 1
      have x2 := hX5.cell 2
      clear m4 m5 k4 k5 hX4 hX5 hT1
      go_wp2_with (rw [HW5.out]; clear HW5 e0 fe0)
      go_still_tail 9, (by kernel_rfl)
      change wpList _ _ _ _ _ W5.drew
      generalize W5.drew = w6 at hX6 m6 k6 ⊢
      clear a0 a1 x0 x1 x2
      have e0 := m6.c.r2.cell enEn_len hy5 1 (by omega)
      rw [show (enEn y)[1]? = some (.int .i64 y.last) from rfl] at e0
      have fe0 := m6.c.r2.frozen (r * 2 + 1)
      obtain ⟨m7, k7⟩ := m6.putE r _ ⟨y.first, (b : Int)⟩ hy5 1 (by omega) (.int .i64 (b : Int)) rfl
      obtain ⟨W7, hW7⟩ : ∃ W7, w6.setCell ⟨h2, r * 2 + 1, none⟩ (.int .i64 (b : Int)) = W7 := ⟨_, rfl⟩
      have hsb : setBack T1 (-1) (b : Int) = T1 := if_pos rfl
      obtain ⟨T2, hT2⟩ : ∃ T2, T1 = T2 := ⟨_, rfl⟩
      rw [hT2] at m7
      replace hsb := hsb.trans hT2
      rw [hW7] at m7 k7
      have HW7 := Lib.hid hW7
      clear hW7 hT2
      have hT2l : T2.length = n := m7.c.tl
      obtain ⟨q, hq⟩ : ∃ q, T2[x]? = some q := ⟨_, List.getElem?_eq_getElem (by rw [hT2l]; exact hx)⟩
      have a0 := m7.c.bk.cell 0
      have d0 := m7.c.r1.cell enLn_len hq 0 (by omega)
      have d1 := m7.c.r1.cell enLn_len hq 1 (by omega)
      have d2 := m7.c.r1.cell enLn_len hq 2 (by omega)
      rw [show (enLn q)[0]? = some (.int .i64 q.row) from rfl, Nat.add_zero] at d0
      rw [show (enLn q)[1]? = some (.int .i64 q.back) from rfl] at d1
      rw [show (enLn q)[2]? = some (.int .i64 q.next) from rfl] at d2
      have f0 := m7.c.r1.frozen (x * 3)
      have f1 := m7.c.r1.frozen (x * 3 + 1)
      have f2 := m7.c.r1.frozen (x * 3 + 2)
      obtain ⟨m8, k8⟩ := m7.setT x ⟨-1, -1, -1⟩ hx
      have HFIN : Hid (∀ W8, (((W7.setCell ⟨h1, x * 3, none⟩ (.int .i64 (-1))).setCell ⟨h1, x * 3 + 1, none⟩ (.int .i64 (-1))).setCell ⟨h1, x * 3 + 2, none⟩ (.int .i64 (-1))) = W8 → ChnRet w true g h1 h2 n R' (.returned (.bool true)) W8) := Lib.hid (by
        rintro W8 rfl
        refine HRET.out _ ?_ (Keep.trans k6 (Keep.trans k7 k8))
        have h := m8.c
        have eT : cutT T x (b : Int) (-1) = T2.set x ⟨-1, -1, -1⟩ := by
          unfold cutT
          rw [hsn, hsb]
        have eE : cutE E r (b : Int) (-1) = E.set r ⟨y.first, (b : Int)⟩ := by
          rw [cutE_set _ _ _ _ y hy]
          rw [if_neg (by omega), if_pos rfl]
        rw [eT, eE]
        exact h)
      clear m6 m7 m8 k6 k7 k8 hy hy5 hsn hsb hX6 hq hT2l hT1l HRET
      go_wp2_with (rw [HW7.out]; clear HW7 e0 fe0)
      go_ret
      exact HFIN.out _ rfl
    · have hne1 : ((b : Int) == -1) = false := beq_eq_false_iff_ne.2 (by omega)
      have hne2 : ((b' : Int) == -1) = false := beq_eq_false_iff_ne.2 (by omega)
      have hlt := hc.r1.lt
      clear hc
      go_enter Try.func24, Try.ntmps24
      go_wp2_with (go_at_call 26; refine HR.out.mono ?_; rintro e _ ⟨rfl, rfl⟩)
      generalize w.alloc (.cells #[.int .i64 r, .int .i64 (b : Int), .int .i64 (b' : Int)] 94) = w3 at hX3 k3 m3 ⊢
      generalize w.heap.size = X at hX3 hXh1 hXh2 ⊢
      clear a0 d0 d1 d2
      have a0 := m3.c.bk.cell 0
      have a1 := m3.c.bk.cell 1
      have x0 := hX3.cell 0
      have x1 := hX3.cell 1
      have x2 := hX3.cell 2
      have k4 : Keep (LayS h1 h2) w w3.drew := Keep.trans k3 (Keep.drew _ _)
      have hX4 : Bk w3.drew X 94 #[.int .i64 r, .int .i64 (b : Int), .int .i64 (b' : Int)] := hX3
      have m4 : ChnM w3.drew g h1 h2 n T E := (m3.c.keep (Keep.drew _ (fun _ => False)) (fun h => h) (fun h => h) (fun h => h)).m
      have HM3 := Lib.hid m3
      have HX3 := Lib.hid hX3
      clear m3 hX3 k3
      go_still_tail 10, (by kernel_rfl)
      change wpList _ _ _ _ _ w3.drew
      generalize w3.drew = w4 at hX4 m4 k4 ⊢
      clear a0 a1 x0 x1 x2
      obtain ⟨z, hz⟩ : ∃ z, T[b]? = some z := ⟨_, List.getElem?_eq_getElem (by rw [htl]; exact hb)⟩
      have e0 := m4.c.r1.cell enLn_len hz 2 (by omega)
      rw [show (enLn z)[2]? = some (.int .i64 z.next) from rfl] at e0
      have fe0 := m4.c.r1.frozen (b * 3 + 2)
      obtain ⟨m5, k5⟩ := m4.putT b z ⟨z.row, z.back, (b' : Int)⟩ hz 2 (by omega) (.int .i64 (b' : Int)) rfl
      have hX5 := k5.bk hX4 (fun e => by rcases e with e | e; exact hXh1 e; exact hXh2 e)
      have hy5 := hy
      obtain ⟨W5, hW5⟩ : ∃ W5, w4.setCell ⟨h1, b * 3 + 2, none⟩ (.int .i64 (b' : Int)) = W5 := ⟨_, rfl⟩
      rw [hW5] at m5 k5 hX5
      have HW5 := Lib.hid hW5
      have hsn := setNext_set T b (b' : Int) z hz
      generalize hT1 : T.set b ⟨z.row, z.back, (b' : Int)⟩ = T1 at m5 hsn
      clear hW5
      have hT1l : T1.length = n := m5.c.tl
      have k6 : Keep (LayS h1 h2) w W5.drew := Keep.trans k4 (Keep.trans k5 (Keep.drew _ _))
      have hX6 : Bk W5.drew X 94 #[.int .i64 r, .int .i64 (b : Int), .int .i64 (b' : Int)] := hX5
      have m6 : ChnM W5.drew g h1 h2 n T1 E := (m5.c.keep (Keep.drew _ (fun _ => False)) (fun h => h) (fun h => h) (fun h => h)).m
      have a0 := m5.c.bk.cell 0
      have a1 := m5.c.bk.cell 1
      have x0 := hX5.cell 0
      have x1 := hX5.cell 1
      have x2 := hX5.cell 2
      clear m4 m5 k4 k5 hX4 hX5 hT1
      go_wp2_with (rw [HW5.out]; clear HW5 e0 fe0)
      go_still_tail 10, (by kernel_rfl)
      change wpList _ _ _ _ _ W5.drew
      generalize W5.drew = w6 at hX6 m6 k6 ⊢
      clear a0 a1 x0 x1 x2
      obtain ⟨z', hz'⟩ : ∃ z', T1[b']? = some z' := ⟨_, List.getElem?_eq_getElem (by rw [hT1l]; exact hb')⟩
      have e0 := m6.c.r1.cell enLn_len hz' 1 (by omega)
      rw [show (enLn z')[1]? = some (.int .i64 z'.back) from rfl] at e0
      have fe0 := m6.c.r1.frozen (b' * 3 + 1)
      obtain ⟨m7, k7⟩ := m6.putT b' z' ⟨z'.row, (b : Int), z'.next⟩ hz' 1 (by omega) (.int .i64 (b : Int)) rfl
      obtain ⟨W7, hW7⟩ : ∃ W7, w6.setCell ⟨h1, b' * 3 + 1, none⟩ (.int .i64 (b : Int)) = W7 := ⟨_, rfl⟩
      have hsb := setBack_set T1 b' (b : Int) z' hz'
      generalize hT2 : T1.set b' ⟨z'.row, (b : Int), z'.next⟩ = T2 at m7 hsb
      rw [hW7] at m7 k7
      have HW7 := Lib.hid hW7
      clear hW7 hT2
      have hT2l : T2.length = n := m7.c.tl
      obtain ⟨q, hq⟩ : ∃ q, T2[x]? = some q := ⟨_, List.getElem?_eq_getElem (by rw [hT2l]; exact hx)⟩
      have a0 := m7.c.bk.cell 0
      have d0 := m7.c.r1.cell enLn_len hq 0 (by omega)
      have d1 := m7.c.r1.cell enLn_len hq 1 (by omega)
      have d2 := m7.c.r1.cell enLn_len hq 2 (by omega)
      rw [show (enLn q)[0]? = some (.int .i64 q.row) from rfl, Nat.add_zero] at d0
      rw [show (enLn q)[1]? = some (.int .i64 q.back) from rfl] at d1
      rw [show (enLn q)[2]? = some (.int .i64 q.next) from rfl] at d2
      have f0 := m7.c.r1.frozen (x * 3)
      have f1 := m7.c.r1.frozen (x * 3 + 1)
      have f2 := m7.c.r1.frozen (x * 3 + 2)
      obtain ⟨m8, k8⟩ := m7.setT x ⟨-1, -1, -1⟩ hx
      have HFIN : Hid (∀ W8, (((W7.setCell ⟨h1, x * 3, none⟩ (.int .i64 (-1))).setCell ⟨h1, x * 3 + 1, none⟩ (.int .i64 (-1))).setCell ⟨h1, x * 3 + 2, none⟩ (.int .i64 (-1))) = W8 → ChnRet w true g h1 h2 n R' (.returned (.bool true)) W8) := Lib.hid (by
        rintro W8 rfl
        refine HRET.out _ ?_ (Keep.trans k6 (Keep.trans k7 k8))
        have h := m8.c
        have eT : cutT T x (b : Int) (b' : Int) = T2.set x ⟨-1, -1, -1⟩ := by
          unfold cutT
          rw [hsn, hsb]
        have eE : cutE E r (b : Int) (b' : Int) = E := by
          rw [cutE_set _ _ _ _ y hy]
          rw [if_neg (by omega), if_neg (by omega)]; exact set_same _ _ _ hy
        rw [eT, eE]
        exact h)
      clear m6 m7 m8 k6 k7 k8 hy hy5 hsn hsb hX6 hq hT2l hT1l HRET
      go_wp2_with (rw [HW7.out]; clear HW7 e0 fe0)
      go_ret
      exact HFIN.out _ rfl
end Go.Proofs.Ythkjkmjcnphjgaa
