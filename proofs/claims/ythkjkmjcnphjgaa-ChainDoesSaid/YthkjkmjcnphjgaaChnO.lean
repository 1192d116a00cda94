/- chain: lay. No condition. -/
import Derived.Test.YthkjkmjcnphjgaaChnN
set_option linter.unusedVariables false
set_option linter.unusedSimpArgs false
namespace Go.Proofs.Ythkjkmjcnphjgaa
open Go.RowKit (wrap32 wrap64)
open Go.RowKit
theorem modify_set {α : Type} (L : List α) (k : Nat) (y : α) (f : α → α) (h : L[k]? = some y) : L.modify k f = L.set k (f y) := by
  have hk := (List.getElem?_eq_some_iff.1 h).1
  apply List.ext_getElem?
  intro j
  rw [List.getElem?_modify, List.getElem?_set]
  by_cases e : k = j
  · subst e; rw [h]; simp [hk]
  · simp [e]
def LayS (h1 h2 : Nat) (k : Nat) : Prop := k = h1 ∨ k = h2
/-- What lies where, with the blocks apart. -/
structure ChnM (w : World) (g h1 h2 n : Nat) (T : List Ln) (E : List En) : Prop where
  c : ChnAt w g h1 h2 n T E
  g1 : g ≠ h1
  g2 : g ≠ h2
  h12 : h1 ≠ h2
theorem ChnAt.m {w : World} {g h1 h2 n : Nat} {T : List Ln} {E : List En} (hc : ChnAt w g h1 h2 n T E) : ChnM w g h1 h2 n T E := by
  refine ⟨hc, ?_, ?_, ?_⟩
  · rintro rfl
    obtain ⟨cur, q, _⟩ := hc.r1
    have := hc.bk
    rw [this] at q
    simp at q
  · rintro rfl
    obtain ⟨cur, q, _⟩ := hc.r2
    have := hc.bk
    rw [this] at q
    simp at q
  · rintro rfl
    obtain ⟨cur, q, _⟩ := hc.r1
    obtain ⟨cur2, q2, _⟩ := hc.r2
    rw [q] at q2
    simp at q2
/-- One field of a place stored. -/
theorem ChnM.putT {w : World} {g h1 h2 n : Nat} {T : List Ln} {E : List En} (c : ChnM w g h1 h2 n T E) (k : Nat) (x x' : Ln) (hx : T[k]? = some x) (j : Nat) (hj : j < 3) (v : Value) (hv : enLn x' = (enLn x).set j v) : ChnM (w.setCell ⟨h1, k * 3 + j, none⟩ v) g h1 h2 n (T.set k x') E ∧ Keep (LayS h1 h2) w (w.setCell ⟨h1, k * 3 + j, none⟩ v) := by
  have k1 : Keep (fun q => q = h1) w (w.setCell ⟨h1, k * 3 + j, none⟩ v) := Keep.set _ _ _ _ _ rfl
  exact ⟨⟨⟨k1.bk c.c.bk c.g1, c.c.r1.put1 enLn_len hx x' j hj v hv, c.c.r2.keep k1 (fun e => c.h12 e.symm), by rw [List.length_set]; exact c.c.tl, c.c.el, c.c.n4⟩, c.g1, c.g2, c.h12⟩, Keep.set _ _ _ _ _ (.inl rfl)⟩
/-- One field of a row's ends stored. -/
theorem ChnM.putE {w : World} {g h1 h2 n : Nat} {T : List Ln} {E : List En} (c : ChnM w g h1 h2 n T E) (k : Nat) (x x' : En) (hx : E[k]? = some x) (j : Nat) (hj : j < 2) (v : Value) (hv : enEn x' = (enEn x).set j v) : ChnM (w.setCell ⟨h2, k * 2 + j, none⟩ v) g h1 h2 n T (E.set k x') ∧ Keep (LayS h1 h2) w (w.setCell ⟨h2, k * 2 + j, none⟩ v) := by
  have k1 : Keep (fun q => q = h2) w (w.setCell ⟨h2, k * 2 + j, none⟩ v) := Keep.set _ _ _ _ _ rfl
  exact ⟨⟨⟨k1.bk c.c.bk c.g2, c.c.r1.keep k1 c.h12, c.c.r2.put1 enEn_len hx x' j hj v hv, c.c.tl, by rw [List.length_set]; exact c.c.el, c.c.n4⟩, c.g1, c.g2, c.h12⟩, Keep.set _ _ _ _ _ (.inr rfl)⟩
/-- A place stored whole. -/
theorem ChnM.setT {w : World} {g h1 h2 n : Nat} {T : List Ln} {E : List En} (c : ChnM w g h1 h2 n T E) (k : Nat) (x' : Ln) (hk : k < n) : ChnM (setsFrom w h1 (k * 3) (enLn x')) g h1 h2 n (T.set k x') E ∧ Keep (LayS h1 h2) w (setsFrom w h1 (k * 3) (enLn x')) := by
  have k1 : Keep (fun q => q = h1) w (setsFrom w h1 (k * 3) (enLn x')) := Keep.trans (Keep.trans (Keep.set _ _ _ _ _ rfl) (Keep.set _ _ _ _ _ rfl)) (Keep.set _ _ _ _ _ rfl)
  exact ⟨⟨⟨k1.bk c.c.bk c.g1, c.c.r1.stored enLn_len (by rw [c.c.tl]; exact hk) x', c.c.r2.keep k1 (fun e => c.h12 e.symm), by rw [List.length_set]; exact c.c.tl, c.c.el, c.c.n4⟩, c.g1, c.g2, c.h12⟩, k1.mono (fun q e => .inl e)⟩
theorem layE_set (E : List En) (row : Nat) (back i next : Int) (y : En) (hy : E[row]? = some y) : layE E row back i next = E.set row ⟨if back = -1 then i else y.first, if next = -1 then i else y.last⟩ := modify_set _ _ _ _ hy
theorem setNext_set (T : List Ln) (b : Nat) (v : Int) (y : Ln) (hy : T[b]? = some y) : setNext T b v = T.set b ⟨y.row, y.back, v⟩ := by
  unfold setNext
  rw [if_neg (by omega), show (b : Int).toNat = b by omega]
  exact modify_set _ _ _ _ hy
theorem setBack_set (T : List Ln) (b : Nat) (v : Int) (y : Ln) (hy : T[b]? = some y) : setBack T b v = T.set b ⟨y.row, v, y.next⟩ := by
  unfold setBack
  rw [if_neg (by omega), show (b : Int).toNat = b by omega]
  exact modify_set _ _ _ _ hy
set_option maxHeartbeats 4000000 in
theorem clay_any (g h1 h2 n : Nat) (T : List Ln) (E : List En) (row i : Nat) (back next : Int) (w : World) (hc : ChnAt w g h1 h2 n T E) (hr : row < n) (hi : i < n) (hbk : back = -1 ∨ ∃ b : Nat, back = b ∧ b < n) (hnx : next = -1 ∨ ∃ b : Nat, next = b ∧ b < n) :
    Calls Try.prog 69 #[.pointer (some ⟨g, 0, none⟩), .int .i64 row, .int .i64 back, .int .i64 i, .int .i64 next] w fun e w' => e = .returned (.tuple #[]) ∧ ChnAt w' g h1 h2 n (layT T row back i next) (layE E row back i next) ∧ Keep (LayS h1 h2) w w' := by
  have hn4 := hc.n4
  obtain ⟨x, hx⟩ : ∃ x, T[i]? = some x := ⟨_, List.getElem?_eq_getElem (by rw [hc.tl]; exact hi)⟩
  obtain ⟨y, hy⟩ : ∃ y, E[row]? = some y := ⟨_, List.getElem?_eq_getElem (by rw [hc.el]; exact hr)⟩
  have a0 := hc.bk.cell 0
  have d0 := hc.r1.cell enLn_len hx 0 (by omega)
  have d1 := hc.r1.cell enLn_len hx 1 (by omega)
  have d2 := hc.r1.cell enLn_len hx 2 (by omega)
  rw [show (enLn x)[0]? = some (.int .i64 x.row) from rfl, Nat.add_zero] at d0
  rw [show (enLn x)[1]? = some (.int .i64 x.back) from rfl] at d1
  rw [show (enLn x)[2]? = some (.int .i64 x.next) from rfl] at d2
  have f0 := hc.r1.frozen (i * 3)
  have f1 := hc.r1.frozen (i * 3 + 1)
  have f2 := hc.r1.frozen (i * 3 + 2)
  obtain ⟨m1, k1⟩ := hc.m.setT i ⟨row, back, next⟩ hi
  have htl := hc.tl
  clear hc
  obtain ⟨W1, hW1⟩ : ∃ W1, setsFrom w h1 (i * 3) (enLn ⟨row, back, next⟩) = W1 := ⟨_, rfl⟩
  rw [hW1] at m1 k1
  have HW1 : Hid ((((w.setCell ⟨h1, i * 3, none⟩ (.int .i64 row)).setCell ⟨h1, i * 3 + 1, none⟩ (.int .i64 back)).setCell ⟨h1, i * 3 + 2, none⟩ (.int .i64 next)) = W1) := Lib.hid hW1
  clear hW1
  have b0 := m1.c.bk.cell 0
  have b1 := m1.c.bk.cell 1
  have e0 := m1.c.r2.cell enEn_len hy 0 (by omega)
  rw [show (enEn y)[0]? = some (.int .i64 y.first) from rfl, Nat.add_zero] at e0
  have fe0 := m1.c.r2.frozen (row * 2)
  generalize hT1 : T.set i ⟨row, back, next⟩ = T1 at m1
  have hT1l : T1.length = n := m1.c.tl
  rcases hbk with rfl | ⟨b, rfl, hb⟩
  · obtain ⟨m2, k2⟩ := m1.putE row y ⟨i, y.last⟩ hy 0 (by omega) (.int .i64 i) rfl
    rw [Nat.add_zero] at m2 k2
    have hy2 : (E.set row ⟨i, y.last⟩)[row]? = some ⟨i, y.last⟩ := by rw [List.getElem?_set_self (List.getElem?_eq_some_iff.1 hy).1]
    obtain ⟨W2, hW2⟩ : ∃ W2, W1.setCell ⟨h2, row * 2, none⟩ (.int .i64 i) = W2 := ⟨_, rfl⟩
    rw [hW2] at m2 k2
    have HW2 := Lib.hid hW2
    clear hW2
    have p0 := m2.c.bk.cell 0
    have p1 := m2.c.bk.cell 1
    rcases hnx with rfl | ⟨b', rfl, hb'⟩
    · have q1 := m2.c.r2.cell enEn_len hy2 1 (by omega)
      rw [show (enEn ⟨(i : Int), y.last⟩)[1]? = some (.int .i64 y.last) from rfl] at q1
      have fq1 := m2.c.r2.frozen (row * 2 + 1)
      obtain ⟨m3, k3⟩ := m2.putE row _ ⟨i, i⟩ hy2 1 (by omega) (.int .i64 i) rfl
      have HFIN : Hid (ChnAt (W2.setCell ⟨h2, row * 2 + 1, none⟩ (.int .i64 i)) g h1 h2 n (layT T row (-1) i (-1)) (layE E row (-1) i (-1)) ∧ Keep (LayS h1 h2) w (W2.setCell ⟨h2, row * 2 + 1, none⟩ (.int .i64 i))) := Lib.hid (by
        refine ⟨?_, Keep.trans k1 (Keep.trans k2 k3)⟩
        have := m3.c
        rw [List.set_set, ← hT1] at this
        rw [layE_set _ _ _ _ _ _ hy]
        exact this)
      clear m1 m2 m3 k1 k2 k3 hx hy hy2 hT1 hT1l
      go_enter Try.func69, Try.ntmps69
      go_wp2_with (first
        | (rw [HW1.out]; clear HW1 a0 d0 d1 d2 f0 f1 f2)
        | (rw [HW2.out]; clear HW2 b0 b1 e0 fe0))
      go_end0
      exact ⟨rfl, HFIN.out.1, HFIN.out.2⟩
    · obtain ⟨z, hz⟩ : ∃ z, T1[b']? = some z := ⟨_, List.getElem?_eq_getElem (by rw [hT1l]; exact hb')⟩
      have q1 := m2.c.r1.cell enLn_len hz 1 (by omega)
      rw [show (enLn z)[1]? = some (.int .i64 z.back) from rfl] at q1
      have fq1 := m2.c.r1.frozen (b' * 3 + 1)
      obtain ⟨m3, k3⟩ := m2.putT b' z ⟨z.row, i, z.next⟩ hz 1 (by omega) (.int .i64 i) rfl
      have hne : ((b' : Int) == -1) = false := beq_eq_false_iff_ne.2 (by omega)
      have HFIN : Hid (ChnAt (W2.setCell ⟨h1, b' * 3 + 1, none⟩ (.int .i64 i)) g h1 h2 n (layT T row (-1) i b') (layE E row (-1) i b') ∧ Keep (LayS h1 h2) w (W2.setCell ⟨h1, b' * 3 + 1, none⟩ (.int .i64 i))) := Lib.hid (by
        refine ⟨?_, Keep.trans k1 (Keep.trans k2 k3)⟩
        have h := m3.c
        rw [layE_set _ _ _ _ _ _ hy, if_pos rfl, if_neg (by omega)]
        have e : layT T row (-1) i b' = T1.set b' ⟨z.row, i, z.next⟩ := by
          unfold layT
          rw [show (i : Int).toNat = i by omega, hT1, show setNext T1 (-1) i = T1 from if_pos rfl]
          exact setBack_set _ _ _ _ hz
        rw [e]
        exact h)
      clear m1 m2 m3 k1 k2 k3 hx hy hy2 hT1 hT1l hz
      go_enter Try.func69, Try.ntmps69
      go_wp2_with (first
        | (rw [HW1.out]; clear HW1 a0 d0 d1 d2 f0 f1 f2)
        | (rw [HW2.out]; clear HW2 b0 b1 e0 fe0))
      go_end0
      exact ⟨rfl, HFIN.out.1, HFIN.out.2⟩
  · obtain ⟨z, hz⟩ : ∃ z, T1[b]? = some z := ⟨_, List.getElem?_eq_getElem (by rw [hT1l]; exact hb)⟩
    have s2 := m1.c.r1.cell enLn_len hz 2 (by omega)
    rw [show (enLn z)[2]? = some (.int .i64 z.next) from rfl] at s2
    have fs2 := m1.c.r1.frozen (b * 3 + 2)
    have hne0 : ((b : Int) == -1) = false := beq_eq_false_iff_ne.2 (by omega)
    obtain ⟨m2, k2⟩ := m1.putT b z ⟨z.row, z.back, i⟩ hz 2 (by omega) (.int .i64 i) rfl
    obtain ⟨W2, hW2⟩ : ∃ W2, W1.setCell ⟨h1, b * 3 + 2, none⟩ (.int .i64 i) = W2 := ⟨_, rfl⟩
    rw [hW2] at m2 k2
    have HW2 := Lib.hid hW2
    clear hW2
    have p0 := m2.c.bk.cell 0
    have p1 := m2.c.bk.cell 1
    have hsn := setNext_set T1 b (i : Int) z hz
    generalize hT2 : T1.set b ⟨z.row, z.back, i⟩ = T2 at m2 hsn
    have hT2l : T2.length = n := m2.c.tl
    rcases hnx with rfl | ⟨b', rfl, hb'⟩
    · have q1 := m2.c.r2.cell enEn_len hy 1 (by omega)
      rw [show (enEn y)[1]? = some (.int .i64 y.last) from rfl] at q1
      have fq1 := m2.c.r2.frozen (row * 2 + 1)
      obtain ⟨m3, k3⟩ := m2.putE row y ⟨y.first, i⟩ hy 1 (by omega) (.int .i64 i) rfl
      have HFIN : Hid (ChnAt (W2.setCell ⟨h2, row * 2 + 1, none⟩ (.int .i64 i)) g h1 h2 n (layT T row b i (-1)) (layE E row b i (-1)) ∧ Keep (LayS h1 h2) w (W2.setCell ⟨h2, row * 2 + 1, none⟩ (.int .i64 i))) := Lib.hid (by
        refine ⟨?_, Keep.trans k1 (Keep.trans k2 k3)⟩
        have h := m3.c
        rw [layE_set _ _ _ _ _ _ hy, if_pos rfl, if_neg (by omega)]
        have e : layT T row b i (-1) = T2 := by
          unfold layT
          rw [show (i : Int).toNat = i by omega, hT1, hsn]
          exact if_pos rfl
        rw [e]
        exact h)
      clear m1 m2 m3 k1 k2 k3 hx hy hT1 hT1l hz hT2 hT2l hsn
      go_enter Try.func69, Try.ntmps69
      go_wp2_with (first
        | (rw [HW1.out]; clear HW1 a0 d0 d1 d2 f0 f1 f2)
        | (rw [HW2.out]; clear HW2 b0 b1 e0 fe0 s2 fs2))
      go_end0
      exact ⟨rfl, HFIN.out.1, HFIN.out.2⟩
    · obtain ⟨z', hz'⟩ : ∃ z', T2[b']? = some z' := ⟨_, List.getElem?_eq_getElem (by rw [hT2l]; exact hb')⟩
      have q1 := m2.c.r1.cell enLn_len hz' 1 (by omega)
      rw [show (enLn z')[1]? = some (.int .i64 z'.back) from rfl] at q1
      have fq1 := m2.c.r1.frozen (b' * 3 + 1)
      obtain ⟨m3, k3⟩ := m2.putT b' z' ⟨z'.row, i, z'.next⟩ hz' 1 (by omega) (.int .i64 i) rfl
      have hne : ((b' : Int) == -1) = false := beq_eq_false_iff_ne.2 (by omega)
      have HFIN : Hid (ChnAt (W2.setCell ⟨h1, b' * 3 + 1, none⟩ (.int .i64 i)) g h1 h2 n (layT T row b i b') (layE E row b i b') ∧ Keep (LayS h1 h2) w (W2.setCell ⟨h1, b' * 3 + 1, none⟩ (.int .i64 i))) := Lib.hid (by
        refine ⟨?_, Keep.trans k1 (Keep.trans k2 k3)⟩
        have h := m3.c
        have eE : layE E row b i b' = E := by
          rw [layE_set _ _ _ _ _ _ hy, if_neg (by omega), if_neg (by omega)]
          apply List.ext_getElem?
          intro j
          rw [List.getElem?_set]
          split
          · rename_i e
            subst e
            rw [if_pos (List.getElem?_eq_some_iff.1 hy).1, hy]
          · rfl
        have e : layT T row b i b' = T2.set b' ⟨z'.row, i, z'.next⟩ := by
          unfold layT
          rw [show (i : Int).toNat = i by omega, hT1, hsn]
          exact setBack_set _ _ _ _ hz'
        rw [e, eE]
        exact h)
      clear m1 m2 m3 k1 k2 k3 hx hy hT1 hT1l hz hT2 hT2l hsn hz'
      go_enter Try.func69, Try.ntmps69
      go_wp2_with (first
        | (rw [HW1.out]; clear HW1 a0 d0 d1 d2 f0 f1 f2)
        | (rw [HW2.out]; clear HW2 b0 b1 e0 fe0 s2 fs2))
      go_end0
      exact ⟨rfl, HFIN.out.1, HFIN.out.2⟩
end Go.Proofs.Ythkjkmjcnphjgaa
