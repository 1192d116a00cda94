/- The walk of LatchDoes. No condition. -/
import Derived.Test.YtgdghinconghgaaLatchY
set_option linter.unusedVariables false
set_option linter.unusedSimpArgs false
namespace Go.Proofs.Ytgdghinconghgaa
open Go.RowKit (wrap32 wrap64)
open Go.RowKit
theorem Keep.cellS {S : Nat → Prop} {w w1 : World} (k : Keep S w w1) {p : Addr} {v : Value} (h : w.cell? p = some v) (hS : ¬ S p.block) : w1.cell? p = some v := (World.cell?_of_block (k.block p.block (World.block_lt_of_cell? w p h) hS)).trans h
theorem below_drew (w : World) : Below w.heap.size w w.drew := (Keep.drew w (fun _ => False)).below (Nat.le_refl _) (fun _ h => h.elim)
/-- Who owns nothing is nobody. -/
def okZ (L : List Ow) : Prop := ∀ (k : Nat) (x : Ow), L[k]? = some x → x.is = false → x.who = 0
theorem okZ_set (L : List Ow) (k : Nat) (x : Ow) (h : okZ L) (hx : x.is = false → x.who = 0) : okZ (L.set k x) := by
  intro j y hj hy
  by_cases e : j = k
  · subst e
    by_cases hl : j < L.length
    · rw [List.getElem?_set_self hl] at hj
      simp at hj; subst hj; exact hx hy
    · rw [List.getElem?_eq_none (by simp; omega)] at hj; cases hj
  · rw [List.getElem?_set_ne (fun q => e q.symm)] at hj
    exact h j y hj hy
theorem okZ_tak (L : List Ow) (who i : Int) (h : okZ L) : okZ (takL L who i) := by
  unfold takL
  split
  · exact okZ_set L _ _ h (fun e => by cases e)
  · exact h
theorem okZ_giv (L : List Ow) (who i : Int) (h : okZ L) : okZ (givL L who i) := by
  unfold givL
  split
  · exact okZ_set L _ _ h (fun _ => rfl)
  · exact h
theorem ok_new (n : Nat) : okO (List.replicate n ⟨0, false⟩) ∧ okZ (List.replicate n ⟨0, false⟩) := by
  constructor
  · intro k x hx hi
    have := List.mem_of_getElem? hx
    have := List.eq_of_mem_replicate this
    subst this; cases hi
  · intro k x hx hi
    have := List.mem_of_getElem? hx
    have := List.eq_of_mem_replicate this
    subst this; rfl
set_option maxRecDepth 100000 in
set_option maxHeartbeats 8000000 in
theorem ldoes_any (n : Int) (a : Option Addr) (len cap : Nat) (css : List (List Value)) (w : World) (hl : FlatRow w ksD a len cap css) :
    Calls Try.prog 10 #[.int .i64 n, .slice a len cap] w fun e w' => e = .returned (.bool true) ∧ Below w.heap.size w w' := by
  have hlc := hl.2.1
  have hcm : cap ≤ 9223372036854775807 := hl.2.2.1
  by_cases h1 : 40 < len
  · go_enter Try.func10, Try.ntmps10
    go_wp2_with fail
    refine (awake09 _).mono ?_
    rintro e w1 ⟨rfl, hb1⟩
    go_wp2
    go_ret
    exact ⟨rfl, hb1⟩
  go_enter Try.func10, Try.ntmps10
  go_wp2_with fail
  refine (awake09 _).mono ?_
  rintro e w1 ⟨rfl, hb1⟩
  go_wp2_with fail
  refine (lnew_any _ _).mono ?_
  rintro e w2 ⟨g, h, rfl, hB, hg, hh, bel⟩
  have hb2 := bl_then hb1 (Nat.le_refl _) bel
  have hs1 := hb1.size
  have hh0 : w.heap.size ≤ h := by omega
  have hg0 : w.heap.size ≤ g := by omega
  clear bel hb1 hg hh hs1
  have hgl := hB.lt.1
  have hhl := hB.lt.2
  go_wp2_with fail
  refine (rlnew_any _ _).mono ?_
  rintro e w3 ⟨gx, hx, cx, rfl, hR, hgx, hhx, bel⟩
  have hb3 := bl_then hb2 (Nat.le_refl _) bel
  replace hB := hB.below bel
  have hs2 := hb2.size
  have hnr := nL_range n
  have hlr : (List.replicate (nL n) (⟨0, false⟩ : Ow)).length = nL n := List.length_replicate
  obtain ⟨ho0, hz0⟩ := ok_new (nL n)
  generalize List.replicate (nL n) (⟨0, false⟩ : Ow) = L0 at hB hR hlr ho0 hz0
  generalize nL n = N at hlr hnr
  have n1 : g ≠ gx := by omega
  have n2 : g ≠ hx := by omega
  have n3 : h ≠ gx := by omega
  have n4 : h ≠ hx := by omega
  have hgx0 : w.heap.size ≤ gx := by omega
  have hhx0 : w.heap.size ≤ hx := by omega
  clear bel hb2 hgx hhx hs2 hgl hhl
  go_wp2_with fail
  go_loopw [26] (fun c wr => ∃ (k : Nat) (L : List Ow), k ≤ len ∧ c = .int .i64 k ∧ LSet wr g h L ∧ RSet wr gx hx cx L ∧ Hid (okO L) ∧ Hid (okZ L) ∧ L.length = N ∧ Below w.heap.size w wr) (fun c _ => len - (intOf c).toNat)
  case atStart => exact ⟨0, L0, by omega, rfl, hB, hR, Lib.hid ho0, Lib.hid hz0, hlr, hb3⟩
  case round =>
    clear hB hR hb3 hlr ho0 hz0
    obtain ⟨k, L, hk, rfl, hB, hR, ho, hz, hLN, HB⟩ := hrel
    by_cases hlt : k < len
    · obtain ⟨b, off, d, rfl, d0, d1, d2⟩ := deed_at (hl.below HB) hlt
      clear hl
      have hBa : LSet (wr.alloc (.cells #[.int .i64 d.kind, .int .i64 d.who, .int .i64 d.i] 81)) g h L := hB.below ((Below.refl _ _).alloc (Nat.le_refl _) _)
      have hRa : RSet (wr.alloc (.cells #[.int .i64 d.kind, .int .i64 d.who, .int .i64 d.i] 81)) gx hx cx L := hR.below ((Below.refl _ _).alloc (Nat.le_refl _) _)
      have HBa : Below w.heap.size w (wr.alloc (.cells #[.int .i64 d.kind, .int .i64 d.who, .int .i64 d.i] 81)) := HB.alloc HB.size _
      have hD : Bk (wr.alloc (.cells #[.int .i64 d.kind, .int .i64 d.who, .int .i64 d.i] 81)) wr.heap.size 81 #[.int .i64 d.kind, .int .i64 d.who, .int .i64 d.i] := Bk.new _ _ _
      have hDh : wr.heap.size ≠ h := by have := hB.lt.2; omega
      have hDx : wr.heap.size ≠ hx := by have := hR.lt.2; omega
      have hL64 : L.length ≤ 64 := by omega
      clear hB hR HB
      by_cases hk0 : d.kind = 0
      · rw [hk0] at d0 hBa hRa HBa hD
        clear hk0
        go_wp2_with fail
        generalize wr.alloc (.cells #[.int .i64 0, .int .i64 d.who, .int .i64 d.i] 81) = w5 at hBa hRa HBa hD ⊢
        generalize wr.heap.size = D at hD hDh hDx ⊢
        have e1 := hD.cell 1
        have e2 := hD.cell 2
        clear d0 d1 d2
        go_region_held3 (fun w' => w'.cell? ⟨D, 1, none⟩ = some (.int .i64 d.who) ∧ w'.cell? ⟨D, 2, none⟩ = some (.int .i64 d.i))
          (first
            | exact ⟨e1, e2⟩
            | exact ⟨Keep.cellS (S := fun i => i = h) k3 e1 hDh, Keep.cellS (S := fun i => i = h) k3 e2 hDh⟩
            | exact ⟨Keep.cellS (S := fun i => i = hx) k4 e1 hDx, Keep.cellS (S := fun i => i = hx) k4 e2 hDx⟩
            | exact ⟨Keep.cellS k4 (Keep.cellS k3 e1 hDh) hDx, Keep.cellS k4 (Keep.cellS k3 e2 hDh) hDx⟩
            | exact ⟨Keep.cellS k3 (Keep.cellS k4 e1 hDx) hDh, Keep.cellS k3 (Keep.cellS k4 e2 hDx) hDh⟩)
          (first
            | (go_at_call 48; refine (ltake_any g h L d.who d.i _ (by first | exact hBa | exact Tab.keep hBa (Keep.trans (Keep.drew _ _) k4) n2 n4) hL64).mono ?_; rintro e w3 ⟨rfl, hB3, k3⟩)
            | (go_at_call 49; refine (rtake_any gx hx cx L d.who d.i _ (by first | exact hRa | exact Tab.keep hRa (Keep.trans (Keep.drew _ _) k3) (Ne.symm n3) (Ne.symm n4)) hL64 ho.out).mono ?_; rintro e w4 ⟨rfl, hR4, k4⟩))
        · have hL9 : LSet w4 g h (takL L d.who d.i) := Tab.keep hB3 k4 n2 n4
          have hR9 : RSet w4 gx hx cx (takL L d.who d.i) := hR4
          have hD9 := k4.bk ((Keep.trans (Keep.drew _ _) k3).bk hD hDh) hDx
          have hb9 : Below w.heap.size w w4 := bl_keep (bl_keep HBa (Keep.trans (Keep.drew _ _) k3) (fun i hi => by subst hi; omega)) k4 (fun i hi => by subst hi; omega)
          have ho9 := Lib.hid (okO_tak L d.who d.i ho.out)
          have hz9 := Lib.hid (okZ_tak L d.who d.i hz.out)
          have hl9 : (takL L d.who d.i).length = N := by rw [takL_len]; exact hLN
          have hc9 := hR9.cell
          obtain ⟨w9, hw9⟩ : ∃ x, x = w4 := ⟨_, rfl⟩
          rw [← hw9] at hL9 hR9 hD9 hb9 hc9 ⊢
          generalize takL L d.who d.i = L9 at hL9 hR9 ho9 hz9 hl9 hc9
          clear hw9
          clear k3 k4 hB3 hR4 hBa hRa HBa hD e1 e2
          rw [hl9] at hc9
          go_wp2_with fail
          go_loopw [10, 64] (fun f c wr2 => ∃ q : Nat, q ≤ N ∧ c = .int .i64 q ∧ f = .bool (freeTo L9 q) ∧ Below w9.heap.size w9 wr2) (fun _ c _ => N - (intOf c).toNat)
          case atStart => exact ⟨0, by omega, rfl, rfl, Below.refl _ _⟩
          case round =>
            obtain ⟨q, hq, rfl, rfl, hbr⟩ := hrel
            have hLr := hL9.below hbr
            have hRr := hR9.below hbr
            by_cases hq2 : q < N
            · have hql : q < L9.length := by omega
              have hxq : L9[q]? = some L9[q] := List.getElem?_eq_getElem hql
              have hn : freeTo L9 (q + 1) = (freeTo L9 q && !L9[q].is) := by
                unfold freeTo; rw [List.take_succ_eq_append_getElem hql, List.all_append]; simp
              have hone : oneOf L9 q = L9[q] := by unfold oneOf; rw [owAt_yes L9 q hql]; rfl
              have hcon := lowner_any g h L9 q wr hLr (by omega)
              have c0 := (rset_cell hRr q _ hxq).1
              have hox := ho9.out q _ hxq
              have hzx := hz9.out q _ hxq
              rw [hone] at hcon
              generalize L9[q] = x at hn hcon c0 hox hzx
              have HN := Lib.hid hn
              have HCON := Lib.hid hcon
              clear hn hcon hone hxq hql
              obtain ⟨xw, xi⟩ := x
              generalize freeTo L9 q = fq at HN ⊢
              cases xi with
              | true =>
                have hw0 : 0 ≤ xw := hox rfl
                have hrv : refV ⟨xw, true⟩ = xw := rfl
                rw [hrv] at c0
                clear hox hzx hrv
                cases fq with
                | true =>
                  go_wp2_with fail
                  refine HCON.out.mono ?_
                  rintro e w6 ⟨rfl, hb6⟩
                  have hbr6 := bl_then hbr (Nat.le_refl _) hb6
                  dsimp only
                  go_wp2
                  go_roundw
                  case rel => exact ⟨q + 1, by omega, by go_num, by rw [HN.out, decide_eq_false (by omega)]; rfl, hbr6⟩
                  case measure => simp [intOf]; omega
                | false =>
                  go_wp2_with fail
                  refine HCON.out.mono ?_
                  rintro e w6 ⟨rfl, hb6⟩
                  have hbr6 := bl_then hbr (Nat.le_refl _) hb6
                  dsimp only
                  go_wp2
                  go_roundw
                  case rel => exact ⟨q + 1, by omega, by go_num, by rw [HN.out]; rfl, hbr6⟩
                  case measure => simp [intOf]; omega
              | false =>
                have hw0 : xw = 0 := hzx rfl
                subst hw0
                have hrv : refV ⟨0, false⟩ = -1 := rfl
                rw [hrv] at c0
                clear hox hzx hrv
                cases fq with
                | true =>
                  go_wp2_with fail
                  refine HCON.out.mono ?_
                  rintro e w6 ⟨rfl, hb6⟩
                  have hbr6 := bl_then hbr (Nat.le_refl _) hb6
                  dsimp only
                  go_wp2
                  go_roundw
                  case rel => exact ⟨q + 1, by omega, by go_num, by rw [HN.out]; rfl, hbr6⟩
                  case measure => simp [intOf]; omega
                | false =>
                  go_wp2_with fail
                  refine HCON.out.mono ?_
                  rintro e w6 ⟨rfl, hb6⟩
                  have hbr6 := bl_then hbr (Nat.le_refl _) hb6
                  dsimp only
                  go_wp2
                  go_roundw
                  case rel => exact ⟨q + 1, by omega, by go_num, by rw [HN.out]; rfl, hbr6⟩
                  case measure => simp [intOf]; omega
            · obtain rfl : q = N := by omega
              have hall : freeTo L9 q = L9.all fun x => !x.is := by unfold freeTo; rw [List.take_of_length_le (by omega)]
              rw [hall]
              have hL9' : L9.length ≤ 64 := by omega
              have ex : wr.cell? ⟨gx, 0, none⟩ = some (.slice (some ⟨hx, 0, none⟩) q cx) := by have := hRr.cell; rw [hl9] at this; exact this
              have e1 : wr.cell? ⟨D, 1, none⟩ = some (.int .i64 d.who) := (hD9.below hbr).cell 1
              have HB9 := Lib.hid hb9
              have hbrH := Lib.hid hbr
              have HL9 := Lib.hid hl9
              clear hb9 hbr hc9 hL9 hR9 hD9 hl9 hall
              go_wp2_with fail
              replace hLr : LSet wr.drew g h L9 := hLr
              replace hRr : RSet wr.drew gx hx cx L9 := hRr
              replace e1 : wr.drew.cell? ⟨D, 1, none⟩ = some (.int .i64 d.who) := e1
              replace ex : wr.drew.cell? ⟨gx, 0, none⟩ = some (.slice (some ⟨hx, 0, none⟩) q cx) := ex
              go_region_held3 (fun w' => w'.cell? ⟨D, 1, none⟩ = some (.int .i64 d.who) ∧ w'.cell? ⟨gx, 0, none⟩ = some (.slice (some ⟨hx, 0, none⟩) q cx))
                (first
              | exact ⟨e1, ex⟩
              | exact ⟨Keep.cellS (Keep.of_below hb5 (fun _ => False)) (e1) (fun h => h), Keep.cellS (Keep.of_below hb5 (fun _ => False)) (ex) (fun h => h)⟩
              | exact ⟨Keep.cellS (Keep.of_below hb6 (fun _ => False)) (e1) (fun h => h), Keep.cellS (Keep.of_below hb6 (fun _ => False)) (ex) (fun h => h)⟩
              | exact ⟨Keep.cellS (Keep.of_below hb6 (fun _ => False)) (Keep.cellS (Keep.of_below hb5 (fun _ => False)) (e1) (fun h => h)) (fun h => h), Keep.cellS (Keep.of_below hb6 (fun _ => False)) (Keep.cellS (Keep.of_below hb5 (fun _ => False)) (ex) (fun h => h)) (fun h => h)⟩
              | exact ⟨Keep.cellS (Keep.of_below hb5 (fun _ => False)) (Keep.cellS (Keep.of_below hb6 (fun _ => False)) (e1) (fun h => h)) (fun h => h), Keep.cellS (Keep.of_below hb5 (fun _ => False)) (Keep.cellS (Keep.of_below hb6 (fun _ => False)) (ex) (fun h => h)) (fun h => h)⟩
              | exact ⟨Keep.cellS (Keep.of_below hb7 (fun _ => False)) (Keep.cellS (Keep.of_below hb6 (fun _ => False)) (Keep.cellS (Keep.of_below hb5 (fun _ => False)) (e1) (fun h => h)) (fun h => h)) (fun h => h), Keep.cellS (Keep.of_below hb7 (fun _ => False)) (Keep.cellS (Keep.of_below hb6 (fun _ => False)) (Keep.cellS (Keep.of_below hb5 (fun _ => False)) (ex) (fun h => h)) (fun h => h)) (fun h => h)⟩
              | exact ⟨Keep.cellS (Keep.of_below hb7 (fun _ => False)) (Keep.cellS (Keep.of_below hb5 (fun _ => False)) (Keep.cellS (Keep.of_below hb6 (fun _ => False)) (e1) (fun h => h)) (fun h => h)) (fun h => h), Keep.cellS (Keep.of_below hb7 (fun _ => False)) (Keep.cellS (Keep.of_below hb5 (fun _ => False)) (Keep.cellS (Keep.of_below hb6 (fun _ => False)) (ex) (fun h => h)) (fun h => h)) (fun h => h)⟩)
                (first
                  | (go_at_call 54; refine (lheld_any g h L9 d.who _ (by first | exact hLr | exact LSet.below (hLr) hb5 | exact LSet.below (hLr) hb6 | exact LSet.below (LSet.below (hLr) hb5) hb6 | exact LSet.below (LSet.below (hLr) hb6) hb5 | exact LSet.below (LSet.below (LSet.below (hLr) hb5) hb6) hb7 | exact LSet.below (LSet.below (LSet.below (hLr) hb6) hb5) hb7) hL9').mono ?_; rintro e w5 ⟨v5, rfl, hown5, hb5⟩; obtain ⟨A5, c5, rfl, hI5⟩ := own_ints hown5)
                  | (go_at_call 55; refine (rheld_any gx hx cx L9 d.who _ (by first | exact hRr | exact RSet.below hRr hb5 | exact RSet.below hRr hb6) hL9' ho9.out).mono ?_; rintro e w6 ⟨v6, rfl, hown6, hb6⟩; obtain ⟨A6, c6, rfl, hI6⟩ := own_ints hown6)
                  | (go_at_call 53; refine (same_any _ _ _ _ _ _ _ _ _ (by first | exact hI5 | exact hI5.below hb6) (by first | exact hI6 | exact hI6.below hb5)).mono ?_; rintro e w7 ⟨rfl, hb7⟩; rw [sameB_refl])
                  | (go_at_call 56; refine (lfree_any g h L9 _ (by first | exact hLr | exact LSet.below (hLr) hb5 | exact LSet.below (hLr) hb6 | exact LSet.below (LSet.below (hLr) hb5) hb6 | exact LSet.below (LSet.below (hLr) hb6) hb5 | exact LSet.below (LSet.below (LSet.below (hLr) hb5) hb6) hb7 | exact LSet.below (LSet.below (LSet.below (hLr) hb6) hb5) hb7) hL9').mono ?_; rintro e _ ⟨rfl, rfl⟩)
                  | (go_at_call 57; refine (llen_yes g _ _ _ _ (by first | exact (hLr).cell | exact (LSet.below (hLr) hb5).cell | exact (LSet.below (hLr) hb6).cell | exact (LSet.below (LSet.below (hLr) hb5) hb6).cell | exact (LSet.below (LSet.below (hLr) hb6) hb5).cell | exact (LSet.below (LSet.below (LSet.below (hLr) hb5) hb6) hb7).cell | exact (LSet.below (LSet.below (LSet.below (hLr) hb6) hb5) hb7).cell)).mono ?_; rintro e _ ⟨rfl, rfl⟩; rw [HL9.out]))
              have hfin := bl_then (bl_then (bl_then (bl_then (bl_then HB9.out (Nat.le_refl _) hbrH.out) (Nat.le_refl _) (below_drew _)) (Nat.le_refl _) hb5) (Nat.le_refl _) hb6) (Nat.le_refl _) hb7
              have hLf := ((hLr.below hb5).below hb6).below hb7
              have hRf := ((hRr.below hb5).below hb6).below hb7
              clear hb5 hb6 hb7 hown5 hown6 hI5 hI6 hLr hRr e1 ex
              go_wp2
              go_roundw
              case rel => exact ⟨k + 1, L9, by omega, by go_num, hLf, hRf, ho9, hz9, HL9.out, hfin⟩
              case measure => simp [intOf]; omega
      · have hk1 : (d.kind == 0) = false := beq_eq_false_iff_ne.2 hk0
        clear hk0
        go_wp2_with fail
        generalize wr.alloc (.cells #[.int .i64 d.kind, .int .i64 d.who, .int .i64 d.i] 81) = w5 at hBa hRa HBa hD ⊢
        generalize wr.heap.size = D at hD hDh hDx ⊢
        have e1 := hD.cell 1
        have e2 := hD.cell 2
        clear d0 d1 d2
        go_region_held3 (fun w' => w'.cell? ⟨D, 1, none⟩ = some (.int .i64 d.who) ∧ w'.cell? ⟨D, 2, none⟩ = some (.int .i64 d.i))
          (first
            | exact ⟨e1, e2⟩
            | exact ⟨Keep.cellS (S := fun i => i = h) k3 e1 hDh, Keep.cellS (S := fun i => i = h) k3 e2 hDh⟩
            | exact ⟨Keep.cellS (S := fun i => i = hx) k4 e1 hDx, Keep.cellS (S := fun i => i = hx) k4 e2 hDx⟩
            | exact ⟨Keep.cellS k4 (Keep.cellS k3 e1 hDh) hDx, Keep.cellS k4 (Keep.cellS k3 e2 hDh) hDx⟩
            | exact ⟨Keep.cellS k3 (Keep.cellS k4 e1 hDx) hDh, Keep.cellS k3 (Keep.cellS k4 e2 hDx) hDh⟩)
          (first
            | (go_at_call 50; refine (lgive_any g h L d.who d.i _ (by first | exact hBa | exact Tab.keep hBa (Keep.trans (Keep.drew _ _) k4) n2 n4) hL64).mono ?_; rintro e w3 ⟨rfl, hB3, k3⟩)
            | (go_at_call 51; refine (rgive_any gx hx cx L d.who d.i _ (by first | exact hRa | exact Tab.keep hRa (Keep.trans (Keep.drew _ _) k3) (Ne.symm n3) (Ne.symm n4)) hL64).mono ?_; rintro e w4 ⟨rfl, hR4, k4⟩))
        · have hL9 : LSet w4 g h (givL L d.who d.i) := Tab.keep hB3 k4 n2 n4
          have hR9 : RSet w4 gx hx cx (givL L d.who d.i) := hR4
          have hD9 := k4.bk ((Keep.trans (Keep.drew _ _) k3).bk hD hDh) hDx
          have hb9 : Below w.heap.size w w4 := bl_keep (bl_keep HBa (Keep.trans (Keep.drew _ _) k3) (fun i hi => by subst hi; omega)) k4 (fun i hi => by subst hi; omega)
          have ho9 := Lib.hid (okO_giv L d.who d.i ho.out)
          have hz9 := Lib.hid (okZ_giv L d.who d.i hz.out)
          have hl9 : (givL L d.who d.i).length = N := by rw [givL_len]; exact hLN
          have hc9 := hR9.cell
          obtain ⟨w9, hw9⟩ : ∃ x, x = w4 := ⟨_, rfl⟩
          rw [← hw9] at hL9 hR9 hD9 hb9 hc9 ⊢
          generalize givL L d.who d.i = L9 at hL9 hR9 ho9 hz9 hl9 hc9
          clear hw9
          clear k3 k4 hB3 hR4 hBa hRa HBa hD e1 e2
          rw [hl9] at hc9
          go_wp2_with fail
          go_loopw [10, 64] (fun f c wr2 => ∃ q : Nat, q ≤ N ∧ c = .int .i64 q ∧ f = .bool (freeTo L9 q) ∧ Below w9.heap.size w9 wr2) (fun _ c _ => N - (intOf c).toNat)
          case atStart => exact ⟨0, by omega, rfl, rfl, Below.refl _ _⟩
          case round =>
            obtain ⟨q, hq, rfl, rfl, hbr⟩ := hrel
            have hLr := hL9.below hbr
            have hRr := hR9.below hbr
            by_cases hq2 : q < N
            · have hql : q < L9.length := by omega
              have hxq : L9[q]? = some L9[q] := List.getElem?_eq_getElem hql
              have hn : freeTo L9 (q + 1) = (freeTo L9 q && !L9[q].is) := by
                unfold freeTo; rw [List.take_succ_eq_append_getElem hql, List.all_append]; simp
              have hone : oneOf L9 q = L9[q] := by unfold oneOf; rw [owAt_yes L9 q hql]; rfl
              have hcon := lowner_any g h L9 q wr hLr (by omega)
              have c0 := (rset_cell hRr q _ hxq).1
              have hox := ho9.out q _ hxq
              have hzx := hz9.out q _ hxq
              rw [hone] at hcon
              generalize L9[q] = x at hn hcon c0 hox hzx
              have HN := Lib.hid hn
              have HCON := Lib.hid hcon
              clear hn hcon hone hxq hql
              obtain ⟨xw, xi⟩ := x
              generalize freeTo L9 q = fq at HN ⊢
              cases xi with
              | true =>
                have hw0 : 0 ≤ xw := hox rfl
                have hrv : refV ⟨xw, true⟩ = xw := rfl
                rw [hrv] at c0
                clear hox hzx hrv
                cases fq with
                | true =>
                  go_wp2_with fail
                  refine HCON.out.mono ?_
                  rintro e w6 ⟨rfl, hb6⟩
                  have hbr6 := bl_then hbr (Nat.le_refl _) hb6
                  dsimp only
                  go_wp2
                  go_roundw
                  case rel => exact ⟨q + 1, by omega, by go_num, by rw [HN.out, decide_eq_false (by omega)]; rfl, hbr6⟩
                  case measure => simp [intOf]; omega
                | false =>
                  go_wp2_with fail
                  refine HCON.out.mono ?_
                  rintro e w6 ⟨rfl, hb6⟩
                  have hbr6 := bl_then hbr (Nat.le_refl _) hb6
                  dsimp only
                  go_wp2
                  go_roundw
                  case rel => exact ⟨q + 1, by omega, by go_num, by rw [HN.out]; rfl, hbr6⟩
                  case measure => simp [intOf]; omega
              | false =>
                have hw0 : xw = 0 := hzx rfl
                subst hw0
                have hrv : refV ⟨0, false⟩ = -1 := rfl
                rw [hrv] at c0
                clear hox hzx hrv
                cases fq with
                | true =>
                  go_wp2_with fail
                  refine HCON.out.mono ?_
                  rintro e w6 ⟨rfl, hb6⟩
                  have hbr6 := bl_then hbr (Nat.le_refl _) hb6
                  dsimp only
                  go_wp2
                  go_roundw
                  case rel => exact ⟨q + 1, by omega, by go_num, by rw [HN.out]; rfl, hbr6⟩
                  case measure => simp [intOf]; omega
                | false =>
                  go_wp2_with fail
                  refine HCON.out.mono ?_
                  rintro e w6 ⟨rfl, hb6⟩
                  have hbr6 := bl_then hbr (Nat.le_refl _) hb6
                  dsimp only
                  go_wp2
                  go_roundw
                  case rel => exact ⟨q + 1, by omega, by go_num, by rw [HN.out]; rfl, hbr6⟩
                  case measure => simp [intOf]; omega
            · obtain rfl : q = N := by omega
              have hall : freeTo L9 q = L9.all fun x => !x.is := by unfold freeTo; rw [List.take_of_length_le (by omega)]
              rw [hall]
              have hL9' : L9.length ≤ 64 := by omega
              have ex : wr.cell? ⟨gx, 0, none⟩ = some (.slice (some ⟨hx, 0, none⟩) q cx) := by have := hRr.cell; rw [hl9] at this; exact this
              have e1 : wr.cell? ⟨D, 1, none⟩ = some (.int .i64 d.who) := (hD9.below hbr).cell 1
              have HB9 := Lib.hid hb9
              have hbrH := Lib.hid hbr
              have HL9 := Lib.hid hl9
              clear hb9 hbr hc9 hL9 hR9 hD9 hl9 hall
              go_wp2_with fail
              replace hLr : LSet wr.drew g h L9 := hLr
              replace hRr : RSet wr.drew gx hx cx L9 := hRr
              replace e1 : wr.drew.cell? ⟨D, 1, none⟩ = some (.int .i64 d.who) := e1
              replace ex : wr.drew.cell? ⟨gx, 0, none⟩ = some (.slice (some ⟨hx, 0, none⟩) q cx) := ex
              go_region_held3 (fun w' => w'.cell? ⟨D, 1, none⟩ = some (.int .i64 d.who) ∧ w'.cell? ⟨gx, 0, none⟩ = some (.slice (some ⟨hx, 0, none⟩) q cx))
                (first
              | exact ⟨e1, ex⟩
              | exact ⟨Keep.cellS (Keep.of_below hb5 (fun _ => False)) (e1) (fun h => h), Keep.cellS (Keep.of_below hb5 (fun _ => False)) (ex) (fun h => h)⟩
              | exact ⟨Keep.cellS (Keep.of_below hb6 (fun _ => False)) (e1) (fun h => h), Keep.cellS (Keep.of_below hb6 (fun _ => False)) (ex) (fun h => h)⟩
              | exact ⟨Keep.cellS (Keep.of_below hb6 (fun _ => False)) (Keep.cellS (Keep.of_below hb5 (fun _ => False)) (e1) (fun h => h)) (fun h => h), Keep.cellS (Keep.of_below hb6 (fun _ => False)) (Keep.cellS (Keep.of_below hb5 (fun _ => False)) (ex) (fun h => h)) (fun h => h)⟩
              | exact ⟨Keep.cellS (Keep.of_below hb5 (fun _ => False)) (Keep.cellS (Keep.of_below hb6 (fun _ => False)) (e1) (fun h => h)) (fun h => h), Keep.cellS (Keep.of_below hb5 (fun _ => False)) (Keep.cellS (Keep.of_below hb6 (fun _ => False)) (ex) (fun h => h)) (fun h => h)⟩
              | exact ⟨Keep.cellS (Keep.of_below hb7 (fun _ => False)) (Keep.cellS (Keep.of_below hb6 (fun _ => False)) (Keep.cellS (Keep.of_below hb5 (fun _ => False)) (e1) (fun h => h)) (fun h => h)) (fun h => h), Keep.cellS (Keep.of_below hb7 (fun _ => False)) (Keep.cellS (Keep.of_below hb6 (fun _ => False)) (Keep.cellS (Keep.of_below hb5 (fun _ => False)) (ex) (fun h => h)) (fun h => h)) (fun h => h)⟩
              | exact ⟨Keep.cellS (Keep.of_below hb7 (fun _ => False)) (Keep.cellS (Keep.of_below hb5 (fun _ => False)) (Keep.cellS (Keep.of_below hb6 (fun _ => False)) (e1) (fun h => h)) (fun h => h)) (fun h => h), Keep.cellS (Keep.of_below hb7 (fun _ => False)) (Keep.cellS (Keep.of_below hb5 (fun _ => False)) (Keep.cellS (Keep.of_below hb6 (fun _ => False)) (ex) (fun h => h)) (fun h => h)) (fun h => h)⟩)
                (first
                  | (go_at_call 54; refine (lheld_any g h L9 d.who _ (by first | exact hLr | exact LSet.below (hLr) hb5 | exact LSet.below (hLr) hb6 | exact LSet.below (LSet.below (hLr) hb5) hb6 | exact LSet.below (LSet.below (hLr) hb6) hb5 | exact LSet.below (LSet.below (LSet.below (hLr) hb5) hb6) hb7 | exact LSet.below (LSet.below (LSet.below (hLr) hb6) hb5) hb7) hL9').mono ?_; rintro e w5 ⟨v5, rfl, hown5, hb5⟩; obtain ⟨A5, c5, rfl, hI5⟩ := own_ints hown5)
                  | (go_at_call 55; refine (rheld_any gx hx cx L9 d.who _ (by first | exact hRr | exact RSet.below hRr hb5 | exact RSet.below hRr hb6) hL9' ho9.out).mono ?_; rintro e w6 ⟨v6, rfl, hown6, hb6⟩; obtain ⟨A6, c6, rfl, hI6⟩ := own_ints hown6)
                  | (go_at_call 53; refine (same_any _ _ _ _ _ _ _ _ _ (by first | exact hI5 | exact hI5.below hb6) (by first | exact hI6 | exact hI6.below hb5)).mono ?_; rintro e w7 ⟨rfl, hb7⟩; rw [sameB_refl])
                  | (go_at_call 56; refine (lfree_any g h L9 _ (by first | exact hLr | exact LSet.below (hLr) hb5 | exact LSet.below (hLr) hb6 | exact LSet.below (LSet.below (hLr) hb5) hb6 | exact LSet.below (LSet.below (hLr) hb6) hb5 | exact LSet.below (LSet.below (LSet.below (hLr) hb5) hb6) hb7 | exact LSet.below (LSet.below (LSet.below (hLr) hb6) hb5) hb7) hL9').mono ?_; rintro e _ ⟨rfl, rfl⟩)
                  | (go_at_call 57; refine (llen_yes g _ _ _ _ (by first | exact (hLr).cell | exact (LSet.below (hLr) hb5).cell | exact (LSet.below (hLr) hb6).cell | exact (LSet.below (LSet.below (hLr) hb5) hb6).cell | exact (LSet.below (LSet.below (hLr) hb6) hb5).cell | exact (LSet.below (LSet.below (LSet.below (hLr) hb5) hb6) hb7).cell | exact (LSet.below (LSet.below (LSet.below (hLr) hb6) hb5) hb7).cell)).mono ?_; rintro e _ ⟨rfl, rfl⟩; rw [HL9.out]))
              have hfin := bl_then (bl_then (bl_then (bl_then (bl_then HB9.out (Nat.le_refl _) hbrH.out) (Nat.le_refl _) (below_drew _)) (Nat.le_refl _) hb5) (Nat.le_refl _) hb6) (Nat.le_refl _) hb7
              have hLf := ((hLr.below hb5).below hb6).below hb7
              have hRf := ((hRr.below hb5).below hb6).below hb7
              clear hb5 hb6 hb7 hown5 hown6 hI5 hI6 hLr hRr e1 ex
              go_wp2
              go_roundw
              case rel => exact ⟨k + 1, L9, by omega, by go_num, hLf, hRf, ho9, hz9, HL9.out, hfin⟩
              case measure => simp [intOf]; omega
    · obtain rfl : k = len := by omega
      go_wp2
      go_ret
      exact ⟨rfl, HB⟩
end Go.Proofs.Ytgdghinconghgaa
