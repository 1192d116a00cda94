/- Nodes: Parse, by the reference. No condition. -/
import Derived.Test.YtlbjlopljlblpaaDoorPthP
set_option linter.unusedVariables false
set_option linter.unusedSimpArgs false
namespace Go.Proofs.YtlbjlopljlblpaaDoor
open Go.RowKit (wrap32 wrap64)
open Go.RowKit Go.Shelf
theorem scanR_dig (c : UInt8) (r : List UInt8) (n : Nat) (acc : List Nat) (h46 : c.toNat ≠ 46) (h : isDig c = true) (hn : n ≤ 99) : scanR (c :: r) n acc = scanR r (n * 10 + (c.toNat - 48)) acc := by
  rw [scanR, if_neg h46, if_neg (by rw [h]; simp; omega)]
theorem scanR_bad (c : UInt8) (r : List UInt8) (n : Nat) (acc : List Nat) (h46 : c.toNat ≠ 46) (h : isDig c = false ∨ 99 < n) : scanR (c :: r) n acc = none := by
  rw [scanR, if_neg h46, if_pos h]
theorem scanR_full (l : List UInt8) (n : Nat) (acc : List Nat) (h : l = [] ∨ ∃ c r, l = c :: r ∧ c.toNat = 46) (h4 : acc.length = 4) : scanR l n acc = none := by
  rcases h with rfl | ⟨c, r, rfl, h46⟩
  · rw [scanR, if_pos h4]
  · rw [scanR, if_pos h46, if_pos h4]
theorem scanR_dot (c : UInt8) (r : List UInt8) (n : Nat) (acc : List Nat) (h46 : c.toNat = 46) (h4 : acc.length ≠ 4) : scanR (c :: r) n acc = scanR r 0 (acc ++ [n]) := by
  rw [scanR, if_pos h46, if_neg h4]
theorem scanR_end (n : Nat) (acc : List Nat) (h4 : acc.length ≠ 4) : scanR [] n acc = some (acc ++ [n]) := by
  rw [scanR, if_neg h4]
def RInv (s : ByteArray) (w W : World) (i n : Nat) (acc : List Nat) : Prop :=
  n ≤ 999 ∧ acc.length ≤ 4 ∧ ((i ≤ s.size ∧ scanR s.data.toList 0 [] = scanR (s.data.toList.drop i) n acc) ∨ (i = s.size + 1 ∧ scanR s.data.toList 0 [] = some acc)) ∧ Bk W w.heap.size 24 #[.int .i64 0, .int .i64 0, .int .i64 0, .int .i64 0, .int .i64 0] ∧ Bk W (w.heap.size + 1) 24 (ptA (ptOf acc)) ∧ Below w.heap.size w W
set_option maxRecDepth 100000 in
set_option maxHeartbeats 1000000 in
theorem rparse_nil (w : World) : Calls Tryd.prog 13 #[.string ⟨#[]⟩] w fun e w' => e = .returned (parseV (rparseP [])) ∧ Below w.heap.size w w' := by
  obtain ⟨hO, hP, hQ⟩ := two_box zeroP zeroP w
  dsimp only [ptA, zeroP] at hO hP hQ
  go_enter Tryd.func13, Tryd.ntmps13
  go_wp2
  have z0 := hP.cell 0
  have z1 := hP.cell 1
  have z2 := hP.cell 2
  have z3 := hP.cell 3
  have z4 := hP.cell 4
  exact bodyPost_ret (v := .tuple #[.agg #[.int .i64 0, .int .i64 0, .int .i64 0, .int .i64 0, .int .i64 0], .int .i64 4]) (by simp [results, Tryd.results13, go_sem, z0, z1, z2, z3, z4]) rfl ⟨rfl, hO⟩
set_option maxRecDepth 100000 in
set_option maxHeartbeats 8000000 in
theorem rparse_some (s : ByteArray) (hs : s.size ≤ 140737488351232) (hne : s.data.toList ≠ []) (w : World) : Calls Tryd.prog 13 #[.string s] w fun e w' => e = .returned (parseV (rparseP s.data.toList)) ∧ Below w.heap.size w w' := by
  obtain ⟨hO, hP, hQ⟩ := two_box zeroP zeroP w
  dsimp only [ptA, zeroP] at hO hP hQ
  have HI : Hid (RInv s w ((w.alloc (.cells #[.int .i64 0, .int .i64 0, .int .i64 0, .int .i64 0, .int .i64 0] 24)).alloc (.cells #[.int .i64 0, .int .i64 0, .int .i64 0, .int .i64 0, .int .i64 0] 24)) 0 0 []) := Lib.hid ⟨by omega, by decide, .inl ⟨by omega, rfl⟩, hP, hQ, hO⟩
  clear hO hP hQ
  have hse : (s.toList == ([] : List UInt8)) = false := by rw [ByteArray.toList_eq]; simpa using hne
  have hsl : s.toList.isEmpty = false := by rw [ByteArray.toList_eq]; simpa using hne
  have HNE := Lib.hid hne
  clear hne
  go_enter Tryd.func13, Tryd.ntmps13
  go_wp2_with fail
  go_loopw [5, 6] (fun v c wr => ∃ (i n : Nat) (acc : List Nat), c = .int .i64 (i : Int) ∧ v = .int .i64 (n : Int) ∧ RInv s w wr i n acc) (fun _ c _ => s.size + 1 - natAt c)
  case atStart => exact ⟨0, 0, [], rfl, rfl, HI.out⟩
  case round =>
    clear HI hse hsl
    obtain ⟨i, n, acc, rfl, rfl, hn, hacc, hsc, hR, hP, hB⟩ := hrel
    have hl : s.data.toList.length = s.size := by rw [Array.length_toList]; rfl
    have hsm : (s.size : Int) ≤ 140737488351232 := by omega
    have t5 : IntKind.i64.wrap ((i : Int) + 1) = ((i + 1 : Nat) : Int) := by rw [IntKind.wrap_i64]; rcases hsc with ⟨h, _⟩ | ⟨h, _⟩ <;> omega
    have p4 := hP.cell 4
    have hpd : (ptA (ptOf acc))[4]? = some (.int .i64 (acc.length : Int)) := rfl
    rw [hpd] at p4
    clear hpd
    have r0 := hR.cell 0
    have r1 := hR.cell 1
    have r2 := hR.cell 2
    have r3 := hR.cell 3
    have r4 := hR.cell 4
    have f0 := hR.frozen 0
    have f1 := hR.frozen 1
    have f2 := hR.frozen 2
    have f3 := hR.frozen 3
    have f4 := hR.frozen 4
    rcases hsc with ⟨hi, hsc⟩ | ⟨hi, hsc⟩
    · have b0 : (i : Int) ≤ (s.size : Int) := by omega
      have HSC := Lib.hid hsc
      clear hsc
      have hhead : ((i : Int) == (s.size : Int)) = true ∧ s.data.toList.drop i = [] ∨ (((i : Int) == (s.size : Int)) = false ∧ ∃ c, i < s.size ∧ (∀ W, (Instr.index 9 (.string s) (.int .i64 (i : Int))).run Tryd.prog W = .ok (.int .u8 (c.toNat : Int)) W) ∧ s.data.toList.drop i = c :: s.data.toList.drop (i + 1)) := by
        by_cases hlt : i < s.data.toList.length
        · refine .inr ⟨beq_eq_false_iff_ne.2 (by omega), s.data.toList[i], by omega, fun W => ?_, List.drop_eq_getElem_cons hlt⟩
          rw [run_index_string W _ s _ _ Tryd.underlying9, dif_pos ⟨by omega, by omega⟩]
          have h2 : s[(i : Int).toNat]'(by omega) = s.data.toList[i] := by
            simp only [Int.toNat_natCast]
            rw [Lib.getD_at s i (by omega), List.getD, List.getElem?_eq_getElem hlt]; rfl
          rw [h2]
        · exact .inl ⟨by simp only [beq_iff_eq]; omega, List.drop_eq_nil_iff.2 (by omega)⟩
      by_cases hsep : s.data.toList.drop i = [] ∨ ∃ c r, s.data.toList.drop i = c :: r ∧ c.toNat = 46
      · -- a number ends here
        have hway : ((i : Int) == (s.size : Int)) = true ∨ (((i : Int) == (s.size : Int)) = false ∧ (∀ W, (Instr.index 9 (.string s) (.int .i64 (i : Int))).run Tryd.prog W = .ok (.int .u8 46) W)) := by
          rcases hhead with ⟨h, _⟩ | ⟨h, c, h1, h2, h3⟩
          · exact .inl h
          · rcases hsep with hh | ⟨c', r, hh, h46⟩
            · rw [h3] at hh; cases hh
            · rw [h3] at hh
              obtain rfl : c = c' := by injection hh
              rw [h46] at h2
              exact .inr ⟨h, h2⟩
        by_cases h4 : acc.length = 4
        · have hst := scanR_full _ n acc hsep h4
          have hres : rparseP s.data.toList = none := by unfold rparseP; rw [if_neg HNE.out, HSC.out, hst]; rfl
          have HRES := Lib.hid hres
          have e4 : ((acc.length : Int) == 4) = true := by simp only [beq_iff_eq]; omega
          have HFIN : Hid (∀ (a' : Act), a'.tmps.getD 3 undef = .int .i64 4 → a'.tmps.getD 2 undef = .pointer (some ⟨w.heap.size, 0, none⟩) → a'.defers = [] → bodyPost Tryd.prog Tryd.f13 (fun e w' => e = .returned (parseV (rparseP s.data.toList)) ∧ Below w.heap.size w w') Exit.ret a' (((((wr.setCell ⟨w.heap.size, 0, none⟩ (.int .i64 0)).setCell ⟨w.heap.size, 1, none⟩ (.int .i64 0)).setCell ⟨w.heap.size, 2, none⟩ (.int .i64 0)).setCell ⟨w.heap.size, 3, none⟩ (.int .i64 0)).setCell ⟨w.heap.size, 4, none⟩ (.int .i64 0))) := Lib.hid (fun a' h3 h2 hd => by
            obtain ⟨z0, z1, z2, z3, z4⟩ := five_sets hR (.int .i64 0) (.int .i64 0) (.int .i64 0) (.int .i64 0) (.int .i64 0)
            obtain ⟨T, DF⟩ := a'
            dsimp only at h3 h2 hd
            subst hd
            exact bodyPost_ret (v := .tuple #[.agg #[.int .i64 0, .int .i64 0, .int .i64 0, .int .i64 0, .int .i64 0], .int .i64 4]) (by simp only [Array.getD_eq_getD_getElem?] at h2 h3; simp [results, Tryd.results13, go_sem, h2, h3, z0, z1, z2, z3, z4]) rfl ⟨by rw [HRES.out]; rfl, five_below hB (Nat.le_refl _) _ _ _ _ _⟩)
          clear hst hres hsep hhead hl hs hi hP hR hB h4 hn hacc
          rcases hway with w1 | ⟨w1, w2⟩
          all_goals
            go_wp2
            exact HFIN.out _ rfl rfl rfl
        · have h4' : acc.length < 4 := by omega
          obtain ⟨a, ar, b, br⟩ := two_stores hP hR (by omega) acc.length (.int .i64 (n : Int)) (.int .i64 ((acc.length : Int) + 1)) rfl (ptOf_put acc n h4')
          have hpk := hP.cell acc.length
          have g1 := hP.frozen acc.length
          have a4 := a.cell 4
          rw [ptOf_dep4 acc h4'] at a4
          have g4 := a.frozen 4
          rw [ptOf_old acc h4'] at hpk
          have kk : (acc.length : Int) < 4 := by omega
          have t7 : IntKind.i64.wrap ((acc.length : Int) + 1) = (acc.length : Int) + 1 := by rw [IntKind.wrap_i64]; omega
          have e2 : ((acc.length : Int) == 4) = false := beq_eq_false_iff_ne.2 (by omega)
          have hB2 := two_below hB (show w.heap.size ≤ w.heap.size + 1 by omega) acc.length (.int .i64 (n : Int)) (.int .i64 ((acc.length : Int) + 1))
          have hlen1 : (acc ++ [n]).length ≤ 4 := by simp; omega
          have HINV : Hid (RInv s w ((wr.setCell ⟨w.heap.size + 1, acc.length, none⟩ (.int .i64 (n : Int))).setCell ⟨w.heap.size + 1, 4, none⟩ (.int .i64 ((acc.length : Int) + 1))) (i + 1) 0 (acc ++ [n])) := by
            refine Lib.hid ⟨by omega, hlen1, ?_, br, b, hB2⟩
            rcases hhead with ⟨h, hnil⟩ | ⟨h, c, h1, h2, h3⟩
            · refine .inr ⟨by simp only [beq_iff_eq] at h; omega, ?_⟩
              have hs2 := HSC.out
              rw [hnil] at hs2
              exact hs2.trans (scanR_end n acc h4)
            · refine .inl ⟨h1, ?_⟩
              have hs2 := HSC.out
              rcases hsep with hh | ⟨c', r, hh, h46⟩
              · rw [h3] at hh; cases hh
              · rw [h3] at hh hs2
                obtain rfl : c = c' := by injection hh
                exact hs2.trans (scanR_dot c _ n acc h46 h4)
          clear hsep hhead hl hs hi hP hR hB h4 h4' hn hacc a ar b br hB2 hlen1 r0 r1 r2 r3 r4 f0 f1 f2 f3 f4
          generalize acc.length = kx at *
          rcases hway with w1 | ⟨w1, w2⟩
          all_goals
            go_wp2
            go_roundw
            case rel => exact ⟨i + 1, 0, acc ++ [n], rfl, rfl, HINV.out⟩
            case measure => simp [natAt, intOf]; omega
      · -- a digit, or what is none
        rcases hhead with ⟨_, hnil⟩ | ⟨w1, c, h1, h2, h3⟩
        · exact absurd (.inl hnil) hsep
        have h46 : c.toNat ≠ 46 := fun h => hsep (.inr ⟨c, _, h3, h⟩)
        have e46 : ((c.toNat : Int) == 46) = false := beq_eq_false_iff_ne.2 (by omega)
        by_cases hok : isDig c = true ∧ n ≤ 99
        · obtain ⟨hd, hn9⟩ := hok
          have hst := scanR_dig c (s.data.toList.drop (i + 1)) n acc h46 hd hn9
          rw [← h3] at hst
          have hd' := hd
          unfold isDig at hd'
          simp only [Bool.and_eq_true, decide_eq_true_eq] at hd'
          obtain ⟨hd1, hd2⟩ := hd'
          have b2 : ¬ (c.toNat : Int) < 48 := by omega
          have b3 : ¬ 57 < (c.toNat : Int) := by omega
          have b4 : ¬ 99 < (n : Int) := by omega
          have t1 : IntKind.i64.wrap ((n : Int) * 10) = (n : Int) * 10 := by rw [IntKind.wrap_i64]; omega
          have t2 : IntKind.u8.wrap ((c.toNat : Int) - 48) = (c.toNat : Int) - 48 := by rw [IntKind.wrap_u8]; omega
          have t3 : IntKind.i64.wrap ((c.toNat : Int) - 48) = (c.toNat : Int) - 48 := by rw [IntKind.wrap_i64]; omega
          have t4 : IntKind.i64.wrap ((n : Int) * 10 + ((c.toNat : Int) - 48)) = ((n * 10 + (c.toNat - 48) : Nat) : Int) := by rw [IntKind.wrap_i64]; omega
          have HINV : Hid (RInv s w wr (i + 1) (n * 10 + (c.toNat - 48)) acc) := Lib.hid ⟨by omega, hacc, .inl ⟨h1, HSC.out.trans hst⟩, hR, hP, hB⟩
          clear hsep h3 hst hd hl hs hi hP hR hB hn hacc h46 r0 r1 r2 r3 r4 f0 f1 f2 f3 f4
          generalize (n * 10 + (c.toNat - 48) : Nat) = nn at t4 HINV
          go_wp2
          go_roundw
          case rel => exact ⟨i + 1, nn, acc, rfl, rfl, HINV.out⟩
          case measure => simp [natAt, intOf]; omega
        · have hbad : isDig c = false ∨ 99 < n := by
            cases hd : isDig c with
            | false => exact .inl rfl
            | true => exact .inr (Nat.lt_of_not_le (fun h => hok ⟨hd, h⟩))
          have hst := scanR_bad c (s.data.toList.drop (i + 1)) n acc h46 hbad
          rw [← h3] at hst
          have hres : rparseP s.data.toList = none := by unfold rparseP; rw [if_neg HNE.out, HSC.out, hst]; rfl
          have HRES := Lib.hid hres
          have HFIN : Hid (∀ (a' : Act), a'.tmps.getD 3 undef = .int .i64 4 → a'.tmps.getD 2 undef = .pointer (some ⟨w.heap.size, 0, none⟩) → a'.defers = [] → bodyPost Tryd.prog Tryd.f13 (fun e w' => e = .returned (parseV (rparseP s.data.toList)) ∧ Below w.heap.size w w') Exit.ret a' (((((wr.setCell ⟨w.heap.size, 0, none⟩ (.int .i64 0)).setCell ⟨w.heap.size, 1, none⟩ (.int .i64 0)).setCell ⟨w.heap.size, 2, none⟩ (.int .i64 0)).setCell ⟨w.heap.size, 3, none⟩ (.int .i64 0)).setCell ⟨w.heap.size, 4, none⟩ (.int .i64 0))) := Lib.hid (fun a' h3 h2 hd => by
            obtain ⟨z0, z1, z2, z3, z4⟩ := five_sets hR (.int .i64 0) (.int .i64 0) (.int .i64 0) (.int .i64 0) (.int .i64 0)
            obtain ⟨T, DF⟩ := a'
            dsimp only at h3 h2 hd
            subst hd
            exact bodyPost_ret (v := .tuple #[.agg #[.int .i64 0, .int .i64 0, .int .i64 0, .int .i64 0, .int .i64 0], .int .i64 4]) (by simp only [Array.getD_eq_getD_getElem?] at h2 h3; simp [results, Tryd.results13, go_sem, h2, h3, z0, z1, z2, z3, z4]) rfl ⟨by rw [HRES.out]; rfl, five_below hB (Nat.le_refl _) _ _ _ _ _⟩)
          have hw2 : (c.toNat : Int) < 48 ∨ (¬ (c.toNat : Int) < 48 ∧ 57 < (c.toNat : Int)) ∨ (¬ (c.toNat : Int) < 48 ∧ ¬ 57 < (c.toNat : Int) ∧ 99 < (n : Int)) := by
            have hdd : isDig c = false → c.toNat < 48 ∨ 57 < c.toNat := fun h => by
              unfold isDig at h
              rw [Bool.and_eq_false_iff, decide_eq_false_iff_not, decide_eq_false_iff_not] at h
              omega
            rcases hbad with h | h
            · have := hdd h; omega
            · omega
          clear hsep h3 hst hl hs hi hP hR hB hn hacc h46 hok hbad hres
          rcases hw2 with v1 | ⟨v1, v2⟩ | ⟨v1, v2, v3⟩
          all_goals
            go_wp2
            exact HFIN.out _ rfl rfl rfl
    · -- all is scanned
      have b0 : ¬ (i : Int) ≤ (s.size : Int) := by omega
      have hpp : rparseP s.data.toList = if textP (ptOf acc) = s.data.toList then some (ptOf acc) else none := by unfold rparseP; rw [if_neg HNE.out, hsc]; rfl
      have htx := fun W => rtext_any (ptOf acc) W
      have hcmp : (textP (ptOf acc) == s.toList) = decide (textP (ptOf acc) = s.data.toList) := by
        rw [ByteArray.toList_eq]
        rw [Bool.eq_iff_iff]; simp
      have HTX := Lib.hid htx
      have HB := Lib.hid hB
      have BR := Lib.hid hR
      clear hsc htx hl hs hi hn hacc t5 r0 r1 r2 r3 r4 f0 f1 f2 f3 f4 p4
      generalize ptOf acc = q at *
      obtain ⟨y0, y1, y2, y3, y4⟩ := q
      have b0 := hP.cell 0
      have b1 := hP.cell 1
      have b2 := hP.cell 2
      have b3 := hP.cell 3
      have b4 := hP.cell 4
      have BB := Lib.hid hP
      generalize textP ⟨y0, y1, y2, y3, y4⟩ = tx at hpp HTX hcmp
      clear hP hR hB
      by_cases hr : tx = s.data.toList
      · rw [if_pos hr] at hpp
        rw [decide_eq_true hr] at hcmp
        have HRES := Lib.hid hpp
        clear hpp hr
        have HFIN : Hid (∀ (W6 : World), Below wr.heap.size wr W6 → ∀ (a' : Act), a'.tmps.getD 3 undef = .int .i64 0 → a'.tmps.getD 2 undef = .pointer (some ⟨w.heap.size, 0, none⟩) → a'.defers = [] → bodyPost Tryd.prog Tryd.f13 (fun e w' => e = .returned (parseV (rparseP s.data.toList)) ∧ Below w.heap.size w w') Exit.ret a' (((((W6.setCell ⟨w.heap.size, 0, none⟩ (.int .i64 y0)).setCell ⟨w.heap.size, 1, none⟩ (.int .i64 y1)).setCell ⟨w.heap.size, 2, none⟩ (.int .i64 y2)).setCell ⟨w.heap.size, 3, none⟩ (.int .i64 y3)).setCell ⟨w.heap.size, 4, none⟩ (.int .i64 y4))) := Lib.hid (fun W6 hb6 a' h3 h2 hd => by
          obtain ⟨z0, z1, z2, z3, z4⟩ := five_sets (BR.out.below hb6) (.int .i64 y0) (.int .i64 y1) (.int .i64 y2) (.int .i64 y3) (.int .i64 y4)
          obtain ⟨T, DF⟩ := a'
          dsimp only at h3 h2 hd
          subst hd
          exact bodyPost_ret (v := .tuple #[.agg #[.int .i64 y0, .int .i64 y1, .int .i64 y2, .int .i64 y3, .int .i64 y4], .int .i64 0]) (by simp only [Array.getD_eq_getD_getElem?] at h2 h3; simp [results, Tryd.results13, go_sem, h2, h3, z0, z1, z2, z3, z4]) rfl ⟨by rw [HRES.out]; rfl, five_below (bl_then HB.out (Nat.le_refl _) hb6) (Nat.le_refl _) _ _ _ _ _⟩)
        go_wp2_with (go_at_call 17; refine (HTX.out _).mono ?_; rintro e w6 ⟨rfl, hb6⟩; have k6 := BB.out.below hb6; have l6 := BR.out.below hb6; clear b0 b1 b2 b3 b4; have b0 := k6.cell 0; have b1 := k6.cell 1; have b2 := k6.cell 2; have b3 := k6.cell 3; have b4 := k6.cell 4; have r0 := l6.cell 0; have r1 := l6.cell 1; have r2 := l6.cell 2; have r3 := l6.cell 3; have r4 := l6.cell 4; have f0 := l6.frozen 0; have f1 := l6.frozen 1; have f2 := l6.frozen 2; have f3 := l6.frozen 3; have f4 := l6.frozen 4; clear k6 l6)
        exact HFIN.out _ hb6 _ rfl rfl rfl
      · rw [if_neg hr] at hpp
        rw [decide_eq_false hr] at hcmp
        have HRES := Lib.hid hpp
        clear hpp hr
        have HFIN : Hid (∀ (W6 : World), Below wr.heap.size wr W6 → ∀ (a' : Act), a'.tmps.getD 3 undef = .int .i64 4 → a'.tmps.getD 2 undef = .pointer (some ⟨w.heap.size, 0, none⟩) → a'.defers = [] → bodyPost Tryd.prog Tryd.f13 (fun e w' => e = .returned (parseV (rparseP s.data.toList)) ∧ Below w.heap.size w w') Exit.ret a' (((((W6.setCell ⟨w.heap.size, 0, none⟩ (.int .i64 0)).setCell ⟨w.heap.size, 1, none⟩ (.int .i64 0)).setCell ⟨w.heap.size, 2, none⟩ (.int .i64 0)).setCell ⟨w.heap.size, 3, none⟩ (.int .i64 0)).setCell ⟨w.heap.size, 4, none⟩ (.int .i64 0))) := Lib.hid (fun W6 hb6 a' h3 h2 hd => by
          obtain ⟨z0, z1, z2, z3, z4⟩ := five_sets (BR.out.below hb6) (.int .i64 0) (.int .i64 0) (.int .i64 0) (.int .i64 0) (.int .i64 0)
          obtain ⟨T, DF⟩ := a'
          dsimp only at h3 h2 hd
          subst hd
          exact bodyPost_ret (v := .tuple #[.agg #[.int .i64 0, .int .i64 0, .int .i64 0, .int .i64 0, .int .i64 0], .int .i64 4]) (by simp only [Array.getD_eq_getD_getElem?] at h2 h3; simp [results, Tryd.results13, go_sem, h2, h3, z0, z1, z2, z3, z4]) rfl ⟨by rw [HRES.out]; rfl, five_below (bl_then HB.out (Nat.le_refl _) hb6) (Nat.le_refl _) _ _ _ _ _⟩)
        go_wp2_with (go_at_call 17; refine (HTX.out _).mono ?_; rintro e w6 ⟨rfl, hb6⟩; have k6 := BB.out.below hb6; have l6 := BR.out.below hb6; clear b0 b1 b2 b3 b4; have b0 := k6.cell 0; have b1 := k6.cell 1; have b2 := k6.cell 2; have b3 := k6.cell 3; have b4 := k6.cell 4; have r0 := l6.cell 0; have r1 := l6.cell 1; have r2 := l6.cell 2; have r3 := l6.cell 3; have r4 := l6.cell 4; have f0 := l6.frozen 0; have f1 := l6.frozen 1; have f2 := l6.frozen 2; have f3 := l6.frozen 3; have f4 := l6.frozen 4; clear k6 l6)
        exact HFIN.out _ hb6 _ rfl rfl rfl
theorem rparse_any (s : ByteArray) (hs : s.size ≤ 140737488351232) (w : World) : Calls Tryd.prog 13 #[.string s] w fun e w' => e = .returned (parseV (rparseP s.data.toList)) ∧ Below w.heap.size w w' := by
  by_cases h : s.data.toList = []
  · obtain rfl : s = ⟨#[]⟩ := Go.WideShapes.bytes_inj h
    exact rparse_nil w
  · exact rparse_some s hs h w
end Go.Proofs.YtlbjlopljlblpaaDoor
