/- Nodes: Parse, by the program. Condition: the library's table of powers of ten reads as the program lays it. -/
import Derived.Test.YtlbjlopljlblpaaDoorPthU
import Derived.Test.YtlbjlopljlblpaaDoorPthI
import Derived.Test.YtlbjlopljlblpaaDoorPthS
import Derived.ScopeJumps
set_option linter.unusedVariables false
set_option linter.unusedSimpArgs false
namespace Go.Proofs.YtlbjlopljlblpaaDoor
open Go.RowKit (wrap32 wrap64)
open Go.RowKit Go.Shelf
theorem wp_scope_jumps2 {P : Program} {a : Act} {w : World} {Q : Exit → Act → World → Prop} {c rest : Code} (l : Nat) (J : Act → World → Prop) (μ : Act → World → Nat) (hf : findLabel c l = some (Code.skip.seq rest))
    (pass : ∀ a w, J a w → rest.wp P (Exit.jump l (fun a' w' => J a' w' ∧ μ a' w' < μ a w) Q) a w)
    (first : (∀ a w, J a w → rest.wp P (Exit.jump l J Q) a w) → c.wp P (Exit.jump l J Q) a w) : (Code.scope c).wp P Q a w :=
  wp_scope_jumps l J μ hf (first fun a w h => Code.wp_mono (fun e a' w' he => by
    cases e with
    | goto l' => exact ⟨he.1, he.2.1⟩
    | _ => exact he) (pass a w h)) (fun a w h => wp_seq (wp_skip (pass a w h)))
/-- What holds at the label. -/
def PInv (s : ByteArray) (w W : World) (i n dg : Nat) (acc : List Nat) : Prop :=
  i ≤ s.size ∧ dg ≤ 3 ∧ n < 10 ^ dg ∧ acc.length ≤ 4 ∧ scanP s.data.toList 0 0 [] = scanP (s.data.toList.drop i) n dg acc ∧ Bk W w.heap.size 24 #[.int .i64 0, .int .i64 0, .int .i64 0, .int .i64 0, .int .i64 0] ∧ Bk W (w.heap.size + 1) 24 (ptA (ptOf acc)) ∧ Below w.heap.size w W
abbrev pfr (s : ByteArray) (w : World) (i n dg : Nat) (u : Nat → Value) : Array Value := #[.string s, u 1, .pointer (some ⟨w.heap.size, 0, none⟩), .int .i64 0, .pointer (some ⟨w.heap.size + 1, 0, none⟩), .int .i64 (n : Int), .int .i64 (dg : Int), .int .i64 (i : Int), u 8, (u 9), (u 10), (u 11), (u 12), (u 13), (u 14), (u 15), (u 16), (u 17), (u 18), (u 19), (u 20), (u 21), (u 22), (u 23), (u 24), (u 25), (u 26), (u 27), (u 28), (u 29), (u 30), (u 31), (u 32), (u 33), (u 34), (u 35), (u 36), (u 37), (u 38), (u 39), (u 40), (u 41), (u 42), (u 43), (u 44), (u 45), (u 46), (u 47), (u 48), (u 49), (u 50), (u 51), (u 52), (u 53), (u 54), (u 55), (u 56), (u 57), (u 58), (u 59), (u 60), (u 61), (u 62), (u 63), (u 64), (u 65), (u 66), (u 67), (u 68), (u 69), (u 70), (u 71), (u 72), (u 73), (u 74), (u 75)]
def PJ (s : ByteArray) (w : World) (a : Act) (W : World) : Prop := ∃ (i n dg : Nat) (acc : List Nat) (u : Nat → Value), a = { tmps := pfr s w i n dg u, defers := [] } ∧ PInv s w W i n dg acc
theorem PJ.mk {s : ByteArray} {w W : World} {i n dg : Nat} {acc : List Nat} {T : Array Value} (h : T = pfr s w i n dg (fun k => T.getD k undef)) (hI : PInv s w W i n dg acc) : PJ s w { tmps := T, defers := [] } W := ⟨i, n, dg, acc, _, by rw [← h], hI⟩
def natAt (v : Value) : Nat := (intOf v).toNat
set_option maxRecDepth 100000 in
set_option maxHeartbeats 8000000 in
theorem pparse_any (s : ByteArray) (hs : s.size ≤ 140737488351232) (w : World) (ht : Tab10 w) : Calls Tryd.prog 11 #[.string s] w fun e w' => e = .returned (parseV (parseP s.data.toList)) ∧ Below w.heap.size w w' := by
  obtain ⟨hO, hP, hQ⟩ := two_box zeroP zeroP w
  dsimp only [ptA, zeroP] at hO hP hQ
  have HT := Lib.hid (tab_below ht)
  have HI : Hid (PInv s w ((w.alloc (.cells #[.int .i64 0, .int .i64 0, .int .i64 0, .int .i64 0, .int .i64 0] 24)).alloc (.cells #[.int .i64 0, .int .i64 0, .int .i64 0, .int .i64 0, .int .i64 0] 24)) 0 0 0 []) := Lib.hid ⟨by omega, by omega, by decide, by decide, rfl, hP, hQ, hO⟩
  clear hO hP hQ ht
  go_enter Tryd.func11, Tryd.ntmps11
  go_wp2
  refine wp_scope_jumps2 0 (PJ s w) (fun a _ => s.size - natAt (a.tmps[7]!)) rfl ?pass ?first
  case first =>
    intro hpass
    go_wp2
    go_step3
    rename_i hk
    exact hk _ _ (hpass _ _ (PJ.mk rfl HI.out))
  case pass =>
    clear HI
    rintro a W ⟨i, n, dg, acc, u, rfl, hi, hdg, hn, hacc, hsc, hR, hP, hB⟩
    have hl : s.data.toList.length = s.size := by rw [Array.length_toList]; rfl
    have HSC := Lib.hid hsc
    have HN := Lib.hid hn
    have HLEN := Lib.hid hacc
    have p4 := hP.cell 4
    have hpd : (ptA (ptOf acc))[4]? = some (.int .i64 (acc.length : Int)) := rfl
    rw [hpd] at p4
    clear hsc hn hacc hpd
    have hsm : (s.size : Int) ≤ 140737488351232 := by omega
    have hli : ∀ c, (s.data.toList.drop i).head? = some c → i < s.size ∧ (∀ W, (Instr.index 9 (.string s) (.int .i64 (i : Int))).run Tryd.prog W = .ok (.int .u8 (c.toNat : Int)) W) ∧ s.data.toList.drop i = c :: s.data.toList.drop (i + 1) := fun c hc => by
      have hlt : i < s.data.toList.length := by
        rcases Nat.lt_or_ge i s.data.toList.length with h | h
        · exact h
        · rw [List.drop_of_length_le h] at hc; cases hc
      rw [List.drop_eq_getElem_cons hlt] at hc ⊢
      have hce : s.data.toList[i] = c := by simpa using hc
      refine ⟨by omega, fun W => ?_, by rw [hce]⟩
      rw [run_index_string W _ s _ _ Tryd.underlying9, dif_pos ⟨by omega, by omega⟩]
      have h2 : s[(i : Int).toNat]'(by omega) = c := by
        rw [← hce]
        simp only [Int.toNat_natCast]
        rw [Lib.getD_at s i (by omega), List.getD, List.getElem?_eq_getElem hlt]; rfl
      rw [h2]
    by_cases hA : ∃ c, (s.data.toList.drop i).head? = some c ∧ isDig c = true ∧ dg < 3
    · obtain ⟨c, hc, hd, hg⟩ := hA
      obtain ⟨h1, h2, h3⟩ := hli c hc
      have hd' := hd
      unfold isDig at hd'
      simp only [Bool.and_eq_true, decide_eq_true_eq] at hd'
      obtain ⟨hd1, hd2⟩ := hd'
      have hnn : n * 10 + (c.toNat - 48) < 10 ^ (dg + 1) := by have := HN.out; rw [Nat.pow_succ]; omega
      have hn3 : n < 1000 := Nat.lt_of_lt_of_le HN.out (Nat.pow_le_pow_right (by omega) hdg)
      have hst := scanP_dig c (s.data.toList.drop (i + 1)) n dg acc hd hg
      rw [← h3] at hst
      have HX := Lib.hid (HSC.out.trans hst)
      have HNN := Lib.hid hnn
      have b1 : (i : Int) < (s.size : Int) := by omega
      have b2 : (48 : Int) ≤ (c.toNat : Int) := by omega
      have b3 : (c.toNat : Int) ≤ 57 := by omega
      have b4 : (dg : Int) < 3 := by omega
      have t1 : IntKind.i64.wrap ((n : Int) * 10) = (n : Int) * 10 := by rw [IntKind.wrap_i64]; omega
      have t2 : IntKind.u8.wrap ((c.toNat : Int) - 48) = (c.toNat : Int) - 48 := by rw [IntKind.wrap_u8]; omega
      have t3 : IntKind.i64.wrap ((c.toNat : Int) - 48) = (c.toNat : Int) - 48 := by rw [IntKind.wrap_i64]; omega
      have t4 : IntKind.i64.wrap ((n : Int) * 10 + ((c.toNat : Int) - 48)) = ((n * 10 + (c.toNat - 48) : Nat) : Int) := by rw [IntKind.wrap_i64]; omega
      have t5 : IntKind.i64.wrap ((i : Int) + 1) = ((i + 1 : Nat) : Int) := by rw [IntKind.wrap_i64]; omega
      have t6 : IntKind.i64.wrap ((dg : Int) + 1) = ((dg + 1 : Nat) : Int) := by rw [IntKind.wrap_i64]; omega
      have HINV : Hid (PInv s w W (i + 1) (n * 10 + (c.toNat - 48)) (dg + 1) acc) := Lib.hid ⟨h1, hg, hnn, HLEN.out, HX.out, hR, hP, hB⟩
      clear hc h3 hli hst hd hnn hn3 hR hP hB hl hs hi hdg
      generalize (n * 10 + (c.toNat - 48) : Nat) = nn at t4 HINV
      go_wp2
      go_step3
      exact ⟨rfl, PJ.mk rfl HINV.out, by simp [natAt, intOf]; omega⟩
    · have hstop : ∀ c, (s.data.toList.drop i).head? = some c → ¬ (isDig c = true ∧ dg < 3) := fun c hc hh => hA ⟨c, hc, hh.1, hh.2⟩
      have hway : ((i : Int) = (s.size : Int) ∧ s.data.toList.drop i = []) ∨ ∃ c, (s.data.toList.drop i).head? = some c ∧ ((c.toNat < 48 ∧ c.toNat ≠ 46) ∨ c.toNat = 46 ∨ 57 < c.toNat ∨ (48 ≤ c.toNat ∧ c.toNat ≤ 57 ∧ dg = 3)) := by
        cases hh : s.data.toList.drop i with
        | nil =>
          have hge : s.data.toList.length ≤ i := List.drop_eq_nil_iff.1 hh
          exact .inl ⟨by omega, rfl⟩
        | cons c r =>
          refine .inr ⟨c, rfl, ?_⟩
          have := hstop c (by rw [hh]; rfl)
          unfold isDig at this
          simp at this
          omega
      have t5 : IntKind.i64.wrap ((i : Int) + 1) = ((i + 1 : Nat) : Int) := by rw [IntKind.wrap_i64]; omega
      have r0 := hR.cell 0
      have r1 := hR.cell 1
      have r2 := hR.cell 2
      have r3 := hR.cell 3
      have r4 := hR.cell 4
      have f0 := hR.frozen 0
      have f1 := hR.frozen 1
      have f2 := hR.frozen 2
      have f3 := hR.frozen 3
      have f4 := hR.frozen 4
      by_cases hbad : dg = 0 ∨ acc.length = 4
      · -- what is no number, or a fifth one
        have hst := scanP_bad (s.data.toList.drop i) n dg acc hstop hbad
        have hres : parseP s.data.toList = none := by unfold parseP; rw [HSC.out, hst]; rfl
        have HRES := Lib.hid hres
        have HF := Lib.hid (five_sets hR (.int .i64 0) (.int .i64 0) (.int .i64 0) (.int .i64 0) (.int .i64 0))
        have HB := Lib.hid hB
        have hfin : ∀ (a' : Act), a'.tmps.getD 3 undef = .int .i64 4 → a'.tmps.getD 2 undef = .pointer (some ⟨w.heap.size, 0, none⟩) → a'.defers = [] → bodyPost Tryd.prog Tryd.f11 (fun e w' => e = .returned (parseV (parseP s.data.toList)) ∧ Below w.heap.size w w') Exit.ret a' (((((W.setCell ⟨w.heap.size, 0, none⟩ (.int .i64 0)).setCell ⟨w.heap.size, 1, none⟩ (.int .i64 0)).setCell ⟨w.heap.size, 2, none⟩ (.int .i64 0)).setCell ⟨w.heap.size, 3, none⟩ (.int .i64 0)).setCell ⟨w.heap.size, 4, none⟩ (.int .i64 0)) := fun a' h3 h2 hd => by
          obtain ⟨z0, z1, z2, z3, z4⟩ := HF.out
          obtain ⟨T, DF⟩ := a'
          dsimp only at h3 h2 hd
          subst hd
          exact bodyPost_ret (v := .tuple #[.agg #[.int .i64 0, .int .i64 0, .int .i64 0, .int .i64 0, .int .i64 0], .int .i64 4]) (by simp only [Array.getD_eq_getD_getElem?] at h2 h3; simp [results, Tryd.results11, go_sem, h2, h3, z0, z1, z2, z3, z4]) rfl ⟨by rw [HRES.out]; rfl, five_below HB.out (Nat.le_refl _) _ _ _ _ _⟩
        have HFIN := Lib.hid hfin
        have hcase : ((dg : Int) == 0) = true ∨ (((dg : Int) == 0) = false ∧ ((acc.length : Int) == 4) = true) := by
          simp only [beq_iff_eq, beq_eq_false_iff_ne]
          omega
        rcases hway with ⟨he, hnil⟩ | ⟨c, hc, hcw⟩
        · have b1 : ¬ ((i : Int) < (s.size : Int)) := by omega
          clear hA hli hstop hnil hst hres hfin hl hs hi hdg hP hR hB hbad he
          rcases hcase with e1 | ⟨e1, e2⟩
          all_goals
            go_wp2
            exact HFIN.out _ rfl rfl rfl
        · obtain ⟨h1, h2, h3⟩ := hli c hc
          have b1 : (i : Int) < (s.size : Int) := by omega
          have hcw' : ¬ ((48 : Int) ≤ (c.toNat : Int)) ∨ ((48 : Int) ≤ (c.toNat : Int) ∧ ¬ ((c.toNat : Int) ≤ 57)) ∨ ((48 : Int) ≤ (c.toNat : Int) ∧ (c.toNat : Int) ≤ 57 ∧ ¬ ((dg : Int) < 3)) := by omega
          clear hA hli hstop hst hres hfin hl hs hi hdg hP hR hB hbad hc h1 h3 hcw
          rcases hcw' with b2 | ⟨b2, b3⟩ | ⟨b2, b3, b4⟩
          all_goals
            rcases hcase with e1 | ⟨e1, e2⟩
            all_goals
              go_wp2
              exact HFIN.out _ rfl rfl rfl
      · -- a number is taken
        have h4 : acc.length < 4 := by have := HLEN.out; omega
        obtain ⟨a, ar, b, br⟩ := two_stores hP hR (by omega) acc.length (.int .i64 (n : Int)) (.int .i64 ((acc.length : Int) + 1)) rfl (ptOf_put acc n h4)
        have hpk := hP.cell acc.length
        have g1 := hP.frozen acc.length
        have a4 := a.cell 4
        rw [ptOf_dep4 acc h4] at a4
        have g4 := a.frozen 4
        rw [ptOf_old acc h4] at hpk
        have kk : (acc.length : Int) < 4 := by omega
        have t7 : IntKind.i64.wrap ((acc.length : Int) + 1) = (acc.length : Int) + 1 := by rw [IntKind.wrap_i64]; omega
        have e1 : ((dg : Int) == 0) = false := beq_eq_false_iff_ne.2 (by omega)
        have e2 : ((acc.length : Int) == 4) = false := beq_eq_false_iff_ne.2 (by omega)
        have HB2 := Lib.hid (two_below hB (show w.heap.size ≤ w.heap.size + 1 by omega) acc.length (.int .i64 (n : Int)) (.int .i64 ((acc.length : Int) + 1)))
        have hlen1 : (acc ++ [n]).length ≤ 4 := by simp; omega
        by_cases hdot : ∃ c, (s.data.toList.drop i).head? = some c ∧ c.toNat = 46
        · obtain ⟨c, hc, h46⟩ := hdot
          obtain ⟨h1, h2, h3⟩ := hli c hc
          have hst := scanP_dot c (s.data.toList.drop (i + 1)) n dg acc hbad h46
          rw [← h3] at hst
          have HINV : Hid (PInv s w ((W.setCell ⟨w.heap.size + 1, acc.length, none⟩ (.int .i64 (n : Int))).setCell ⟨w.heap.size + 1, 4, none⟩ (.int .i64 ((acc.length : Int) + 1))) (i + 1) 0 0 (acc ++ [n])) := Lib.hid ⟨h1, by omega, by decide, hlen1, HSC.out.trans hst, br, b, HB2.out⟩
          rw [h46] at h2
          have b1 : (i : Int) < (s.size : Int) := by omega
          clear hA hli hstop hway hst hl hs hi hdg hP hR hB hbad hc h1 h3 h46 a ar b br hlen1 h4 f0 f1 f2 f3 f4 r0 r1 r2 r3 r4
          generalize acc.length = kx at *
          go_wp2
          go_step3
          exact ⟨rfl, PJ.mk rfl HINV.out, by simp [natAt, intOf]; omega⟩
        · have hst := scanP_end (s.data.toList.drop i) n dg acc hstop hbad (fun c hc h46 => hdot ⟨c, hc, h46⟩)
          have hscan := HSC.out.trans hst
          have hpp : parseP s.data.toList = if textP (ptOf (acc ++ [n])) = s.data.toList then some (ptOf (acc ++ [n])) else none := by unfold parseP; rw [hscan]; rfl
          have htx := fun W hb => ptext_any (ptOf (acc ++ [n])) W (HT.out W hb)
          have hcmp : (textP (ptOf (acc ++ [n])) == s.toList) = decide (textP (ptOf (acc ++ [n])) = s.data.toList) := by
            rw [ByteArray.toList_eq]
            rw [Bool.eq_iff_iff]; simp
          have hway2 : (¬ ((i : Int) < (s.size : Int))) ∨ ((i : Int) < (s.size : Int) ∧ ∃ z : Nat, (∀ W, (Instr.index 9 (.string s) (.int .i64 (i : Int))).run Tryd.prog W = .ok (.int .u8 (z : Int)) W) ∧ ((z : Int) == 46) = false ∧ (¬ ((48 : Int) ≤ (z : Int)) ∨ ((48 : Int) ≤ (z : Int) ∧ ¬ ((z : Int) ≤ 57)) ∨ ((48 : Int) ≤ (z : Int) ∧ (z : Int) ≤ 57 ∧ ¬ ((dg : Int) < 3)))) := by
            rcases hway with ⟨he, _⟩ | ⟨c, hc, hcw⟩
            · exact .inl (by omega)
            · obtain ⟨h1, h2, h3⟩ := hli c hc
              exact .inr ⟨by omega, c.toNat, h2, by rw [beq_eq_false_iff_ne]; intro hh; exact hdot ⟨c, hc, by omega⟩, by omega⟩
          have HTX := Lib.hid htx
          clear hA hli hstop hway hst hl hs hi hdg hP hR hB hbad hlen1 h4 htx hdot hscan f0 f1 f2 f3 f4 r0 r1 r2 r3 r4
          generalize acc.length = kx at *
          generalize ptOf (acc ++ [n]) = q at *
          obtain ⟨y0, y1, y2, y3, y4⟩ := q
          have b0 := b.cell 0
          have b1 := b.cell 1
          have b2 := b.cell 2
          have b3 := b.cell 3
          have b4 := b.cell 4
          have BB := Lib.hid b
          have BR := Lib.hid br
          generalize textP ⟨y0, y1, y2, y3, y4⟩ = tx at hpp HTX hcmp
          clear a ar b br
          by_cases hr : tx = s.data.toList
          · rw [if_pos hr] at hpp
            rw [decide_eq_true hr] at hcmp
            have HRES := Lib.hid hpp
            clear hpp hr
            have HFIN : Hid (∀ (W6 : World), Below ((W.setCell ⟨w.heap.size + 1, kx, none⟩ (.int .i64 (n : Int))).setCell ⟨w.heap.size + 1, 4, none⟩ (.int .i64 ((kx : Int) + 1))).heap.size ((W.setCell ⟨w.heap.size + 1, kx, none⟩ (.int .i64 (n : Int))).setCell ⟨w.heap.size + 1, 4, none⟩ (.int .i64 ((kx : Int) + 1))) W6 → ∀ (a' : Act), a'.tmps.getD 3 undef = .int .i64 0 → a'.tmps.getD 2 undef = .pointer (some ⟨w.heap.size, 0, none⟩) → a'.defers = [] → bodyPost Tryd.prog Tryd.f11 (fun e w' => e = .returned (parseV (parseP s.data.toList)) ∧ Below w.heap.size w w') Exit.ret a' (((((W6.setCell ⟨w.heap.size, 0, none⟩ (.int .i64 y0)).setCell ⟨w.heap.size, 1, none⟩ (.int .i64 y1)).setCell ⟨w.heap.size, 2, none⟩ (.int .i64 y2)).setCell ⟨w.heap.size, 3, none⟩ (.int .i64 y3)).setCell ⟨w.heap.size, 4, none⟩ (.int .i64 y4))) := Lib.hid (fun W6 hb6 a' h3 h2 hd => by
              obtain ⟨z0, z1, z2, z3, z4⟩ := five_sets (BR.out.below hb6) (.int .i64 y0) (.int .i64 y1) (.int .i64 y2) (.int .i64 y3) (.int .i64 y4)
              obtain ⟨T, DF⟩ := a'
              dsimp only at h3 h2 hd
              subst hd
              exact bodyPost_ret (v := .tuple #[.agg #[.int .i64 y0, .int .i64 y1, .int .i64 y2, .int .i64 y3, .int .i64 y4], .int .i64 0]) (by simp only [Array.getD_eq_getD_getElem?] at h2 h3; simp [results, Tryd.results11, go_sem, h2, h3, z0, z1, z2, z3, z4]) rfl ⟨by rw [HRES.out]; rfl, five_below (bl_then HB2.out (Nat.le_refl _) hb6) (Nat.le_refl _) _ _ _ _ _⟩)
            rcases hway2 with w1 | ⟨w1, z, w2, w3, w4⟩
            · clear HSC HN HLEN
              go_wp2_with (go_at_call 12; refine (HTX.out _ HB2.out).mono ?_; rintro e w6 ⟨rfl, hb6⟩; have k6 := BB.out.below hb6; have l6 := BR.out.below hb6; clear b0 b1 b2 b3 b4; have b0 := k6.cell 0; have b1 := k6.cell 1; have b2 := k6.cell 2; have b3 := k6.cell 3; have b4 := k6.cell 4; have r0 := l6.cell 0; have r1 := l6.cell 1; have r2 := l6.cell 2; have r3 := l6.cell 3; have r4 := l6.cell 4; have f0 := l6.frozen 0; have f1 := l6.frozen 1; have f2 := l6.frozen 2; have f3 := l6.frozen 3; have f4 := l6.frozen 4; clear k6 l6)
              exact HFIN.out _ hb6 _ rfl rfl rfl
            · clear HSC HN HLEN
              rcases w4 with v1 | ⟨v1, v2⟩ | ⟨v1, v2, v3⟩
              all_goals
                go_wp2_with (go_at_call 12; refine (HTX.out _ HB2.out).mono ?_; rintro e w6 ⟨rfl, hb6⟩; have k6 := BB.out.below hb6; have l6 := BR.out.below hb6; clear b0 b1 b2 b3 b4; have b0 := k6.cell 0; have b1 := k6.cell 1; have b2 := k6.cell 2; have b3 := k6.cell 3; have b4 := k6.cell 4; have r0 := l6.cell 0; have r1 := l6.cell 1; have r2 := l6.cell 2; have r3 := l6.cell 3; have r4 := l6.cell 4; have f0 := l6.frozen 0; have f1 := l6.frozen 1; have f2 := l6.frozen 2; have f3 := l6.frozen 3; have f4 := l6.frozen 4; clear k6 l6)
                exact HFIN.out _ hb6 _ rfl rfl rfl
          · rw [if_neg hr] at hpp
            rw [decide_eq_false hr] at hcmp
            have HRES := Lib.hid hpp
            clear hpp hr
            have HFIN : Hid (∀ (W6 : World), Below ((W.setCell ⟨w.heap.size + 1, kx, none⟩ (.int .i64 (n : Int))).setCell ⟨w.heap.size + 1, 4, none⟩ (.int .i64 ((kx : Int) + 1))).heap.size ((W.setCell ⟨w.heap.size + 1, kx, none⟩ (.int .i64 (n : Int))).setCell ⟨w.heap.size + 1, 4, none⟩ (.int .i64 ((kx : Int) + 1))) W6 → ∀ (a' : Act), a'.tmps.getD 3 undef = .int .i64 4 → a'.tmps.getD 2 undef = .pointer (some ⟨w.heap.size, 0, none⟩) → a'.defers = [] → bodyPost Tryd.prog Tryd.f11 (fun e w' => e = .returned (parseV (parseP s.data.toList)) ∧ Below w.heap.size w w') Exit.ret a' (((((W6.setCell ⟨w.heap.size, 0, none⟩ (.int .i64 0)).setCell ⟨w.heap.size, 1, none⟩ (.int .i64 0)).setCell ⟨w.heap.size, 2, none⟩ (.int .i64 0)).setCell ⟨w.heap.size, 3, none⟩ (.int .i64 0)).setCell ⟨w.heap.size, 4, none⟩ (.int .i64 0))) := Lib.hid (fun W6 hb6 a' h3 h2 hd => by
              obtain ⟨z0, z1, z2, z3, z4⟩ := five_sets (BR.out.below hb6) (.int .i64 0) (.int .i64 0) (.int .i64 0) (.int .i64 0) (.int .i64 0)
              obtain ⟨T, DF⟩ := a'
              dsimp only at h3 h2 hd
              subst hd
              exact bodyPost_ret (v := .tuple #[.agg #[.int .i64 0, .int .i64 0, .int .i64 0, .int .i64 0, .int .i64 0], .int .i64 4]) (by simp only [Array.getD_eq_getD_getElem?] at h2 h3; simp [results, Tryd.results11, go_sem, h2, h3, z0, z1, z2, z3, z4]) rfl ⟨by rw [HRES.out]; rfl, five_below (bl_then HB2.out (Nat.le_refl _) hb6) (Nat.le_refl _) _ _ _ _ _⟩)
            rcases hway2 with w1 | ⟨w1, z, w2, w3, w4⟩
            · clear HSC HN HLEN
              go_wp2_with (go_at_call 12; refine (HTX.out _ HB2.out).mono ?_; rintro e w6 ⟨rfl, hb6⟩; have k6 := BB.out.below hb6; have l6 := BR.out.below hb6; clear b0 b1 b2 b3 b4; have b0 := k6.cell 0; have b1 := k6.cell 1; have b2 := k6.cell 2; have b3 := k6.cell 3; have b4 := k6.cell 4; have r0 := l6.cell 0; have r1 := l6.cell 1; have r2 := l6.cell 2; have r3 := l6.cell 3; have r4 := l6.cell 4; have f0 := l6.frozen 0; have f1 := l6.frozen 1; have f2 := l6.frozen 2; have f3 := l6.frozen 3; have f4 := l6.frozen 4; clear k6 l6)
              exact HFIN.out _ hb6 _ rfl rfl rfl
            · clear HSC HN HLEN
              rcases w4 with v1 | ⟨v1, v2⟩ | ⟨v1, v2, v3⟩
              all_goals
                go_wp2_with (go_at_call 12; refine (HTX.out _ HB2.out).mono ?_; rintro e w6 ⟨rfl, hb6⟩; have k6 := BB.out.below hb6; have l6 := BR.out.below hb6; clear b0 b1 b2 b3 b4; have b0 := k6.cell 0; have b1 := k6.cell 1; have b2 := k6.cell 2; have b3 := k6.cell 3; have b4 := k6.cell 4; have r0 := l6.cell 0; have r1 := l6.cell 1; have r2 := l6.cell 2; have r3 := l6.cell 3; have r4 := l6.cell 4; have f0 := l6.frozen 0; have f1 := l6.frozen 1; have f2 := l6.frozen 2; have f3 := l6.frozen 3; have f4 := l6.frozen 4; clear k6 l6)
                exact HFIN.out _ hb6 _ rfl rfl rfl
end Go.Proofs.YtlbjlopljlblpaaDoor
