/- The statement GroupDoes: the walk. No condition. -/
import Derived.Test.YthkjkmjcnphjgaaGrpG
set_option linter.unusedVariables false
set_option linter.unusedSimpArgs false
namespace Go.Proofs.Ythkjkmjcnphjgaa
open Go.RowKit (wrap32 wrap64)
open Go.RowKit Go.Shelf Go.Sort
theorem eq7 (x0 x1 x2 x3 x4 x5 x6 : Int) (w : World) : (binOp .eql 71 (.agg #[.int .i64 x0, .int .i64 x1, .int .i64 x2, .int .i64 x3, .int .i64 x4, .int .i64 x5, .int .i64 x6]) (.agg #[.int .i64 x0, .int .i64 x1, .int .i64 x2, .int .i64 x3, .int .i64 x4, .int .i64 x5, .int .i64 x6])).run Try.prog w = .ok (.bool true) w := by
  obtain ⟨i, hi⟩ : ∃ i, Try.prog.info? 3 = some i := Option.isSome_iff_exists.1 (by kernel_rfl : (Try.prog.info? 3).isSome = true)
  have hc : Try.prog.cellsOf 3 = 1 := by kernel_rfl
  have a3 := Try.isAgg3
  have z3 := Try.sizeOf3
  have u3 := Try.underlying3
  rw [run_eql_struct, show (10000 : Nat) = 9999 + 1 from rfl, run_equalIn_array w 9999 _ _ Try.underlying71 hi, hc, show List.range 7 = [0, 1, 2, 3, 4, 5, 6] from rfl]
  simp only [Op.eqItems]
  go_simp
theorem gS {wb W : World} {B : Nat} {c0 c1 c2 c3 c4 c5 c6 : Int} (h : Bk wb B 71 #[.int .i64 c0, .int .i64 c1, .int .i64 c2, .int .i64 c3, .int .i64 c4, .int .i64 c5, .int .i64 c6]) (hb : Below wb.heap.size wb W) : Below wb.heap.size wb W ∧ W.cell? ⟨B, 0, none⟩ = some (.int .i64 c0) ∧ W.cell? ⟨B, 1, none⟩ = some (.int .i64 c1) ∧ W.cell? ⟨B, 2, none⟩ = some (.int .i64 c2) ∧ W.cell? ⟨B, 3, none⟩ = some (.int .i64 c3) ∧ W.cell? ⟨B, 4, none⟩ = some (.int .i64 c4) ∧ W.cell? ⟨B, 5, none⟩ = some (.int .i64 c5) ∧ W.cell? ⟨B, 6, none⟩ = some (.int .i64 c6) := by
  have k := h.below hb
  exact ⟨hb, k.cell 0, k.cell 1, k.cell 2, k.cell 3, k.cell 4, k.cell 5, k.cell 6⟩
set_option maxRecDepth 100000 in
set_option maxHeartbeats 8000000 in
theorem groupDoes_end (a : Option Addr) (len cap : Nat) (L : List Hd) (tx m : Int) : True := trivial
set_option maxRecDepth 100000 in
set_option maxHeartbeats 8000000 in
theorem groupDoes_walk (a : Option Addr) (len cap : Nat) (css : List (List Value)) (tx m : Int) (w : World) (hf : FlatRow w ksHd a len cap css) (htx : (Lit.int .i64 tx).wf = true) (hm : (Lit.int .i64 m).wf = true) :
    Calls Try.prog 9 #[.slice a len cap, .int .i64 tx, .int .i64 m] w fun e w' => e = .returned (.bool true) ∧ Below w.heap.size w w' := by
  obtain ⟨L, hl, hlc, hcm, hnil⟩ := SR.flat (s := 2) rfl (by omega) enHd_len decHd hf
  clear hf
  have hmax := hl.max
  have hcm' : cap ≤ 9223372036854775807 := by unfold maxLen at hcm; exact hcm
  by_cases h30 : 30 < len
  · have HF := few_no a len cap h30 hmax
    clear hl h30
    go_enter Try.func9, Try.ntmps9
    go_wp2_with (first
      | (go_at_call 36; refine (awake11 _).mono ?_; rintro e w1 ⟨rfl, hb1⟩)
      | (go_at_call 37; refine (HF.out _).mono ?_; rintro e _ ⟨rfl, rfl⟩))
    go_ret
    exact ⟨rfl, hb1⟩
  · have HF := few_yes a len cap (by omega)
    have hll := hl.len
    have HLL := Lib.hid hll
    have HSO := Lib.hid (fun x (hx : x ∈ setT tx m L) => setT_ok tx m L hl.all htx hm x hx)
    have HDO := Lib.hid (fun x (hx : x ∈ dropT L tx) => hl.all x (List.mem_filter.1 hx).1)
    obtain ⟨i0, hi, hz0, hz1, hz2⟩ := info_parts Try.infoI
    clear hll
    go_enter Try.func9, Try.ntmps9
    go_wp2_with (first
      | (go_at_call 36; refine (awake11 _).mono ?_; rintro e w1 ⟨rfl, hb1⟩)
      | (go_at_call 37; refine (HF.out _).mono ?_; rintro e _ ⟨rfl, rfl⟩; have hO1 : Below w1.heap.size w1 (w1.alloc (.cells #[.int .i64 0, .int .i64 0, .int .i64 0, .int .i64 0, .int .i64 0, .int .i64 0, .int .i64 0] 71)) := (Below.refl _ _).alloc (Nat.le_refl _) _; have hT0 : Bk (w1.alloc (.cells #[.int .i64 0, .int .i64 0, .int .i64 0, .int .i64 0, .int .i64 0, .int .i64 0, .int .i64 0] 71)) w1.heap.size 71 (cv (cntF (L.take 0))) := Bk.new _ _ _))
    have hB0 := bl_then hb1 (Nat.le_refl _) hO1
    have hBw := hb1.size
    generalize w1.heap.size = B at hT0 hBw ⊢
    generalize w1.alloc (.cells #[.int .i64 0, .int .i64 0, .int .i64 0, .int .i64 0, .int .i64 0, .int .i64 0, .int .i64 0] 71) = w2 at hT0 hB0 ⊢
    go_loopw [7, 19] (fun v c wr => ∃ k : Nat, k ≤ len ∧ c = .int .i64 k ∧ wr.ownsRow (B + 1) 3 1 v k (flatV enI ((L.take k).map Hd.mode)) ∧ Bk wr B 71 (cv (cntF (L.take k))) ∧ Below w.heap.size w wr) (fun _ c _ => len - (intOf c).toNat)
    case atStart => exact ⟨0, by omega, rfl, World.ownsRow_nil _ _ _ _, hT0, hB0⟩
    case round =>
      clear hT0 hB0 hO1 hb1
      obtain ⟨k, hk, rfl, hown, hT, HB⟩ := hrel
      by_cases hlt : k < len
      · obtain ⟨b, off, ⟨htx0, md⟩, rfl, _, hx, _, d0, d1⟩ := Hd_at (hl.below HB) hlt
        dsimp only at d0 d1
        have hO : Below wr.heap.size wr (wr.alloc (.cells #[.int .i64 htx0, .int .i64 md] 65)) := (Below.refl _ _).alloc (Nat.le_refl _) _
        have HB1 := bl_then HB (Nat.le_refl _) hO
        have hBl := hT.lt
        have hT1 := hT.below hO
        have hBx := Bk.new wr 65 #[.int .i64 htx0, .int .i64 md]
        have q1 := hBx.cell 1
        have hown1 := hown.alloc (.cells #[.int .i64 htx0, .int .i64 md] 65)
        have hnx : Hid ((L.take k).map Hd.mode ++ [md] = (L.take (k + 1)).map Hd.mode) := Lib.hid (by rw [take_snocG L k _ hx]; simp)
        have hs := cntF_snoc L k _ hx
        have hr := fun j => cntF_le (L.take k) j
        have hlk : (L.take k).length ≤ 1000 := by rw [List.length_take]; omega
        generalize cntF (L.take k) = f at hT1 hs hr
        have hrg : ∀ j, 0 ≤ f j ∧ f j ≤ 1000 := fun j => by have := hr j; omega
        dsimp only at hs
        obtain ⟨n, hn7, hpl, hkd⟩ : ∃ n : Nat, n < 7 ∧ plc md = n ∧ ((mayB md = true ∧ md = n) ∨ (mayB md = false ∧ n = 0)) := by
          by_cases hm : 0 ≤ md ∧ md < 7
          · refine ⟨md.toNat, by omega, by unfold plc; rw [if_pos hm], .inl ⟨by unfold mayB; simp; omega, by omega⟩⟩
          · exact ⟨0, by omega, plc_out md hm, .inr ⟨by unfold mayB; simp; omega, rfl⟩⟩
        rw [hpl] at hs
        have HS := Lib.hid hs
        clear hx hO hT hl hr hlk hs hpl
        go_wp2_with (first
          | (at_builtin; refine wpList_append_one enI_len (by omega) enI_one rfl _ _ 22 rfl (B + 1) 3 i0 _ 8 Try.underlying22 hi hz0 hz1 hz2 rfl _ k _ rfl hown1 md #[.int .i64 md] rfl 3 _ rfl (by simp) (by unfold maxLen; omega) (by omega) (Below.refl _ _) (by simp; omega) ?_; intro v' w5 hown2 HB5 hk5; rw [hnx.out] at hown2; have hT5 := hk5.bk hT1 (fun hh => by have := (hown1.lt _ hh).1; omega); have hBy := hk5.bk hBx (fun hh => by have := (hown.lt _ hh).2; omega); have HB6 := HB1.trans (HB5.mono (Nat.le_succ_of_le hBw)); have q5 := hBy.cell 1))
        clear hown hown1 hT1 hBx HB1 HB5 hk5
        rcases hkd with ⟨hmy, rfl⟩ | ⟨hmy, rfl⟩
        · have HM := Lib.hid hmy
          have c0 := hT5.cell n
          rw [cv_get f n hn7] at c0
          have f0 := hT5.frozen n
          have hT6 := hT5.set n (.int .i64 (f n + 1))
          rw [cv_set f n hn7, ← HS.out] at hT6
          have hown3 := own_keepS hown2 (Keep.set w5 B n (.int .i64 (f n + 1)) (fun i => i = B) rfl) (fun i hi => by omega)
          have HB7 := HB6.setCell (p := ⟨B, n, none⟩) hBw (.int .i64 (f n + 1))
          have hrn := hrg n
          have t0 : IntKind.i64.wrap (f n + 1) = f n + 1 := by rw [IntKind.wrap_i64]; omega
          have hn0 : (0 : Int) ≤ (n : Int) := by omega
          have hn1 : (n : Int) < 7 := by omega
          generalize f n = fn at c0 hT6 hown3 HB7 hrn t0
          clear hT5 hBy hrg hmy hown2 HB6
          go_wp2_with (go_at_call 39; refine (rmay_any _ _).mono ?_; rintro e _ ⟨rfl, rfl⟩; rw [HM.out])
          go_roundw
          case rel => exact ⟨k + 1, by omega, by go_num, hown3, hT6, HB7⟩
          case measure => simp [intOf]; omega
        · have HM := Lib.hid hmy
          have c0 := hT5.cell 0
          rw [cv_get f 0 (by omega)] at c0
          have f0 := hT5.frozen 0
          have hT6 := hT5.set 0 (.int .i64 (f 0 + 1))
          rw [cv_set f 0 (by omega), ← HS.out] at hT6
          have hown3 := own_keepS hown2 (Keep.set w5 B 0 (.int .i64 (f 0 + 1)) (fun i => i = B) rfl) (fun i hi => by omega)
          have HB7 := HB6.setCell (p := ⟨B, 0, none⟩) hBw (.int .i64 (f 0 + 1))
          have hrn := hrg 0
          have t0 : IntKind.i64.wrap (f 0 + 1) = f 0 + 1 := by rw [IntKind.wrap_i64]; omega
          generalize f 0 = fn at c0 hT6 hown3 HB7 hrn t0
          clear hT5 hBy hrg hmy hown2 HB6
          go_wp2_with (go_at_call 39; refine (rmay_any _ _).mono ?_; rintro e _ ⟨rfl, rfl⟩; rw [HM.out])
          go_roundw
          case rel => exact ⟨k + 1, by omega, by go_num, hown3, hT6, HB7⟩
          case measure => simp [intOf]; omega
      · obtain rfl : k = len := by omega
        have hfull : L.take k = L := List.take_of_length_le (by rw [HLL.out]; exact Nat.le_refl _)
        rw [hfull] at hT hown
        obtain ⟨A0, c0_, rfl, hmi⟩ := ints_own hown
        have hmg : grpT (L.map Hd.mode) = modeT L := rfl
        generalize L.map Hd.mode = ms at hmi hmg
        have HMG := Lib.hid hmg
        unfold cv at hT
        generalize hc0 : cntF L 0 = c0 at hT
        generalize hc1 : cntF L 1 = c1 at hT
        generalize hc2 : cntF L 2 = c2 at hT
        generalize hc3 : cntF L 3 = c3 at hT
        generalize hc4 : cntF L 4 = c4 at hT
        generalize hc5 : cntF L 5 = c5 at hT
        generalize hc6 : cntF L 6 = c6 at hT
        have hfin : cv (cntF L) = #[.int .i64 c0, .int .i64 c1, .int .i64 c2, .int .i64 c3, .int .i64 c4, .int .i64 c5, .int .i64 c6] := by unfold cv; rw [hc0, hc1, hc2, hc3, hc4, hc5, hc6]
        have HFC := Lib.hid hfin
        have hld := (hl.below HB).below (below_drew wr)
        have hmd := hmi.below (below_drew wr)
        have hTd : Bk wr.drew B 71 #[.int .i64 c0, .int .i64 c1, .int .i64 c2, .int .i64 c3, .int .i64 c4, .int .i64 c5, .int .i64 c6] := hT.below (below_drew wr)
        have hS0 := gS hTd (Below.refl _ _)
        have HBd : Below w.heap.size w wr.drew := bl_then HB (Nat.le_refl _) (below_drew _)
        have hq := eq7 c0 c1 c2 c3 c4 c5 c6
        have hgd : ∀ (op : BinOp) (a b : Operand) (x y : Array Value) (w : World), (eqGuard op 71 a b (.agg x) (.agg y)).run Try.prog w = .ok () w := fun op a b x y w => run_eqGuard_agg w op 71 a b _ _ (by kernel_rfl)
        clear hfull hc0 hc1 hc2 hc3 hc4 hc5 hc6 hfin hT hown hmi hmg hl HB
        have M1 : True := trivial
        have M2 : True := trivial
        have M3 : True := trivial
        have M4 : True := trivial
        have M5 : True := trivial
        have M6 : True := trivial
        have M7 : True := trivial
        have M8 : True := trivial
        have M9 : True := trivial
        have MA : True := trivial
        have MB : True := trivial
        have MC : True := trivial
        have MD : True := trivial
        have ME : True := trivial
        have MF : True := trivial
        go_wp2_with fail
        first | go_region_held3 (fun w' => Below wr.drew.heap.size wr.drew w' ∧ w'.cell? ⟨B, 0, none⟩ = some (.int .i64 c0) ∧ w'.cell? ⟨B, 1, none⟩ = some (.int .i64 c1) ∧ w'.cell? ⟨B, 2, none⟩ = some (.int .i64 c2) ∧ w'.cell? ⟨B, 3, none⟩ = some (.int .i64 c3) ∧ w'.cell? ⟨B, 4, none⟩ = some (.int .i64 c4) ∧ w'.cell? ⟨B, 5, none⟩ = some (.int .i64 c5) ∧ w'.cell? ⟨B, 6, none⟩ = some (.int .i64 c6))
          (first
            | exact hS0
            | assumption
            | exact gS hTd (bl_then (And.left (by assumption)) (Nat.le_refl _) hb))
          (first
            | (go_at_call 40; (have m_ := M1; clear M1 m_); refine (gmode_any a k cap L _ (by exact hld.below (And.left (by assumption))) (by omega)).mono ?_; rintro e wn ⟨rfl, hb⟩; (try replace hs1 := hs1.below hb); (try replace hs2 := hs2.below hb); (try replace hs3 := hs3.below hb); (try replace hs4 := hs4.below hb))
            | (go_at_call 45; (have m_ := M2; clear M2 m_); refine (rgroup_any A0 k c0_ ms _ (by exact hmd.below (And.left (by assumption)))).mono ?_; rintro e wn ⟨rfl, hb⟩; rw [HMG.out]; (try replace hs1 := hs1.below hb); (try replace hs2 := hs2.below hb); (try replace hs3 := hs3.below hb); (try replace hs4 := hs4.below hb))
            | (go_at_call 42; (have m_ := M3; clear M3 m_); refine (gof_any a k cap L tx _ (by exact hld.below (And.left (by assumption))) (by omega)).mono ?_; rintro e wn ⟨rfl, hb⟩; (try replace hs1 := hs1.below hb); (try replace hs2 := hs2.below hb); (try replace hs3 := hs3.below hb); (try replace hs4 := hs4.below hb))
            | (go_at_call 46; (have m_ := M4; clear M4 m_); refine (rmode_any a k cap L tx _ (by exact hld.below (And.left (by assumption)))).mono ?_; rintro e wn ⟨rfl, hb⟩; (try replace hs1 := hs1.below hb); (try replace hs2 := hs2.below hb); (try replace hs3 := hs3.below hb); (try replace hs4 := hs4.below hb))
            | (go_at_call 41; (have m_ := M5; clear M5 m_); refine (ggoes_any a k cap L tx m _ (by exact hld.below (And.left (by assumption))) (by omega)).mono ?_; rintro e wn ⟨rfl, hb⟩; (try replace hs1 := hs1.below hb); (try replace hs2 := hs2.below hb); (try replace hs3 := hs3.below hb); (try replace hs4 := hs4.below hb))
            | (go_at_call 47; (have m_ := M6; clear M6 m_); refine (rgoes_any a k cap L tx m _ (by exact hld.below (And.left (by assumption)))).mono ?_; rintro e wn ⟨rfl, hb⟩; (try replace hs1 := hs1.below hb); (try replace hs2 := hs2.below hb); (try replace hs3 := hs3.below hb); (try replace hs4 := hs4.below hb))
            | (go_at_call 44; (have m_ := M7; clear M7 m_); refine (gset_any a k cap L tx m _ (by exact hld.below (And.left (by assumption))) hnil (by omega)).mono ?_; rintro e wn ⟨v1, rfl, hown, hb⟩; (try replace hs1 := hs1.below hb); (try replace hs2 := hs2.below hb); (try replace hs3 := hs3.below hb); (try replace hs4 := hs4.below hb); obtain ⟨A1, k1, rfl, hs1, _, _⟩ := SR.own (ok := okHd) enHd_len (by omega) hown HSO.out; clear hown)
            | (go_at_call 49; (have m_ := M8; clear M8 m_); refine (rset_any a k cap L tx m _ (by exact hld.below (And.left (by assumption))) (by omega)).mono ?_; rintro e wn ⟨v2, rfl, hown, hb⟩; (try replace hs1 := hs1.below hb); (try replace hs2 := hs2.below hb); (try replace hs3 := hs3.below hb); (try replace hs4 := hs4.below hb); obtain ⟨A2, k2, rfl, hs2, _, _⟩ := SR.own (ok := okHd) enHd_len (by omega) hown HSO.out; clear hown)
            | (go_at_call 48; (have m_ := M9; clear M9 m_); refine (sameHd_any _ _ _ _ _ _ _ _ _ (by exact hs1) (by exact hs2)).mono ?_; rintro e wn ⟨rfl, hb⟩; clear hs1 hs2; rw [decide_eq_true rfl])
            | (go_at_call 38; (have m_ := MA; clear MA m_); refine (gdrop_any a k cap L tx _ (by exact hld.below (And.left (by assumption))) hnil (by omega)).mono ?_; rintro e wn ⟨v3, rfl, hown, hb⟩; (try replace hs1 := hs1.below hb); (try replace hs2 := hs2.below hb); (try replace hs3 := hs3.below hb); (try replace hs4 := hs4.below hb); obtain ⟨A3, k3, rfl, hs3, _, _⟩ := SR.own (ok := okHd) enHd_len (by omega) hown HDO.out; clear hown)
            | (go_at_call 50; (have m_ := MB; clear MB m_); refine (rdrop_any a k cap L tx _ (by exact hld.below (And.left (by assumption))) (by omega)).mono ?_; rintro e wn ⟨v4, rfl, hown, hb⟩; (try replace hs1 := hs1.below hb); (try replace hs2 := hs2.below hb); (try replace hs3 := hs3.below hb); (try replace hs4 := hs4.below hb); obtain ⟨A4, k4, rfl, hs4, _, _⟩ := SR.own (ok := okHd) enHd_len (by omega) hown HDO.out; clear hown)
            | (go_at_call 48; (have m_ := MC; clear MC m_); refine (sameHd_any _ _ _ _ _ _ _ _ _ (by exact hs3) (by exact hs4)).mono ?_; rintro e wn ⟨rfl, hb⟩; clear hs3 hs4; rw [decide_eq_true rfl])
            | (go_at_call 51; (have m_ := MD; clear MD m_); refine (gcounts_any a k cap L _ (by exact hld.below (And.left (by assumption))) (by omega)).mono ?_; rintro e wn ⟨rfl, hb⟩; rw [HFC.out])
            | (go_at_call 43; (have m_ := ME; clear ME m_); refine (gright_any a k cap L _ (by exact hld.below (And.left (by assumption))) (by omega) hlc hcm').mono ?_; rintro e wn ⟨rfl, hb⟩; (try replace hs1 := hs1.below hb); (try replace hs2 := hs2.below hb); (try replace hs3 := hs3.below hb); (try replace hs4 := hs4.below hb))
            | (go_at_call 52; (have m_ := MF; clear MF m_); refine (rright_any a k cap L _ (by exact hld.below (And.left (by assumption))) (by omega)).mono ?_; rintro e wn ⟨rfl, hb⟩; (try replace hs1 := hs1.below hb); (try replace hs2 := hs2.below hb); (try replace hs3 := hs3.below hb); (try replace hs4 := hs4.below hb))) | fail
        have hfin := bl_then HBd (Nat.le_refl _) (And.left (by assumption : Below wr.drew.heap.size wr.drew wn ∧ _))
        go_wp2
        go_ret
        exact ⟨rfl, hfin⟩
end Go.Proofs.Ythkjkmjcnphjgaa
