/- The statement HistoryDoes: its walk. No condition. -/
import Derived.Test.YtjenchijenkndaaHisI
import Derived.Test.YtjenchijenkndaaHisK
import Derived.Test.YtjenchijenkndaaRed
import Derived.Test.YtjenchijenkndaaSame
set_option linter.unusedVariables false
set_option linter.unusedSimpArgs false
namespace Go.Proofs.Ytjenchijenkndaa
open Go.RowKit (wrap32 wrap64)
open Go.RowKit
theorem sameEg_yes (L : List Eg) (a b : Option Addr) (cn cm : Nat) (w : World) (ha : Egs w a L.length L) (hb : Egs w b L.length L) : Calls Try.prog 17 #[.slice a L.length cn, .slice b L.length cm] w fun e w' => e = .returned (.bool true) ∧ Below w.heap.size w w' := by
  have := sameEg_any a b _ _ cn cm L L w ha hb
  rw [decide_eq_true rfl] at this
  exact this
theorem sameInts_yes (L : List Int) (a b : Option Addr) (cn cm : Nat) (w : World) (ha : Ints w a L.length L) (hb : Ints w b L.length L) : Calls Try.prog 14 #[.slice a L.length cn, .slice b L.length cm] w fun e w' => e = .returned (.bool true) ∧ Below w.heap.size w w' := by
  have := sameInts_any a b _ _ cn cm L L w ha hb
  rw [show sameB L L = true by unfold sameB; simp] at this
  exact this
theorem few_lit (x y : Ev) (hox : okEv x) (hoy : okEv y) (w : World) : Calls Try.prog 6 #[.slice (some ⟨w.heap.size, 0, none⟩) 2 2] (w.alloc (.cells #[.int .i64 x.kind, .int .i64 x.tx, .int .i64 x.n0, .int .i64 x.n1, .int .i64 x.n2, .int .i64 x.n3, .int .i64 x.dep, .int .i64 x.mode, .int .i64 x.val, .slice x.rows.1 x.rows.2.1 x.rows.2.2, .int .i64 x.err, .int .i64 y.kind, .int .i64 y.tx, .int .i64 y.n0, .int .i64 y.n1, .int .i64 y.n2, .int .i64 y.n3, .int .i64 y.dep, .int .i64 y.mode, .int .i64 y.val, .slice y.rows.1 y.rows.2.1 y.rows.2.2, .int .i64 y.err] 31)) fun e w' => e = .returned (.bool (fewL [x, y])) ∧ Below w.heap.size w w' := by
  have hm := SR.made (ok := okEv) enEv_len w 31 #[.int .i64 x.kind, .int .i64 x.tx, .int .i64 x.n0, .int .i64 x.n1, .int .i64 x.n2, .int .i64 x.n3, .int .i64 x.dep, .int .i64 x.mode, .int .i64 x.val, .slice x.rows.1 x.rows.2.1 x.rows.2.2, .int .i64 x.err, .int .i64 y.kind, .int .i64 y.tx, .int .i64 y.n0, .int .i64 y.n1, .int .i64 y.n2, .int .i64 y.n3, .int .i64 y.dep, .int .i64 y.mode, .int .i64 y.val, .slice y.rows.1 y.rows.2.1 y.rows.2.2, .int .i64 y.err] [x, y] rfl (fun z hz => by
    rcases List.mem_cons.1 hz with rfl | hz
    · exact hox
    · rw [List.mem_singleton.1 hz]; exact hoy) (by show 2 ≤ maxLen; unfold maxLen; omega)
  exact (few_any (some ⟨w.heap.size, 0, none⟩) 2 2 [x, y] _ hm).mono fun e w' ⟨he, hb⟩ => ⟨he, bl_then ((Below.refl _ _).alloc (Nat.le_refl _) _) (Nat.le_refl _) hb⟩
set_option maxRecDepth 100000 in
set_option maxHeartbeats 32000000 in
theorem histDoes_walk (a : Option Addr) (len cap : Nat) (L : List Ev) (R : Ev → List Rw) (x y : Ev) (lx ly : List Rw) (tx : Int) (w : World) (hl : Evs w a len L) (hlc : len ≤ cap) (hcm : cap ≤ maxLen) (hnil : a = none → len = 0 ∧ cap = 0) (hR : EvRows w L R) (hx : Rws w x.rows.1 x.rows.2.1 lx) (hy : Rws w y.rows.1 y.rows.2.1 ly) (hox : okEv x) (hoy : okEv y) :
    Calls Try.prog 4 #[.slice a len cap, .agg (evA x), .agg (evA y), .int .i64 tx] w fun e w' => e = .returned (.bool true) ∧ Below w.heap.size w w' := by
  have hcm' : cap ≤ 9223372036854775807 := by unfold maxLen at hcm; exact hcm
  obtain ⟨hO, hP0, hQ0⟩ := ev_box2 x y w
  have HF := Lib.hid (fun W (hb : Below w.heap.size w W) => few_any a len cap L W (hl.below hb))
  have HF2 := Lib.hid (fun W => few_lit x y hox hoy W)
  obtain ⟨PA, hPA⟩ : ∃ PA, PA = w.heap.size := ⟨_, rfl⟩
  obtain ⟨QA, hQA⟩ : ∃ QA, QA = w.heap.size + 1 := ⟨_, rfl⟩
  have HPA := Lib.hid hPA
  have HQA := Lib.hid hQA
  cases hfw : fewL L with
  | false =>
    rw [hfw] at HF
    clear hl hR hx hy hfw hPA hQA hP0 hQ0
    go_enter Try.func4, Try.ntmps4
    go_wp2_with (first
      | (go_at_call 5; refine (awake23 _).mono ?_; rintro e w1 ⟨rfl, hb1⟩; have hB1 := bl_then hO (Nat.le_refl _) hb1)
      | (go_at_call 6; refine (HF.out _ hB1).mono ?_; rintro e w2 ⟨rfl, hb2⟩))
    go_ret
    exact ⟨rfl, bl_then hB1 (Nat.le_refl _) hb2⟩
  | true =>
  rw [hfw] at HF
  have hn : len ≤ 30 := by
    have hll := hl.len
    unfold fewL at hfw
    simp only [Bool.and_eq_true, decide_eq_true_eq] at hfw
    omega
  have HL := Lib.hid hl
  have HRR := Lib.hid hR
  have HX := Lib.hid hx
  have HY := Lib.hid hy
  have HOX := Lib.hid hox
  have HOY := Lib.hid hoy
  have HNIL := Lib.hid hnil
  have HCMX := Lib.hid hcm
  rw [← hQA] at hQ0
  rw [← hPA] at hP0
  clear hl hR hx hy hfw hPA hQA hox hoy hnil hcm
  go_enter Try.func4, Try.ntmps4
  go_upto_region 1 with fail
  rw [← HQA.out, ← HPA.out]
  generalize ((w.alloc (.cells (evA x) 31)).alloc (.cells (evA y) 31)) = w2 at hO hP0 hQ0 ⊢
  have HO := Lib.hid hO
  have hP := hP0
  have hQ := hQ0
  have HC : Hid (∀ W, Below w2.heap.size w2 W → (W.cell? ⟨PA, 0, none⟩ = some (.int .i64 x.kind) ∧ W.cell? ⟨PA, 1, none⟩ = some (.int .i64 x.tx) ∧ W.cell? ⟨PA, 2, none⟩ = some (.int .i64 x.n0) ∧ W.cell? ⟨PA, 3, none⟩ = some (.int .i64 x.n1) ∧ W.cell? ⟨PA, 4, none⟩ = some (.int .i64 x.n2) ∧ W.cell? ⟨PA, 5, none⟩ = some (.int .i64 x.n3) ∧ W.cell? ⟨PA, 6, none⟩ = some (.int .i64 x.dep) ∧ W.cell? ⟨PA, 7, none⟩ = some (.int .i64 x.mode) ∧ W.cell? ⟨PA, 8, none⟩ = some (.int .i64 x.val) ∧ W.cell? ⟨PA, 9, none⟩ = some (.slice x.rows.1 x.rows.2.1 x.rows.2.2) ∧ W.cell? ⟨PA, 10, none⟩ = some (.int .i64 x.err) ∧ W.cell? ⟨QA, 0, none⟩ = some (.int .i64 y.kind) ∧ W.cell? ⟨QA, 1, none⟩ = some (.int .i64 y.tx) ∧ W.cell? ⟨QA, 2, none⟩ = some (.int .i64 y.n0) ∧ W.cell? ⟨QA, 3, none⟩ = some (.int .i64 y.n1) ∧ W.cell? ⟨QA, 4, none⟩ = some (.int .i64 y.n2) ∧ W.cell? ⟨QA, 5, none⟩ = some (.int .i64 y.n3) ∧ W.cell? ⟨QA, 6, none⟩ = some (.int .i64 y.dep) ∧ W.cell? ⟨QA, 7, none⟩ = some (.int .i64 y.mode) ∧ W.cell? ⟨QA, 8, none⟩ = some (.int .i64 y.val) ∧ W.cell? ⟨QA, 9, none⟩ = some (.slice y.rows.1 y.rows.2.1 y.rows.2.2) ∧ W.cell? ⟨QA, 10, none⟩ = some (.int .i64 y.err))) := Lib.hid (fun W h => ⟨(hP.below h).cell 0, (hP.below h).cell 1, (hP.below h).cell 2, (hP.below h).cell 3, (hP.below h).cell 4, (hP.below h).cell 5, (hP.below h).cell 6, (hP.below h).cell 7, (hP.below h).cell 8, (hP.below h).cell 9, (hP.below h).cell 10, (hQ.below h).cell 0, (hQ.below h).cell 1, (hQ.below h).cell 2, (hQ.below h).cell 3, (hQ.below h).cell 4, (hQ.below h).cell 5, (hQ.below h).cell 6, (hQ.below h).cell 7, (hQ.below h).cell 8, (hQ.below h).cell 9, (hQ.below h).cell 10⟩)
  have HB := Below.refl w2.heap.size w2
  clear hO HPA HQA hP hQ
  have M1 : True := trivial
  cases hfw2 : fewL [x, y] with
  | false =>
    rw [hfw2] at HF2
    clear hfw2 hP0 hQ0
    go_wp2_with (first
      | (go_at_call 5; refine (awake23 _).mono ?_; rintro e wn ⟨rfl, hbn⟩; replace HB := bl_then HB (Nat.le_refl _) hbn)
      | (go_at_call 6; (have m_ := M1; clear M1 m_); refine (HF.out _ (HO.out.trans (HB.mono HO.out.size))).mono ?_; rintro e wn ⟨rfl, hbn⟩; replace HB := bl_then HB (Nat.le_refl _) hbn; obtain ⟨y0, y1, y2, y3, y4, y5, y6, y7, y8, y9, y10, y11, y12, y13, y14, y15, y16, y17, y18, y19, y20, y21⟩ := HC.out _ HB)
      | (go_at_call 6; refine (HF2.out _).mono ?_; rintro e wn ⟨rfl, hbn⟩; replace HB := bl_then HB (Nat.le_refl _) hbn))
    go_ret
    exact ⟨rfl, HO.out.trans (HB.mono HO.out.size)⟩
  | true =>
  rw [hfw2] at HF2
  have HE := Lib.hid (fun W (hb : Below w.heap.size w W) => ends_any a len cap L tx W (HL.out.below hb))
  have HRE := Lib.hid (fun W (hb : Below w.heap.size w W) => rends_any a len cap L tx W (HL.out.below hb))
  generalize endI Ev.tx cmE edE L tx = at' at HE HRE
  generalize howE L tx = hw at HE HRE
  clear hfw2
  go_upto_region 7 with (first
    | (go_at_call 5; refine (awake23 _).mono ?_; rintro e wn ⟨rfl, hbn⟩; replace HB := bl_then HB (Nat.le_refl _) hbn)
    | (go_at_call 6; (have m_ := M1; clear M1 m_); refine (HF.out _ (HO.out.trans (HB.mono HO.out.size))).mono ?_; rintro e wn ⟨rfl, hbn⟩; replace HB := bl_then HB (Nat.le_refl _) hbn; obtain ⟨y0, y1, y2, y3, y4, y5, y6, y7, y8, y9, y10, y11, y12, y13, y14, y15, y16, y17, y18, y19, y20, y21⟩ := HC.out _ HB)
    | (go_at_call 6; refine (HF2.out _).mono ?_; rintro e wn ⟨rfl, hbn⟩; replace HB := bl_then HB (Nat.le_refl _) hbn)
    | (go_at_call 8; refine (HE.out _ (HO.out.trans (HB.mono HO.out.size))).mono ?_; rintro e wn ⟨rfl, hbn⟩; replace HB := bl_then HB (Nat.le_refl _) hbn)
    | (go_at_call 13; refine (HRE.out _ (HO.out.trans (HB.mono HO.out.size))).mono ?_; rintro e w7 ⟨rfl, hbn⟩; replace HB := bl_then HB (Nat.le_refl _) hbn))
  clear HC HF HF2 HE HRE hbn y0 y1 y2 y3 y4 y5 y6 y7 y8 y9 y10 y11 y12 y13 y14 y15 y16 y17 y18 y19 y20 y21
  have HBW := Lib.hid (HO.out.trans (HB.mono HO.out.size))
  have HBD := Lib.hid (bl_then HBW.out (Nat.le_refl _) (below_drew w7))
  have hPd : Bk w7.drew PA 31 (evA x) := (hP0.below HB).below (below_drew w7)
  have hQd : Bk w7.drew QA 31 (evA y) := (hQ0.below HB).below (below_drew w7)
  clear hP0 hQ0 HB HO
  have HT : Hid (∀ W, Below w7.drew.heap.size w7.drew W → Below w.heap.size w W) := Lib.hid (fun W h => bl_then HBD.out (Nat.le_refl _) h)
  have HCM := Lib.hid (fun W (h : Below w7.drew.heap.size w7.drew W) => comm_any a len cap L W (HL.out.below (HT.out W h)) (by omega))
  have HRCM := Lib.hid (fun W (h : Below w7.drew.heap.size w7.drew W) => rcomm_any a len cap L W (HL.out.below (HT.out W h)) (by omega))
  generalize commTo Ev.tx cmE edE L L.length = C at HCM HRCM
  have HSI := Lib.hid (fun A1 A2 c1 c2 W h1 h2 => sameInts_yes C A1 A2 c1 c2 W h1 h2)
  have HST := Lib.hid (fun W (h : Below w7.drew.heap.size w7.drew W) => pstrict_any a len cap L W (HL.out.below (HT.out W h)) (by omega))
  have HRST := Lib.hid (fun W (h : Below w7.drew.heap.size w7.drew W) => rstrict_any a len cap L W (HL.out.below (HT.out W h)) (by omega))
  generalize strictE L = bst at HST HRST
  have HED := Lib.hid (fun W (h : Below w7.drew.heap.size w7.drew W) => pedges_any a len cap L W (HL.out.below (HT.out W h)) hlc HCMX.out hn)
  have HRED := Lib.hid (fun W (h : Below w7.drew.heap.size w7.drew W) => redges_any a len cap L W (HL.out.below (HT.out W h)) hn)
  have HAC := Lib.hid (fun W (h : Below w7.drew.heap.size w7.drew W) => pacy_any a len cap L W (HL.out.below (HT.out W h)) hlc HCMX.out hn)
  have HRAC := Lib.hid (fun W (h : Below w7.drew.heap.size w7.drew W) => racy_any a len cap L W (HL.out.below (HT.out W h)) hn)
  have HOKG := Lib.hid (edges_ok L HL.out.all)
  generalize edgesE L = G at HED HRED HAC HRAC HOKG
  generalize acyE G = bac at HAC HRAC
  have HSE := Lib.hid (fun A1 A2 c1 c2 W h1 h2 => sameEg_yes G A1 A2 c1 c2 W h1 h2)
  have HCL := Lib.hid (fun W => pclash_any x y W)
  have HRCL := Lib.hid (fun W => rclash_any x y (okEv_pt HOX.out) (okEv_pt HOY.out) W)
  generalize clashE x y = bcl at HCL HRCL
  have HSM := Lib.hid (fun W (h : Below w7.drew.heap.size w7.drew W) => psame_any x y lx ly W (HX.out.below (HT.out W h)) (HY.out.below (HT.out W h)))
  have HRSM := Lib.hid (fun W (h : Below w7.drew.heap.size w7.drew W) => rsame_any x y lx ly W (HX.out.below (HT.out W h)) (HY.out.below (HT.out W h)))
  generalize sameE x y lx ly = bsm at HSM HRSM
  have HOF := Lib.hid (fun W (h : Below w7.drew.heap.size w7.drew W) => of_any a len cap L tx W (HL.out.below (HT.out W h)) HNIL.out (by omega))
  have HROF := Lib.hid (fun W (h : Below w7.drew.heap.size w7.drew W) => rof_any a len cap L tx W (HL.out.below (HT.out W h)) (by omega))
  have HOKM : Hid (∀ z ∈ L.filter (fun x => !isOf tx x), okEv z) := Lib.hid (fun z hz => HL.out.all z (List.mem_filter.1 hz).1)
  have HSV := Lib.hid (fun A1 A2 c1 c2 W h1 h2 (h : Below w7.drew.heap.size w7.drew W) => sameEvs_yes A1 A2 (L.filter (fun x => !isOf tx x)).length c1 c2 (L.filter (fun x => !isOf tx x)) R W h1 h2 ((HRR.out.below (HT.out W h)).sub (fun z hz => (List.mem_filter.1 hz).1)))
  generalize L.filter (fun x => !isOf tx x) = M at HOF HROF HOKM HSV
  have gS : ∀ w', Below w7.drew.heap.size w7.drew w' → (Below w7.drew.heap.size w7.drew w' ∧ w'.cell? ⟨PA, 0, none⟩ = some (.int .i64 x.kind) ∧ w'.cell? ⟨PA, 1, none⟩ = some (.int .i64 x.tx) ∧ w'.cell? ⟨PA, 2, none⟩ = some (.int .i64 x.n0) ∧ w'.cell? ⟨PA, 3, none⟩ = some (.int .i64 x.n1) ∧ w'.cell? ⟨PA, 4, none⟩ = some (.int .i64 x.n2) ∧ w'.cell? ⟨PA, 5, none⟩ = some (.int .i64 x.n3) ∧ w'.cell? ⟨PA, 6, none⟩ = some (.int .i64 x.dep) ∧ w'.cell? ⟨PA, 7, none⟩ = some (.int .i64 x.mode) ∧ w'.cell? ⟨PA, 8, none⟩ = some (.int .i64 x.val) ∧ w'.cell? ⟨PA, 9, none⟩ = some (.slice x.rows.1 x.rows.2.1 x.rows.2.2) ∧ w'.cell? ⟨PA, 10, none⟩ = some (.int .i64 x.err) ∧ w'.cell? ⟨QA, 0, none⟩ = some (.int .i64 y.kind) ∧ w'.cell? ⟨QA, 1, none⟩ = some (.int .i64 y.tx) ∧ w'.cell? ⟨QA, 2, none⟩ = some (.int .i64 y.n0) ∧ w'.cell? ⟨QA, 3, none⟩ = some (.int .i64 y.n1) ∧ w'.cell? ⟨QA, 4, none⟩ = some (.int .i64 y.n2) ∧ w'.cell? ⟨QA, 5, none⟩ = some (.int .i64 y.n3) ∧ w'.cell? ⟨QA, 6, none⟩ = some (.int .i64 y.dep) ∧ w'.cell? ⟨QA, 7, none⟩ = some (.int .i64 y.mode) ∧ w'.cell? ⟨QA, 8, none⟩ = some (.int .i64 y.val) ∧ w'.cell? ⟨QA, 9, none⟩ = some (.slice y.rows.1 y.rows.2.1 y.rows.2.2) ∧ w'.cell? ⟨QA, 10, none⟩ = some (.int .i64 y.err)) := fun W h => ⟨h, (hPd.below h).cell 0, (hPd.below h).cell 1, (hPd.below h).cell 2, (hPd.below h).cell 3, (hPd.below h).cell 4, (hPd.below h).cell 5, (hPd.below h).cell 6, (hPd.below h).cell 7, (hPd.below h).cell 8, (hPd.below h).cell 9, (hPd.below h).cell 10, (hQd.below h).cell 0, (hQd.below h).cell 1, (hQd.below h).cell 2, (hQd.below h).cell 3, (hQd.below h).cell 4, (hQd.below h).cell 5, (hQd.below h).cell 6, (hQd.below h).cell 7, (hQd.below h).cell 8, (hQd.below h).cell 9, (hQd.below h).cell 10⟩
  have GS := Lib.hid gS
  have hS0 := gS _ (Below.refl _ _)
  clear gS hPd hQd HRR HX HY HOX HOY HNIL HCMX
  first | go_region_held3 (fun w' => Below w7.drew.heap.size w7.drew w' ∧ w'.cell? ⟨PA, 0, none⟩ = some (.int .i64 x.kind) ∧ w'.cell? ⟨PA, 1, none⟩ = some (.int .i64 x.tx) ∧ w'.cell? ⟨PA, 2, none⟩ = some (.int .i64 x.n0) ∧ w'.cell? ⟨PA, 3, none⟩ = some (.int .i64 x.n1) ∧ w'.cell? ⟨PA, 4, none⟩ = some (.int .i64 x.n2) ∧ w'.cell? ⟨PA, 5, none⟩ = some (.int .i64 x.n3) ∧ w'.cell? ⟨PA, 6, none⟩ = some (.int .i64 x.dep) ∧ w'.cell? ⟨PA, 7, none⟩ = some (.int .i64 x.mode) ∧ w'.cell? ⟨PA, 8, none⟩ = some (.int .i64 x.val) ∧ w'.cell? ⟨PA, 9, none⟩ = some (.slice x.rows.1 x.rows.2.1 x.rows.2.2) ∧ w'.cell? ⟨PA, 10, none⟩ = some (.int .i64 x.err) ∧ w'.cell? ⟨QA, 0, none⟩ = some (.int .i64 y.kind) ∧ w'.cell? ⟨QA, 1, none⟩ = some (.int .i64 y.tx) ∧ w'.cell? ⟨QA, 2, none⟩ = some (.int .i64 y.n0) ∧ w'.cell? ⟨QA, 3, none⟩ = some (.int .i64 y.n1) ∧ w'.cell? ⟨QA, 4, none⟩ = some (.int .i64 y.n2) ∧ w'.cell? ⟨QA, 5, none⟩ = some (.int .i64 y.n3) ∧ w'.cell? ⟨QA, 6, none⟩ = some (.int .i64 y.dep) ∧ w'.cell? ⟨QA, 7, none⟩ = some (.int .i64 y.mode) ∧ w'.cell? ⟨QA, 8, none⟩ = some (.int .i64 y.val) ∧ w'.cell? ⟨QA, 9, none⟩ = some (.slice y.rows.1 y.rows.2.1 y.rows.2.2) ∧ w'.cell? ⟨QA, 10, none⟩ = some (.int .i64 y.err))
    (first
      | exact hS0
      | assumption
      | exact GS.out _ (bl_then (And.left (by assumption)) (Nat.le_refl _) hb))
    (first
      | (go_at_call 10; refine (HCM.out _ (And.left (by assumption))).mono ?_; rintro e wn ⟨v1, rfl, hw1, hb⟩; obtain ⟨A1, c1, rfl, hc1⟩ := ints_own hw1; clear hw1; (try replace hc2 := hc2.below hb); (try replace he1 := he1.below hb); (try replace he2 := he2.below hb); (try replace ho1 := ho1.below hb); (try replace ho2 := ho2.below hb))
      | (go_at_call 15; refine (HRCM.out _ (And.left (by assumption))).mono ?_; rintro e wn ⟨v2, rfl, hw2, hb⟩; obtain ⟨A2, c2, rfl, hc2⟩ := ints_own hw2; clear hw2; (try replace hc1 := hc1.below hb); (try replace he1 := he1.below hb); (try replace he2 := he2.below hb); (try replace ho1 := ho1.below hb); (try replace ho2 := ho2.below hb))
      | (go_at_call 14; refine (HSI.out _ _ _ _ _ (by exact hc1) (by exact hc2)).mono ?_; rintro e wn ⟨rfl, hb⟩; (try replace hc1 := hc1.below hb); (try replace hc2 := hc2.below hb); (try replace he1 := he1.below hb); (try replace he2 := he2.below hb); (try replace ho1 := ho1.below hb); (try replace ho2 := ho2.below hb))
      | (go_at_call 7; refine (HST.out _ (And.left (by assumption))).mono ?_; rintro e wn ⟨rfl, hb⟩; (try replace hc1 := hc1.below hb); (try replace hc2 := hc2.below hb); (try replace he1 := he1.below hb); (try replace he2 := he2.below hb); (try replace ho1 := ho1.below hb); (try replace ho2 := ho2.below hb))
      | (go_at_call 16; refine (HRST.out _ (And.left (by assumption))).mono ?_; rintro e wn ⟨rfl, hb⟩; (try replace hc1 := hc1.below hb); (try replace hc2 := hc2.below hb); (try replace he1 := he1.below hb); (try replace he2 := he2.below hb); (try replace ho1 := ho1.below hb); (try replace ho2 := ho2.below hb))
      | (go_at_call 11; refine (HED.out _ (And.left (by assumption))).mono ?_; rintro e wn ⟨v3, rfl, hw3, hb⟩; obtain ⟨A3, c3, rfl, he1, _, _⟩ := SR.own (ok := okEg) enEg_len (by omega) hw3 HOKG.out; clear hw3; (try replace hc1 := hc1.below hb); (try replace hc2 := hc2.below hb); (try replace he2 := he2.below hb); (try replace ho1 := ho1.below hb); (try replace ho2 := ho2.below hb))
      | (go_at_call 18; refine (HRED.out _ (And.left (by assumption))).mono ?_; rintro e wn ⟨v4, rfl, hw4, hb⟩; obtain ⟨A4, c4, rfl, he2, _, _⟩ := SR.own (ok := okEg) enEg_len (by omega) hw4 HOKG.out; clear hw4; (try replace hc1 := hc1.below hb); (try replace hc2 := hc2.below hb); (try replace he1 := he1.below hb); (try replace ho1 := ho1.below hb); (try replace ho2 := ho2.below hb))
      | (go_at_call 17; refine (HSE.out _ _ _ _ _ (by exact he1) (by exact he2)).mono ?_; rintro e wn ⟨rfl, hb⟩; (try replace hc1 := hc1.below hb); (try replace hc2 := hc2.below hb); (try replace he1 := he1.below hb); (try replace he2 := he2.below hb); (try replace ho1 := ho1.below hb); (try replace ho2 := ho2.below hb))
      | (go_at_call 9; refine (HCL.out _).mono ?_; rintro e wn ⟨rfl, hb⟩; (try replace hc1 := hc1.below hb); (try replace hc2 := hc2.below hb); (try replace he1 := he1.below hb); (try replace he2 := he2.below hb); (try replace ho1 := ho1.below hb); (try replace ho2 := ho2.below hb))
      | (go_at_call 19; refine (HRCL.out _).mono ?_; rintro e wn ⟨rfl, hb⟩; (try replace hc1 := hc1.below hb); (try replace hc2 := hc2.below hb); (try replace he1 := he1.below hb); (try replace he2 := he2.below hb); (try replace ho1 := ho1.below hb); (try replace ho2 := ho2.below hb))
      | (go_at_call 20; refine (HSM.out _ (And.left (by assumption))).mono ?_; rintro e wn ⟨rfl, hb⟩; (try replace hc1 := hc1.below hb); (try replace hc2 := hc2.below hb); (try replace he1 := he1.below hb); (try replace he2 := he2.below hb); (try replace ho1 := ho1.below hb); (try replace ho2 := ho2.below hb))
      | (go_at_call 21; refine (HRSM.out _ (And.left (by assumption))).mono ?_; rintro e wn ⟨rfl, hb⟩; (try replace hc1 := hc1.below hb); (try replace hc2 := hc2.below hb); (try replace he1 := he1.below hb); (try replace he2 := he2.below hb); (try replace ho1 := ho1.below hb); (try replace ho2 := ho2.below hb))
      | (go_at_call 23; refine (HOF.out _ (And.left (by assumption))).mono ?_; rintro e wn ⟨v5, rfl, hw5, hb⟩; obtain ⟨A5, c5, rfl, ho1, _, _⟩ := SR.own (ok := okEv) enEv_len (by omega) hw5 HOKM.out; clear hw5; (try replace hc1 := hc1.below hb); (try replace hc2 := hc2.below hb); (try replace he1 := he1.below hb); (try replace he2 := he2.below hb); (try replace ho2 := ho2.below hb))
      | (go_at_call 24; refine (HROF.out _ (And.left (by assumption))).mono ?_; rintro e wn ⟨v6, rfl, hw6, hb⟩; obtain ⟨A6, c6, rfl, ho2, _, _⟩ := SR.own (ok := okEv) enEv_len (by omega) hw6 HOKM.out; clear hw6; (try replace hc1 := hc1.below hb); (try replace hc2 := hc2.below hb); (try replace he1 := he1.below hb); (try replace he2 := he2.below hb); (try replace ho1 := ho1.below hb))
      | (go_at_call 22; refine (HSV.out _ _ _ _ _ (by exact ho1) (by exact ho2) (And.left (by assumption))).mono ?_; rintro e wn ⟨rfl, hb⟩; (try replace hc1 := hc1.below hb); (try replace hc2 := hc2.below hb); (try replace he1 := he1.below hb); (try replace he2 := he2.below hb); (try replace ho1 := ho1.below hb); (try replace ho2 := ho2.below hb))
      | (go_at_call 12; refine (HAC.out _ (And.left (by assumption))).mono ?_; rintro e wn ⟨rfl, hb⟩; (try replace hc1 := hc1.below hb); (try replace hc2 := hc2.below hb); (try replace he1 := he1.below hb); (try replace he2 := he2.below hb); (try replace ho1 := ho1.below hb); (try replace ho2 := ho2.below hb))
      | (go_at_call 25; refine (HRAC.out _ (And.left (by assumption))).mono ?_; rintro e wn ⟨rfl, hb⟩; (try replace hc1 := hc1.below hb); (try replace hc2 := hc2.below hb); (try replace he1 := he1.below hb); (try replace he2 := he2.below hb); (try replace ho1 := ho1.below hb); (try replace ho2 := ho2.below hb))) | fail
  all_goals
    go_wp2_with fail
    go_ret
    exact ⟨by first | rfl | simp, HBD.out.trans (Below.mono (And.left (by assumption)) HBD.out.size)⟩
end Go.Proofs.Ytjenchijenkndaa
