/- history: Edges of any events. No condition. -/
import Derived.Test.YtjenchijenkndaaHisF
import Derived.Test.YtjenchijenkndaaHisG
import Derived.Test.YtjenchijenkndaaHisW
import Derived.Test.YtjenchijenkndaaMapE
import Derived.Lib.SliceRun
set_option linter.unusedVariables false
set_option linter.unusedSimpArgs false
namespace Go.Proofs.Ytjenchijenkndaa
open Go.RowKit (wrap32 wrap64)
open Go.RowKit
theorem own_lower {w : World} {b1 b2 n : Nat} {e : TypeId} {size : Nat} {v : Value} {xs : List Value} (h : w.ownsRow b1 e size v n xs) (hb : b2 ≤ b1) : w.ownsRow b2 e size v n xs :=
  ⟨h.1, h.2.imp id (fun ⟨g, cap, cur, e, hg, rest⟩ => ⟨g, cap, cur, e, Nat.le_trans hb hg, rest⟩)⟩
theorem inT_all (L : List Ev) : inT (comE L) (comE L).length = inCom L := by
  funext z
  unfold inT inCom
  rw [List.take_length]
theorem memB_nil : (fun e => decide (e ∈ ([] : List Eg))) = fun _ => false := by funext e; simp
theorem memB_snoc (O : List Eg) (y : Eg) : (fun z => decide (z = y) || decide (z ∈ O)) = fun z => decide (z ∈ O ++ [y]) := by
  funext z
  rw [Bool.eq_iff_iff]
  simp [or_comm]
theorem Ev_sub {w : World} {b off n : Nat} {L : List Ev} (h : Evs w (some ⟨b, off, none⟩) n L) {p j : Nat} (hi : p + j < n) : ∃ x : Ev, b < w.heap.size ∧ L[p + j]? = some x ∧ okEv x ∧ w.cell? ⟨b, off + p * 11 + j * 11, none⟩ = some (.int .i64 x.kind) ∧ w.cell? ⟨b, off + p * 11 + j * 11 + 1, none⟩ = some (.int .i64 x.tx) ∧ w.cell? ⟨b, off + p * 11 + j * 11 + 2, none⟩ = some (.int .i64 x.n0) ∧ w.cell? ⟨b, off + p * 11 + j * 11 + 3, none⟩ = some (.int .i64 x.n1) ∧ w.cell? ⟨b, off + p * 11 + j * 11 + 4, none⟩ = some (.int .i64 x.n2) ∧ w.cell? ⟨b, off + p * 11 + j * 11 + 5, none⟩ = some (.int .i64 x.n3) ∧ w.cell? ⟨b, off + p * 11 + j * 11 + 6, none⟩ = some (.int .i64 x.dep) ∧ w.cell? ⟨b, off + p * 11 + j * 11 + 7, none⟩ = some (.int .i64 x.mode) ∧ w.cell? ⟨b, off + p * 11 + j * 11 + 8, none⟩ = some (.int .i64 x.val) ∧ w.cell? ⟨b, off + p * 11 + j * 11 + 9, none⟩ = some (.slice x.rows.1 x.rows.2.1 x.rows.2.2) ∧ w.cell? ⟨b, off + p * 11 + j * 11 + 10, none⟩ = some (.int .i64 x.err) := by
  obtain ⟨b', off', x, he, hb, hx, hok, d0, d1, d2, d3, d4, d5, d6, d7, d8, d9, d10⟩ := Ev_at h hi
  obtain ⟨rfl, rfl⟩ : b = b' ∧ off = off' := by cases he; exact ⟨rfl, rfl⟩
  have e : off + (p + j) * 11 = off + p * 11 + j * 11 := by rw [Nat.add_mul, Nat.add_assoc]
  rw [e] at d0 d1 d2 d3 d4 d5 d6 d7 d8 d9 d10
  exact ⟨x, hb, hx, hok, d0, d1, d2, d3, d4, d5, d6, d7, d8, d9, d10⟩
theorem row_ne {w : World} {b n g : Nat} {e t : TypeId} {size : Nat} {v : Value} {xs : List Value} {cs : Array Value} (h : w.ownsRow b e size v n xs) (hb : Bk w g t cs) (hne : e ≠ t) : ¬ v.ownBlock = some g := by
  rcases h.2 with ⟨rfl, _⟩ | ⟨g', cap, cur, rfl, _, hg, _⟩
  · intro e; cases e
  · intro e2
    obtain rfl : g' = g := by cases e2; rfl
    have h2 : w.heap[g']? = some (.cells cs t (0, 0)) := hb
    rw [hg] at h2
    injection h2 with h2
    injection h2 with _ h3
    exact hne h3
theorem eg_box (x : Eg) (w : World) : Below w.heap.size w (w.alloc (.cells (egA x) 40)) ∧ Bk (w.alloc (.cells (egA x) 40)) w.heap.size 40 (egA x) := ⟨(Below.refl _ _).alloc (Nat.le_refl _) _, Bk.new w _ _⟩
set_option maxRecDepth 100000 in
set_option maxHeartbeats 8000000 in
theorem pedges_any (a : Option Addr) (len cap : Nat) (L : List Ev) (w : World) (hl : Evs w a len L) (hlc : len ≤ cap) (hcm : cap ≤ maxLen) (hn : len ≤ 30) :
    Calls Try.prog 11 #[.slice a len cap] w (OwnRet enEg 40 2 w (edgesE L)) := by
  obtain ⟨i0, hi0, hz0, hz1, hz2⟩ := info_parts Try.infoEg
  have hcm' : cap ≤ 9223372036854775807 := by unfold maxLen at hcm; exact hcm
  have HLN := Lib.hid hl.len
  have HL := Lib.hid hl
  have hcmm : ∀ W, Below w.heap.size w W → Calls Try.prog 10 #[.slice a len cap] W (OwnRet enI 3 1 W (comE L)) := fun W hb => comm_any a len cap L W (hl.below hb) (by omega)
  have hclen := commTo_len L L.length
  have hall := inT_all L
  have hwf : ∀ x ∈ comE L, (Lit.int .i64 x).wf = true := fun x hx => by
    obtain ⟨k, e, _, _, h2, h3, _⟩ := commTo_mem Ev.tx cmE edE L _ _ hx
    rw [← h3]
    exact okEv_tx (hl.all e (List.mem_of_getElem? h2))
  have HFIN := Lib.hid (fun O (h : MetE L L.length 0 O) => h.perm)
  have HSRT := Lib.hid (edges_srt L)
  have HGL := Lib.hid (edges_len L (by rw [HLN.out]; exact hn))
  generalize edgesE L = G at HFIN HSRT HGL ⊢
  change (comE L).length ≤ L.length at hclen
  generalize comE L = C at hcmm hclen hall hwf
  generalize hcl : C.length = m at hclen hall
  have HCL := Lib.hid hcl
  have HCM := Lib.hid hcmm
  have HALL := Lib.hid hall
  have HWF := Lib.hid hwf
  have hm30 : m ≤ 30 := by have := HLN.out; omega
  have hmk := fun W => run_makeMap (P := Try.prog) 48 W
  have hmk2 := fun W => run_makeMap (P := Try.prog) 49 W
  clear hcmm hclen hall hwf hcl hcm hl
  go_enter Try.func11, Try.ntmps11
  go_wp2_with fail
  have hM0 := MapB.made w
  have hb3 : Below w.heap.size w (w.alloc (.map #[] 0)) := (Below.refl _ _).alloc (Nat.le_refl _) _
  go_wp2_with (go_at_call 10; refine (HCM.out _ hb3).mono ?_; rintro e w4 ⟨v, rfl, hown, hb4⟩; rw [HCL.out] at hown; obtain ⟨A4, c4, rfl, _, _, _⟩ := SR.own (ok := fun _ => True) enI_len (by omega) hown (fun _ _ => trivial))
  have hbm2 : w.heap.size < (w.alloc (.map #[] 0)).heap.size := by simp
  have hM4 := hM0.below hb4
  have hb04 := bl_then hb3 (Nat.le_refl _) hb4
  have hw0 : w.heap.size ≤ w.heap.size := Nat.le_refl _
  generalize (w.alloc (.map #[] 0)).heap.size = B4 at hown hbm2
  generalize hBM : w.heap.size = bm at hM4 hbm2 hw0 ⊢
  rw [show (fun _ => false) = inT C 0 from by funext z; simp [inT]] at hM4
  have HBM := Lib.hid hBM
  clear hM0 hb3 hb4 hBM
  go_loopw [17] (fun c wr => ∃ k cnt : Nat, k ≤ m ∧ c = .int .i64 k ∧ MapB wr bm cnt (inT C k) ∧ cnt ≤ k ∧ wr.ownsRow B4 3 1 (.slice A4 m c4) m (flatV enI C) ∧ Below w.heap.size w wr) (fun c _ => m - (intOf c).toNat)
  case atStart => exact ⟨0, 0, by omega, rfl, hM4, by omega, hown, hb04⟩
  case round =>
    obtain ⟨k, cnt, hk, rfl, hM, hcnt, ho, HB⟩ := hrel
    clear hM4 hown hb04
    by_cases hlt : k < m
    · obtain ⟨y, hy⟩ : ∃ y, C[k]? = some y := ⟨_, List.getElem?_eq_getElem (by rw [HCL.out]; exact hlt)⟩
      obtain ⟨A4', c4', e4, hi4⟩ := ints_own ho
      obtain ⟨rfl, rfl⟩ : A4 = A4' ∧ c4 = c4' := by injection e4 with e1 _ e2; exact ⟨e1, e2⟩
      obtain ⟨b4, off4, rfl, d0⟩ := hi4.get hlt
      rw [show C.getD k 0 = y by rw [List.getD_eq_getElem?_getD, hy]; rfl] at d0
      have hw := HWF.out y (List.mem_of_getElem? hy)
      have HW := Lib.hid hw
      have HSN := Lib.hid (inT_snoc C k y hy)
      have HB' := Lib.hid HB
      have HO' := Lib.hid ho
      have hbm3 := Lib.hid hbm2
      clear hy hw e4 hi4 HB ho
      go_wp2_with (refine wpList_putB rfl (.tmp 21) (.tmp 22) (.const (.bool true)) rfl rfl hM (by unfold maxLen; omega) y rfl HW.out rfl ?_; intro w9 hM9 hk9; rw [HSN.out] at hM9)
      have hB9 := bl_keep HB'.out hk9 (fun i hi => by rw [hi]; have := HBM.out; omega)
      have ho9 := own_keepS HO'.out hk9 (fun i hi => by rw [hi]; exact hbm3.out)
      clear hk9
      go_roundw
      case rel => exact ⟨k + 1, cnt + 1, by omega, by go_num, hM9, by omega, ho9, hB9⟩
      case measure => simp [intOf]; omega
    · obtain rfl : k = m := by omega
      rw [HALL.out] at hM
      have hMm := MapE.made wr
      have al := (Below.refl wr.heap.size wr).alloc (Nat.le_refl _) (.map #[] 0)
      have hM2 := hM.below al
      have hbmlt := hM.lt
      have hB2 := bl_then HB (Nat.le_refl _) al
      have HZ : Hid ((wr.alloc (.map #[] 0)).heap.size = wr.heap.size + 1) := Lib.hid (World.size_alloc _ _)
      rw [← memB_nil] at hMm
      clear hM ho hbm2
      go_wp2_with fail
      generalize wr.alloc (.map #[] 0) = w6 at hMm hM2 hB2 HZ ⊢
      generalize wr.heap.size = be at hMm hbmlt HZ ⊢
      obtain ⟨B6, hB6⟩ : ∃ B6, B6 = w6.heap.size := ⟨_, rfl⟩
      have hbe : be < B6 := by rw [hB6, HZ.out]; omega
      have hbw : bm < B6 := by omega
      have hw6 : w.heap.size ≤ bm := by rw [HBM.out]; exact Nat.le_refl _
      have HB6 := Lib.hid hB6
      clear hB6 HZ al HB
      go_loopw [7, 27] (fun v7 c wr => ∃ (i : Nat) (O : List Eg) (n : Nat), i ≤ len ∧ c = .int .i64 i ∧ Hid (MetE L i 0 O) ∧ Hid (O.length = n) ∧ wr.ownsRow B6 40 2 v7 n (flatV enEg O) ∧ MapE wr be n (fun e => decide (e ∈ O)) ∧ MapB wr bm cnt (inCom L) ∧ Below w.heap.size w wr ∧ B6 ≤ wr.heap.size) (fun _ c _ => len - (intOf c).toNat)
      case atStart => exact ⟨0, [], 0, by omega, rfl, Lib.hid (MetE.start L), Lib.hid rfl, World.ownsRow_nil _ _ _ _, hMm, hM2, hB2, by rw [HB6.out]; exact Nat.le_refl _⟩
      case round =>
        clear hMm hM2 hB2 HB6
        obtain ⟨i, O, n, hi, rfl, HMET, HON, ho, hME, hMB, HB, hsz⟩ := hrel
        by_cases hlt : i < len
        · obtain ⟨b, off, x, rfl, hb, hx, hokx, d0, d1, d2, d3, d4, d5, d6, d7, d8, d9, d10⟩ := Ev_at (HL.out.below HB) hlt
          have hbx := Bk.new wr 31 (evA x)
          have al := (Below.refl wr.heap.size wr).alloc (Nat.le_refl _) (.cells (evA x) 31)
          have hMBa := hMB.below al
          have hMEa := hME.below al
          have hBa := bl_then HB (Nat.le_refl _) al
          have hoa := own_below ho al
          have hsa : B6 ≤ (wr.alloc (.cells (evA x) 31)).heap.size := by rw [World.size_alloc]; omega
          have hlk := hMBa.look x.tx (okEv_tx hokx)
          have HNO := Lib.hid (fun h => @edB_no L i x hx h)
          have HBX := Lib.hid hbx
          have q0 := hbx.cell 0
          have q1 := hbx.cell 1
          cases hin : inCom L x.tx with
          | false =>
            rw [hin] at hlk
            have HM2 := Lib.hid (HMET.out.skip (HNO.out (by rw [hin]; rfl)))
            clear hbx hx hokx hMB hME ho HB al hin
            go_wp2_with fail
            go_roundw
            case rel => exact ⟨i + 1, O, n, by omega, by go_num, HM2, HON, hoa, hMEa, hMBa, hBa, hsa⟩
            case measure => simp [intOf]; omega
          | true =>
            rw [hin] at hlk
            cases hkd : (x.kind == 10) with
            | true =>
              have HM2 := Lib.hid (HMET.out.skip (HNO.out (by rw [hin, hkd]; rfl)))
              clear hbx hx hokx hMB hME ho HB al hin
              go_wp2_with fail
              go_roundw
              case rel => exact ⟨i + 1, O, n, by omega, by go_num, HM2, HON, hoa, hMEa, hMBa, hBa, hsa⟩
              case measure => simp [intOf]; omega
            | false =>
              have HXI := Lib.hid (fun k y (hy : L[k]? = some y) => @edB_at L i k x y hx hy)
              rw [hin, hkd] at HXI
              have HCX := Lib.hid (fun y W => pclash_any x y W)
              have HOX := Lib.hid hokx
              have HMET1 := Lib.hid HMET.out.into
              have HBX7 := Lib.hid hbx
              clear hbx hx hokx hMB hME ho HB al hin HMET HNO HBX
              by_cases hcp : cap = i + 1
              · obtain rfl : len = i + 1 := by omega
                go_wp2_with fail
                go_loopw [7, 47] (fun v7 c wr1 => v7 = u7 ∧ c = .int .i64 0 ∧ wr1 = wr.alloc (.cells (evA x) 31)) (fun _ _ _ => 1)
                case atStart => exact ⟨rfl, rfl, rfl⟩
                case round =>
                  obtain ⟨rfl, rfl, rfl⟩ := hrel
                  have HM2 := Lib.hid (MetE.back (L := L) (i := i) (O := O) (by rw [HLN.out]; exact HMET1.out) (by rw [HLN.out]; exact hn))
                  have z0 : i + 1 - (i + 1) = 0 := by omega
                  have z1 : ¬ (0 < i + 1 - (i + 1)) := by omega
                  go_wp2_with fail
                  go_roundw
                  case rel => exact ⟨i + 1, O, n, by omega, by go_num, HM2, HON, hoa, hMEa, hMBa, hBa, hsa⟩
                  case measure => simp [intOf]
              · have hcp2 : i + 1 ≤ cap := by omega
                go_wp2_with fail
                clear hlk q0 q1 hkd
                generalize hm1 : len - (i + 1) = m1
                have HM1 := Lib.hid hm1
                have hm1' : m1 + (i + 1) = len := by omega
                have HM1' := Lib.hid hm1'
                clear hm1 hm1'
                have hXB : B6 ≤ wr.heap.size := hsz
                have hbw7 : wr.heap.size < (wr.alloc (.cells (evA x) 31)).heap.size := by rw [World.size_alloc]; omega
                generalize wr.alloc (.cells (evA x) 31) = w7 at hMEa hMBa hBa hoa hsa HBX7 hbw7 ⊢
                generalize wr.heap.size = X at HBX7 hbw7 hXB ⊢
                clear hsz
                go_loopw [7, 47] (fun v7 c wr => ∃ (j : Nat) (O : List Eg) (n : Nat), j ≤ m1 ∧ c = .int .i64 j ∧ Hid (MetE L i (i + 1 + j) O) ∧ Hid (O.length = n) ∧ wr.ownsRow B6 40 2 v7 n (flatV enEg O) ∧ MapE wr be n (fun e => decide (e ∈ O)) ∧ MapB wr bm cnt (inCom L) ∧ Below w.heap.size w wr ∧ B6 ≤ wr.heap.size ∧ Bk wr X 31 (evA x)) (fun _ c _ => m1 - (intOf c).toNat)
                case atStart => exact ⟨0, O, n, by omega, rfl, HMET1, HON, hoa, hMEa, hMBa, hBa, hsa, HBX7.out⟩
                case round =>
                  clear hMEa hMBa hBa hoa hsa HBX7 HMET1 HON
                  obtain ⟨j, O, n, hj, rfl, HMET, HON, ho, hME, hMB, HB, hsz, hBX⟩ := hrel
                  by_cases hlj : j < m1
                  · have hij : i + 1 + j < len := by have := HM1'.out; omega
                    obtain ⟨y, hb9, hy, hoky, e0, e1, e2, e3, e4, e5, e6, e7, e8, e9, e10⟩ := Ev_sub (HL.out.below HB) hij
                    have HAT := Lib.hid (HXI.out _ y hy)
                    obtain ⟨al1, hBY⟩ := ev_box y wr
                    have hBX1 := hBX.below al1
                    have hMB1 := hMB.below al1
                    have hME1 := hME.below al1
                    have hB1 := bl_then HB (Nat.le_refl _) al1
                    have ho1 := own_below ho al1
                    have HOKE : Hid (okEg ⟨x.tx, y.tx⟩) := Lib.hid ⟨okEv_tx HOX.out, okEv_tx hoky⟩
                    have HOKY := Lib.hid (okEv_tx hoky)
                    have HIJL : Hid (i + 1 + j < L.length) := Lib.hid (by rw [HLN.out]; exact hij)
                    have HCY := Lib.hid (fun W => HCX.out y W)
                    have hsz1 : B6 ≤ (wr.alloc (.cells (evA y) 31)).heap.size := by rw [World.size_alloc]; omega
                    clear hy hoky hBX hMB hME HB ho al1
                    obtain ⟨al2, hBE⟩ := eg_box ⟨x.tx, y.tx⟩ (wr.alloc (.cells (evA y) 31))
                    have hBX2 := hBX1.below al2
                    have hBY2 := hBY.below al2
                    have hMB2 := hMB1.below al2
                    have hME2 := hME1.below al2
                    have hB2 := bl_then hB1 (Nat.le_refl _) al2
                    have ho2 := own_below ho1 al2
                    have hsz2 : B6 ≤ ((wr.alloc (.cells (evA y) 31)).alloc (.cells (egA ⟨x.tx, y.tx⟩) 40)).heap.size := by rw [World.size_alloc]; omega
                    rw [World.size_alloc] at hBE
                    have x1 := hBX1.cell 1
                    have yy1 := hBY.cell 1
                    clear hMB1 hME1 ho1 hB1 al2 hsz1
                    obtain ⟨⟨hat1, hat2⟩⟩ : Nonempty (edB L i (i + 1 + j) = (true && (!false && (inCom L y.tx && (!(y.kind == 10) && clashE x y)))) ∧ egOf L i (i + 1 + j) = ⟨x.tx, y.tx⟩) := ⟨HAT.out⟩
                    have HEG := Lib.hid hat2
                    have hlk := hMB2.look y.tx HOKY.out
                    have HYB : Hid (B6 ≤ wr.heap.size) := Lib.hid hsz
                    go_upto_region 17 with fail
                    clear x1 yy1 hBX1 hBY e0 e1 e2 e3 e4 e5 e6 e7 e8 e9 e10
                    generalize ((wr.alloc (.cells (evA y) 31)).alloc (.cells (egA ⟨x.tx, y.tx⟩) 40)) = w8 at hBX2 hBY2 hBE hMB2 hME2 hB2 ho2 hsz2 hlk ⊢
                    generalize wr.heap.size = Y at hBY2 hBE HYB ⊢
                    have HNX : Hid (¬ X = be) := Lib.hid (by omega)
                    have HNE : Hid (¬ (Y + 1) = be) := Lib.hid (by have := HYB.out; omega)
                    have HON8 := Lib.hid ho2
                    have HME8 := Lib.hid hME2
                    have HMB8 := Lib.hid hMB2
                    have HB8 := Lib.hid hB2
                    have HX8 := Lib.hid hBX2
                    have XC := Lib.hid (fun W (h : Below w8.heap.size w8 W) => (hBX2.below h))
                    have YC := Lib.hid (fun W (h : Below w8.heap.size w8 W) => (hBY2.below h))
                    have EC := Lib.hid (fun W (h : Below w8.heap.size w8 W) => (hBE.below h))
                    have yq0 := hBY2.cell 0
                    have yq1 := hBY2.cell 1
                    have xq0 := hBX2.cell 0
                    have xq1 := hBX2.cell 1
                    have xq2 := hBX2.cell 2
                    have xq3 := hBX2.cell 3
                    have xq4 := hBX2.cell 4
                    have xq5 := hBX2.cell 5
                    have xq6 := hBX2.cell 6
                    have xq7 := hBX2.cell 7
                    have xq8 := hBX2.cell 8
                    have xq9 := hBX2.cell 9
                    have xq10 := hBX2.cell 10
                    have yq0 := hBY2.cell 0
                    have yq1 := hBY2.cell 1
                    have yq2 := hBY2.cell 2
                    have yq3 := hBY2.cell 3
                    have yq4 := hBY2.cell 4
                    have yq5 := hBY2.cell 5
                    have yq6 := hBY2.cell 6
                    have yq7 := hBY2.cell 7
                    have yq8 := hBY2.cell 8
                    have yq9 := hBY2.cell 9
                    have yq10 := hBY2.cell 10
                    have ec0 := hBE.cell 0
                    have ec1 := hBE.cell 1
                    clear HAT hBX2 hBY2 hBE hMB2 hME2 hB2 ho2
                    cases hiy : inCom L y.tx with
                    | false =>
                      have HM2 := Lib.hid (HMET.out.no (by rw [hat1, hiy]; rfl))
                      rw [hiy] at hlk
                      clear hat1 hiy
                      go_wp2_with fail
                      go_roundw
                      case rel => exact ⟨j + 1, O, n, by omega, by go_num, HM2, HON, HON8.out, HME8.out, HMB8.out, HB8.out, hsz2, HX8.out⟩
                      case measure => simp [intOf]; omega
                    | true =>
                      rw [hiy] at hlk hat1
                      clear hiy
                      cases hky : (y.kind == 10) with
                      | true =>
                        have HM2 := Lib.hid (HMET.out.no (by rw [hat1, hky]; rfl))
                        have hkn : (y.kind != 10) = false := by unfold bne; rw [hky]; rfl
                        clear hat1
                        go_wp2_with fail
                        go_roundw
                        case rel => exact ⟨j + 1, O, n, by omega, by go_num, HM2, HON, HON8.out, HME8.out, HMB8.out, HB8.out, hsz2, HX8.out⟩
                        case measure => simp [intOf]; omega
                      | false =>
                        have hkn : (y.kind != 10) = true := by unfold bne; rw [hky]; rfl
                        rw [hky] at hat1
                        generalize clashE x y = bc at HCY hat1
                        cases bc with
                        | false =>
                          have HM2 := Lib.hid (HMET.out.no (by rw [hat1]; rfl))
                          clear hat1
                          go_wp2_with (go_at_call 9; refine (HCY.out _).mono ?_; rintro e w9 ⟨rfl, hb9⟩)
                          have hsz9 := Nat.le_trans hsz2 hb9.size
                          go_roundw
                          case rel => exact ⟨j + 1, O, n, by omega, by go_num, HM2, HON, own_below HON8.out hb9, HME8.out.below hb9, HMB8.out.below hb9, bl_then HB8.out (Nat.le_refl _) hb9, hsz9, XC.out _ hb9⟩
                          case measure => simp [intOf]; omega
                        | true =>
                          have HED := Lib.hid (show edB L i (i + 1 + j) = true by rw [hat1]; rfl)
                          clear hat1
                          by_cases hm : (⟨x.tx, y.tx⟩ : Eg) ∈ O
                          · have HM2 := Lib.hid (HMET.out.had HED.out (by omega) HIJL.out (by rw [HEG.out]; exact hm))
                            have hdm : decide ((⟨x.tx, y.tx⟩ : Eg) ∈ O) = true := decide_eq_true hm
                            have HDM := Lib.hid hdm
                            clear hm hdm
                            go_wp2_with (go_at_call 9; refine (HCY.out _).mono ?_; rintro e w9 ⟨rfl, hb9⟩; have ex0 := (EC.out _ hb9).cell 0; have ex1 := (EC.out _ hb9).cell 1; have hlk2 := (HME8.out.below hb9).look ⟨x.tx, y.tx⟩ HOKE.out; rw [HDM.out] at hlk2)
                            have hsz9 := Nat.le_trans hsz2 hb9.size
                            go_roundw
                            case rel => exact ⟨j + 1, O, n, by omega, by go_num, HM2, HON, own_below HON8.out hb9, HME8.out.below hb9, HMB8.out.below hb9, bl_then HB8.out (Nat.le_refl _) hb9, hsz9, XC.out _ hb9⟩
                            case measure => simp [intOf]; omega
                          · have HM2 := Lib.hid (HMET.out.new HED.out (by omega) HIJL.out (by rw [HEG.out]; exact hm))
                            rw [HEG.out] at HM2
                            have hdm : decide ((⟨x.tx, y.tx⟩ : Eg) ∈ O) = false := decide_eq_false hm
                            have HDM := Lib.hid hdm
                            have hn9 : n ≤ 30 * i + (i + 1 + j) := by have := HMET.out.len; rw [HON.out] at this; exact this
                            have HMS := Lib.hid (memB_snoc O ⟨x.tx, y.tx⟩)
                            have HON2 : Hid ((O ++ [(⟨x.tx, y.tx⟩ : Eg)]).length = n + 1) := Lib.hid (by rw [List.length_append, HON.out]; rfl)
                            clear hm hdm
                            go_wp2_with (first
                              | (go_at_call 9; refine (HCY.out _).mono ?_; rintro e w9 ⟨rfl, hb9⟩; have ex0 := (EC.out _ hb9).cell 0; have ex1 := (EC.out _ hb9).cell 1; have hlk2 := (HME8.out.below hb9).look ⟨x.tx, y.tx⟩ HOKE.out; rw [HDM.out] at hlk2)
                              | (refine wpList_putE rfl (.tmp 76) (.tmp 77) (.const (.bool true)) rfl rfl (HME8.out.below hb9) (by unfold maxLen; omega) ⟨x.tx, y.tx⟩ rfl HOKE.out rfl ?_; intro w10 hM10 hk10; rw [HMS.out] at hM10; have HM10 := Lib.hid hM10; have HB10 := Lib.hid (bl_keep (bl_then HB8.out (Nat.le_refl _) hb9) hk10 (fun i hi => by rw [hi]; omega)); have HO10 := Lib.hid (own_keepS (own_below HON8.out hb9) hk10 (fun i hi => by rw [hi]; omega)); have HMB10 := Lib.hid ((HMB8.out.below hb9).keep hk10 (fun e => by omega)); have HSZ10 : Hid (B6 ≤ w10.heap.size) := Lib.hid (by have := hb9.size; have := hk10.size; omega); have HX10 := Lib.hid (hk10.bk (XC.out _ hb9) (fun e => HNX.out e)); have hE10 := hk10.bk (EC.out _ hb9) (fun e => HNE.out e); have ez0 := hE10.cell 0; have ez1 := hE10.cell 1; clear hM10 hk10 hE10 ex0 ex1 hlk2)
                              | (at_builtin; go_loud (refine wpList_append_one enEg_len (by omega) enEg_one rfl _ _ 37 rfl B6 40 i0 _ 16 Try.underlying37 hi0 hz0 hz1 hz2 rfl _ n O rfl HO10.out ⟨x.tx, y.tx⟩ #[.int .i64 x.tx, .int .i64 y.tx] rfl 40 _ rfl (by simp) (by unfold maxLen; omega) (by omega) (Below.refl _ w10) HSZ10.out ?_; intro v' w11 ho11 HB11 hk11)))
                            go_roundw
                            case rel => exact ⟨j + 1, O ++ [(⟨x.tx, y.tx⟩ : Eg)], n + 1, by omega, by go_num, HM2, HON2, ho11, HM10.out.keep hk11 (fun e => by have := (HO10.out.lt _ e).1; omega), HMB10.out.keep hk11 (fun e => by have := (HO10.out.lt _ e).1; omega), bl_keep HB10.out hk11 (fun i e => by have := (HO10.out.lt i e).1; omega), Nat.le_trans HSZ10.out hk11.size, hk11.bk HX10.out (fun e => row_ne HO10.out HX10.out (by decide) e)⟩
                            case measure => simp [intOf]; omega
                  · obtain rfl : j = m1 := by omega
                    have HM2 := Lib.hid (MetE.back (L := L) (i := i) (O := O) (by rw [HLN.out]; have := HM1'.out; rw [show i + 1 + j = len by omega] at HMET; exact HMET.out) (by rw [HLN.out]; exact hn))
                    go_wp2_with fail
                    go_roundw
                    case rel => exact ⟨i + 1, O, n, by omega, by go_num, HM2, HON, ho, hME, hMB, HB, hsz⟩
                    case measure => simp [intOf]; omega
        · obtain rfl : i = len := by omega
          have HPM : Hid (O.Perm G) := Lib.hid (HFIN.out O (by rw [HLN.out]; exact HMET.out))
          have HN9 : Hid (n ≤ 1000) := Lib.hid (by have := HMET.out.len; rw [HON.out] at this; omega)
          have HS := Lib.hid (edgesort_any B6 u7 n O G wr ho HPM.out HSRT.out HN9.out)
          have hwB : w.heap.size ≤ B6 := by omega
          have HBW := Lib.hid (fun i e => (ho.lt i e).1)
          go_wp2_with (go_at_call 29; refine HS.out.mono ?_; rintro e w9 ⟨rfl, ho9, k9⟩)
          have HRET : Hid (OwnRet enEg 40 2 w G (.returned u7) w9) := Lib.hid ⟨u7, rfl, by rw [← HPM.out.length_eq, HON.out]; exact own_lower ho9 hwB, bl_keep HB k9 (fun i e => by have := HBW.out i e; omega)⟩
          go_ret
          exact HRET.out
end Go.Proofs.Ytjenchijenkndaa
