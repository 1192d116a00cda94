/- The reference's On, Edges, Acyclic. No condition. -/
import Derived.Test.YtjenchijenkndaaReb
import Derived.Test.YtjenchijenkndaaHisH
import Derived.Test.YtjenchijenkndaaSeA
import Derived.Deep.Cut
set_option linter.unusedVariables false
set_option linter.unusedSimpArgs false
namespace Go.Proofs.Ytjenchijenkndaa
open Go.RowKit (wrap32 wrap64)
open Go.RowKit Go.Shelf Go.Sort
def onTo (E : List Eg) (k : Nat) : List Int := ((nodesE E).take k).filter fun x => (reachE E x).any fun y => y == x
theorem onTo_step {E : List Eg} {k : Nat} {x : Int} (h : (nodesE E)[k]? = some x) : onTo E (k + 1) = onTo E k ++ (if hasT (reachE E x) x = true then [x] else []) := by
  unfold onTo
  rw [take_snocG _ k x h, List.filter_append]
  congr 1
  rw [List.filter_cons, List.filter_nil]
  rfl
set_option maxRecDepth 100000 in
set_option maxHeartbeats 8000000 in
theorem ron_any (a : Option Addr) (len cap : Nat) (L : List Eg) (w : World) (hl : Egs w a len L) (hn : len ≤ 1000) :
    Calls Try.prog 45 #[.slice a len cap] w (OwnRet enI 3 1 w (onE L)) := by
  obtain ⟨i0, hi0, hz0, hz1, hz2⟩ := info_parts Try.infoI
  have HLN := Lib.hid hl.len
  have HRE := Lib.hid (fun x W (hb : Below w.heap.size w W) => rreach_any a len cap L x W (hl.below hb) hn)
  have HNO := Lib.hid (rnodes_any a len cap L w hl hn)
  have hnl : (nodesE L).length ≤ 2000 := by
    have h1 := nodup_len (D := nodesE L) (M := endE L) (numI_nodup _) (fun y hy => (numI_mem _ _).1 hy)
    rw [endE_len, hl.len] at h1
    omega
  have HTS := Lib.hid (fun k x (h : (nodesE L)[k]? = some x) => onTo_step (E := L) h)
  have HALL : Hid (onTo L (nodesE L).length = onE L) := Lib.hid (by unfold onTo onE; rw [List.take_length])
  clear hl
  generalize nodesE L = C at HNO hnl HTS HALL
  generalize hcl : C.length = m at hnl HALL
  have HCL := Lib.hid hcl
  clear hcl
  go_enter Try.func45, Try.ntmps45
  go_wp2_with (go_at_call 53; refine HNO.out.mono ?_; rintro e w1 ⟨v1, rfl, ho1, hb1⟩; rw [HCL.out] at ho1; obtain ⟨A1, c1, rfl⟩ := own_slice ho1)
  obtain ⟨A4', c4', e4, hi4⟩ := ints_own ho1
  obtain ⟨rfl, rfl⟩ : A1 = A4' ∧ c1 = c4' := by injection e4 with e1 _ e2; exact ⟨e1, e2⟩
  have HI := Lib.hid hi4
  clear ho1 e4 hi4
  have HB1 := Lib.hid hb1
  go_loopw [3, 9] (fun s3 c wr => ∃ (k n : Nat) (D : List Int), k ≤ m ∧ c = .int .i64 k ∧ Hid (onTo L k = D) ∧ Hid (D.length = n) ∧ n ≤ k ∧ wr.ownsRow w1.heap.size 3 1 s3 n (flatV enI D) ∧ Below w1.heap.size w1 wr) (fun _ c _ => m - (intOf c).toNat)
  case atStart => exact ⟨0, 0, [], by omega, rfl, Lib.hid (by simp [onTo]), Lib.hid rfl, Nat.le_refl _, World.ownsRow_nil _ _ _ _, Below.refl _ _⟩
  case round =>
    clear hb1
    obtain ⟨k, n, D, hk, rfl, HD, HDN, hnk, ho, HB⟩ := hrel
    by_cases hlt : k < m
    · obtain ⟨b, off, rfl, d0⟩ := (HI.out.below HB).get hlt
      obtain ⟨x, hx⟩ : ∃ x, C[k]? = some x := ⟨_, List.getElem?_eq_getElem (by rw [HCL.out]; exact hlt)⟩
      rw [show C.getD k 0 = x by rw [List.getD_eq_getElem?_getD, hx]; rfl] at d0
      have HST := Lib.hid (HTS.out k x hx)
      rw [HD.out] at HST
      have HBO := Lib.hid (bl_then HB1.out (Nat.le_refl _) HB)
      have HRX := Lib.hid (HRE.out x wr HBO.out)
      have HO := Lib.hid ho
      have HB' := Lib.hid HB
      generalize reachE L x = R at HRX HST
      have HHS := Lib.hid (fun A c W (h : Ints W A R.length R) => rhas_any A R.length c R x W h)
      clear hx ho HB
      cases hhs : hasT R x with
      | true =>
        rw [hhs] at HHS
        have HN : Hid (onTo L (k + 1) = D ++ [x]) := Lib.hid (by rw [HST.out, hhs]; rfl)
        have HN2 : Hid ((D ++ [x]).length = n + 1) := Lib.hid (by rw [List.length_append, HDN.out]; rfl)
        clear hhs HST
        go_upto_region 6 with (first
          | (go_at_call 55; refine HRX.out.mono ?_; rintro e w2 ⟨v2, rfl, ho2, hb2⟩; obtain ⟨A2, c2, rfl, hi2⟩ := ints_own ho2; clear ho2)
          | (go_at_call 54; refine (HHS.out _ _ _ hi2).mono ?_; rintro e w3 ⟨rfl, hb3⟩))
        have hB3 := bl_then hb2 (Nat.le_refl _) hb3
        have ho3 := own_below HO.out hB3
        have HB3 := bl_then HB'.out (Nat.le_refl _) hB3
        clear hb2 hb3 hi2 hB3
        go_wp2_with (at_builtin; go_loud (refine wpList_append_one enI_len (by omega) enI_one rfl _ _ 35 rfl w1.heap.size 3 i0 _ 8 Try.underlying35 hi0 hz0 hz1 hz2 rfl _ n D rfl ho3 x #[.int .i64 x] rfl 3 _ rfl rfl (by unfold maxLen; omega) (by omega) HB3 HB3.size ?_; intro v' w7 ho' hb7 k7))
        go_roundw
        case rel => exact ⟨k + 1, n + 1, D ++ [x], by omega, by go_num, HN, HN2, by omega, ho', hb7⟩
        case measure => simp [intOf]; omega
      | false =>
        rw [hhs] at HHS
        have HN : Hid (onTo L (k + 1) = D) := Lib.hid (by rw [HST.out, hhs, if_neg (by simp), List.append_nil])
        clear hhs HST
        go_wp2_with (first
          | (go_at_call 55; refine HRX.out.mono ?_; rintro e w2 ⟨v2, rfl, ho2, hb2⟩; obtain ⟨A2, c2, rfl, hi2⟩ := ints_own ho2; clear ho2)
          | (go_at_call 54; refine (HHS.out _ _ _ hi2).mono ?_; rintro e w3 ⟨rfl, hb3⟩))
        have hB3 := bl_then hb2 (Nat.le_refl _) hb3
        have ho3 := own_below HO.out hB3
        have HB3 := bl_then HB'.out (Nat.le_refl _) hB3
        clear hb2 hb3 hi2 hB3
        go_roundw
        case rel => exact ⟨k + 1, n, D, by omega, by go_num, HN, HDN, by omega, ho3, HB3⟩
        case measure => simp [intOf]; omega
    · obtain rfl : k = m := by omega
      have HR : Hid (∀ v, wr.ownsRow w.heap.size 3 1 v n (flatV enI D) → OwnRet enI 3 1 w (onE L) (.returned v) wr) := Lib.hid (fun v h => by
        rw [← HALL.out, HD.out]
        exact ⟨_, rfl, by rw [HDN.out]; exact h, bl_then HB1.out (Nat.le_refl _) HB⟩)
      have HR2 := Lib.hid (HR.out _ (own_weaken ho HB1.out.size))
      clear ho
      go_wp2_with fail
      go_ret
      exact HR2.out
theorem howE_com (L : List Ev) (tx : Int) : (howE L tx == 1) = inCom L tx := by
  rw [inCom_how, Bool.eq_iff_iff]
  simp
set_option maxRecDepth 100000 in
set_option maxHeartbeats 16000000 in
theorem redges_any (a : Option Addr) (len cap : Nat) (L : List Ev) (w : World) (hl : Evs w a len L) (hn : len ≤ 30) :
    Calls Try.prog 18 #[.slice a len cap] w (OwnRet enEg 40 2 w (edgesE L)) := by
  obtain ⟨i0, hi0, hz0, hz1, hz2⟩ := info_parts Try.infoEg
  have HLN := Lib.hid hl.len
  have HL := Lib.hid hl
  have HE := Lib.hid (fun W (hb : Below w.heap.size w W) tx => rends_any a len cap L tx W (hl.below hb))
  have HOL := Lib.hid (fun n => outTo_len L n)
  have HRL := Lib.hid (fun k n => rowTo_len L k n)
  have HALL := Lib.hid hl.all
  clear hl
  go_enter Try.func18, Try.ntmps18
  go_wp2_with fail
  go_loopw [3, 14] (fun s3 c wr => ∃ (k n : Nat) (D : List Eg), k ≤ len ∧ c = .int .i64 k ∧ Hid (outTo L k = D) ∧ Hid (D.length = n) ∧ wr.ownsRow w.heap.size 40 2 s3 n (flatV enEg D) ∧ Below w.heap.size w wr) (fun _ c _ => len - (intOf c).toNat)
  case atStart => exact ⟨0, 0, [], by omega, rfl, Lib.hid rfl, Lib.hid rfl, World.ownsRow_nil _ _ _ _, Below.refl _ _⟩
  case round =>
    obtain ⟨k, n, D, hk, rfl, HD, HDN, ho, HB⟩ := hrel
    by_cases hlt : k < len
    · obtain ⟨b, off, y, rfl, hb, hy, hoky, d0, d1, d2, d3, d4, d5, d6, d7, d8, d9, d10⟩ := Ev_at (HL.out.below HB) hlt
      obtain ⟨al, hBY⟩ := ev_box y wr
      have hB1 := bl_then HB (Nat.le_refl _) al
      have ho1 := own_below ho al
      have HAT := Lib.hid (fun i x (hx : L[i]? = some x) => @edB_at L i k x y hx hy)
      have HCL := Lib.hid (fun x (ox : okEv x) W => rclash_any x y (okEv_pt ox) (okEv_pt hoky) W)
      have HEY := Lib.hid (fun W hb => HE.out W hb y.tx)
      have HKY := Lib.hid (howE_com L y.tx)
      have HOKY := Lib.hid hoky
      clear hy hoky HB ho al
      go_wp2_with fail
      generalize wr.alloc (.cells (evA y) 31) = w1 at hBY hB1 ho1 ⊢
      generalize wr.heap.size = Y at hBY ⊢
      have HBY := Lib.hid hBY
      have HB1 := Lib.hid hB1
      clear d0 d1 d2 d3 d4 d5 d6 d7 d8 d9 d10 hb
      go_loopw [3, 6] (fun s3 c wr => ∃ (i m : Nat) (M : List Eg), i ≤ k ∧ c = .int .i64 i ∧ Hid (D ++ rowTo L k i = M) ∧ Hid (M.length = m) ∧ wr.ownsRow w.heap.size 40 2 s3 m (flatV enEg M) ∧ Bk wr Y 31 (evA y) ∧ Below w.heap.size w wr) (fun _ c _ => k - (intOf c).toNat)
      case atStart => exact ⟨0, n, D, by omega, rfl, Lib.hid (by unfold rowTo; rw [List.append_nil]), HDN, ho1, hBY, hB1⟩
      case round =>
        clear ho1 hBY hB1
        obtain ⟨i, m, M, hi, rfl, HM, HMN, ho, hBY, HB2⟩ := hrel
        have hm9 : m ≤ 10000 := by
          have h1 := HOL.out k
          have h2 := HRL.out k i
          have h3 : k * k ≤ 30 * 30 := Nat.mul_le_mul (by omega) (by omega)
          rw [← HMN.out, ← HM.out, List.length_append, ← HD.out]
          omega
        by_cases hli : i < k
        · obtain ⟨b9, off9, x, he9, hb9, hx, hokx, e0, e1, e2, e3, e4, e5, e6, e7, e8, e9, e10⟩ := Ev_at (HL.out.below HB2) (show i < len by omega)
          obtain ⟨rfl, rfl⟩ : b = b9 ∧ off = off9 := by cases he9; exact ⟨rfl, rfl⟩
          obtain ⟨al, hBX⟩ := ev_box x wr
          have hB3 := bl_then HB2 (Nat.le_refl _) al
          have ho3 := own_below ho al
          have hBY3 := hBY.below al
          obtain ⟨hat1, hat2⟩ := HAT.out i x hx
          have HCX := Lib.hid (fun W => HCL.out x hokx W)
          have HEX := Lib.hid (fun W hb => HE.out W hb x.tx)
          have HRW : Hid (rowTo L k (i + 1) = if edB L i k = true then rowTo L k i ++ [egOf L i k] else rowTo L k i) := Lib.hid rfl
          have hkx := howE_com L x.tx
          have hky := HKY.out
          have x1 := hBX.cell 1
          have yy1 := hBY3.cell 1
          clear he9 hb9 hx hokx HB2 ho hBY al
          generalize howE L x.tx = hwx at HEX hkx
          generalize howE L y.tx = hwy at HEY hky
          generalize endI Ev.tx cmE edE L x.tx = atx at HEX
          generalize endI Ev.tx cmE edE L y.tx = aty at HEY
          rw [← hkx, ← hky] at hat1
          have HAT1 := Lib.hid hat1
          have HAT2 := Lib.hid hat2
          have XB := Lib.hid hBX
          have YB := Lib.hid hBY3
          clear hkx hky hat1 hat2 hBX hBY3
          go_upto_region 11 with (first
            | ((go_at_call 13); (have m_ := ho3); refine (HEX.out _ hB3).mono ?_; rintro e w4 ⟨rfl, hb4⟩; have hB4 := bl_then hB3 (Nat.le_refl _) hb4; have ho4 := own_below ho3 hb4; have XB4 := XB.out.below hb4; have YB4 := YB.out.below hb4; have y41 := YB4.cell 1; clear ho3)
            | ((go_at_call 13); refine (HEY.out _ hB4).mono ?_; rintro e w5 ⟨rfl, hb5⟩; have hB5 := bl_then hB4 (Nat.le_refl _) hb5; have ho5 := own_below ho4 hb5; have XB5 := XB4.below hb5; have YB5 := YB4.below hb5; clear ho4 XB4 YB4))
          clear x1 yy1 y41 hb4 hb5 hB3 hB4 XB YB HEX e0 e1 e2 e3 e4 e5 e6 e7 e8 e9 e10
          generalize wr.heap.size = X at XB5 ⊢
          have xq0 := XB5.cell 0
          have xq1 := XB5.cell 1
          have xq2 := XB5.cell 2
          have xq3 := XB5.cell 3
          have xq4 := XB5.cell 4
          have xq5 := XB5.cell 5
          have xq6 := XB5.cell 6
          have xq7 := XB5.cell 7
          have xq8 := XB5.cell 8
          have xq9 := XB5.cell 9
          have xq10 := XB5.cell 10
          have yq0 := YB5.cell 0
          have yq1 := YB5.cell 1
          have yq2 := YB5.cell 2
          have yq3 := YB5.cell 3
          have yq4 := YB5.cell 4
          have yq5 := YB5.cell 5
          have yq6 := YB5.cell 6
          have yq7 := YB5.cell 7
          have yq8 := YB5.cell 8
          have yq9 := YB5.cell 9
          have yq10 := YB5.cell 10
          have HX5 := Lib.hid XB5
          have HY5 := Lib.hid YB5
          have HO5 := Lib.hid ho5
          have HB5 := Lib.hid hB5
          have hxn : (x.kind != 10) = !(x.kind == 10) := rfl
          have hyn : (y.kind != 10) = !(y.kind == 10) := rfl
          clear XB5 YB5 ho5 hB5
          cases c1 : (hwx == 1) with
          | false =>
            have HN : Hid (D ++ rowTo L k (i + 1) = M) := Lib.hid (by rw [HRW.out, HAT1.out, c1, Bool.false_and, if_neg (by simp), HM.out])
            go_wp2_with fail
            go_roundw
            case rel => exact ⟨i + 1, m, M, by omega, by go_num, HN, HMN, HO5.out, HY5.out, HB5.out⟩
            case measure => simp [intOf]; omega
          | true =>
            cases c2 : (hwy == 1) with
            | false =>
              have HN : Hid (D ++ rowTo L k (i + 1) = M) := Lib.hid (by rw [HRW.out, HAT1.out, c1, c2, Bool.false_and, Bool.and_false, Bool.and_false, if_neg (by simp), HM.out])
              go_wp2_with fail
              go_roundw
              case rel => exact ⟨i + 1, m, M, by omega, by go_num, HN, HMN, HO5.out, HY5.out, HB5.out⟩
              case measure => simp [intOf]; omega
            | true =>
              cases c3 : (x.kind == 10) with
              | true =>
                rw [c3] at hxn
                have HN : Hid (D ++ rowTo L k (i + 1) = M) := Lib.hid (by rw [HRW.out, HAT1.out, c1, c3, Bool.not_true, Bool.false_and, Bool.and_false, if_neg (by simp), HM.out])
                go_wp2_with fail
                go_roundw
                case rel => exact ⟨i + 1, m, M, by omega, by go_num, HN, HMN, HO5.out, HY5.out, HB5.out⟩
                case measure => simp [intOf]; omega
              | false =>
                rw [c3] at hxn
                cases c4 : (y.kind == 10) with
                | true =>
                  rw [c4] at hyn
                  have HN : Hid (D ++ rowTo L k (i + 1) = M) := Lib.hid (by rw [HRW.out, HAT1.out, c1, c2, c3, c4, Bool.not_true, Bool.false_and, Bool.and_false, Bool.and_false, Bool.and_false, if_neg (by simp), HM.out])
                  go_wp2_with fail
                  go_roundw
                  case rel => exact ⟨i + 1, m, M, by omega, by go_num, HN, HMN, HO5.out, HY5.out, HB5.out⟩
                  case measure => simp [intOf]; omega
                | false =>
                  rw [c4] at hyn
                  generalize clashE x y = bc at HCX HAT1
                  cases bc with
                  | false =>
                    have HN : Hid (D ++ rowTo L k (i + 1) = M) := Lib.hid (by rw [HRW.out, HAT1.out, Bool.and_false, Bool.and_false, Bool.and_false, Bool.and_false, if_neg (by simp), HM.out])
                    go_wp2_with (go_at_call 19; refine (HCX.out _).mono ?_; rintro e w6 ⟨rfl, hb6⟩)
                    go_roundw
                    case rel => exact ⟨i + 1, m, M, by omega, by go_num, HN, HMN, own_below HO5.out hb6, HY5.out.below hb6, bl_then HB5.out (Nat.le_refl _) hb6⟩
                    case measure => simp [intOf]; omega
                  | true =>
                    have HN : Hid (D ++ rowTo L k (i + 1) = M ++ [⟨x.tx, y.tx⟩]) := Lib.hid (by rw [HRW.out, HAT1.out, c1, c2, c3, c4, if_pos (by rfl), HAT2.out, ← List.append_assoc, HM.out])
                    have HN2 : Hid ((M ++ [(⟨x.tx, y.tx⟩ : Eg)]).length = m + 1) := Lib.hid (by rw [List.length_append, HMN.out]; rfl)
                    go_upto_region 12 with (go_at_call 19; refine (HCX.out _).mono ?_; rintro e w6 ⟨rfl, hb6⟩)
                    have ho6 := own_below HO5.out hb6
                    have hB6 := bl_then HB5.out (Nat.le_refl _) hb6
                    have hBY6 := HY5.out.below hb6
                    have HBY6 := Lib.hid hBY6
                    have x61 := (HX5.out.below hb6).cell 1
                    have y61 := hBY6.cell 1
                    clear hb6 hBY6 xq0 xq1 xq2 xq3 xq4 xq5 xq6 xq7 xq8 xq9 xq10 yq0 yq1 yq2 yq3 yq4 yq5 yq6 yq7 yq8 yq9 yq10
                    go_wp2_with (at_builtin; go_loud (refine wpList_append_one enEg_len (by omega) enEg_one rfl _ _ 37 rfl w.heap.size 40 i0 _ 16 Try.underlying37 hi0 hz0 hz1 hz2 rfl _ m M rfl ho6 ⟨x.tx, y.tx⟩ #[.int .i64 x.tx, .int .i64 y.tx] rfl 40 _ rfl (by simp) (by unfold maxLen; omega) (by omega) hB6 hB6.size ?_; intro v' w7 ho' hb7 k7))
                    have hBY7 := k7.bk HBY6.out (row_ne ho6 HBY6.out (by decide))
                    go_roundw
                    case rel => exact ⟨i + 1, m + 1, M ++ [⟨x.tx, y.tx⟩], by omega, by go_num, HN, HN2, ho', hBY7, hb7⟩
                    case measure => simp [intOf]; omega
        · obtain rfl : i = k := by omega
          have HN : Hid (outTo L (i + 1) = M) := Lib.hid (by rw [← HM.out, ← HD.out]; rfl)
          go_wp2_with fail
          go_roundw
          case rel => exact ⟨i + 1, m, M, by omega, by go_num, HN, HMN, ho, HB2⟩
          case measure => simp [intOf]; omega
    · obtain rfl : k = len := by omega
      have HT : Hid (outTo L L.length = D) := Lib.hid (by rw [HLN.out]; exact HD.out)
      have hn9 : n ≤ 1000 := by
        have h1 := HOL.out k
        have h3 : k * k ≤ 30 * 30 := Nat.mul_le_mul (by omega) (by omega)
        rw [← HDN.out, ← HD.out]; omega
      have hokD : ∀ x ∈ D, okEg x := fun e he => by
        refine edges_ok L HALL.out e ?_
        unfold edgesE
        rw [sortEg_mem, HT.out]
        exact he
      obtain ⟨A5, c5, rfl, hs5, _, _⟩ := SR.own (ok := okEg) enEg_len (by omega) ho hokD
      have HS := Lib.hid (rsort_any A5 n c5 D wr hs5 hn9)
      clear ho hs5 hokD
      go_wp2_with (go_at_call 37; refine HS.out.mono ?_; rintro e w2 ⟨v2, rfl, ho2, hb2⟩; obtain ⟨A2, c2, rfl⟩ := own_slice ho2)
      have HR : Hid (OwnRet enEg 40 2 w (edgesE L) (.returned (.slice A2 (sortEg D).length c2)) w2) := Lib.hid (by
        unfold edgesE
        rw [HT.out]
        exact ⟨_, rfl, own_weaken ho2 HB.size, bl_then HB (Nat.le_refl _) hb2⟩)
      go_ret
      exact HR.out
theorem len0 (R : List Int) : (((R.length : Nat) : Int) == 0) = decide (R.length = 0) := by
  rw [Bool.eq_iff_iff, beq_iff_eq, decide_eq_true_iff]
  omega
set_option maxHeartbeats 4000000 in
theorem racy_any (a : Option Addr) (len cap : Nat) (L : List Ev) (w : World) (hl : Evs w a len L) (hn : len ≤ 30) :
    Calls Try.prog 25 #[.slice a len cap] w fun e w' => e = .returned (.bool (acyE (edgesE L))) ∧ Below w.heap.size w w' := by
  have HED := Lib.hid (redges_any a len cap L w hl hn)
  have hok := edges_ok L hl.all
  have hgl := edges_len L (by rw [hl.len]; exact hn)
  generalize edgesE L = G at HED hok hgl ⊢
  have HOK := Lib.hid hok
  have HON := Lib.hid (fun A c W (h : Egs W A G.length G) => ron_any A G.length c G W h (by omega))
  have HV := Lib.hid (onE_nil G)
  generalize onE G = R at HON HV
  clear hl hok
  go_enter Try.func25, Try.ntmps25
  go_wp2_with (first
    | (go_at_call 18; refine HED.out.mono ?_; rintro e w1 ⟨v, rfl, hown, hb1⟩; obtain ⟨A1, c1, rfl, hs1, _, _⟩ := SR.own (ok := okEg) enEg_len (by omega) hown HOK.out; clear hown)
    | (go_at_call 45; refine (HON.out _ _ _ hs1).mono ?_; rintro e w2 ⟨v2, rfl, hown2, hb2⟩; obtain ⟨A2, c2, rfl⟩ := own_slice hown2))
  go_ret
  exact ⟨by rw [← HV.out, ← len0]; rfl, bl_then hb1 (Nat.le_refl _) hb2⟩
end Go.Proofs.Ytjenchijenkndaa
