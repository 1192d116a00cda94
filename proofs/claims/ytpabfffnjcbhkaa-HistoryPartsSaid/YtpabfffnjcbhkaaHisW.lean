/- The statement HistoryParts: the walk. No condition. -/
import Derived.Test.YtpabfffnjcbhkaaHis
import Derived.Test.YtpabfffnjcbhkaaHisA
import Derived.Test.YtpabfffnjcbhkaaMapB
set_option linter.unusedVariables false
set_option linter.unusedSimpArgs false
namespace Go.Proofs.Ytpabfffnjcbhkaa
open Go.RowKit (wrap32 wrap64)
open Go.RowKit
def inT (C : List Int) (k : Nat) (z : Int) : Bool := (C.take k).any fun y => y == z
theorem inT_snoc (C : List Int) (k : Nat) (y : Int) (h : C[k]? = some y) : (fun z => z == y || inT C k z) = inT C (k + 1) := by
  funext z
  unfold inT
  rw [take_snocG C k y h, List.any_append]
  have : [y].any (fun x => x == z) = (z == y) := by
    simp only [List.any_cons, List.any_nil, Bool.or_false]
    rw [Bool.eq_iff_iff, beq_iff_eq, beq_iff_eq]
    exact ⟨fun h => h.symm, fun h => h.symm⟩
  rw [this, Bool.or_comm]
theorem inT_new (C : List Int) (hC : C.Nodup) (k : Nat) (y : Int) (h : C[k]? = some y) : inT C k y = false := by
  cases hh : inT C k y with
  | false => rfl
  | true =>
    unfold inT at hh
    obtain ⟨x, hx, e⟩ := List.any_eq_true.1 hh
    have e := beq_iff_eq.1 e
    subst e
    have hsp : C = C.take k ++ x :: C.drop (k + 1) := by
      obtain ⟨h1, h2⟩ := List.getElem?_eq_some_iff.1 h
      conv => lhs; rw [← List.take_append_drop k C, List.drop_eq_getElem_cons h1, h2]
    rw [hsp, List.nodup_append] at hC
    exact absurd rfl (hC.2.2 x hx x (by simp))
theorem seenT_fun (L : List Ev) (k : Nat) (x : Ev) (h : L[k]? = some x) : (fun z => z == x.tx || seenT Ev.tx L k z) = seenT Ev.tx L (k + 1) := by
  funext z
  rw [seenT_snoc Ev.tx L k x h, Bool.or_comm]
  congr 1
  rw [Bool.eq_iff_iff, beq_iff_eq, beq_iff_eq]
  exact ⟨fun h => h.symm, fun h => h.symm⟩
theorem of_len (L : List Ev) (tx : Int) : (L.filter fun x => !isOf tx x).length = (L.filter fun x => x.tx == tx).length := by
  congr 1
  apply List.filter_congr
  intro x _
  unfold isOf bne
  simp
set_option maxRecDepth 100000 in
set_option maxHeartbeats 8000000 in
theorem histParts_walk (a : Option Addr) (len cap : Nat) (L : List Ev) (w : World) (hl : Evs w a len L) (hnil : a = none → len = 0 ∧ cap = 0) :
    Calls Try.prog 3 #[.slice a len cap] w fun e w' => e = .returned (.bool true) ∧ Below w.heap.size w w' := by
  have hlm := hl.max
  have hll := hl.len
  have HF := Lib.hid (fun W (hb : Below w.heap.size w W) => few_any a len cap L W (hl.below hb))
  cases hfw : fewL L with
  | false =>
    rw [hfw] at HF
    clear hl
    go_enter Try.func3, Try.ntmps3
    go_wp2_with (first
      | (go_at_call 4; refine (awake23 _).mono ?_; rintro e w1 ⟨rfl, hb1⟩)
      | (go_at_call 5; refine (HF.out _ hb1).mono ?_; rintro e w2 ⟨rfl, hb2⟩))
    go_ret
    exact ⟨rfl, bl_then hb1 (Nat.le_refl _) hb2⟩
  | true =>
    rw [hfw] at HF
    have hl30 : len ≤ 30 := by
      unfold fewL at hfw
      simp only [Bool.and_eq_true, decide_eq_true_eq] at hfw
      omega
    have HLW := Lib.hid hl
    have HLL := Lib.hid hll
    have HNIL := Lib.hid hnil
    have hcm : ∀ W, Below w.heap.size w W → Calls Try.prog 6 #[.slice a len cap] W (OwnRet enI 3 1 W (commTo Ev.tx cmE edE L L.length)) := fun W hb => comm_any a len cap L W (hl.below hb) (by omega)
    have hclen := commTo_len L L.length
    have hnd := commTo_nodup Ev.tx cmE edE L L.length
    have hmem := fun x h => commTo_mem Ev.tx cmE edE L L.length x h
    generalize commTo Ev.tx cmE edE L L.length = C at hcm hclen hnd hmem
    generalize hcl : C.length = m at hclen
    have HCL := Lib.hid hcl
    have HCM := Lib.hid hcm
    have HND := Lib.hid hnd
    have HMEM := Lib.hid hmem
    have hm30 : m ≤ 30 := by omega
    have hmk := fun W => run_makeMap (P := Try.prog) 25 W
    clear hl hll hnil hcm hclen hnd hmem hcl hfw
    go_enter Try.func3, Try.ntmps3
    go_wp2_with (first
      | (go_at_call 4; refine (awake23 _).mono ?_; rintro e w1 ⟨rfl, hb1⟩)
      | (go_at_call 5; refine (HF.out _ hb1).mono ?_; rintro e w2 ⟨rfl, hb2⟩; have hb12 := bl_then hb1 (Nat.le_refl _) hb2; have hM0 := MapB.made w2; have hb3 := hb12.alloc hb12.size (.map #[] 0))
      | (go_at_call 6; refine (HCM.out _ hb3).mono ?_; rintro e w4 ⟨v, rfl, hown, hb4⟩; rw [HCL.out] at hown; obtain ⟨A4, c4, rfl, _, _, _⟩ := SR.own (ok := fun _ => True) enI_len (by omega) hown (fun _ _ => trivial)))
    have hbm : w.heap.size ≤ w2.heap.size := hb12.size
    have hbm2 : w2.heap.size < (w2.alloc (.map #[] 0)).heap.size := by simp
    have hM4 := hM0.below hb4
    have hb04 := bl_then hb3 (Nat.le_refl _) hb4
    generalize (w2.alloc (.map #[] 0)).heap.size = B4 at hown hbm2
    generalize w2.heap.size = bm at hM4 hbm hbm2 ⊢
    rw [show (fun _ => false) = inT C 0 from by funext z; simp [inT]] at hM4
    clear hb1 hb2 hb12 hM0 hb3 hb4
    go_loopw [21] (fun c wr => ∃ k cnt : Nat, k ≤ m ∧ c = .int .i64 k ∧ MapB wr bm cnt (inT C k) ∧ cnt ≤ k ∧ wr.ownsRow B4 3 1 (.slice A4 m c4) m (flatV enI C) ∧ Below w.heap.size w wr) (fun c _ => m - (intOf c).toNat)
    case atStart => exact ⟨0, 0, by omega, rfl, hM4, by omega, hown, hb04⟩
    case round =>
      obtain ⟨k, cnt, hk, rfl, hM, hcnt, ho, HB⟩ := hrel
      clear hM4 hown hb04
      by_cases hlt : k < m
      · obtain ⟨y, hy⟩ : ∃ y, C[k]? = some y := ⟨_, List.getElem?_eq_getElem (by rw [HCL.out]; exact hlt)⟩
        obtain ⟨A4', c4', e4, hi4⟩ := ints_own ho
        obtain ⟨rfl, rfl⟩ : A4 = A4' ∧ c4 = c4' := by injection e4 with e1 _ e2; exact ⟨e1, e2⟩
        obtain ⟨b4, off4, rfl, d0⟩ := hi4.get hlt
        rw [show C.getD k 0 = y by rw [List.getD_eq_getElem?_getD, hy]; rfl] at d0
        obtain ⟨q, e, hq, hend, he, htx, hce⟩ := HMEM.out y (List.mem_of_getElem? hy)
        have hql : q < len := by have := HLL.out; omega
        obtain ⟨be, offe, x, hae, hbe, hx, hokx, f0, f1, f2, f3, f4, f5, f6, f7, f8, f9, f10⟩ := Ev_at (HLW.out.below HB) hql
        rw [he] at hx
        cases hx
        have hkind : e.kind = 9 := by simpa [cmE] using hce
        rw [hkind] at f0
        have hw := hokx.2.1
        rw [htx] at hw
        have hhow := (how_iff (L := L) he).2 ⟨by rw [htx]; exact hend, hce⟩
        rw [htx] at hhow
        have hen := fun W (hb : Below w.heap.size w W) => ends_any a len cap L y W (HLW.out.below hb)
        rw [hhow.1, hhow.2] at hen
        have HE := Lib.hid (hen wr HB)
        have hlook := hM.look y hw
        rw [inT_new C HND.out k y hy] at hlook
        have HS := Lib.hid (inT_snoc C k y hy)
        have HM := Lib.hid hM
        have HMB := Lib.hid hM.lt
        have hM9 := fun W (hb : Below wr.heap.size wr W) => (hM.below hb)
        have HM9 := Lib.hid hM9
        have HY := Lib.hid hy
        subst hae
        have HG : Hid (∀ W, Below wr.heap.size wr W → (Instr.lookup 25 (.map (some bm)) (.int .i64 y) false).run Try.prog W = .ok (.bool false) W ∧ W.cell? ⟨be, offe + q * 11, none⟩ = some (.int .i64 9)) := Lib.hid (fun W hb => ⟨by have := (hM9 W hb).look y hw; rw [inT_new C HND.out k y hy] at this; exact this, (hb.cell (p := ⟨be, _, none⟩) hbe).trans f0⟩)
        have HW := Lib.hid hw
        clear hi4 e4 hM hhow hen he hce hokx hkind f0 f1 f2 f3 f4 f5 f6 f7 f8 f9 f10 hlook hM9 hy htx hend
        go_wp2_with (first
          | (go_at_call 7; refine HE.out.mono ?_; rintro e w6 ⟨rfl, hb6⟩; obtain ⟨hlook, hkc⟩ := HG.out _ hb6)
          | (at_mapUpdate; refine wpList_putB rfl _ _ _ rfl rfl (HM9.out _ hb6) (by unfold maxLen; omega) y rfl HW.out rfl ?_; intro w12 hM12 k12))
        go_roundw
        case rel => exact ⟨k + 1, cnt + 1, by omega, by go_num, by rw [← HS.out]; exact hM12, by omega, own_keepS (own_below ho hb6) k12 (fun i hi => by omega), bl_keep (bl_then HB (Nat.le_refl _) hb6) k12 (fun i hi => by omega)⟩
        case measure => simp [intOf]; omega
      · obtain rfl : k = m := by omega
        clear hM ho hlt HCL HND HMEM HCM HF
        have hM2 := MapB.made wr
        have hB2 := HB.alloc HB.size (.map #[] 0)
        have hbs : w.heap.size ≤ wr.heap.size := HB.size
        generalize wr = w7 at hM2 hB2 hbs ⊢
        go_wp2
        generalize w7.alloc (.map #[] 0) = w8 at hM2 hB2 ⊢
        generalize w7.heap.size = bs at hM2 hbs ⊢
        rw [show (fun _ => false) = seenT Ev.tx L 0 from by funext z; simp [seenT]] at hM2
        go_loopw [8, 52] (fun s8 c wr => ∃ k cnt : Nat, k ≤ len ∧ c = .int .i64 k ∧ s8 = .int .i64 (sumTo Ev.tx L k) ∧ MapB wr bs cnt (seenT Ev.tx L k) ∧ cnt ≤ k ∧ Below w.heap.size w wr) (fun _ c _ => len - (intOf c).toNat)
        case atStart => exact ⟨0, 0, by omega, rfl, by rw [sumTo_zero]; rfl, hM2, by omega, hB2⟩
        case round =>
          obtain ⟨k2, cnt, hk2, rfl, rfl, hM, hcnt, HB2⟩ := hrel
          clear hM2 hB2
          have hsl : sumTo Ev.tx L k2 ≤ 30 := by
            unfold sumTo
            have := List.length_filter_le (fun e => seenT Ev.tx L k2 (Ev.tx e)) L
            have := HLL.out
            omega
          by_cases hlt : k2 < len
          · obtain ⟨b, off, x, rfl, hb, hx, hok, d0, d1, d2, d3, d4, d5, d6, d7, d8, d9, d10⟩ := Ev_at (HLW.out.below HB2) hlt
            have hw := hok.2.1
            have HFUN := Lib.hid (seenT_fun L k2 x hx)
            have HNEW := Lib.hid (sumTo_new Ev.tx L k2 x hx)
            have HSEEN := Lib.hid (sumTo_seen Ev.tx L k2 x hx)
            have hof := fun W (hb : Below w.heap.size w W) => of_any (some ⟨b, off, none⟩) len cap L x.tx W (HLW.out.below hb) HNIL.out (by omega)
            have hol := of_len L x.tx
            have hol2 := List.length_filter_le (fun y : Ev => y.tx == x.tx) L
            have hlook := fun W (hb : Below wr.heap.size wr W) => (hM.below hb).look x.tx hw
            have HSK := Lib.hid (fun (hs : seenT Ev.tx L k2 x.tx = true) => show seenT Ev.tx L (k2 + 1) = seenT Ev.tx L k2 by
              rw [← seenT_fun L k2 x hx]
              funext z
              cases hz : (z == x.tx) with
              | false => rfl
              | true => rw [beq_iff_eq.1 hz, hs]; rfl)
            obtain ⟨kd, tx, n0, n1, n2, n3, dp, mo, va, ⟨ra, rl, rc⟩, er⟩ := x
            dsimp only at d0 d1 d2 d3 d4 d5 d6 d7 d8 d9 d10 hw HFUN HNEW HSEEN hof hol hol2 hlook HSK
            have hO : Below wr.heap.size wr (wr.alloc (.cells #[.int .i64 kd, .int .i64 tx, .int .i64 n0, .int .i64 n1, .int .i64 n2, .int .i64 n3, .int .i64 dp, .int .i64 mo, .int .i64 va, .slice ra rl rc, .int .i64 er] 36)) := (Below.refl _ _).alloc (Nat.le_refl _) _
            have hD := Bk.new wr 36 #[.int .i64 kd, .int .i64 tx, .int .i64 n0, .int .i64 n1, .int .i64 n2, .int .i64 n3, .int .i64 dp, .int .i64 mo, .int .i64 va, .slice ra rl rc, .int .i64 er]
            have hlk := hlook _ hO
            have hne : bs ≠ wr.heap.size := by have := hM.lt; omega
            have HOF := Lib.hid hof
            have HMO := Lib.hid (hM.below hO)
            have hbO := bl_then HB2 (Nat.le_refl _) hO
            have HD := Lib.hid hD
            have HB3 := Lib.hid hbO
            have hLle := HLL.out
            rw [← hol] at hol2
            have HW := Lib.hid hw
            cases hsn : seenT Ev.tx L k2 tx with
            | true =>
              rw [hsn] at hlk
              have HE1 := Lib.hid (HSEEN.out hsn)
              have HE2 := Lib.hid (HSK.out hsn)
              clear hx hok hof hlook hM hol hol2 hsn hD hO
              go_wp2
              go_roundw
              case rel => exact ⟨k2 + 1, cnt, by omega, by go_num, by rw [HE1.out], by rw [HE2.out]; exact HMO.out, by omega, HB3.out⟩
              case measure => simp [intOf]; omega
            | false =>
              rw [hsn] at hlk
              have hnew := HNEW.out hsn
              rw [← hol] at hnew
              generalize hnf : (L.filter fun x => !isOf tx x).length = nf at hnew hol2
              have HNF := Lib.hid hnf
              have hwr : IntKind.i64.wrap (((sumTo Ev.tx L k2 : Nat) : Int) + (nf : Int)) = ((sumTo Ev.tx L k2 : Nat) : Int) + (nf : Int) := by rw [IntKind.wrap_i64]; omega
              have HN := Lib.hid hnew
              clear hx hok hof hlook hM hol hsn hD hnf hnew
              generalize sumTo Ev.tx L k2 = sk at hwr HN hsl ⊢
              go_wp2_with (first
                | (at_mapUpdate; refine wpList_putB rfl _ _ _ rfl rfl HMO.out (by unfold maxLen; omega) tx rfl HW.out rfl ?_; intro w12 hM12 k12; have hD12 := k12.bk HD.out (fun e => hne e.symm); have y1 := hD12.cell 1; have hb12 := bl_keep HB3.out k12 (fun i hi => by omega))
                | (go_at_call 8; refine (HOF.out _ hb12).mono ?_; rintro e w13 ⟨v, rfl, hown, hb13⟩; rw [HNF.out] at hown; obtain ⟨A13, c13, rfl, _, _, _⟩ := SR.own (ok := fun _ => True) enEv_len (by omega) hown (fun _ _ => trivial)))
              go_roundw
              case rel => exact ⟨k2 + 1, cnt + 1, by omega, by go_num, by rw [HN.out]; go_num, by rw [← HFUN.out]; exact hM12.below hb13, by omega, bl_then hb12 (Nat.le_refl _) hb13⟩
              case measure => simp [intOf]; omega
          · obtain rfl : k2 = len := by omega
            have hall := sumTo_all Ev.tx L
            rw [HLL.out] at hall
            rw [hall]
            clear hM hall hsl
            go_wp2
            go_ret
            exact ⟨rfl, HB2⟩
end Go.Proofs.Ytpabfffnjcbhkaa
