/- serial: Run, Final, Equal. No condition. -/
import Derived.Test.YtjbhlckdaghppaaSeB
import Derived.Test.YtjbhlckdaghppaaSeA
set_option linter.unusedVariables false
set_option linter.unusedSimpArgs false
namespace Go.Proofs.Ytjbhlckdaghppaa
open Go.RowKit (wrap32 wrap64)
open Go.RowKit Go.Shelf Go.Sort Go.Lib
abbrev ofL (L : List Ev) (tx : Int) : List Ev := L.filter fun x => !isOf tx x
def runT (R : Ev → List Rw) (L : List Ev) (s : Sx) (tx : Int) : Sx := ⟨(oneL R s.E (ofL L tx)).E, s.ok && (oneL R s.E (ofL L tx)).ok⟩
/-- One behind the other. -/
def runL (R : Ev → List Rw) (L : List Ev) : Sx := (commTo Ev.tx cmE edE L L.length).foldl (runT R L) ⟨[], true⟩
def wrE (x : Ev) : Bool := x.kind == 7 || x.kind == 10
def finT (E : List Cl) (x : Ev) : List Cl := if wrE x = true then (putT E (evP x) x.val).E else E
/-- As they come. -/
def finL (L : List Ev) : List Cl := L.foldl finT []
theorem of_le (L : List Ev) (tx : Int) : (ofL L tx).length ≤ L.length := List.length_filter_le _ _
theorem runT_ok {R : Ev → List Rw} {L : List Ev} {s : Sx} {K : Nat} (tx : Int) (h : OkE s.E K) (hx : ∀ x ∈ L, okEv x) (hn : L.length ≤ 30) : OkE (runT R L s tx).E (K + 30) :=
  (oneL_ok (R := R) (s := ⟨s.E, true⟩) (ofL L tx) h (fun x hm => hx x (List.mem_filter.1 hm).1)).mono (by have := of_le L tx; omega)
theorem runs_ok {R : Ev → List Rw} {L : List Ev} (hx : ∀ x ∈ L, okEv x) (hn : L.length ≤ 30) (C : List Int) {s : Sx} {K : Nat} (h : OkE s.E K) : OkE (C.foldl (runT R L) s).E (K + 30 * C.length) := by
  induction C generalizing s K with
  | nil => exact h
  | cons t C ih =>
    have := ih (runT_ok (R := R) t h hx hn)
    rw [List.length_cons]
    exact this.mono (by omega)
theorem runL_ok {R : Ev → List Rw} {L : List Ev} (hx : ∀ x ∈ L, okEv x) (hn : L.length ≤ 30) : OkE (runL R L).E 900 :=
  (runs_ok hx hn _ ok0).mono (by have := commTo_len L L.length; omega)
theorem finT_ok {E : List Cl} {x : Ev} {K : Nat} (h : OkE E K) (hx : okEv x) : OkE (finT E x) (K + 1) := by
  unfold finT
  split
  · exact putT_ok h (okEv_p hx) x.val
  · exact h.mono (Nat.le_succ _)
theorem fins_ok (L : List Ev) {E : List Cl} {K : Nat} (h : OkE E K) (hx : ∀ x ∈ L, okEv x) : OkE (L.foldl finT E) (K + L.length) := by
  induction L generalizing E K with
  | nil => exact h
  | cons x L ih =>
    have := ih (finT_ok h (hx x (by simp))) (fun y hy => hx y (by simp [hy]))
    rw [List.length_cons]
    exact this.mono (by omega)
theorem finL_ok {L : List Ev} (hx : ∀ x ∈ L, okEv x) (hn : L.length ≤ 30) : OkE (finL L) 900 := (fins_ok L ok0 hx).mono (by omega)
theorem fin_snoc {L : List Ev} {k : Nat} {x : Ev} (hx : L[k]? = some x) (E : List Cl) : (L.take (k + 1)).foldl finT E = finT ((L.take k).foldl finT E) x := by
  rw [take_snocG L k x hx, List.foldl_append]; rfl
theorem run_snoc {R : Ev → List Rw} {L : List Ev} {C : List Int} {k : Nat} {t : Int} (hx : C[k]? = some t) (s : Sx) : (C.take (k + 1)).foldl (runT R L) s = runT R L ((C.take k).foldl (runT R L) s) t := by
  rw [take_snocG C k t hx, List.foldl_append]; rfl
def RunRet (w : World) (X : Sx) (e : Ending) (w' : World) : Prop := ∃ v, e = .returned (.tuple #[v, .bool X.ok]) ∧ w'.ownsRow w.heap.size 30 6 v (goodsE X.E mayP).length (flatV enRw (goodsE X.E mayP)) ∧ Below w.heap.size w w'
theorem ints_at {w : World} {base n c : Nat} {A : Option Addr} {C : List Int} (h : w.ownsRow base 3 1 (.slice A n c) n (flatV enI C)) {k : Nat} (hk : k < n) : ∃ b off t, A = some ⟨b, off, none⟩ ∧ C[k]? = some t ∧ w.cell? ⟨b, off + k, none⟩ = some (.int .i64 t) := by
  obtain ⟨A', c', he, hi⟩ := ints_own h
  injection he with e1 _ _
  subst e1
  obtain ⟨b, off, ha, hc⟩ := hi.get hk
  have hl := hi.len
  have hk2 : k < C.length := by omega
  rw [List.getD_eq_getElem?_getD, List.getElem?_eq_getElem hk2] at hc
  exact ⟨b, off, C[k], ha, List.getElem?_eq_getElem hk2, hc⟩
theorem evs_own {w : World} {base n c : Nat} {A : Option Addr} {M : List Ev} (h : w.ownsRow base 56 11 (.slice A n c) n (flatV enEv M)) (hx : ∀ x ∈ M, okEv x) : Evs w A n M := by
  obtain ⟨A', c', he, hs, _, _⟩ := SR.own (ok := okEv) enEv_len (by omega) h hx
  injection he with e1 _ _
  subst e1
  exact hs
set_option maxRecDepth 100000 in
set_option maxHeartbeats 8000000 in
theorem srun_any (a : Option Addr) (len cap : Nat) (L : List Ev) (R : Ev → List Rw) (w : World) (hl : Evs w a len L) (hr : EvRows w L R) (hnil : a = none → len = 0 ∧ cap = 0) (hn : len ≤ 30) :
    Calls Try.prog 27 #[.slice a len cap] w (RunRet w (runL R L)) := by
  have HEV := Lib.hid (fun W1 (hb : Below w.heap.size w W1) => (⟨hl.below hb, hr.below hb⟩ : Evs W1 a len L ∧ EvRows W1 L R))
  have HLN := Lib.hid hl.len
  have HALL := Lib.hid hl.all
  clear hl hr
  go_enter Try.func27, Try.ntmps27
  go_wp2_with (first
    | (go_at_call 10; refine (stnew_any _).mono ?_; rintro e w1 ⟨s, b, rfl, hO, hs, hb, hsb, hb1⟩; have HC := Lib.hid (comm_any a len cap L w1 (HEV.out _ hb1).1 (by omega)))
    | (go_at_call 46; refine HC.out.mono ?_; rintro e w2 ⟨vC, rfl, hownC, hb2⟩; obtain ⟨AC, cC, rfl⟩ := own_slice hownC))
  have hbl := hO.mp.lt
  have hO2 := hO.below hb2
  have hB2 := bl_then hb1 (Nat.le_refl _) hb2
  clear hO hs hb1 hb2
  obtain ⟨C, hC⟩ : ∃ C, C = commTo Ev.tx cmE edE L L.length := ⟨_, rfl⟩
  rw [← hC] at hownC ⊢
  obtain ⟨nC, hnC⟩ : ∃ n, n = C.length := ⟨_, rfl⟩
  rw [← hnC] at hownC ⊢
  have hC30 : nC ≤ 30 := by rw [hnC, hC]; have := commTo_len L L.length; have := HLN.out; omega
  have HCE := Lib.hid hC
  have HCN := Lib.hid hnC
  clear hC hnC HC
  go_loopw [5, 12] (fun v5 c wr => ∃ (k : Nat) (X : Sx), k ≤ nC ∧ c = .int .i64 k ∧ v5 = .bool X.ok ∧ Hid (X = (C.take k).foldl (runT R L) ⟨[], true⟩) ∧ StO wr s b X.E ∧ OkE X.E (30 * k) ∧ wr.ownsRow w1.heap.size 3 1 (.slice AC nC cC) nC (flatV enI C) ∧ Below w.heap.size w wr) (fun _ c _ => nC - (intOf c).toNat)
  case atStart => exact ⟨0, ⟨[], true⟩, by omega, rfl, rfl, Lib.hid rfl, hO2, ok0, hownC, hB2⟩
  case round =>
    clear hO2 hB2 hownC
    obtain ⟨k, X, hk, rfl, rfl, HX, hO, hE, hownK, HB⟩ := hrel
    by_cases hlt : k < nC
    · obtain ⟨cb, off, tx, hAC, hct, hcell⟩ := ints_at hownK hlt
      have HOF := Lib.hid (of_any a len cap L tx wr (HEV.out _ HB).1 hnil (by omega))
      have hX' : (⟨(oneL R X.E (ofL L tx)).E, X.ok && (oneL R X.E (ofL L tx)).ok⟩ : Sx) = (C.take (k + 1)).foldl (runT R L) ⟨[], true⟩ := by rw [run_snoc hct, ← HX.out]; rfl
      have HE2 : Hid (OkE (oneL R X.E (ofL L tx)).E (30 * (k + 1))) := Lib.hid (by have := runT_ok (R := R) tx hE HALL.out (by rw [HLN.out]; exact hn); exact this.mono (by omega))
      have HO := Lib.hid hO
      have HE := Lib.hid hE
      have HBB := Lib.hid HB
      have HOC := Lib.hid hownK
      have HX' := Lib.hid hX'
      clear hO hE HB hownK hct hX' HX
      subst hAC
      go_wp2_with (first
        | (go_at_call 47; refine HOF.out.mono ?_; rintro e w4 ⟨vD, rfl, hownD, hb4⟩; obtain ⟨AD, cD, rfl⟩ := own_slice hownD; have HON := Lib.hid (sone_any s b X.E (30 * k) AD (ofL L tx).length cD (ofL L tx) R w4 hsb (HO.out.below hb4) HE.out (by have := of_le L tx; have := HLN.out; omega) (fun W1 kk => ⟨evs_own (own_keepS hownD kk (fun i hi => by rw [hi]; exact HO.out.mp.lt)) (fun x hm => HALL.out x (List.mem_filter.1 hm).1), ((HEV.out _ (bl_keep (bl_then HBB.out (Nat.le_refl _) hb4) kk (fun i hi => by rw [hi]; exact hb))).2).sub (fun x hm => (List.mem_filter.1 hm).1)⟩)); have HB4 := Lib.hid (bl_then HBB.out (Nat.le_refl _) hb4); have HOC4 := Lib.hid (own_below HOC.out hb4); have HS4 := Lib.hid hb4.size; generalize hYq : oneL R X.E (ofL L tx) = Y at HON; have HYQ := Lib.hid hYq; clear hownD hb4 hYq hcell))
      refine HON.out.mono ?_
      rintro e w5 ⟨rfl, hO5, k5⟩
      rw [HYQ.out] at HX' HE2
      have HEY : Hid (OkE Y.E (30 * (k + 1))) := HE2
      cases hYok : Y.ok with
      | true =>
        have HXY : Hid (⟨Y.E, X.ok⟩ = (C.take (k + 1)).foldl (runT R L) ⟨[], true⟩) := Lib.hid (by rw [← HX'.out, hYok, Bool.and_true])
        clear hYok
        go_wp2
        go_roundw
        case rel => exact ⟨k + 1, ⟨Y.E, X.ok⟩, by omega, by go_num, rfl, HXY, hO5, HEY.out, own_keepS HOC4.out k5 (fun i hi => by rw [hi]; exact hbl), bl_keep HB4.out k5 (fun i hi => by rw [hi]; exact hb)⟩
        case measure => simp [intOf]; omega
      | false =>
        have HXY : Hid (⟨Y.E, false⟩ = (C.take (k + 1)).foldl (runT R L) ⟨[], true⟩) := Lib.hid (by rw [← HX'.out, hYok, Bool.and_false])
        clear hYok
        go_wp2
        go_roundw
        case rel => exact ⟨k + 1, ⟨Y.E, false⟩, by omega, by go_num, rfl, HXY, hO5, HEY.out, own_keepS HOC4.out k5 (fun i hi => by rw [hi]; exact hbl), bl_keep HB4.out k5 (fun i hi => by rw [hi]; exact hb)⟩
        case measure => simp [intOf]; omega
    · obtain rfl : k = nC := by omega
      have HY : Hid (runL R L = X) := Lib.hid (by rw [HX.out, List.take_of_length_le (by rw [HCN.out]; exact Nat.le_refl _), HCE.out]; rfl)
      have HRO := Lib.hid (strows_any s b X.E 900 wr hO (hE.mono (by omega)) (by omega))
      clear hO hE hownK
      go_wp2_with (go_at_call 20; refine HRO.out.mono ?_; rintro e w6 ⟨v6, rfl, hown6, hb6⟩)
      go_ret2
      exact ⟨v6, by rw [HY.out]; rfl, by rw [HY.out]; exact own_weaken hown6 HB.size, bl_then HB (Nat.le_refl _) hb6⟩
set_option maxRecDepth 100000 in
set_option maxHeartbeats 8000000 in
theorem sfinal_any (a : Option Addr) (len cap : Nat) (L : List Ev) (w : World) (hl : Evs w a len L) (hn : len ≤ 30) :
    Calls Try.prog 30 #[.slice a len cap] w (OwnRet enRw 30 6 w (goodsE (finL L) mayP)) := by
  have HL := Lib.hid hl
  have HLN := Lib.hid hl.len
  clear hl
  go_enter Try.func30, Try.ntmps30
  go_wp2_with (go_at_call 10; refine (stnew_any _).mono ?_; rintro e w1 ⟨s, b, rfl, hO, hs, hb, hsb, hB1⟩)
  go_loopw [9] (fun c wr => ∃ (k : Nat) (E : List Cl), k ≤ len ∧ c = .int .i64 k ∧ Hid (E = (L.take k).foldl finT []) ∧ StO wr s b E ∧ OkE E k ∧ Below w.heap.size w wr) (fun c _ => len - (intOf c).toNat)
  case atStart => exact ⟨0, [], by omega, rfl, Lib.hid rfl, hO, ok0, hB1⟩
  case round =>
    clear hO hB1
    obtain ⟨k, E, hk, rfl, HX, hO, hE, HB⟩ := hrel
    by_cases hlt : k < len
    · obtain ⟨b0, off, x, rfl, _, hx, hokx, d0, d1, d2, d3, d4, d5, d6, d7, d8, d9, d10⟩ := Ev_at (HL.out.below HB) hlt
      have al := (Below.refl wr.heap.size wr).alloc (Nat.le_refl _) (.cells #[.int .i64 x.kind, .int .i64 x.tx, .int .i64 x.n0, .int .i64 x.n1, .int .i64 x.n2, .int .i64 x.n3, .int .i64 x.dep, .int .i64 x.mode, .int .i64 x.val, .slice x.rows.1 x.rows.2.1 x.rows.2.2, .int .i64 x.err] 56)
      have hbx := Bk.new wr 56 #[.int .i64 x.kind, .int .i64 x.tx, .int .i64 x.n0, .int .i64 x.n1, .int .i64 x.n2, .int .i64 x.n3, .int .i64 x.dep, .int .i64 x.mode, .int .i64 x.val, .slice x.rows.1 x.rows.2.1 x.rows.2.2, .int .i64 x.err]
      have hO1 := hO.below al
      have HB1 := Lib.hid (bl_then HB (Nat.le_refl _) al)
      have HX' : Hid (finT E x = (L.take (k + 1)).foldl finT []) := Lib.hid (by rw [fin_snoc hx, ← HX.out])
      have HE2 : Hid (OkE (finT E x) (k + 1)) := Lib.hid (finT_ok hE hokx)
      have hrl : x.rows.2.1 ≤ 9223372036854775807 := hokx.2.2.2.2.2.2.2.2.2.1
      have hS := stset_any s b E k (evP x) x.val (okEv_p hokx) _ hO1 hE (by omega) hsb
      have HO1 := Lib.hid hO1
      have HBX := Lib.hid hbx
      have c0 := hbx.cell 0
      have c2 := hbx.cell 2
      have c3 := hbx.cell 3
      have c4 := hbx.cell 4
      have c5 := hbx.cell 5
      have c6 := hbx.cell 6
      have c8 := hbx.cell 8
      clear hO hE al hO1 hbx hx hokx HX HB
      obtain ⟨kd, tx, n0, n1, n2, n3, dp, mo, va, ⟨ra, rl, rc⟩, er⟩ := x
      dsimp only [evP] at *
      by_cases k10 : kd = 10
      · subst k10
        have hT : finT E ⟨10, tx, n0, n1, n2, n3, dp, mo, va, (ra, rl, rc), er⟩ = (putT E ⟨n0, n1, n2, n3, dp⟩ va).E := by unfold finT; rw [if_pos (by first | rfl | simp [wrE])]; rfl
        rw [hT] at HX' HE2
        clear hT
        generalize putT E ⟨n0, n1, n2, n3, dp⟩ va = RW at hS HX' HE2
        obtain ⟨rA, rF, rE⟩ := RW
        dsimp only at hS HX' HE2
        have HS := Lib.hid hS
        clear hS
        go_wp2_with (go_at_call 11; refine HS.out.mono ?_; rintro e w4 ⟨rfl, hO4, k4⟩)
        go_roundw
        case rel => exact ⟨k + 1, rE, by omega, by go_num, HX', hO4, HE2.out, bl_keep HB1.out k4 (fun i hi => by rw [hi]; exact hb)⟩
        case measure => simp [intOf]; omega
      · have n10 : (kd == 10) = false := by simp [k10]
        by_cases k7 : kd = 7
        · subst k7
          have hT : finT E ⟨7, tx, n0, n1, n2, n3, dp, mo, va, (ra, rl, rc), er⟩ = (putT E ⟨n0, n1, n2, n3, dp⟩ va).E := by unfold finT; rw [if_pos (by first | rfl | simp [wrE])]; rfl
          rw [hT] at HX' HE2
          clear hT
          generalize putT E ⟨n0, n1, n2, n3, dp⟩ va = RW at hS HX' HE2
          obtain ⟨rA, rF, rE⟩ := RW
          dsimp only at hS HX' HE2
          have HS := Lib.hid hS
          clear hS
          go_wp2_with (go_at_call 11; refine HS.out.mono ?_; rintro e w4 ⟨rfl, hO4, k4⟩)
          go_roundw
          case rel => exact ⟨k + 1, rE, by omega, by go_num, HX', hO4, HE2.out, bl_keep HB1.out k4 (fun i hi => by rw [hi]; exact hb)⟩
          case measure => simp [intOf]; omega
        · have n7 : (kd == 7) = false := by simp [k7]
          have hT : finT E ⟨kd, tx, n0, n1, n2, n3, dp, mo, va, (ra, rl, rc), er⟩ = E := by unfold finT; rw [if_neg (by unfold wrE; simp [k7, k10])]
          rw [hT] at HX' HE2
          clear hT hS k7 k10
          go_wp2
          go_roundw
          case rel => exact ⟨k + 1, E, by omega, by go_num, HX', HO1.out, HE2.out, HB1.out⟩
          case measure => simp [intOf]; omega
    · obtain rfl : k = len := by omega
      have HY : Hid (finL L = E) := Lib.hid (by rw [HX.out, List.take_of_length_le (by rw [HLN.out]; exact Nat.le_refl _)]; rfl)
      have HRO := Lib.hid (strows_any s b E k wr hO hE (by omega))
      clear hO hE
      go_wp2_with (go_at_call 20; refine HRO.out.mono ?_; rintro e w6 ⟨v6, rfl, hown6, hb6⟩)
      go_ret
      exact ⟨v6, rfl, by rw [HY.out]; exact own_weaken hown6 HB.size, bl_then HB (Nat.le_refl _) hb6⟩
/-- Whether what they come to one behind the other is what they come to as they stand. -/
def eqlL (R : Ev → List Rw) (L : List Ev) : Bool := (runL R L).ok && decide (goodsE (runL R L).E mayP = goodsE (finL L) mayP)
set_option maxRecDepth 100000 in
set_option maxHeartbeats 8000000 in
theorem equal_any (a : Option Addr) (len cap : Nat) (L : List Ev) (R : Ev → List Rw) (w : World) (hl : Evs w a len L) (hr : EvRows w L R) (hnil : a = none → len = 0 ∧ cap = 0) (hn : len ≤ 30) :
    Calls Try.prog 31 #[.slice a len cap] w fun e w' => e = .returned (.bool (eqlL R L)) ∧ Below w.heap.size w w' := by
  have HRU := Lib.hid (srun_any a len cap L R w hl hr hnil hn)
  have HFI := Lib.hid (fun W1 (hb : Below w.heap.size w W1) => sfinal_any a len cap L W1 (hl.below hb) hn)
  have HOR := Lib.hid (goods_ok (runL_ok (R := R) hl.all (by rw [hl.len]; exact hn)) mayP)
  have HOF := Lib.hid (goods_ok (finL_ok hl.all (by rw [hl.len]; exact hn)) mayP)
  have HEQ : Hid (eqlL R L = ((runL R L).ok && decide (goodsE (runL R L).E mayP = goodsE (finL L) mayP))) := Lib.hid rfl
  clear hl hr hnil
  generalize runL R L = X at HRU HOR HEQ
  obtain ⟨XE, Xok⟩ := X
  dsimp only at HOR HEQ
  generalize finL L = FE at HFI HOF HEQ
  go_enter Try.func31, Try.ntmps31
  go_wp2_with fail
  refine HRU.out.mono ?_
  rintro e w1 ⟨v1, rfl, hown1, hb1⟩
  obtain ⟨A1, c1, rfl, hs1, _, _⟩ := SR.own (ok := okRw) enRw_len (by omega) hown1 HOR.out
  clear hown1 HRU
  cases Xok with
  | true =>
    rw [Bool.true_and] at HEQ
    go_wp2_with (first
      | (go_at_call 30; refine (HFI.out _ hb1).mono ?_; rintro e w2 ⟨v2, rfl, hown2, hb2⟩; obtain ⟨A2, c2, rfl, hs2, _, _⟩ := SR.own (ok := okRw) enRw_len (by omega) hown2 HOF.out; clear hown2)
      | (go_at_call 22; refine (same_any _ _ _ _ _ _ _ _ _ (hs1.below hb2) hs2).mono ?_; rintro e w3 ⟨rfl, hb3⟩))
    go_ret
    exact ⟨by rw [HEQ.out]; rfl, bl_then (bl_then hb1 (Nat.le_refl _) hb2) (Nat.le_refl _) hb3⟩
  | false =>
    rw [Bool.false_and] at HEQ
    go_wp2
    go_ret
    exact ⟨by rw [HEQ.out]; rfl, hb1⟩
end Go.Proofs.Ytjbhlckdaghppaa
