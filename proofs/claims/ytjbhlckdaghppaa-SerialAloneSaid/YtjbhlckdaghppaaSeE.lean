/- serial: the reference's Run, Final. No condition. -/
import Derived.Test.YtjbhlckdaghppaaSeC
import Derived.Test.YtjbhlckdaghppaaSeD
set_option linter.unusedVariables false
set_option linter.unusedSimpArgs false
namespace Go.Proofs.Ytjbhlckdaghppaa
open Go.RowKit (wrap32 wrap64)
open Go.RowKit Go.Shelf Go.Sort Go.Lib
set_option maxRecDepth 100000 in
theorem rwrites_any (x : Ev) (w : World) : Calls Try.prog 50 #[.agg #[.int .i64 x.kind, .int .i64 x.tx, .int .i64 x.n0, .int .i64 x.n1, .int .i64 x.n2, .int .i64 x.n3, .int .i64 x.dep, .int .i64 x.mode, .int .i64 x.val, .slice x.rows.1 x.rows.2.1 x.rows.2.2, .int .i64 x.err]] w fun e w' => e = .returned (.bool (x.kind == 7 || x.kind == 10)) ∧ Below w.heap.size w w' := by
  obtain ⟨kd, tx, n0, n1, n2, n3, dp, mo, va, ⟨ra, rl, rc⟩, er⟩ := x
  dsimp only
  have a1 := (Below.refl w.heap.size w).alloc (Nat.le_refl _) (.cells #[.int .i64 kd, .int .i64 tx, .int .i64 n0, .int .i64 n1, .int .i64 n2, .int .i64 n3, .int .i64 dp, .int .i64 mo, .int .i64 va, .slice ra rl rc, .int .i64 er] 56)
  cases h7 : (kd == 7) with
  | true =>
    go_enter Try.func50, Try.ntmps50
    go_wp2
    go_ret
    exact ⟨rfl, a1⟩
  | false =>
    go_enter Try.func50, Try.ntmps50
    go_wp2
    go_ret
    exact ⟨rfl, a1⟩
set_option maxRecDepth 100000 in
set_option maxHeartbeats 8000000 in
theorem rrun_any (a : Option Addr) (len cap : Nat) (L : List Ev) (R : Ev → List Rw) (w : World) (hl : Evs w a len L) (hr : EvRows w L R) (hn : len ≤ 30) :
    Calls Try.prog 28 #[.slice a len cap] w (RunRet w (runL R L)) := by
  have HEV := Lib.hid (fun W1 (hb : Below w.heap.size w W1) => (⟨hl.below hb, hr.below hb⟩ : Evs W1 a len L ∧ EvRows W1 L R))
  have HLN := Lib.hid hl.len
  have HALL := Lib.hid hl.all
  clear hl hr
  go_enter Try.func28, Try.ntmps28
  have al2 := (Below.refl w.heap.size w).alloc (Nat.le_refl _) (.cells #[.slice none 0 0, .slice none 0 0] 39)
  have hO := RfO.start w
  have hlx : w.heap.size < (w.alloc (.cells #[.slice none 0 0, .slice none 0 0] 39)).heap.size := by simp
  have HC := Lib.hid (rcomm_any a len cap L _ (HEV.out _ al2).1 (by omega))
  go_wp2_with (go_at_call 48; refine HC.out.mono ?_; rintro e w2 ⟨vC, rfl, hownC, hb2⟩; obtain ⟨AC, cC, rfl⟩ := own_slice hownC)
  have hO2 := hO.below hb2
  have hB2 := bl_then al2 (Nat.le_refl _) hb2
  rw [World.size_alloc] at hownC
  clear hO al2 hb2 hlx
  obtain ⟨C, hC⟩ : ∃ C, C = commTo Ev.tx cmE edE L L.length := ⟨_, rfl⟩
  rw [← hC] at hownC ⊢
  obtain ⟨nC, hnC⟩ : ∃ n, n = C.length := ⟨_, rfl⟩
  rw [← hnC] at hownC ⊢
  have hC30 : nC ≤ 30 := by rw [hnC, hC]; have := commTo_len L L.length; have := HLN.out; omega
  have HCE := Lib.hid hC
  have HCN := Lib.hid hnC
  clear hC hnC HC
  go_loopw [5, 14] (fun v5 c wr => ∃ (k : Nat) (X : Sx) (vL vK : Value), k ≤ nC ∧ c = .int .i64 k ∧ v5 = .bool X.ok ∧ Hid (X = (C.take k).foldl (runT R L) ⟨[], true⟩) ∧ RfO wr w.heap.size vL vK X.E ∧ OkE X.E (30 * k) ∧ wr.ownsRow (w.heap.size + 1) 3 1 (.slice AC nC cC) nC (flatV enI C) ∧ (∀ i, (Value.slice AC nC cC).ownBlock = some i → ¬ RS w.heap.size vL vK i) ∧ Below w.heap.size w wr) (fun _ c _ => nC - (intOf c).toNat)
  case atStart => exact ⟨0, ⟨[], true⟩, _, _, by omega, rfl, rfl, Lib.hid rfl, hO2, ok0, hownC, (fun i hi e => by rcases e with rfl | e | e; have := (hownC.lt _ hi).1; omega; cases e; cases e), hB2⟩
  case round =>
    clear hO2 hB2 hownC
    obtain ⟨k, X, vL, vK, hk, rfl, rfl, HX, hO, hE, hownK, hNC, HB⟩ := hrel
    by_cases hlt : k < nC
    · obtain ⟨cb, off, tx, hAC, hct, hcell⟩ := ints_at hownK hlt
      have HOF := Lib.hid (rof_any a len cap L tx wr (HEV.out _ HB).1 (by omega))
      have hX' : (⟨(oneL R X.E (ofL L tx)).E, X.ok && (oneL R X.E (ofL L tx)).ok⟩ : Sx) = (C.take (k + 1)).foldl (runT R L) ⟨[], true⟩ := by rw [run_snoc hct, ← HX.out]; rfl
      have HE2 : Hid (OkE (oneL R X.E (ofL L tx)).E (30 * (k + 1))) := Lib.hid (by have := runT_ok (R := R) tx hE HALL.out (by rw [HLN.out]; exact hn); exact this.mono (by omega))
      have HO := Lib.hid hO
      have HE := Lib.hid hE
      have HBB := Lib.hid HB
      have HOC := Lib.hid hownK
      have HX' := Lib.hid hX'
      have HNC := Lib.hid hNC
      clear hO hE HB hownK hct hX' HX hNC
      subst hAC
      go_wp2_with (first
        | (go_at_call 49; refine HOF.out.mono ?_; rintro e w4 ⟨vD, rfl, hownD, hb4⟩; obtain ⟨AD, cD, rfl⟩ := own_slice hownD; have HON := Lib.hid (rone_any w.heap.size vL vK X.E (30 * k) AD (ofL L tx).length cD (ofL L tx) R w4 (HO.out.below hb4) HE.out (by have := of_le L tx; have := HLN.out; omega) (fun W1 kk => ⟨evs_own (own_keepS hownD kk (fun i hi => (HO.out.lt_of hi).2)) (fun x hm => HALL.out x (List.mem_filter.1 hm).1), ((HEV.out _ (bl_keep (bl_then HBB.out (Nat.le_refl _) hb4) kk (fun i hi => (HO.out.lt_of hi).1))).2).sub (fun x hm => (List.mem_filter.1 hm).1)⟩)); have HB4 := Lib.hid (bl_then HBB.out (Nat.le_refl _) hb4); have HOC4 := Lib.hid (own_below HOC.out hb4); have HS4 := Lib.hid hb4.size; generalize hYq : oneL R X.E (ofL L tx) = Y at HON; have HYQ := Lib.hid hYq; clear hownD hb4 hYq hcell))
      refine HON.out.mono ?_
      rintro e w5 ⟨rfl, vL5, vK5, hO5, k5, hF5⟩
      rw [HYQ.out] at HX' HE2
      have HEY : Hid (OkE Y.E (30 * (k + 1))) := HE2
      obtain ⟨Xe, Xok⟩ := X
      dsimp only at HX' HO HE ⊢
      cases Xok with
      | true =>
        have HXY : Hid (⟨Y.E, Y.ok⟩ = (C.take (k + 1)).foldl (runT R L) ⟨[], true⟩) := Lib.hid (by rw [← HX'.out, Bool.true_and])
        go_wp2
        go_roundw
        case rel => exact ⟨k + 1, ⟨Y.E, Y.ok⟩, vL5, vK5, by omega, by go_num, rfl, HXY, hO5, HEY.out, own_keepB HOC4.out k5 HNC.out, (fun i hi e => (hF5 i e).elim (HNC.out i hi) (fun h => by have h2 := (HOC.out.lt i hi).2; have := HS4.out; omega)), bl_keep HB4.out k5 (fun i hi => (HO.out.lt_of hi).1)⟩
        case measure => simp [intOf]; omega
      | false =>
        have HXY : Hid (⟨Y.E, false⟩ = (C.take (k + 1)).foldl (runT R L) ⟨[], true⟩) := Lib.hid (by rw [← HX'.out, Bool.false_and])
        go_wp2
        go_roundw
        case rel => exact ⟨k + 1, ⟨Y.E, false⟩, vL5, vK5, by omega, by go_num, rfl, HXY, hO5, HEY.out, own_keepB HOC4.out k5 HNC.out, (fun i hi e => (hF5 i e).elim (HNC.out i hi) (fun h => by have h2 := (HOC.out.lt i hi).2; have := HS4.out; omega)), bl_keep HB4.out k5 (fun i hi => (HO.out.lt_of hi).1)⟩
        case measure => simp [intOf]; omega
    · obtain rfl : k = nC := by omega
      have HY : Hid (runL R L = X) := Lib.hid (by rw [HX.out, List.take_of_length_le (by rw [HCN.out]; exact Nat.le_refl _), HCE.out]; rfl)
      have HRO := Lib.hid (rrows_any w.heap.size vL vK X.E 900 wr hO (hE.mono (by omega)) (by omega))
      clear hO hE hownK
      go_wp2_with (go_at_call 21; refine HRO.out.mono ?_; rintro e w6 ⟨v6, rfl, hown6, hb6⟩)
      go_ret2
      exact ⟨v6, by rw [HY.out]; rfl, by rw [HY.out]; exact own_weaken hown6 HB.size, bl_then HB (Nat.le_refl _) hb6⟩
set_option maxRecDepth 100000 in
set_option maxHeartbeats 8000000 in
theorem rfinal_any (a : Option Addr) (len cap : Nat) (L : List Ev) (w : World) (hl : Evs w a len L) (hn : len ≤ 30) :
    Calls Try.prog 29 #[.slice a len cap] w (OwnRet enRw 30 6 w (goodsE (finL L) mayP)) := by
  have HL := Lib.hid hl
  have HLN := Lib.hid hl.len
  clear hl
  go_enter Try.func29, Try.ntmps29
  have hB1 := (Below.refl w.heap.size w).alloc (Nat.le_refl _) (.cells #[.slice none 0 0, .slice none 0 0] 39)
  have hO := RfO.start w
  go_wp2_with fail
  go_loopw [10] (fun c wr => ∃ (k : Nat) (E : List Cl) (vL vK : Value), k ≤ len ∧ c = .int .i64 k ∧ Hid (E = (L.take k).foldl finT []) ∧ RfO wr w.heap.size vL vK E ∧ OkE E k ∧ Below w.heap.size w wr) (fun c _ => len - (intOf c).toNat)
  case atStart => exact ⟨0, [], _, _, by omega, rfl, Lib.hid rfl, hO, ok0, hB1⟩
  case round =>
    clear hO hB1
    obtain ⟨k, E, vL, vK, hk, rfl, HX, hO, hE, HB⟩ := hrel
    by_cases hlt : k < len
    · obtain ⟨b0, off, x, rfl, _, hx, hokx, d0, d1, d2, d3, d4, d5, d6, d7, d8, d9, d10⟩ := Ev_at (HL.out.below HB) hlt
      have al := (Below.refl wr.heap.size wr).alloc (Nat.le_refl _) (.cells #[.int .i64 x.kind, .int .i64 x.tx, .int .i64 x.n0, .int .i64 x.n1, .int .i64 x.n2, .int .i64 x.n3, .int .i64 x.dep, .int .i64 x.mode, .int .i64 x.val, .slice x.rows.1 x.rows.2.1 x.rows.2.2, .int .i64 x.err] 56)
      have hbx := Bk.new wr 56 #[.int .i64 x.kind, .int .i64 x.tx, .int .i64 x.n0, .int .i64 x.n1, .int .i64 x.n2, .int .i64 x.n3, .int .i64 x.dep, .int .i64 x.mode, .int .i64 x.val, .slice x.rows.1 x.rows.2.1 x.rows.2.2, .int .i64 x.err]
      have hO1 := hO.below al
      have HB1 := Lib.hid (bl_then HB (Nat.le_refl _) al)
      have HX' : Hid (finT E x = (L.take (k + 1)).foldl finT []) := Lib.hid (by rw [fin_snoc hx, ← HX.out])
      have HE2 : Hid (OkE (finT E x) (k + 1)) := Lib.hid (finT_ok hE hokx)
      have hrl : x.rows.2.1 ≤ 9223372036854775807 := hokx.2.2.2.2.2.2.2.2.2.1
      have hS := fun W1 (hb : Below (wr.alloc (.cells #[.int .i64 x.kind, .int .i64 x.tx, .int .i64 x.n0, .int .i64 x.n1, .int .i64 x.n2, .int .i64 x.n3, .int .i64 x.dep, .int .i64 x.mode, .int .i64 x.val, .slice x.rows.1 x.rows.2.1 x.rows.2.2, .int .i64 x.err] 56)).heap.size (wr.alloc (.cells #[.int .i64 x.kind, .int .i64 x.tx, .int .i64 x.n0, .int .i64 x.n1, .int .i64 x.n2, .int .i64 x.n3, .int .i64 x.dep, .int .i64 x.mode, .int .i64 x.val, .slice x.rows.1 x.rows.2.1 x.rows.2.2, .int .i64 x.err] 56)) W1) => rset_any w.heap.size vL vK E k (evP x) x.val W1 (hO1.below hb) hE (by omega)
      have HO1 := Lib.hid hO1
      have HBX := Lib.hid hbx
      have c0 := hbx.cell 0
      have c1 := hbx.cell 1
      have c2 := hbx.cell 2
      have c3 := hbx.cell 3
      have c4 := hbx.cell 4
      have c5 := hbx.cell 5
      have c6 := hbx.cell 6
      have c7 := hbx.cell 7
      have c8 := hbx.cell 8
      have c9 := hbx.cell 9
      have c10 := hbx.cell 10
      clear hO hE al hO1 hbx hx hokx HX HB
      obtain ⟨kd, tx, n0, n1, n2, n3, dp, mo, va, ⟨ra, rl, rc⟩, er⟩ := x
      dsimp only [evP] at *
      have HW := Lib.hid (fun W1 => rwrites_any ⟨kd, tx, n0, n1, n2, n3, dp, mo, va, (ra, rl, rc), er⟩ W1)
      dsimp only at HW
      by_cases kw : kd = 7 ∨ kd = 10
      · have hwt : (kd == 7 || kd == 10) = true := by rcases kw with rfl | rfl <;> rfl
        rw [hwt] at HW
        have hT : finT E ⟨kd, tx, n0, n1, n2, n3, dp, mo, va, (ra, rl, rc), er⟩ = (putT E ⟨n0, n1, n2, n3, dp⟩ va).E := by unfold finT; rw [if_pos (by unfold wrE; exact hwt)]; rfl
        rw [hT] at HX' HE2
        clear hT hwt kw
        generalize putT E ⟨n0, n1, n2, n3, dp⟩ va = RW at hS HX' HE2
        obtain ⟨rA, rF, rE⟩ := RW
        dsimp only at hS HX' HE2
        have HS := Lib.hid hS
        clear hS
        go_wp2_with (first
          | (go_at_call 50; refine (HW.out _).mono ?_; rintro e w3 ⟨rfl, hb3⟩; have hx3 := HBX.out.below hb3; have y2 := hx3.cell 2; have y3 := hx3.cell 3; have y4 := hx3.cell 4; have y5 := hx3.cell 5; have y6 := hx3.cell 6; have y8 := hx3.cell 8; clear c0 c1 c2 c3 c4 c5 c6 c7 c8 c9 c10)
          | (go_at_call 14; refine (HS.out _ hb3).mono ?_; rintro e w4 ⟨vL4, vK4, rfl, hO4, k4, _⟩))
        go_roundw
        case rel => exact ⟨k + 1, rE, vL4, vK4, by omega, by go_num, HX', hO4, HE2.out, bl_keep (bl_then HB1.out (Nat.le_refl _) hb3) k4 (fun i hi => (HO1.out.lt_of hi).1)⟩
        case measure => simp [intOf]; omega
      · have hwt : (kd == 7 || kd == 10) = false := by simp only [not_or] at kw; simp [kw.1, kw.2]
        rw [hwt] at HW
        have hT : finT E ⟨kd, tx, n0, n1, n2, n3, dp, mo, va, (ra, rl, rc), er⟩ = E := by unfold finT; rw [if_neg (by unfold wrE; rw [hwt]; simp)]
        rw [hT] at HX' HE2
        clear hT hwt kw hS
        go_wp2_with (first
          | (go_at_call 50; refine (HW.out _).mono ?_; rintro e w3 ⟨rfl, hb3⟩; have hx3 := HBX.out.below hb3; have y2 := hx3.cell 2; have y3 := hx3.cell 3; have y4 := hx3.cell 4; have y5 := hx3.cell 5; have y6 := hx3.cell 6; have y8 := hx3.cell 8; clear c0 c1 c2 c3 c4 c5 c6 c7 c8 c9 c10))
        go_roundw
        case rel => exact ⟨k + 1, E, vL, vK, by omega, by go_num, HX', HO1.out.below hb3, HE2.out, bl_then HB1.out (Nat.le_refl _) hb3⟩
        case measure => simp [intOf]; omega
    · obtain rfl : k = len := by omega
      have HY : Hid (finL L = E) := Lib.hid (by rw [HX.out, List.take_of_length_le (by rw [HLN.out]; exact Nat.le_refl _)]; rfl)
      have HRO := Lib.hid (rrows_any w.heap.size vL vK E k wr hO hE (by omega))
      clear hO hE
      go_wp2_with (go_at_call 21; refine HRO.out.mono ?_; rintro e w6 ⟨v6, rfl, hown6, hb6⟩)
      go_ret
      exact ⟨v6, rfl, by rw [HY.out]; exact own_weaken hown6 HB.size, bl_then HB (Nat.le_refl _) hb6⟩
end Go.Proofs.Ytjbhlckdaghppaa
