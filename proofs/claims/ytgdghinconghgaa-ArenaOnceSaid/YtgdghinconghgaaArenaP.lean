/- The statement ArenaOnce: the walk. No condition. -/
import Derived.Test.YtgdghinconghgaaArenaO
import Derived.Test.YtgdghinconghgaaArenaX
import Derived.Test.YtgdghinconghgaaQue
import Derived.Test.YtgdghinconghgaaFlat
import Derived.Test.YtgdghinconghgaaSl
import Derived.Test.YtgdghinconghgaaRngF
import Derived.Lib.QuietBelow
import Derived.Deep.CutRange
import Derived.Deep.CutBlock
set_option linter.unusedVariables false
set_option linter.unusedSimpArgs false
namespace Go.Proofs.Ytgdghinconghgaa
open Go.RowKit (wrap32 wrap64)
open Go.RowKit Go.Shelf
attribute [local go_sem] Oper.semAt_some
theorem wf_natO (y : Nat) (h : y < 2000) : (Lit.int .i64 (y : Int)).wf = true := by
  simp only [Lit.wf, Bool.and_eq_true, decide_eq_true_eq]
  constructor
  · show (-9223372036854775808 : Int) ≤ (y : Int); omega
  · show (y : Int) ≤ (9223372036854775807 : Int); omega
theorem bool_at {w : World} {a : Option Addr} {len cap : Nat} {css : List (List Value)} (h : FlatRow w [.bool] a len cap css) {i : Nat} (hi : i < len) : ∃ b off t, a = some ⟨b, off, none⟩ ∧ w.cell? ⟨b, off + i, none⟩ = some (.bool t) := by
  obtain ⟨b, off, c, ha, hc, hl, hp, hcell⟩ := h.get hi
  match c, hl with
  | [v], _ =>
    obtain ⟨t, rfl⟩ := hp 0 _ v rfl rfl
    have := hcell 0 (by simp)
    exact ⟨b, off, t, ha, by simpa using this⟩
theorem wpList_appR {P : Program} {w : World} {ops : Array Oper} {rest : List Oper} {o : Oper} {a : Act} {Q : Exit → Act → World → Prop} (hw : Region.wanted o (yielded ops a.tmps) = true) (s x : Operand) (t : TypeId)
    (ho : o.op = .call { callee := .builtin .append, args := #[s, x], argTypes := #[t, t] }) (vs vx : Value) (hs : a.eval s = vs) (hx : a.eval x = vx) (v' : Value) (w' : World)
    (hr : (Builtin.append_ #[t, t] o.type #[vs, vx]).run P w = .ok v' w') (h : wpList P ops Q rest (a.put o.dst v') w') : wpList P ops Q (o :: rest) a w := by
  refine wpList_want hw fun K hK => ?_
  unfold Oper.wp
  simp [execOp, ho, resolve, invoke, builtin, hs, hx, hr, Result.andThen]
  exact hK _ _ h
theorem wpList_lenS {w : World} {ops : Array Oper} {rest : List Oper} {o : Oper} {a : Act} {Q : Exit → Act → World → Prop} {b : Nat} {O : List Nat} (hw : Region.wanted o (yielded ops a.tmps) = true) (m : Operand)
    (ho : o.op = .call { callee := .builtin .len, args := #[m], argTypes := #[73] }) (hm : a.eval m = .map (some b)) (h : MapS w b O) (hK : wpList Try.prog ops Q rest (a.put o.dst (.int .i64 O.length)) w) : wpList Try.prog ops Q (o :: rest) a w := by
  obtain ⟨D, h, _, hs⟩ := h
  refine wpList_want hw fun K hK' => ?_
  unfold Oper.wp
  simp [execOp, ho, resolve, invoke, builtin, hm, h.len Try.underlying73 o.type, Result.andThen, hs]
  exact hK' _ _ hK
theorem Que.blk {w : World} {base : Nat} {v : Value} {O : List Nat} (h : Que w base v O) : ∀ i, queB v i → base ≤ i := fun i hi => by
  obtain ⟨o, n, c, rfl⟩ := hi
  rcases h with ⟨e, _⟩ | ⟨b', o', c', cur, e, hb', _⟩
  · cases e
  · cases e; exact hb'
theorem OInv.lenU {L : List Pl} {f u : Int} {F O : List Nat} (h : OInv L f u F O) : ((usedTo L L.length).length : Int) = (O.length : Nat) ∧ O.length ≤ L.length := by
  have h1 := h.inv.len
  have h2 := h.len
  have h3 := usedTo_le L L.length
  exact ⟨by omega, by omega⟩
set_option maxRecDepth 100000 in
set_option maxHeartbeats 16000000 in
theorem arenaOnce_walk (n : Int) (a : Option Addr) (len cap : Nat) (css : List (List Value)) (w : World) (hl : FlatRow w [.bool] a len cap css) :
    Calls Try.prog 9 #[.int .i64 n, .slice a len cap] w fun e w' => e = .returned (.bool true) ∧ Below w.heap.size w w' := by
  have hlc := hl.2.1
  have hcm : cap ≤ 9223372036854775807 := hl.2.2.1
  refine (callsIn_wide (n := 3)).1 ?_
  refine callsIn_of_wp_marks Try.func9 rfl trivial ?_ rfl
  simp only [Try.ntmps9, List.size_toArray, List.length_cons, List.length_nil, Nat.reduceAdd, Nat.reduceSub, Array.replicate_succ, Array.replicate_zero, List.push_toArray, List.append_toArray, List.nil_append, List.cons_append]
  refine wpIn_wide.2 ?_
  by_cases h1 : 60 < len
  · go_wp2_with (go_at_call 25; refine (awake05 _).mono ?_; rintro e w1 ⟨rfl, hb1⟩)
    exact ⟨_, results_tmp rfl _ _ _, rfl, hb1⟩
  by_cases h2 : 100 < n
  · go_wp2_with (go_at_call 25; refine (awake05 _).mono ?_; rintro e w1 ⟨rfl, hb1⟩)
    exact ⟨_, results_tmp rfl _ _ _, rfl, hb1⟩
  obtain ⟨M, hM⟩ : ∃ M : Nat, (n < 0 ∧ M = 0) ∨ n = M := ⟨n.toNat, by omega⟩
  have hM1 : M ≤ 100 := by omega
  have HMX : Hid ((if (0 : Int) > n then 0 else n) = (M : Int) ∧ (if n < 0 then (0 : Int) else n) = (M : Int)) := Lib.hid ⟨by split <;> omega, by split <;> omega⟩
  have hmk := fun W => run_makeMap (P := Try.prog) 73 W
  have HN := Lib.hid (fun W => anew_any M n hM (by omega) W)
  clear hM
  go_wp2_with (first
    | (go_at_call 25; refine (awake05 _).mono ?_; rintro e w1 ⟨rfl, hb1⟩)
    | (go_at_call 26; refine (HN.out _).mono ?_; rintro e w2 ⟨g, h, rfl, hA, hg, hh, hb2⟩))
  have hs1 := hb1.size
  have hs2 := hb2.size
  have hlt := hA.lt
  have hB2 := bl_then hb1 (Nat.le_refl _) hb2
  have hg0 : w.heap.size ≤ g := by omega
  have hh0 : w.heap.size ≤ h := by omega
  have hA3 := hA.below ((Below.refl _ _).alloc (Nat.le_refl _) (.map #[] 0))
  have hM3 := MapS.made w2
  have hB3 := hB2.alloc hB2.size (.map #[] 0)
  obtain ⟨bm, hbm⟩ : ∃ bm, bm = w2.heap.size := ⟨_, rfl⟩
  have hgm : g < bm := by omega
  have hhm : h < bm := by omega
  have hsz3 : (w2.alloc (.map #[] 0)).heap.size = bm + 1 := by simp [hbm]
  rw [← hbm] at hM3 ⊢
  generalize w2.alloc (.map #[] 0) = w3 at hA3 hM3 hB3 hsz3 ⊢
  have hGS : ∀ i, (i = g ∨ i = h) → w.heap.size ≤ i := fun i hi => by rcases hi with rfl | rfl <;> omega
  have hGB : ∀ i, (i = g ∨ i = h) → i < bm + 1 := fun i hi => by rcases hi with rfl | rfl <;> omega
  have HGS := Lib.hid hGS
  have HGB := Lib.hid hGB
  have hmg : ¬ (bm = g ∨ bm = h) := by omega
  have hbmw : w.heap.size ≤ bm := by omega
  have hlen0 : (freshTo M M).length = M := freshTo_len M M
  have HLW := Lib.hid hl
  obtain ⟨i0, hi0, hz0, hz1, hz2⟩ := info_parts Try.infoQ
  clear hA hg hh hb1 hb2 hs1 hs2 hlt hB2 hmk HN hGS hGB hl hbm
  go_loopw [7, 32] (fun s7 c wr => ∃ (k : Nat) (L : List Pl) (f u : Int) (F O : List Nat), k ≤ len ∧ c = .int .i64 k ∧ OInv L f u F O ∧ L.length = M ∧ Ar wr g h L f u ∧ MapS wr bm O ∧ Que wr (bm + 1) s7 O ∧ Below w.heap.size w wr ∧ bm + 1 ≤ wr.heap.size) (fun _ c _ => len - (intOf c).toNat)
  case atStart => exact ⟨0, _, 0, 0, _, [], by omega, rfl, OInv.fresh M, hlen0, hA3, hM3, .inl ⟨rfl, rfl⟩, hB3, by omega⟩
  case round =>
    obtain ⟨k, L, f, u, F, O, hk, rfl, hI, hLM, hA, hMp, hQ, HB, hsz⟩ := hrel
    clear hA3 hM3 hB3 hsz3 hlen0
    have hOL := hI.lenU.2
    by_cases hlt : k < len
    · obtain ⟨b, off, t, rfl, d0⟩ := bool_at (HLW.out.below HB) hlt
      have HI := Lib.hid hI
      have HA := Lib.hid hA
      have HMp := Lib.hid hMp
      clear hI hA hMp
      go_upto_if 37 with fail
      go_cut [7] from 38 to 89 (fun s7 wx => ∃ (L9 : List Pl) (f9 u9 : Int) (F9 O9 : List Nat), OInv L9 f9 u9 F9 O9 ∧ L9.length = M ∧ Ar wx g h L9 f9 u9 ∧ MapS wx bm O9 ∧ Que wx (bm + 1) s7 O9 ∧ Below w.heap.size w wx ∧ bm + 1 ≤ wx.heap.size)
      case first =>
        cases t with
        | true =>
          obtain ⟨v, ok, L9, f9, u9, F9, O9, hTA, hI9, hL9, hor⟩ := take_once g h L f u F O k HI.out (by omega)
          have HTA := Lib.hid hTA
          have HI9 := Lib.hid hI9
          clear hTA hI9
          rcases hor with ⟨rfl, k0, rfl, hk0, rfl, hno⟩ | ⟨rfl, rfl, hOM⟩
          · as_aux_lemma =>
              have hwf := wf_natO k0 (by omega)
              have hno' : hasN O (k0 : Int) = false := by rw [hasN_nat]; simpa using hno
              have HNO := Lib.hid hno
              have HNO' := Lib.hid hno'
              have hOb : O.length ≤ 1000 := by omega
              clear hno hno'
              go_wp2_with (first
                | (go_at_call 27; refine (HTA.out _ HA.out).mono ?_; rintro e w5 ⟨rfl, hA5, k5⟩; have hm5 := HMp.out.keep k5 hmg; have hlook := hm5.look (k0 : Int) hwf; rw [HNO'.out] at hlook; have hq5 := hQ.keep k5 HGB.out; have hb5 := bl_keep HB k5 HGS.out; have hs5 := k5.size)
                | (at_mapUpdate; refine wpList_putS rfl _ _ _ rfl rfl hm5 (by unfold maxLen; omega) k0 rfl hwf rfl HNO.out ?_; intro w6 hm6 k6; have hA6 := hA5.keep k6 (by omega) (by omega); have hq6 := hq5.keep k6 (fun i hi => by omega); have hb6 := bl_keep hb5 k6 (fun i hi => by omega); have hs6 := k6.size; obtain ⟨v7, w7, hrun, hq7, k7⟩ := hq6.push k0 hOb (by omega) 54)
                | (at_builtin; refine wpList_appR rfl _ _ 54 rfl _ _ rfl rfl v7 w7 hrun ?_))
              go_meet
              have hqb := hq6.blk
              exact ⟨L9, f9, u9, F9, _, HI9.out, by omega, hA6.keep k7 (fun hi => by have := hqb _ hi; omega) (fun hi => by have := hqb _ hi; omega), hm6.keep k7 (fun hi => by have := hqb _ hi; omega), hq7, bl_keep hb6 k7 (fun i hi => by have := hqb i hi; omega), by have := k7.size; omega⟩
          · as_aux_lemma =>
              have hmx1 := HMX.out.1
              have hmx2 := HMX.out.2
              have hOM2 : O9.length = M := by omega
              have HOM := Lib.hid hOM2
              clear hOM hOM2
              go_wp2_with (first
                | (go_at_call 27; refine (HTA.out _ HA.out).mono ?_; rintro e w5 ⟨rfl, hA5, k5⟩; have hm5 := HMp.out.keep k5 hmg; have hq5 := hQ.keep k5 HGB.out; have hb5 := bl_keep HB k5 HGS.out; have hs5 := k5.size)
                | (at_len; refine wpList_lenS rfl _ rfl rfl hm5 ?_; rw [HOM.out]))
              go_meet
              exact ⟨L9, f9, u9, F9, _, HI9.out, by omega, hA5, hm5, hq5, hb5, by omega⟩
        | false =>
          cases O with
          | nil =>
            as_aux_lemma =>
              obtain ⟨A7, cap7, rfl, hc7, hc8⟩ := hQ.shape
              have HQ := Lib.hid hQ
              clear hQ
              go_wp2
              go_meet
              exact ⟨L, f, u, F, [], HI.out, hLM, HA.out, HMp.out, HQ.out, HB, hsz⟩
          | cons o O =>
            as_aux_lemma =>
              obtain ⟨L9, f9, u9, F9, hF1, hF2, hI9, hL9, ho, hoO⟩ := free_once g h L f u F o O HI.out (by omega)
              obtain ⟨A7, cap7, rfl, hc7, hc8⟩ := hQ.shape
              obtain ⟨bq, oq, rfl, q0, hbq, hbq2⟩ := hQ.head
              have HF1 := Lib.hid hF1
              have HF2 := Lib.hid hF2
              have HI9 := Lib.hid hI9
              have hwf := wf_natO o (by omega)
              have hpop := hQ.pop
              have HPOP := Lib.hid hpop
              simp only [List.length_cons] at hc7
              have M1 : True := trivial
              have hqg : ¬ (bq = g ∨ bq = h) := by omega
              have hnl : (o :: O).length = O.length + 1 := rfl
              rw [hnl]
              clear hF1 hF2 hI9 hpop hnl
              by_cases hc1 : cap7 = 1
              · subst hc1
                have hO0 : O.length = 0 := by omega
                go_wp2_with (first
                  | (go_at_call 29; (have m_ := M1; clear M1 m_); refine (HF1.out _ HA.out).mono ?_; rintro e w5 ⟨rfl, hA5, k5⟩; have q5 := Keep.cellS (S := fun i => i = g ∨ i = h) k5 q0 hqg)
                  | (go_at_call 29; refine (HF2.out _ hA5).mono ?_; rintro e w6 ⟨rfl, hA6, k6⟩; have q6 := Keep.cellS (S := fun i => i = g ∨ i = h) k6 q5 hqg; have hm6 := (HMp.out.keep k5 hmg).keep k6 hmg)
                  | (at_delete; refine wpList_delS rfl _ _ rfl o rfl hm6 rfl hwf hoO ?_; intro w7 hm7 k7))
                go_meet
                exact ⟨L9, f9, u9, F9, O, HI9.out, by omega, hA6.keep k7 (by omega) (by omega), hm7, by have q := (((HPOP.out.2 (by first | rfl | trivial)).keep k5 HGB.out).keep k6 HGB.out).keep k7 (S := fun i => i = bm) (fun i hi => by omega); rw [hO0] at q; exact q, bl_keep (bl_keep (bl_keep HB k5 HGS.out) k6 HGS.out) k7 (fun i hi => by omega), by have h1 := k5.size; have h2 := k6.size; have h3 := k7.size; omega⟩
              · have hc2 : 1 ≤ cap7 := by omega
                have hc3 : ¬ ((1 : Int) = cap7) := by omega
                have hc4 : ¬ (1 = cap7) := by omega
                go_wp2_with (first
                  | (go_at_call 29; (have m_ := M1; clear M1 m_); refine (HF1.out _ HA.out).mono ?_; rintro e w5 ⟨rfl, hA5, k5⟩; have q5 := Keep.cellS (S := fun i => i = g ∨ i = h) k5 q0 hqg)
                  | (go_at_call 29; refine (HF2.out _ hA5).mono ?_; rintro e w6 ⟨rfl, hA6, k6⟩; have q6 := Keep.cellS (S := fun i => i = g ∨ i = h) k6 q5 hqg; have hm6 := (HMp.out.keep k5 hmg).keep k6 hmg)
                  | (at_delete; refine wpList_delS rfl _ _ rfl o rfl hm6 rfl hwf hoO ?_; intro w7 hm7 k7))
                go_meet
                exact ⟨L9, f9, u9, F9, O, HI9.out, by omega, hA6.keep k7 (by omega) (by omega), hm7, ((HPOP.out.1.keep k5 HGB.out).keep k6 HGB.out).keep k7 (fun i hi => by omega), bl_keep (bl_keep (bl_keep HB k5 HGS.out) k6 HGS.out) k7 (fun i hi => by omega), by have h1 := k5.size; have h2 := k6.size; have h3 := k7.size; omega⟩
      case rest =>
        obtain ⟨L9, f9, u9, F9, O9, hI9, hLM9, hA9, hm9, hq9, hb9, hsz9⟩ := hcut
        have hlu := hI9.lenU
        have hu9 := hI9.len
        subst hu9
        have hln := fun W hA => alen_any g h L9 f9 ((O9.length : Nat) : Int) W hA (by omega)
        rw [hlu.1] at hln
        have hlf := fun W hA => aleft_any g h L9 f9 ((O9.length : Nat) : Int) W hA (by omega) (by omega)
        rw [hLM9] at hlf
        have t9 : IntKind.i64.wrap (((O9.length : Nat) : Int) + ((M : Int) - ((O9.length : Nat) : Int))) = M := by rw [IntKind.wrap_i64]; omega
        have HLN := Lib.hid hln
        have HLF := Lib.hid hlf
        have hmx1 := HMX.out.1
        have hmx2 := HMX.out.2
        have HI9 := Lib.hid hI9
        have HLM9 := Lib.hid hLM9
        have M1 : True := trivial
        clear hln hlf hI9 hlu HI HA HMp hQ HB hsz hOL d0 hLM9
        go_wp2_with (first
          | (go_at_call 31; (have m_ := M1; clear M1 m_); refine (HLN.out _ hA9).mono ?_; rintro e w10 ⟨rfl, hb10⟩; have hA10 := hA9.below hb10; have hm10 := hm9.below hb10)
          | (go_at_call 31; refine (HLN.out _ hA10).mono ?_; rintro e w11 ⟨rfl, hb11⟩; have hA11 := hA10.below hb11)
          | (at_len; refine wpList_lenS rfl _ rfl rfl hm10 ?_)
          | (go_at_call 28; refine (HLF.out _ hA11).mono ?_; rintro e w12 ⟨rfl, m12, rfl⟩))
        have hbx := bl_then (bl_then hb10 (Nat.le_refl _) hb11) (Nat.le_refl _) (below_drewN w11 m12)
        go_roundw
        case rel => exact ⟨k + 1, L9, f9, _, F9, O9, by omega, by go_num, HI9.out, HLM9.out, hA9.below hbx, hm9.below hbx, hq9.below hbx, bl_then hb9 (Nat.le_refl _) hbx, by have := hbx.size; omega⟩
        case measure => simp [intOf]; omega
    · as_aux_lemma =>
        obtain rfl : k = len := by omega
        clear hI hA hMp hQ hlt HLW hOL
        have hO : Below wr.heap.size wr ((wr.alloc (.cells #[.int .i64 0] 3)).alloc (.cells #[.pointer none] 41)) := ((Below.refl _ _).alloc (Nat.le_refl _) _).alloc (by simp) _
        have hLst : Bk ((wr.alloc (.cells #[.int .i64 0] 3)).alloc (.cells #[.pointer none] 41)) wr.heap.size 3 #[.int .i64 0] := (Bk.new wr 3 #[.int .i64 0]).below ((Below.refl _ _).alloc (Nat.le_refl _) _)
        have hbq : ((wr.alloc (.cells #[.int .i64 0] 3)).alloc (.cells #[.pointer none] 41)).cell? ⟨wr.heap.size + 1, 0, none⟩ = some (.pointer none) := by
          have := (Bk.new (wr.alloc (.cells #[.int .i64 0] 3)) 41 #[.pointer none]).cell 0
          rw [World.size_alloc] at this
          exact this
        have hsz5 : ((wr.alloc (.cells #[.int .i64 0] 3)).alloc (.cells #[.pointer none] 41)).heap.size = wr.heap.size + 2 := by simp
        go_wp2_with (first
          | (go_at_call 27; refine (atake_nil _ _).mono ?_; rintro e _ ⟨rfl, rfl⟩)
          | (go_at_call 30; refine (aget_nil _ _).mono ?_; rintro e _ ⟨rfl, rfl⟩)
          | (go_at_call 44; refine (callsIn_wide.1 (used_in 3 none _)).mono ?_; rintro e _ ⟨rfl, rfl⟩; simp only [World.size_alloc]))
        refine (wpIn_wide (n := 3)).1 ?_
        have hst := used_nil_stops 2 (wr.heap.size + 1) wr.heap.size ((wr.alloc (.cells #[.int .i64 0] 3)).alloc (.cells #[.pointer none] 41)) (by rw [hsz5]; omega) hbq
        refine' rangeF_fr rfl (by omega) (gf := 71) (lb := #[.pointer (some ⟨wr.heap.size + 1, 0, none⟩)]) rfl trivial (enters_of Try.func71 (by kernel_rfl) rfl)
          hst Keep.trans
          (fun W l o o' hl ho h1 h2 => grown_keep (grownBy_putObj' W l o') _ (fun k e => by cases e; rw [hsz5] at hl; constructor <;> omega)) (Below.refl _ _) (fun _ => rfl)
          (fun pre W => (W.cell? ⟨wr.heap.size, 0, none⟩ = some (.int .i64 0) ∧ W.frozen? ⟨wr.heap.size, 0, none⟩ = false) ∧ Keep (fun i => i = wr.heap.size) ((wr.alloc (.cells #[.int .i64 0] 3)).alloc (.cells #[.pointer none] 41)) W)
          (fun _ _ _ => False)
          (OwnFrom.and (Own.from (fun s A B row hs hg hr => ⟨cell_kept hs.1 hg hr, (frozen_kept hs.1 hg hr).trans hs.2⟩) _) (fun s W W' row hs hg hr => Keep.fresh hs (grown_keep hg (fun k => row = some k) (fun k e => e)) (fun i hi => .inr (hr i hi).1)))
          (fun _ _ _ _ _ hs _ _ => hs)
          ⟨⟨hLst.cell 0, hLst.frozen 0⟩, Keep.refl _ _⟩
          (fun fr x => (fr.setIfInBounds 118 (.int .i64 (x.1 : Int))).setIfInBounds 119 (.int .i64 x.2)) ?assign ?body ?done ?stop
        case assign =>
          intro fr hfr l x W K hK
          have h0 : (((#[118, 119] : Array Tmp).zip #[Value.int .i64 (x.1 : Int), .int .i64 x.2]).foldl (fun t (p, v) => t.setIfInBounds p v) fr) = (fr.setIfInBounds 118 (.int .i64 (x.1 : Int))).setIfInBounds 119 (.int .i64 x.2) := by simp
          rw [h0]
          have HK := Lib.hid hK
          clear hK
          gi_wp2
          exact HK.out
        case body =>
          rintro l pre x W _ hpre
          exact absurd hpre (Nat.not_lt_zero _)
        case done =>
          rintro D ys W hD rfl ⟨⟨hc, hf⟩, kW⟩ hK
          have hbel : Below wr.heap.size wr W := hO.trans (kW.below (by rw [hsz5]; omega) (fun i hi => by omega))
          have HBW := HB.trans (hbel.mono HB.size)
          have z0 := fun dq osq => cell_regrown hc dq osq
          have hDl : D < W.heap.size := (Array.getElem?_eq_some_iff.1 hK).1
          have HD := Lib.hid hD
          have HKK := Lib.hid hK
          go_wp2
          refine wp_region_quiet_below (by kernel_rfl) (by kernel_rfl) ?_
          repeat (go_big_quiet_step (first
            | (go_at_call 29; exact Calls.regrown_of ((afree_nil _ _).mono fun _ _ h => ⟨h.1, by rw [← h.2]; exact Below.refl _ _⟩))
            | (go_at_call 42; exact Calls.regrown_of ((aset_nil _ _ _).mono fun _ _ h => ⟨h.1, by rw [← h.2]; exact Below.refl _ _⟩))
            | (go_at_call 28; exact Calls.regrown_of ((aleft_nil _).mono fun _ _ h => ⟨h.1, by rw [← h.2]; exact Below.refl _ _⟩))
            | (go_at_call 31; exact Calls.regrown_of (alen_nil _))))
          refine wpQuiet_nil ?_
          intro _ hw'
          obtain ⟨⟨dq, osq⟩, hw''⟩ := hw'
          subst hw''
          have hbr := below_regrown W dq osq
          have hK2 := (hbr.block D hDl).trans HKK.out
          go_wp2
          refine ⟨by simp, .inl ⟨_, _, rfl, run_takeDeferred hK2, ?_⟩⟩
          exact ⟨_, results_tmp rfl _ _ _, rfl, (bl_then HBW (Nat.le_refl _) hbr).trans (belowK_b (w := w) (Nat.le_refl _) _ D _ _ (by have := HD.out; rw [hsz5] at this; have := HB.size; omega) hK2 rfl rfl)⟩
        case stop =>
          rintro D c pre W _ _ h _
          exact h.elim
end Go.Proofs.Ytgdghinconghgaa
