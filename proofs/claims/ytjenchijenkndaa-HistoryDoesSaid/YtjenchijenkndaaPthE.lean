/- Nodes: the reference's Ways, Within. No condition. -/
import Derived.Test.YtjenchijenkndaaPthD
set_option linter.unusedVariables false
set_option linter.unusedSimpArgs false
namespace Go.Proofs.Ytjenchijenkndaa
open Go.RowKit (wrap32 wrap64)
open Go.RowKit Go.Shelf
set_option maxRecDepth 100000 in
set_option maxHeartbeats 2000000 in
theorem rways_any (p : Pt) (w : World) : Calls Try.prog 51 #[.agg (ptA p)] w (OwnRet enPt 27 5 w (ways p)) := by
  have hO : Below w.heap.size w (w.alloc (.cells (ptA p) 27)) := (Below.refl _ _).alloc (Nat.le_refl _) _
  have hb := Bk.new w 27 (ptA p)
  have hm := fun W => rpright_any p W
  cases hmp : mayP p with
  | false =>
    have c0 := hb.cell 0
    have c1 := hb.cell 1
    have c2 := hb.cell 2
    have c3 := hb.cell 3
    have c4 := hb.cell 4
    rw [hmp] at hm
    rw [ways_no p hmp]
    have HM := Lib.hid hm
    have hret : ∀ W, Below w.heap.size w W → OwnRet enPt 27 5 w [] (.returned (.slice none 0 0)) W := fun W h => ⟨_, rfl, World.ownsRow_nil _ _ _ _, h⟩
    have HRT := Lib.hid hret
    clear hm hmp hb hret
    go_enter Try.func51, Try.ntmps51
    go_wp2_with fail
    refine wp_loop_rounds 1 ?_
    rw [rounds_succ]
    go_wp2_with (go_at_call 66; refine (HM.out _).mono ?_; rintro e w1 ⟨rfl, hb1⟩)
    go_ret
    exact HRT.out _ (bl_then hO (Nat.le_refl _) hb1)
  | true =>
    rw [hmp] at hm
    obtain ⟨D, hD, hD1, hD4⟩ := mayP_dep p hmp
    rw [ways_of p D hmp hD]
    have hret : ∀ v W, W.ownsRow w.heap.size 27 5 v D (flatV enPt ((List.range D).map (fun i => front p (i + 1)))) → Below w.heap.size w W → OwnRet enPt 27 5 w ((List.range D).map (fun i => front p (i + 1))) (.returned v) W := fun v W h hb => ⟨v, rfl, by simpa using h, hb⟩
    have HM := Lib.hid hm
    have HRT := Lib.hid hret
    obtain ⟨i0, hi, hz0, hz1, hz2⟩ := info_parts Try.infoPt
    have HD := Lib.hid hD
    clear hm hmp hret hD
    go_enter Try.func51, Try.ntmps51
    go_wp2_with fail
    generalize (w.alloc (.cells (ptA p) 27)) = w1 at hO hb ⊢
    go_loopw [3, 4] (fun v c wr => ∃ k : Nat, k ≤ D ∧ c = .int .i64 ((k : Int) + 1) ∧ wr.ownsRow (w.heap.size + 1) 27 5 v k (flatV enPt ((List.range k).map (fun i => front p (i + 1)))) ∧ Bk wr w.heap.size 27 (ptA p) ∧ Below w.heap.size w wr) (fun _ c _ => D + 1 - (intOf c).toNat)
    case atStart => exact ⟨0, by omega, rfl, World.ownsRow_nil _ _ _ _, hb, hO⟩
    case round =>
      clear hb hO
      obtain ⟨k, hk, rfl, hown, hbk, HB⟩ := hrel
      have c0 := hbk.cell 0
      have c1 := hbk.cell 1
      have c2 := hbk.cell 2
      have c3 := hbk.cell 3
      have c4 := hbk.cell 4
      have hwl := hbk.lt
      have t1 : IntKind.i64.wrap ((k : Int) + 1 + 1) = (k : Int) + 1 + 1 := by rw [IntKind.wrap_i64]; omega
      by_cases hlt : k < D
      · have hki : decide ((k : Int) + 1 ≤ p.dep) = true := by have := HD.out; simp; omega
        have hcut := fun W => rfront_any p (k + 1) (by omega) (by omega) W
        have hca : (((k + 1 : Nat) : Int)) = (k : Int) + 1 := by omega
        rw [hca] at hcut
        have hs := range_snoc (fun i => front p (i + 1)) k
        generalize hq : front p (k + 1) = q at hcut hs
        have HS := Lib.hid hs
        have HC := Lib.hid hcut
        obtain ⟨y0, y1, y2, y3, y4⟩ := q
        clear hcut hq hs hca
        go_wp2_with (first
          | (go_at_call 66; refine (HM.out _).mono ?_; rintro e w2 ⟨rfl, hb2⟩; have hbk2 := hbk.below hb2; have e0 := hbk2.cell 0; have e1 := hbk2.cell 1; have e2 := hbk2.cell 2; have e3 := hbk2.cell 3; have e4 := hbk2.cell 4; clear c0 c1 c2 c3 c4)
          | (go_at_call 67; refine (HC.out _).mono ?_; rintro e w4 ⟨rfl, hb4⟩; have hown4 := own_below (own_below hown hb2) hb4; have hbk4 := hbk2.below hb4; have HB4 := bl_then (bl_then HB (Nat.le_refl _) hb2) (Nat.le_refl _) hb4; have hsz4 := hb4.size; have hsz2 := hb2.size; clear e0 e1 e2 e3 e4)
          | (at_builtin; refine wpList_append_one enPt_len (by omega) enPt_one rfl _ _ 68 rfl (w.heap.size + 1) 27 i0 _ 40 Try.underlying68 hi hz0 hz1 hz2 rfl _ k _ rfl hown4 ⟨y0, y1, y2, y3, y4⟩ #[.int .i64 y0, .int .i64 y1, .int .i64 y2, .int .i64 y3, .int .i64 y4] rfl 27 _ rfl rfl (by unfold maxLen; omega) (by omega) (Below.refl _ _) (by omega) ?_; intro v' w5 hown5 HB5 hk5; rw [← HS.out] at hown5))
        have hbk5 := hk5.bk hbk4 (fun hh => by have := (hown4.lt _ hh).1; omega)
        have HB6 := HB4.trans (HB5.mono (by have := HB4.size; omega))
        go_roundw
        case rel => exact ⟨k + 1, by omega, by go_num, hown5, hbk5, HB6⟩
        case measure => simp [intOf]; omega
      · obtain rfl : k = D := by omega
        have hki : decide ((k : Int) + 1 ≤ p.dep) = false := by have := HD.out; simp; omega
        go_wp2_with (go_at_call 66; refine (HM.out _).mono ?_; rintro e w2 ⟨rfl, hb2⟩; have hbk2 := hbk.below hb2; have e4 := hbk2.cell 4)
        have hown' := own_below (own_weaken hown (Nat.le_succ _)) hb2
        go_ret
        exact HRT.out _ _ hown' (bl_then HB (Nat.le_refl _) hb2)
/-- Whether a node is q or within it. -/
def inP (p q : Pt) : Bool := (ways p).any fun a => decide (a = q)
theorem inP_bad (p q : Pt) (k : Nat) (x : Pt) (hx : (ways p)[k]? = some x) (h : x = q) : inP p q = true := List.any_eq_true.2 ⟨x, List.mem_of_getElem? hx, decide_eq_true h⟩
theorem inP_all (p q : Pt) (h : ∀ y ∈ ways p, decide (y = q) = false) : inP p q = false := List.any_eq_false.2 (fun x hx => by rw [h x hx]; simp)
theorem okPt_front (p : Pt) (d : Nat) (hd : d ≤ 4) (h : okPt p) : okPt (front p d) := by
  obtain ⟨a, b, c, e, f⟩ := h
  have z : (Lit.int .i64 0).wf = true := by decide
  have z4 : (Lit.int .i64 (d : Int)).wf = true := by
    obtain rfl | rfl | rfl | rfl | rfl : d = 0 ∨ d = 1 ∨ d = 2 ∨ d = 3 ∨ d = 4 := by omega
    all_goals decide
  refine ⟨?_, ?_, ?_, ?_, z4⟩ <;> (simp only [front]; split <;> assumption)
theorem okPt_ways (p : Pt) (h : okPt p) : ∀ x ∈ ways p, okPt x := by
  intro x hx
  cases hm : mayP p with
  | false => rw [ways_no p hm] at hx; simp at hx
  | true =>
    obtain ⟨D, hD, _, h4⟩ := mayP_dep p hm
    rw [ways_of p D hm hD] at hx
    obtain ⟨i, hi, rfl⟩ := List.mem_map.1 hx
    have := List.mem_range.1 hi
    exact okPt_front p (i + 1) (by omega) h
theorem ways_len (p : Pt) : (ways p).length ≤ 4 := by
  cases hm : mayP p with
  | false => rw [ways_no p hm]; simp
  | true =>
    obtain ⟨D, hD, _, h4⟩ := mayP_dep p hm
    rw [ways_of p D hm hD]; simpa using h4
set_option maxRecDepth 100000 in
set_option maxHeartbeats 2000000 in
theorem rin_any (p q : Pt) (hp : okPt p) (w : World) : Calls Try.prog 38 #[.agg (ptA p), .agg (ptA q)] w fun e w' => e = .returned (.bool (inP p q)) ∧ Below w.heap.size w w' := by
  have hO : Below w.heap.size w ((w.alloc (.cells (ptA p) 27)).alloc (.cells (ptA q) 27)) := ((Below.refl _ _).alloc (Nat.le_refl _) _).alloc (by simp) _
  have hb0 := (Bk.new w 27 (ptA p)).below ((Below.refl _ _).alloc (Nat.le_refl _) (.cells (ptA q) 27))
  have hb1 : Bk ((w.alloc (.cells (ptA p) 27)).alloc (.cells (ptA q) 27)) (w.heap.size + 1) 27 (ptA q) := by
    have := Bk.new (w.alloc (.cells (ptA p) 27)) 27 (ptA q)
    rw [World.size_alloc] at this
    exact this
  have c0 := hb0.cell 0
  have c1 := hb0.cell 1
  have c2 := hb0.cell 2
  have c3 := hb0.cell 3
  have c4 := hb0.cell 4
  have hall := okPt_ways p hp
  have hwl := ways_len p
  have hbad := inP_bad p q
  have hgood := inP_all p q
  have HW := Lib.hid (fun W => rways_any p W)
  have HBad := Lib.hid hbad
  have HGood := Lib.hid hgood
  have HAll := Lib.hid hall
  clear hb0 hall hbad hgood
  generalize hL : ways p = L at HW HBad HGood HAll hwl
  clear hL
  go_enter Try.func38, Try.ntmps38
  go_wp2_with (go_at_call 51; refine (HW.out _).mono ?_; rintro e w2 ⟨v, rfl, hown, hb2⟩; obtain ⟨A, c, rfl, hs, _, _⟩ := SR.own (ok := okPt) enPt_len (by omega) hown HAll.out; clear hown)
  have HB2 := bl_then hO (Nat.le_refl _) hb2
  have hq := hb1.below hb2
  clear hO hb1 hb2 c0 c1 c2 c3 c4
  go_loopw [10] (fun c wr => ∃ k : Nat, k ≤ L.length ∧ c = .int .i64 k ∧ Hid (∀ y ∈ L.take k, decide (y = q) = false) ∧ Below w2.heap.size w2 wr) (fun c _ => L.length - (intOf c).toNat)
  case atStart => exact ⟨0, by omega, rfl, Lib.hid (by simp), Below.refl _ _⟩
  case round =>
    obtain ⟨k, hk, rfl, HN, HC⟩ := hrel
    by_cases hlt : k < L.length
    · obtain ⟨b, off, x, rfl, _, hx, _, d0, d1, d2, d3, d4⟩ := Pt_at (hs.below HC) hlt
      have hOx : Below wr.heap.size wr (wr.alloc (.cells (ptA x) 27)) := (Below.refl _ _).alloc (Nat.le_refl _) _
      have HC1 := bl_then HC (Nat.le_refl _) hOx
      have hqq := (hq.below HC).below hOx
      have q0 := hqq.cell 0
      have q1 := hqq.cell 1
      have q2 := hqq.cell 2
      have q3 := hqq.cell 3
      have q4 := hqq.cell 4
      have hbx := Bk.new wr 27 (ptA x)
      have x0 := hbx.cell 0
      have x1 := hbx.cell 1
      have x2 := hbx.cell 2
      have x3 := hbx.cell 3
      have x4 := hbx.cell 4
      have he := eqlPt x q
      have hg := gdPt
      have HX := Lib.hid hx
      clear hx hOx hqq hbx hs
      by_cases hxq : x = q
      · rw [decide_eq_true hxq] at he
        have hr := HBad.out k x HX.out hxq
        have HR := Lib.hid hr
        clear hr hxq
        go_wp2
        go_ret
        exact ⟨by rw [HR.out]; rfl, bl_then HB2 (Nat.le_refl _) HC1⟩
      · rw [decide_eq_false hxq] at he
        have HQ := Lib.hid (decide_eq_false hxq)
        clear hxq
        go_wp2
        go_roundw
        case rel =>
          refine ⟨k + 1, by omega, by go_num, Lib.hid ?_, HC1⟩
          rw [take_snocG L k x HX.out]
          intro y hy
          rcases List.mem_append.1 hy with hy | hy
          · exact HN.out y hy
          · rw [List.mem_singleton.1 hy]; exact HQ.out
        case measure => simp [intOf]; omega
    · obtain rfl : k = L.length := by omega
      have hr := HGood.out (by have := HN.out; rw [List.take_length] at this; exact this)
      have HR := Lib.hid hr
      clear hr hs
      go_wp2
      go_ret
      exact ⟨by rw [HR.out]; rfl, bl_then HB2 (Nat.le_refl _) HC⟩
end Go.Proofs.Ytjenchijenkndaa
