/- store: Set. No condition. -/
import Derived.Test.YtjbhlckdaghppaaStC
set_option linter.unusedVariables false
set_option linter.unusedSimpArgs false
namespace Go.Proofs.Ytjbhlckdaghppaa
open Go.RowKit (wrap32 wrap64)
open Go.RowKit
def okSet (p : Pt) (v : Int) : Bool := mayP p && (decide (p.dep = 4) && (decide (0 ≤ v) && decide (v ≤ 1073741824)))
structure Was where
  a : Int
  e : Int
  E : List Cl
def putT (E : List Cl) (p : Pt) (v : Int) : Was := if okSet p v = true then ⟨(getE E p).1, 0, setE E p v⟩ else ⟨0, 1, E⟩
theorem putT_ok {E : List Cl} {K : Nat} (h : OkE E K) {p : Pt} (hp : okPt p) (v : Int) : OkE (putT E p v).E (K + 1) := by
  unfold putT
  split
  · rename_i g
    unfold okSet at g
    simp only [Bool.and_eq_true, decide_eq_true_eq] at g
    exact set_ok h g.1 hp ⟨g.2.2.1, g.2.2.2⟩
  · exact h.mono (Nat.le_succ _)
theorem get_cnt {E : List Cl} {K : Nat} (h : OkE E K) (p : Pt) : 0 ≤ (getE E p).2 ∧ (getE E p).2 ≤ K := by
  unfold getE
  split
  · rename_i c hc
    have := h.cnt c (List.mem_of_find?_eq_some hc)
    exact ⟨by show 0 ≤ c.n; omega, this.2.2⟩
  · exact ⟨by omega, by show (0 : Int) ≤ K; omega⟩
def StSet (s b : Nat) (w : World) (r : Was) (e : Ending) (w' : World) : Prop := e = .returned (.tuple #[.int .i64 r.a, .int .i64 r.e]) ∧ StO w' s b r.E ∧ Keep (fun i => i = b) w w'
theorem stset_nil (p : Pt) (v : Int) (w : World) : Calls Try.prog 11 #[.pointer none, .agg (ptA p), .int .i64 v] w fun e w' => e = .returned (.tuple #[.int .i64 0, .int .i64 70]) ∧ Below w.heap.size w w' := by
  have a1 := (Below.refl w.heap.size w).alloc (Nat.le_refl _) (PB p)
  go_enter Try.func11, Try.ntmps11
  go_wp2_with (go_at_call 34; refine (stok_nil _).mono ?_; rintro e w' ⟨rfl, rfl⟩)
  go_ret2
  exact ⟨rfl, a1⟩
set_option maxRecDepth 100000 in
set_option maxHeartbeats 4000000 in
theorem stset_any (s b : Nat) (E : List Cl) (K : Nat) (p : Pt) (v : Int) (hp : okPt p) (w : World) (h : StO w s b E) (hE : OkE E K) (hK : K ≤ 1000) (hsb : s ≠ b) : Calls Try.prog 11 #[.pointer (some ⟨s, 0, none⟩), .agg (ptA p), .int .i64 v] w (StSet s b w (putT E p v)) := by
  have a1 := (Below.refl w.heap.size w).alloc (Nat.le_refl _) (PB p)
  have b1 := Bk.new w 25 (ptA p)
  have HO := Lib.hid (h.below a1)
  have HOK := Lib.hid (stok_any s b E _ HO.out)
  have HMAY := Lib.hid (fun W1 => pmay_any p W1)
  have HB1 := Lib.hid b1
  have HA1 := Lib.hid a1
  have e0 := b1.cell 0
  have e1 := b1.cell 1
  have e2 := b1.cell 2
  have e3 := b1.cell 3
  have e4 := b1.cell 4
  have hno : ∀ W, okSet p v = false → Below w.heap.size w W → StSet s b w (putT E p v) (.returned (.tuple #[.int .i64 0, .int .i64 1])) W := fun W hs hb => by
    unfold putT
    rw [if_neg (by rw [hs]; simp)]
    exact ⟨rfl, h.below hb, Keep.of_below hb _⟩
  have HNO := Lib.hid hno
  clear hno b1 a1
  cases hm : mayP p with
  | false =>
    rw [hm] at HMAY
    have HF : Hid (okSet p v = false) := Lib.hid (by unfold okSet; rw [hm]; rfl)
    clear hm h
    go_enter Try.func11, Try.ntmps11
    go_wp2_with (first
      | (go_at_call 34; refine HOK.out.mono ?_; rintro e w' ⟨rfl, rfl⟩)
      | (go_at_call 35; refine (HMAY.out _).mono ?_; rintro e w2 ⟨rfl, hb2⟩))
    go_ret2
    exact HNO.out _ HF.out (bl_then HA1.out (Nat.le_refl _) hb2)
  | true =>
  rw [hm] at HMAY
  by_cases g1 : p.dep = 4
  case neg =>
    have HF : Hid (okSet p v = false) := Lib.hid (by unfold okSet; rw [decide_eq_false g1]; simp)
    have g1' : (p.dep != 4) = true := bne_iff_ne.2 g1
    clear hm h
    go_enter Try.func11, Try.ntmps11
    go_wp2_with (first
      | (go_at_call 34; refine HOK.out.mono ?_; rintro e w' ⟨rfl, rfl⟩)
      | (go_at_call 35; refine (HMAY.out _).mono ?_; rintro e w2 ⟨rfl, hb2⟩; have d4 := (HB1.out.below hb2).cell 4))
    go_ret2
    exact HNO.out _ HF.out (bl_then HA1.out (Nat.le_refl _) hb2)
  have g1' : (p.dep != 4) = false := by simp [g1]
  by_cases g2 : v < 0
  · have HF : Hid (okSet p v = false) := Lib.hid (by unfold okSet; rw [decide_eq_false (show ¬ 0 ≤ v by omega)]; simp)
    clear hm h g1
    go_enter Try.func11, Try.ntmps11
    go_wp2_with (first
      | (go_at_call 34; refine HOK.out.mono ?_; rintro e w' ⟨rfl, rfl⟩)
      | (go_at_call 35; refine (HMAY.out _).mono ?_; rintro e w2 ⟨rfl, hb2⟩; have d4 := (HB1.out.below hb2).cell 4))
    go_ret2
    exact HNO.out _ HF.out (bl_then HA1.out (Nat.le_refl _) hb2)
  by_cases g3 : 1073741824 < v
  · have HF : Hid (okSet p v = false) := Lib.hid (by unfold okSet; rw [decide_eq_false (show ¬ v ≤ 1073741824 by omega)]; simp)
    clear hm h g1
    go_enter Try.func11, Try.ntmps11
    go_wp2_with (first
      | (go_at_call 34; refine HOK.out.mono ?_; rintro e w' ⟨rfl, rfl⟩)
      | (go_at_call 35; refine (HMAY.out _).mono ?_; rintro e w2 ⟨rfl, hb2⟩; have d4 := (HB1.out.below hb2).cell 4))
    go_ret2
    exact HNO.out _ HF.out (bl_then HA1.out (Nat.le_refl _) hb2)
  have hs : okSet p v = true := by unfold okSet; rw [hm, decide_eq_true g1, decide_eq_true (show 0 ≤ v by omega), decide_eq_true (show v ≤ 1073741824 by omega)]; rfl
  have hT : putT E p v = ⟨(getE E p).1, 0, setE E p v⟩ := if_pos hs
  rw [hT]
  have hcn := get_cnt hE p
  have HAT := Lib.hid (fun W1 (hb : Below w.heap.size w W1) => stat_any s b E p hp W1 (h.below hb))
  have HMAYP := Lib.hid hm
  generalize hg : getE E p = g at HAT hcn ⊢
  obtain ⟨c1, c2⟩ := g
  dsimp only at HAT hcn ⊢
  have hw1 : IntKind.i64.wrap (c2 + 1) = c2 + 1 := by rw [IntKind.wrap_i64] <;> omega
  have HG := Lib.hid hg
  have HH := Lib.hid h
  have HEE := Lib.hid hE
  clear hm h g1 hs hT hg hcn hE
  go_enter Try.func11, Try.ntmps11
  go_wp2_with (first
    | (go_at_call 34; refine HOK.out.mono ?_; rintro e w' ⟨rfl, rfl⟩)
    | (go_at_call 35; refine (HMAY.out _).mono ?_; rintro e w2 ⟨rfl, hb2⟩; have k2 := HB1.out.below hb2; have d0 := k2.cell 0; have d1 := k2.cell 1; have d2 := k2.cell 2; have d3 := k2.cell 3; have d4 := k2.cell 4; clear e0 e1 e2 e3 e4; have hb3 := bl_then HA1.out (Nat.le_refl _) hb2)
    | (go_at_call 36; refine (HAT.out _ hb3).mono ?_; rintro e w4 ⟨rfl, hb4⟩))
  have al := (Below.refl w4.heap.size w4).alloc (Nat.le_refl _) (.cells #[.int .i64 c1, .int .i64 c2] 63)
  have hb5 := bl_then (bl_then hb3 (Nat.le_refl _) hb4) (Nat.le_refl _) al
  have k5 := (k2.below hb4).below al
  have l5 := Bk.new w4 63 #[.int .i64 c1, .int .i64 c2]
  have hO5 := HH.out.below hb5
  have hlt4 := (HH.out.below (bl_then hb3 (Nat.le_refl _) hb4)).mp.lt
  clear d0 d1 d2 d3 d4 al k2
  generalize w4.alloc (.cells #[.int .i64 c1, .int .i64 c2] 63) = w5 at hb5 k5 l5 hO5 ⊢
  generalize w4.heap.size = B at l5 hlt4 ⊢
  have x0 := k5.cell 0
  have x1 := k5.cell 1
  have x2 := k5.cell 2
  have x3 := k5.cell 3
  have x4 := k5.cell 4
  have y1 := l5.cell 1
  have s0 := hO5.bk.cell 0
  have hBK := Lib.hid hO5.bk
  obtain ⟨D, hown, hsz, h1, h2, h3⟩ := hO5.mp
  have htd := hown.tidy ptKeyed
  have hln : E.length < maxLen := by have := HEE.out.len; unfold maxLen; omega
  obtain ⟨w6, hrun, hown6, hg6⟩ := (show w5.drew.ownsMap Try.prog 25 elC b E.length D from hown).update ptKeyed Try.underlying58 hln (keyOf_pt p hp) (show elC (.agg #[.int .i64 v, .int .i64 (c2 + 1)]) = some (.held (v, c2 + 1), []) from rfl)
  have kk : Keep (fun i => i = b) w5 w6 := Keep.trans (Keep.drew _ _) (grown_keep hg6 _ (fun k hk => by injection hk with hk; exact hk.symm))
  have l6 := kk.bk l5 (show ¬ B = b by omega)
  have z0 := l6.cell 0
  have hm6 : MapT w6 b (setE E p v) := MapT.put (w := w6) HEE.out htd hsz h1 h2 h3 HMAYP.out hp (by rw [HG.out]) hown6
  have HM6 := Lib.hid hm6
  have hbk6 := kk.bk hBK.out (show ¬ s = b from hsb)
  have HBK6 := Lib.hid hbk6
  have HKK := Lib.hid ((Keep.of_below hb5 (fun i => i = b)).trans kk)
  clear hO5 hown hsz h1 h2 h3 htd hln hown6 hg6 kk l6 hm6 hbk6 hb5 k5 l5 hBK hb3 hb4
  go_region_with (fail)
  all_goals
    go_wp2
    go_ret2
    exact ⟨rfl, ⟨HBK6.out, HM6.out⟩, HKK.out⟩
end Go.Proofs.Ytjbhlckdaghppaa
