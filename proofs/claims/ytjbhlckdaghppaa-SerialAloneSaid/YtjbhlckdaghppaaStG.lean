/- store: Rows, Under. No condition. -/
import Derived.Test.YtjbhlckdaghppaaStF
import Derived.Test.YtjbhlckdaghppaaPthG
set_option linter.unusedVariables false
set_option linter.unusedSimpArgs false
namespace Go.Proofs.Ytjbhlckdaghppaa
open Go.RowKit (wrap32 wrap64)
open Go.RowKit Go.Shelf Go.Sort Go.Lib
def rwOf (c : Cl) : Rw := ⟨c.p.n0, c.p.n1, c.p.n2, c.p.n3, c.p.dep, c.v⟩
theorem rwP_of (c : Cl) : rwP (rwOf c) = c.p := rfl
def goodC (g : Pt → Bool) (c : Cl) : Bool := c.v != 0 && g c.p
def goodsE (E : List Cl) (g : Pt → Bool) : List Rw := (E.filter (goodC g)).map rwOf
theorem goods_srt {E : List Cl} {K : Nat} (h : OkE E K) (g : Pt → Bool) : SrtRw (goodsE E g) := by
  unfold SrtRw goodsE
  rw [List.pairwise_map]
  exact (h.srt.filter _)
theorem goods_may {E : List Cl} {K : Nat} (h : OkE E K) (g : Pt → Bool) : ∀ x ∈ goodsE E g, mayP (rwP x) = true := by
  intro x hx
  obtain ⟨c, hc, rfl⟩ := List.mem_map.1 hx
  exact (h.may c (List.mem_filter.1 hc).1).1
theorem goods_ok {E : List Cl} {K : Nat} (h : OkE E K) (g : Pt → Bool) : ∀ x ∈ goodsE E g, okRw x := by
  intro x hx
  obtain ⟨c, hc, rfl⟩ := List.mem_map.1 hx
  have hc1 := (List.mem_filter.1 hc).1
  obtain ⟨h0, h1, h2, h3, h4⟩ := (h.may c hc1).2
  have hv := (h.cnt c hc1).1
  refine ⟨h0, h1, h2, h3, h4, ?_⟩
  show (decide _ && decide _) = true
  simp [rwOf, IntKind.min, IntKind.max, IntKind.signed, IntKind.bits]
  omega
theorem goods_len (E : List Cl) (g : Pt → Bool) : (goodsE E g).length ≤ E.length := by
  unfold goodsE
  rw [List.length_map]
  exact List.length_filter_le _ _
theorem ok_nodup {E : List Cl} {K : Nat} (h : OkE E K) : E.Nodup := by
  refine List.Pairwise.imp ?_ h.srt
  intro a b hab e
  rw [e, less_irrefl] at hab; cases hab
theorem ok_same {E : List Cl} {K : Nat} (h : OkE E K) {a b : Cl} (ha : a ∈ E) (hb : b ∈ E) (e : a.p = b.p) : a = b := by
  induction E with
  | nil => cases ha
  | cons c E ih =>
    have hc := List.pairwise_cons.1 h.srt
    rcases List.mem_cons.1 ha with ea | ha'
    · rcases List.mem_cons.1 hb with eb | hb'
      · rw [ea, eb]
      · have := hc.1 b hb'; rw [← ea, e, less_irrefl] at this; cases this
    · rcases List.mem_cons.1 hb with eb | hb'
      · have := hc.1 a ha'; rw [← eb, e, less_irrefl] at this; cases this
      · exact ih h.tail ha' hb'
theorem get_mem {E : List Cl} {K : Nat} (h : OkE E K) {c : Cl} (hc : c ∈ E) : getE E c.p = (c.v, c.n) := by
  unfold getE
  cases hf : E.find? (fun x => decide (x.p = c.p)) with
  | none => have h9 := List.find?_eq_none.1 hf c hc; simp at h9
  | some x =>
    have h1 : x.p = c.p := by simpa using List.find?_some hf
    rw [ok_same h (List.mem_of_find?_eq_some hf) hc h1]
theorem filter_add {E : List Cl} (hnd : E.Nodup) {c0 : Cl} (h0 : c0 ∈ E) (P P' : Cl → Bool) (hP : P c0 = false) (hP' : P' c0 = true) (hne : ∀ c ∈ E, c ≠ c0 → P' c = P c) : (E.filter P').Perm (E.filter P ++ [c0]) := by
  induction E with
  | nil => cases h0
  | cons c E ih =>
    have hc := List.nodup_cons.1 hnd
    rw [List.filter_cons, List.filter_cons]
    by_cases e : c = c0
    · subst e
      rw [if_pos hP', if_neg (by rw [hP]; simp)]
      have : E.filter P' = E.filter P := List.filter_congr (fun x hx => hne x (by simp [hx]) (fun e => hc.1 (e ▸ hx)))
      rw [this]
      exact (List.perm_append_singleton c _).symm
    · have h1 : c0 ∈ E := by
        rcases List.mem_cons.1 h0 with h | h
        · exact absurd h.symm e
        · exact h
      have h2 := ih hc.2 h1 (fun x hx => hne x (by simp [hx]))
      rw [hne c (by simp) e]
      split
      · exact h2.cons c
      · exact h2
def partE (E : List Cl) (left : Lit → Bool) (g : Pt → Bool) : List Cl := E.filter (fun c => !left (kyP c.p) && goodC g c)
theorem same_ky {p q : Pt} (hp : okPt p) (hq : okPt q) : (kyP p).sameKey (kyP q) = decide (p = q) := by
  by_cases e : p = q
  · subst e
    rw [decide_eq_true rfl]
    unfold kyP Lit.sameKey
    simp
  · rw [decide_eq_false e]
    have hn : ¬ kyP p = kyP q := fun h => e (ky_inj hp hq h)
    unfold kyP at hn ⊢
    unfold Lit.sameKey
    simpa using hn
theorem part_yes {E : List Cl} {K : Nat} (h : OkE E K) {left : Lit → Bool} {g : Pt → Bool} {c0 : Cl} (hc : c0 ∈ E) (hl : left (kyP c0.p) = true) (hg : goodC g c0 = true) : (partE E (fun z => left z && !z.sameKey (kyP c0.p)) g).Perm (partE E left g ++ [c0]) := by
  refine filter_add (ok_nodup h) hc _ _ (by rw [hl]; rfl) (by dsimp only; rw [same_ky (h.may c0 hc).2 (h.may c0 hc).2, decide_eq_true rfl, hg]; simp) (fun c hcE hne => ?_)
  dsimp only
  rw [same_ky (h.may c hcE).2 (h.may c0 hc).2, decide_eq_false (fun e => hne (ok_same h hcE hc e))]
  simp
theorem part_no {E : List Cl} {K : Nat} (h : OkE E K) {left : Lit → Bool} {g : Pt → Bool} {c0 : Cl} (hc : c0 ∈ E) (hg : goodC g c0 = false) : partE E (fun z => left z && !z.sameKey (kyP c0.p)) g = partE E left g := by
  unfold partE
  refine List.filter_congr (fun c hcE => ?_)
  by_cases e : c = c0
  · subst e; rw [hg, Bool.and_false, Bool.and_false]
  · dsimp only
    rw [same_ky (h.may c hcE).2 (h.may c0 hc).2, decide_eq_false (fun e2 => e (ok_same h hcE hc e2))]
    simp
theorem part_end {E : List Cl} {left : Lit → Bool} {g : Pt → Bool} (hl : ∀ k, left k = false) : (partE E left g).map rwOf = goodsE E g := by
  unfold partE goodsE
  congr 1
  refine List.filter_congr (fun c _ => ?_)
  rw [hl]; rfl
theorem part_start {E : List Cl} {D : DataW (Int × Int)} {g : Pt → Bool} (h : ∀ c ∈ E, Maps.has D (kyP c.p) = true) : partE E (Maps.has D) g = [] := by
  unfold partE
  refine List.filter_eq_nil_iff.2 (fun c hc => ?_)
  rw [h c hc]; simp
theorem grown_of_below {w w1 : World} (h : Below w.heap.size w w1) : w.grownBy w1 none := ⟨h.os, h.tape, h.output, h.size, fun i hi _ => h.block i hi⟩
theorem under1_any (p q : Pt) (B0 : Nat) (W : World) (hB : Bk W B0 25 (ptA q)) : Calls Try.prog 41 #[.agg (ptA p), .pointer (some ⟨B0, 0, none⟩)] W fun e w' => e = .returned (.bool (withinP p q)) ∧ Below W.heap.size W w' := by
  have a1 := (Below.refl W.heap.size W).alloc (Nat.le_refl _) (PB p)
  have b1 := Bk.new W 25 (ptA p)
  have b2 := hB.below a1
  have e0 := b1.cell 0
  have e1 := b1.cell 1
  have e2 := b1.cell 2
  have e3 := b1.cell 3
  have e4 := b1.cell 4
  have d0 := b2.cell 0
  have d1 := b2.cell 1
  have d2 := b2.cell 2
  have d3 := b2.cell 3
  have d4 := b2.cell 4
  have HW := Lib.hid (fun W1 => pwithin_any p q W1)
  clear b1 b2 hB
  go_enter Try.func41, Try.ntmps41
  go_wp2_with (go_at_call 42; refine (HW.out _).mono ?_; rintro e w1 ⟨rfl, hb1⟩)
  go_ret
  exact ⟨rfl, bl_then a1 (Nat.le_refl _) hb1⟩
set_option maxRecDepth 100000 in
set_option maxHeartbeats 8000000 in
theorem strowsM_any (s b : Nat) (E : List Cl) (K : Nat) (w : World) (h : StO w s b E) (hE : OkE E K) (hK : K ≤ 900) : Calls Try.prog 40 #[.pointer (some ⟨s, 0, none⟩), .func (.func 35) #[] #[]] w (OwnRet enRw 30 6 w (goodsE E mayP)) := by
  have HOK := Lib.hid (stok_any s b E w h)
  have c0 := h.bk.cell 0
  obtain ⟨D, hown, hsz, h1, h2, h3⟩ := h.mp
  have H1 := Lib.hid h1
  have H2 := Lib.hid h2
  have H3 := Lib.hid h3
  have HE := Lib.hid hE
  have hlen := hE.len
  have hbw := hown.lt
  obtain ⟨i0, hi, hz0, hz1, hz2⟩ := info_parts Try.infoRw
  have HHAS : Hid (∀ c ∈ E, Maps.has D (kyP c.p) = true) := Lib.hid (fun c hc => by rw [h2 c.p (hE.may c hc).2]; unfold hasE; rw [List.any_eq_true]; exact ⟨c, hc, by simp⟩)
  clear h h1 h2 h3 hE
  go_enter Try.func40, Try.ntmps40
  go_wp2_with (first
    | (go_at_call 34; refine HOK.out.mono ?_; rintro e w' ⟨rfl, rfl⟩)
    | (at_range; refine wpList_range_own _ rfl _ 58 rfl 25 63 ptKeyed Try.underlying58 elC b E.length D rfl hown ?_; intro w0 hrg0 hg0 hs0))
  go_frame
  have hb0 : Below w.heap.size w w0 := ⟨hg0.os, hg0.tape, hg0.output, hg0.size, fun k hk => hg0.block k hk (by simp)⟩
  rw [hsz] at hrg0
  obtain ⟨r, hr⟩ : ∃ r, r = w.heap.size := ⟨_, rfl⟩
  rw [← hr] at hrg0 hs0 ⊢
  have HRR := Lib.hid hr
  have HS0 := Lib.hid hs0
  clear hr hg0 hown HOK hs0
  go_loopw [5] (fun v5 wr => ∃ (left : Lit → Bool) (cnt : Nat) (O : List Rw), wr.ranges Try.prog 25 elC b r E.length D left cnt ∧ wr.ownsRow (r + 1) 30 6 v5 O.length (flatV enRw O) ∧ O.Perm ((partE E left mayP).map rwOf) ∧ Hid (∀ k, left k = true → Maps.has D k = true) ∧ O.length + cnt ≤ E.length ∧ Below w.heap.size w wr ∧ r + 1 ≤ wr.heap.size) (fun _ wr => wr.rangeLeft b r)
  case atStart => exact ⟨_, _, [], hrg0, World.ownsRow_nil _ _ _ _, by rw [part_start HHAS.out]; exact List.Perm.nil, Lib.hid (fun _ h => h), by simp, hb0, by rw [HS0.out]; omega⟩
  case round =>
    clear hrg0 hb0
    obtain ⟨left, cnt, O, hrg, ho, hperm, HSUB, hcnt, HB, hrs⟩ := hrel
    have HPM := Lib.hid hperm
    clear hperm
    go_wp2_with (at_next; refine wpList_next_ranges _ rfl _ rfl 25 ptKeyed elC id (fun c : Int × Int => .agg #[.int .i64 c.1, .int .i64 c.2]) (fun key _ _ => ⟨key, rfl⟩) (fun v y hv => by obtain ⟨c, h9, _⟩ := elC_inv hv; exact ⟨c, h9⟩) b r E.length D left cnt rfl hrg ?_ ?_)
    · intro hc0 hl0
      have HG : Hid (O.Perm (goodsE E mayP)) := Lib.hid (by have h9 := HPM.out; rw [part_end hl0] at h9; exact h9)
      have hr900 : O.length ≤ 1000 := by omega
      have HSO := Lib.hid (rowsort_any (r + 1) u5 O.length O (goodsE E mayP) wr ho HG.out (goods_srt HE.out _) (goods_may HE.out _) hr900)
      have HOB := Lib.hid ho.lt
      have HLL := Lib.hid HG.out.length_eq
      clear hrg ho hc0 hl0
      go_wp2_with (go_at_call 51; refine HSO.out.mono ?_; rintro e w5 ⟨rfl, ho5, k5⟩)
      go_ret
      exact ⟨_, rfl, by rw [← HLL.out]; exact own_weaken ho5 (by rw [HRR.out]; omega), bl_keep HB k5 (fun i hi => by have := (HOB.out i hi).1; rw [HRR.out] at this; omega)⟩
    · intro x ca cb kl ya yb w1 cnt1 hk hlk hv hat hrg1 hlt hg1 hs1 hen
      obtain ⟨c0, hc0, rfl⟩ := H1.out kl (HSUB.out kl hlk)
      obtain rfl : x = .agg (ptA c0.p) := ky_val (HE.out.may c0 hc0).2 hk
      obtain ⟨c', hc', hy9⟩ := elC_inv hv
      obtain ⟨rfl, rfl⟩ : ya = .held c' ∧ yb = [] := by simpa using hy9
      obtain rfl : (ca, cb) = c' := by
        obtain ⟨b1, b2⟩ := c'
        simp at hc'
        rw [hc'.1, hc'.2]
      obtain ⟨rfl, rfl⟩ : ca = c0.v ∧ cb = c0.n := by
        have h9 := hat (.held (0, 0))
        rw [H3.out c0.p (HE.out.may c0 hc0).2, get_mem HE.out hc0] at h9
        injection h9 with h9
        injection h9 with h9 h8
        exact ⟨h9.symm, h8.symm⟩
      have HBX := Lib.hid (⟨hg1.os, hg1.tape, hg1.output, hg1.size, fun i hi hne => hg1.block i hi (fun e => hne (by injection e with e))⟩ : Keep (fun i => i = r) wr w1)
      have hrw : w.heap.size ≤ r := Nat.le_of_eq HRR.out.symm
      have HB1 := bl_keep HB HBX.out (fun i hi => by rw [hi]; exact hrw)
      have ho1 := own_keepS ho HBX.out (fun i hi => by rw [hi]; omega)
      have hrs1 : r + 1 ≤ w1.heap.size := by rw [hs1]; exact hrs
      have HLE := Lib.hid (show cnt1 < wr.rangeLeft b r by rw [hrg.left_eq]; exact hlt)
      have HSUB1 : Hid (∀ k, (fun z => left z && !z.sameKey (kyP c0.p)) k = true → Maps.has D k = true) := Lib.hid (fun k hk => HSUB.out k (by simp at hk; exact hk.1))
      have HLK := Lib.hid hlk
      have HC0 := Lib.hid hc0
      (try dsimp only [id] at hen ⊢)
      clear hk hlk hv hat hg1 hs1 hrg ho HB hc0 HBX hc' hy9
      have a1 := (Below.refl w1.heap.size w1).alloc (Nat.le_refl _) (PB c0.p)
      have b1 := Bk.new w1 25 (ptA c0.p)
      have a2 := (Below.refl (w1.alloc (PB c0.p)).heap.size (w1.alloc (PB c0.p))).alloc (Nat.le_refl _) (.cells #[.int .i64 c0.v, .int .i64 c0.n] 63)
      have b2 := b1.below a2
      have b3 := Bk.new (w1.alloc (PB c0.p)) 63 #[.int .i64 c0.v, .int .i64 c0.n]
      rw [World.size_alloc] at b3
      have a3 := bl_then a1 (Nat.le_refl _) a2
      have HA3 := Lib.hid a3
      have HRG1 := Lib.hid (hrg1.kept (grown_of_below a3) (by simp) (by simp))
      have HO1 := Lib.hid (own_below ho1 a3)
      have HBB := Lib.hid (bl_then HB1 (Nat.le_refl _) a3)
      have hrs3 : r + 1 ≤ ((w1.alloc (PB c0.p)).alloc (.cells #[.int .i64 c0.v, .int .i64 c0.n] 63)).heap.size := Nat.le_trans hrs1 a3.size
      have x0 := b2.cell 0
      have x1 := b2.cell 1
      have x2 := b2.cell 2
      have x3 := b2.cell 3
      have x4 := b2.cell 4
      have y0 := b3.cell 0
      have HX2 := Lib.hid b2
      have HX3 := Lib.hid b3
      clear a1 a2 b1 b2 b3 a3 hrg1 ho1 HB1
      by_cases hv0 : c0.v = 0
      · have hv1 : (c0.v != 0) = false := by simp [hv0]
        have HNO : Hid (goodC mayP c0 = false) := Lib.hid (by unfold goodC; rw [hv1]; rfl)
        clear hv0
        go_wp2
        go_roundw
        case rel => exact ⟨_, cnt1, O, HRG1.out, HO1.out, by rw [part_no HE.out HC0.out HNO.out]; exact HPM.out, HSUB1, by omega, HBB.out, hrs3⟩
        case measure => rw [HRG1.out.left_eq]; exact HLE.out
      have hv1 : (c0.v != 0) = true := bne_iff_ne.2 hv0
      have HV1 := Lib.hid hv1
      clear hv0
      have HYES : Hid (goodC mayP c0 = true) := Lib.hid (by unfold goodC; rw [HV1.out, (HE.out.may c0 HC0.out).1]; rfl)
      have HG2 := Lib.hid (pmay_any c0.p ((w1.alloc (PB c0.p)).alloc (.cells #[.int .i64 c0.v, .int .i64 c0.n] 63)))
      rw [(HE.out.may c0 HC0.out).1] at HG2
      go_wp2_with (first
        | (go_at_call 35; refine (HG2.out).mono ?_; rintro e w2 ⟨rfl, hb2⟩; have k2 := HX2.out.below hb2; have d0 := k2.cell 0; have d1 := k2.cell 1; have d2 := k2.cell 2; have d3 := k2.cell 3; have d4 := k2.cell 4; have f0 := (HX3.out.below hb2).cell 0; have HRG2 := Lib.hid (HRG1.out.kept (grown_of_below hb2) (by simp) (by simp)); have HO2 := Lib.hid (own_below HO1.out hb2); have HB2 := Lib.hid (bl_then HBB.out (Nat.le_refl _) hb2); have hrs2 := Nat.le_trans hrs3 hb2.size; clear x0 x1 x2 x3 x4 y0 k2)
        | (at_builtin; go_loud (refine wpList_append_one enRw_len (by omega) enRw_one rfl _ _ 22 rfl (r + 1) 30 i0 _ 48 Try.underlying22 hi hz0 hz1 hz2 rfl _ O.length O rfl HO2.out (rwOf c0) #[.int .i64 c0.p.n0, .int .i64 c0.p.n1, .int .i64 c0.p.n2, .int .i64 c0.p.n3, .int .i64 c0.p.dep, .int .i64 c0.v] rfl 30 _ rfl rfl (by unfold maxLen; omega) (by omega) (Below.refl _ w2) hrs2 ?_; intro v' w7 hown7 hb7 hk7)))
      have hob := HO2.out.lt
      have hrw2 : w.heap.size ≤ r := Nat.le_of_eq HRR.out.symm
      have hg7 : w2.grownBy w7 u5.ownBlock := ⟨hk7.os, hk7.tape, hk7.output, hk7.size, fun i hi hne => hk7.block i hi (fun e => hne e.symm)⟩
      have HRG7 := Lib.hid (HRG2.out.kept hg7 (fun e => by have h9 := (hob b e.symm).1; omega) (fun e => by have h9 := (hob r e.symm).1; omega))
      have HB7 := Lib.hid (bl_keep HB2.out hk7 (fun i hi => by have h9 := (hob i hi).1; omega))
      have hrs7 := Nat.le_trans hrs2 hk7.size
      clear hob hrw2 hg7 hb7 hk7
      go_roundw
      case rel => exact ⟨_, cnt1, O ++ [rwOf c0], HRG7.out, by rw [List.length_append]; exact hown7, by have h9 := (part_yes HE.out HC0.out HLK.out HYES.out).map rwOf; rw [List.map_append] at h9; exact (List.Perm.append_right [rwOf c0] HPM.out).trans h9.symm, HSUB1, by rw [List.length_append]; simp; omega, HB7.out, hrs7⟩
      case measure => rw [HRG7.out.left_eq]; exact HLE.out
set_option maxRecDepth 100000 in
set_option maxHeartbeats 8000000 in
theorem strowsU_any (s b : Nat) (E : List Cl) (K : Nat) (q : Pt) (B0 : Nat) (w : World) (h : StO w s b E) (hE : OkE E K) (hK : K ≤ 900) (hBQ : Bk w B0 25 (ptA q)) : Calls Try.prog 40 #[.pointer (some ⟨s, 0, none⟩), .func (.func 41) #[] #[.pointer (some ⟨B0, 0, none⟩)]] w (OwnRet enRw 30 6 w (goodsE E (fun p => withinP p q))) := by
  have HOK := Lib.hid (stok_any s b E w h)
  have c0 := h.bk.cell 0
  obtain ⟨D, hown, hsz, h1, h2, h3⟩ := h.mp
  have H1 := Lib.hid h1
  have H2 := Lib.hid h2
  have H3 := Lib.hid h3
  have HE := Lib.hid hE
  have hlen := hE.len
  have hbw := hown.lt
  obtain ⟨i0, hi, hz0, hz1, hz2⟩ := info_parts Try.infoRw
  have HHAS : Hid (∀ c ∈ E, Maps.has D (kyP c.p) = true) := Lib.hid (fun c hc => by rw [h2 c.p (hE.may c hc).2]; unfold hasE; rw [List.any_eq_true]; exact ⟨c, hc, by simp⟩)
  have HBQ := Lib.hid hBQ
  clear hBQ
  clear h h1 h2 h3 hE
  go_enter Try.func40, Try.ntmps40
  go_wp2_with (first
    | (go_at_call 34; refine HOK.out.mono ?_; rintro e w' ⟨rfl, rfl⟩)
    | (at_range; refine wpList_range_own _ rfl _ 58 rfl 25 63 ptKeyed Try.underlying58 elC b E.length D rfl hown ?_; intro w0 hrg0 hg0 hs0))
  go_frame
  have hb0 : Below w.heap.size w w0 := ⟨hg0.os, hg0.tape, hg0.output, hg0.size, fun k hk => hg0.block k hk (by simp)⟩
  rw [hsz] at hrg0
  obtain ⟨r, hr⟩ : ∃ r, r = w.heap.size := ⟨_, rfl⟩
  rw [← hr] at hrg0 hs0 ⊢
  have HRR := Lib.hid hr
  have HS0 := Lib.hid hs0
  clear hr hg0 hown HOK hs0
  go_loopw [5] (fun v5 wr => ∃ (left : Lit → Bool) (cnt : Nat) (O : List Rw), wr.ranges Try.prog 25 elC b r E.length D left cnt ∧ wr.ownsRow (r + 1) 30 6 v5 O.length (flatV enRw O) ∧ O.Perm ((partE E left (fun p => withinP p q)).map rwOf) ∧ Hid (∀ k, left k = true → Maps.has D k = true) ∧ O.length + cnt ≤ E.length ∧ Below w.heap.size w wr ∧ r + 1 ≤ wr.heap.size) (fun _ wr => wr.rangeLeft b r)
  case atStart => exact ⟨_, _, [], hrg0, World.ownsRow_nil _ _ _ _, by rw [part_start HHAS.out]; exact List.Perm.nil, Lib.hid (fun _ h => h), by simp, hb0, by rw [HS0.out]; omega⟩
  case round =>
    clear hrg0 hb0
    obtain ⟨left, cnt, O, hrg, ho, hperm, HSUB, hcnt, HB, hrs⟩ := hrel
    have HPM := Lib.hid hperm
    clear hperm
    go_wp2_with (at_next; refine wpList_next_ranges _ rfl _ rfl 25 ptKeyed elC id (fun c : Int × Int => .agg #[.int .i64 c.1, .int .i64 c.2]) (fun key _ _ => ⟨key, rfl⟩) (fun v y hv => by obtain ⟨c, h9, _⟩ := elC_inv hv; exact ⟨c, h9⟩) b r E.length D left cnt rfl hrg ?_ ?_)
    · intro hc0 hl0
      have HG : Hid (O.Perm (goodsE E (fun p => withinP p q))) := Lib.hid (by have h9 := HPM.out; rw [part_end hl0] at h9; exact h9)
      have hr900 : O.length ≤ 1000 := by omega
      have HSO := Lib.hid (rowsort_any (r + 1) u5 O.length O (goodsE E (fun p => withinP p q)) wr ho HG.out (goods_srt HE.out _) (goods_may HE.out _) hr900)
      have HOB := Lib.hid ho.lt
      have HLL := Lib.hid HG.out.length_eq
      clear hrg ho hc0 hl0
      go_wp2_with (go_at_call 51; refine HSO.out.mono ?_; rintro e w5 ⟨rfl, ho5, k5⟩)
      go_ret
      exact ⟨_, rfl, by rw [← HLL.out]; exact own_weaken ho5 (by rw [HRR.out]; omega), bl_keep HB k5 (fun i hi => by have := (HOB.out i hi).1; rw [HRR.out] at this; omega)⟩
    · intro x ca cb kl ya yb w1 cnt1 hk hlk hv hat hrg1 hlt hg1 hs1 hen
      obtain ⟨c0, hc0, rfl⟩ := H1.out kl (HSUB.out kl hlk)
      obtain rfl : x = .agg (ptA c0.p) := ky_val (HE.out.may c0 hc0).2 hk
      obtain ⟨c', hc', hy9⟩ := elC_inv hv
      obtain ⟨rfl, rfl⟩ : ya = .held c' ∧ yb = [] := by simpa using hy9
      obtain rfl : (ca, cb) = c' := by
        obtain ⟨b1, b2⟩ := c'
        simp at hc'
        rw [hc'.1, hc'.2]
      obtain ⟨rfl, rfl⟩ : ca = c0.v ∧ cb = c0.n := by
        have h9 := hat (.held (0, 0))
        rw [H3.out c0.p (HE.out.may c0 hc0).2, get_mem HE.out hc0] at h9
        injection h9 with h9
        injection h9 with h9 h8
        exact ⟨h9.symm, h8.symm⟩
      have HBX := Lib.hid (⟨hg1.os, hg1.tape, hg1.output, hg1.size, fun i hi hne => hg1.block i hi (fun e => hne (by injection e with e))⟩ : Keep (fun i => i = r) wr w1)
      have hrw : w.heap.size ≤ r := Nat.le_of_eq HRR.out.symm
      have HB1 := bl_keep HB HBX.out (fun i hi => by rw [hi]; exact hrw)
      have ho1 := own_keepS ho HBX.out (fun i hi => by rw [hi]; omega)
      have hrs1 : r + 1 ≤ w1.heap.size := by rw [hs1]; exact hrs
      have HLE := Lib.hid (show cnt1 < wr.rangeLeft b r by rw [hrg.left_eq]; exact hlt)
      have HSUB1 : Hid (∀ k, (fun z => left z && !z.sameKey (kyP c0.p)) k = true → Maps.has D k = true) := Lib.hid (fun k hk => HSUB.out k (by simp at hk; exact hk.1))
      have HLK := Lib.hid hlk
      have HC0 := Lib.hid hc0
      (try dsimp only [id] at hen ⊢)
      clear hk hlk hv hat hg1 hs1 hrg ho HB hc0 HBX hc' hy9
      have a1 := (Below.refl w1.heap.size w1).alloc (Nat.le_refl _) (PB c0.p)
      have b1 := Bk.new w1 25 (ptA c0.p)
      have a2 := (Below.refl (w1.alloc (PB c0.p)).heap.size (w1.alloc (PB c0.p))).alloc (Nat.le_refl _) (.cells #[.int .i64 c0.v, .int .i64 c0.n] 63)
      have b2 := b1.below a2
      have b3 := Bk.new (w1.alloc (PB c0.p)) 63 #[.int .i64 c0.v, .int .i64 c0.n]
      rw [World.size_alloc] at b3
      have a3 := bl_then a1 (Nat.le_refl _) a2
      have HA3 := Lib.hid a3
      have HRG1 := Lib.hid (hrg1.kept (grown_of_below a3) (by simp) (by simp))
      have HO1 := Lib.hid (own_below ho1 a3)
      have HBB := Lib.hid (bl_then HB1 (Nat.le_refl _) a3)
      have hrs3 : r + 1 ≤ ((w1.alloc (PB c0.p)).alloc (.cells #[.int .i64 c0.v, .int .i64 c0.n] 63)).heap.size := Nat.le_trans hrs1 a3.size
      have x0 := b2.cell 0
      have x1 := b2.cell 1
      have x2 := b2.cell 2
      have x3 := b2.cell 3
      have x4 := b2.cell 4
      have y0 := b3.cell 0
      have HX2 := Lib.hid b2
      have HX3 := Lib.hid b3
      clear a1 a2 b1 b2 b3 a3 hrg1 ho1 HB1
      by_cases hv0 : c0.v = 0
      · have hv1 : (c0.v != 0) = false := by simp [hv0]
        have HNO : Hid (goodC (fun p => withinP p q) c0 = false) := Lib.hid (by unfold goodC; rw [hv1]; rfl)
        clear hv0
        go_wp2
        go_roundw
        case rel => exact ⟨_, cnt1, O, HRG1.out, HO1.out, by rw [part_no HE.out HC0.out HNO.out]; exact HPM.out, HSUB1, by omega, HBB.out, hrs3⟩
        case measure => rw [HRG1.out.left_eq]; exact HLE.out
      have hv1 : (c0.v != 0) = true := bne_iff_ne.2 hv0
      have HV1 := Lib.hid hv1
      clear hv0
      cases hw9 : withinP c0.p q with
      | true =>
        have HYES : Hid (goodC (fun p => withinP p q) c0 = true) := Lib.hid (by unfold goodC; dsimp only; rw [HV1.out, hw9]; rfl)
        have HG2 := Lib.hid (under1_any c0.p q B0 ((w1.alloc (PB c0.p)).alloc (.cells #[.int .i64 c0.v, .int .i64 c0.n] 63)) (HBQ.out.below HBB.out))
        rw [hw9] at HG2
        go_wp2_with (first
          | (go_at_call 41; refine (HG2.out).mono ?_; rintro e w2 ⟨rfl, hb2⟩; have k2 := HX2.out.below hb2; have d0 := k2.cell 0; have d1 := k2.cell 1; have d2 := k2.cell 2; have d3 := k2.cell 3; have d4 := k2.cell 4; have f0 := (HX3.out.below hb2).cell 0; have HRG2 := Lib.hid (HRG1.out.kept (grown_of_below hb2) (by simp) (by simp)); have HO2 := Lib.hid (own_below HO1.out hb2); have HB2 := Lib.hid (bl_then HBB.out (Nat.le_refl _) hb2); have hrs2 := Nat.le_trans hrs3 hb2.size; clear x0 x1 x2 x3 x4 y0 k2)
          | (at_builtin; go_loud (refine wpList_append_one enRw_len (by omega) enRw_one rfl _ _ 22 rfl (r + 1) 30 i0 _ 48 Try.underlying22 hi hz0 hz1 hz2 rfl _ O.length O rfl HO2.out (rwOf c0) #[.int .i64 c0.p.n0, .int .i64 c0.p.n1, .int .i64 c0.p.n2, .int .i64 c0.p.n3, .int .i64 c0.p.dep, .int .i64 c0.v] rfl 30 _ rfl rfl (by unfold maxLen; omega) (by omega) (Below.refl _ w2) hrs2 ?_; intro v' w7 hown7 hb7 hk7)))
        have hob := HO2.out.lt
        have hrw2 : w.heap.size ≤ r := Nat.le_of_eq HRR.out.symm
        have hg7 : w2.grownBy w7 u5.ownBlock := ⟨hk7.os, hk7.tape, hk7.output, hk7.size, fun i hi hne => hk7.block i hi (fun e => hne e.symm)⟩
        have HRG7 := Lib.hid (HRG2.out.kept hg7 (fun e => by have h9 := (hob b e.symm).1; omega) (fun e => by have h9 := (hob r e.symm).1; omega))
        have HB7 := Lib.hid (bl_keep HB2.out hk7 (fun i hi => by have h9 := (hob i hi).1; omega))
        have hrs7 := Nat.le_trans hrs2 hk7.size
        clear hob hrw2 hg7 hb7 hk7
        go_roundw
        case rel => exact ⟨_, cnt1, O ++ [rwOf c0], HRG7.out, by rw [List.length_append]; exact hown7, by have h9 := (part_yes HE.out HC0.out HLK.out HYES.out).map rwOf; rw [List.map_append] at h9; exact (List.Perm.append_right [rwOf c0] HPM.out).trans h9.symm, HSUB1, by rw [List.length_append]; simp; omega, HB7.out, hrs7⟩
        case measure => rw [HRG7.out.left_eq]; exact HLE.out
      | false =>
        have HNO : Hid (goodC (fun p => withinP p q) c0 = false) := Lib.hid (by unfold goodC; dsimp only; rw [HV1.out, hw9]; rfl)
        have HG2 := Lib.hid (under1_any c0.p q B0 ((w1.alloc (PB c0.p)).alloc (.cells #[.int .i64 c0.v, .int .i64 c0.n] 63)) (HBQ.out.below HBB.out))
        rw [hw9] at HG2
        go_wp2_with (go_at_call 41; refine (HG2.out).mono ?_; rintro e w2 ⟨rfl, hb2⟩; have HRG2 := Lib.hid (HRG1.out.kept (grown_of_below hb2) (by simp) (by simp)); have HO2 := Lib.hid (own_below HO1.out hb2); have HB2 := Lib.hid (bl_then HBB.out (Nat.le_refl _) hb2); have hrs2 := Nat.le_trans hrs3 hb2.size; clear x0 x1 x2 x3 x4 y0)
        go_roundw
        case rel => exact ⟨_, cnt1, O, HRG2.out, HO2.out, by rw [part_no HE.out HC0.out HNO.out]; exact HPM.out, HSUB1, by omega, HB2.out, hrs2⟩
        case measure => rw [HRG2.out.left_eq]; exact HLE.out
theorem strows_any (s b : Nat) (E : List Cl) (K : Nat) (w : World) (h : StO w s b E) (hE : OkE E K) (hK : K ≤ 900) : Calls Try.prog 20 #[.pointer (some ⟨s, 0, none⟩)] w (OwnRet enRw 30 6 w (goodsE E mayP)) := by
  have HR := Lib.hid (strowsM_any s b E K w h hE hK)
  clear h hE
  go_enter Try.func20, Try.ntmps20
  go_wp2_with (go_at_call 40; refine HR.out.mono ?_; rintro e w1 ⟨v, rfl, ho, hb⟩)
  go_ret
  exact ⟨v, rfl, ho, hb⟩
theorem stunder_any (s b : Nat) (E : List Cl) (K : Nat) (q : Pt) (w : World) (h : StO w s b E) (hE : OkE E K) (hK : K ≤ 900) : Calls Try.prog 18 #[.pointer (some ⟨s, 0, none⟩), .agg (ptA q)] w (OwnRet enRw 30 6 w (goodsE E (fun p => withinP p q))) := by
  have a1 := (Below.refl w.heap.size w).alloc (Nat.le_refl _) (PB q)
  have HR := Lib.hid (strowsU_any s b E K q w.heap.size (w.alloc (PB q)) (h.below a1) hE hK (Bk.new w 25 (ptA q)))
  clear h hE
  go_enter Try.func18, Try.ntmps18
  go_wp2_with (go_at_call 40; refine HR.out.mono ?_; rintro e w1 ⟨v, rfl, ho, hb⟩)
  go_ret
  exact ⟨v, rfl, own_weaken ho (by rw [World.size_alloc]; omega), bl_then a1 (Nat.le_refl _) hb⟩
theorem strowsN_any (fv : Value) (w : World) : Calls Try.prog 40 #[.pointer none, fv] w (OwnRet enRw 30 6 w []) := by
  go_enter Try.func40, Try.ntmps40
  go_wp2_with (go_at_call 34; refine (stok_nil _).mono ?_; rintro e w' ⟨rfl, rfl⟩)
  go_ret
  exact ⟨_, rfl, World.ownsRow_nil _ _ _ _, Below.refl _ _⟩
theorem strows_nil (w : World) : Calls Try.prog 20 #[.pointer none] w (OwnRet enRw 30 6 w []) := by
  go_enter Try.func20, Try.ntmps20
  go_wp2_with (go_at_call 40; refine (strowsN_any _ _).mono ?_; rintro e w1 ⟨v, rfl, ho, hb⟩)
  go_ret
  exact ⟨v, rfl, ho, hb⟩
theorem stunder_nil (q : Pt) (w : World) : Calls Try.prog 18 #[.pointer none, .agg (ptA q)] w (OwnRet enRw 30 6 w []) := by
  have a1 := (Below.refl w.heap.size w).alloc (Nat.le_refl _) (PB q)
  go_enter Try.func18, Try.ntmps18
  go_wp2_with (go_at_call 40; refine (strowsN_any _ _).mono ?_; rintro e w1 ⟨v, rfl, ho, hb⟩)
  go_ret
  exact ⟨v, rfl, own_weaken ho (by rw [World.size_alloc]; omega), bl_then a1 (Nat.le_refl _) hb⟩
end Go.Proofs.Ytjbhlckdaghppaa
