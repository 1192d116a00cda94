/- queue: the reference's Insert. No condition. -/
import Derived.Test.YtdkbfmffnamdbaaQva
set_option linter.unusedVariables false
set_option linter.unusedSimpArgs false
namespace Go.Proofs.Ytdkbfmffnamdbaa
open Go.RowKit (wrap32 wrap64)
open Go.RowKit
theorem step_append_none {P : Program} {ops : Array Oper} {o : Oper} {a : Act} {w : World} {K : Act → World → Prop} {Q : Exit → Act → World → Prop} {E : Prop}
    (hg : o.guard = none) (s x : Operand) (t : TypeId) (hop : o.op = Op.call { callee := Callee.builtin Builtin.append, args := #[s, x], argTypes := #[t, t] })
    (e : TypeId) (i : TypeInfo) (h1 : P.underlying t = some (.slice e)) (h2 : P.info? e = some i) (ao : Option Addr) (n cap : Nat) (hs : a.eval s = .slice ao n cap) (hle : n ≤ cap) (xo : Option Addr) (c : Nat) (hx : a.eval x = .slice xo 0 c)
    (hK : K (a.put o.dst (.slice ao n cap)) w) :
    if Region.wanted o (yielded ops a.tmps) = true then Oper.wp P o a w K Q else E := by
  have hw : Region.wanted o (yielded ops a.tmps) = true := by simp [Region.wanted, hg]
  rw [if_pos hw]
  have hsrc : Src P i.size t (.slice xo 0 c) 0 [] w := by
    cases xo with
    | none => exact Src.ofNil w h1 c
    | some b => exact Src.ofSlice w h1 b 0 c [] (by simp) (by simp) (by simp)
  have hrun := run_append_nothing (P := P) w t t o.type e i h1 h2 ao n cap hle (.slice xo 0 c) hsrc
  unfold Oper.wp
  simp [execOp, hop, resolve, invoke, builtin, hs, hx, hrun, Result.andThen]
  exact hK
/-- append of a slice of records to a row of one's own, as one step of a region that draws. -/
theorem step_append_recs {α : Type} {enc : α → List Value} {ok : α → Prop} {s : Nat} (he : ∀ a, (enc a).length = s) (hs0 : 0 < s) (h1 : ∀ x, ∀ u ∈ enc x, u.oneCell' = true) {P : Program} {ops : Array Oper} {o : Oper} {a : Act} {w : World} {K : Act → World → Prop} {Q : Exit → Act → World → Prop} {E : Prop}
    (hg : o.guard = none) (sl x : Operand) (t : TypeId) (hop : o.op = Op.call { callee := Callee.builtin Builtin.append, args := #[sl, x], argTypes := #[t, t] })
    (base : Nat) (e : TypeId) (i : TypeInfo) (z : Value) (bytes : Nat) (ht : P.underlying t = some (.slice e)) (hi : P.info? e = some i) (hz : i.zero = some z) (hsize : i.size = s) (hby : i.bytes = bytes) (hzs : z.cells.size = s)
    (v : Value) (n : Nat) (L : List α) (hs : a.eval sl = v) (hown : w.ownsRow base e s v n (flatV enc L))
    (xo : Option Addr) (m c : Nat) (M : List α) (hx : a.eval x = .slice xo m c) (hM : SR enc ok s w xo m M)
    (b1 : n + m ≤ maxLen) (b2 : (n + m) * bytes ≤ 140737488355328) (hbase : base ≤ w.heap.size)
    (hK : ∀ v' w', w'.ownsRow base e s v' (n + m) (flatV enc (L ++ M)) → w.grownBy w' v.ownBlock → K (a.put o.dst v') w') :
    if Region.wanted o (yielded ops a.tmps) = true then Oper.wp P o a w K Q else E := by
  by_cases hm : m = 0
  · subst hm
    have hM0 : M = [] := List.eq_nil_of_length_eq_zero hM.len
    subst hM0
    obtain ⟨A, cc, rfl⟩ := own_slice hown
    have hc := own_caps hown
    refine step_append_none hg sl x t hop e i ht hi A n cc hs hc.1 xo c hx ?_
    exact hK _ _ (by rw [List.append_nil]; exact hown) ⟨rfl, rfl, rfl, Nat.le_refl _, fun _ _ _ => rfl⟩
  · obtain ⟨b, off, rfl, _, hcell⟩ := hM.row (by omega)
    have hw : Region.wanted o (yielded ops a.tmps) = true := by simp [Region.wanted, hg]
    rw [if_pos hw]
    have hfl : (flatV enc M).length = m * s := by rw [flatV_len he, hM.len]
    obtain ⟨v', w', hrun, r1, r2, _⟩ := run_append_own (P := P) w base t o.type e i z s bytes ht hi hz hsize hby hzs hs0 v n _ hown ⟨b, off, none⟩ m c (flatV enc M) hfl (by
      intro j u hu
      have hj : j < m * s := by rw [← hfl]; exact (List.getElem?_eq_some_iff.1 hu).1
      have hadd : (⟨b, off, none⟩ : Addr).add j = ⟨b, off + j, none⟩ := by unfold Addr.add; split <;> simp_all
      rw [hadd, hcell j hj, hu]) (flatV_one h1 M) b1 b2 hbase
    rw [← flatV_append] at r1
    unfold Oper.wp
    simp [execOp, hop, resolve, invoke, builtin, hs, hx, hrun, Result.andThen]
    exact hK v' w' r1 r2
theorem SR.zero {α : Type} {enc : α → List Value} {ok : α → Prop} {s : Nat} {w : World} (a : Option Addr) : SR enc ok s w a 0 [] :=
  ⟨rfl, Nat.zero_le _, (by intro x h; cases h), fun h => absurd h (Nat.lt_irrefl _)⟩
theorem SR.drop {α : Type} {enc : α → List Value} {ok : α → Prop} {s : Nat} (he : ∀ a, (enc a).length = s) {w : World} {b off n : Nat} {L : List α} (h : SR enc ok s w (some ⟨b, off, none⟩) n L) {p : Nat} (hp : p ≤ n) : SR enc ok s w (some ⟨b, off + p * s, none⟩) (n - p) (L.drop p) := by
  refine ⟨by rw [List.length_drop, h.len], Nat.le_trans (Nat.sub_le _ _) h.max, fun x hx => h.all x (List.mem_of_mem_drop hx), fun hn => ?_⟩
  obtain ⟨b', off', ha, hlt, hc⟩ := h.row (by omega)
  injection ha with ha
  injection ha with e1 e2 _
  subst e1; subst e2
  refine ⟨b, off + p * s, rfl, hlt, fun j hj => ?_⟩
  have hps : (p + (n - p)) * s = p * s + (n - p) * s := Nat.add_mul _ _ _
  have h3 : p + (n - p) = n := by omega
  rw [h3] at hps
  have h2 := hc (p * s + j) (by omega)
  rw [← Nat.add_assoc] at h2
  rw [h2]
  have h4 : flatV enc L = flatV enc (L.take p) ++ flatV enc (L.drop p) := by rw [← flatV_append, List.take_append_drop]
  have hl : (flatV enc (L.take p)).length = p * s := by rw [flatV_len he, List.length_take, h.len, Nat.min_eq_left hp]
  rw [h4, List.getElem?_append_right (by omega), hl, Nat.add_sub_cancel_left]
theorem grown_below {w w' : World} (h : w.grownBy w' none) {w0 : World} (b : Below w0.heap.size w0 w) : Below w0.heap.size w0 w' := bl_keep b (grown_keep h (fun _ => False) (fun k hk => by cases hk)) (fun _ h => h.elim)
def insBox (x : Wt) : Obj := .cells #[.int .i64 x.tx, .int .i64 x.mode, .bool x.conv, .bool x.inst] 37
set_option maxRecDepth 100000 in
set_option maxHeartbeats 8000000 in
theorem rinsertW_any (a : Option Addr) (len cap : Nat) (L : List Wt) (x : Wt) (w : World) (hl : Wts w a len L) (hform : (a = none ∧ len = 0 ∧ cap = 0) ∨ ∃ b off, a = some ⟨b, off, none⟩) (hcl : len ≤ cap) (hcm : cap ≤ 9223372036854775807) (hok : okWt x) (hn : len ≤ 900) :
    Calls Try.prog 48 #[.slice a len cap, .agg #[.int .i64 x.tx, .int .i64 x.mode, .bool x.conv, .bool x.inst]] w (OwnRet enWt 37 4 w (insT x L)) := by
  have hll := hl.len
  obtain ⟨i0, hi, hz0, hz1, hz2⟩ := info_parts Try.infoWt
  obtain ⟨wA, hA⟩ : ∃ wA, wA = w.alloc (.cells #[.int .i64 x.tx, .int .i64 x.mode, .bool x.conv, .bool x.inst] 37) := ⟨_, rfl⟩
  have hO : Below w.heap.size w wA := by rw [hA]; exact (Below.refl _ _).alloc (Nat.le_refl _) _
  have hsA : wA.heap.size = w.heap.size + 1 := by rw [hA]; simp
  have hbx : Bk wA w.heap.size 37 #[.int .i64 x.tx, .int .i64 x.mode, .bool x.conv, .bool x.inst] := by rw [hA]; exact Bk.new w 37 #[.int .i64 x.tx, .int .i64 x.mode, .bool x.conv, .bool x.inst]
  have hlA := hl.below hO
  have HPL := Lib.hid (rplaceW_any a len cap L x.conv wA hlA (by omega))
  have hpl := placeT_le L x.conv
  have HRET : Hid (∀ v W n, W.ownsRow w.heap.size 37 4 v n (flatV enWt (([] ++ L.take (placeT L x.conv)) ++ [x] ++ L.drop (placeT L x.conv))) → Below w.heap.size w W → OwnRet enWt 37 4 w (insT x L) (.returned v) W) := Lib.hid (fun v W n h hb => by
    rw [List.nil_append] at h
    refine ⟨v, rfl, ?_, hb⟩
    have h1 := h.1
    rw [flatV_len enWt_len] at h1
    have h2 : n = (insT x L).length := by unfold insT; omega
    rw [← h2]
    exact h)
  rw [hll] at hpl
  generalize placeT L x.conv = p at HPL hpl HRET
  have HT := Lib.hid (fun W1 (hb : Below wA.heap.size wA W1) => (hlA.below hb).take enWt_len hpl)
  have HX := Lib.hid hbx
  have HO := Lib.hid hO
  have HOK : Hid (∀ y ∈ [x], okWt y) := Lib.hid (fun y hy => by rw [List.mem_singleton.1 hy]; exact hok)
  have x0 := hbx.cell 0
  have x1 := hbx.cell 1
  have x2 := hbx.cell 2
  have x3 := hbx.cell 3
  have HD0 : Below wA.heap.size wA wA.drew := below_drew wA
  have HD1 : Below wA.heap.size wA (wA.drew.alloc (.cells #[.int .i64 x.tx, .int .i64 x.mode, .bool x.conv, .bool x.inst] 37)) := HD0.alloc (Nat.le_refl _) _
  rcases hform with ⟨rfl, rfl, rfl⟩ | ⟨b, off, rfl⟩
  · obtain rfl : p = 0 := by omega
    have HDR : Hid (∀ W1, Below wA.heap.size wA W1 → SR enWt okWt 4 W1 none 0 (L.drop 0)) := Lib.hid (fun W1 hb => by
      have : L = [] := List.eq_nil_of_length_eq_zero hll
      subst this
      exact SR.zero _)
    clear hl hlA hbx hll hO
    go_enter Try.func48, Try.ntmps48
    go_wp2_with fail
    rw [← hA]
    clear hA
    refine HPL.out.mono ?_
    rintro e _ ⟨rfl, rfl⟩
    go_wp2
    go_region_law (first
      | (refine step_append_recs (ok := okWt) enWt_len (by omega) enWt_one (by rfl) _ _ 27 (by rfl) wA.heap.size 37 i0 _ 24 Try.underlying27 hi hz0 hz1 hz2 rfl (.slice none 0 0) 0 [] (by rfl) (World.ownsRow_nil _ _ _ _) none 0 0 (L.take 0) (by simp [Act.eval, Act.put]) (HT.out _ (by first | exact HD0 | exact HD1)) (by unfold maxLen; omega) (by omega) (by first | exact Nat.le_refl _ | (simp only [World.size_alloc, World.size_drew]; omega)) ?_
         intro v2 w2 hown2 hg2
         have HB2 : Below wA.heap.size wA w2 := grown_below hg2 (by first | exact HD0 | exact HD1)
         have x0 := (HX.out.below HB2).cell 0
         have x1 := (HX.out.below HB2).cell 1
         have x2 := (HX.out.below HB2).cell 2
         have x3 := (HX.out.below HB2).cell 3
         have HL2 : Hid (wA.heap.size ≤ w2.heap.size) := Lib.hid HB2.size
         (try have HLT : Hid (SR enWt okWt 4 w2 (some ⟨w.heap.size + 1, 0, none⟩) 1 [x]) := Lib.hid (by have h := (SR.made (ok := okWt) enWt_len wA.drew 37 #[.int .i64 x.tx, .int .i64 x.mode, .bool x.conv, .bool x.inst] [x] rfl HOK.out (by show 1 ≤ maxLen; decide)).below (grown_below hg2 (Below.refl _ _)); rw [show wA.drew.heap.size = w.heap.size + 1 from hsA] at h; exact h)))
      | (refine step_append_recs (ok := okWt) enWt_len (by omega) enWt_one (by rfl) _ _ 27 (by rfl) wA.heap.size 37 i0 _ 24 Try.underlying27 hi hz0 hz1 hz2 rfl v2 (0 + 0) ([] ++ L.take 0) (by rfl) (by first | exact hown2 | exact hown2.alloc _) _ 1 1 [x] (by rfl) (by first | exact SR.made enWt_len w2 37 #[.int .i64 x.tx, .int .i64 x.mode, .bool x.conv, .bool x.inst] [x] rfl HOK.out (by show 1 ≤ maxLen; decide) | exact HLT.out) (by unfold maxLen; omega) (by omega) (by first | exact HL2.out | (simp only [World.size_alloc]; exact Nat.le_succ_of_le HL2.out)) ?_
         intro v3 w3 hown3 hg3
         have HK3 := Lib.hid hg3
         have HBN : Hid (Below wA.heap.size wA w3) := Lib.hid (by first | exact bl_keep (HB2.alloc HB2.size (.cells #[.int .i64 x.tx, .int .i64 x.mode, .bool x.conv, .bool x.inst] 37)) (grown_keep hg3 (fun i => v2.ownBlock = some i) (fun k hk => hk)) (fun i hi => (hown2.lt i hi).1) | exact bl_keep HB2 (grown_keep hg3 (fun i => v2.ownBlock = some i) (fun k hk => hk)) (fun i hi => (hown2.lt i hi).1)))
      | (go_loud (refine step_append_recs (ok := okWt) enWt_len (by omega) enWt_one (by rfl) _ _ 27 (by rfl) wA.heap.size 37 i0 _ 24 Try.underlying27 hi hz0 hz1 hz2 rfl v3 (0 + 0 + 1) ([] ++ L.take 0 ++ [x]) (by rfl) hown3 none 0 0 (L.drop 0) (by simp [Act.eval, Act.put]) (HDR.out _ HBN.out) (by unfold maxLen; omega) (by omega) (by have := HL2.out; have := hg3.size; (try simp only [World.size_alloc] at this); omega) ?_; intro v4 w4 hown4 hg4)))
    all_goals
      have HB4 : Below wA.heap.size wA w4 := bl_keep HBN.out (grown_keep hg4 (fun i => v3.ownBlock = some i) (fun k hk => hk)) (fun i hi => (hown3.lt i hi).1)
      go_wp2
      go_ret
      exact HRET.out _ _ _ (own_weaken hown4 (by omega)) (bl_then HO.out (Nat.le_refl _) HB4)
  · obtain ⟨XO, hXO⟩ : ∃ XO : Option Addr, (if cap = p then (some ⟨b, off, none⟩ : Option Addr) else some ⟨b, off + p * 4, none⟩) = XO := ⟨_, rfl⟩
    have HDR : Hid (∀ W1, Below wA.heap.size wA W1 → SR enWt okWt 4 W1 XO (len - p) (L.drop p)) := Lib.hid (fun W1 hb => by
      rw [← hXO]
      split
      · rename_i hc
        have hlp : len - p = 0 := by omega
        rw [hlp, List.drop_of_length_le (by omega)]
        exact SR.zero _
      · exact (hlA.below hb).drop enWt_len hpl)
    have g1 : p ≤ cap := by omega
    have g2 : (p : Int) ≤ (cap : Int) := by omega
    have g3 : (p : Int) ≤ (len : Int) := by omega
    clear hl hlA hbx hll hO
    go_enter Try.func48, Try.ntmps48
    go_wp2_with fail
    rw [← hA]
    clear hA
    refine HPL.out.mono ?_
    rintro e _ ⟨rfl, rfl⟩
    go_wp2
    go_region_law (first
      | (refine step_append_recs (ok := okWt) enWt_len (by omega) enWt_one (by rfl) _ _ 27 (by rfl) wA.heap.size 37 i0 _ 24 Try.underlying27 hi hz0 hz1 hz2 rfl (.slice none 0 0) 0 [] (by rfl) (World.ownsRow_nil _ _ _ _) (some ⟨b, off, none⟩) p cap (L.take p) (by simp [Act.eval, Act.put]) (HT.out _ (by first | exact HD0 | exact HD1)) (by unfold maxLen; omega) (by omega) (by first | exact Nat.le_refl _ | (simp only [World.size_alloc, World.size_drew]; omega)) ?_
         intro v2 w2 hown2 hg2
         have HB2 : Below wA.heap.size wA w2 := grown_below hg2 (by first | exact HD0 | exact HD1)
         have x0 := (HX.out.below HB2).cell 0
         have x1 := (HX.out.below HB2).cell 1
         have x2 := (HX.out.below HB2).cell 2
         have x3 := (HX.out.below HB2).cell 3
         have HL2 : Hid (wA.heap.size ≤ w2.heap.size) := Lib.hid HB2.size
         (try have HLT : Hid (SR enWt okWt 4 w2 (some ⟨w.heap.size + 1, 0, none⟩) 1 [x]) := Lib.hid (by have h := (SR.made (ok := okWt) enWt_len wA.drew 37 #[.int .i64 x.tx, .int .i64 x.mode, .bool x.conv, .bool x.inst] [x] rfl HOK.out (by show 1 ≤ maxLen; decide)).below (grown_below hg2 (Below.refl _ _)); rw [show wA.drew.heap.size = w.heap.size + 1 from hsA] at h; exact h)))
      | (refine step_append_recs (ok := okWt) enWt_len (by omega) enWt_one (by rfl) _ _ 27 (by rfl) wA.heap.size 37 i0 _ 24 Try.underlying27 hi hz0 hz1 hz2 rfl v2 (0 + p) ([] ++ L.take p) (by rfl) (by first | exact hown2 | exact hown2.alloc _) _ 1 1 [x] (by rfl) (by first | exact SR.made enWt_len w2 37 #[.int .i64 x.tx, .int .i64 x.mode, .bool x.conv, .bool x.inst] [x] rfl HOK.out (by show 1 ≤ maxLen; decide) | exact HLT.out) (by unfold maxLen; omega) (by omega) (by first | exact HL2.out | (simp only [World.size_alloc]; exact Nat.le_succ_of_le HL2.out)) ?_
         intro v3 w3 hown3 hg3
         have HK3 := Lib.hid hg3
         have HBN : Hid (Below wA.heap.size wA w3) := Lib.hid (by first | exact bl_keep (HB2.alloc HB2.size (.cells #[.int .i64 x.tx, .int .i64 x.mode, .bool x.conv, .bool x.inst] 37)) (grown_keep hg3 (fun i => v2.ownBlock = some i) (fun k hk => hk)) (fun i hi => (hown2.lt i hi).1) | exact bl_keep HB2 (grown_keep hg3 (fun i => v2.ownBlock = some i) (fun k hk => hk)) (fun i hi => (hown2.lt i hi).1)))
      | (go_loud (refine step_append_recs (ok := okWt) enWt_len (by omega) enWt_one (by rfl) _ _ 27 (by rfl) wA.heap.size 37 i0 _ 24 Try.underlying27 hi hz0 hz1 hz2 rfl v3 (0 + p + 1) ([] ++ L.take p ++ [x]) (by rfl) hown3 XO (len - p) (cap - p) (L.drop p) (by simp [Act.eval, Act.put]) (HDR.out _ HBN.out) (by unfold maxLen; omega) (by omega) (by have := HL2.out; have := hg3.size; (try simp only [World.size_alloc] at this); omega) ?_; intro v4 w4 hown4 hg4)))
    all_goals
      have HB4 : Below wA.heap.size wA w4 := bl_keep HBN.out (grown_keep hg4 (fun i => v3.ownBlock = some i) (fun k hk => hk)) (fun i hi => (hown3.lt i hi).1)
      go_wp2
      go_ret
      exact HRET.out _ _ _ (own_weaken hown4 (by omega)) (bl_then HO.out (Nat.le_refl _) HB4)
end Go.Proofs.Ytdkbfmffnamdbaa
