/- history: slices.SortFunc of edges: their one order. No condition. -/
import Derived.Test.YtjenchijenkndaaGph
import Derived.Test.YtjenchijenkndaaSrt
import Derived.Test.YtjenchijenkndaaShelf
import Derived.Test.YtjenchijenkndaaTab
import Derived.Lib.QuietBelow
set_option linter.unusedVariables false
set_option linter.unusedSimpArgs false
namespace Go.Proofs.Ytjenchijenkndaa
open Go.RowKit (wrap32 wrap64)
open Go.RowKit Go.Shelf Go.Sort Go.Lib
/-- As Below, and the draws do not fall. -/
def BE (w w' : World) : Prop := Below w.heap.size w w' ∧ w.drawn ≤ w'.drawn
theorem BE.alloc (w : World) (o : Obj) : BE w (w.alloc o) := ⟨(Below.refl _ _).alloc (Nat.le_refl _) _, Nat.le_refl _⟩
theorem BE.trans {a b c : World} (h : BE a b) (k : BE b c) : BE a c := ⟨bl_then h.1 (Nat.le_refl _) k.1, Nat.le_trans h.2 k.2⟩
def cfEg (x y : Eg) : Int := if ltEg x y = true then -1 else 1
theorem ltofEg (x y : Eg) : ltOf cfEg x y = ltEg x y := by
  unfold ltOf cfEg
  cases h : ltEg x y <;> simp
theorem swoEg : SWO (ltOf cfEg) where
  irrefl x := by rw [ltofEg]; exact ltEg_irrefl _
  trans x y z h1 h2 := by rw [ltofEg] at *; exact ltEg_trans h1 h2
  ntrans x y z h1 h2 := by
    rw [ltofEg] at *
    have h1 : ¬ ltEg x y = true := by rw [h1]; simp
    have h2 : ¬ ltEg y z = true := by rw [h2]; simp
    cases h3 : ltEg x z with
    | false => rfl
    | true => exfalso; rw [ltEg_iff] at *; omega
theorem eg_box2 (x y : Eg) (w : World) : BE w ((w.alloc (.cells #[.int .i64 x.src, .int .i64 x.dst] 40)).alloc (.cells #[.int .i64 y.src, .int .i64 y.dst] 40)) ∧ Bk ((w.alloc (.cells #[.int .i64 x.src, .int .i64 x.dst] 40)).alloc (.cells #[.int .i64 y.src, .int .i64 y.dst] 40)) w.heap.size 40 #[.int .i64 x.src, .int .i64 x.dst] ∧ Bk ((w.alloc (.cells #[.int .i64 x.src, .int .i64 x.dst] 40)).alloc (.cells #[.int .i64 y.src, .int .i64 y.dst] 40)) (w.heap.size + 1) 40 #[.int .i64 y.src, .int .i64 y.dst] := by
  refine ⟨(BE.alloc w _).trans (BE.alloc _ _), (Bk.new w _ _).below (BE.alloc _ (.cells #[.int .i64 y.src, .int .i64 y.dst] 40)).1, ?_⟩
  have := Bk.new (w.alloc (.cells #[.int .i64 x.src, .int .i64 x.dst] 40)) 40 #[.int .i64 y.src, .int .i64 y.dst]
  rw [World.size_alloc] at this
  exact this
set_option maxRecDepth 100000 in
theorem edgecmp_any (x y : Eg) (W : World) : Calls Try.prog 30 #[.agg #[.int .i64 x.src, .int .i64 x.dst], .agg #[.int .i64 y.src, .int .i64 y.dst]] W fun e w' => e = .returned (.int .i64 (cfEg x y)) ∧ BE W w' := by
  obtain ⟨hO, hP, hQ⟩ := eg_box2 x y W
  have p0 := hP.cell 0
  have p1 := hP.cell 1
  have q0 := hQ.cell 0
  have q1 := hQ.cell 1
  clear hP hQ
  have HIFF := Lib.hid (ltEg_iff x y)
  cases h1 : decide (x.src < y.src) with
  | true =>
    have HV : Hid (cfEg x y = -1) := Lib.hid (if_pos <| HIFF.out.2 (.inl (of_decide_eq_true h1)))
    go_enter Try.func30, Try.ntmps30
    go_wp2
    go_ret
    exact ⟨by rw [HV.out]; rfl, hO⟩
  | false =>
    cases h2 : (x.src == y.src) with
    | false =>
      have HV : Hid (cfEg x y = 1) := Lib.hid (if_neg (fun e => by
        have a := of_decide_eq_false h1
        have b := beq_eq_false_iff_ne.1 h2
        have := HIFF.out.1 e
        omega))
      go_enter Try.func30, Try.ntmps30
      go_wp2
      go_ret
      exact ⟨by rw [HV.out]; rfl, hO⟩
    | true =>
      cases h3 : decide (x.dst < y.dst) with
      | true =>
        have HV : Hid (cfEg x y = -1) := Lib.hid (if_pos <| HIFF.out.2 (.inr ⟨beq_iff_eq.1 h2, of_decide_eq_true h3⟩))
        go_enter Try.func30, Try.ntmps30
        go_wp2
        go_ret
        exact ⟨by rw [HV.out]; rfl, hO⟩
      | false =>
        have HV : Hid (cfEg x y = 1) := Lib.hid (if_neg (fun e => by
          have a := of_decide_eq_false h1
          have b := of_decide_eq_false h3
          have := HIFF.out.1 e
          omega))
        go_enter Try.func30, Try.ntmps30
        go_wp2
        go_ret
        exact ⟨by rw [HV.out]; rfl, hO⟩
theorem bd_growE {w w' : World} (h : BE w w') : ∃ q os', w' = grow (w.drewN q) os' := by
  obtain ⟨⟨d, os⟩, hp⟩ := regrown_of_below h.1
  refine ⟨w'.drawn - w.drawn, os, ?_⟩
  have hd : w'.drawn = d := by rw [hp]; rfl
  have h2 := h.2
  rw [hp]
  unfold World.drewN redrawn grow
  congr 1
  show d = w.drawn + (d - w.drawn)
  omega
theorem cmpEg (blk off size : Nat) (w : World) : CmpLays Try.prog 30 #[] enEg 2 cfEg blk off size w :=
  fun m os dk _ x y => (edgecmp_any x y _).mono fun e w' ⟨he, hb⟩ => ⟨he, bd_growE hb⟩
def SortRetE (base : Nat) (v : Value) (n : Nat) (G : List Eg) (w : World) (e : Ending) (w' : World) : Prop := e = .returned (.tuple #[]) ∧ w'.ownsRow base 40 2 v n (flatV enEg G) ∧ Keep (fun i => v.ownBlock = some i) w w'
set_option maxRecDepth 100000 in
theorem edgesort_any (base : Nat) (v : Value) (n : Nat) (O G : List Eg) (w : World) (hown : w.ownsRow base 40 2 v n (flatV enEg O)) (hp : O.Perm G) (hG : SrtEg G) (hn : n ≤ 1000) :
    Calls Try.prog 29 #[v, .func (.func 30) #[] #[]] w (SortRetE base v n G w) := by
  have hl : O.length = n := by have h1 := hown.1; rw [flatV_len enEg_len] at h1; exact Nat.eq_of_mul_eq_mul_right (by omega) h1
  by_cases h0 : n = 0
  · subst h0
    have hO : O = [] := List.eq_nil_of_length_eq_zero hl
    subst hO
    have hG0 : G = [] := (List.Perm.nil_eq hp).symm
    subst hG0
    obtain ⟨A, c, rfl⟩ := own_slice hown
    have hc := AnyF.slices_SortFunc_none Try.sortEdge A c (.func (.func 30) #[] #[]) w
    change Calls Try.prog 29 _ _ _ at hc
    exact hc.mono fun e w' ⟨he, hw⟩ => by subst hw; exact ⟨he, hown, Keep.refl _ _⟩
  · rcases hown.2 with ⟨_, hz⟩ | ⟨g, cap, cur, rfl, hb, _⟩
    · exact absurd hz h0
    · have hr := (RowAt.of hown hl.symm).1
      have hrl : RowAt enEg 40 2 w g cap (O.toArray).toList := by rw [List.toList_toArray]; exact hr
      have hlen : O.toArray.size = n := by rw [List.size_toArray]; exact hl
      have eg : ∀ args w, (callFunc 30 args).run Try.prog w = .ok (.enter 30 args) w := enters_of Try.func30 (by kernel_rfl) rfl
      have hc := AnyQ.slices_SortFunc Try.sortEdge 2 Try.isAgg40 Try.sizeOf40 enEg enEg_len enEg_one cfEg swoEg 30 #[] g 0 cap O.toArray w eg (cmpEg g 0 _ w) (hrl.holdsK enEg_len (by omega)) hr.lt (by rw [hlen]; omega)
      change Calls Try.prog 29 _ _ _ at hc
      rw [hlen] at hc
      refine hc.mono fun e w' ⟨he, d', m, os, hpi, hsi, hw⟩ => ?_
      subst hw
      have hd : d'.size = O.toArray.size := hpi.1.trans (by rfl)
      obtain ⟨hs1, hs2⟩ := hrl.sorted enEg_len (by omega) hd m os
      have hpd : d'.toList.Perm O := by
        have h3 := hpi.2.2
        rw [← hlen] at h3
        have e1 : d'.extract 0 O.toArray.size = d' := by rw [← hd]; exact Array.extract_size
        have e2 : O.toArray.extract 0 O.toArray.size = O.toArray := Array.extract_size
        rw [e1, e2] at h3
        exact h3
      have hpm : d'.toList.Perm G := hpd.trans hp
      have hnd2 : d'.toList.Nodup := hpm.nodup_iff.2 (srtEg_nodup hG)
      have hsrt : SrtEg d'.toList := by
        unfold SrtEg
        rw [List.pairwise_iff_getElem]
        intro i j hi hj hij
        rw [Array.length_toList] at hi hj
        have h5 := hsi i j (Nat.zero_le _) hij (by rw [← hlen, ← hd]; exact hj)
        rw [ltofEg, getElem!_pos d' j hj, getElem!_pos d' i hi] at h5
        rw [Array.getElem_toList, Array.getElem_toList]
        refine ltEg_tri h5 (fun e => ?_)
        rw [List.Nodup, List.pairwise_iff_getElem] at hnd2
        exact hnd2 i j (by simpa using hi) (by simpa using hj) hij (by rw [Array.getElem_toList, Array.getElem_toList]; exact e.symm)
      have hfin : d'.toList = G := srtEg_eq (fun x => hpm.mem_iff) hsrt hG
      rw [hfin] at hs1
      refine ⟨he, ?_, hs2.mono (fun i hi => by rw [hi]; rfl)⟩
      have h7 := hs1.own (base := base) enEg_len hb
      rw [← hpm.length_eq, hpd.length_eq, hl] at h7
      exact h7
end Go.Proofs.Ytjenchijenkndaa
