/- slices.SortFunc of nodes that may be: their one order. No condition. -/
import Derived.Test.YtbdefhekkafihaaPthL
import Derived.Test.YtbdefhekkafihaaInsG
import Derived.Test.YtbdefhekkafihaaSrt
import Derived.Test.YtbdefhekkafihaaShelf
import Derived.Test.YtbdefhekkafihaaTab
import Derived.Lib.QuietBelow
set_option linter.unusedVariables false
set_option linter.unusedSimpArgs false
namespace Go.Proofs.Ytbdefhekkafihaa
open Go.RowKit (wrap32 wrap64)
open Go.RowKit Go.Shelf Go.Sort Go.Lib
/-- As Below, and the draws do not fall. -/
def BP (w w' : World) : Prop := Below w.heap.size w w' ∧ w.drawn ≤ w'.drawn
theorem BP.alloc (w : World) (o : Obj) : BP w (w.alloc o) := ⟨(Below.refl _ _).alloc (Nat.le_refl _) _, Nat.le_refl _⟩
theorem BP.trans {a b c : World} (h : BP a b) (k : BP b c) : BP a c := ⟨bl_then h.1 (Nat.le_refl _) k.1, Nat.le_trans h.2 k.2⟩
/-- A node that may be. -/
structure VP where
  val : Pt
  may : mayP val = true
instance : Inhabited VP := ⟨⟨⟨1, 0, 0, 0, 1⟩, by decide⟩⟩
def enVP (x : VP) : List Value := enPt x.1
theorem enVP_len (x : VP) : (enVP x).length = 5 := rfl
def cfP (x y : Pt) : Int := if lessP x y = true then -1 else 1
def cfVP (x y : VP) : Int := cfP x.1 y.1
theorem ltVP (x y : VP) : ltOf cfVP x y = lessP x.1 y.1 := by
  unfold ltOf cfVP cfP
  cases h : lessP x.1 y.1 <;> simp
theorem swoVP : SWO (ltOf cfVP) where
  irrefl x := by rw [ltVP]; exact less_irrefl _
  trans x y z h1 h2 := by rw [ltVP] at *; exact less_trans h1 h2
  ntrans x y z h1 h2 := by
    rw [ltVP] at *
    cases h3 : lessP x.1 z.1 with
    | false => rfl
    | true =>
      exfalso
      by_cases e1 : x.1 = y.1
      · rw [e1, h2] at h3; cases h3
      · have a := less_tri x.2 y.2 e1
        rw [h1] at a
        have : lessP y.1 z.1 = true := less_trans (by simpa using a) h3
        rw [h2] at this; cases this
def toVP (O : List Pt) (h : ∀ x ∈ O, mayP x = true) : List VP := O.attach.map (fun x => VP.mk x.1 (h x.1 x.2))
theorem toVP_val (O : List Pt) (h : ∀ x ∈ O, mayP x = true) : (toVP O h).map VP.val = O := by
  unfold toVP
  rw [List.map_map]
  exact List.attach_map_subtype_val O
theorem flatVP (l : List VP) : flatV enVP l = flatV enPt (l.map VP.val) := by
  induction l with
  | nil => rfl
  | cons x l ih => rw [flatV_cons, List.map_cons, flatV_cons, ih]; rfl
def SrtP (O : List Pt) : Prop := O.Pairwise fun a b => lessP a b = true
theorem srtP_nodup {O : List Pt} (h : SrtP O) : O.Nodup := List.Pairwise.imp (fun {a b} hab e => by rw [e, less_irrefl] at hab; cases hab) h
theorem srtP_eq {A B : List Pt} (hp : A.Perm B) (ha : SrtP A) (hb : SrtP B) : A = B := by
  induction A generalizing B with
  | nil => exact (List.Perm.nil_eq hp)
  | cons a A ih =>
    cases B with
    | nil => exact absurd hp.symm (by simp)
    | cons b B =>
      have h1 := List.pairwise_cons.1 ha
      have h2 := List.pairwise_cons.1 hb
      have e : a = b := by
        rcases List.mem_cons.1 (hp.subset (List.mem_cons_self : a ∈ a :: A)) with e | ha2
        · exact e
        · rcases List.mem_cons.1 (hp.symm.subset (List.mem_cons_self : b ∈ b :: B)) with e | hb2
          · exact e.symm
          · have := less_trans (h1.1 b hb2) (h2.1 a ha2)
            rw [less_irrefl] at this; cases this
      subst e
      rw [ih (List.Perm.cons_inv hp) h1.2 h2.2]
theorem insP_srt {O : List Pt} (h : SrtP O) (hO : ∀ x ∈ O, mayP x = true) (e : Pt) (he : mayP e = true) : SrtP (insG lessP O e) := by
  induction O with
  | nil => unfold insG SrtP; simp
  | cons y O ih =>
    have h1 := List.pairwise_cons.1 h
    unfold insG
    split
    · rename_i hl
      refine List.pairwise_cons.2 ⟨fun x hx => ?_, ih h1.2 (fun x hx => hO x (by simp [hx]))⟩
      rcases (insG_mem lessP O e x).1 hx with rfl | hx
      · exact hl
      · exact h1.1 x hx
    · rename_i hl
      split
      · exact h
      · rename_i hne
        have hel : lessP e y = true := by
          have := less_tri (hO y (by simp)) he hne
          rw [Bool.eq_false_iff.2 hl] at this
          simpa using this
        refine List.pairwise_cons.2 ⟨fun x hx => ?_, h⟩
        rcases List.mem_cons.1 hx with rfl | hx
        · exact hel
        · exact less_trans hel (h1.1 x hx)
theorem foldP_srt (L O : List Pt) (hL : ∀ x ∈ L, mayP x = true) (h : SrtP O) (hO : ∀ x ∈ O, mayP x = true) : SrtP (L.foldl (insG lessP) O) := by
  induction L generalizing O with
  | nil => exact h
  | cons e L ih =>
    refine ih _ (fun x hx => hL x (by simp [hx])) (insP_srt h hO e (hL e (by simp))) (fun x hx => ?_)
    rcases (insG_mem lessP O e x).1 hx with rfl | hx
    · exact hL _ (by simp)
    · exact hO x hx
theorem sortP_srt (L : List Pt) (hL : ∀ x ∈ L, mayP x = true) : SrtP (sortG lessP L) := foldP_srt L [] hL List.Pairwise.nil (by simp)
theorem two_boxP (p q : Pt) (w : World) : BP w ((w.alloc (.cells (ptA p) 50)).alloc (.cells (ptA q) 50)) ∧ Bk ((w.alloc (.cells (ptA p) 50)).alloc (.cells (ptA q) 50)) w.heap.size 50 (ptA p) ∧ Bk ((w.alloc (.cells (ptA p) 50)).alloc (.cells (ptA q) 50)) (w.heap.size + 1) 50 (ptA q) := by
  refine ⟨(BP.alloc w _).trans (BP.alloc _ _), (Bk.new w 50 (ptA p)).below ((Below.refl _ _).alloc (Nat.le_refl _) (.cells (ptA q) 50)), ?_⟩
  have := Bk.new (w.alloc (.cells (ptA p) 50)) 50 (ptA q)
  rw [World.size_alloc] at this
  exact this
theorem bd_growP {w w' : World} (h : BP w w') : ∃ q os', w' = grow (w.drewN q) os' := by
  obtain ⟨⟨d, os⟩, hp⟩ := regrown_of_below h.1
  refine ⟨w'.drawn - w.drawn, os, ?_⟩
  have hd : w'.drawn = d := by rw [hp]; rfl
  have h2 := h.2
  rw [hp]
  unfold World.drewN redrawn grow
  congr 1
  show d = w.drawn + (d - w.drawn)
  omega
def SortRetP (base : Nat) (v : Value) (n : Nat) (G : List Pt) (w : World) (e : Ending) (w' : World) : Prop := e = .returned (.tuple #[]) ∧ w'.ownsRow base 50 5 v n (flatV enPt G) ∧ Keep (fun i => v.ownBlock = some i) w w'
set_option maxRecDepth 100000 in
theorem pathsort_any (F : Nat) (eg : ∀ args w, (callFunc F args).run Try.prog w = .ok (.enter F args) w) (hcmp : ∀ blk off size w, CmpLays Try.prog F #[] enVP 5 cfVP blk off size w) (base : Nat) (v : Value) (n : Nat) (O G : List Pt) (w : World) (hown : w.ownsRow base 50 5 v n (flatV enPt O)) (hp : O.Perm G) (hG : SrtP G) (hv : ∀ x ∈ G, mayP x = true) (hn : n ≤ 100000) :
    Calls Try.prog 32 #[v, .func (.func F) #[] #[]] w (SortRetP base v n G w) := by
  have hl : O.length = n := by have h1 := hown.1; rw [flatV_len enPt_len] at h1; exact Nat.eq_of_mul_eq_mul_right (by omega) h1
  by_cases h0 : n = 0
  · subst h0
    have hO : O = [] := List.eq_nil_of_length_eq_zero hl
    subst hO
    have hG0 : G = [] := (List.Perm.nil_eq hp).symm
    subst hG0
    obtain ⟨A, c, rfl⟩ := own_slice hown
    have hc := AnyF.slices_SortFunc_none Try.sortPath A c (.func (.func F) #[] #[]) w
    change Calls Try.prog 32 _ _ _ at hc
    exact hc.mono fun e w' ⟨he, hw⟩ => by subst hw; exact ⟨he, hown, Keep.refl _ _⟩
  · rcases hown.2 with ⟨_, hz⟩ | ⟨g, cap, cur, rfl, hb, _⟩
    · exact absurd hz h0
    · have hr := (RowAt.of hown hl.symm).1
      have hvO : ∀ x ∈ O, mayP x = true := fun x hx => hv x (hp.subset hx)
      have hval := toVP_val O hvO
      generalize toVP O hvO = l at hval
      have hrl : RowAt enVP 50 5 w g cap (l.toArray).toList := by
        obtain ⟨cur, h1, h2, h3, h4, h5⟩ := hr
        have hll : l.length = O.length := by rw [← hval, List.length_map]
        exact ⟨cur, h1, by rw [List.toList_toArray, hll]; exact h2, h3, h4, by rw [List.toList_toArray, hll, flatVP, hval]; exact h5⟩
      have hlen : l.toArray.size = n := by rw [List.size_toArray]; rw [← hl, ← hval, List.length_map]
      have hc := AnyQ.slices_SortFunc Try.sortPath 5 Try.isAgg50 Try.sizeOf50 enVP enVP_len (fun (x : VP) u hu => enPt_one x.val u hu) cfVP swoVP F #[] g 0 cap l.toArray w eg (hcmp g 0 _ w) (hrl.holdsK enVP_len (by omega)) hr.lt (by rw [hlen]; omega)
      change Calls Try.prog 32 _ _ _ at hc
      rw [hlen] at hc
      refine hc.mono fun e w' ⟨he, d', m, os, hpi, hsi, hw⟩ => ?_
      subst hw
      have hd : d'.size = l.toArray.size := hpi.1.trans (by rfl)
      obtain ⟨hs1, hs2⟩ := hrl.sorted enVP_len (by omega) hd m os
      have hpd : d'.toList.Perm l := by
        have h3 := hpi.2.2
        rw [← hlen] at h3
        have e1 : d'.extract 0 l.toArray.size = d' := by rw [← hd]; exact Array.extract_size
        have e2 : l.toArray.extract 0 l.toArray.size = l.toArray := Array.extract_size
        rw [e1, e2] at h3
        exact h3
      have hpm : (d'.toList.map VP.val).Perm G := by
        have h4 := hpd.map VP.val
        rw [hval] at h4
        exact h4.trans hp
      have hsrt : SrtP (d'.toList.map VP.val) := by
        unfold SrtP
        rw [List.pairwise_iff_getElem]
        intro i j hi hj hij
        rw [List.length_map, Array.length_toList] at hi hj
        have h5 := hsi i j (Nat.zero_le _) hij (by rw [← hlen, ← hd]; exact hj)
        rw [ltVP, getElem!_pos d' j hj, getElem!_pos d' i hi] at h5
        rw [List.getElem_map, List.getElem_map, Array.getElem_toList, Array.getElem_toList]
        have hne : d'[i].1 ≠ d'[j].1 := by
          intro e
          have hnd2 : (d'.toList.map VP.val).Nodup := hpm.nodup_iff.2 (srtP_nodup hG)
          rw [List.Nodup, List.pairwise_iff_getElem] at hnd2
          have := hnd2 i j (by simpa using hi) (by simpa using hj) hij
          simp at this
          exact this e
        have h6 := less_tri d'[i].2 d'[j].2 hne
        rw [h5] at h6
        simpa using h6
      have hG2 := srtP_eq hpm hsrt hG
      refine ⟨he, ?_, hs2.mono (fun i hi => by rw [hi]; rfl)⟩
      have h7 := hs1.own (base := base) enVP_len hb
      rw [flatVP, hG2, Array.length_toList, hd, hlen] at h7
      exact h7
end Go.Proofs.Ytbdefhekkafihaa
