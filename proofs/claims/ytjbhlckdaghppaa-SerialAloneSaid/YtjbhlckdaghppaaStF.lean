/- store: slices.SortFunc of rows: their one order. No condition. -/
import Derived.Test.YtjbhlckdaghppaaStE
import Derived.Test.YtjbhlckdaghppaaSrt
set_option linter.unusedVariables false
set_option linter.unusedSimpArgs false
namespace Go.Proofs.Ytjbhlckdaghppaa
open Go.RowKit (wrap32 wrap64)
open Go.RowKit Go.Shelf Go.Sort Go.Lib
def toVR (O : List Rw) (h : ∀ x ∈ O, mayP (rwP x) = true) : List VR := O.attach.map (fun x => VR.mk x.1 (h x.1 x.2))
theorem toVR_val (O : List Rw) (h : ∀ x ∈ O, mayP (rwP x) = true) : (toVR O h).map VR.val = O := by
  unfold toVR
  rw [List.map_map]
  exact List.attach_map_subtype_val O
theorem enVR_len (x : VR) : (enVR x).length = 6 := rfl
theorem flatVR (l : List VR) : flatV enVR l = flatV enRw (l.map VR.val) := by
  induction l with
  | nil => rfl
  | cons x l ih => rw [flatV_cons, List.map_cons, flatV_cons, ih]; rfl
def SrtRw (O : List Rw) : Prop := O.Pairwise fun a b => lessP (rwP a) (rwP b) = true
theorem srt_eq {A B : List Rw} (hp : A.Perm B) (ha : SrtRw A) (hb : SrtRw B) : A = B := by
  induction A generalizing B with
  | nil => exact (List.Perm.nil_eq hp)
  | cons a A ih =>
    cases B with
    | nil => exact absurd hp.symm (by simp)
    | cons b B =>
      have h1 := List.pairwise_cons.1 ha
      have h2 := List.pairwise_cons.1 hb
      have e : a = b := by
        rcases List.mem_cons.1 (hp.subset (List.mem_cons_self : a ∈ a :: A)) with e | ha2
        · exact e
        · rcases List.mem_cons.1 (hp.symm.subset (List.mem_cons_self : b ∈ b :: B)) with e | hb2
          · exact e.symm
          · have := less_trans (h1.1 b hb2) (h2.1 a ha2)
            rw [less_irrefl] at this; cases this
      subst e
      rw [ih (List.Perm.cons_inv hp) h1.2 h2.2]
def SortRet (base : Nat) (v : Value) (n : Nat) (G : List Rw) (w : World) (e : Ending) (w' : World) : Prop := e = .returned (.tuple #[]) ∧ w'.ownsRow base 30 6 v n (flatV enRw G) ∧ Keep (fun i => v.ownBlock = some i) w w'
set_option maxRecDepth 100000 in
theorem rowsort_any (base : Nat) (v : Value) (n : Nat) (O G : List Rw) (w : World) (hown : w.ownsRow base 30 6 v n (flatV enRw O)) (hp : O.Perm G) (hG : SrtRw G) (hv : ∀ x ∈ G, mayP (rwP x) = true) (hn : n ≤ 1000) :
    Calls Try.prog 51 #[v, .func (.func 52) #[] #[]] w (SortRet base v n G w) := by
  have hl : O.length = n := by have h1 := hown.1; rw [flatV_len enRw_len] at h1; exact Nat.eq_of_mul_eq_mul_right (by omega) h1
  by_cases h0 : n = 0
  · subst h0
    have hO : O = [] := List.eq_nil_of_length_eq_zero hl
    subst hO
    have hG0 : G = [] := (List.Perm.nil_eq hp).symm
    subst hG0
    obtain ⟨A, c, rfl⟩ := own_slice hown
    have hc := AnyF.slices_SortFunc_none Try.sortRow A c (.func (.func 52) #[] #[]) w
    change Calls Try.prog 51 _ _ _ at hc
    exact hc.mono fun e w' ⟨he, hw⟩ => by subst hw; exact ⟨he, hown, Keep.refl _ _⟩
  · rcases hown.2 with ⟨_, hz⟩ | ⟨g, cap, cur, rfl, hb, _⟩
    · exact absurd hz h0
    · have hr := (RowAt.of hown hl.symm).1
      have hvO : ∀ x ∈ O, mayP (rwP x) = true := fun x hx => hv x (hp.subset hx)
      have hval := toVR_val O hvO
      generalize toVR O hvO = l at hval
      have hrl : RowAt enVR 30 6 w g cap (l.toArray).toList := by
        obtain ⟨cur, h1, h2, h3, h4, h5⟩ := hr
        have hll : l.length = O.length := by rw [← hval, List.length_map]
        exact ⟨cur, h1, by rw [List.toList_toArray, hll]; exact h2, h3, h4, by rw [List.toList_toArray, hll, flatVR, hval]; exact h5⟩
      have hlen : l.toArray.size = n := by rw [List.size_toArray]; rw [← hl, ← hval, List.length_map]
      have eg : ∀ args w, (callFunc 52 args).run Try.prog w = .ok (.enter 52 args) w := enters_of Try.func52 (by kernel_rfl) rfl
      have hc := AnyQ.slices_SortFunc Try.sortRow 6 Try.isAgg30 Try.sizeOf30 enVR enVR_len (fun (x : VR) u hu => enRw_one x.val u hu) cfVR swoVR 52 #[] g 0 cap l.toArray w eg (cmpVR g 0 _ w) (hrl.holdsK enVR_len (by omega)) hr.lt (by rw [hlen]; omega)
      change Calls Try.prog 51 _ _ _ at hc
      rw [hlen] at hc
      refine hc.mono fun e w' ⟨he, d', m, os, hpi, hsi, hw⟩ => ?_
      subst hw
      have hd : d'.size = l.toArray.size := hpi.1.trans (by rfl)
      obtain ⟨hs1, hs2⟩ := hrl.sorted enVR_len (by omega) hd m os
      have hpd : d'.toList.Perm l := by
        have h3 := hpi.2.2
        rw [← hlen] at h3
        have e1 : d'.extract 0 l.toArray.size = d' := by rw [← hd]; exact Array.extract_size
        have e2 : l.toArray.extract 0 l.toArray.size = l.toArray := Array.extract_size
        rw [e1, e2] at h3
        exact h3
      have hpm : (d'.toList.map VR.val).Perm G := by
        have h4 := hpd.map VR.val
        rw [hval] at h4
        exact h4.trans hp
      have hsrt : SrtRw (d'.toList.map VR.val) := by
        unfold SrtRw
        rw [List.pairwise_iff_getElem]
        intro i j hi hj hij
        rw [List.length_map, Array.length_toList] at hi hj
        have h5 := hsi i j (Nat.zero_le _) hij (by rw [← hlen, ← hd]; exact hj)
        rw [ltVR, getElem!_pos d' j hj, getElem!_pos d' i hi] at h5
        rw [List.getElem_map, List.getElem_map, Array.getElem_toList, Array.getElem_toList]
        have hne : rwP d'[i].1 ≠ rwP d'[j].1 := by
          intro e
          have hnd : (G.map rwP).Nodup := by
            unfold List.Nodup
            rw [List.pairwise_map]
            refine List.Pairwise.imp ?_ hG
            intro a b hab e
            rw [e, less_irrefl] at hab; cases hab
          have hnd2 : ((d'.toList.map VR.val).map rwP).Nodup := (hpm.map rwP).nodup_iff.2 hnd
          rw [List.Nodup, List.pairwise_iff_getElem] at hnd2
          have := hnd2 i j (by simpa using hi) (by simpa using hj) hij
          simp at this
          exact this e
        have h6 := less_tri d'[i].2 d'[j].2 hne
        rw [h5] at h6
        simpa using h6
      have hG2 := srt_eq hpm hsrt hG
      refine ⟨he, ?_, hs2.mono (fun i hi => by rw [hi]; rfl)⟩
      have h7 := hs1.own (base := base) enVR_len hb
      rw [flatVR, hG2, Array.length_toList, hd, hlen] at h7
      exact h7
end Go.Proofs.Ytjbhlckdaghppaa
