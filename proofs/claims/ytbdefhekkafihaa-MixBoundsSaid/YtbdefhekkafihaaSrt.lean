/- Rows of records that the library sorts: what the sort's worlds hold. No condition. -/
import Derived.Test.YtbdefhekkafihaaRecF
import Derived.Shelf.SlSortCmp.NoneTotal
set_option linter.unusedVariables false
set_option linter.unusedSimpArgs false
namespace Go.Proofs.Ytbdefhekkafihaa
open Go.RowKit (wrap32 wrap64)
open Go.RowKit Go.Shelf Go.Sort Go.Lib
section
variable {α : Type} [Inhabited α] {enc : α → List Value} {s : Nat}
theorem flatK_list (he : ∀ a, (enc a).length = s) (hs : 0 < s) (d : Array α) : (flatK enc s d).toList = flatV enc d.toList := by
  apply List.ext_getElem?
  intro t
  by_cases ht : t < d.size * s
  · have h1 := get_flatK enc s d t ht
    have hlt : t / s < d.size := (Nat.div_lt_iff_lt_mul hs).2 ht
    have hm : t % s < s := Nat.mod_lt _ hs
    have hx : d.toList[t / s]? = some d[t / s]! := by
      rw [Array.getElem?_toList, getElem!_pos d _ hlt, Array.getElem?_eq_getElem hlt]
    have h2 := flatV_get he d.toList (t / s) _ hx (t % s) hm
    have h3 : t / s * s + t % s = t := by rw [Nat.mul_comm]; exact Nat.div_add_mod t s
    rw [h3] at h2
    rw [h2]
    have h4 : t % s < (enc d[t / s]!).length := by rw [he]; exact hm
    rw [List.getElem?_eq_getElem h4, Array.getElem?_toList]
    have h5 : t < (flatK enc s d).size := by rw [size_flatK]; exact ht
    rw [Array.getElem?_eq_getElem h5]
    rw [getElem!_pos (flatK enc s d) t h5] at h1
    rw [h1, getElem!_pos (enc d[t / s]!) (t % s) h4]
  · rw [List.getElem?_eq_none (by rw [Array.length_toList, size_flatK]; omega), List.getElem?_eq_none (by rw [flatV_len he, Array.length_toList]; omega)]
theorem RowAt.holdsK (he : ∀ a, (enc a).length = s) (hs : 0 < s) {w : World} {E blk cap : Nat} {d : Array α} (r : RowAt enc E s w blk cap d.toList) : HoldsK enc s w blk 0 d := by
  obtain ⟨cur, h1, h2, h3, h4, h5⟩ := r
  intro j hj
  rw [size_flatK] at hj
  rw [Array.length_toList] at h2 h5
  have hle : d.size * s ≤ cap * s := Nat.mul_le_mul_right s h2
  refine ⟨?_, by rw [Nat.zero_add]; exact frozen_of_row w blk j cur E h1⟩
  rw [Nat.zero_add, cell_of_row w blk j cur E (0, 0) h1]
  have h6 : (cur.toList.take (d.size * s))[j]? = cur[j]? := by rw [List.getElem?_take, if_pos hj, Array.getElem?_toList]
  rw [h5, ← flatK_list he hs, Array.getElem?_toList] at h6
  rw [← h6]
  have h7 : j < (flatK enc s d).size := by rw [size_flatK]; exact hj
  rw [Array.getElem?_eq_getElem h7, getElem!_pos (flatK enc s d) j h7]
  rfl
theorem RowAt.sorted (he : ∀ a, (enc a).length = s) (hs : 0 < s) {w : World} {E blk cap : Nat} {d d' : Array α} (r : RowAt enc E s w blk cap d.toList) (hd : d'.size = d.size) (m : Nat) (os : Array Obj) :
    RowAt enc E s (sortWorldK enc s w blk 0 m d' os) blk cap d'.toList ∧ Keep (fun i => i = blk) w (sortWorldK enc s w blk 0 m d' os) := by
  have hlt := r.lt
  obtain ⟨cur, h1, h2, h3, h4, h5⟩ := r
  rw [Array.length_toList] at h2
  have hle : d.size * s ≤ cap * s := Nat.mul_le_mul_right s h2
  have hsz : (putRowK enc s (Sort.ahead w m) blk 0 d').heap.size = w.heap.size := by
    show (w.heap.modify blk _).size = _
    simp
  have hold : ∀ k, k < w.heap.size → (sortWorldK enc s w blk 0 m d' os).heap[k]? = (w.heap.modify blk (onCells (putCells id 0 (flatK enc s d'))))[k]? := fun k hk => by
    unfold sortWorldK
    rw [heap_grow_old _ _ (by rw [hsz]; exact hk)]
    rfl
  refine ⟨⟨putCells id 0 (flatK enc s d') cur, ?_, by rw [Array.length_toList, hd]; exact h2, h3, by simp [putCells, h4], ?_⟩, ⟨rfl, rfl, rfl, ?_, fun k hk hne => ?_⟩⟩
  · rw [hold blk hlt, Array.getElem?_modify, if_pos rfl, h1]
    rfl
  · rw [← flatK_list he hs]
    apply List.ext_getElem?
    intro t
    rw [List.getElem?_take, Array.length_toList, hd]
    by_cases ht : t < d.size * s
    · rw [if_pos ht, Array.getElem?_toList, Array.getElem?_toList]
      have h7 : t < (flatK enc s d').size := by rw [size_flatK, hd]; exact ht
      have h8 : t < cur.size := by rw [h4]; omega
      unfold putCells
      rw [Array.getElem?_mapIdx, Array.getElem?_eq_getElem h8, Option.map_some, if_pos ⟨Nat.zero_le _, by rw [Nat.zero_add]; exact h7⟩, Nat.sub_zero, Array.getElem?_eq_getElem h7, getElem!_pos (flatK enc s d') t h7]
      rfl
    · rw [if_neg ht, List.getElem?_eq_none (by rw [Array.length_toList, size_flatK, hd]; omega)]
  · unfold sortWorldK grow
    show w.heap.size ≤ ((putRowK enc s (Sort.ahead w m) blk 0 d').heap ++ os).size
    rw [Array.size_append, hsz]
    omega
  · rw [hold k hk, Array.getElem?_modify, if_neg (fun e => hne e.symm)]
end
end Go.Proofs.Ytbdefhekkafihaa
