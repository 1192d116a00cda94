/- Rows of records: a stretch of them written, a row laid new; 'copy' of records (slices.Insert). No condition. -/
import Derived.Test.YtbdefhekkafihaaRecF
import Derived.Shelf.Spec.SlicesInsertGrow
set_option linter.unusedVariables false
set_option linter.unusedSimpArgs false
namespace Go.Proofs.Ytbdefhekkafihaa
open Go.RowKit
section
variable {α : Type} {enc : α → List Value} {s : Nat}
theorem setFrom_eq (vs : List Value) (l : List Value) (k : Nat) (h : k + vs.length ≤ l.length) : setFrom l k vs = l.take k ++ vs ++ l.drop (k + vs.length) := by
  induction vs generalizing l k with
  | nil => unfold setFrom; simp
  | cons v vs ih =>
    simp only [List.length_cons] at h
    unfold setFrom
    rw [ih _ _ (by simp; omega), List.take_succ_eq_append_getElem (by simp; omega), List.take_set_of_le (Nat.le_refl _), List.drop_set_of_lt (by omega), List.getElem_set_self]
    simp only [List.length_cons, List.append_assoc, List.cons_append, List.nil_append]
    rw [show k + (vs.length + 1) = k + 1 + vs.length by omega]
theorem flatV_take (he : ∀ a, (enc a).length = s) (D : List α) (i : Nat) (hi : i ≤ D.length) : flatV enc (D.take i) = (flatV enc D).take (i * s) := by
  have e : flatV enc D = flatV enc (D.take i) ++ flatV enc (D.drop i) := by rw [← flatV_append, List.take_append_drop]
  have hl : (flatV enc (D.take i)).length = i * s := by rw [flatV_len he, List.length_take, Nat.min_eq_left hi]
  rw [e, List.take_append_of_le_length (by omega), List.take_of_length_le (l := flatV enc (D.take i)) (by omega)]
theorem flatV_drop (he : ∀ a, (enc a).length = s) (D : List α) (i : Nat) (hi : i ≤ D.length) : flatV enc (D.drop i) = (flatV enc D).drop (i * s) := by
  have e : flatV enc D = flatV enc (D.take i) ++ flatV enc (D.drop i) := by rw [← flatV_append, List.take_append_drop]
  have hl : (flatV enc (D.take i)).length = i * s := by rw [flatV_len he, List.length_take, Nat.min_eq_left hi]
  rw [e, List.drop_append_of_le_length (by omega), List.drop_of_length_le (l := flatV enc (D.take i)) (by omega)]
  simp
theorem setCells_sets (h : Nat) (vs : List Value) (k : Nat) (w : World) : w.setCells h k vs = setsFrom w h k vs := by
  induction vs generalizing k w with
  | nil => rfl
  | cons v vs ih => exact ih _ _
/-- A stretch of records written from place i on. -/
theorem RowAt.puts {w : World} {E h cap : Nat} {D : List α} (he : ∀ a, (enc a).length = s) (r : RowAt enc E s w h cap D) (i : Nat) (hi : i ≤ D.length) (Y : List α) (hY : i + Y.length ≤ cap) :
    RowAt enc E s (w.setCells h (i * s) (flatV enc Y)) h cap (D.take i ++ Y ++ D.drop (i + Y.length)) := by
  obtain ⟨cur, h1, h2, h3, h4, h5⟩ := r
  have hm1 : (i + Y.length) * s ≤ cap * s := Nat.mul_le_mul_right s hY
  have hm2 : D.length * s ≤ cap * s := Nat.mul_le_mul_right s h2
  have hm3 : i * s ≤ D.length * s := Nat.mul_le_mul_right s hi
  have hfy := flatV_len he Y
  have hfd := flatV_len he D
  have hx : i * s + (flatV enc Y).length = (i + Y.length) * s := by rw [hfy, Nat.add_mul]
  rw [setCells_sets]
  obtain ⟨c', a, b, c⟩ := setsFrom_heap h E (flatV enc Y) (i * s) w cur h1 (by rw [h4, hx]; exact hm1)
  refine ⟨c', a, by simp; omega, h3, by rw [b, h4], ?_⟩
  have hcl : cur.toList.length = cap * s := by rw [Array.length_toList, h4]
  rw [c, setFrom_eq _ _ _ (by rw [hx, hcl]; exact hm1), flatV_append, flatV_append, flatV_take he D i hi]
  have e1 : cur.toList.take (i * s) = (flatV enc D).take (i * s) := by rw [← h5, List.take_take, Nat.min_eq_left hm3]
  rw [e1, hx]
  have hl1 : ((flatV enc D).take (i * s) ++ flatV enc Y).length = (i + Y.length) * s := by rw [List.length_append, List.length_take, Nat.min_eq_left (by omega), hx]
  by_cases hc : D.length ≤ i + Y.length
  · have e2 : D.drop (i + Y.length) = [] := List.drop_of_length_le hc
    have e3 : (D.take i ++ Y ++ D.drop (i + Y.length)).length = i + Y.length := by rw [e2]; simp; omega
    rw [e3, e2, List.take_append_of_le_length (by omega), List.take_of_length_le (by omega)]
    unfold flatV; simp
  · have e3 : (D.take i ++ Y ++ D.drop (i + Y.length)).length = D.length := by simp; omega
    have hm4 : (i + Y.length) * s ≤ D.length * s := Nat.mul_le_mul_right s (by omega)
    have e4 : (cur.toList.drop ((i + Y.length) * s)).take (D.length * s - (i + Y.length) * s) = (flatV enc D).drop ((i + Y.length) * s) := by rw [← h5, List.drop_take]
    rw [e3, flatV_drop he D _ (by omega), List.take_append, hl1, List.take_of_length_le (by rw [hl1]; exact hm4), e4]
/-- A row that is laid new. -/
theorem RowAt.fresh (w : World) (E cap : Nat) (D : List α) (hD : D.length ≤ cap) (hc : cap ≤ maxLen) (cs : Array Value) (hsz : cs.size = cap * s) (hcs : cs.toList.take (D.length * s) = flatV enc D) : RowAt enc E s (w.alloc (.cells cs E)) w.heap.size cap D :=
  ⟨cs, heap_alloc_new w _, hD, hc, hsz, hcs⟩
theorem zeroCells_flat (he : ∀ a, (enc a).length = s) (hs : 0 < s) (z : Array Value) (z0 : α) (hz : z.toList = enc z0) (n : Nat) : (Builtin.zeroCells z n).toList = flatV enc (List.replicate n z0) := by
  have hzs : z.size = s := by rw [← Array.length_toList, hz, he]
  apply List.ext_getElem?
  intro j
  by_cases hj : j < n * s
  · have h1 : j / s < n := (Nat.div_lt_iff_lt_mul hs).2 hj
    have h2 : j % s < s := Nat.mod_lt _ hs
    have h3 : j = j / s * s + j % s := by rw [Nat.mul_comm]; exact (Nat.div_add_mod j s).symm
    have h4 := flatV_get he (List.replicate n z0) (j / s) z0 (by rw [List.getElem?_replicate, if_pos h1]) (j % s) h2
    rw [← h3] at h4
    rw [h4, ← hz]
    unfold Builtin.zeroCells
    rw [hzs]
    have h5 : j % s < z.size := by omega
    simp [hj, getElem!_pos, h5]
  · rw [List.getElem?_eq_none (by unfold Builtin.zeroCells; simp [hzs]; omega), List.getElem?_eq_none (by rw [flatV_len he]; simp; omega)]
/-- 'copy' of records. -/
theorem run_copy_recs {P : Program} (w : World) (dT sT ty elem : TypeId) (sz : Nat) (b o dLen dCap : Nat) (a : Addr) (sLen sCap : Nat) (m : Nat) (cs : List Value)
    (hu : P.underlying dT = some (.slice elem)) (hs : (P.info? elem).map (·.size) = some sz) (hn : Nat.min sLen dLen = m) (hcl : cs.length = m * sz)
    (hsrc : ∀ j v, cs[j]? = some v → w.cell? (a.add j) = some v) (hc : ∀ j, j < cs.length → (w.cell? ⟨b, o + j, none⟩).isSome = true) (hf : ∀ j, j < cs.length → w.frozen? ⟨b, o + j, none⟩ = false) (h1 : ∀ v ∈ cs, v.oneCell' = true) :
    (Builtin.copy_ #[dT, sT] ty #[.slice (some ⟨b, o, none⟩) dLen dCap, .slice (some a) sLen sCap]).run P w = .ok (goInt m) (w.setCells b o cs) := by
  have hl := run_loadCells_list (P := P) w a cs hsrc
  have hst := run_storeCells_cells (P := P) b o cs 0 w (by simpa using hc) (by simpa using hf) h1
  cases hq : P.info? elem with
  | none => simp [hq] at hs
  | some i =>
    have hi : i.size = sz := by simpa [hq] using hs
    simp [Builtin.copy_, run_underlying hu, Builtin.lenOf, Builtin.firstCells, sizeOf, typeInfo, hq, hi, hn, ← hcl, hl, hst]
theorem RowAt.lies {w : World} {E h cap : Nat} {D : List α} (r : RowAt enc E s w h cap D) (j : Nat) (hj : j < cap * s) : (w.cell? ⟨h, j, none⟩).isSome = true := by
  obtain ⟨cur, h1, h2, h3, h4, h5⟩ := r
  rw [cell_of_row w h j cur E (0, 0) h1, Array.getElem?_eq_getElem (by omega)]; rfl
theorem RowAt.read {w : World} {E h cap : Nat} {D : List α} (he : ∀ a, (enc a).length = s) (r : RowAt enc E s w h cap D) (j : Nat) (v : Value) (hj : (flatV enc D)[j]? = some v) : w.cell? ⟨h, j, none⟩ = some v := by
  have hlt : j < D.length * s := by rw [← flatV_len he D]; exact (List.getElem?_eq_some_iff.1 hj).1
  have o := r.own (base := 0) he (Nat.zero_le _)
  rw [o.cellAt j hlt]; exact hj
end
end Go.Proofs.Ytbdefhekkafihaa
