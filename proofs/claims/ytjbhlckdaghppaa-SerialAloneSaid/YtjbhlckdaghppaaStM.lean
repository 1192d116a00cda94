/- store: the reference's Set: a row set in. No condition. -/
import Derived.Test.YtjbhlckdaghppaaStL
import Derived.Test.YtjbhlckdaghppaaAppR
import Derived.Deep.RegionWith
import Derived.Shelf.RegionOpenPlain
import Derived.Deep.DeepCutAuto
import Derived.Deep.CutBlock
import Derived.Lib.QuietBelow
set_option linter.unusedVariables false
set_option linter.unusedSimpArgs false
namespace Go.Proofs.Ytjbhlckdaghppaa
open Go.RowKit (wrap32 wrap64)
open Go.RowKit Go.Shelf Go.Sort Go.Lib
def enZ (n : Int) : List Value := [.int .i64 n]
theorem enZ_len (n : Int) : (enZ n).length = 1 := rfl
theorem enZ_one (x : Int) : ∀ u ∈ enZ x, u.oneCell' = true := by intro u hu; rw [List.mem_singleton.1 hu]; rfl
theorem flatZ (l : List Int) : flatV enZ l = l.map (Value.int .i64) := by
  induction l with
  | nil => rfl
  | cons x l ih => rw [flatV_cons, ih]; rfl
theorem cntZ (E : List Cl) : E.map (fun c => Value.int .i64 c.n) = flatV enZ (E.map Cl.n) := by rw [flatZ, List.map_map]; rfl
theorem flatV_pre {α : Type} {enc : α → List Value} {s : Nat} (he : ∀ a, (enc a).length = s) (D : List α) (k j : Nat) (u : Value) (hu : (flatV enc (D.take k))[j]? = some u) : (flatV enc D)[j]? = some u := by
  have e : flatV enc D = flatV enc (D.take k) ++ flatV enc (D.drop k) := by rw [← flatV_append, List.take_append_drop]
  rw [e, List.getElem?_append_left (List.getElem?_eq_some_iff.1 hu).1, hu]
theorem RowAt.fresh {α : Type} {enc : α → List Value} {s : Nat} (w : World) (E cap : Nat) (D : List α) (hD : D.length ≤ cap) (hc : cap ≤ maxLen) (cs : Array Value) (hsz : cs.size = cap * s) (hcs : cs.toList.take (D.length * s) = flatV enc D) : RowAt enc E s (w.alloc (.cells cs E)) w.heap.size cap D :=
  ⟨cs, heap_alloc_new w _, hD, hc, hsz, hcs⟩
theorem infoInt : (Try.prog.info? 3).map (fun i => (i.zero, i.size, i.bytes)) = some (some (.int .i64 0), 1, 8) := by kernel_rfl
/-- The row is in. -/
theorem rset_end (x : Nat) (vL vC : Value) (E : List Cl) (p : Pt) (v : Int) (w : World) (k m : Nat) (hm : k + (1 + m) = E.length + 1) (hh : hasE E p = false) (hs : okSet p v = true) (A : List Rw) (hA : A = (E.map rwOf).take k ++ ([⟨p.n0, p.n1, p.n2, p.n3, p.dep, v⟩] ++ (E.map rwOf).drop k)) (B : List Int) (hB : B = (E.map Cl.n).take k ++ ([1] ++ (E.map Cl.n).drop k))
    (w4 w3 : World) (g3 c3 : Nat) (v4 vC4 : Value) (hx : Bk w4 x 39 #[v4, vC4]) (how : w4.ownsRow (x + 1) 30 6 v4 (k + (1 + m)) (flatV enRw A)) (hk : Keep (RS x vL vC) w w4) (hpl : plE E p = k) (hb : Below w4.heap.size w4 w3)
    (base : Nat) (how3 : w3.ownsRow base 3 1 (.slice (some ⟨g3, 0, none⟩) (k + (1 + m)) c3) (k + (1 + m)) (flatV enZ B)) (hbase : x + 1 ≤ base) (hv4 : ∀ i, v4.ownBlock = some i → w.heap.size ≤ i) (hb4 : w.heap.size ≤ base) :
    RSet x vL vC w (putT E p v) (.returned (.tuple #[.int .i64 0, .int .i64 0])) (w3.setCell ⟨x, 1, none⟩ (.slice (some ⟨g3, 0, none⟩) (k + (1 + m)) c3)) := by
  have hT : putT E p v = ⟨0, 0, E.take k ++ ⟨p, v, 1⟩ :: E.drop k⟩ := by
    unfold putT
    rw [if_pos hs, has_false_get hh, setE_new E p v hh, hpl]
  rw [hT]
  have hkE : k ≤ E.length := by rw [← hpl]; exact plE_le E p
  have hlen : (E.take k ++ (⟨p, v, 1⟩ : Cl) :: E.drop k).length = k + (1 + m) := by rw [hm]; simp; omega
  have eA : A = (E.take k ++ (⟨p, v, 1⟩ : Cl) :: E.drop k).map rwOf := by rw [hA, List.map_append, List.map_cons, List.map_take, List.map_drop]; rfl
  have eB : B = (E.take k ++ (⟨p, v, 1⟩ : Cl) :: E.drop k).map Cl.n := by rw [hB, List.map_append, List.map_cons, List.map_take, List.map_drop]; rfl
  have kx := Keep.set w3 x 1 (.slice (some ⟨g3, 0, none⟩) (k + (1 + m)) c3) (fun i => i = x) rfl
  refine ⟨v4, .slice (some ⟨g3, 0, none⟩) (k + (1 + m)) c3, rfl, ⟨(hx.below hb).set 1 _, ?_, ?_, fun e => by simp at e⟩, ?_, ?_⟩
  · rw [hlen, ← eA]
    exact own_keepB (own_below how hb) kx (fun i hi e => by have := (how.lt i hi).1; omega)
  · rw [hlen, cntZ, ← eB]
    exact own_weaken (own_keepB how3 kx (fun i hi e => by have := (how3.lt i hi).1; omega)) hbase
  · exact (hk.trans (Keep.of_below hb _)).trans (Keep.set w3 x 1 _ _ (.inl rfl))
  · rintro i (rfl | hi | hi)
    · exact .inl (.inl rfl)
    · exact .inr (hv4 i hi)
    · exact .inr (Nat.le_trans hb4 (how3.lt i hi).1)

end Go.Proofs.Ytjbhlckdaghppaa
