/- append of records and of whole numbers as one step of a region that draws. No condition. -/
import Derived.Test.YtbdefhekkafihaaRecF
import Derived.Deep.RegionLawGrows
import Derived.Deep.Upon
set_option linter.unusedVariables false
set_option linter.unusedSimpArgs false
namespace Go.Proofs.Ytbdefhekkafihaa
open Go.RowKit (wrap32 wrap64)
open Go.RowKit
theorem step_append_none {P : Program} {ops : Array Oper} {o : Oper} {a : Act} {w : World} {K : Act → World → Prop} {Q : Exit → Act → World → Prop} {E : Prop}
    (hg : o.guard = none) (s x : Operand) (t : TypeId) (hop : o.op = Op.call { callee := Callee.builtin Builtin.append, args := #[s, x], argTypes := #[t, t] })
    (e : TypeId) (i : TypeInfo) (h1 : P.underlying t = some (.slice e)) (h2 : P.info? e = some i) (ao : Option Addr) (n cap : Nat) (hs : a.eval s = .slice ao n cap) (hle : n ≤ cap) (xo : Option Addr) (c : Nat) (hx : a.eval x = .slice xo 0 c)
    (hK : K (a.put o.dst (.slice ao n cap)) w) :
    if Region.wanted o (yielded ops a.tmps) = true then Oper.wp P o a w K Q else E := by
  have hw : Region.wanted o (yielded ops a.tmps) = true := by simp [Region.wanted, hg]
  rw [if_pos hw]
  have hsrc : Src P i.size t (.slice xo 0 c) 0 [] w := by
    cases xo with
    | none => exact Src.ofNil w h1 c
    | some b => exact Src.ofSlice w h1 b 0 c [] (by simp) (by simp) (by simp)
  have hrun := run_append_nothing (P := P) w t t o.type e i h1 h2 ao n cap hle (.slice xo 0 c) hsrc
  unfold Oper.wp
  simp [execOp, hop, resolve, invoke, builtin, hs, hx, hrun, Result.andThen]
  exact hK
/-- append of a slice of records to a row of one's own, as one step of a region that draws. -/
theorem step_append_recs {α : Type} {enc : α → List Value} {ok : α → Prop} {s : Nat} (he : ∀ a, (enc a).length = s) (hs0 : 0 < s) (h1 : ∀ x, ∀ u ∈ enc x, u.oneCell' = true) {P : Program} {ops : Array Oper} {o : Oper} {a : Act} {w : World} {K : Act → World → Prop} {Q : Exit → Act → World → Prop} {E : Prop}
    (hg : o.guard = none) (sl x : Operand) (t : TypeId) (hop : o.op = Op.call { callee := Callee.builtin Builtin.append, args := #[sl, x], argTypes := #[t, t] })
    (base : Nat) (e : TypeId) (i : TypeInfo) (z : Value) (bytes : Nat) (ht : P.underlying t = some (.slice e)) (hi : P.info? e = some i) (hz : i.zero = some z) (hsize : i.size = s) (hby : i.bytes = bytes) (hzs : z.cells.size = s)
    (v : Value) (n : Nat) (L : List α) (hs : a.eval sl = v) (hown : w.ownsRow base e s v n (flatV enc L))
    (xo : Option Addr) (m c : Nat) (M : List α) (hx : a.eval x = .slice xo m c) (hM : SR enc ok s w xo m M)
    (b1 : n + m ≤ maxLen) (b2 : (n + m) * bytes ≤ 140737488355328) (hbase : base ≤ w.heap.size)
    (hK : ∀ v' w', w'.ownsRow base e s v' (n + m) (flatV enc (L ++ M)) → w.grownBy w' v.ownBlock → K (a.put o.dst v') w') :
    if Region.wanted o (yielded ops a.tmps) = true then Oper.wp P o a w K Q else E := by
  by_cases hm : m = 0
  · subst hm
    have hM0 : M = [] := List.eq_nil_of_length_eq_zero hM.len
    subst hM0
    obtain ⟨A, cc, rfl⟩ := own_slice hown
    have hc := own_caps hown
    refine step_append_none hg sl x t hop e i ht hi A n cc hs hc.1 xo c hx ?_
    exact hK _ _ (by rw [List.append_nil]; exact hown) ⟨rfl, rfl, rfl, Nat.le_refl _, fun _ _ _ => rfl⟩
  · obtain ⟨b, off, rfl, _, hcell⟩ := hM.row (by omega)
    have hw : Region.wanted o (yielded ops a.tmps) = true := by simp [Region.wanted, hg]
    rw [if_pos hw]
    have hfl : (flatV enc M).length = m * s := by rw [flatV_len he, hM.len]
    obtain ⟨v', w', hrun, r1, r2, _⟩ := run_append_own (P := P) w base t o.type e i z s bytes ht hi hz hsize hby hzs hs0 v n _ hown ⟨b, off, none⟩ m c (flatV enc M) hfl (by
      intro j u hu
      have hj : j < m * s := by rw [← hfl]; exact (List.getElem?_eq_some_iff.1 hu).1
      have hadd : (⟨b, off, none⟩ : Addr).add j = ⟨b, off + j, none⟩ := by unfold Addr.add; split <;> simp_all
      rw [hadd, hcell j hj, hu]) (flatV_one h1 M) b1 b2 hbase
    rw [← flatV_append] at r1
    unfold Oper.wp
    simp [execOp, hop, resolve, invoke, builtin, hs, hx, hrun, Result.andThen]
    exact hK v' w' r1 r2
theorem SR.zero {α : Type} {enc : α → List Value} {ok : α → Prop} {s : Nat} {w : World} (a : Option Addr) : SR enc ok s w a 0 [] :=
  ⟨rfl, Nat.zero_le _, (by intro x h; cases h), fun h => absurd h (Nat.lt_irrefl _)⟩
theorem SR.drop {α : Type} {enc : α → List Value} {ok : α → Prop} {s : Nat} (he : ∀ a, (enc a).length = s) {w : World} {b off n : Nat} {L : List α} (h : SR enc ok s w (some ⟨b, off, none⟩) n L) {p : Nat} (hp : p ≤ n) : SR enc ok s w (some ⟨b, off + p * s, none⟩) (n - p) (L.drop p) := by
  refine ⟨by rw [List.length_drop, h.len], Nat.le_trans (Nat.sub_le _ _) h.max, fun x hx => h.all x (List.mem_of_mem_drop hx), fun hn => ?_⟩
  obtain ⟨b', off', ha, hlt, hc⟩ := h.row (by omega)
  injection ha with ha
  injection ha with e1 e2 _
  subst e1; subst e2
  refine ⟨b, off + p * s, rfl, hlt, fun j hj => ?_⟩
  have hps : (p + (n - p)) * s = p * s + (n - p) * s := Nat.add_mul _ _ _
  have h3 : p + (n - p) = n := by omega
  rw [h3] at hps
  have h2 := hc (p * s + j) (by omega)
  rw [← Nat.add_assoc] at h2
  rw [h2]
  have h4 : flatV enc L = flatV enc (L.take p) ++ flatV enc (L.drop p) := by rw [← flatV_append, List.take_append_drop]
  have hl : (flatV enc (L.take p)).length = p * s := by rw [flatV_len he, List.length_take, h.len, Nat.min_eq_left hp]
  rw [h4, List.getElem?_append_right (by omega), hl, Nat.add_sub_cancel_left]
theorem grown_below {w w' : World} (h : w.grownBy w' none) {w0 : World} (b : Below w0.heap.size w0 w) : Below w0.heap.size w0 w' := bl_keep b (grown_keep h (fun _ => False) (fun k hk => by cases hk)) (fun _ h => h.elim)
end Go.Proofs.Ytbdefhekkafihaa
