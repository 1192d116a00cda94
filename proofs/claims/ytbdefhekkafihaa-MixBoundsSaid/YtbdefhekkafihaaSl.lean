/- Small words on slices of ints: one that is read (Ints), one that the call itself made (ownsRow); what stays of both behind a call. No condition. -/
import Derived.Test.YtbdefhekkafihaaBase
import Derived.Laws.OwnMore
import Derived.Laws.AppendOwnNone
import Derived.OwnWalk
import Derived.OpenShut
set_option linter.unusedVariables false
set_option linter.unusedSimpArgs false
namespace Go.Proofs.Ytbdefhekkafihaa
open Go.RowKit (wrap32 wrap64)
open Go.RowKit

def IsRow (k : IntKind) (w : World) (a : Option Addr) (len cap : Nat) (zs : List Int) : Prop :=
  (a = none ∧ len = 0 ∧ cap = 0 ∧ zs = []) ∨
  ∃ x, a = some x ∧ len ≤ cap ∧ cap ≤ maxLen ∧ zs.length = cap ∧ (∀ i, i < zs.length → w.cell? (x.add i) = some (.int k (zs.getD i 0))) ∧ ∀ n ∈ zs, (Lit.int k n).wf = true
/-- The slice's n elements read as xs. -/
def Ints (w : World) (a : Option Addr) (n : Nat) (xs : List Int) : Prop :=
  xs.length = n ∧ n ≤ maxLen ∧ (0 < n → ∃ b off, a = some ⟨b, off, none⟩ ∧ b < w.heap.size ∧ ∀ i, i < n → w.cell? ⟨b, off + i, none⟩ = some (.int .i64 (xs.getD i 0)))
theorem Ints.len {w : World} {a : Option Addr} {n : Nat} {xs : List Int} (h : Ints w a n xs) : xs.length = n := h.1
theorem Ints.le {w : World} {a : Option Addr} {n : Nat} {xs : List Int} (h : Ints w a n xs) : n ≤ 9223372036854775807 := h.2.1
theorem Ints.get {w : World} {a : Option Addr} {n : Nat} {xs : List Int} (h : Ints w a n xs) {i : Nat} (hi : i < n) : ∃ b off, a = some ⟨b, off, none⟩ ∧ w.cell? ⟨b, off + i, none⟩ = some (.int .i64 (xs.getD i 0)) := by
  obtain ⟨b, off, ha, _, hc⟩ := h.2.2 (by omega)
  exact ⟨b, off, ha, hc i hi⟩
theorem Ints.below {w w1 : World} {a : Option Addr} {n : Nat} {xs : List Int} (h : Ints w a n xs) (hb : Below w.heap.size w w1) : Ints w1 a n xs := by
  refine ⟨h.1, h.2.1, fun hn => ?_⟩
  obtain ⟨b, off, ha, hlt, hc⟩ := h.2.2 hn
  exact ⟨b, off, ha, Nat.lt_of_lt_of_le hlt hb.size, fun i hi => (hb.cell (p := ⟨b, off + i, none⟩) hlt).trans (hc i hi)⟩
/-- Of a slice that came in. -/
theorem IsRow.ints {w : World} {a : Option Addr} {len cap : Nat} {zs : List Int} (h : IsRow .i64 w a len cap zs) : Ints w a len (zs.take len) ∧ (∀ n ∈ zs.take len, (Lit.int .i64 n).wf = true) ∧ len ≤ cap ∧ cap ≤ maxLen := by
  rcases h with ⟨rfl, rfl, rfl, rfl⟩ | ⟨x, rfl, hl, hm, hz, hc, hw⟩
  · exact ⟨⟨rfl, Nat.zero_le _, fun h => absurd h (by omega)⟩, by simp, Nat.le_refl _, Nat.zero_le _⟩
  · refine ⟨⟨by rw [List.length_take]; omega, Nat.le_trans hl hm, fun hn => ?_⟩, fun n hn => hw n (List.mem_of_mem_take hn), hl, hm⟩
    have h0 := hc 0 (by omega)
    have hsp : x.spot = none := by
      cases hs : x.spot with
      | none => rfl
      | some s =>
        exfalso
        have : (x.add 0).spot.isSome = true := by unfold Addr.add; split <;> simp_all
        revert h0
        unfold World.cell?
        split
        · rw [if_pos this]; simp
        · simp
    have hadd : ∀ j, x.add j = ⟨x.block, x.off + j, none⟩ := fun j => by
      obtain ⟨b, o, s⟩ := x
      simp only at hsp
      subst hsp
      unfold Addr.add; split <;> simp_all
    refine ⟨x.block, x.off, by obtain ⟨b, o, s⟩ := x; simp only at hsp; subst hsp; rfl, ?_, fun i hi => ?_⟩
    · rw [hadd] at h0; exact World.block_lt_of_cell? w ⟨x.block, x.off + 0, none⟩ h0
    · have h1 := hc i (by omega)
      rw [hadd] at h1
      rw [h1]
      simp [List.getD_eq_getElem?_getD, hi]
/-- What the call itself made. -/
theorem own_slice {w : World} {base n : Nat} {e : TypeId} {size : Nat} {v : Value} {xs : List Value} (h : w.ownsRow base e size v n xs) : ∃ A c, v = .slice A n c := by
  rcases h.2 with ⟨hv, rfl⟩ | ⟨g, cap, cur, hv, _⟩
  · exact ⟨_, _, hv⟩
  · exact ⟨_, _, hv⟩
theorem own_ints {w : World} {base n : Nat} {e : TypeId} {v : Value} {xs : List Int} (h : w.ownsRow base e 1 v n (xs.map (Value.int .i64))) : ∃ A c, v = .slice A n c ∧ Ints w A n xs := by
  have hl : xs.length = n := by have := h.1; simpa using this
  rcases h.2 with ⟨hv, hn⟩ | ⟨g, cap, cur, hv, hb, hg, hnc, hcm, hcs, ht⟩
  · exact ⟨_, _, by rw [hn]; exact hv, hl, by rw [hn]; exact Nat.zero_le _, fun h => absurd h (by omega)⟩
  · refine ⟨_, _, hv, hl, Nat.le_trans hnc hcm, fun hn => ⟨g, 0, rfl, (Array.getElem?_eq_some_iff.1 hg).1, fun i hi => ?_⟩⟩
    have h2 := h
    rw [hv] at h2
    have := h2.cellAt i (by omega)
    rw [Nat.zero_add, this]
    have hlt : i < xs.length := by omega
    simp [List.getD_eq_getElem?_getD, hlt]
theorem own_below {w w1 : World} {base : Nat} {e : TypeId} {size n : Nat} {v : Value} {xs : List Value} (h : w.ownsRow base e size v n xs) (hb : Below w.heap.size w w1) : w1.ownsRow base e size v n xs :=
  h.kept (row := none) ⟨hb.os, hb.tape, hb.output, hb.size, fun i hi _ => hb.block i hi⟩ (by cases hv : v.ownBlock <;> simp)
theorem own_weaken {w : World} {base base' : Nat} {e : TypeId} {size n : Nat} {v : Value} {xs : List Value} (h : w.ownsRow base e size v n xs) (hb : base' ≤ base) : w.ownsRow base' e size v n xs := by
  refine ⟨h.1, h.2.imp id ?_⟩
  rintro ⟨g, cap, cur, hv, hg, r⟩
  exact ⟨g, cap, cur, hv, Nat.le_trans hb hg, r⟩
theorem IsRow.nil {k : IntKind} {w : World} {a : Option Addr} {len cap : Nat} {zs : List Int} (h : IsRow k w a len cap zs) : a = none → len = 0 ∧ cap = 0 := by
  rcases h with ⟨_, rfl, rfl, _⟩ | ⟨x, rfl, _⟩
  · exact fun _ => ⟨rfl, rfl⟩
  · intro h; cases h
theorem wpList_want {P : Program} {ops : Array Oper} {rest : List Oper} {o : Oper} {a : Act} {w : World} {Q : Exit → Act → World → Prop} (hw : Region.wanted o (yielded ops a.tmps) = true)
    (h : ∀ K : Act → World → Prop, (∀ a w, wpList P ops Q rest a w → K a w) → o.wp P a w K Q) : wpList P ops Q (o :: rest) a w :=
  wpList_step fun K hK => by rw [if_pos hw]; exact h K hK
/-- 'append(out, src...)': out the call's own, src read as ys, nil or not; guarded or not. -/
theorem wpList_append_src {P : Program} {w : World} {ops : Array Oper} {rest : List Oper} {o : Oper} {a : Act} {Q : Exit → Act → World → Prop} (hw : Region.wanted o (yielded ops a.tmps) = true) (s x : Operand) (t : TypeId)
    (ho : o.op = .call { callee := .builtin .append, args := #[s, x], argTypes := #[t, t] })
    (base : Nat) (e : TypeId) (i : TypeInfo) (ht : P.underlying t = some (.slice e)) (hi : P.info? e = some i) (hz : i.zero = some (.int .i64 0)) (hsize : i.size = 1) (hby : i.bytes = 8)
    (v : Value) (n : Nat) (xs : List Int) (hs : a.eval s = v) (hown : w.ownsRow base e 1 v n (xs.map (Value.int .i64)))
    (A : Option Addr) (m c : Nat) (ys : List Int) (hx : a.eval x = .slice A m c) (hys : Ints w A m ys) (hnil : A = none → m = 0 ∧ c = 0)
    (h63 : n + m ≤ maxLen) (hbytes : (n + m) * 8 ≤ 140737488355328) (hbase : base ≤ w.heap.size)
    (h : ∀ v' w', w'.ownsRow base e 1 v' (n + m) ((xs ++ ys).map (Value.int .i64)) → w.grownBy w' v.ownBlock → wpList P ops Q rest (a.put o.dst v') w') : wpList P ops Q (o :: rest) a w := by
  refine wpList_want hw fun K hK => ?_
  cases A with
  | none =>
    obtain ⟨rfl, rfl⟩ := hnil rfl
    have hrun := run_append_owned_none (P := P) (w := w) base t o.type e i 1 ht hi v n _ hown
    have hy : ys = [] := List.eq_nil_of_length_eq_zero hys.len
    unfold Oper.wp
    simp [execOp, ho, resolve, invoke, builtin, hs, hx, hrun, Result.andThen]
    exact hK _ _ (h v w (by rw [hy, List.append_nil]; exact hown) (World.grownBy.refl w _))
  | some ad =>
    refine wp_append_own w s x t ho base e i (.int .i64 0) 1 8 ht hi hz hsize hby rfl (by decide) v n _ hs hown ad m c (ys.map (Value.int .i64)) hx (by rw [List.length_map, hys.len]; omega) ?_ (by simp [Value.oneCell']) h63 hbytes hbase ?_
    · intro j u hu
      have hj : j < ys.length := by
        have := (List.getElem?_eq_some_iff.1 hu).1
        simpa using this
      obtain ⟨b, off, he, hc⟩ := hys.get (i := j) (by rw [← hys.len]; exact hj)
      injection he with he
      subst he
      have hadd : (⟨b, off, none⟩ : Addr).add j = ⟨b, off + j, none⟩ := by unfold Addr.add; split <;> simp_all
      rw [hadd, hc]
      rw [List.getElem?_map, List.getElem?_eq_getElem hj] at hu
      simp only [Option.map_some, Option.some.injEq] at hu
      rw [← hu, List.getD_eq_getElem?_getD, List.getElem?_eq_getElem hj]; rfl
    · intro v' w' h1 h2 _
      rw [← List.map_append] at h1
      exact hK _ _ (h v' w' h1 h2)
end Go.Proofs.Ytbdefhekkafihaa
