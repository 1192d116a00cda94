/- A row of structs, its cells laid out flat. No condition. -/
import Derived.Test.YtbdefhekkafihaaMem
import Derived.Test.YtbdefhekkafihaaSl
import Derived.Deep.RegionHeld3
import Derived.Deep.AppendLies
set_option linter.unusedVariables false
set_option linter.unusedSimpArgs false
namespace Go.Proofs.Ytbdefhekkafihaa
open Go.RowKit
theorem bl_keep {w w1 w2 : World} {S : Nat → Prop} (h : Below w.heap.size w w1) (k : Keep S w1 w2) (hS : ∀ i, S i → w.heap.size ≤ i) : Below w.heap.size w w2 := h.trans (k.below h.size hS)
section
variable {α : Type} {enc : α → List Value} {s : Nat}
def flatV (enc : α → List Value) (L : List α) : List Value := L.flatMap enc
theorem flatV_snoc (L : List α) (x : α) : flatV enc (L ++ [x]) = flatV enc L ++ enc x := by unfold flatV; simp
theorem flatV_cons (L : List α) (x : α) : flatV enc (x :: L) = enc x ++ flatV enc L := rfl
theorem flatV_append (L M : List α) : flatV enc (L ++ M) = flatV enc L ++ flatV enc M := by unfold flatV; simp
theorem flatV_len (h : ∀ a, (enc a).length = s) (L : List α) : (flatV enc L).length = L.length * s := by
  induction L with
  | nil => simp [flatV]
  | cons x L ih => rw [flatV_cons, List.length_append, h, ih, List.length_cons, Nat.add_mul]; omega
theorem flatV_get (h : ∀ a, (enc a).length = s) (L : List α) (i : Nat) (x : α) (hi : L[i]? = some x) (j : Nat) (hj : j < s) : (flatV enc L)[i * s + j]? = (enc x)[j]? := by
  induction L generalizing i with
  | nil => simp at hi
  | cons y L ih =>
    rw [flatV_cons]
    cases i with
    | zero =>
      simp at hi; subst hi
      rw [Nat.zero_mul, Nat.zero_add, List.getElem?_append_left (by rw [h]; exact hj)]
    | succ i =>
      simp at hi
      rw [List.getElem?_append_right (by rw [h, Nat.add_mul]; omega), h, ← ih i hi]
      congr 1
      rw [Nat.add_mul]; omega
def setFrom (l : List Value) (k : Nat) : List Value → List Value
  | [] => l
  | v :: vs => setFrom (l.set k v) (k + 1) vs
theorem setFrom_mid (vs : List Value) (p old rest : List Value) (h : old.length = vs.length) : setFrom (p ++ (old ++ rest)) p.length vs = p ++ (vs ++ rest) := by
  induction vs generalizing p old with
  | nil =>
    have : old = [] := List.eq_nil_of_length_eq_zero h
    subst this; rfl
  | cons v vs ih =>
    cases old with
    | nil => simp at h
    | cons o old =>
      have e : (p ++ ((o :: old) ++ rest)).set p.length v = (p ++ [v]) ++ (old ++ rest) := by
        rw [List.set_append_right _ _ (Nat.le_refl _)]; simp
      unfold setFrom
      rw [e]
      have hl : p.length + 1 = (p ++ [v]).length := by simp
      rw [hl, ih (p ++ [v]) old (by simpa using h)]
      simp
theorem flatV_set (h : ∀ a, (enc a).length = s) (L : List α) (i : Nat) (x : α) (hi : i < L.length) : setFrom (flatV enc L) (i * s) (enc x) = flatV enc (L.set i x) := by
  have e : L = L.take i ++ (L[i] :: L.drop (i + 1)) := by simp
  have hl : (flatV enc (L.take i)).length = i * s := by rw [flatV_len h, List.length_take]; congr 1; omega
  conv => lhs; rw [e, flatV_append, flatV_cons, ← hl]
  rw [setFrom_mid _ _ _ _ (by rw [h, h])]
  rw [List.set_eq_take_append_cons_drop, if_pos hi, flatV_append, flatV_cons]
/-- A pointer to a slice of structs: at block g the slice, its row at block h. -/
def Tab (enc : α → List Value) (w : World) (tg te : TypeId) (s : Nat) (g h cap : Nat) (L : List α) : Prop :=
  Bk w g tg #[.slice (some ⟨h, 0, none⟩) L.length cap] ∧ w.ownsRow 0 te s (.slice (some ⟨h, 0, none⟩) L.length cap) L.length (flatV enc L) ∧ g ≠ h
theorem own_keep {w w1 : World} {S : Nat → Prop} {base : Nat} {e : TypeId} {size n cap h : Nat} {xs : List Value} (ho : w.ownsRow base e size (.slice (some ⟨h, 0, none⟩) n cap) n xs) (k : Keep S w w1) (hh : ¬ S h) : w1.ownsRow base e size (.slice (some ⟨h, 0, none⟩) n cap) n xs := by
  refine ⟨ho.1, ?_⟩
  rcases ho.2 with hn | ⟨g, cap', cur, hv, hb, hg, r⟩
  · exact .inl hn
  · simp only [Value.slice.injEq, Option.some.injEq, Addr.mk.injEq, and_true, true_and] at hv
    obtain ⟨rfl, rfl⟩ := hv
    exact .inr ⟨h, cap, cur, rfl, hb, (k.block h (Array.getElem?_eq_some_iff.1 hg).1 hh).trans hg, r⟩
theorem Tab.keep {w w1 : World} {S : Nat → Prop} {tg te : TypeId} {g h cap : Nat} {L : List α} (ht : Tab enc w tg te s g h cap L) (k : Keep S w w1) (hg : ¬ S g) (hh : ¬ S h) : Tab enc w1 tg te s g h cap L :=
  ⟨k.bk ht.1 hg, own_keep ht.2.1 k hh, ht.2.2⟩
theorem Tab.lt {w : World} {tg te : TypeId} {g h cap : Nat} {L : List α} (ht : Tab enc w tg te s g h cap L) : g < w.heap.size ∧ h < w.heap.size := ⟨ht.1.lt, (ht.2.1.lt h rfl).2⟩
theorem Tab.get {w : World} {tg te : TypeId} {g h cap : Nat} {L : List α} (ht : Tab enc w tg te s g h cap L) (he : ∀ a, (enc a).length = s) (i : Nat) (x : α) (hi : L[i]? = some x) (j : Nat) (hj : j < s) : w.cell? ⟨h, i * s + j, none⟩ = (enc x)[j]? := by
  have hlt : i < L.length := (List.getElem?_eq_some_iff.1 hi).1
  rw [ht.2.1.cellAt (i * s + j) (by have : (i + 1) * s ≤ L.length * s := Nat.mul_le_mul_right s hlt; rw [Nat.add_mul] at this; omega)]
  exact flatV_get he L i x hi j hj
theorem grown_keep {w w' : World} {row : Option Nat} (h : w.grownBy w' row) (S : Nat → Prop) (hS : ∀ k, row = some k → S k) : Keep S w w' :=
  ⟨h.os, h.tape, h.output, h.size, fun k hk hs => h.block k hk (fun e => hs (hS k e.symm))⟩
theorem cell_new_a {w : World} {a : Addr} {v : Value} (o : Obj) (h : w.cell? a = some v) : (w.alloc o).cell? a = some v := (World.cell?_of_block (Below.heap_alloc w o a.block (World.block_lt_of_cell? w a h))).trans h
theorem frozen_new_a {w : World} {a : Addr} {v : Value} (o : Obj) (h : w.cell? a = some v) (hf : w.frozen? a = false) : (w.alloc o).frozen? a = false := (World.frozen?_of_block (Below.heap_alloc w o a.block (World.block_lt_of_cell? w a h))).trans hf
theorem own_keepS {w w1 : World} {S : Nat → Prop} {base : Nat} {e : TypeId} {size n : Nat} {v : Value} {xs : List Value} (ho : w.ownsRow base e size v n xs) (k : Keep S w w1) (hS : ∀ i, S i → i < base) : w1.ownsRow base e size v n xs := by
  refine ⟨ho.1, ?_⟩
  rcases ho.2 with hn | ⟨g, cap', cur, hv, hb, hg, r⟩
  · exact .inl hn
  · exact .inr ⟨g, cap', cur, hv, hb, (k.block g (Array.getElem?_eq_some_iff.1 hg).1 (fun hs => by have := hS g hs; omega)).trans hg, r⟩
theorem own_intsA {w : World} {base n : Nat} {e : TypeId} {A : Option Addr} {c : Nat} {xs : List Int} (h : w.ownsRow base e 1 (.slice A n c) n (xs.map (Value.int .i64))) : Ints w A n xs := by
  obtain ⟨A', c', he, hi⟩ := own_ints h
  injection he with h1 _ _
  subst h1
  exact hi
theorem made_flat (z : Array Value) (x : α) (hx : enc x = z.toList) (hz : z.size = s) (hs : 0 < s) (h : ∀ a, (enc a).length = s) (M : Nat) : (madeCells z (M * s)).toList = flatV enc (List.replicate M x) := by
  apply List.ext_getElem?
  intro j
  by_cases hj : j < M * s
  · have hd : j / s < M := Nat.div_lt_of_lt_mul (by rw [Nat.mul_comm]; exact hj)
    have hm : j % s < s := Nat.mod_lt _ hs
    have e : (flatV enc (List.replicate M x))[j]? = (enc x)[j % s]? := by
      have := flatV_get h (List.replicate M x) (j / s) x (by simp [hd]) (j % s) hm
      rw [← this]
      congr 1
      rw [Nat.mul_comm, Nat.div_add_mod]
    rw [e, hx]
    have h2 : j % z.size < z.size := by rw [hz]; exact hm
    simp [madeCells, hj, hz]
    have hk : j % s < z.size := by rw [hz]; exact hm
    rw [Array.getElem?_eq_getElem hk, getElem!_pos z _ hk]
  · rw [List.getElem?_eq_none (by simp [size_madeCells]; omega), List.getElem?_eq_none (by rw [flatV_len h]; simp; omega)]
end
end Go.Proofs.Ytbdefhekkafihaa
