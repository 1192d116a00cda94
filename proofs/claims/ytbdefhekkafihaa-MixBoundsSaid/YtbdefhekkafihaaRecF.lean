/- The plain side of slices' IndexFunc, DeleteFunc; rows that a call owns, stored into. No condition. -/
import Derived.Test.YtbdefhekkafihaaRec
import Derived.Shelf.Abstract
set_option linter.unusedVariables false
set_option linter.unusedSimpArgs false
namespace Go.Proofs.Ytbdefhekkafihaa
open Go.RowKit
/-- The first place at which p holds; -1: nowhere. -/
def idxB {α : Type} (p : α → Bool) : List α → Int
  | [] => -1
  | x :: l => if p x then 0 else if idxB p l < 0 then -1 else idxB p l + 1
theorem idxB_ge {α : Type} (p : α → Bool) (l : List α) : -1 ≤ idxB p l := by
  induction l with
  | nil => exact Int.le_refl _
  | cons x l ih => unfold idxB; split; omega; split <;> omega
theorem idxB_miss {α : Type} (p : α → Bool) (l : List α) (h : ∀ x ∈ l, p x = false) : idxB p l = -1 := by
  induction l with
  | nil => rfl
  | cons x l ih =>
    have := ih (fun y hy => h y (by simp [hy]))
    unfold idxB
    rw [h x (by simp), this]; simp
theorem idxB_hit {α : Type} (p : α → Bool) (l : List α) (k : Nat) (x : α) (hx : l[k]? = some x) (hp : p x = true) (h : ∀ y ∈ l.take k, p y = false) : idxB p l = k := by
  induction l generalizing k with
  | nil => simp at hx
  | cons y l ih =>
    cases k with
    | zero => simp at hx; subst hx; unfold idxB; rw [hp]; simp
    | succ k =>
      have := ih k (by simpa using hx) (fun z hz => h z (by simp [hz]))
      unfold idxB
      rw [h y (by simp), this]
      simp
      omega
theorem idxB_spec {α : Type} (p : α → Bool) (l : List α) : (idxB p l = -1 ∧ ∀ x ∈ l, p x = false) ∨ ∃ k x, idxB p l = ((k : Nat) : Int) ∧ l[k]? = some x ∧ p x = true ∧ ∀ y ∈ l.take k, p y = false := by
  induction l with
  | nil => exact .inl ⟨rfl, by simp⟩
  | cons y l ih =>
    cases hy : p y with
    | true => exact .inr ⟨0, y, by unfold idxB; rw [hy]; simp, rfl, hy, by simp⟩
    | false =>
      rcases ih with ⟨h1, h2⟩ | ⟨k, x, h1, h2, h3, h4⟩
      · refine .inl ⟨by unfold idxB; rw [hy, h1]; simp, fun x hx => ?_⟩
        rcases List.mem_cons.1 hx with rfl | hx
        · exact hy
        · exact h2 x hx
      · refine .inr ⟨k + 1, x, ?_, by simpa using h2, h3, fun z hz => ?_⟩
        · unfold idxB; rw [hy, h1]
          have : ¬ ((k : Nat) : Int) < 0 := by omega
          simp [this]
        · rcases List.mem_cons.1 (by simpa using hz) with rfl | hz
          · exact hy
          · exact h4 z hz
theorem idxB_find {α : Type} (p : α → Bool) (l : List α) : (match l.find? p with | some x => ∃ k : Nat, idxB p l = k ∧ l[k]? = some x | none => idxB p l = -1) := by
  rcases idxB_spec p l with ⟨h1, h2⟩ | ⟨k, x, h1, h2, h3, h4⟩
  · have : l.find? p = none := by rw [List.find?_eq_none]; intro x hx; rw [h2 x hx]; simp
    rw [this]; exact h1
  · have : l.find? p = some x := by
      rw [List.find?_eq_some_iff_getElem]
      have hk := (List.getElem?_eq_some_iff.1 h2)
      refine ⟨h3, k, hk.1, hk.2, fun j hj => ?_⟩
      have hk1 := hk.1
      rw [h4 _ (List.mem_take_iff_getElem.2 ⟨j, by omega, rfl⟩)]; rfl
    rw [this]; exact ⟨k, h1, h2⟩
/-- What is asked of a predicate that is handed to a function of slices: it lays blocks of its own at most, in whatever world has come of w by turns of the blocks in S. -/
def PredS {α : Type} (P : Program) (g : Nat) (lb : Array Value) (enc : α → List Value) (p : α → Bool) (S : Nat → Prop) (w : World) : Prop :=
  ∀ (W : World) (x : α), Keep S w W → Calls P g (#[.agg (enc x).toArray] ++ lb) W fun e w' => e = .returned (.bool (p x)) ∧ Below W.heap.size W w'
/-- DeleteFunc under way: i elements are kept, j are looked at. -/
structure DelInv {α : Type} (q : α → Bool) (L D : List α) (i j : Nat) : Prop where
  len : D.length = L.length
  lt : i < j
  le : j ≤ L.length
  kept : D.take i = (L.take j).filter q
  rest : D.drop j = L.drop j
theorem take_snocG {α : Type} (L : List α) (k : Nat) (x : α) (h : L[k]? = some x) : L.take (k + 1) = L.take k ++ [x] := by
  obtain ⟨h1, h2⟩ := List.getElem?_eq_some_iff.1 h
  rw [List.take_succ_eq_append_getElem h1, h2]
theorem DelInv.start {α : Type} {q : α → Bool} {L : List α} {k : Nat} {x : α} (hx : L[k]? = some x) (hq : q x = false) (h : ∀ y ∈ L.take k, q y = true) : DelInv q L L k (k + 1) := by
  have hk := (List.getElem?_eq_some_iff.1 hx).1
  refine ⟨rfl, by omega, by omega, ?_, rfl⟩
  rw [take_snocG L k x hx, List.filter_append, List.filter_eq_self.2 h]
  simp [hq]
theorem DelInv.at {α : Type} {q : α → Bool} {L D : List α} {i j : Nat} (h : DelInv q L D i j) : D[j]? = L[j]? := by
  have := congrArg (fun l => l[0]?) h.rest
  simpa using this
theorem DelInv.skip {α : Type} {q : α → Bool} {L D : List α} {i j : Nat} {x : α} (h : DelInv q L D i j) (hx : L[j]? = some x) (hq : q x = false) : DelInv q L D i (j + 1) := by
  have hk := (List.getElem?_eq_some_iff.1 hx).1
  refine ⟨h.len, by have := h.lt; omega, by omega, ?_, ?_⟩
  · rw [take_snocG L j x hx, List.filter_append, h.kept]; simp [hq]
  · rw [← List.drop_drop, ← List.drop_drop, h.rest]
theorem DelInv.keep {α : Type} {q : α → Bool} {L D : List α} {i j : Nat} {x : α} (h : DelInv q L D i j) (hx : L[j]? = some x) (hq : q x = true) : DelInv q L (D.set i x) (i + 1) (j + 1) := by
  have hk := (List.getElem?_eq_some_iff.1 hx).1
  have h1 := h.lt
  have h2 := h.len
  refine ⟨by simpa using h.len, by omega, by omega, ?_, ?_⟩
  · have hi : (D.set i x)[i]? = some x := by rw [List.getElem?_set_self (by omega)]
    rw [take_snocG _ i x hi, List.take_set_of_le (Nat.le_refl _), h.kept, take_snocG L j x hx, List.filter_append]
    simp [hq]
  · rw [List.drop_set_of_lt (by omega), ← List.drop_drop, ← List.drop_drop, h.rest]
theorem DelInv.done {α : Type} {q : α → Bool} {L D : List α} {i j : Nat} (h : DelInv q L D i j) (hj : j = L.length) : D.take i = L.filter q := by
  have := h.kept
  rw [hj, List.take_length] at this
  exact this
section
variable {α : Type} {enc : α → List Value} {s : Nat}
/-- What a function hands back that makes a slice of its own. -/
def OwnRet (enc : α → List Value) (E s : Nat) (w : World) (L : List α) (e : Ending) (w' : World) : Prop :=
  ∃ v, e = .returned v ∧ w'.ownsRow w.heap.size E s v L.length (flatV enc L) ∧ Below w.heap.size w w'
/-- A row of the call's own, known whole: block h, its cells, of which the first ones read as D. -/
def RowAt (enc : α → List Value) (E s : Nat) (w : World) (h cap : Nat) (D : List α) : Prop :=
  ∃ cur : Array Value, w.heap[h]? = some (.cells cur E (0, 0)) ∧ D.length ≤ cap ∧ cap ≤ maxLen ∧ cur.size = cap * s ∧ cur.toList.take (D.length * s) = flatV enc D
theorem RowAt.own {w : World} {E h cap base : Nat} {D : List α} (he : ∀ a, (enc a).length = s) (r : RowAt enc E s w h cap D) (hb : base ≤ h) : w.ownsRow base E s (.slice (some ⟨h, 0, none⟩) D.length cap) D.length (flatV enc D) := by
  obtain ⟨cur, h1, h2, h3, h4, h5⟩ := r
  exact ⟨flatV_len he D, .inr ⟨h, cap, cur, rfl, hb, h1, h2, h3, h4, h5⟩⟩
theorem RowAt.of {w : World} {E h cap base n : Nat} {D : List α} (o : w.ownsRow base E s (.slice (some ⟨h, 0, none⟩) n cap) n (flatV enc D)) (hn : n = D.length) : RowAt enc E s w h cap D ∧ base ≤ h := by
  subst hn
  rcases o.2 with ⟨hv, _⟩ | ⟨g, cap', cur, hv, hb, h1, h2, h3, h4, h5⟩
  · cases hv
  · simp only [Value.slice.injEq, Option.some.injEq, Addr.mk.injEq, and_true, true_and] at hv
    obtain ⟨rfl, rfl⟩ := hv
    exact ⟨⟨cur, h1, h2, h3, h4, h5⟩, hb⟩
theorem RowAt.lt {w : World} {E h cap : Nat} {D : List α} (r : RowAt enc E s w h cap D) : h < w.heap.size := by
  obtain ⟨cur, h1, _⟩ := r
  exact (Array.getElem?_eq_some_iff.1 h1).1
theorem RowAt.keep {S : Nat → Prop} {w w1 : World} {E h cap : Nat} {D : List α} (r : RowAt enc E s w h cap D) (k : Keep S w w1) (hh : ¬ S h) : RowAt enc E s w1 h cap D := by
  have hlt := r.lt
  obtain ⟨cur, h1, h2⟩ := r
  exact ⟨cur, (k.block h hlt hh).trans h1, h2⟩
theorem RowAt.cell {w : World} {E h cap : Nat} {D : List α} (he : ∀ a, (enc a).length = s) (r : RowAt enc E s w h cap D) {i : Nat} {x : α} (hx : D[i]? = some x) (j : Nat) (hj : j < s) : w.cell? ⟨h, i * s + j, none⟩ = (enc x)[j]? := by
  have hlt : i < D.length := (List.getElem?_eq_some_iff.1 hx).1
  have o := r.own (base := 0) he (Nat.zero_le _)
  rw [o.cellAt (i * s + j) (by have : (i + 1) * s ≤ D.length * s := Nat.mul_le_mul_right s hlt; rw [Nat.add_mul] at this; omega)]
  exact flatV_get he D i x hx j hj
theorem RowAt.frozen {w : World} {E h cap : Nat} {D : List α} (r : RowAt enc E s w h cap D) (j : Nat) : w.frozen? ⟨h, j, none⟩ = false := by
  obtain ⟨cur, h1, _⟩ := r
  exact frozen_of_row w h j cur E h1
/-- n stores, one behind the other, from k on. -/
def setsFrom (w : World) (h k : Nat) : List Value → World
  | [] => w
  | v :: vs => setsFrom (w.setCell ⟨h, k, none⟩ v) h (k + 1) vs
theorem setsFrom_heap (h E : Nat) (vs : List Value) (k : Nat) (w : World) (cur : Array Value) (h1 : w.heap[h]? = some (.cells cur E (0, 0))) (hk : k + vs.length ≤ cur.size) :
    ∃ cur', (setsFrom w h k vs).heap[h]? = some (.cells cur' E (0, 0)) ∧ cur'.size = cur.size ∧ cur'.toList = setFrom cur.toList k vs := by
  induction vs generalizing k w cur with
  | nil => exact ⟨cur, h1, rfl, rfl⟩
  | cons v vs ih =>
    simp only [List.length_cons] at hk
    obtain ⟨c', a, b, c⟩ := ih (k + 1) (w.setCell ⟨h, k, none⟩ v) (cur.setIfInBounds k v) (heap_setCell_same w h k cur E v h1) (by simp; omega)
    exact ⟨c', a, by simpa using b, by rw [c]; simp [setFrom]⟩
theorem setFrom_take (vs : List Value) (l : List Value) (k m : Nat) (h : k + vs.length ≤ m) : (setFrom l k vs).take m = setFrom (l.take m) k vs := by
  induction vs generalizing l k with
  | nil => rfl
  | cons v vs ih =>
    simp only [List.length_cons] at h
    unfold setFrom
    rw [ih _ _ (by omega), List.take_set]
/-- A record stored at place i. -/
theorem RowAt.stored {w : World} {E h cap : Nat} {D : List α} (he : ∀ a, (enc a).length = s) (r : RowAt enc E s w h cap D) {i : Nat} (hi : i < D.length) (x : α) : RowAt enc E s (setsFrom w h (i * s) (enc x)) h cap (D.set i x) := by
  obtain ⟨cur, h1, h2, h3, h4, h5⟩ := r
  have hm : (i + 1) * s ≤ D.length * s := Nat.mul_le_mul_right s hi
  have hm2 : D.length * s ≤ cap * s := Nat.mul_le_mul_right s h2
  rw [Nat.add_mul] at hm
  obtain ⟨c', a, b, c⟩ := setsFrom_heap h E (enc x) (i * s) w cur h1 (by rw [he]; omega)
  refine ⟨c', a, by simpa using h2, h3, by rw [b, h4], ?_⟩
  rw [List.length_set, c, setFrom_take _ _ _ _ (by rw [he]; omega), h5, flatV_set he _ _ _ hi]
/-- The first m of a row, whatever is stored behind them. -/
theorem RowAt.cut {w : World} {E h cap : Nat} {D : List α} (he : ∀ a, (enc a).length = s) (r : RowAt enc E s w h cap D) (m : Nat) (hm : m ≤ D.length) (k : Nat) (hk : m * s ≤ k) (vs : List Value) (hv : k + vs.length ≤ cap * s) : RowAt enc E s (w.setCells h k vs) h cap (D.take m) := by
  have e : ∀ (vs : List Value) (k : Nat) (w : World), w.setCells h k vs = setsFrom w h k vs := by
    intro vs
    induction vs with
    | nil => intro k w; rfl
    | cons v vs ih => intro k w; exact ih _ _
  obtain ⟨cur, h1, h2, h3, h4, h5⟩ := r
  rw [e]
  obtain ⟨c', a, b, c⟩ := setsFrom_heap h E vs k w cur h1 (by rw [h4]; exact hv)
  refine ⟨c', a, by rw [List.length_take]; omega, h3, by rw [b, h4], ?_⟩
  have hl : (D.take m).length = m := by rw [List.length_take]; omega
  have hmm : m * s ≤ D.length * s := Nat.mul_le_mul_right s hm
  rw [hl, c]
  have e2 : ∀ (vs : List Value) (l : List Value) (k : Nat), m * s ≤ k → (setFrom l k vs).take (m * s) = l.take (m * s) := by
    intro vs
    induction vs with
    | nil => intro l k _; rfl
    | cons v vs ih => intro l k hk; unfold setFrom; rw [ih _ _ (by omega), List.take_set_of_le hk]
  rw [e2 _ _ _ hk]
  have e3 : cur.toList.take (m * s) = (cur.toList.take (D.length * s)).take (m * s) := by rw [List.take_take, Nat.min_eq_left hmm]
  rw [e3, h5]
  conv => lhs; rw [← List.take_append_drop m D, flatV_append]
  rw [List.take_append_of_le_length (by rw [flatV_len he, hl]; exact Nat.le_refl _), List.take_of_length_le (by rw [flatV_len he, hl]; exact Nat.le_refl _)]
theorem Keep.setCells {S : Nat → Prop} (h : Nat) (hS : S h) (vs : List Value) (k : Nat) (w : World) : Keep S w (w.setCells h k vs) := by
  induction vs generalizing k w with
  | nil => exact Keep.refl _ _
  | cons v vs ih => exact Keep.trans (Keep.set w h k v S hS) (ih _ _)
theorem Keep.cellS {S : Nat → Prop} {w w1 : World} (k : Keep S w w1) {p : Addr} {v : Value} (h : w.cell? p = some v) (hS : ¬ S p.block) : w1.cell? p = some v := (World.cell?_of_block (k.block p.block (World.block_lt_of_cell? w p h) hS)).trans h
theorem below_drewN (w : World) (n : Nat) : Below w.heap.size w (w.drewN n) := (Keep.drewN w n (fun _ => False)).below (Nat.le_refl _) (fun _ h => h.elim)
theorem below_drew (w : World) : Below w.heap.size w w.drew := (Keep.drew w (fun _ => False)).below (Nat.le_refl _) (fun _ h => h.elim)
theorem flatV_set1 (he : ∀ a, (enc a).length = s) (D : List α) (i : Nat) (x x' : α) (hx : D[i]? = some x) (j : Nat) (hj : j < s) (v : Value) (hv : enc x' = (enc x).set j v) : (flatV enc D).set (i * s + j) v = flatV enc (D.set i x') := by
  obtain ⟨hi, hxe⟩ := List.getElem?_eq_some_iff.1 hx
  have e : D = D.take i ++ (x :: D.drop (i + 1)) := by rw [← hxe]; simp
  have hl : (flatV enc (D.take i)).length = i * s := by rw [flatV_len he, List.length_take]; congr 1; omega
  conv => lhs; rw [e, flatV_append, flatV_cons, ← hl]
  rw [List.set_append_right _ _ (by omega), Nat.add_sub_cancel_left, List.set_append_left _ _ (by rw [he]; exact hj), ← hv, List.set_eq_take_append_cons_drop, if_pos hi, flatV_append, flatV_cons]
/-- One field of a record stored. -/
theorem RowAt.put1 {w : World} {E h cap : Nat} {D : List α} (he : ∀ a, (enc a).length = s) (r : RowAt enc E s w h cap D) {i : Nat} {x : α} (hx : D[i]? = some x) (x' : α) (j : Nat) (hj : j < s) (v : Value) (hv : enc x' = (enc x).set j v) : RowAt enc E s (w.setCell ⟨h, i * s + j, none⟩ v) h cap (D.set i x') := by
  obtain ⟨cur, h1, h2, h3, h4, h5⟩ := r
  have hi := (List.getElem?_eq_some_iff.1 hx).1
  refine ⟨cur.setIfInBounds (i * s + j) v, heap_setCell_same w h _ cur E v h1, by simpa using h2, h3, by simpa using h4, ?_⟩
  rw [List.length_set, Array.toList_setIfInBounds, List.take_set, h5]
  exact flatV_set1 he D i x x' hx j hj v hv
/-- 'append(s, X{..})': one record, laid in a block of its own. -/
theorem wpList_append_one (he : ∀ a, (enc a).length = s) (hs0 : 0 < s) (h1 : ∀ x, ∀ u ∈ enc x, u.oneCell' = true) {P : Program} {w0 wi : World} {ops : Array Oper} {rest : List Oper} {o : Oper} {a : Act} {Q : Exit → Act → World → Prop} (hgd : o.guard = none) (sl x : Operand) (t : TypeId)
    (ho : o.op = .call { callee := .builtin .append, args := #[sl, x], argTypes := #[t, t] })
    (base : Nat) (e : TypeId) (i : TypeInfo) (z : Value) (bytes : Nat) (ht : P.underlying t = some (.slice e)) (hi : P.info? e = some i) (hz : i.zero = some z) (hsize : i.size = s) (hby : i.bytes = bytes) (hzs : z.cells.size = s)
    (v : Value) (n : Nat) (L : List α) (hs : a.eval sl = v) (hown : w0.ownsRow base e s v n (flatV enc L))
    (y : α) (cs : Array Value) (hcs : cs.toList = enc y) (t' : TypeId) (g : Nat) (hx : a.eval x = .slice (some ⟨g, 0, none⟩) 1 1) (hg : g = w0.heap.size)
    (h63 : n + 1 ≤ maxLen) (hbytes : (n + 1) * bytes ≤ 140737488355328) (HB : Below base wi w0) (hbase : base ≤ w0.heap.size)
    (h : ∀ v' w', w'.ownsRow base e s v' (n + 1) (flatV enc (L ++ [y])) → Below base wi w' → Keep (fun k => v.ownBlock = some k) w0 w' → wpList P ops Q rest (a.put o.dst v') w') : wpList P ops Q (o :: rest) a (w0.alloc (.cells cs t')) := by
  subst hg
  refine wpList_append_own _ hgd sl x t ho base e i z s bytes ht hi hz hsize hby hzs hs0 v n _ hs (hown.alloc _) ⟨w0.heap.size, 0, none⟩ 1 1 (enc y) hx (by rw [he]; omega) ?_ (h1 y) h63 hbytes (by simp; omega) ?_
  · intro j u hu
    have hadd : (⟨w0.heap.size, 0, none⟩ : Addr).add j = ⟨w0.heap.size, j, none⟩ := by unfold Addr.add; split <;> simp_all
    rw [hadd, (Bk.new w0 t' cs).cell j]
    rw [← hcs] at hu
    simpa using hu
  · intro v' w' h2 h3 _
    rw [show flatV enc L ++ enc y = flatV enc (L ++ [y]) from (flatV_snoc L y).symm] at h2
    have hB1 : Below base wi (w0.alloc (.cells cs t')) := HB.alloc hbase _
    refine h v' w' h2 (hB1.grown h3 (by simp; omega) (fun k hk => ?_)) (Keep.trans (Keep.alloc _ _ _) (grown_keep h3 _ (fun k hk => hk)))
    rcases hown.2 with ⟨rfl, _⟩ | ⟨g, cap, cur, rfl, hb, _⟩
    · cases hk
    · cases hk; exact hb
theorem own_caps {w : World} {base n c : Nat} {e : TypeId} {A : Option Addr} {xs : List Value} (h : w.ownsRow base e s (.slice A n c) n xs) : n ≤ c ∧ c ≤ maxLen ∧ (A = none → n = 0 ∧ c = 0) := by
  rcases h.2 with ⟨hv, hn⟩ | ⟨g, cap, cur, hv, _, _, h1, h2, _⟩
  · injection hv with h1 h2 h3; exact ⟨by omega, by rw [h3]; exact Nat.zero_le _, fun _ => ⟨by omega, by omega⟩⟩
  · injection hv with e1 e2 e3; subst e3; exact ⟨h1, h2, fun h => by rw [h] at e1; cases e1⟩
/-- A slice of records that the call has just laid. -/
theorem SR.made {ok : α → Prop} (he : ∀ a, (enc a).length = s) (w : World) (E : TypeId) (cs : Array Value) (L : List α) (hcs : cs.toList = flatV enc L) (hok : ∀ x ∈ L, ok x) (hm : L.length ≤ maxLen) : SR enc ok s (w.alloc (.cells cs E)) (some ⟨w.heap.size, 0, none⟩) L.length L := by
  refine ⟨rfl, hm, hok, fun _ => ⟨w.heap.size, 0, rfl, by simp, fun j hj => ?_⟩⟩
  rw [Nat.zero_add, (Bk.new w E cs).cell j, ← hcs]
  simp
/-- 'clear(s)' of records. -/
theorem run_clear_rec {P : Program} (w : World) (t e ty : TypeId) (z : Value) (s : Nat) (ht : P.underlying t = some (.slice e)) (hv : ∀ w, (zeroValue e).run P w = .ok z w) (hz : z.cells.size = s) (h1 : ∀ v ∈ z.cells.toList, v.oneCell' = true) (b o n c : Nat) (hn : 0 < n) (hs : 0 < s)
    (hc : ∀ j, j < n * s → (w.cell? ⟨b, o + j, none⟩).isSome = true) (hf : ∀ j, j < n * s → w.frozen? ⟨b, o + j, none⟩ = false) :
    ∃ vs : List Value, vs.length = n * s ∧ (Builtin.clear_ #[t] ty #[.slice (some ⟨b, o, none⟩) n c]).run P w = .ok (.tuple #[]) (w.setCells b o vs) := by
  refine ⟨(Builtin.zeroCells z.cells n).toList, by simp [Builtin.zeroCells, hz], ?_⟩
  have hl : (Builtin.zeroCells z.cells n).toList.length = n * s := by simp [Builtin.zeroCells, hz]
  have hst := run_storeCells_cells (P := P) b o (Builtin.zeroCells z.cells n).toList 0 w (by rw [hl]; simpa using hc) (by rw [hl]; simpa using hf) (by
    intro v hv'
    simp only [Builtin.zeroCells, Array.toList_map, List.mem_map] at hv'
    obtain ⟨j, _, rfl⟩ := hv'
    have hj : j % z.cells.size < z.cells.size := Nat.mod_lt _ (by omega)
    rw [getElem!_pos z.cells _ hj]
    exact h1 _ (by simp))
  simp only [Nat.add_zero] at hst
  obtain ⟨m, rfl⟩ : ∃ m, n = m + 1 := ⟨n - 1, by omega⟩
  simp [Builtin.clear_, run_underlying ht, hv, hst]
end
end Go.Proofs.Ytbdefhekkafihaa
