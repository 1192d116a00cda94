/- Slices of flat records, read as lists of them. No condition. -/
import Derived.Test.YtbdefhekkafihaaTab
import Derived.Test.YtbdefhekkafihaaFlat
import Derived.Test.YtbdefhekkafihaaSl
set_option linter.unusedVariables false
set_option linter.unusedSimpArgs false
namespace Go.Proofs.Ytbdefhekkafihaa
open Go.RowKit
section
variable {α : Type} {enc : α → List Value} {ok : α → Prop} {s : Nat}
/-- The slice a (n long) reads as L. -/
structure SR (enc : α → List Value) (ok : α → Prop) (s : Nat) (w : World) (a : Option Addr) (n : Nat) (L : List α) : Prop where
  len : L.length = n
  max : n ≤ maxLen
  all : ∀ x ∈ L, ok x
  row : 0 < n → ∃ b off, a = some ⟨b, off, none⟩ ∧ b < w.heap.size ∧ ∀ j, j < n * s → w.cell? ⟨b, off + j, none⟩ = (flatV enc L)[j]?
theorem SR.below {w w1 : World} {a : Option Addr} {n : Nat} {L : List α} (h : SR enc ok s w a n L) (hb : Below w.heap.size w w1) : SR enc ok s w1 a n L := by
  refine ⟨h.len, h.max, h.all, fun hn => ?_⟩
  obtain ⟨b, off, ha, hlt, hc⟩ := h.row hn
  exact ⟨b, off, ha, Nat.lt_of_lt_of_le hlt hb.size, fun j hj => (hb.cell (p := ⟨b, _, none⟩) hlt).trans (hc j hj)⟩
theorem SR.keep {S : Nat → Prop} {w w1 : World} {a : Option Addr} {n : Nat} {L : List α} (h : SR enc ok s w a n L) (k : Keep S w w1) (hS : ∀ x, a = some x → ¬ S x.block) : SR enc ok s w1 a n L := by
  refine ⟨h.len, h.max, h.all, fun hn => ?_⟩
  obtain ⟨b, off, ha, hlt, hc⟩ := h.row hn
  refine ⟨b, off, ha, Nat.lt_of_lt_of_le hlt k.size, fun j hj => ?_⟩
  rw [← hc j hj]
  exact World.cell?_of_block (k.block b hlt (hS _ ha))
theorem SR.get (he : ∀ a, (enc a).length = s) {w : World} {a : Option Addr} {n : Nat} {L : List α} (h : SR enc ok s w a n L) {i : Nat} (hi : i < n) :
    ∃ b off, ∃ x : α, a = some ⟨b, off, none⟩ ∧ b < w.heap.size ∧ L[i]? = some x ∧ ok x ∧ ∀ j, j < s → w.cell? ⟨b, off + i * s + j, none⟩ = (enc x)[j]? := by
  obtain ⟨b, off, ha, hlt, hc⟩ := h.row (by omega)
  have hil : i < L.length := by rw [h.len]; exact hi
  have hx : L[i]? = some L[i] := List.getElem?_eq_getElem hil
  refine ⟨b, off, L[i], ha, hlt, hx, h.all _ (List.getElem_mem hil), fun j hj => ?_⟩
  have := hc (i * s + j) (by have : (i + 1) * s ≤ n * s := Nat.mul_le_mul_right s hi; rw [Nat.add_mul] at this; omega)
  rw [flatV_get he L i _ hx j hj, ← Nat.add_assoc] at this
  exact this
theorem SR.take (he : ∀ a, (enc a).length = s) {w : World} {a : Option Addr} {n : Nat} {L : List α} (h : SR enc ok s w a n L) {m : Nat} (hm : m ≤ n) : SR enc ok s w a m (L.take m) := by
  refine ⟨by rw [List.length_take, h.len]; omega, Nat.le_trans hm h.max, fun x hx => h.all x (List.mem_of_mem_take hx), fun hn => ?_⟩
  obtain ⟨b, off, ha, hlt, hc⟩ := h.row (by omega)
  refine ⟨b, off, ha, hlt, fun j hj => ?_⟩
  have hms : m * s ≤ n * s := Nat.mul_le_mul_right s hm
  rw [hc j (by omega)]
  conv => lhs; rw [← List.take_append_drop m L, flatV_append]
  rw [List.getElem?_append_left (by rw [flatV_len he, List.length_take, h.len, Nat.min_eq_left hm]; exact hj)]
theorem SR.own (he : ∀ a, (enc a).length = s) (hs : 0 < s) {w : World} {base n : Nat} {e : TypeId} {v : Value} {L : List α} (h : w.ownsRow base e s v n (flatV enc L)) (hR : ∀ x ∈ L, ok x) :
    ∃ A c, v = .slice A n c ∧ SR enc ok s w A n L ∧ (A = none → n = 0 ∧ c = 0) ∧ (∀ x, A = some x → base ≤ x.block) := by
  have hl : L.length = n := by have h1 := h.1; rw [flatV_len he] at h1; exact Nat.eq_of_mul_eq_mul_right hs h1
  rcases h.2 with ⟨hv, hn⟩ | ⟨g, cap, cur, hv, hb, hg, hnc, hcm, hcs, ht⟩
  · exact ⟨_, _, by rw [hn]; exact hv, ⟨hl, by rw [hn]; exact Nat.zero_le _, hR, fun h => absurd h (by omega)⟩, fun _ => ⟨hn, rfl⟩, (by intro x h; cases h)⟩
  · refine ⟨_, _, hv, ⟨hl, Nat.le_trans hnc hcm, hR, fun hn => ⟨g, 0, rfl, (Array.getElem?_eq_some_iff.1 hg).1, fun i hi => ?_⟩⟩, (by intro h; cases h), (by intro x h; cases h; exact hb)⟩
    have h2 := h
    rw [hv] at h2
    have := h2.cellAt i (by omega)
    rw [Nat.zero_add, this]
theorem SR.flat {ks : List CK} (hk : ks.length = s) (hs : 0 < s) (he : ∀ a, (enc a).length = s) (dec : ∀ c : List Value, c.length = ks.length → PW ks c → ∃ x : α, c = enc x ∧ ok x)
    {w : World} {a : Option Addr} {len cap : Nat} {css : List (List Value)} (h : FlatRow w ks a len cap css) : ∃ L, SR enc ok s w a len L ∧ len ≤ cap ∧ cap ≤ maxLen ∧ (a = none → len = 0 ∧ cap = 0) := by
  obtain ⟨h1, h2, h3, h4, h5, h6⟩ := h
  have hlist : ∀ css : List (List Value), (∀ c ∈ css, ∃ x : α, c = enc x ∧ ok x) → ∃ L : List α, css = L.map enc ∧ ∀ x ∈ L, ok x := by
    intro css h
    induction css with
    | nil => exact ⟨[], rfl, by simp⟩
    | cons c css ih =>
      obtain ⟨x, hx, hr⟩ := h c (by simp)
      obtain ⟨L, hL, hR⟩ := ih (fun d hd => h d (by simp [hd]))
      refine ⟨x :: L, by rw [hL, hx]; rfl, ?_⟩
      intro y hy
      rcases List.mem_cons.1 hy with rfl | hy
      · exact hr
      · exact hR y hy
  obtain ⟨L, rfl, hR⟩ := hlist css (fun c hc => dec c (h5 c hc).1 (h5 c hc).2)
  have hl : L.length = len := by simpa using h1
  refine ⟨L, ⟨hl, Nat.le_trans h2 h3, hR, fun hn => ?_⟩, h2, h3, h4⟩
  obtain ⟨b, off, ha, hlt, hc⟩ := h6 hn
  refine ⟨b, off, ha, hlt, fun j hj => ?_⟩
  have hd : j / s < len := Nat.div_lt_of_lt_mul (by rw [Nat.mul_comm]; exact hj)
  have hm : j % s < s := Nat.mod_lt _ hs
  have e : j / s * s + j % s = j := by rw [Nat.mul_comm]; exact Nat.div_add_mod j s
  have h1 := hc (j / s) hd (j % s) (by rw [hk]; exact hm)
  rw [hk, e] at h1
  have hil : j / s < L.length := by omega
  have h2 := flatV_get he L (j / s) L[j / s] (List.getElem?_eq_getElem hil) (j % s) hm
  rw [e] at h2
  rw [h1, h2]
  simp [List.getD_eq_getElem?_getD, hil]
theorem flatV_one (h1 : ∀ x, ∀ u ∈ enc x, u.oneCell' = true) (L : List α) : ∀ u ∈ flatV enc L, u.oneCell' = true := by
  intro u hu
  unfold flatV at hu
  obtain ⟨x, _, hx⟩ := List.mem_flatMap.1 hu
  exact h1 x u hx
/-- 'append(s, x...)': s the call's own, x lies anywhere, nil or not. -/
theorem wp_append_sr (he : ∀ a, (enc a).length = s) (hs0 : 0 < s) (h1 : ∀ x, ∀ u ∈ enc x, u.oneCell' = true) {P : Program} {w : World} {o : Oper} {a : Act} {K : Act → World → Prop} {Q : Exit → Act → World → Prop} (sl x : Operand) (t : TypeId)
    (ho : o.op = .call { callee := .builtin .append, args := #[sl, x], argTypes := #[t, t] })
    (base : Nat) (e : TypeId) (i : TypeInfo) (z : Value) (bytes : Nat) (ht : P.underlying t = some (.slice e)) (hi : P.info? e = some i) (hz : i.zero = some z) (hsize : i.size = s) (hby : i.bytes = bytes) (hzs : z.cells.size = s)
    (v : Value) (n : Nat) (L : List α) (hs : a.eval sl = v) (hown : w.ownsRow base e s v n (flatV enc L))
    (A : Option Addr) (m c : Nat) (M : List α) (hx : a.eval x = .slice A m c) (hM : SR enc ok s w A m M) (hnil : A = none → m = 0 ∧ c = 0)
    (h63 : n + m ≤ maxLen) (hbytes : (n + m) * bytes ≤ 140737488355328) (hbase : base ≤ w.heap.size)
    (h : ∀ v' w', w'.ownsRow base e s v' (n + m) (flatV enc (L ++ M)) → w.grownBy w' v.ownBlock → K (a.put o.dst v') w') : o.wp P a w K Q := by
  have hMl : M.length = m := hM.len
  cases A with
  | none =>
    obtain ⟨rfl, rfl⟩ := hnil rfl
    have hrun := run_append_owned_none (P := P) (w := w) base t o.type e i s ht hi v n _ hown
    have hy : M = [] := List.eq_nil_of_length_eq_zero hMl
    unfold Oper.wp
    simp [execOp, ho, resolve, invoke, builtin, hs, hx, hrun, Result.andThen]
    exact h v w (by rw [hy, List.append_nil]; exact hown) (World.grownBy.refl w _)
  | some ad =>
    refine wp_append_own w sl x t ho base e i z s bytes ht hi hz hsize hby hzs hs0 v n _ hs hown ad m c (flatV enc M) hx (by rw [flatV_len he, hMl]) ?_ (flatV_one h1 M) h63 hbytes hbase ?_
    · intro j u hu
      have hj : j < (flatV enc M).length := (List.getElem?_eq_some_iff.1 hu).1
      rw [flatV_len he] at hj
      obtain ⟨b, off, he', _, hc⟩ := hM.row (by rw [← hMl]; exact Nat.pos_of_ne_zero (fun h0 => by rw [h0] at hj; simp at hj))
      injection he' with he'
      subst he'
      have hadd : (⟨b, off, none⟩ : Addr).add j = ⟨b, off + j, none⟩ := by unfold Addr.add; split <;> simp_all
      rw [hadd, hc j (by rw [← hMl]; exact hj), hu]
    · intro v' w' h1 h2 _
      rw [← flatV_append] at h1
      exact h v' w' h1 h2
theorem wpList_append_sr (he : ∀ a, (enc a).length = s) (hs0 : 0 < s) (h1 : ∀ x, ∀ u ∈ enc x, u.oneCell' = true) {P : Program} {w : World} {ops : Array Oper} {rest : List Oper} {o : Oper} {a : Act} {Q : Exit → Act → World → Prop} (hgd : o.guard = none) (sl x : Operand) (t : TypeId)
    (ho : o.op = .call { callee := .builtin .append, args := #[sl, x], argTypes := #[t, t] })
    (base : Nat) (e : TypeId) (i : TypeInfo) (z : Value) (bytes : Nat) (ht : P.underlying t = some (.slice e)) (hi : P.info? e = some i) (hz : i.zero = some z) (hsize : i.size = s) (hby : i.bytes = bytes) (hzs : z.cells.size = s)
    (v : Value) (n : Nat) (L : List α) (hs : a.eval sl = v) (hown : w.ownsRow base e s v n (flatV enc L))
    (A : Option Addr) (m c : Nat) (M : List α) (hx : a.eval x = .slice A m c) (hM : SR enc ok s w A m M) (hnil : A = none → m = 0 ∧ c = 0)
    (h63 : n + m ≤ maxLen) (hbytes : (n + m) * bytes ≤ 140737488355328) (hbase : base ≤ w.heap.size)
    (h : ∀ v' w', w'.ownsRow base e s v' (n + m) (flatV enc (L ++ M)) → w.grownBy w' v.ownBlock → wpList P ops Q rest (a.put o.dst v') w') : wpList P ops Q (o :: rest) a w :=
  wpList_plain hgd fun _ hK => wp_append_sr he hs0 h1 sl x t ho base e i z bytes ht hi hz hsize hby hzs v n L hs hown A m c M hx hM hnil h63 hbytes hbase fun v' w' h2 h3 => hK _ _ (h v' w' h2 h3)
/-- A slice of no element, made here. -/
theorem own_empty (w : World) (base : Nat) (e : TypeId) (hb : base ≤ w.heap.size) : (w.alloc (.cells #[] e)).ownsRow base e s (.slice (some ⟨w.heap.size, 0, none⟩) 0 0) 0 (flatV enc []) :=
  ⟨by simp [flatV], .inr ⟨w.heap.size, 0, #[], rfl, hb, heap_alloc_new w _, Nat.le_refl _, Nat.zero_le _, by simp, by simp [flatV]⟩⟩
end
end Go.Proofs.Ytbdefhekkafihaa
