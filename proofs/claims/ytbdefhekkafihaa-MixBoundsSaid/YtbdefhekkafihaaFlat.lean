/- What the cells of a value of a flat type hold (whole numbers, bools, strings, slices' heads; structs and arrays of these), as its reading shows; slices of such values. No condition. -/
import Derived.Test.YtbdefhekkafihaaBase
import Derived.Deep.Slices
import Derived.OpenShut
set_option linter.unusedVariables false
set_option linter.unusedSimpArgs false
namespace Go.Proofs.Ytbdefhekkafihaa
open Go.ChangeShapes Go.WideShapes Go.Deep Go.RowKit
inductive CK where
  | int (k : IntKind)
  | bool
  | str
  | slice
def CK.ok : CK → Value → Prop
  | .int k, v => ∃ n, v = .int k n ∧ (Lit.int k n).wf = true
  | .bool, v => ∃ b, v = .bool b
  | .str, v => ∃ s : ByteArray, v = .string s ∧ s.size ≤ maxLen
  | .slice, v => ∃ a l c, v = .slice a l c ∧ l ≤ c ∧ c ≤ maxLen
/-- Each cell is of its kind. -/
def PW (ks : List CK) (cs : List Value) : Prop := ∀ (j : Nat) (k : CK) (v : Value), ks[j]? = some k → cs[j]? = some v → k.ok v
theorem PW.nil (cs : List Value) : PW [] cs := fun j k v h _ => by simp at h
theorem PW.append {k1 k2 : List CK} {cs : List Value} (h1 : PW k1 (cs.take k1.length)) (h2 : PW k2 (cs.drop k1.length)) : PW (k1 ++ k2) cs := by
  intro j k v hk hv
  by_cases hj : j < k1.length
  · rw [List.getElem?_append_left hj] at hk
    exact h1 j k v hk (by rw [List.getElem?_take, if_pos hj]; exact hv)
  · rw [List.getElem?_append_right (by omega)] at hk
    exact h2 (j - k1.length) k v hk (by rw [List.getElem?_drop, show k1.length + (j - k1.length) = j by omega]; exact hv)
def flatFields (P : Program) (go : TypeId → Option (List CK)) : List Field → Nat → Option (List CK)
  | [], _ => some []
  | f :: fs, off => if f.offset = off then (go f.type).bind fun ks => if ks.length = P.cellsOf f.type then (flatFields P go fs (off + ks.length)).map (ks ++ ·) else none else none
def flat (P : Program) : Nat → TypeId → Option (List CK)
  | 0, _ => none
  | n + 1, t =>
    match P.underlying t with
    | some (.int k) => some [.int k]
    | some .bool => some [.bool]
    | some .string => some [.str]
    | some (.slice _) => some [.slice]
    | some (.struct fs) => flatFields P (flat P n) fs.toList 0
    | some (.array k e) => (flat P n e).bind fun ks => if ks.length = P.cellsOf e then some (List.replicate k ks).flatten else none
    | _ => none
section
variable {H : Type} {enc : TypeId × Value → H} {P : Program} {w : World} {base : Nat} {spare : Nat → Bool} {held : Bool}
theorem fields_ok {go : TypeId → Option (List CK)} (m : Nat) (hgo : ∀ t ks cs x, go t = some ks → DataW.trod enc P w base spare held m t cs = some x → PW ks cs) (cs : List Value) :
    ∀ (fs : List Field) (off : Nat) (ks : List CK), flatFields P go fs off = some ks → (∀ f ∈ fs, ∃ x, DataW.trod enc P w base spare held m f.type ((cs.drop f.offset).take (P.cellsOf f.type)) = some x) → PW ks (cs.drop off) := by
  intro fs
  induction fs with
  | nil => intro off ks h _; simp [flatFields] at h; subst h; exact PW.nil _
  | cons f fs ih =>
    intro off ks h hx
    unfold flatFields at h
    split at h
    · rename_i ho
      cases hg : go f.type with
      | none => rw [hg] at h; simp at h
      | some k1 =>
        rw [hg] at h
        simp only [Option.bind_some] at h
        split at h
        · rename_i hlen
          cases hr : flatFields P go fs (off + k1.length) with
          | none => rw [hr] at h; simp at h
          | some k2 =>
            rw [hr] at h
            simp only [Option.map_some, Option.some.injEq] at h
            subst h
            obtain ⟨x, hx1⟩ := hx f (by simp)
            rw [ho, ← hlen] at hx1
            refine PW.append (hgo _ _ _ _ hg hx1) ?_
            have := ih (off + k1.length) k2 hr (fun g hg' => hx g (by simp [hg']))
            rw [List.drop_drop]
            exact this
        · cases h
    · cases h
theorem rep_ok (m : Nat) {e : TypeId} {ks : List CK} (hgo : ∀ cs x, DataW.trod enc P w base spare held m e cs = some x → PW ks cs) (hlen : ks.length = P.cellsOf e) (cs : List Value) :
    ∀ (k i : Nat), (∀ j, i ≤ j → j < i + k → ∃ x, DataW.trod enc P w base spare held m e ((cs.drop (j * P.cellsOf e)).take (P.cellsOf e)) = some x) → PW (List.replicate k ks).flatten (cs.drop (i * P.cellsOf e)) := by
  intro k
  induction k with
  | zero => intro i _; exact PW.nil _
  | succ k ih =>
    intro i hx
    rw [List.replicate_succ, List.flatten_cons]
    obtain ⟨x, hx1⟩ := hx i (Nat.le_refl _) (by omega)
    rw [← hlen] at hx1
    refine PW.append (by rw [← hlen]; exact hgo _ _ hx1) ?_
    have := ih (i + 1) (fun j h1 h2 => hx j (by omega) (by omega))
    rw [List.drop_drop]
    rw [Nat.succ_mul] at this
    rw [hlen]; exact this
theorem flat_ok : ∀ (n m : Nat) (t : TypeId) (ks : List CK) (cs : List Value) (x : DataW H × List MemPlace), flat P n t = some ks → DataW.trod enc P w base spare held m t cs = some x → PW ks cs := by
  intro n
  induction n with
  | zero => intro m t ks cs x h; simp [flat] at h
  | succ n ih =>
    intro m t ks cs x h ht
    unfold flat at h
    split at h
    · rename_i k hu
      obtain ⟨v, rfl, _, hw⟩ := DataW.trod_int hu ht
      simp only [Option.some.injEq] at h; subst h
      intro j q u hq hv
      match j, hq, hv with
      | 0, hq, hv =>
        simp at hq hv
        subst hq hv
        exact ⟨v, rfl, hw⟩
      | j + 1, hq, hv => simp at hq
    · rename_i hu
      obtain ⟨v, rfl, _⟩ := DataW.trod_bool hu ht
      simp only [Option.some.injEq] at h; subst h
      intro j q u hq hv
      match j, hq, hv with
      | 0, hq, hv =>
        simp at hq hv
        subst hq hv
        exact ⟨v, rfl⟩
      | j + 1, hq, hv => simp at hq
    · rename_i hu
      obtain ⟨v, rfl, _, hs⟩ := DataW.trod_string hu ht
      simp only [Option.some.injEq] at h; subst h
      intro j q u hq hv
      match j, hq, hv with
      | 0, hq, hv =>
        simp at hq hv
        subst hq hv
        exact ⟨v, rfl, hs⟩
      | j + 1, hq, hv => simp at hq
    · rename_i e hu
      simp only [Option.some.injEq] at h; subst h
      rcases DataW.trod_slice hu ht with ⟨rfl, _⟩ | ⟨a, len, cap, _, _, _, _, rfl, _, _, hl, hm, _⟩
      · intro j q u hq hv
        match j, hq, hv with
        | 0, hq, hv =>
          simp at hq hv
          subst hq hv
          exact ⟨_, _, _, rfl, Nat.le_refl _, Nat.zero_le _⟩
        | j + 1, hq, hv => simp at hq
      · intro j q u hq hv
        match j, hq, hv with
        | 0, hq, hv =>
          simp at hq hv
          subst hq hv
          exact ⟨_, _, _, rfl, hl, hm⟩
        | j + 1, hq, hv => simp at hq
    · rename_i fs hu
      obtain ⟨xs, m', rfl, _, hlen, hxl, hf⟩ := DataW.trod_struct hu ht
      have := fields_ok (P := P) (enc := enc) (w := w) (base := base) (spare := spare) (held := held) m' (fun t ks cs x h1 h2 => ih m' t ks cs x h1 h2) cs fs.toList 0 ks h (fun f hfm => by
        obtain ⟨i, hi, hfi⟩ := List.getElem_of_mem hfm
        have h1 := hf i f (by rw [← Array.getElem?_toList, List.getElem?_eq_getElem hi, hfi])
        have h2 : i < xs.length := by rw [hxl]; simpa using hi
        rw [List.getElem?_eq_getElem h2] at h1
        exact ⟨_, h1⟩)
      simpa using this
    · rename_i k e hu
      obtain ⟨xs, m', rfl, _, hlen, hxl, hf⟩ := DataW.trod_array hu ht
      cases hg : flat P n e with
      | none => rw [hg] at h; simp at h
      | some k1 =>
        rw [hg] at h
        simp only [Option.bind_some] at h
        split at h
        · rename_i hl1
          simp only [Option.some.injEq] at h; subst h
          have := rep_ok (P := P) (enc := enc) (w := w) (base := base) (spare := spare) (held := held) m' (fun cs x h2 => ih m' e k1 cs x hg h2) hl1 cs k 0 (fun j _ hj => by
            have h1 := hf j (by omega)
            have h2 : j < xs.length := by omega
            rw [List.getElem?_eq_getElem h2] at h1
            exact ⟨_, h1⟩)
          simpa using this
        · cases h
    · cases h
/-- A slice of flat values: len elements, each of the kinds ks. -/
def FlatRow (w : World) (ks : List CK) (a : Option Addr) (len cap : Nat) (css : List (List Value)) : Prop :=
  css.length = len ∧ len ≤ cap ∧ cap ≤ maxLen ∧ (a = none → len = 0 ∧ cap = 0) ∧
  (∀ c ∈ css, c.length = ks.length ∧ PW ks c) ∧
  (0 < len → ∃ b off, a = some ⟨b, off, none⟩ ∧ b < w.heap.size ∧ ∀ i, i < len → ∀ j, j < ks.length → w.cell? ⟨b, off + (i * ks.length + j), none⟩ = (css.getD i [])[j]?)
theorem cell_spot {w : World} {x : Addr} {v : Value} (h : w.cell? (x.add 0) = some v) : x.spot = none := by
  cases hs : x.spot with
  | none => rfl
  | some s =>
    exfalso
    have : (x.add 0).spot.isSome = true := by unfold Addr.add; split <;> simp_all
    revert h
    unfold World.cell?
    split
    · rw [if_pos this]; simp
    · simp
theorem open_flat {t e : TypeId} (ks : List CK) (hks0 : 0 < ks.length) (ht : P.underlying t = some (.slice e)) (hk : flat P 8 e = some ks) (hc : P.cellsOf e = ks.length) {a : Option Addr} {len cap : Nat} {d : DataW H} {p : List MemPlace}
    (h : DataW.Trod enc P w base spare held t (.slice a len cap) d p) : ∃ css, FlatRow w ks a len cap css := by
  obtain ⟨fuel, hf⟩ := h
  have hf' : DataW.trod enc P w base spare held fuel t [.slice a len cap] = some (d, p) := by simpa [Value.cells] using hf
  rcases open_slice ht hf' with ⟨hcs, _⟩ | ⟨a', len', cap', m, n, D, Pl, hcs, hb, hl, hm, hmm, _, hi⟩
  · simp only [List.cons.injEq, Value.slice.injEq, and_true] at hcs
    obtain ⟨rfl, rfl, rfl⟩ := hcs
    exact ⟨[], rfl, Nat.le_refl _, Nat.zero_le _, fun _ => ⟨rfl, rfl⟩, fun c hc => by simp at hc, fun h => absurd h (by omega)⟩
  · simp only [List.cons.injEq, Value.slice.injEq, and_true] at hcs
    obtain ⟨rfl, rfl, rfl⟩ := hcs
    have hlm : len ≤ m := by rw [hmm]; split <;> omega
    obtain ⟨F, hF⟩ := choose_lt (α := List Value) (n := len) (p := fun i c => w.cells? base (a'.add (i * P.cellsOf e)) (P.cellsOf e) = some c ∧ PW ks c) (fun i hil => by
      obtain ⟨cs', h1, h2⟩ := hi i (by omega)
      exact ⟨cs', h1, flat_ok 8 n e ks cs' _ hk h2⟩)
    refine ⟨(List.range len).map F, by simp, hl, hm, (by intro h; cases h), ?_, ?_⟩
    · intro c hcm
      obtain ⟨i, hir, rfl⟩ := List.mem_map.1 hcm
      have := hF i (List.mem_range.1 hir)
      obtain ⟨_, hlen, _⟩ := World.cells?_some this.1
      exact ⟨by rw [hlen, hc], this.2⟩
    · intro hl0
      have h0 := hF 0 hl0
      obtain ⟨_, hlen, hat⟩ := World.cells?_some h0.1
      have h00 := hat 0 (by omega)
      have hlt : 0 < (F 0).length := by omega
      rw [List.getElem?_eq_getElem hlt] at h00
      rw [add_add] at h00
      have h000 : w.cell? (a'.add 0) = some ((F 0)[0]) := by simpa using h00
      have hsp := cell_spot h000
      obtain ⟨b, o, s⟩ := a'
      simp only at hsp
      subst hsp
      have hadd : ∀ n, (⟨b, o, none⟩ : Addr).add n = ⟨b, o + n, none⟩ := fun n => by unfold Addr.add; split <;> simp_all
      refine ⟨b, o, rfl, ?_, ?_⟩
      · rw [hadd] at h00
        exact World.block_lt_of_cell? w ⟨b, _, none⟩ h00
      · intro i hil j hj
        have := hF i hil
        obtain ⟨_, hlen2, hat2⟩ := World.cells?_some this.1
        have h3 := hat2 j (by omega)
        rw [add_add, hadd, hc] at h3
        rw [h3]
        simp [List.getD_eq_getElem?_getD, hil]
end
theorem FlatRow.below {w w1 : World} {ks : List CK} {a : Option Addr} {len cap : Nat} {css : List (List Value)} (h : FlatRow w ks a len cap css) (hb : Below w.heap.size w w1) : FlatRow w1 ks a len cap css := by
  obtain ⟨h1, h2, h3, h4, h5, h6⟩ := h
  refine ⟨h1, h2, h3, h4, h5, fun hl => ?_⟩
  obtain ⟨b, off, ha, hlt, hc⟩ := h6 hl
  exact ⟨b, off, ha, Nat.lt_of_lt_of_le hlt hb.size, fun i hi j hj => (hb.cell (p := ⟨b, _, none⟩) hlt).trans (hc i hi j hj)⟩
theorem FlatRow.get {w : World} {ks : List CK} {a : Option Addr} {len cap : Nat} {css : List (List Value)} (h : FlatRow w ks a len cap css) {i : Nat} (hi : i < len) :
    ∃ b off c, a = some ⟨b, off, none⟩ ∧ css[i]? = some c ∧ c.length = ks.length ∧ PW ks c ∧ ∀ j, j < ks.length → w.cell? ⟨b, off + (i * ks.length + j), none⟩ = c[j]? := by
  obtain ⟨h1, h2, h3, h4, h5, h6⟩ := h
  obtain ⟨b, off, ha, hlt, hc⟩ := h6 (by omega)
  have hil : i < css.length := by omega
  have hm := h5 css[i] (List.getElem_mem hil)
  refine ⟨b, off, css[i], ha, List.getElem?_eq_getElem hil, hm.1, hm.2, fun j hj => ?_⟩
  rw [hc i hi j hj]
  simp [List.getD_eq_getElem?_getD, hil]
end Go.Proofs.Ytbdefhekkafihaa
