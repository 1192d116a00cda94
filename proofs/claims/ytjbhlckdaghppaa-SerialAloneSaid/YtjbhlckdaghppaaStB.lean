/- store: a map from nodes to cells, and the book of it. No condition. -/
import Derived.Test.YtjbhlckdaghppaaStA
import Derived.Test.YtjbhlckdaghppaaPthL
import Derived.Maps.OwnIn
import Derived.Maps.Views
import Derived.Maps.OwnSet
import Derived.Maps.RangeWalk
import Derived.DeepKeys4
set_option linter.unusedVariables false
set_option linter.unusedSimpArgs false
namespace Go.Proofs.Ytjbhlckdaghppaa
open Go.RowKit (wrap32 wrap64)
open Go.RowKit
theorem laidOutP : laidOutB Try.prog = true := by kernel_rfl
theorem ptKeyed : Maps.Keyed Try.prog 25 := Maps.Keyed.of_law (deep_law_laid laidOutP (m := 3) (by omega) (by decide) (by kernel_rfl) (by kernel_rfl))
def kyP (p : Pt) : Lit := .string (keyBytes [.int .i64 p.n0, .int .i64 p.n1, .int .i64 p.n2, .int .i64 p.n3, .int .i64 p.dep])
theorem kl_int (d : Nat) (n : Int) (h : (Lit.int .i64 n).wf = true) : Try.prog.keyLits (d + 1) 3 [.int .i64 n] = some [.int .i64 n] := by
  unfold Program.keyLits
  rw [Try.underlying3]
  simp [h]
theorem kl_arr (d : Nat) (a b c e : Int) (h0 : (Lit.int .i64 a).wf = true) (h1 : (Lit.int .i64 b).wf = true) (h2 : (Lit.int .i64 c).wf = true) (h3 : (Lit.int .i64 e).wf = true) : Try.prog.keyLits (d + 2) 23 [.int .i64 a, .int .i64 b, .int .i64 c, .int .i64 e] = some [.int .i64 a, .int .i64 b, .int .i64 c, .int .i64 e] := by
  have c1 : Try.prog.cellsOf 23 = 4 := by kernel_rfl
  have c2 : Try.prog.cellsOf 3 = 1 := by kernel_rfl
  have r4 : List.range 4 = [0, 1, 2, 3] := by decide
  unfold Program.keyLits
  rw [Try.underlying23]
  simp only [c1, c2, r4, List.length_cons, List.length_nil, List.mapM_cons, List.mapM_nil, Nat.mul_one, List.drop_zero, List.drop_succ_cons, List.take_succ_cons, List.take_zero]
  rw [kl_int d a h0, kl_int d b h1, kl_int d c h2, kl_int d e h3]
  rfl
theorem kl_pt (d : Nat) (p : Pt) (h : okPt p) : Try.prog.keyLits (d + 3) 25 (ptA p).toList = some [.int .i64 p.n0, .int .i64 p.n1, .int .i64 p.n2, .int .i64 p.n3, .int .i64 p.dep] := by
  obtain ⟨h0, h1, h2, h3, h4⟩ := h
  have c0 : Try.prog.cellsOf 25 = 5 := by kernel_rfl
  have c1 : Try.prog.cellsOf 23 = 4 := by kernel_rfl
  have c2 : Try.prog.cellsOf 3 = 1 := by kernel_rfl
  unfold Program.keyLits
  rw [Try.underlying25]
  simp only [c0, c1, c2, ptA, List.length_cons, List.length_nil, List.mapM_cons, List.mapM_nil, List.drop_zero, List.drop_succ_cons, List.take_succ_cons, List.take_zero]
  rw [kl_arr d p.n0 p.n1 p.n2 p.n3 h0 h1 h2 h3, kl_int (d + 1) p.dep h4]
  rw [if_pos ⟨trivial, by kernel_rfl⟩]
  rfl
theorem keyOf_pt (p : Pt) (h : okPt p) : keyOf Try.prog 25 (.agg (ptA p)) = some (kyP p) := by
  have ef : (Value.agg (ptA p)).formed Try.prog 25 = true := by kernel_rfl
  have ek : Try.prog.keyType 25 = true := by kernel_rfl
  have es : Try.prog.types.size + 1 = (Try.prog.types.size - 2) + 3 := by kernel_rfl
  unfold keyOf
  rw [Try.underlying25]
  simp only [ef, ek, Bool.and_self, if_true]
  rw [es, show (Value.agg (ptA p)).cells = ptA p from rfl, kl_pt _ p h]
  rfl
theorem ptA_inj {p q : Pt} (h : ptA p = ptA q) : p = q := by
  obtain ⟨a, b, c, d, e⟩ := p
  obtain ⟨a', b', c', d', e'⟩ := q
  simp [ptA] at h
  obtain ⟨rfl, rfl, rfl, rfl, rfl⟩ := h
  rfl
theorem ky_inj {p q : Pt} (hp : okPt p) (hq : okPt q) (h : kyP p = kyP q) : p = q := by
  have h1 := keyOf_pt p hp
  rw [h] at h1
  have := ptKeyed.inj h1 (keyOf_pt q hq)
  injection this with this
  exact ptA_inj this
/-- The cell of a key that is known. -/
theorem ky_val {key : Value} {p : Pt} (hp : okPt p) (h : keyOf Try.prog 25 key = some (kyP p)) : key = .agg (ptA p) := ptKeyed.inj h (keyOf_pt p hp)
def elC (v : Value) : Option (DataW (Int × Int) × List MemPlace) :=
  match v with
  | .agg cs =>
    match cs.toList with
    | [.int .i64 a, .int .i64 b] => some (.held (a, b), [])
    | _ => none
  | _ => none
theorem elC_inv {v : Value} {y : DataW (Int × Int) × List MemPlace} (h : elC v = some y) : ∃ c : Int × Int, v = .agg #[.int .i64 c.1, .int .i64 c.2] ∧ y = (.held c, []) := by
  unfold elC at h
  split at h
  · rename_i cs
    split at h
    · rename_i a b e
      cases h
      refine ⟨(a, b), ?_, rfl⟩
      congr 1
      exact Array.ext' e
    · cases h
  · cases h
/-- A row, its value, how often it was set. -/
structure Cl where
  p : Pt
  v : Int
  n : Int
  deriving DecidableEq, Inhabited
def getE (E : List Cl) (p : Pt) : Int × Int :=
  match E.find? (fun c => decide (c.p = p)) with
  | some c => (c.v, c.n)
  | none => (0, 0)
def hasE (E : List Cl) (p : Pt) : Bool := E.any (fun c => decide (c.p = p))
def setE : List Cl → Pt → Int → List Cl
  | [], p, v => [⟨p, v, 1⟩]
  | c :: E, p, v => if c.p = p then ⟨p, v, c.n + 1⟩ :: E else if lessP c.p p = true then c :: setE E p v else ⟨p, v, 1⟩ :: c :: E
/-- The cells stand by their nodes, each once; counts are small. -/
structure OkE (E : List Cl) (K : Nat) : Prop where
  may : ∀ c ∈ E, mayP c.p = true ∧ okPt c.p
  srt : E.Pairwise fun a b => lessP a.p b.p = true
  cnt : ∀ c ∈ E, (0 ≤ c.v ∧ c.v ≤ 1073741824) ∧ 1 ≤ c.n ∧ c.n ≤ K
  len : E.length ≤ K
theorem OkE.mono {E : List Cl} {K K2 : Nat} (h : OkE E K) (hk : K ≤ K2) : OkE E K2 := ⟨h.may, h.srt, fun c hc => ⟨(h.cnt c hc).1, (h.cnt c hc).2.1, by have := (h.cnt c hc).2.2; omega⟩, Nat.le_trans h.len hk⟩
theorem OkE.tail {c : Cl} {E : List Cl} {K : Nat} (h : OkE (c :: E) K) : OkE E K := ⟨fun x hx => h.may x (by simp [hx]), (List.pairwise_cons.1 h.srt).2, fun x hx => h.cnt x (by simp [hx]), by have := h.len; simp at this; omega⟩
theorem get_none {E : List Cl} {p : Pt} (h : ∀ c ∈ E, c.p ≠ p) : getE E p = (0, 0) := by
  unfold getE
  rw [List.find?_eq_none.2 (fun c hc => by simpa using h c hc)]
theorem has_none {E : List Cl} {p : Pt} (h : ∀ c ∈ E, c.p ≠ p) : hasE E p = false := by
  unfold hasE
  rw [List.any_eq_false]
  exact fun c hc => by simpa using h c hc
theorem get_cons (c : Cl) (E : List Cl) (p : Pt) : getE (c :: E) p = if c.p = p then (c.v, c.n) else getE E p := by
  unfold getE
  rw [List.find?_cons]
  by_cases h : c.p = p
  · rw [decide_eq_true h, if_pos h]
  · rw [decide_eq_false h, if_neg h]
theorem has_cons (c : Cl) (E : List Cl) (p : Pt) : hasE (c :: E) p = (decide (c.p = p) || hasE E p) := by
  unfold hasE; rw [List.any_cons]
theorem has_false_get {E : List Cl} {p : Pt} (h : hasE E p = false) : getE E p = (0, 0) := by
  refine get_none (fun c hc e => ?_)
  unfold hasE at h
  rw [List.any_eq_false] at h
  exact h c hc (by simpa using e)
theorem set_mem (E : List Cl) (p : Pt) (v : Int) : ∀ x ∈ setE E p v, x.p = p ∨ x ∈ E := by
  induction E with
  | nil => intro x hx; unfold setE at hx; rw [List.mem_singleton.1 hx]; exact .inl rfl
  | cons c E ih =>
    intro x hx
    unfold setE at hx
    split at hx
    · rcases List.mem_cons.1 hx with rfl | hx
      · exact .inl rfl
      · exact .inr (by simp [hx])
    · split at hx
      · rcases List.mem_cons.1 hx with rfl | hx
        · exact .inr (by simp)
        · rcases ih x hx with h | h
          · exact .inl h
          · exact .inr (by simp [h])
      · rcases List.mem_cons.1 hx with rfl | hx
        · exact .inl rfl
        · exact .inr hx
theorem less_asymm {p q : Pt} (h : lessP p q = true) : lessP q p = false := by
  cases hq : lessP q p with
  | false => rfl
  | true => have := less_trans h hq; rw [less_irrefl] at this; cases this
/-- Past the place nobody else is. -/
theorem none_past {c : Cl} {E : List Cl} {K : Nat} (h : OkE (c :: E) K) {p : Pt} (hp : mayP p = true) (h1 : c.p ≠ p) (h2 : ¬ lessP c.p p = true) : lessP p c.p = true ∧ ∀ x ∈ c :: E, x.p ≠ p := by
  have h3 : lessP p c.p = true := by
    have := less_tri (h.may c (by simp)).1 hp h1
    rw [Bool.eq_false_iff.2 h2] at this
    simpa using this
  refine ⟨h3, fun x hx e => ?_⟩
  rcases List.mem_cons.1 hx with rfl | hx
  · exact h1 e
  · have h4 := (List.pairwise_cons.1 h.srt).1 x hx
    rw [e] at h4
    exact h2 h4
theorem set_get {E : List Cl} {K : Nat} (h : OkE E K) {p : Pt} (hp : mayP p = true) (v : Int) (q : Pt) : getE (setE E p v) q = if q = p then (v, (getE E p).2 + 1) else getE E q := by
  induction E with
  | nil =>
    unfold setE
    rw [get_cons]
    by_cases e : q = p
    · rw [if_pos e.symm, if_pos e]; rfl
    · rw [if_neg (fun x => e x.symm), if_neg e]
  | cons c E ih =>
    unfold setE
    split
    · rename_i hc
      rw [get_cons, get_cons, if_pos hc, get_cons]
      by_cases e : q = p
      · rw [if_pos e.symm, if_pos e]
      · rw [if_neg (fun x => e x.symm), if_neg e, if_neg (fun x => e (x.symm.trans hc))]
    · rename_i hc
      split
      · rw [get_cons, ih h.tail, get_cons, get_cons, if_neg hc]
        by_cases e : q = p
        · rw [if_pos e, if_pos e, if_neg (fun x => hc (x.trans e))]
        · rw [if_neg e, if_neg e]
      · rename_i hl
        have hn := (none_past h hp hc hl).2
        rw [get_cons, get_none hn]
        by_cases e : q = p
        · rw [if_pos e.symm, if_pos e]; rfl
        · rw [if_neg (fun x => e x.symm), if_neg e]
theorem set_has {E : List Cl} (p : Pt) (v : Int) (q : Pt) : hasE (setE E p v) q = (decide (q = p) || hasE E q) := by
  induction E with
  | nil =>
    unfold setE
    rw [has_cons]
    by_cases e : q = p
    · simp [e]
    · have e2 : ¬ p = q := fun x => e x.symm
      simp [e, e2]
  | cons c E ih =>
    unfold setE
    split
    · rename_i hc
      rw [has_cons, has_cons]
      subst hc
      by_cases e : c.p = q
      · simp [e]
      · have e2 : ¬ q = c.p := fun x => e x.symm
        simp [e, e2]
    · split
      · rw [has_cons, ih, has_cons]
        cases decide (c.p = q) <;> cases decide (q = p) <;> rfl
      · rw [has_cons]
        by_cases e : q = p
        · simp [e]
        · have e2 : ¬ p = q := fun x => e x.symm
          simp [e, e2]
theorem set_len {E : List Cl} {K : Nat} (h : OkE E K) {p : Pt} (hp : mayP p = true) (v : Int) : (setE E p v).length = E.length + (if hasE E p then 0 else 1) := by
  induction E with
  | nil => rfl
  | cons c E ih =>
    unfold setE
    rw [has_cons]
    split
    · rename_i hc
      rw [decide_eq_true hc]; rfl
    · rename_i hc
      rw [decide_eq_false hc, Bool.false_or]
      split
      · rw [List.length_cons, ih h.tail, List.length_cons]; omega
      · rename_i hl
        have hn := (none_past h hp hc hl).2
        have : hasE E p = false := has_none (fun x hx => hn x (by simp [hx]))
        rw [this]; rfl
theorem set_ok {E : List Cl} {K : Nat} (h : OkE E K) {p : Pt} (hp : mayP p = true) (ho : okPt p) {v : Int} (hv : 0 ≤ v ∧ v ≤ 1073741824) : OkE (setE E p v) (K + 1) := by
  refine ⟨?_, ?_, ?_, ?_⟩
  · intro x hx
    rcases set_mem E p v x hx with e | hm
    · rw [e]; exact ⟨hp, ho⟩
    · exact h.may x hm
  · induction E with
    | nil => unfold setE; simp
    | cons c E ih =>
      have hc := List.pairwise_cons.1 h.srt
      unfold setE
      split
      · rename_i e
        refine List.pairwise_cons.2 ⟨fun x hx => ?_, hc.2⟩
        have := hc.1 x hx
        rw [e] at this
        exact this
      · rename_i e
        split
        · rename_i hl
          refine List.pairwise_cons.2 ⟨fun x hx => ?_, ih h.tail⟩
          rcases set_mem E p v x hx with e2 | hm
          · rw [e2]; exact hl
          · exact hc.1 x hm
        · rename_i hl
          have hn := (none_past h hp e hl).1
          refine List.pairwise_cons.2 ⟨fun x hx => ?_, h.srt⟩
          rcases List.mem_cons.1 hx with rfl | hx
          · exact hn
          · exact less_trans hn (hc.1 x hx)
  · induction E with
    | nil => intro x hx; unfold setE at hx; rw [List.mem_singleton.1 hx]; exact ⟨hv, by show (1 : Int) ≤ 1; omega, by show (1 : Int) ≤ ((K + 1 : Nat) : Int); omega⟩
    | cons c E ih =>
      intro x hx
      have hc := h.cnt c (by simp)
      unfold setE at hx
      split at hx
      · rcases List.mem_cons.1 hx with rfl | hx
        · exact ⟨hv, by show 1 ≤ c.n + 1; omega, by show c.n + 1 ≤ ((K + 1 : Nat) : Int); omega⟩
        · have := h.cnt x (by simp [hx]); exact ⟨this.1, this.2.1, by omega⟩
      · split at hx
        · rcases List.mem_cons.1 hx with rfl | hx
          · exact ⟨hc.1, hc.2.1, by omega⟩
          · exact ih h.tail x hx
        · rcases List.mem_cons.1 hx with rfl | hx
          · exact ⟨hv, by show (1 : Int) ≤ 1; omega, by show (1 : Int) ≤ ((K + 1 : Nat) : Int); omega⟩
          · have := h.cnt x hx; exact ⟨this.1, this.2.1, by omega⟩
  · rw [set_len h hp]
    have := h.len
    split <;> omega
/-- The map at b holds just the cells E. -/
def MapT (w : World) (b : Nat) (E : List Cl) : Prop :=
  ∃ D : DataW (Int × Int), w.ownsMap Try.prog 25 elC b E.length D ∧ Maps.size D = E.length ∧ (∀ k, Maps.has D k = true → ∃ c ∈ E, k = kyP c.p) ∧ (∀ p, okPt p → Maps.has D (kyP p) = hasE E p) ∧ ∀ p, okPt p → D.atKey (kyP p) (.held (0, 0)) = .held (getE E p)
theorem MapT.made (w : World) : MapT (w.alloc (.map #[] 0)) w.heap.size [] :=
  ⟨_, World.ownsMap_made w _ _ _, rfl, (by intro k hk; cases hk), fun p _ => rfl, fun p _ => rfl⟩
theorem MapT.keep {S : Nat → Prop} {w w1 : World} {b : Nat} {E : List Cl} (h : MapT w b E) (k : Keep S w w1) (hb : ¬ S b) : MapT w1 b E := by
  obtain ⟨D, h, h2⟩ := h
  have hlt := h.lt
  obtain ⟨es, clock, hg, F, hs, hD⟩ := h
  exact ⟨D, ⟨es, clock, (k.block b hlt hb).trans hg, F, hs, hD⟩, h2⟩
theorem MapT.below {w w1 : World} {b : Nat} {E : List Cl} (h : MapT w b E) (k : Below w.heap.size w w1) : MapT w1 b E := h.keep (Keep.of_below k (fun _ => False)) (fun h => h)
theorem MapT.lt {w : World} {b : Nat} {E : List Cl} (h : MapT w b E) : b < w.heap.size := by
  obtain ⟨D, h, _⟩ := h
  exact h.lt
set_option maxRecDepth 100000 in
theorem MapT.look {w : World} {b : Nat} {E : List Cl} (h : MapT w b E) (p : Pt) (hp : okPt p) : (Instr.lookup 58 (.map (some b)) (.agg (ptA p)) false).run Try.prog w = .ok (.agg #[.int .i64 (getE E p).1, .int .i64 (getE E p).2]) w := by
  obtain ⟨D, h, _, _, _, h2⟩ := h
  obtain ⟨v, ps, hrun, hv⟩ := h.lookup ptKeyed Try.underlying58 (z := .agg #[.int .i64 0, .int .i64 0]) (Try.zeroValue63 w) (zd := .held (0, 0)) (zp := []) rfl (keyOf_pt p hp)
  rw [h2 p hp] at hv
  obtain ⟨c, rfl, hc⟩ := elC_inv hv
  injection hc with hc _
  injection hc with hc
  rw [hc]
  exact hrun
theorem owns_tightT {H : Type} {w : World} {P : Program} {k : TypeId} {R : Value → Option (DataW H × List MemPlace)} {b n m : Nat} {D : DataW H} (h : w.ownsMap P k R b n D) (hm : Maps.size D = m) : w.ownsMap P k R b m D := by
  obtain ⟨es, clock, hb, F, hs, rfl⟩ := h
  refine ⟨es, clock, hb, F, ?_, rfl⟩
  rw [Maps.size_eq, length_sorted] at hm
  simp at hm
  omega
/-- What a put makes of the map. -/
theorem MapT.put {w w' : World} {b K : Nat} {E : List Cl} {D : DataW (Int × Int)} {p : Pt} {v c : Int} (hE : OkE E K) (ht : Maps.Tidy D) (hs : Maps.size D = E.length) (h1 : ∀ k, Maps.has D k = true → ∃ c ∈ E, k = kyP c.p) (h2 : ∀ p, okPt p → Maps.has D (kyP p) = hasE E p) (h3 : ∀ p, okPt p → D.atKey (kyP p) (.held (0, 0)) = .held (getE E p))
    (hp : mayP p = true) (ho : okPt p) (hc : c = (getE E p).2 + 1) (h : w'.ownsMap Try.prog 25 elC b (E.length + 1) (D.put (kyP p) (.held (v, c)))) : MapT w' b (setE E p v) := by
  have hsz : Maps.size (D.put (kyP p) (.held (v, c))) = (setE E p v).length := by
    rw [Maps.size_put ht, h2 p ho, hs, set_len hE hp]
    cases hasE E p <;> simp
  refine ⟨_, owns_tightT h hsz, hsz, fun k hk => ?_, fun q hq => ?_, fun q hq => ?_⟩
  · by_cases e : k = kyP p
    · have : hasE (setE E p v) p = true := by rw [set_has]; simp
      unfold hasE at this
      rw [List.any_eq_true] at this
      obtain ⟨x, hx, hxe⟩ := this
      exact ⟨x, hx, by rw [e, show x.p = p by simpa using hxe]⟩
    · rw [Maps.has_put_other e] at hk
      obtain ⟨x, hx, hxe⟩ := h1 k hk
      have : hasE (setE E p v) x.p = true := by
        rw [set_has]
        have : hasE E x.p = true := by unfold hasE; rw [List.any_eq_true]; exact ⟨x, hx, by simp⟩
        rw [this, Bool.or_true]
      unfold hasE at this
      rw [List.any_eq_true] at this
      obtain ⟨y, hy, hye⟩ := this
      exact ⟨y, hy, by rw [hxe, show y.p = x.p by simpa using hye]⟩
  · rw [set_has]
    by_cases e : q = p
    · subst e
      rw [Maps.has_put_same (k := kyP q) ht.isMap (show WideAt.IsKeyLit (kyP q) from trivial)]; simp
    · rw [Maps.has_put_other (fun e2 => e (ky_inj hq ho e2)), h2 q hq]
      simp [e]
  · rw [set_get hE hp]
    by_cases e : q = p
    · subst e
      rw [Maps.atKey_put_same (k := kyP q) ht.isMap (show WideAt.IsKeyLit (kyP q) from trivial), if_pos rfl, hc]
    · rw [Maps.atKey_put_other (fun e2 => e (ky_inj hq ho e2)), h3 q hq, if_neg e]
end Go.Proofs.Ytjbhlckdaghppaa
