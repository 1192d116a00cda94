/- history: who commits, the edges; strict histories. Plain. No condition. -/
import Derived.Test.YtjenchijenkndaaHisE
import Derived.Test.YtjenchijenkndaaGph
set_option linter.unusedVariables false
set_option linter.unusedSimpArgs false
namespace Go.Proofs.Ytjenchijenkndaa
abbrev comE (L : List Ev) : List Int := commTo Ev.tx cmE edE L L.length
def inCom (L : List Ev) (tx : Int) : Bool := (comE L).any fun y => y == tx
theorem inCom_iff (L : List Ev) (tx : Int) : inCom L tx = true ↔ tx ∈ comE L := by
  unfold inCom
  rw [List.any_eq_true]
  constructor
  · rintro ⟨y, hy, e⟩
    rw [beq_iff_eq] at e
    subst e; exact hy
  · intro h
    exact ⟨tx, h, by simp⟩
theorem commTo_mono (L : List Ev) (k : Nat) (x : Int) : ∀ n, k ≤ n → x ∈ commTo Ev.tx cmE edE L k → x ∈ commTo Ev.tx cmE edE L n := by
  intro n
  induction n with
  | zero => intro h hx; rw [show k = 0 by omega] at hx; exact hx
  | succ n ih =>
    intro h hx
    by_cases e : k = n + 1
    · rw [← e]; exact hx
    · have := ih (by omega) hx
      unfold commTo
      split
      · split
        · exact List.mem_append_left _ this
        · exact this
      · exact this
theorem endI_cases (L : List Ev) (tx : Int) : (endI Ev.tx cmE edE L tx = -1) ∨ ∃ (k : Nat) (x : Ev), endI Ev.tx cmE edE L tx = k ∧ L[k]? = some x ∧ x.tx = tx ∧ k < L.length := by
  rcases idxB_spec (fun e : Ev => e.tx == tx && (cmE e || edE e)) L with ⟨h, _⟩ | ⟨k, x, h1, h2, h3, _⟩
  · exact .inl h
  · simp only [Bool.and_eq_true, beq_iff_eq] at h3
    exact .inr ⟨k, x, h1, h2, h3.1, (List.getElem?_eq_some_iff.1 h2).1⟩
theorem how_com (L : List Ev) (tx : Int) : howE L tx = 1 ↔ tx ∈ comE L := by
  constructor
  · intro h
    rcases endI_cases L tx with h1 | ⟨k, x, h1, h2, h3, h4⟩
    · unfold howE at h; rw [if_pos h1] at h; omega
    · subst h3
      have h5 := (how_iff h2).1 ⟨h1, h⟩
      refine commTo_mono L (k + 1) _ _ (by omega) ?_
      rw [commTo_at h2, if_pos h5]
      simp
  · intro h
    obtain ⟨k, e, hk, h1, h2, h3, h4⟩ := commTo_mem Ev.tx cmE edE L _ _ h
    subst h3
    exact ((how_iff h2).2 ⟨h1, h4⟩).2
theorem inCom_how (L : List Ev) (tx : Int) : inCom L tx = decide (howE L tx = 1) := by rw [Bool.eq_iff_iff, inCom_iff, decide_eq_true_iff, how_com]
/-- The order of commits is that of their places. -/
theorem commTo_srt (L : List Ev) (n : Nat) : (commTo Ev.tx cmE edE L n).Pairwise fun a b => endI Ev.tx cmE edE L a < endI Ev.tx cmE edE L b := by
  induction n with
  | zero => exact List.Pairwise.nil
  | succ n ih =>
    unfold commTo
    split
    · rename_i e he
      split
      · rename_i hc
        rw [List.pairwise_append]
        refine ⟨ih, by simp, fun a ha b hb => ?_⟩
        rw [List.mem_singleton.1 hb, hc.1]
        obtain ⟨k, _, hk, h2, _⟩ := commTo_mem Ev.tx cmE edE L n a ha
        rw [h2]
        omega
      · exact ih
    · exact ih
/-- Whether there is an edge from the event at i to that at k. -/
def edB (L : List Ev) (i k : Nat) : Bool :=
  match L[i]?, L[k]? with
  | some x, some y => inCom L x.tx && (!(x.kind == 10) && (inCom L y.tx && (!(y.kind == 10) && clashE x y)))
  | _, _ => false
def egOf (L : List Ev) (i k : Nat) : Eg :=
  match L[i]?, L[k]? with
  | some x, some y => ⟨x.tx, y.tx⟩
  | _, _ => ⟨0, 0⟩
theorem edB_at {L : List Ev} {i k : Nat} {x y : Ev} (hx : L[i]? = some x) (hy : L[k]? = some y) : edB L i k = (inCom L x.tx && (!(x.kind == 10) && (inCom L y.tx && (!(y.kind == 10) && clashE x y)))) ∧ egOf L i k = ⟨x.tx, y.tx⟩ := by
  unfold edB egOf; rw [hx, hy]; exact ⟨rfl, rfl⟩
theorem edB_no {L : List Ev} {i : Nat} {x : Ev} (hx : L[i]? = some x) (h : (inCom L x.tx && !(x.kind == 10)) = false) (k : Nat) : edB L i k = false := by
  unfold edB; rw [hx]
  cases L[k]? with
  | none => rfl
  | some y =>
    show (inCom L x.tx && (!(x.kind == 10) && _)) = false
    rw [← Bool.and_assoc, h]; rfl
def rowTo (L : List Ev) (k : Nat) : Nat → List Eg
  | 0 => []
  | i + 1 => if edB L i k = true then rowTo L k i ++ [egOf L i k] else rowTo L k i
def outTo (L : List Ev) : Nat → List Eg
  | 0 => []
  | k + 1 => outTo L k ++ rowTo L k k
def edgesE (L : List Ev) : List Eg := sortEg (outTo L L.length)
theorem rowTo_mem (L : List Ev) (k n : Nat) (e : Eg) : e ∈ rowTo L k n ↔ ∃ i, i < n ∧ edB L i k = true ∧ e = egOf L i k := by
  induction n with
  | zero => unfold rowTo; simp
  | succ n ih =>
    unfold rowTo
    split
    · rename_i h
      rw [List.mem_append, ih, List.mem_singleton]
      constructor
      · rintro (⟨i, h1, h2⟩ | rfl)
        · exact ⟨i, by omega, h2⟩
        · exact ⟨n, by omega, h, rfl⟩
      · rintro ⟨i, h1, h2, h3⟩
        by_cases e2 : i = n
        · subst e2; exact .inr h3
        · exact .inl ⟨i, by omega, h2, h3⟩
    · rename_i h
      rw [ih]
      constructor
      · rintro ⟨i, h1, h2⟩
        exact ⟨i, by omega, h2⟩
      · rintro ⟨i, h1, h2, h3⟩
        by_cases e2 : i = n
        · subst e2; exact absurd h2 h
        · exact ⟨i, by omega, h2, h3⟩
theorem rowTo_len (L : List Ev) (k n : Nat) : (rowTo L k n).length ≤ n := by
  induction n with
  | zero => exact Nat.le_refl _
  | succ n ih =>
    unfold rowTo
    split
    · rw [List.length_append]; simp; omega
    · omega
theorem outTo_mem (L : List Ev) (n : Nat) (e : Eg) : e ∈ outTo L n ↔ ∃ i k, i < k ∧ k < n ∧ edB L i k = true ∧ e = egOf L i k := by
  induction n with
  | zero => unfold outTo; simp
  | succ n ih =>
    unfold outTo
    rw [List.mem_append, ih, rowTo_mem]
    constructor
    · rintro (⟨i, k, h1, h2, h3⟩ | ⟨i, h1, h2⟩)
      · exact ⟨i, k, h1, by omega, h3⟩
      · exact ⟨i, n, h1, by omega, h2⟩
    · rintro ⟨i, k, h1, h2, h3⟩
      by_cases e2 : k = n
      · subst e2; exact .inr ⟨i, h1, h3⟩
      · exact .inl ⟨i, k, h1, by omega, h3⟩
theorem outTo_len (L : List Ev) (n : Nat) : (outTo L n).length ≤ n * n := by
  induction n with
  | zero => exact Nat.le_refl _
  | succ n ih =>
    unfold outTo
    rw [List.length_append]
    have := rowTo_len L n n
    have : (n + 1) * (n + 1) = n * n + 2 * n + 1 := by rw [Nat.mul_add, Nat.add_mul]; omega
    omega
theorem edges_srt (L : List Ev) : SrtEg (edgesE L) := sortEg_srt _
theorem edges_mem (L : List Ev) (e : Eg) : e ∈ edgesE L ↔ ∃ i k, i < k ∧ k < L.length ∧ edB L i k = true ∧ e = egOf L i k := by
  unfold edgesE; rw [sortEg_mem, outTo_mem]
theorem edges_len (L : List Ev) (h : L.length ≤ 30) : (edgesE L).length ≤ 900 := by
  have h1 := sortEg_len (outTo L L.length)
  have h2 := outTo_len L L.length
  have h3 : L.length * L.length ≤ 30 * 30 := Nat.mul_le_mul h h
  unfold edgesE; omega
theorem okEv_tx {x : Ev} (h : okEv x) : (Lit.int .i64 x.tx).wf = true := h.2.1
theorem edges_ok (L : List Ev) (h : ∀ x ∈ L, okEv x) : ∀ e ∈ edgesE L, okEg e := by
  intro e he
  obtain ⟨i, k, h1, h2, h3, rfl⟩ := (edges_mem L e).1 he
  obtain ⟨x, hx⟩ : ∃ x, L[i]? = some x := ⟨_, List.getElem?_eq_getElem (by omega)⟩
  obtain ⟨y, hy⟩ : ∃ y, L[k]? = some y := ⟨_, List.getElem?_eq_getElem h2⟩
  rw [(edB_at hx hy).2]
  exact ⟨okEv_tx (h x (List.mem_of_getElem? hx)), okEv_tx (h y (List.mem_of_getElem? hy))⟩
/-- The edges of the first i rows, and of the first j of row i. -/
def inH (L : List Ev) (i j : Nat) (e : Eg) : Prop := ∃ p q, p < q ∧ q < L.length ∧ edB L p q = true ∧ e = egOf L p q ∧ (p < i ∨ (p = i ∧ q < j))
theorem inH_zero (L : List Ev) (e : Eg) : ¬ inH L 0 0 e := by
  rintro ⟨p, q, _, _, _, _, h | h⟩ <;> omega
theorem inH_start (L : List Ev) (i : Nat) (e : Eg) : inH L i (i + 1) e ↔ inH L i 0 e := by
  unfold inH
  constructor
  · rintro ⟨p, q, h1, h2, h3, h4, h5⟩
    exact ⟨p, q, h1, h2, h3, h4, by omega⟩
  · rintro ⟨p, q, h1, h2, h3, h4, h5⟩
    exact ⟨p, q, h1, h2, h3, h4, by omega⟩
theorem inH_end (L : List Ev) (i : Nat) (e : Eg) : inH L i L.length e ↔ inH L (i + 1) 0 e := by
  unfold inH
  constructor
  · rintro ⟨p, q, h1, h2, h3, h4, h5⟩
    exact ⟨p, q, h1, h2, h3, h4, by omega⟩
  · rintro ⟨p, q, h1, h2, h3, h4, h5⟩
    exact ⟨p, q, h1, h2, h3, h4, by omega⟩
theorem inH_skip (L : List Ev) (i : Nat) (h : ∀ k, edB L i k = false) (e : Eg) : inH L (i + 1) 0 e ↔ inH L i 0 e := by
  unfold inH
  constructor
  · rintro ⟨p, q, h1, h2, h3, h4, h5⟩
    by_cases e2 : p = i
    · subst e2; rw [h q] at h3; cases h3
    · exact ⟨p, q, h1, h2, h3, h4, by omega⟩
  · rintro ⟨p, q, h1, h2, h3, h4, h5⟩
    exact ⟨p, q, h1, h2, h3, h4, by omega⟩
theorem inH_no {L : List Ev} {i j : Nat} (h : edB L i j = false) (e : Eg) : inH L i (j + 1) e ↔ inH L i j e := by
  unfold inH
  constructor
  · rintro ⟨p, q, h1, h2, h3, h4, h5⟩
    by_cases e2 : p = i ∧ q = j
    · obtain ⟨rfl, rfl⟩ := e2; rw [h] at h3; cases h3
    · exact ⟨p, q, h1, h2, h3, h4, by omega⟩
  · rintro ⟨p, q, h1, h2, h3, h4, h5⟩
    exact ⟨p, q, h1, h2, h3, h4, by omega⟩
theorem inH_yes {L : List Ev} {i j : Nat} (h : edB L i j = true) (hij : i < j) (hj : j < L.length) (e : Eg) : inH L i (j + 1) e ↔ (e = egOf L i j ∨ inH L i j e) := by
  unfold inH
  constructor
  · rintro ⟨p, q, h1, h2, h3, h4, h5⟩
    by_cases e2 : p = i ∧ q = j
    · obtain ⟨rfl, rfl⟩ := e2; exact .inl h4
    · exact .inr ⟨p, q, h1, h2, h3, h4, by omega⟩
  · rintro (rfl | ⟨p, q, h1, h2, h3, h4, h5⟩)
    · exact ⟨i, j, hij, hj, h, rfl, by omega⟩
    · exact ⟨p, q, h1, h2, h3, h4, by omega⟩
theorem inH_all (L : List Ev) (e : Eg) : inH L L.length 0 e ↔ e ∈ edgesE L := by
  rw [edges_mem]
  unfold inH
  constructor
  · rintro ⟨p, q, h1, h2, h3, h4, h5⟩
    exact ⟨p, q, h1, h2, h3, h4⟩
  · rintro ⟨p, q, h1, h2, h3, h4⟩
    exact ⟨p, q, h1, h2, h3, h4, by omega⟩
/-- What is met so far: each once. -/
structure MetE (L : List Ev) (i j : Nat) (O : List Eg) : Prop where
  nd : O.Nodup
  mem : ∀ e, e ∈ O ↔ inH L i j e
  len : O.length ≤ 30 * i + j
theorem MetE.start (L : List Ev) : MetE L 0 0 [] := ⟨List.nodup_nil, fun e => ⟨(fun h => by cases h), fun h => absurd h (inH_zero L e)⟩, by simp⟩
theorem MetE.into {L : List Ev} {i : Nat} {O : List Eg} (h : MetE L i 0 O) : MetE L i (i + 1) O := ⟨h.nd, fun e => (h.mem e).trans (inH_start L i e).symm, by have := h.len; omega⟩
theorem MetE.back {L : List Ev} {i : Nat} {O : List Eg} (h : MetE L i L.length O) (hn : L.length ≤ 30) : MetE L (i + 1) 0 O := ⟨h.nd, fun e => (h.mem e).trans (inH_end L i e), by have := h.len; omega⟩
theorem MetE.skip {L : List Ev} {i : Nat} {O : List Eg} (h : MetE L i 0 O) (hk : ∀ k, edB L i k = false) : MetE L (i + 1) 0 O := ⟨h.nd, fun e => (h.mem e).trans (inH_skip L i hk e).symm, by have := h.len; omega⟩
theorem MetE.no {L : List Ev} {i j : Nat} {O : List Eg} (h : MetE L i j O) (hk : edB L i j = false) : MetE L i (j + 1) O := ⟨h.nd, fun e => (h.mem e).trans (inH_no hk e).symm, by have := h.len; omega⟩
theorem MetE.had {L : List Ev} {i j : Nat} {O : List Eg} (h : MetE L i j O) (hk : edB L i j = true) (hij : i < j) (hj : j < L.length) (hm : egOf L i j ∈ O) : MetE L i (j + 1) O :=
  ⟨h.nd, fun e => (h.mem e).trans ⟨fun k => (inH_yes hk hij hj e).2 (.inr k), fun k => by
    rcases (inH_yes hk hij hj e).1 k with rfl | k
    · exact (h.mem _).1 hm
    · exact k⟩, by have := h.len; omega⟩
theorem MetE.new {L : List Ev} {i j : Nat} {O : List Eg} (h : MetE L i j O) (hk : edB L i j = true) (hij : i < j) (hj : j < L.length) (hm : ¬ egOf L i j ∈ O) : MetE L i (j + 1) (O ++ [egOf L i j]) := by
  refine ⟨?_, fun e => ?_, by rw [List.length_append]; have := h.len; simp; omega⟩
  · rw [List.nodup_append]
    exact ⟨h.nd, by simp, fun a ha b hb e => hm (by rw [← List.mem_singleton.1 hb, ← e]; exact ha)⟩
  · rw [inH_yes hk hij hj, List.mem_append, List.mem_singleton, h.mem e]
    exact Or.comm
theorem MetE.perm {L : List Ev} {O : List Eg} (h : MetE L L.length 0 O) : O.Perm (edgesE L) :=
  (List.perm_ext_iff_of_nodup h.nd (srtEg_nodup (edges_srt L))).2 (fun e => (h.mem e).trans (inH_all L e))
/-- What the statement asks of a history beside: nobody acts behind its end; nobody writes what another one has read that hasn't ended. -/
def tidyE (L : List Ev) : Prop := (∀ (k : Nat) (y : Ev), L[k]? = some y → ¬ (0 ≤ endI Ev.tx cmE edE L y.tx ∧ endI Ev.tx cmE edE L y.tx < k)) ∧
  ∀ (i k : Nat) (x y : Ev), i < k → L[i]? = some x → L[k]? = some y → y.kind = 7 → (x.kind = 6 ∨ x.kind = 8) → clashE x y = true → endI Ev.tx cmE edE L x.tx > i ∧ endI Ev.tx cmE edE L x.tx < k
theorem edges_up {L : List Ev} (hs : strictE L = true) (ht : tidyE L) : ∀ e ∈ edgesE L, e.src ∈ comE L ∧ e.dst ∈ comE L ∧ endI Ev.tx cmE edE L e.src < endI Ev.tx cmE edE L e.dst := by
  intro e he
  obtain ⟨i, k, h1, h2, h3, rfl⟩ := (edges_mem L e).1 he
  obtain ⟨x, hx⟩ : ∃ x, L[i]? = some x := ⟨_, List.getElem?_eq_getElem (by omega)⟩
  obtain ⟨y, hy⟩ : ∃ y, L[k]? = some y := ⟨_, List.getElem?_eq_getElem h2⟩
  obtain ⟨e1, e2⟩ := edB_at hx hy
  rw [e2]
  rw [e1] at h3
  simp only [Bool.and_eq_true, Bool.not_eq_true', inCom_iff, beq_eq_false_iff_ne] at h3
  obtain ⟨a1, a2, a3, a4, a5⟩ := h3
  refine ⟨a1, a3, ?_⟩
  obtain ⟨p, xp, _, hp, hp2, _, _⟩ := commTo_mem Ev.tx cmE edE L _ _ a1
  obtain ⟨q, yq, _, hq, hq2, hq3, hq4⟩ := commTo_mem Ev.tx cmE edE L _ _ a3
  have b1 := ht.1 k y hy
  have cl := a5
  unfold clashE acE wrE at cl
  simp only [Bool.and_eq_true, Bool.or_eq_true, beq_iff_eq] at cl
  have hlow : endI Ev.tx cmE edE L x.tx < k := by
    by_cases hw : x.kind = 7
    · have h5 := (strict_iff L).1 hs i k h1 h2
      rw [bad_at hx hy, a5] at h5
      have hwx : wrE x = true := by unfold wrE; simp [hw]
      rw [hwx] at h5
      simp at h5
      exact h5.2
    · have hx6 : x.kind = 6 ∨ x.kind = 8 := by
        rcases cl.2.1 with ((h | h) | h) | h
        · exact absurd h hw
        · exact absurd h a2
        · exact .inl h
        · exact .inr h
      have hy7 : y.kind = 7 := by
        rcases cl.2.2.2.1 with (h | h) | (h | h)
        · exact absurd h hw
        · exact absurd h a2
        · exact h
        · exact absurd h a4
      exact (ht.2 i k x y h1 hx hy hy7 hx6 a5).2
  show endI Ev.tx cmE edE L x.tx < endI Ev.tx cmE edE L y.tx
  rw [hq] at b1 ⊢
  omega
theorem order_lt {L : List Ev} {f t : Nat} {a b : Int} (h : endI Ev.tx cmE edE L a < endI Ev.tx cmE edE L b) (hf : (comE L)[f]? = some a) (ht : (comE L)[t]? = some b) : f < t := by
  have hs := commTo_srt L L.length
  rw [List.pairwise_iff_getElem] at hs
  obtain ⟨hf1, hf2⟩ := List.getElem?_eq_some_iff.1 hf
  obtain ⟨ht1, ht2⟩ := List.getElem?_eq_some_iff.1 ht
  apply Classical.byContradiction
  intro hn
  by_cases e : t = f
  · subst e; rw [hf2] at ht2; subst ht2; omega
  · have := hs t f ht1 hf1 (by omega)
    rw [hf2, ht2] at this
    omega
theorem edges_acy {L : List Ev} (hs : strictE L = true) (ht : tidyE L) : acyE (edgesE L) = true := acy_ranked (fun x => endI Ev.tx cmE edE L x) (fun e he => (edges_up hs ht e he).2.2)
end Go.Proofs.Ytjenchijenkndaa
