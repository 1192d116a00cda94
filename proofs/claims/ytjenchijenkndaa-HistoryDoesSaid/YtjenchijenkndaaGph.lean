/- Edges: their order, sorted rows, what peeling leaves, who reaches itself. Plain. No condition. -/
import Derived.Test.YtjenchijenkndaaRecEg
set_option linter.unusedVariables false
set_option linter.unusedSimpArgs false
namespace Go.Proofs.Ytjenchijenkndaa
def ltEg (a b : Eg) : Bool := decide (a.src < b.src) || (decide (a.src = b.src) && decide (a.dst < b.dst))
theorem ltEg_iff (a b : Eg) : ltEg a b = true ↔ a.src < b.src ∨ (a.src = b.src ∧ a.dst < b.dst) := by unfold ltEg; simp
theorem eg_eq {a b : Eg} : a = b ↔ a.src = b.src ∧ a.dst = b.dst := by
  cases a; cases b
  simp
theorem ltEg_irrefl (a : Eg) : ltEg a a = false := by
  cases h : ltEg a a with
  | false => rfl
  | true => rw [ltEg_iff] at h; omega
theorem ltEg_trans {a b c : Eg} (h : ltEg a b = true) (k : ltEg b c = true) : ltEg a c = true := by rw [ltEg_iff] at *; omega
theorem ltEg_tri {a b : Eg} (h : ltEg a b = false) (n : a ≠ b) : ltEg b a = true := by
  have h : ¬ ltEg a b = true := by rw [h]; simp
  rw [ltEg_iff] at *
  have : ¬ (a.src = b.src ∧ a.dst = b.dst) := fun e => n (eg_eq.2 e)
  omega
def SrtEg (O : List Eg) : Prop := O.Pairwise fun a b => ltEg a b = true
theorem srtEg_nodup {O : List Eg} (h : SrtEg O) : O.Nodup := List.Pairwise.imp (fun {a b} hab e => by rw [e, ltEg_irrefl] at hab; cases hab) h
theorem srtEg_eq {A B : List Eg} (hp : ∀ e, e ∈ A ↔ e ∈ B) (ha : SrtEg A) (hb : SrtEg B) : A = B := by
  induction A generalizing B with
  | nil =>
    cases B with
    | nil => rfl
    | cons b B => exact absurd ((hp b).2 (by simp)) (by simp)
  | cons a A ih =>
    cases B with
    | nil => exact absurd ((hp a).1 (by simp)) (by simp)
    | cons b B =>
      have h1 := List.pairwise_cons.1 ha
      have h2 := List.pairwise_cons.1 hb
      have e : a = b := by
        rcases List.mem_cons.1 ((hp a).1 (by simp)) with e | hm
        · exact e
        · rcases List.mem_cons.1 ((hp b).2 (by simp)) with e | hn
          · exact e.symm
          · have := ltEg_trans (h2.1 a hm) (h1.1 b hn)
            rw [ltEg_irrefl] at this; cases this
      subst e
      rw [ih (fun e => ?_) h1.2 h2.2]
      have := hp e
      simp only [List.mem_cons] at this
      constructor
      · intro h
        rcases this.1 (.inr h) with rfl | h3
        · have := h1.1 e h; rw [ltEg_irrefl] at this; cases this
        · exact h3
      · intro h
        rcases this.2 (.inr h) with rfl | h3
        · have := h2.1 e h; rw [ltEg_irrefl] at this; cases this
        · exact h3
/-- Put in its place, once. -/
def insEg : List Eg → Eg → List Eg
  | [], e => [e]
  | x :: O, e => if ltEg x e = true then x :: insEg O e else if x = e then x :: O else e :: x :: O
theorem insEg_mem (O : List Eg) (e x : Eg) : x ∈ insEg O e ↔ x = e ∨ x ∈ O := by
  induction O with
  | nil => unfold insEg; simp
  | cons y O ih =>
    unfold insEg
    split
    · rw [List.mem_cons, ih, List.mem_cons]
      constructor
      · rintro (h | h | h)
        · exact .inr (.inl h)
        · exact .inl h
        · exact .inr (.inr h)
      · rintro (h | h | h)
        · exact .inr (.inl h)
        · exact .inl h
        · exact .inr (.inr h)
    · split
      · rename_i h
        subst h
        simp
      · simp
theorem insEg_srt {O : List Eg} (h : SrtEg O) (e : Eg) : SrtEg (insEg O e) := by
  induction O with
  | nil => unfold insEg SrtEg; simp
  | cons y O ih =>
    have h1 := List.pairwise_cons.1 h
    unfold insEg
    split
    · rename_i hl
      refine List.pairwise_cons.2 ⟨fun x hx => ?_, ih h1.2⟩
      rcases (insEg_mem O e x).1 hx with rfl | hx
      · exact hl
      · exact h1.1 x hx
    · rename_i hl
      split
      · exact h
      · rename_i hne
        have hel : ltEg e y = true := ltEg_tri (Bool.eq_false_iff.2 hl) hne
        refine List.pairwise_cons.2 ⟨fun x hx => ?_, h⟩
        rcases List.mem_cons.1 hx with rfl | hx
        · exact hel
        · exact ltEg_trans hel (h1.1 x hx)
theorem insEg_len (O : List Eg) (e : Eg) : (insEg O e).length ≤ O.length + 1 := by
  induction O with
  | nil => unfold insEg; simp
  | cons y O ih =>
    unfold insEg
    split
    · rw [List.length_cons, List.length_cons]; omega
    · split
      · rw [List.length_cons]; omega
      · rw [List.length_cons, List.length_cons]; omega
def sortEg (L : List Eg) : List Eg := L.foldl insEg []
theorem sortEg_snoc (L : List Eg) (e : Eg) : sortEg (L ++ [e]) = insEg (sortEg L) e := by unfold sortEg; rw [List.foldl_append]; rfl
theorem foldl_ins (L O : List Eg) : (∀ x, x ∈ L.foldl insEg O ↔ x ∈ L ∨ x ∈ O) ∧ (SrtEg O → SrtEg (L.foldl insEg O)) ∧ (L.foldl insEg O).length ≤ L.length + O.length := by
  induction L generalizing O with
  | nil => exact ⟨fun x => by simp, fun h => h, by simp⟩
  | cons e L ih =>
    obtain ⟨h1, h2, h3⟩ := ih (insEg O e)
    refine ⟨fun x => ?_, fun h => h2 (insEg_srt h e), ?_⟩
    · rw [List.foldl_cons, h1, insEg_mem, List.mem_cons]
      constructor
      · rintro (h | h | h)
        · exact .inl (.inr h)
        · exact .inl (.inl h)
        · exact .inr h
      · rintro ((h | h) | h)
        · exact .inr (.inl h)
        · exact .inl h
        · exact .inr (.inr h)
    · rw [List.foldl_cons, List.length_cons]
      have := insEg_len O e
      omega
theorem sortEg_mem (L : List Eg) (x : Eg) : x ∈ sortEg L ↔ x ∈ L := by
  have := (foldl_ins L []).1 x
  simp at this
  exact this
theorem sortEg_srt (L : List Eg) : SrtEg (sortEg L) := (foldl_ins L []).2.1 List.Pairwise.nil
theorem sortEg_len (L : List Eg) : (sortEg L).length ≤ L.length := by
  have := (foldl_ins L []).2.2
  unfold sortEg
  simpa using this
/-- Those that lead on. -/
def peelE (E : List Eg) : List Eg := E.filter fun e => E.any fun f => f.src == e.dst
theorem peel_len (E : List Eg) : (peelE E).length ≤ E.length := List.length_filter_le _ _
theorem peel_mem {E : List Eg} {e : Eg} : e ∈ peelE E ↔ e ∈ E ∧ ∃ f ∈ E, f.src = e.dst := by
  unfold peelE
  rw [List.mem_filter, List.any_eq_true]
  simp only [beq_iff_eq]
/-- Peeled until nothing is left, or nothing goes. -/
def acyF : Nat → List Eg → Bool
  | 0, _ => true
  | n + 1, E => if E = [] then true else if (peelE E).length = E.length then false else acyF n (peelE E)
def acyE (E : List Eg) : Bool := acyF (E.length + 1) E
theorem acyF_more {n m : Nat} {E : List Eg} (h : E.length < n) (k : E.length < m) : acyF n E = acyF m E := by
  induction n generalizing m E with
  | zero => omega
  | succ n ih =>
    cases m with
    | zero => omega
    | succ m =>
      unfold acyF
      split
      · rfl
      · split
        · rfl
        · have := peel_len E
          exact ih (by omega) (by omega)
theorem acy_nil : acyE [] = true := rfl
theorem acy_stuck {E : List Eg} (h0 : E ≠ []) (h : (peelE E).length = E.length) : acyE E = false := by unfold acyE acyF; rw [if_neg h0, if_pos h]
theorem acy_on {E : List Eg} (h : (peelE E).length ≠ E.length) : acyE E = acyE (peelE E) := by
  have h0 : E ≠ [] := fun e => by subst e; exact h rfl
  have hl := peel_len E
  unfold acyE
  rw [acyF, if_neg h0, if_neg h]
  exact acyF_more (by omega) (by omega)
/-- A set of edges that each lead on within it. -/
def OnW (E C : List Eg) : Prop := C ≠ [] ∧ (∀ e ∈ C, e ∈ E) ∧ ∀ e ∈ C, ∃ f ∈ C, f.src = e.dst
theorem onW_peel {E C : List Eg} (h : OnW E C) : OnW (peelE E) C :=
  ⟨h.1, fun e he => peel_mem.2 ⟨h.2.1 e he, by obtain ⟨f, hf, e2⟩ := h.2.2 e he; exact ⟨f, h.2.1 f hf, e2⟩⟩, h.2.2⟩
theorem acyF_iff (n : Nat) (E : List Eg) (hn : E.length < n) : acyF n E = false ↔ ∃ C, OnW E C := by
  induction n generalizing E with
  | zero => omega
  | succ n ih =>
    unfold acyF
    by_cases h0 : E = []
    · rw [if_pos h0]
      subst h0
      constructor
      · intro h; cases h
      · rintro ⟨C, h1, h2, _⟩
        cases C with
        | nil => exact absurd rfl h1
        | cons c C => exact absurd (h2 c (by simp)) (by simp)
    · rw [if_neg h0]
      by_cases h1 : (peelE E).length = E.length
      · rw [if_pos h1]
        refine ⟨fun _ => ⟨E, h0, fun e he => he, fun e he => ?_⟩, fun _ => rfl⟩
        have he2 : e ∈ peelE E := by
          have : peelE E = E := by
            unfold peelE at h1 ⊢
            rw [List.filter_eq_self]
            exact List.length_filter_eq_length_iff.1 h1
          rw [this]; exact he
        exact (peel_mem.1 he2).2
      · rw [if_neg h1]
        have hl := peel_len E
        rw [ih (peelE E) (by omega)]
        constructor
        · rintro ⟨C, h2, h3, h4⟩
          exact ⟨C, h2, fun e he => (peel_mem.1 (h3 e he)).1, h4⟩
        · rintro ⟨C, h⟩
          exact ⟨C, onW_peel h⟩
theorem acyE_iff (E : List Eg) : acyE E = false ↔ ∃ C, OnW E C := acyF_iff _ E (by omega)
/-- Edges that all go up lead nowhere round about. -/
theorem acy_ranked {E : List Eg} (rk : Int → Int) (h : ∀ e ∈ E, rk e.src < rk e.dst) : acyE E = true := by
  cases ha : acyE E with
  | true => rfl
  | false =>
    exfalso
    obtain ⟨C, h0, h1, h2⟩ := (acyE_iff E).1 ha
    have hmax : ∀ (D : List Eg), D ≠ [] → ∃ e ∈ D, ∀ f ∈ D, rk f.dst ≤ rk e.dst := by
      intro D
      induction D with
      | nil => intro h; exact absurd rfl h
      | cons d D ih =>
        intro _
        by_cases hD : D = []
        · subst hD
          exact ⟨d, by simp, fun f hf => by rw [List.mem_singleton.1 hf]; exact Int.le_refl _⟩
        · obtain ⟨e, he, hm⟩ := ih hD
          by_cases hle : rk e.dst ≤ rk d.dst
          · refine ⟨d, by simp, fun f hf => ?_⟩
            rcases List.mem_cons.1 hf with rfl | hf
            · exact Int.le_refl _
            · exact Int.le_trans (hm f hf) hle
          · refine ⟨e, by simp [he], fun f hf => ?_⟩
            rcases List.mem_cons.1 hf with rfl | hf
            · omega
            · exact hm f hf
    obtain ⟨e, he, hm⟩ := hmax C h0
    obtain ⟨f, hf, hs⟩ := h2 e he
    have a := hm f hf
    have b := h f (h1 f hf)
    rw [hs] at b
    omega
/-- A walk of n + 1 edges. -/
def walkE (E : List Eg) : Nat → Int → Int → Prop
  | 0, x, y => (⟨x, y⟩ : Eg) ∈ E
  | n + 1, x, y => ∃ z, walkE E n x z ∧ (⟨z, y⟩ : Eg) ∈ E
/-- Who leads on within a set, comes round within as many edges. -/
theorem onW_ring {E C : List Eg} (h : OnW E C) : ∃ x n, n < E.length ∧ walkE E n x x := by
  obtain ⟨h0, h1, h2⟩ := h
  have hnext : ∀ e : {e // e ∈ C}, ∃ f : {f // f ∈ C}, f.1.src = e.1.dst := fun ⟨e, he⟩ => by
    obtain ⟨f, hf, hs⟩ := h2 e he
    exact ⟨⟨f, hf⟩, hs⟩
  let nx : {e // e ∈ C} → {e // e ∈ C} := fun e => (hnext e).choose
  have hnx : ∀ e, (nx e).1.src = e.1.dst := fun e => (hnext e).choose_spec
  obtain ⟨c, hc⟩ : ∃ c, c ∈ C := by
    cases C with
    | nil => exact absurd rfl h0
    | cons c C => exact ⟨c, by simp⟩
  let it : Nat → {e // e ∈ C} := fun n => Nat.rec ⟨c, hc⟩ (fun _ e => nx e) n
  have hit : ∀ n, (it (n + 1)).1.src = (it n).1.dst := fun n => hnx (it n)
  have hw : ∀ i n, walkE E n (it i).1.src (it (i + n)).1.dst := by
    intro i n
    induction n with
    | zero => exact h1 _ (it i).2
    | succ n ih => exact ⟨_, ih, by
        have e := hit (i + n)
        show (⟨(it (i + n)).1.dst, (it (i + n + 1)).1.dst⟩ : Eg) ∈ E
        rw [← e]
        exact h1 _ (it (i + n + 1)).2⟩
  have hnot : ¬ ((List.range (E.length + 1)).map fun i => (it i).1).Nodup := fun hd => by
    have := hd.length_le_of_subset (l₂ := E) (fun e he => by
      obtain ⟨i, _, rfl⟩ := List.mem_map.1 he
      exact h1 _ (it i).2)
    rw [List.length_map, List.length_range] at this
    omega
  have hex : ∃ i j, i < j ∧ j < E.length + 1 ∧ (it i).1 = (it j).1 := by
    apply Classical.byContradiction
    intro hno
    apply hnot
    rw [List.Nodup, List.pairwise_iff_getElem]
    intro i j hi hj hij e
    simp at hi hj e
    exact hno ⟨i, j, hij, hj, e⟩
  obtain ⟨i, j, hij, hj, e⟩ := hex
  refine ⟨(it i).1.src, j - i - 1, by omega, ?_⟩
  have hwk := hw i (j - i - 1)
  have e2 : (it (i + (j - i - 1))).1.dst = (it i).1.src := by
    rw [e, show j = (i + (j - i - 1)) + 1 by omega, hit]
    rw [show i + (i + (j - i - 1) + 1 - i - 1) = i + (j - i - 1) by omega]
  rw [e2] at hwk
  exact hwk
theorem ring_onW {E : List Eg} {n : Nat} {x : Int} (h : walkE E n x x) : ∃ C, OnW E C := by
  have gen : ∀ n x y, walkE E n x y → ∃ C, C ≠ [] ∧ (∀ e ∈ C, e ∈ E) ∧ (∃ e ∈ C, e.src = x) ∧ ∀ e ∈ C, (e.dst = y ∨ ∃ f ∈ C, f.src = e.dst) := by
    intro n
    induction n with
    | zero =>
      intro x y h
      refine ⟨[⟨x, y⟩], by simp, fun e he => by rw [List.mem_singleton.1 he]; exact h, ⟨⟨x, y⟩, by simp, rfl⟩, fun e he => .inl (by rw [List.mem_singleton.1 he])⟩
    | succ n ih =>
      rintro x y ⟨z, h1, h2⟩
      obtain ⟨C, a, b, c, d⟩ := ih x z h1
      refine ⟨⟨z, y⟩ :: C, by simp, fun e he => ?_, ?_, fun e he => ?_⟩
      · rcases List.mem_cons.1 he with rfl | he
        · exact h2
        · exact b e he
      · obtain ⟨e, he, hs⟩ := c
        exact ⟨e, by simp [he], hs⟩
      · rcases List.mem_cons.1 he with rfl | he
        · exact .inl rfl
        · rcases d e he with hz | ⟨f, hf, hs⟩
          · exact .inr ⟨⟨z, y⟩, by simp, hz.symm⟩
          · exact .inr ⟨f, by simp [hf], hs⟩
  obtain ⟨C, a, b, ⟨e0, he0, hs0⟩, d⟩ := gen n x x h
  refine ⟨C, a, b, fun e he => ?_⟩
  rcases d e he with hx | h
  · exact ⟨e0, he0, by rw [hs0, hx]⟩
  · exact h
theorem acy_ring (E : List Eg) : acyE E = false ↔ ∃ x n, n < E.length ∧ walkE E n x x := by
  rw [acyE_iff]
  exact ⟨fun ⟨C, h⟩ => onW_ring h, fun ⟨x, n, _, h⟩ => ring_onW h⟩
end Go.Proofs.Ytjenchijenkndaa
