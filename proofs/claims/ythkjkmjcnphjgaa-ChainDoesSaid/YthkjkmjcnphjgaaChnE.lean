/- The statement ChainOrder: deeds, and the plain law. No condition. -/
import Derived.Test.YthkjkmjcnphjgaaChnD
import Derived.Test.YthkjkmjcnphjgaaChnZ
set_option linter.unusedVariables false
set_option linter.unusedSimpArgs false
namespace Go.Proofs.Ythkjkmjcnphjgaa
open Go.RowKit (wrap32 wrap64)
open Go.RowKit
structure Dd where
  kind : Int
  row : Int
  pl : Int
  i : Int
  deriving DecidableEq, Inhabited
def enDd (x : Dd) : List Value := [.int .i64 x.kind, .int .i64 x.row, .int .i64 x.pl, .int .i64 x.i]
def ksDd : List CK := [.int .i64, .int .i64, .int .i64, .int .i64]
def okDd (x : Dd) : Prop := (Lit.int .i64 x.kind).wf = true ∧ (Lit.int .i64 x.row).wf = true ∧ (Lit.int .i64 x.pl).wf = true ∧ (Lit.int .i64 x.i).wf = true
theorem enDd_len (x : Dd) : (enDd x).length = 4 := rfl
theorem decDd (c : List Value) (hl : c.length = ksDd.length) (h : PW ksDd c) : ∃ x : Dd, c = enDd x ∧ okDd x := by
  match c, hl with
  | [v0, v1, v2, v3], _ =>
    obtain ⟨n0, rfl, w0⟩ := h 0 _ v0 rfl rfl
    obtain ⟨n1, rfl, w1⟩ := h 1 _ v1 rfl rfl
    obtain ⟨n2, rfl, w2⟩ := h 2 _ v2 rfl rfl
    obtain ⟨n3, rfl, w3⟩ := h 3 _ v3 rfl rfl
    exact ⟨⟨n0, n1, n2, n3⟩, rfl, w0, w1, w2, w3⟩
abbrev Dds (w : World) (a : Option Addr) (n : Nat) (L : List Dd) : Prop := SR enDd okDd 4 w a n L
theorem Dd_at {w : World} {a : Option Addr} {n : Nat} {L : List Dd} (h : Dds w a n L) {i : Nat} (hi : i < n) : ∃ b off, ∃ x : Dd, a = some ⟨b, off, none⟩ ∧ b < w.heap.size ∧ L[i]? = some x ∧ okDd x ∧ w.cell? ⟨b, off + i * 4, none⟩ = some (.int .i64 x.kind) ∧ w.cell? ⟨b, off + i * 4 + 1, none⟩ = some (.int .i64 x.row) ∧ w.cell? ⟨b, off + i * 4 + 2, none⟩ = some (.int .i64 x.pl) ∧ w.cell? ⟨b, off + i * 4 + 3, none⟩ = some (.int .i64 x.i) := by
  obtain ⟨b, off, x, ha, hb, hx, hk, hc⟩ := h.get enDd_len hi
  exact ⟨b, off, x, ha, hb, hx, hk, hc 0 (by omega), hc 1 (by omega), hc 2 (by omega), hc 3 (by omega)⟩
theorem dd_row {w : World} {a : Option Addr} {len cap : Nat} {css : List (List Value)} (h : FlatRow w ksDd a len cap css) : ∃ L, Dds w a len L ∧ len ≤ cap ∧ cap ≤ maxLen ∧ (a = none → len = 0 ∧ cap = 0) := SR.flat (s := 4) (enc := enDd) (ok := okDd) rfl (by decide) enDd_len decDd h
theorem nodup_lt_len : ∀ (n : Nat) (l : List Nat), l.Nodup → (∀ x ∈ l, x < n) → l.length ≤ n
  | 0, l, _, h => by
    cases l with
    | nil => exact Nat.le_refl _
    | cons x l => exact absurd (h x (by simp)) (by omega)
  | n + 1, l, hn, h => by
    have ih := nodup_lt_len n (l.erase n) (hn.erase n) (fun x hx => by
      have h1 := (hn.mem_erase_iff).1 hx
      have h2 := h x h1.2
      have h3 := h1.1
      omega)
    have := List.length_erase (a := n) (l := l)
    split at this <;> omega
theorem Rel.rows {T : List Ln} {E : List En} {R : List (List Nat)} {n : Nat} (h : Rel T E R n) (r : Int) : (atR R r).Nodup ∧ (∀ x ∈ atR R r, x < n) ∧ (atR R r).length ≤ n := by
  have hd : (atR R r).Nodup ∧ (∀ x ∈ atR R r, x < n) := by
    unfold atR
    split
    · cases hq : R[r.toNat]? with
      | none => exact ⟨List.nodup_nil, by simp⟩
      | some l => exact ⟨h.nd l (List.mem_of_getElem? hq), h.lt l (List.mem_of_getElem? hq)⟩
    · exact ⟨List.nodup_nil, by simp⟩
  exact ⟨hd.1, hd.2, nodup_lt_len n _ hd.1 hd.2⟩
theorem Chn.rows {w : World} {g h1 h2 n : Nat} {R : List (List Nat)} (c : Chn w g h1 h2 n R) (r : Int) : (atR R r).length ≤ n := by
  obtain ⟨T, E, _, h⟩ := c
  exact (h.rows r).2.2
/-- A place that was cut is nowhere. -/
theorem Rel.gone {T : List Ln} {E : List En} {R : List (List Nat)} {n : Nat} (h : Rel T E R n) (i : Int) : atI (cutR R i) i = -1 := by
  refine idxB_miss _ _ (fun l hl => ?_)
  cases hh : hasI i l with
  | false => rfl
  | true =>
    obtain ⟨x, hx, rfl⟩ := hasI_iff.1 hh
    unfold cutR at hl
    split at hl
    · rename_i e
      rcases at_cases h (x : Int) with ⟨_, _, _, hno⟩ | ⟨r, y, A, B, e1, _, _, _, _, e2, _, _, _⟩
      · exact absurd rfl (hno l hl x hx)
      · omega
    · obtain ⟨m, hm, rfl⟩ := List.mem_map.1 hl
      rw [show ((x : Nat) : Int).toNat = x by omega] at hx
      exact absurd rfl (((h.nd m hm).mem_erase_iff).1 hx).1
theorem Rel.gone2 {T : List Ln} {E : List En} {R : List (List Nat)} {n : Nat} (h : Rel T E R n) (i : Int) : cutR (cutR R i) i = cutR R i := if_pos (h.gone i)
def keepB (i : Int) (q : Bool) (x : Int) : Bool := x != i || !q
/-- The row that is left. -/
theorem Rel.left {T : List Ln} {E : List En} {R : List (List Nat)} {n : Nat} (h : Rel T E R n) (i : Int) : natI (atR (cutR R i) (z1 (atI R i))) = (natI (atR R (z1 (atI R i)))).filter (keepB i (atI R i != -1)) := by
  rcases at_cases h i with ⟨h1, _, _, _⟩ | ⟨r, x, A, B, rfl, hx, hr, hR, hat, h1, _, hA, _⟩
  · have e : cutR R i = R := if_pos h1
    rw [e, h1]
    symm
    rw [List.filter_eq_self]
    intro y _
    unfold keepB
    simp
  · have e : cutR R (x : Int) = R.set r (A ++ B) := by
      unfold cutR
      rw [h1, if_neg (by omega), show ((x : Nat) : Int).toNat = x by omega]
      exact h.cut A B r x hR
    have e1 : z1 (r : Int) = r := if_neg (by omega)
    have e2 : ((r : Int) != -1) = true := bne_iff_ne.2 (by omega)
    rw [e, h1, e1, hat, e2]
    have e3 : atR (R.set r (A ++ B)) (r : Int) = A ++ B := by
      unfold atR
      rw [if_pos (by omega), show (r : Int).toNat = r by omega, List.getElem?_set_self (by rw [h.rl]; exact hr)]; rfl
    rw [e3]
    have hnd := h.nd _ (List.mem_of_getElem? hR)
    rw [List.nodup_append] at hnd
    have hB : x ∉ B := (List.nodup_cons.1 hnd.2.1).1
    have hno : ∀ l : List Nat, x ∉ l → (natI l).filter (keepB (x : Int) true) = natI l := fun l hl => by
      rw [List.filter_eq_self]
      intro y hy
      unfold natI at hy
      obtain ⟨z, hz, rfl⟩ := List.mem_map.1 hy
      unfold keepB
      have : (Int.ofNat z != (x : Int)) = true := bne_iff_ne.2 (fun e => hl (by have e' : (z : Int) = x := e; rw [show x = z by omega]; exact hz))
      rw [this]; rfl
    have hna : ∀ (l m : List Nat), natI (l ++ m) = natI l ++ natI m := fun l m => List.map_append
    rw [show A ++ x :: B = A ++ ([x] ++ B) from rfl, hna, hna, hna, List.filter_append, List.filter_append, hno A hA, hno B hB]
    have : (natI [x]).filter (keepB (x : Int) true) = [] := by
      unfold natI keepB
      simp
    rw [this]; rfl
/-- Each place stands once. -/
theorem Rel.once {T : List Ln} {E : List En} {R : List (List Nat)} {n : Nat} (h : Rel T E R n) (r k y : Nat) (hy : (atR R r)[k]? = some y) : (R.take r).any (hasI y) = false ∧ hasI y ((atR R r).take k) = false := by
  have hr : r < n := by
    rcases Nat.lt_or_ge r n with h1 | h1
    · exact h1
    · unfold atR at hy
      rw [if_pos (by omega), show (r : Int).toNat = r by omega, (List.getElem?_eq_none (by rw [h.rl]; exact h1) : R[r]? = none)] at hy
      simp at hy
  have hrow := atR_in h.rl hr
  constructor
  · cases hh : (R.take r).any (hasI y) with
    | false => rfl
    | true =>
      obtain ⟨l, hl, hl2⟩ := List.any_eq_true.1 hh
      obtain ⟨x, hx, e⟩ := hasI_iff.1 hl2
      obtain rfl : x = y := by omega
      obtain ⟨s, hs, hse⟩ := List.getElem_of_mem hl
      rw [List.length_take] at hs
      have h2 : R[s]? = some l := by
        rw [← hse, List.getElem_take, List.getElem?_eq_getElem]
      have := h.one h2 hrow hx (List.mem_of_getElem? hy)
      omega
  · cases hh : hasI y ((atR R r).take k) with
    | false => rfl
    | true =>
      obtain ⟨x, hx, e⟩ := hasI_iff.1 hh
      obtain rfl : x = y := by omega
      have hnd := (h.rows r).1
      have hsp : atR R r = (atR R r).take k ++ x :: (atR R r).drop (k + 1) := by
        obtain ⟨h1, h2⟩ := List.getElem?_eq_some_iff.1 hy
        rw [← h2]; simp
      rw [hsp, List.nodup_append] at hnd
      exact absurd rfl (hnd.2.2 x hx x (by simp))
def metO (R : List (List Nat)) (r : Nat) (z : Int) : Bool := (R.take r).any (hasI z)
def metI (R : List (List Nat)) (r k : Nat) (z : Int) : Bool := metO R r z || hasI z ((atR R r).take k)
theorem metI_zero (R : List (List Nat)) (r : Nat) : metI R r 0 = metO R r := by funext z; unfold metI; simp [hasI]
theorem metI_snoc (R : List (List Nat)) (r k y : Nat) (hy : (atR R r)[k]? = some y) : (fun z => z == (y : Int) || metI R r k z) = metI R r (k + 1) := by
  funext z
  unfold metI
  rw [take_snocG _ k y hy]
  unfold hasI
  rw [List.any_append]
  have : [y].any (isI z) = (z == (y : Int)) := by
    unfold isI
    simp only [List.any_cons, List.any_nil, Bool.or_false]
    rw [Bool.eq_iff_iff]
    simp only [beq_iff_eq]
    exact ⟨fun h => h.symm, fun h => h.symm⟩
  rw [this]
  cases (z == (y : Int)) <;> cases metO R r z <;> simp
theorem metI_all {R : List (List Nat)} {n r : Nat} (hR : R.length = n) (hr : r < n) : metI R r (atR R r).length = metO R (r + 1) := by
  funext z
  unfold metI metO
  rw [List.take_length, take_snocG R r _ (atR_in hR hr), List.any_append]
  simp
end Go.Proofs.Ythkjkmjcnphjgaa
