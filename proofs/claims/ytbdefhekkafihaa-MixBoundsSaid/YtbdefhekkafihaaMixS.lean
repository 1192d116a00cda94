/- mix: what all drawn operations are; the example. No condition. -/
import Derived.Test.YtbdefhekkafihaaMixC
import Derived.Test.YtbdefhekkafihaaMixR
set_option linter.unusedVariables false
set_option linter.unusedSimpArgs false
namespace Go.Proofs.Ytbdefhekkafihaa
open Go.RowKit (wrap32 wrap64)
open Go.RowKit Go.Shelf
def drawnA (rw wq sc : Int) (x : Ac) : Prop := x = bgnA ∨ x = cmtA ∨ ∃ s, x = (oneP rw wq sc s).1
theorem drawN_all (rw wq sc : Int) (n : Nat) (s : Int) : ∀ x ∈ (drawN rw wq sc n s).1, drawnA rw wq sc x := by
  induction n with
  | zero => intro x hx; cases hx
  | succ n ih =>
    intro x hx
    unfold drawN at hx
    rcases List.mem_append.1 hx with hx | hx
    · exact ih x hx
    · exact .inr (.inr ⟨_, List.mem_singleton.1 hx⟩)
theorem txN_all (rw wq sc : Int) (ops t : Nat) (s : Int) : ∀ x ∈ (txN rw wq sc ops t s).1, drawnA rw wq sc x := by
  induction t with
  | zero => intro x hx; cases hx
  | succ t ih =>
    intro x hx
    unfold txN at hx
    rcases List.mem_append.1 hx with hx | hx
    · rcases List.mem_append.1 hx with hx | hx
      · rcases List.mem_append.1 hx with hx | hx
        · exact ih x hx
        · exact .inl (List.mem_singleton.1 hx)
      · exact drawN_all _ _ _ _ _ x hx
    · exact .inr (.inl (List.mem_singleton.1 hx))
theorem clN_all (rw wq sc : Int) (ops txs c : Nat) (s : Int) : ∀ l ∈ (clN rw wq sc ops txs c s).1, ∃ s', l = (txN rw wq sc ops txs s').1 := by
  induction c with
  | zero => intro x hx; cases hx
  | succ c ih =>
    intro l hl
    unfold clN at hl
    rcases List.mem_append.1 hl with hl | hl
    · exact ih l hl
    · exact ⟨_, List.mem_singleton.1 hl⟩
/-- Of all operations of a recipe. -/
theorem opsL_all (cl tx op rw wq sc sd : Int) : ∀ l ∈ opsL cl tx op rw wq sc sd, mayR cl tx op rw wq sc = true ∧ ∃ s, l = (txN rw wq sc op.toNat tx.toNat s).1 := by
  intro l hl
  unfold opsL at hl
  split at hl
  · rename_i h
    exact ⟨h, clN_all _ _ _ _ _ _ _ l hl⟩
  · cases hl
theorem opsL_len8 (cl tx op rw wq sc sd : Int) : (opsL cl tx op rw wq sc sd).length ≤ 8 := by
  unfold opsL
  split
  · rename_i h
    have := (mayR_iff cl tx op rw wq sc).1 h
    rw [clN_len]; omega
  · exact Nat.zero_le _
theorem opsL_row64 (cl tx op rw wq sc sd : Int) : ∀ l ∈ opsL cl tx op rw wq sc sd, l.length ≤ 64 := by
  intro l hl
  obtain ⟨h, s, rfl⟩ := opsL_all _ _ _ _ _ _ _ l hl
  have := (mayR_iff cl tx op rw wq sc).1 h
  rw [txN_len]
  exact Nat.le_trans (Nat.mul_le_mul (show tx.toNat ≤ 8 by omega) (show op.toNat + 2 ≤ 8 by omega)) (by omega)
theorem flatten_le {α : Type} (LL : List (List α)) (m : Nat) (h : ∀ l ∈ LL, l.length ≤ m) : LL.flatten.length ≤ LL.length * m := by
  induction LL with
  | nil => simp
  | cons l LL ih =>
    rw [List.flatten_cons, List.length_append, List.length_cons, Nat.add_mul]
    have := h l (by simp)
    have := ih (fun x hx => h x (by simp [hx]))
    omega
theorem opsL_flat (cl tx op rw wq sc sd : Int) : (opsL cl tx op rw wq sc sd).flatten.length ≤ 10000 := by
  have h1 := flatten_le _ 64 (opsL_row64 cl tx op rw wq sc sd)
  have h2 := opsL_len8 cl tx op rw wq sc sd
  omega
theorem opsL_mem (cl tx op rw wq sc sd : Int) : ∀ x ∈ (opsL cl tx op rw wq sc sd).flatten, (1 ≤ rw ∧ rw ≤ 100) ∧ drawnA rw wq sc x := by
  intro x hx
  obtain ⟨l, hl, hxl⟩ := List.mem_flatten.1 hx
  obtain ⟨h, s, rfl⟩ := opsL_all _ _ _ _ _ _ _ l hl
  have := (mayR_iff cl tx op rw wq sc).1 h
  exact ⟨this.2.2.2.1, txN_all _ _ _ _ _ _ x hxl⟩
theorem drawn_val {rw wq sc : Int} {x : Ac} (h : drawnA rw wq sc x) : 0 ≤ x.val ∧ x.val ≤ 999 := by
  rcases h with rfl | rfl | ⟨s, rfl⟩
  · decide
  · decide
  · have hv1 := Int.emod_nonneg (nextG (nextG (nextG s))) (show (1000 : Int) ≠ 0 by omega)
    have hv2 := Int.emod_lt_of_pos (nextG (nextG (nextG s))) (show (0 : Int) < 1000 by omega)
    unfold oneP
    dsimp only
    split
    · exact ⟨hv1, by show nextG (nextG (nextG s)) % 1000 ≤ 999; omega⟩
    · split
      · exact ⟨Int.le_refl _, by show (0 : Int) ≤ 999; omega⟩
      · exact ⟨Int.le_refl _, by show (0 : Int) ≤ 999; omega⟩
theorem drawn_leaf {rw wq sc : Int} {x : Ac} (hr : 1 ≤ rw ∧ rw ≤ 100) (h : drawnA rw wq sc x) (hb : rowsB x = true) : ∃ n : Nat, (n : Int) < rw ∧ acP x = rowP n := by
  unfold rowsB at hb
  simp only [Bool.and_eq_true, beq_iff_eq] at hb
  rcases h with rfl | rfl | ⟨s, rfl⟩
  · exact absurd hb.2 (by decide)
  · exact absurd hb.2 (by decide)
  · have hn1 := Int.emod_nonneg (nextG s) (show rw ≠ 0 by omega)
    have hn2 := Int.emod_lt_of_pos (nextG s) (show 0 < rw by omega)
    obtain ⟨n, hn⟩ : ∃ n : Nat, nextG s % rw = n := ⟨(nextG s % rw).toNat, by omega⟩
    refine ⟨n, by omega, ?_⟩
    revert hb
    unfold oneP
    dsimp only
    rw [hn]
    split
    · intro _; rfl
    · split
      · intro hb
        exact absurd hb.2 (by show ¬ ((3 : Nat) : Int) = 4; decide)
      · intro _; rfl
theorem leaf_of {rw wq sc : Int} {L : List Ac} (h : ∀ x ∈ L, (1 ≤ rw ∧ rw ≤ 100) ∧ drawnA rw wq sc x) : ∀ p ∈ rowsP L, ∃ n : Nat, (n : Int) < rw ∧ rw ≤ 100 ∧ p = rowP n := by
  intro p hp
  have hp := (rowsP_mem L p).1 hp
  unfold leaves at hp
  obtain ⟨x, hx, rfl⟩ := List.mem_map.1 hp
  obtain ⟨h1, h2⟩ := List.mem_filter.1 hx
  obtain ⟨n, hn, e⟩ := drawn_leaf (h x h1).1 (h x h1).2 h2
  exact ⟨n, hn, (h x h1).1.2, e⟩
theorem rows_few {rw wq sc : Int} {L : List Ac} (h : ∀ x ∈ L, (1 ≤ rw ∧ rw ≤ 100) ∧ drawnA rw wq sc x) : (rowsP L).length ≤ rw.toNat := by
  have hnd := srtP_nodup (rowsP_srt L)
  have hs : ∀ p ∈ rowsP L, p ∈ (List.range rw.toNat).map (fun n : Nat => rowP (n : Int)) := fun p hp => by
    obtain ⟨n, hn, _, rfl⟩ := leaf_of h p hp
    exact List.mem_map.2 ⟨n, List.mem_range.2 (by omega), rfl⟩
  have := hnd.length_le_of_subset hs
  simpa using this
/-- What the statement asks of each row. -/
def boxedP (p : Pt) : Prop := p.n0 = 1 ∧ (1 ≤ p.n1 ∧ p.n1 ≤ 4) ∧ (1 ≤ p.n2 ∧ p.n2 ≤ 5) ∧ (1 ≤ p.n3 ∧ p.n3 ≤ 5)
theorem rows_boxed {rw wq sc : Int} {L : List Ac} (h : ∀ x ∈ L, (1 ≤ rw ∧ rw ≤ 100) ∧ drawnA rw wq sc x) : ∀ p ∈ rowsP L, boxedP p := by
  intro p hp
  obtain ⟨n, hn, hr, rfl⟩ := leaf_of h p hp
  unfold boxedP rowP
  dsimp only
  omega
-- the example
def Awk1 (w : World) (e : Ending) (w' : World) : Prop := ∃ b off c b0 off0 c0, e = .returned (.slice (some ⟨b, off, none⟩) 2 c) ∧ w'.cell? ⟨b, off, none⟩ = some (.slice (some ⟨b0, off0, none⟩) 3 c0) ∧ w'.cell? ⟨b0, off0 + 7, none⟩ = some (.int .i64 2) ∧ Below w.heap.size w w'
def Awk2 (w : World) (e : Ending) (w' : World) : Prop := ∃ b off c a0 c0, e = .returned (.slice (some ⟨b, off, none⟩) 1 c) ∧ w'.cell? ⟨b, off, none⟩ = some (.slice a0 0 c0) ∧ Below w.heap.size w w'
theorem hr_at {w : World} {A : Option Addr} {n : Nat} {hs : List Hr} (h : SR enHr okHr 1 w A n hs) (h0 : 0 < n) : ∃ b off x, A = some ⟨b, off, none⟩ ∧ hs[0]? = some x ∧ w.cell? ⟨b, off, none⟩ = some (.slice x.a x.len x.cap) := by
  obtain ⟨b, off, x, ha, _, hx, _, hc⟩ := h.get enHr_len h0
  have c0 := hc 0 (by omega)
  simp only [Nat.zero_mul, Nat.add_zero] at c0
  exact ⟨b, off, x, ha, hx, c0⟩
theorem awk1 (w : World) : Calls Try.prog 7 #[.agg #[.int .i64 2, .int .i64 1, .int .i64 1, .int .i64 1, .int .i64 0, .int .i64 0, .int .u64 0]] w (Awk1 w) := by
  refine (mops_any 2 1 1 1 0 0 0 ⟨by omega, by omega⟩ w).mono fun e w' ⟨A, c, hs, he, h1, h2, _, _, hb⟩ => ?_
  have hl : (opsL 2 1 1 1 0 0 0).length = 2 := by
    unfold opsL
    rw [if_pos (by decide), clN_len]
    rfl
  have hrow : ∃ s, (opsL 2 1 1 1 0 0 0)[0]? = some (txN 1 0 0 1 1 s).1 := by
    obtain ⟨_, s, e⟩ := opsL_all 2 1 1 1 0 0 0 (opsL 2 1 1 1 0 0 0)[0] (List.getElem_mem (by rw [hl]; omega))
    exact ⟨s, by rw [List.getElem?_eq_getElem (by rw [hl]; omega), e]; rfl⟩
  obtain ⟨s, hrow⟩ := hrow
  rw [hl] at he h1
  obtain ⟨b, off, x, rfl, hx, c0⟩ := hr_at h1 (by omega)
  obtain ⟨hr, _⟩ := h2.row 0 x _ hx hrow
  have hlen : x.len = 3 := by rw [← hr.len, txN_len]
  have hel : (txN 1 0 0 1 1 s).1[1]? = some (oneP 1 0 0 s).1 := by simp only [txN, drawN, List.nil_append, List.cons_append, List.getElem?_cons_succ, List.getElem?_cons_zero]
  obtain ⟨b0, off0, y, ha, _, hy, _, hc⟩ := hr.get enAc_len (i := 1) (by rw [hlen]; omega)
  rw [hel] at hy
  cases hy
  have c1 := hc 0 (by omega)
  have hk : (oneP 1 0 0 s).1.kind = 2 := by
    have h3 := Int.emod_nonneg (nextG (nextG s)) (show (100 : Int) ≠ 0 by omega)
    unfold oneP
    dsimp only
    rw [if_neg (by omega), if_neg (by omega)]
  rw [ha, hlen] at c0
  refine ⟨b, off, c, b0, off0, x.cap, he, c0, ?_, hb⟩
  rw [show off0 + 1 * 7 + 0 = off0 + 7 by omega] at c1
  rw [c1]
  show some (Value.int .i64 (oneP 1 0 0 s).1.kind) = _
  rw [hk]
theorem awk2 (w : World) : Calls Try.prog 7 #[.agg #[.int .i64 1, .int .i64 0, .int .i64 0, .int .i64 1, .int .i64 0, .int .i64 0, .int .u64 0]] w (Awk2 w) := by
  refine (mops_any 1 0 0 1 0 0 0 ⟨by omega, by omega⟩ w).mono fun e w' ⟨A, c, hs, he, h1, h2, _, _, hb⟩ => ?_
  have hl : (opsL 1 0 0 1 0 0 0).length = 1 := by
    unfold opsL
    rw [if_pos (by decide), clN_len]
    rfl
  obtain ⟨s, hrow⟩ : ∃ s, (opsL 1 0 0 1 0 0 0)[0]? = some (txN 1 0 0 0 0 s).1 := by
    obtain ⟨_, s, e⟩ := opsL_all 1 0 0 1 0 0 0 (opsL 1 0 0 1 0 0 0)[0] (List.getElem_mem (by rw [hl]; omega))
    exact ⟨s, by rw [List.getElem?_eq_getElem (by rw [hl]; omega), e]; rfl⟩
  rw [hl] at he h1
  obtain ⟨b, off, x, rfl, hx, c0⟩ := hr_at h1 (by omega)
  obtain ⟨hr, _⟩ := h2.row 0 x _ hx hrow
  have hlen : x.len = 0 := by rw [← hr.len, txN_len]
  rw [hlen] at c0
  exact ⟨b, off, c, x.a, x.cap, he, c0, hb⟩
set_option maxHeartbeats 2000000 in
theorem awake45 (w : World) : Calls Try.prog 6 #[] w fun e w' => e = .returned (.bool true) ∧ Below w.heap.size w w' := by
  have M1 : True := trivial
  go_enter Try.func6, Try.ntmps6
  go_wp2_with (first
    | (go_at_call 7; (have m_ := M1; clear M1 m_); refine (awk1 _).mono ?_; rintro e w1 ⟨b, off, c, b0, off0, c0, rfl, k0, k1, hb1⟩)
    | (go_at_call 7; refine (awk2 _).mono ?_; rintro e w2 ⟨b', off', c', a', c0', rfl, k2, hb2⟩))
  go_ret
  exact ⟨rfl, bl_then hb1 (Nat.le_refl _) hb2⟩
end Go.Proofs.Ytbdefhekkafihaa
