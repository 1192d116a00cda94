/- mix: what is drawn, plain. No condition. -/
import Derived.Test.YtbdefhekkafihaaMixB
set_option linter.unusedVariables false
set_option linter.unusedSimpArgs false
namespace Go.Proofs.Ytbdefhekkafihaa
open Go.RowKit (wrap32 wrap64)
open Go.RowKit Go.Shelf
/-- One operation, and the seed behind it. -/
def oneP (rw wr sc s : Int) : Ac × Int :=
  let s1 := nextG s
  let p := rowP (s1 % rw)
  let s2 := nextG s1
  let k := s2 % 100
  if k < wr then (⟨4, p.n0, p.n1, p.n2, p.n3, p.dep, nextG s2 % 1000⟩, nextG s2)
  else if k < wr + sc then ((⟨5, (front p 3).n0, (front p 3).n1, (front p 3).n2, (front p 3).n3, (front p 3).dep, 0⟩ : Ac), s2)
  else (⟨2, p.n0, p.n1, p.n2, p.n3, p.dep, 0⟩, s2)
theorem oneP_seed (rw wr sc s : Int) : 0 ≤ (oneP rw wr sc s).2 ∧ (oneP rw wr sc s).2 < 18446744073709551616 := by
  unfold oneP
  dsimp only
  split
  · exact nextG_range _
  · split <;> exact nextG_range _
theorem row_up (n : Int) (h : 0 ≤ n) (h2 : n < 100) : upP (rowP n) = some (front (rowP n) 3) := by
  unfold upP
  rw [if_pos ⟨rowP_may n h h2, by unfold rowP; simp⟩]
  rfl
theorem one_any (cl tx op rw wr sc sd : Int) (g : Nat) (s : Int) (hr1 : 1 ≤ rw) (hr2 : rw ≤ 100) (hw : (0 ≤ wr ∧ wr ≤ 100) ∧ 0 ≤ sc ∧ sc ≤ 100 - wr) (h0 : 0 ≤ s) (h1 : s < 18446744073709551616) (w : World) (hg : Bk w g 61 #[.int .u64 s]) :
    Calls Try.prog 23 #[.agg #[.int .i64 cl, .int .i64 tx, .int .i64 op, .int .i64 rw, .int .i64 wr, .int .i64 sc, .int .u64 sd], .func (.func 22) #[.pointer (some ⟨g, 0, none⟩)] #[]] w (OneRet w g (oneP rw wr sc s).1 (oneP rw wr sc s).2) := by
  have hn1 := Int.emod_nonneg (nextG s) (show rw ≠ 0 by omega)
  have hn2 := Int.emod_lt_of_pos (nextG s) (show 0 < rw by omega)
  by_cases hk : nextG (nextG s) % 100 < wr
  · have e : oneP rw wr sc s = (⟨4, (rowP (nextG s % rw)).n0, (rowP (nextG s % rw)).n1, (rowP (nextG s % rw)).n2, (rowP (nextG s % rw)).n3, (rowP (nextG s % rw)).dep, nextG (nextG (nextG s)) % 1000⟩, nextG (nextG (nextG s))) := by unfold oneP; exact if_pos hk
    rw [e]
    exact one_write cl tx op rw wr sc sd g s _ _ _ _ _ hr1 hr2 hw h0 h1 rfl rfl rfl rfl rfl hk _ _ rfl rfl w hg
  · by_cases hk2 : nextG (nextG s) % 100 < wr + sc
    · have e : oneP rw wr sc s = ((⟨5, (front (rowP (nextG s % rw)) 3).n0, (front (rowP (nextG s % rw)) 3).n1, (front (rowP (nextG s % rw)) 3).n2, (front (rowP (nextG s % rw)) 3).n3, (front (rowP (nextG s % rw)) 3).dep, 0⟩ : Ac), nextG (nextG s)) := by unfold oneP; dsimp only; rw [if_neg hk, if_pos hk2]
      rw [e]
      exact one_scan cl tx op rw wr sc sd g s _ _ _ _ _ hr1 hr2 hw h0 h1 rfl rfl rfl rfl rfl hk hk2 _ (row_up _ hn1 (by omega)) w hg
    · have e : oneP rw wr sc s = (⟨2, (rowP (nextG s % rw)).n0, (rowP (nextG s % rw)).n1, (rowP (nextG s % rw)).n2, (rowP (nextG s % rw)).n3, (rowP (nextG s % rw)).dep, 0⟩, nextG (nextG s)) := by unfold oneP; dsimp only; rw [if_neg hk, if_neg hk2]
      rw [e]
      exact one_read cl tx op rw wr sc sd g s _ _ _ _ _ hr1 hr2 hw h0 h1 rfl rfl rfl rfl rfl hk2 w hg
def bgnA : Ac := ⟨1, 0, 0, 0, 0, 0, 0⟩
def cmtA : Ac := ⟨6, 0, 0, 0, 0, 0, 0⟩
def drawN (rw wr sc : Int) : Nat → Int → List Ac × Int
  | 0, s => ([], s)
  | n + 1, s => ((drawN rw wr sc n s).1 ++ [(oneP rw wr sc (drawN rw wr sc n s).2).1], (oneP rw wr sc (drawN rw wr sc n s).2).2)
def txN (rw wr sc : Int) (ops : Nat) : Nat → Int → List Ac × Int
  | 0, s => ([], s)
  | t + 1, s => (((txN rw wr sc ops t s).1 ++ [bgnA] ++ (drawN rw wr sc ops (txN rw wr sc ops t s).2).1) ++ [cmtA], (drawN rw wr sc ops (txN rw wr sc ops t s).2).2)
def clN (rw wr sc : Int) (ops txs : Nat) : Nat → Int → List (List Ac) × Int
  | 0, s => ([], s)
  | c + 1, s => ((clN rw wr sc ops txs c s).1 ++ [(txN rw wr sc ops txs (clN rw wr sc ops txs c s).2).1], (txN rw wr sc ops txs (clN rw wr sc ops txs c s).2).2)
def opsL (cl tx op rw wr sc sd : Int) : List (List Ac) := if mayR cl tx op rw wr sc = true then (clN rw wr sc op.toNat tx.toNat cl.toNat sd).1 else []
abbrev okS (s : Int) : Prop := 0 ≤ s ∧ s < 18446744073709551616
theorem drawN_seed (rw wr sc : Int) (n : Nat) (s : Int) (h : okS s) : okS (drawN rw wr sc n s).2 := by
  cases n with
  | zero => exact h
  | succ n => exact oneP_seed _ _ _ _
theorem txN_seed (rw wr sc : Int) (ops t : Nat) (s : Int) (h : okS s) : okS (txN rw wr sc ops t s).2 := by
  induction t with
  | zero => exact h
  | succ t ih => exact drawN_seed _ _ _ _ _ ih
theorem clN_seed (rw wr sc : Int) (ops txs c : Nat) (s : Int) (h : okS s) : okS (clN rw wr sc ops txs c s).2 := by
  induction c with
  | zero => exact h
  | succ c ih => exact txN_seed _ _ _ _ _ _ ih
theorem drawN_len (rw wr sc : Int) (n : Nat) (s : Int) : (drawN rw wr sc n s).1.length = n := by
  induction n with
  | zero => rfl
  | succ n ih => unfold drawN; rw [List.length_append, ih]; rfl
theorem txN_len (rw wr sc : Int) (ops t : Nat) (s : Int) : (txN rw wr sc ops t s).1.length = t * (ops + 2) := by
  induction t with
  | zero => unfold txN; simp
  | succ t ih => unfold txN; simp only [List.length_append, ih, drawN_len, List.length_cons, List.length_nil]; rw [Nat.add_mul]; omega
theorem clN_len (rw wr sc : Int) (ops txs c : Nat) (s : Int) : (clN rw wr sc ops txs c s).1.length = c := by
  induction c with
  | zero => rfl
  | succ c ih => unfold clN; rw [List.length_append, ih]; rfl
theorem wf_small {x : Int} (h0 : 0 ≤ x) (h1 : x ≤ 1000000) : (Lit.int .i64 x).wf = true := by
  simp [Lit.wf, IntKind.min, IntKind.max, IntKind.signed, IntKind.bits]; omega
theorem oneP_ok (rw wr sc s : Int) (hr1 : 1 ≤ rw) (hr2 : rw ≤ 100) : okAc (oneP rw wr sc s).1 := by
  have hn1 := Int.emod_nonneg (nextG s) (show rw ≠ 0 by omega)
  have hn2 := Int.emod_lt_of_pos (nextG s) (show 0 < rw by omega)
  have hv1 := Int.emod_nonneg (nextG (nextG (nextG s))) (show (1000 : Int) ≠ 0 by omega)
  have hv2 := Int.emod_lt_of_pos (nextG (nextG (nextG s))) (show (0 : Int) < 1000 by omega)
  unfold oneP
  dsimp only
  generalize nextG s % rw = n at hn1 hn2 ⊢
  have h1 : 0 ≤ n / 25 ∧ n / 25 ≤ 100 := by omega
  have h2 : 0 ≤ n / 5 % 5 ∧ n / 5 % 5 ≤ 100 := by omega
  have h3 : 0 ≤ n % 5 ∧ n % 5 ≤ 100 := by omega
  have hf : ∀ x : Int, 0 ≤ x → x ≤ 1000000 → (Lit.int .i64 x).wf = true := fun x a b => wf_small a b
  split
  · unfold okAc rowP
    dsimp only
    exact ⟨hf _ (by omega) (by omega), hf _ (by omega) (by omega), hf _ (by omega) (by omega), hf _ (by omega) (by omega), hf _ (by omega) (by omega), hf _ (by omega) (by omega), hf _ (by omega) (by omega)⟩
  · split
    · unfold okAc rowP front
      dsimp only
      rw [if_pos (by omega), if_pos (by omega), if_pos (by omega), if_neg (by omega)]
      exact ⟨hf _ (by omega) (by omega), hf _ (by omega) (by omega), hf _ (by omega) (by omega), hf _ (by omega) (by omega), hf _ (by omega) (by omega), hf _ (by omega) (by omega), hf _ (by omega) (by omega)⟩
    · unfold okAc rowP
      dsimp only
      exact ⟨hf _ (by omega) (by omega), hf _ (by omega) (by omega), hf _ (by omega) (by omega), hf _ (by omega) (by omega), hf _ (by omega) (by omega), hf _ (by omega) (by omega), hf _ (by omega) (by omega)⟩
theorem drawN_ok (rw wr sc : Int) (hr1 : 1 ≤ rw) (hr2 : rw ≤ 100) (n : Nat) (s : Int) : ∀ x ∈ (drawN rw wr sc n s).1, okAc x := by
  induction n with
  | zero => intro x hx; cases hx
  | succ n ih =>
    intro x hx
    unfold drawN at hx
    rcases List.mem_append.1 hx with hx | hx
    · exact ih x hx
    · rw [List.mem_singleton.1 hx]; exact oneP_ok _ _ _ _ hr1 hr2
theorem okBgn : okAc bgnA := by decide
theorem okCmt : okAc cmtA := by decide
theorem txN_ok (rw wr sc : Int) (hr1 : 1 ≤ rw) (hr2 : rw ≤ 100) (ops t : Nat) (s : Int) : ∀ x ∈ (txN rw wr sc ops t s).1, okAc x := by
  induction t with
  | zero => intro x hx; cases hx
  | succ t ih =>
    intro x hx
    unfold txN at hx
    rcases List.mem_append.1 hx with hx | hx
    · rcases List.mem_append.1 hx with hx | hx
      · rcases List.mem_append.1 hx with hx | hx
        · exact ih x hx
        · rw [List.mem_singleton.1 hx]; exact okBgn
      · exact drawN_ok _ _ _ hr1 hr2 _ _ x hx
    · rw [List.mem_singleton.1 hx]; exact okCmt
end Go.Proofs.Ytbdefhekkafihaa
