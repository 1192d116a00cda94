/- Events: their cells, rows of them, appends of rows; counts. No condition. -/
import Derived.Test.YtgpkidffhglngaaTab
import Derived.Test.YtgpkidffhglngaaFlat
import Derived.Laws.AppendOwnNone
set_option linter.unusedVariables false
set_option linter.unusedSimpArgs false
namespace Go.Proofs.Ytgpkidffhglngaa
open Go.RowKit (wrap32 wrap64)
open Go.RowKit
/-- An event: eleven cells. -/
structure Ev where
  kind : Int
  tx : Int
  n0 : Int
  n1 : Int
  n2 : Int
  n3 : Int
  depth : Int
  mode : Int
  val : Int
  ra : Option Addr
  rl : Nat
  rc : Nat
  err : Int
def enE (x : Ev) : List Value := [.int .i64 x.kind, .int .i64 x.tx, .int .i64 x.n0, .int .i64 x.n1, .int .i64 x.n2, .int .i64 x.n3, .int .i64 x.depth, .int .i64 x.mode, .int .i64 x.val, .slice x.ra x.rl x.rc, .int .i64 x.err]
theorem enE_len (x : Ev) : (enE x).length = 11 := rfl
def ksE : List CK := [.int .i64, .int .i64, .int .i64, .int .i64, .int .i64, .int .i64, .int .i64, .int .i64, .int .i64, .slice, .int .i64]
theorem ev_of {c : List Value} (hl : c.length = ksE.length) (h : PW ksE c) : ∃ x : Ev, c = enE x ∧ x.rl ≤ maxLen := by
  match c, hl with
  | [v0, v1, v2, v3, v4, v5, v6, v7, v8, v9, v10], _ =>
    obtain ⟨n0, rfl, _⟩ := h 0 _ v0 rfl rfl
    obtain ⟨n1, rfl, _⟩ := h 1 _ v1 rfl rfl
    obtain ⟨n2, rfl, _⟩ := h 2 _ v2 rfl rfl
    obtain ⟨n3, rfl, _⟩ := h 3 _ v3 rfl rfl
    obtain ⟨n4, rfl, _⟩ := h 4 _ v4 rfl rfl
    obtain ⟨n5, rfl, _⟩ := h 5 _ v5 rfl rfl
    obtain ⟨n6, rfl, _⟩ := h 6 _ v6 rfl rfl
    obtain ⟨n7, rfl, _⟩ := h 7 _ v7 rfl rfl
    obtain ⟨n8, rfl, _⟩ := h 8 _ v8 rfl rfl
    obtain ⟨a, l, c, rfl, h1, h2⟩ := h 9 _ v9 rfl rfl
    obtain ⟨n10, rfl, _⟩ := h 10 _ v10 rfl rfl
    exact ⟨⟨n0, n1, n2, n3, n4, n5, n6, n7, n8, a, l, c, n10⟩, rfl, Nat.le_trans h1 h2⟩
theorem evs_list (css : List (List Value)) (h : ∀ c ∈ css, ∃ x : Ev, c = enE x ∧ x.rl ≤ maxLen) : ∃ L : List Ev, css = L.map enE ∧ ∀ x ∈ L, x.rl ≤ maxLen := by
  induction css with
  | nil => exact ⟨[], rfl, by simp⟩
  | cons c css ih =>
    obtain ⟨x, hx, hr⟩ := h c (by simp)
    obtain ⟨L, hL, hR⟩ := ih (fun d hd => h d (by simp [hd]))
    refine ⟨x :: L, by rw [hL, hx]; rfl, ?_⟩
    intro y hy
    rcases List.mem_cons.1 hy with rfl | hy
    · exact hr
    · exact hR y hy
/-- A slice of events, read as L. -/
def Evs (w : World) (a : Option Addr) (n : Nat) (L : List Ev) : Prop :=
  L.length = n ∧ n ≤ maxLen ∧ (∀ x ∈ L, x.rl ≤ maxLen) ∧ (0 < n → ∃ b off, a = some ⟨b, off, none⟩ ∧ b < w.heap.size ∧ ∀ j, j < n * 11 → w.cell? ⟨b, off + j, none⟩ = (flatV enE L)[j]?)
theorem Evs.below {w w1 : World} {a : Option Addr} {n : Nat} {L : List Ev} (h : Evs w a n L) (hb : Below w.heap.size w w1) : Evs w1 a n L := by
  obtain ⟨h1, h2, h3, h4⟩ := h
  refine ⟨h1, h2, h3, fun hn => ?_⟩
  obtain ⟨b, off, ha, hlt, hc⟩ := h4 hn
  exact ⟨b, off, ha, Nat.lt_of_lt_of_le hlt hb.size, fun j hj => (hb.cell (p := ⟨b, _, none⟩) hlt).trans (hc j hj)⟩
theorem evs_flat {w : World} {a : Option Addr} {len cap : Nat} {css : List (List Value)} (h : FlatRow w ksE a len cap css) : ∃ L, Evs w a len L ∧ (a = none → len = 0 ∧ cap = 0) := by
  have h0 := h
  obtain ⟨h1, h2, h3, h4, h5, h6⟩ := h
  obtain ⟨L, rfl, hR⟩ := evs_list css (fun c hc => ev_of (h5 c hc).1 (h5 c hc).2)
  have hl : L.length = len := by simpa using h1
  refine ⟨L, ⟨hl, Nat.le_trans h2 h3, hR, fun hn => ?_⟩, h4⟩
  obtain ⟨b, off, ha, hlt, hc⟩ := h6 hn
  refine ⟨b, off, ha, hlt, fun j hj => ?_⟩
  have e11 : ksE.length = 11 := rfl
  have hd : j / 11 < len := Nat.div_lt_of_lt_mul (by rw [Nat.mul_comm]; exact hj)
  have hm : j % 11 < 11 := Nat.mod_lt _ (by omega)
  have e : j / 11 * 11 + j % 11 = j := by omega
  have h1 := hc (j / 11) hd (j % 11) (by rw [e11]; exact hm)
  rw [e11, e] at h1
  have hil : j / 11 < L.length := by omega
  have h2 := flatV_get enE_len L (j / 11) L[j / 11] (List.getElem?_eq_getElem hil) (j % 11) hm
  rw [e] at h2
  rw [h1, h2]
  simp [List.getD_eq_getElem?_getD, hil]
theorem evs_own {w : World} {base n : Nat} {e : TypeId} {v : Value} {L : List Ev} (h : w.ownsRow base e 11 v n (flatV enE L)) (hR : ∀ x ∈ L, x.rl ≤ maxLen) : ∃ A c, v = .slice A n c ∧ Evs w A n L ∧ (A = none → n = 0 ∧ c = 0) := by
  have hl : L.length = n := by have h1 := h.1; rw [flatV_len enE_len] at h1; omega
  rcases h.2 with ⟨hv, hn⟩ | ⟨g, cap, cur, hv, hb, hg, hnc, hcm, hcs, ht⟩
  · exact ⟨_, _, by rw [hn]; exact hv, ⟨hl, by rw [hn]; exact Nat.zero_le _, hR, fun h => absurd h (by omega)⟩, fun _ => ⟨hn, rfl⟩⟩
  · refine ⟨_, _, hv, ⟨hl, Nat.le_trans hnc hcm, hR, fun hn => ⟨g, 0, rfl, (Array.getElem?_eq_some_iff.1 hg).1, fun i hi => ?_⟩⟩, (by intro h; cases h)⟩
    have h2 := h
    rw [hv] at h2
    have := h2.cellAt i (by omega)
    rw [Nat.zero_add, this]
theorem evs_at {w : World} {a : Option Addr} {n : Nat} {L : List Ev} (h : Evs w a n L) {i : Nat} (hi : i < n) :
    ∃ b off, ∃ x : Ev, a = some ⟨b, off, none⟩ ∧ L[i]? = some x ∧ x.rl ≤ maxLen ∧
      w.cell? ⟨b, off + i * 11, none⟩ = some (.int .i64 x.kind) ∧ w.cell? ⟨b, off + i * 11 + 1, none⟩ = some (.int .i64 x.tx) ∧ w.cell? ⟨b, off + i * 11 + 2, none⟩ = some (.int .i64 x.n0) ∧
      w.cell? ⟨b, off + i * 11 + 3, none⟩ = some (.int .i64 x.n1) ∧ w.cell? ⟨b, off + i * 11 + 4, none⟩ = some (.int .i64 x.n2) ∧ w.cell? ⟨b, off + i * 11 + 5, none⟩ = some (.int .i64 x.n3) ∧
      w.cell? ⟨b, off + i * 11 + 6, none⟩ = some (.int .i64 x.depth) ∧ w.cell? ⟨b, off + i * 11 + 7, none⟩ = some (.int .i64 x.mode) ∧ w.cell? ⟨b, off + i * 11 + 8, none⟩ = some (.int .i64 x.val) ∧
      w.cell? ⟨b, off + i * 11 + 9, none⟩ = some (.slice x.ra x.rl x.rc) ∧ w.cell? ⟨b, off + i * 11 + 10, none⟩ = some (.int .i64 x.err) := by
  obtain ⟨h1, h2, h3, h4⟩ := h
  obtain ⟨b, off, ha, hlt, hc⟩ := h4 (by omega)
  have hil : i < L.length := by omega
  have hx : L[i]? = some L[i] := List.getElem?_eq_getElem hil
  have hcc : ∀ j, j < 11 → w.cell? ⟨b, off + i * 11 + j, none⟩ = (enE L[i])[j]? := fun j hj => by
    have := hc (i * 11 + j) (by omega)
    rw [flatV_get enE_len L i _ hx j hj, ← Nat.add_assoc] at this
    exact this
  exact ⟨b, off, L[i], ha, hx, h3 _ (List.getElem_mem hil), hcc 0 (by omega), hcc 1 (by omega), hcc 2 (by omega), hcc 3 (by omega), hcc 4 (by omega), hcc 5 (by omega), hcc 6 (by omega), hcc 7 (by omega), hcc 8 (by omega), hcc 9 (by omega), hcc 10 (by omega)⟩
theorem enE_one (L : List Ev) : ∀ u ∈ flatV enE L, u.oneCell' = true := by
  intro u hu
  unfold flatV at hu
  obtain ⟨x, _, hx⟩ := List.mem_flatMap.1 hu
  unfold enE at hx
  simp only [List.mem_cons, List.not_mem_nil, or_false] at hx
  rcases hx with rfl | rfl | rfl | rfl | rfl | rfl | rfl | rfl | rfl | rfl | rfl <;> rfl
/-- 'append(s, x...)' of events: s the call's own, x lies anywhere, nil or not. -/
theorem wp_append_ev {P : Program} {w : World} {o : Oper} {a : Act} {K : Act → World → Prop} {Q : Exit → Act → World → Prop} (s x : Operand) (t : TypeId)
    (ho : o.op = .call { callee := .builtin .append, args := #[s, x], argTypes := #[t, t] })
    (base : Nat) (e : TypeId) (i : TypeInfo) (z : Value) (bytes : Nat) (ht : P.underlying t = some (.slice e)) (hi : P.info? e = some i) (hz : i.zero = some z) (hsize : i.size = 11) (hby : i.bytes = bytes) (hzs : z.cells.size = 11)
    (v : Value) (n : Nat) (L : List Ev) (hs : a.eval s = v) (hown : w.ownsRow base e 11 v n (flatV enE L))
    (A : Option Addr) (m c : Nat) (M : List Ev) (hx : a.eval x = .slice A m c) (hM : Evs w A m M) (hnil : A = none → m = 0 ∧ c = 0)
    (h63 : n + m ≤ maxLen) (hbytes : (n + m) * bytes ≤ 140737488355328) (hbase : base ≤ w.heap.size)
    (h : ∀ v' w', w'.ownsRow base e 11 v' (n + m) (flatV enE (L ++ M)) → w.grownBy w' v.ownBlock → K (a.put o.dst v') w') : o.wp P a w K Q := by
  have hMl : M.length = m := hM.1
  cases A with
  | none =>
    obtain ⟨rfl, rfl⟩ := hnil rfl
    have hrun := run_append_owned_none (P := P) (w := w) base t o.type e i 11 ht hi v n _ hown
    have hy : M = [] := List.eq_nil_of_length_eq_zero hMl
    unfold Oper.wp
    simp [execOp, ho, resolve, invoke, builtin, hs, hx, hrun, Result.andThen]
    exact h v w (by rw [hy, List.append_nil]; exact hown) (World.grownBy.refl w _)
  | some ad =>
    refine wp_append_own w s x t ho base e i z 11 bytes ht hi hz hsize hby hzs (by decide) v n _ hs hown ad m c (flatV enE M) hx (by rw [flatV_len enE_len, hMl]) ?_ (enE_one M) h63 hbytes hbase ?_
    · intro j u hu
      have hj : j < (flatV enE M).length := (List.getElem?_eq_some_iff.1 hu).1
      rw [flatV_len enE_len] at hj
      obtain ⟨b, off, he, _, hc⟩ := hM.2.2.2 (by omega)
      injection he with he
      subst he
      have hadd : (⟨b, off, none⟩ : Addr).add j = ⟨b, off + j, none⟩ := by unfold Addr.add; split <;> simp_all
      rw [hadd, hc j (by omega), hu]
    · intro v' w' h1 h2 _
      rw [← flatV_append] at h1
      exact h v' w' h1 h2
def cn (p : Ev → Bool) (L : List Ev) : Int := ((L.countP p : Nat) : Int)
theorem cn_take (p : Ev → Bool) (L : List Ev) (k : Nat) (x : Ev) (hx : L[k]? = some x) : cn p (L.take (k + 1)) = cn p (L.take k) + (if p x = true then 1 else 0) := by
  have hk : k < L.length := (List.getElem?_eq_some_iff.1 hx).1
  have e : L[k] = x := by rw [List.getElem?_eq_getElem hk] at hx; injection hx
  unfold cn
  rw [List.take_succ_eq_append_getElem hk, List.countP_append, e]
  by_cases h : p x = true
  · simp [h]
  · simp [h]
theorem cn_append (p : Ev → Bool) (L M : List Ev) : cn p (L ++ M) = cn p L + cn p M := by unfold cn; rw [List.countP_append]; simp
theorem cn_range (p : Ev → Bool) (L : List Ev) : 0 ≤ cn p L ∧ cn p L ≤ L.length := by
  unfold cn
  have := List.countP_le_length (p := p) (l := L)
  omega
theorem cn_nil (p : Ev → Bool) : cn p [] = 0 := rfl
def pB (x : Ev) : Bool := x.kind == 1
def pC (x : Ev) : Bool := x.kind == 9
def pA (x : Ev) : Bool := x.kind == 12
def pW (x : Ev) : Bool := x.kind == 2 && x.val == 2
def pK (x : Ev) : Bool := x.kind == 4
def pG (x : Ev) : Bool := x.kind == 13
def moR (m : Int) : Int := if 0 ≤ m ∧ m < 7 then m else 0
def pM (j : Int) (x : Ev) : Bool := (x.kind == 2 || x.kind == 3) && moR x.mode == j
def fewL (L : List Ev) : Bool := L.all (fun x => decide (x.rl ≤ 20)) && decide (L.length ≤ 30)
end Go.Proofs.Ytgpkidffhglngaa
