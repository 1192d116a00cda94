/- Slices of records that hold slices of flat records. No condition. -/
import Derived.Test.YtjenchijenkndaaRecRw
import Derived.Test.YtjenchijenkndaaRecEv
set_option linter.unusedVariables false
set_option linter.unusedSimpArgs false
namespace Go.Proofs.Ytjenchijenkndaa
open Go.ChangeShapes Go.WideShapes Go.Deep Go.RowKit
section
variable {H : Type} {enc : TypeId × Value → H} {P : Program} {w : World} {base : Nat} {spare : Nat → Bool} {held : Bool}
/-- As open_flat, and of each element what its reading shows. -/
theorem open_flat_with {t e : TypeId} (ks : List CK) (hks0 : 0 < ks.length) (ht : P.underlying t = some (.slice e)) (hk : flat P 8 e = some ks) (hc : P.cellsOf e = ks.length) (Q : List Value → Prop) (hQ : ∀ n cs x, DataW.trod enc P w base spare held n e cs = some x → Q cs) {a : Option Addr} {len cap : Nat} {d : DataW H} {p : List MemPlace}
    (h : DataW.Trod enc P w base spare held t (.slice a len cap) d p) : ∃ css, FlatRow w ks a len cap css ∧ ∀ c ∈ css, Q c := by
  obtain ⟨fuel, hf⟩ := h
  have hf' : DataW.trod enc P w base spare held fuel t [.slice a len cap] = some (d, p) := by simpa [Value.cells] using hf
  rcases open_slice ht hf' with ⟨hcs, _⟩ | ⟨a', len', cap', m, n, D, Pl, hcs, hb, hl, hm, hmm, _, hi⟩
  · simp only [List.cons.injEq, Value.slice.injEq, and_true] at hcs
    obtain ⟨rfl, rfl, rfl⟩ := hcs
    exact ⟨[], ⟨rfl, Nat.le_refl _, Nat.zero_le _, fun _ => ⟨rfl, rfl⟩, fun c hc => by simp at hc, fun h => absurd h (by omega)⟩, fun c hc => by simp at hc⟩
  · simp only [List.cons.injEq, Value.slice.injEq, and_true] at hcs
    obtain ⟨rfl, rfl, rfl⟩ := hcs
    have hlm : len ≤ m := by rw [hmm]; split <;> omega
    obtain ⟨F, hF⟩ := choose_lt (α := List Value) (n := len) (p := fun i c => w.cells? base (a'.add (i * P.cellsOf e)) (P.cellsOf e) = some c ∧ PW ks c ∧ Q c) (fun i hil => by
      obtain ⟨cs', h1, h2⟩ := hi i (by omega)
      exact ⟨cs', h1, flat_ok 8 n e ks cs' _ hk h2, hQ n cs' _ h2⟩)
    refine ⟨(List.range len).map F, ⟨by simp, hl, hm, (by intro h; cases h), ?_, ?_⟩, ?_⟩
    · intro c hcm
      obtain ⟨i, hir, rfl⟩ := List.mem_map.1 hcm
      have := hF i (List.mem_range.1 hir)
      obtain ⟨_, hlen, _⟩ := World.cells?_some this.1
      exact ⟨by rw [hlen, hc], this.2.1⟩
    · intro hl0
      have h0 := hF 0 hl0
      obtain ⟨_, hlen, hat⟩ := World.cells?_some h0.1
      have h00 := hat 0 (by omega)
      have hlt : 0 < (F 0).length := by omega
      rw [List.getElem?_eq_getElem hlt] at h00
      rw [add_add] at h00
      have h000 : w.cell? (a'.add 0) = some ((F 0)[0]) := by simpa using h00
      have hsp := cell_spot h000
      obtain ⟨b, o, s⟩ := a'
      simp only at hsp
      subst hsp
      have hadd : ∀ n, (⟨b, o, none⟩ : Addr).add n = ⟨b, o + n, none⟩ := fun n => by unfold Addr.add; split <;> simp_all
      refine ⟨b, o, rfl, ?_, ?_⟩
      · rw [hadd] at h00
        exact World.block_lt_of_cell? w ⟨b, _, none⟩ h00
      · intro i hil j hj
        have := hF i hil
        obtain ⟨_, hlen2, hat2⟩ := World.cells?_some this.1
        have h3 := hat2 j (by omega)
        rw [add_add, hadd, hc] at h3
        rw [h3]
        simp [List.getD_eq_getElem?_getD, hil]
    · intro c hcm
      obtain ⟨i, hir, rfl⟩ := List.mem_map.1 hcm
      exact (hF i (List.mem_range.1 hir)).2.2
/-- A field that is a slice of flat records. -/
theorem field_rows {e ts te : TypeId} {fs : Array Field} (ks : List CK) (hks0 : 0 < ks.length) (hu : P.underlying e = some (.struct fs)) {i : Nat} {f : Field} (hfi : fs[i]? = some f) (hft : f.type = ts) (h1 : P.cellsOf ts = 1) (hs : P.underlying ts = some (.slice te)) (hk : flat P 8 te = some ks) (hc : P.cellsOf te = ks.length)
    {n : Nat} {cs : List Value} {x : DataW H × List MemPlace} (h : DataW.trod enc P w base spare held n e cs = some x) : ∃ a l c css, cs[f.offset]? = some (.slice a l c) ∧ FlatRow w ks a l c css := by
  obtain ⟨xs, m', rfl, _, hlen, hxl, hf⟩ := DataW.trod_struct hu h
  have h2 := hf i f hfi
  have hi : i < fs.size := (Array.getElem?_eq_some_iff.1 hfi).1
  have h3 : i < xs.length := by rw [hxl]; exact hi
  rw [List.getElem?_eq_getElem h3, hft, h1] at h2
  have hform : ∃ a l c, (cs.drop f.offset).take 1 = [.slice a l c] := by
    rcases DataW.trod_slice hs h2 with ⟨he, _⟩ | ⟨a, l, c, _, _, _, _, he, _⟩
    · exact ⟨_, _, _, he⟩
    · exact ⟨_, _, _, he⟩
  obtain ⟨a, l, c, he⟩ := hform
  rw [he] at h2
  obtain ⟨css, hcss⟩ := open_flat (P := P) (t := ts) (a := a) (len := l) (cap := c) (d := xs[i].1) (p := xs[i].2) ks hks0 hs hk hc ⟨m', by simpa [Value.cells] using h2⟩
  refine ⟨a, l, c, css, ?_, hcss⟩
  have h4 : ((cs.drop f.offset).take 1)[0]? = some (.slice a l c) := by rw [he]; rfl
  rw [List.getElem?_take, if_pos (by omega), List.getElem?_drop, Nat.add_zero] at h4
  exact h4
end
/-- As SR.flat, and what each record's cells are. -/
theorem SR.flat_with {α : Type} {enc : α → List Value} {ok : α → Prop} {s : Nat} {ks : List CK} (hk : ks.length = s) (hs : 0 < s) (he : ∀ a, (enc a).length = s) (dec : ∀ c : List Value, c.length = ks.length → PW ks c → ∃ x : α, c = enc x ∧ ok x)
    {w : World} {a : Option Addr} {len cap : Nat} {css : List (List Value)} (h : FlatRow w ks a len cap css) : ∃ L, SR enc ok s w a len L ∧ len ≤ cap ∧ cap ≤ maxLen ∧ (a = none → len = 0 ∧ cap = 0) ∧ css = L.map enc := by
  obtain ⟨h1, h2, h3, h4, h5, h6⟩ := h
  have hlist : ∀ css : List (List Value), (∀ c ∈ css, ∃ x : α, c = enc x ∧ ok x) → ∃ L : List α, css = L.map enc ∧ ∀ x ∈ L, ok x := by
    intro css h
    induction css with
    | nil => exact ⟨[], rfl, by simp⟩
    | cons c css ih =>
      obtain ⟨x, hx, hr⟩ := h c (by simp)
      obtain ⟨L, hL, hR⟩ := ih (fun d hd => h d (by simp [hd]))
      refine ⟨x :: L, by rw [hL, hx]; rfl, ?_⟩
      intro y hy
      rcases List.mem_cons.1 hy with rfl | hy
      · exact hr
      · exact hR y hy
  obtain ⟨L, rfl, hR⟩ := hlist css (fun c hc => dec c (h5 c hc).1 (h5 c hc).2)
  have hl : L.length = len := by simpa using h1
  refine ⟨L, ⟨hl, Nat.le_trans h2 h3, hR, fun hn => ?_⟩, h2, h3, h4, rfl⟩
  obtain ⟨b, off, ha, hlt, hc⟩ := h6 hn
  refine ⟨b, off, ha, hlt, fun j hj => ?_⟩
  have hd : j / s < len := Nat.div_lt_of_lt_mul (by rw [Nat.mul_comm]; exact hj)
  have hm : j % s < s := Nat.mod_lt _ hs
  have e : j / s * s + j % s = j := by rw [Nat.mul_comm]; exact Nat.div_add_mod j s
  have h1 := hc (j / s) hd (j % s) (by rw [hk]; exact hm)
  rw [hk, e] at h1
  have hil : j / s < L.length := by omega
  have h2 := flatV_get he L (j / s) L[j / s] (List.getElem?_eq_getElem hil) (j % s) hm
  rw [e] at h2
  rw [h1, h2]
  simp [List.getD_eq_getElem?_getD, hil]
/-- Events whose rows lie in the world. -/
def EvQ (w : World) (c : List Value) : Prop := ∃ a l cp css, c[9]? = some (.slice a l cp) ∧ FlatRow w ksRw a l cp css
theorem open_events {H : Type} {enc : TypeId × Value → H} {w : World} {base : Nat} {spare : Nat → Bool} {held : Bool} {a : Option Addr} {len cap : Nat} {d : DataW H} {p : List MemPlace}
    (h : DataW.Trod enc Try.prog w base spare held 22 (.slice a len cap) d p) : ∃ css, FlatRow w ksEv a len cap css ∧ ∀ c ∈ css, EvQ w c :=
  open_flat_with ksEv (by decide) Try.underlying22 (by kernel_rfl) (by kernel_rfl) (EvQ w) (fun n cs x hx => field_rows ksRw (by decide) Try.underlying31 (i := 5) rfl rfl (by kernel_rfl) Try.underlying28 (by kernel_rfl) (by kernel_rfl) hx) h
/-- What the events' rows are. -/
def EvRows (w : World) (L : List Ev) (R : Ev → List Rw) : Prop := ∀ x ∈ L, Rws w x.rows.1 x.rows.2.1 (R x)
theorem EvRows.below {w w1 : World} {L : List Ev} {R : Ev → List Rw} (h : EvRows w L R) (k : Below w.heap.size w w1) : EvRows w1 L R := fun x hx => (h x hx).below k
theorem EvRows.sub {w : World} {L M : List Ev} {R : Ev → List Rw} (h : EvRows w L R) (hs : ∀ x ∈ M, x ∈ L) : EvRows w M R := fun x hx => h x (hs x hx)
theorem events_of {w : World} {a : Option Addr} {len cap : Nat} {css : List (List Value)} (h : FlatRow w ksEv a len cap css) (hq : ∀ c ∈ css, EvQ w c) : ∃ L R, Evs w a len L ∧ len ≤ cap ∧ cap ≤ maxLen ∧ (a = none → len = 0 ∧ cap = 0) ∧ EvRows w L R := by
  obtain ⟨L, h1, h2, h3, h4, rfl⟩ := SR.flat_with (ks := ksEv) (enc := enEv) (ok := okEv) (s := 11) rfl (by omega) enEv_len decEv h
  have hex : ∀ x ∈ L, ∃ l, Rws w x.rows.1 x.rows.2.1 l := fun x hx => by
    obtain ⟨a', l', c', css', he, hf⟩ := hq (enEv x) (List.mem_map.2 ⟨x, hx, rfl⟩)
    obtain ⟨M, hm, _⟩ := SR.flat (ks := ksRw) (enc := enRw) (ok := okRw) (s := 6) rfl (by omega) enRw_len decRw hf
    have e9 : (enEv x)[9]? = some (.slice x.rows.1 x.rows.2.1 x.rows.2.2) := rfl
    rw [e9] at he
    injection he with he
    injection he with e1 e2 e3
    rw [e1, e2]
    exact ⟨M, hm⟩
  classical
  refine ⟨L, fun x => if h : ∃ l, Rws w x.rows.1 x.rows.2.1 l then h.choose else [], h1, h2, h3, h4, fun x hx => ?_⟩
  have he := hex x hx
  show Rws w _ _ (if h : ∃ l, Rws w x.rows.1 x.rows.2.1 l then h.choose else [])
  rw [dif_pos he]
  exact he.choose_spec
end Go.Proofs.Ytjenchijenkndaa
