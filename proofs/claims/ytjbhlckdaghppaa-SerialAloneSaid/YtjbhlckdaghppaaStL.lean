/- store: the reference's Set: what may not be, what stands already. No condition. -/
import Derived.Test.YtjbhlckdaghppaaStK
set_option linter.unusedVariables false
set_option linter.unusedSimpArgs false
namespace Go.Proofs.Ytjbhlckdaghppaa
open Go.RowKit (wrap32 wrap64)
open Go.RowKit Go.Shelf Go.Sort Go.Lib
def plE (E : List Cl) (p : Pt) : Nat := E.findIdx (fun c => !lessP c.p p)
theorem setE_new (E : List Cl) (p : Pt) (v : Int) (h : hasE E p = false) : setE E p v = E.take (plE E p) ++ ⟨p, v, 1⟩ :: E.drop (plE E p) := by
  unfold plE
  induction E with
  | nil => rfl
  | cons c E ih =>
    rw [has_cons, Bool.or_eq_false_iff] at h
    have hne : ¬ c.p = p := by simpa using h.1
    unfold setE
    rw [if_neg hne, List.findIdx_cons]
    cases hl : lessP c.p p with
    | true => simp [ih h.2]
    | false => simp
theorem plE_le (E : List Cl) (p : Pt) : plE E p ≤ E.length := List.findIdx_le_length
theorem plE_at {E : List Cl} {p : Pt} {k : Nat} {c : Cl} (hc : E[k]? = some c) (hl : lessP c.p p = false) (h : ∀ j c, j < k → E[j]? = some c → lessP c.p p = true) : plE E p = k := by
  obtain ⟨hk, he⟩ := List.getElem?_eq_some_iff.1 hc
  unfold plE
  rw [List.findIdx_eq hk]
  exact ⟨by rw [he, hl]; rfl, fun j hj => by rw [h j E[j] hj (List.getElem?_eq_getElem (by omega))]; rfl⟩
theorem plE_end {E : List Cl} {p : Pt} (h : ∀ j c, j < E.length → E[j]? = some c → lessP c.p p = true) : plE E p = E.length := by
  unfold plE
  rw [List.findIdx_eq_length]
  intro c hc
  obtain ⟨j, hj, rfl⟩ := List.mem_iff_getElem.1 hc
  rw [h j E[j] hj (List.getElem?_eq_getElem hj)]; rfl
theorem setE_at {E : List Cl} {K : Nat} (h : OkE E K) {i : Nat} {c : Cl} (hc : E[i]? = some c) (v : Int) : setE E c.p v = E.set i ⟨c.p, v, c.n + 1⟩ := by
  induction E generalizing i with
  | nil => cases hc
  | cons d E ih =>
    cases i with
    | zero =>
      have : d = c := by simpa using hc
      subst this
      unfold setE
      rw [if_pos rfl]; rfl
    | succ i =>
      have hc2 : E[i]? = some c := by simpa using hc
      have hl := (List.pairwise_cons.1 h.srt).1 c (List.mem_of_getElem? hc2)
      have hne : ¬ d.p = c.p := fun e => by rw [e, less_irrefl] at hl; cases hl
      unfold setE
      rw [if_neg hne, if_pos hl, ih h.tail hc2]; rfl
def RSet (x : Nat) (vL vC : Value) (w : World) (r : Was) (e : Ending) (w' : World) : Prop := ∃ vL' vC', e = .returned (.tuple #[.int .i64 r.a, .int .i64 r.e]) ∧ RfO w' x vL' vC' r.E ∧ Keep (RS x vL vC) w w' ∧ ∀ i, RS x vL' vC' i → RS x vL vC i ∨ w.heap.size ≤ i
set_option maxRecDepth 100000 in
set_option maxHeartbeats 4000000 in
theorem rset_no (x : Nat) (vL vC : Value) (E : List Cl) (p : Pt) (v : Int) (w : World) (h : RfO w x vL vC E) (hs : ¬ okSet p v = true) :
    Calls Try.prog 14 #[.pointer (some ⟨x, 0, none⟩), .agg (ptA p), .int .i64 v] w (RSet x vL vC w (putT E p v)) := by
  have a1 := (Below.refl w.heap.size w).alloc (Nat.le_refl _) (PB p)
  have b1 := Bk.new w 25 (ptA p)
  have HMAY := Lib.hid (fun W1 => rpright_any p W1)
  have HB1 := Lib.hid b1
  have e0 := b1.cell 0
  have e1 := b1.cell 1
  have e2 := b1.cell 2
  have e3 := b1.cell 3
  have e4 := b1.cell 4
  have HNO : Hid (∀ W, Below w.heap.size w W → RSet x vL vC w (putT E p v) (.returned (.tuple #[.int .i64 0, .int .i64 1])) W) := Lib.hid (fun W hb => by
    unfold putT
    rw [if_neg hs]
    exact ⟨vL, vC, rfl, h.below hb, Keep.of_below hb _, fun _ hi => .inl hi⟩)
  have hcase : mayP p = false ∨ (mayP p = true ∧ (p.dep != 4) = true) ∨ (mayP p = true ∧ (p.dep != 4) = false ∧ v < 0) ∨ (mayP p = true ∧ (p.dep != 4) = false ∧ ¬ v < 0 ∧ 1073741824 < v) := by
    unfold okSet at hs
    cases hm : mayP p with
    | false => exact .inl rfl
    | true =>
      refine .inr ?_
      rw [hm] at hs
      by_cases g1 : p.dep = 4
      · have g1' : (p.dep != 4) = false := by simp [g1]
        by_cases g2 : v < 0
        · exact .inr (.inl ⟨rfl, g1', g2⟩)
        · refine .inr (.inr ⟨rfl, g1', g2, ?_⟩)
          simp [g1] at hs
          omega
      · exact .inl ⟨rfl, bne_iff_ne.2 g1⟩
  clear b1 h hs
  rcases hcase with hm | ⟨hm, g1⟩ | ⟨hm, g1, g2⟩ | ⟨hm, g1, g2, g3⟩
  all_goals
    rw [hm] at HMAY
    clear hm
    go_enter Try.func14, Try.ntmps14
    go_wp2_with (go_at_call 37; refine (HMAY.out _).mono ?_; rintro e w2 ⟨rfl, hb2⟩; have d4 := (HB1.out.below hb2).cell 4)
    go_ret2
    exact HNO.out _ (bl_then a1 (Nat.le_refl _) hb2)
/-- What Set sees where a node may be set. -/
theorem okSet_iff {p : Pt} {v : Int} (h : okSet p v = true) : mayP p = true ∧ (p.dep != 4) = false ∧ 0 ≤ v ∧ v ≤ 1073741824 := by
  unfold okSet at h
  simp only [Bool.and_eq_true, decide_eq_true_eq] at h
  exact ⟨h.1, by simp [h.2.1], h.2.2.1, h.2.2.2⟩
theorem own_blk {w : World} {base : Nat} {e : TypeId} {size n c : Nat} {x : Addr} {xs : List Value} (ho : w.ownsRow base e size (.slice (some x) n c) n xs) : ∃ cur f, w.heap[x.block]? = some (.cells cur e f) := by
  rcases ho.2 with ⟨hv, _⟩ | ⟨h, cap, cur, hv, hb, hg, _⟩
  · cases hv
  · injection hv with e1 _ _
    injection e1 with e1
    subst e1
    exact ⟨_, _, hg⟩
theorem blk_ne {w : World} {g h : Nat} {t u : TypeId} {cs ds : Array Value} {f f' : Nat × Nat} (a : w.heap[g]? = some (.cells cs t f)) (b : w.heap[h]? = some (.cells ds u f')) (hne : t ≠ u) : g ≠ h := by
  rintro rfl
  rw [a] at b
  injection b with b
  injection b with _ b
  exact hne b
theorem own_apart {w : World} {b1 b2 s1 s2 n1 n2 c1 c2 : Nat} {t u : TypeId} {x y : Addr} {xs ys : List Value} (h1 : w.ownsRow b1 t s1 (.slice (some x) n1 c1) n1 xs) (h2 : w.ownsRow b2 u s2 (.slice (some y) n2 c2) n2 ys) (hne : t ≠ u) : x.block ≠ y.block := by
  obtain ⟨_, _, g1⟩ := own_blk h1
  obtain ⟨_, _, g2⟩ := own_blk h2
  exact blk_ne g1 g2 hne
theorem map_set_n (E : List Cl) (i : Nat) (c : Cl) : (E.set i c).map (fun c => Value.int .i64 c.n) = (E.map (fun c => Value.int .i64 c.n)).set i (.int .i64 c.n) := by rw [List.map_set]
/-- A row's value and its count set in place. -/
theorem RfO.putAt {w : World} {x g h n cL cC : Nat} {E : List Cl} (r : RfO w x (.slice (some ⟨g, 0, none⟩) n cL) (.slice (some ⟨h, 0, none⟩) n cC) E) (hn : n = E.length) {i : Nat} {c : Cl} (hc : E[i]? = some c) (v m : Int) :
    RfO ((w.setCell ⟨g, i * 6 + 5, none⟩ (.int .i64 v)).setCell ⟨h, i, none⟩ (.int .i64 m)) x (.slice (some ⟨g, 0, none⟩) n cL) (.slice (some ⟨h, 0, none⟩) n cC) (E.set i ⟨c.p, v, m⟩) := by
  obtain ⟨hb, hl, hcs, _⟩ := r
  subst hn
  have hgh : g ≠ h := own_apart hl hcs (by decide)
  have l1 := (hl.lt g rfl).1
  have l2 := (hcs.lt h rfl).1
  have k1 := Keep.set w g (i * 6 + 5) (.int .i64 v) (fun j => j = g) rfl
  have k2 := Keep.set (w.setCell ⟨g, i * 6 + 5, none⟩ (.int .i64 v)) h i (.int .i64 m) (fun j => j = h) rfl
  have hl1 := (hl.stored (i * 6 + 5) (.int .i64 v)).1
  have hc1 := own_keepB hcs k1 (fun j hj => by injection hj with hj; exact fun e => hgh (e.symm.trans hj.symm))
  have hc2 := (hc1.stored i (.int .i64 m)).1
  have hl2 := own_keepB hl1 k2 (fun j hj => by injection hj with hj; exact fun e => hgh (hj.trans e))
  refine ⟨k2.bk (k1.bk hb (fun e => by omega)) (fun e => by omega), ?_, ?_, fun e => by rw [List.set_eq_nil_iff] at e; rw [e] at hc; cases hc⟩
  · rw [List.length_set, List.map_set, ← flatV_set1 enRw_len (E.map rwOf) i (rwOf c) (rwOf ⟨c.p, v, m⟩) (by rw [List.getElem?_map, hc]; rfl) 5 (by omega) (.int .i64 v) rfl]
    exact hl2
  · rw [List.length_set, map_set_n]
    exact hc2
theorem RfO.some {w : World} {x : Nat} {vL vC : Value} {E : List Cl} (r : RfO w x vL vC E) (h : 0 < E.length) : ∃ g cL h' cC, vL = .slice (some ⟨g, 0, none⟩) E.length cL ∧ vC = .slice (some ⟨h', 0, none⟩) E.length cC := by
  obtain ⟨g, cL, e1, _⟩ := r.ls.form h
  obtain ⟨h', cC, e2, _⟩ := r.cs.form h
  exact ⟨g, cL, h', cC, e1, e2⟩
set_option maxRecDepth 100000 in
set_option maxHeartbeats 4000000 in
theorem rset_put (x : Nat) (vL vC : Value) (E : List Cl) (K : Nat) (p : Pt) (v : Int) (w : World) (h : RfO w x vL vC E) (hE : OkE E K) (hK : K ≤ 1000) (hs : okSet p v = true) (i : Nat) (c : Cl) (hf : findE E p = i) (hi : i < E.length) (hc : E[i]? = some c) (hp : c.p = p) (hg : getE E p = (c.v, c.n)) :
    Calls Try.prog 14 #[.pointer (some ⟨x, 0, none⟩), .agg (ptA p), .int .i64 v] w (RSet x vL vC w (putT E p v)) := by
  have hT : putT E p v = ⟨c.v, 0, E.set i ⟨c.p, v, c.n + 1⟩⟩ := by
    unfold putT
    rw [if_pos hs, hg, ← hp, setE_at hE hc]
  rw [hT]
  clear hT
  obtain ⟨hm, g1, g2, g3⟩ := okSet_iff hs
  have g2' : ¬ v < 0 := by omega
  have g3' : ¬ 1073741824 < v := by omega
  obtain ⟨g, cL, h', cC, rfl, rfl⟩ := h.some (by omega)
  have hcn := (hE.cnt c (List.mem_of_getElem? hc)).2
  have hw1 : IntKind.i64.wrap (c.n + 1) = c.n + 1 := by rw [IntKind.wrap_i64] <;> omega
  obtain ⟨n, hn⟩ : ∃ n, n = E.length := ⟨_, rfl⟩
  have hnK : n ≤ 1000 := by rw [hn]; exact Nat.le_trans hE.len hK
  rw [← hn] at hi h ⊢
  have a1 := (Below.refl w.heap.size w).alloc (Nat.le_refl _) (PB p)
  have b1 := Bk.new w 25 (ptA p)
  have HMAY := Lib.hid (fun W1 => rpright_any p W1)
  rw [hm] at HMAY
  have HFD := Lib.hid (fun W1 (hb : Below w.heap.size w W1) => rfind_any x _ _ E K p W1 (h.below hb) hE hK)
  rw [hf] at HFD
  have HB1 := Lib.hid b1
  have e0 := b1.cell 0
  have e1 := b1.cell 1
  have e2 := b1.cell 2
  have e3 := b1.cell 3
  have e4 := b1.cell 4
  have HR := Lib.hid h
  have HX : Hid (∀ W, Below w.heap.size w W → W.cell? ⟨x, 0, none⟩ = some (.slice (some ⟨g, 0, none⟩) n cL) ∧ W.cell? ⟨g, i * 6 + 5, none⟩ = some (.int .i64 c.v) ∧ W.frozen? ⟨g, i * 6 + 5, none⟩ = false ∧
      (W.setCell ⟨g, i * 6 + 5, none⟩ (.int .i64 v)).cell? ⟨x, 1, none⟩ = some (.slice (some ⟨h', 0, none⟩) n cC) ∧ (W.setCell ⟨g, i * 6 + 5, none⟩ (.int .i64 v)).cell? ⟨h', i, none⟩ = some (.int .i64 c.n) ∧ (W.setCell ⟨g, i * 6 + 5, none⟩ (.int .i64 v)).frozen? ⟨h', i, none⟩ = false) := Lib.hid (fun W hb => by
    obtain ⟨rb, rl, rc, _⟩ := h.below hb
    rw [← hn] at rl rc
    have hgh : g ≠ h' := own_apart rl rc (by decide)
    have l1 := (rl.lt g rfl).1
    have k1 := Keep.set W g (i * 6 + 5) (.int .i64 v) (fun j => j = g) rfl
    have rb2 := k1.bk rb (fun e => by omega)
    have rc2 := own_keepB rc k1 (fun j hj => by injection hj with hj; exact fun e => hgh (e.symm.trans hj.symm))
    have hlen : i * 6 + 6 ≤ n * 6 := by omega
    refine ⟨rb.cell 0, ?_, rl.frozenAt _, rb2.cell 1, ?_, rc2.frozenAt _⟩
    · rw [rl.cellAt (i * 6 + 5) (by omega), flatV_get enRw_len (E.map rwOf) i (rwOf c) (by rw [List.getElem?_map, hc]; rfl) 5 (by omega)]; rfl
    · rw [rc2.cellAt i (by omega), List.getElem?_map, hc]; rfl)
  have HI := Lib.hid hc
  have HN := Lib.hid hn
  clear h hE b1 hf hp hg hc hs hm hn
  go_enter Try.func14, Try.ntmps14
  go_wp2_with (first
    | (go_at_call 37; refine (HMAY.out _).mono ?_; rintro e w2 ⟨rfl, hb2⟩; have k2 := HB1.out.below hb2; have d0 := k2.cell 0; have d1 := k2.cell 1; have d2 := k2.cell 2; have d3 := k2.cell 3; have d4 := k2.cell 4; clear e0 e1 e2 e3 e4 k2; have hb3 := bl_then a1 (Nat.le_refl _) hb2)
    | (go_at_call 38; refine (HFD.out _ hb3).mono ?_; rintro e w4 ⟨rfl, hb4⟩; have HB := Lib.hid (bl_then hb3 (Nat.le_refl _) hb4); obtain ⟨x0, x1, x2, x3, x4, x5⟩ := HX.out _ HB.out; clear d0 d1 d2 d3 d4 hb2 hb3 hb4))
  go_ret2
  refine ⟨_, _, rfl, (HR.out.below HB.out).putAt HN.out HI.out v (c.n + 1), ?_, fun _ hi => .inl hi⟩
  exact (Keep.of_below HB.out _).trans ((Keep.set w4 g _ _ (RS x _ _) (.inr (.inl rfl))).trans (Keep.set _ h' _ _ (RS x _ _) (.inr (.inr rfl))))
end Go.Proofs.Ytjbhlckdaghppaa
