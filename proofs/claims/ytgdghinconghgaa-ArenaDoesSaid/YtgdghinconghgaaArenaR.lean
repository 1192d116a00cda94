/- The reference's arena: what it is; New. No condition. -/
import Derived.Test.YtgdghinconghgaaArenaI
import Derived.Maps.AppendAt
import Derived.Deep.DeepAppendRoom
import Derived.ArgAppend
import Derived.Test.YtgdghinconghgaaSl
set_option linter.unusedVariables false
set_option linter.unusedSimpArgs false
namespace Go.Proofs.Ytgdghinconghgaa
open Go.RowKit (wrap32 wrap64)
open Go.RowKit
theorem Try.infoI : (Try.prog.info? 3).map (fun i => (i.zero, i.size, i.bytes)) = some (some (.int .i64 0), 1, 8) := by kernel_rfl
theorem Try.infoBo : (Try.prog.info? 4).map (fun i => (i.zero, i.size, i.bytes)) = some (some (.bool false), 1, 1) := by kernel_rfl
def xsV (L : List Pl) : List Value := L.map fun p => .int .i64 p.x
def usV (L : List Pl) : List Value := L.map fun p => .bool p.used
def fsI (F : List Nat) : List Int := F.map fun k : Nat => Int.ofNat k
/-- The reference's arena: three slices; what each place has, which are taken, the free ones in order. -/
structure RA (w : World) (g : Nat) (A B C : Option Addr) (ca cb m cc : Nat) (L : List Pl) (F : List Nat) : Prop where
  blk : Bk w g 68 #[.slice A L.length ca, .slice B L.length cb, .slice C m cc]
  xs : w.ownsRow 0 3 1 (.slice A L.length ca) L.length (xsV L)
  us : w.ownsRow 0 4 1 (.slice B L.length cb) L.length (usV L)
  fs : Ints w C m (fsI F)
  mc : m ≤ cc ∧ cc ≤ maxLen
  fn : C = none → m = 0 ∧ cc = 0
  nA : ∀ a, A = some a → a.block ≠ g
  nB : ∀ b, B = some b → b.block ≠ g
  nC : ∀ c, C = some c → c.block ≠ g ∧ (∀ a, A = some a → a.block ≠ c.block) ∧ (∀ b, B = some b → b.block ≠ c.block)
  ct : ∀ c, C = some c → ∃ cur f, w.heap[c.block]? = some (.cells cur 3 f)
theorem own_keepO {w w1 : World} {S : Nat → Prop} {base : Nat} {e : TypeId} {size n c : Nat} {A : Option Addr} {xs : List Value} (ho : w.ownsRow base e size (.slice A n c) n xs) (k : Keep S w w1) (hA : ∀ x, A = some x → ¬ S x.block) : w1.ownsRow base e size (.slice A n c) n xs := by
  refine ⟨ho.1, ?_⟩
  rcases ho.2 with hn | ⟨h, cap, cur, hv, hb, hgg, r⟩
  · exact .inl hn
  · injection hv with e1 e2 e3
    exact .inr ⟨h, cap, cur, by rw [e1, e3], hb, (k.block h (Array.getElem?_eq_some_iff.1 hgg).1 (hA _ e1)).trans hgg, r⟩
theorem ints_keep {w w1 : World} {S : Nat → Prop} {A : Option Addr} {n : Nat} {xs : List Int} (h : Ints w A n xs) (k : Keep S w w1) (hA : ∀ x, A = some x → ¬ S x.block) : Ints w1 A n xs := by
  refine ⟨h.1, h.2.1, fun hn => ?_⟩
  obtain ⟨b, off, ha, hlt, hc⟩ := h.2.2 hn
  exact ⟨b, off, ha, Nat.lt_of_lt_of_le hlt k.size, fun i hi => Keep.cellS k (hc i hi) (show ¬ S b from hA _ ha)⟩
theorem own_blk {w : World} {base : Nat} {e : TypeId} {size n c : Nat} {x : Addr} {xs : List Value} (ho : w.ownsRow base e size (.slice (some x) n c) n xs) : ∃ cur f, w.heap[x.block]? = some (.cells cur e f) := by
  rcases ho.2 with ⟨hv, _⟩ | ⟨h, cap, cur, hv, hb, hg, _⟩
  · cases hv
  · injection hv with e1 _ _
    injection e1 with e1
    subst e1
    exact ⟨_, _, hg⟩
theorem ct_keep {w w1 : World} {S : Nat → Prop} {C : Option Addr} {e : TypeId} (h : ∀ c, C = some c → ∃ cur f, w.heap[c.block]? = some (.cells cur e f)) (k : Keep S w w1) (hC : ∀ a, C = some a → ¬ S a.block) (c : Addr) (hc : C = some c) : ∃ cur f, w1.heap[c.block]? = some (.cells cur e f) := by
  obtain ⟨cur, f, hh⟩ := h c hc
  exact ⟨cur, f, (k.block c.block (Array.getElem?_eq_some_iff.1 hh).1 (hC c hc)).trans hh⟩
theorem RA.keep {w w1 : World} {S : Nat → Prop} {g : Nat} {A B C : Option Addr} {ca cb m cc : Nat} {L : List Pl} {F : List Nat} (r : RA w g A B C ca cb m cc L F) (k : Keep S w w1) (hg : ¬ S g)
    (hA : ∀ a, A = some a → ¬ S a.block) (hB : ∀ a, B = some a → ¬ S a.block) (hC : ∀ a, C = some a → ¬ S a.block) : RA w1 g A B C ca cb m cc L F :=
  ⟨k.bk r.blk hg, own_keepO r.xs k hA, own_keepO r.us k hB, ints_keep r.fs k hC, r.mc, r.fn, r.nA, r.nB, r.nC, fun c e => ct_keep r.ct k hC c e⟩
theorem RA.below {w w1 : World} {g : Nat} {A B C : Option Addr} {ca cb m cc : Nat} {L : List Pl} {F : List Nat} (r : RA w g A B C ca cb m cc L F) (k : Below w.heap.size w w1) : RA w1 g A B C ca cb m cc L F :=
  r.keep (Keep.of_below k (fun _ => False)) (fun h => h) (fun _ _ h => h) (fun _ _ h => h) (fun _ _ h => h)
theorem xsV_get (L : List Pl) (k : Nat) (p : Pl) (h : L[k]? = some p) : (xsV L)[k]? = some (.int .i64 p.x) := by unfold xsV; rw [List.getElem?_map, h]; rfl
theorem usV_get (L : List Pl) (k : Nat) (p : Pl) (h : L[k]? = some p) : (usV L)[k]? = some (.bool p.used) := by unfold usV; rw [List.getElem?_map, h]; rfl
/-- A place's two cells. -/
theorem RA.place {w : World} {g : Nat} {A B C : Option Addr} {ca cb m cc : Nat} {L : List Pl} {F : List Nat} (r : RA w g A B C ca cb m cc L F) (k : Nat) (p : Pl) (hp : L[k]? = some p) :
    ∃ a b, A = some ⟨a, 0, none⟩ ∧ B = some ⟨b, 0, none⟩ ∧ w.cell? ⟨a, k, none⟩ = some (.int .i64 p.x) ∧ w.cell? ⟨b, k, none⟩ = some (.bool p.used) ∧ w.frozen? ⟨a, k, none⟩ = false ∧ w.frozen? ⟨b, k, none⟩ = false ∧ L.length ≤ ca ∧ L.length ≤ cb ∧ ca ≤ maxLen ∧ cb ≤ maxLen := by
  have hk : k < L.length := (List.getElem?_eq_some_iff.1 hp).1
  have hxs := r.xs
  have hus := r.us
  rcases r.xs.2 with ⟨_, hn⟩ | ⟨a, cap, cur, hv, _, hg, h1, h2, _⟩
  · omega
  rcases r.us.2 with ⟨_, hn⟩ | ⟨b, cap2, cur2, hv2, _, hg2, h3, h4, _⟩
  · omega
  injection hv with ea _ ec
  injection hv2 with eb _ ed
  subst ea; subst eb; subst ec; subst ed
  refine ⟨a, b, rfl, rfl, ?_, ?_, hxs.frozenAt _, hus.frozenAt _, h1, h3, h2, h4⟩
  · rw [hxs.cellAt k (by omega)]; exact xsV_get L k p hp
  · rw [hus.cellAt k (by omega)]; exact usV_get L k p hp
def RNewA (w : World) (M : Nat) (e : Ending) (w' : World) : Prop :=
  ∃ g A B C ca cb cc, e = .returned (.pointer (some ⟨g, 0, none⟩)) ∧ RA w' g A B C ca cb M cc (freshTo M M) (List.range M) ∧ w.heap.size ≤ g ∧ (∀ a, A = some a → w.heap.size ≤ a.block) ∧ (∀ a, B = some a → w.heap.size ≤ a.block) ∧ (∀ a, C = some a → w.heap.size ≤ a.block) ∧ Below w.heap.size w w'
theorem own_ne {w : World} {base : Nat} {e f : TypeId} {s t n m : Nat} {v u : Value} {xs ys : List Value} (h : w.ownsRow base e s v n xs) (h' : w.ownsRow base f t u m ys) (hne : e ≠ f) : ∀ b, v.ownBlock = some b → u.ownBlock = some b → False := by
  intro b hb hb'
  rcases h.2 with ⟨hv, _⟩ | ⟨g, cap, cur, hv, _, hg, _⟩
  · rw [hv] at hb; cases hb
  rcases h'.2 with ⟨hu, _⟩ | ⟨g', cap', cur', hu, _, hg', _⟩
  · rw [hu] at hb'; cases hb'
  rw [hv] at hb
  rw [hu] at hb'
  have e1 : g = b := by injection hb
  have e2 : g' = b := by injection hb'
  subst e1; subst e2
  rw [hg] at hg'
  injection hg' with hg'
  injection hg' with _ hg'
  exact hne hg'
/-- 'append(s, x...)', s the call's own: the new row is the old one, or new. -/
theorem wp_append_own_fr {P : Program} {w : World} {o : Oper} {a : Act} {K : Act → World → Prop} {Q : Exit → Act → World → Prop} (s x : Operand) (t : TypeId)
    (ho : o.op = .call { callee := .builtin .append, args := #[s, x], argTypes := #[t, t] })
    (base : Nat) (e : TypeId) (i : TypeInfo) (z : Value) (size bytes : Nat) (ht : P.underlying t = some (.slice e)) (hi : P.info? e = some i) (hz : i.zero = some z) (hsize : i.size = size) (hby : i.bytes = bytes) (hzs : z.cells.size = size) (hsz : 0 < size)
    (v : Value) (n : Nat) (xs : List Value) (hs : a.eval s = v) (hown : w.ownsRow base e size v n xs)
    (ad : Addr) (m c : Nat) (news : List Value) (hx : a.eval x = .slice (some ad) m c) (hl : news.length = m * size) (hnews : ∀ j u, news[j]? = some u → w.cell? (ad.add j) = some u) (h1 : ∀ u ∈ news, u.oneCell' = true)
    (h63 : n + m ≤ maxLen) (hbytes : (n + m) * bytes ≤ 140737488355328) (hbase : base ≤ w.heap.size)
    (h : ∀ v' w', w'.ownsRow base e size v' (n + m) (xs ++ news) → w.grownBy w' v.ownBlock → (v'.ownBlock = v.ownBlock ∨ ∀ b, v'.ownBlock = some b → w.heap.size ≤ b) → K (a.put o.dst v') w') : o.wp P a w K Q := by
  have hown0 := hown
  rcases hown.2 with ⟨hv, hn⟩ | ⟨g, cap, cur, hv, hb, hg, r1, r2, r3, r4⟩
  · refine wp_append_own w s x t ho w.heap.size e i z size bytes ht hi hz hsize hby hzs hsz v n xs hs ⟨hown.1, .inl ⟨hv, hn⟩⟩ ad m c news hx hl hnews h1 h63 hbytes (Nat.le_refl _) ?_
    intro v' w' h2 h3 _
    exact h v' w' (own_weaken h2 hbase) h3 (.inr fun b hb => (h2.lt b hb).1)
  · subst hv
    by_cases hroom : n + m ≤ cap
    · refine wp_append_own_spare w s x t ho base e i size ht hi hsize g n cap xs hs hown ad m c news hx hl hnews h1 hroom ?_
      intro w' h2 h3
      exact h _ w' h2 h3 (.inl rfl)
    · obtain ⟨v', w', hrun, h2, h3⟩ := run_append_arg_grows (P := P) w t o.type e i z size bytes ht hi hz hsize hby hzs hsz ⟨g, 0, none⟩ n cap xs hown.1 (fun j u hu => by
        have hj : j < xs.length := (List.getElem?_eq_some_iff.1 hu).1
        have hadd : (⟨g, 0, none⟩ : Addr).add j = ⟨g, j, none⟩ := by unfold Addr.add; split <;> simp_all
        rw [hadd, hown0.cellAt j (by rw [hown0.1] at hj; exact hj), hu]) ad m c news hl hnews (by omega) h63 hbytes
      unfold Oper.wp
      simp [execOp, ho, resolve, invoke, builtin, hs, hx, hrun, Result.andThen]
      exact h v' w' (own_weaken h2 hbase) ⟨h3.os, h3.tape, h3.output, h3.size, fun k hk _ => h3.block k hk (by simp)⟩ (.inr fun b hb => (h2.lt b hb).1)
/-- While it is being made: the three rows are the call's own, beyond the block g. -/
structure RBuild (w wr : World) (k1 k2 k3 : Nat) (va vb vc : Value) : Prop where
  blk : Bk wr w.heap.size 68 #[va, vb, vc]
  xs : wr.ownsRow (w.heap.size + 1) 3 1 va k1 (List.replicate k1 (.int .i64 0))
  us : wr.ownsRow (w.heap.size + 1) 4 1 vb k2 (List.replicate k2 (.bool false))
  fs : wr.ownsRow (w.heap.size + 1) 3 1 vc k3 ((fsI (List.range k3)).map (Value.int .i64))
  ac : ∀ h, va.ownBlock = some h → vc.ownBlock = some h → False
  bel : Below w.heap.size w wr
theorem RBuild.size {w wr : World} {k1 k2 k3 : Nat} {va vb vc : Value} (r : RBuild w wr k1 k2 k3 va vb vc) : w.heap.size + 1 ≤ wr.heap.size := by have := r.blk.lt; omega
theorem own_off {w : World} {base : Nat} {e : TypeId} {s n : Nat} {v : Value} {xs : List Value} (h : w.ownsRow base e s v n xs) {u : Option Nat} (hd : ∀ b, v.ownBlock = some b → u = some b → False) : v.ownBlock = none ∨ v.ownBlock ≠ u := by
  cases hv : v.ownBlock with
  | none => exact .inl rfl
  | some b => exact .inr fun e => hd b hv (by rw [← e])
/-- Behind the first of the three appends and its store. -/
theorem RBuild.step1 {w wr w2 : World} {k1 k2 k3 : Nat} {va vb vc v1 : Value} (r : RBuild w wr k1 k2 k3 va vb vc) (o : Obj)
    (hown : w2.ownsRow (w.heap.size + 1) 3 1 v1 (k1 + 1) (List.replicate k1 (.int .i64 0) ++ [.int .i64 0])) (hgr : (wr.alloc o).grownBy w2 va.ownBlock) (hfr : v1.ownBlock = va.ownBlock ∨ ∀ b, v1.ownBlock = some b → (wr.alloc o).heap.size ≤ b) :
    (w2.cell? ⟨w.heap.size, 0, none⟩ = some va ∧ w2.frozen? ⟨w.heap.size, 0, none⟩ = false) ∧ RBuild w (w2.setCell ⟨w.heap.size, 0, none⟩ v1) (k1 + 1) k2 k3 v1 vb vc := by
  have hsz := r.size
  have hb1 : Bk (wr.alloc o) w.heap.size 68 #[va, vb, vc] := r.blk.below ((Below.refl _ _).alloc (Nat.le_refl _) _)
  have kk : Keep (fun k => va.ownBlock = some k) (wr.alloc o) w2 := grown_keep hgr _ (fun k e => e)
  have hgn : ¬ (va.ownBlock = some w.heap.size) := fun e => by have := (r.xs.lt _ e).1; omega
  have hb2 := kk.bk hb1 hgn
  have hus2 := (r.us.alloc o).kept hgr (own_off r.us (fun b h1 h2 => own_ne r.us r.xs (by decide) b h1 h2))
  have hfs2 := (r.fs.alloc o).kept hgr (own_off r.fs (fun b h1 h2 => r.ac b h2 h1))
  have hbel : Below w.heap.size w w2 := (r.bel.alloc r.bel.size o).grown hgr (by simp; omega) (fun k e => by have := (r.xs.lt k e).1; omega)
  have ks := Keep.set w2 w.heap.size 0 v1 (fun k => k = w.heap.size) rfl
  refine ⟨⟨hb2.cell 0, hb2.frozen 0⟩, ⟨hb2.set 0 v1, ?_, own_keepS hus2 ks (fun i hi => by omega), own_keepS hfs2 ks (fun i hi => by omega), ?_, hbel.setCell (p := ⟨w.heap.size, 0, none⟩) (Nat.le_refl _) _⟩⟩
  · rw [List.replicate_succ']; exact own_keepS hown ks (fun i hi => by omega)
  · intro h h1 h2
    rcases hfr with e | e
    · exact r.ac h (by rw [← e]; exact h1) h2
    · have := e h h1
      have := (r.fs.lt h h2).2
      simp at *; omega
theorem RBuild.step2 {w wr w2 : World} {k1 k2 k3 : Nat} {va vb vc v1 : Value} (r : RBuild w wr k1 k2 k3 va vb vc) (o : Obj)
    (hown : w2.ownsRow (w.heap.size + 1) 4 1 v1 (k2 + 1) (List.replicate k2 (.bool false) ++ [.bool false])) (hgr : (wr.alloc o).grownBy w2 vb.ownBlock) :
    (w2.cell? ⟨w.heap.size, 1, none⟩ = some vb ∧ w2.frozen? ⟨w.heap.size, 1, none⟩ = false) ∧ RBuild w (w2.setCell ⟨w.heap.size, 1, none⟩ v1) k1 (k2 + 1) k3 va v1 vc := by
  have hsz := r.size
  have hb1 : Bk (wr.alloc o) w.heap.size 68 #[va, vb, vc] := r.blk.below ((Below.refl _ _).alloc (Nat.le_refl _) _)
  have kk : Keep (fun k => vb.ownBlock = some k) (wr.alloc o) w2 := grown_keep hgr _ (fun k e => e)
  have hgn : ¬ (vb.ownBlock = some w.heap.size) := fun e => by have := (r.us.lt _ e).1; omega
  have hb2 := kk.bk hb1 hgn
  have hxs2 := (r.xs.alloc o).kept hgr (own_off r.xs (fun b h1 h2 => own_ne r.xs r.us (by decide) b h1 h2))
  have hfs2 := (r.fs.alloc o).kept hgr (own_off r.fs (fun b h1 h2 => own_ne r.fs r.us (by decide) b h1 h2))
  have hbel : Below w.heap.size w w2 := (r.bel.alloc r.bel.size o).grown hgr (by simp; omega) (fun k e => by have := (r.us.lt k e).1; omega)
  have ks := Keep.set w2 w.heap.size 1 v1 (fun k => k = w.heap.size) rfl
  refine ⟨⟨hb2.cell 1, hb2.frozen 1⟩, ⟨hb2.set 1 v1, own_keepS hxs2 ks (fun i hi => by omega), ?_, own_keepS hfs2 ks (fun i hi => by omega), r.ac, hbel.setCell (p := ⟨w.heap.size, 1, none⟩) (Nat.le_refl _) _⟩⟩
  · rw [List.replicate_succ']; exact own_keepS hown ks (fun i hi => by omega)
theorem RBuild.step3 {w wr w2 : World} {k1 k2 k3 : Nat} {va vb vc v1 : Value} (r : RBuild w wr k1 k2 k3 va vb vc) (o : Obj)
    (hown : w2.ownsRow (w.heap.size + 1) 3 1 v1 (k3 + 1) ((fsI (List.range k3)).map (Value.int .i64) ++ [.int .i64 k3])) (hgr : (wr.alloc o).grownBy w2 vc.ownBlock) (hfr : v1.ownBlock = vc.ownBlock ∨ ∀ b, v1.ownBlock = some b → (wr.alloc o).heap.size ≤ b) :
    (w2.cell? ⟨w.heap.size, 2, none⟩ = some vc ∧ w2.frozen? ⟨w.heap.size, 2, none⟩ = false) ∧ RBuild w (w2.setCell ⟨w.heap.size, 2, none⟩ v1) k1 k2 (k3 + 1) va vb v1 := by
  have hsz := r.size
  have hb1 : Bk (wr.alloc o) w.heap.size 68 #[va, vb, vc] := r.blk.below ((Below.refl _ _).alloc (Nat.le_refl _) _)
  have kk : Keep (fun k => vc.ownBlock = some k) (wr.alloc o) w2 := grown_keep hgr _ (fun k e => e)
  have hgn : ¬ (vc.ownBlock = some w.heap.size) := fun e => by have := (r.fs.lt _ e).1; omega
  have hb2 := kk.bk hb1 hgn
  have hxs2 := (r.xs.alloc o).kept hgr (own_off r.xs (fun b h1 h2 => r.ac b h1 h2))
  have hus2 := (r.us.alloc o).kept hgr (own_off r.us (fun b h1 h2 => own_ne r.us r.fs (by decide) b h1 h2))
  have hbel : Below w.heap.size w w2 := (r.bel.alloc r.bel.size o).grown hgr (by simp; omega) (fun k e => by have := (r.fs.lt k e).1; omega)
  have ks := Keep.set w2 w.heap.size 2 v1 (fun k => k = w.heap.size) rfl
  refine ⟨⟨hb2.cell 2, hb2.frozen 2⟩, ⟨hb2.set 2 v1, own_keepS hxs2 ks (fun i hi => by omega), own_keepS hus2 ks (fun i hi => by omega), ?_, ?_, hbel.setCell (p := ⟨w.heap.size, 2, none⟩) (Nat.le_refl _) _⟩⟩
  · have : (fsI (List.range (k3 + 1))).map (Value.int .i64) = (fsI (List.range k3)).map (Value.int .i64) ++ [.int .i64 k3] := by unfold fsI; rw [List.range_succ]; simp
    rw [this]; exact own_keepS hown ks (fun i hi => by omega)
  · intro h h1 h2
    rcases hfr with e | e
    · exact r.ac h h1 (by rw [← e]; exact h2)
    · have := e h h2
      have := (r.xs.lt h h1).2
      simp at *; omega
end Go.Proofs.Ytgdghinconghgaa
