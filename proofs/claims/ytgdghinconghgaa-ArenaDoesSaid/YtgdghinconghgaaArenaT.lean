/- The reference's arena: Has, Take, Drop. No condition. -/
import Derived.Test.YtgdghinconghgaaArenaN
import Derived.StillTailTactics
set_option linter.unusedVariables false
set_option linter.unusedSimpArgs false
namespace Go.Proofs.Ytgdghinconghgaa
open Go.RowKit (wrap32 wrap64)
open Go.RowKit
theorem RA.cells {w : World} {g : Nat} {A B C : Option Addr} {ca cb m cc : Nat} {L : List Pl} {F : List Nat} (r : RA w g A B C ca cb m cc L F) :
    (w.cell? ⟨g, 0, none⟩ = some (.slice A L.length ca) ∧ w.cell? ⟨g, 1, none⟩ = some (.slice B L.length cb) ∧ w.cell? ⟨g, 2, none⟩ = some (.slice C m cc)) ∧ w.frozen? ⟨g, 2, none⟩ = false :=
  ⟨⟨r.blk.cell 0, r.blk.cell 1, r.blk.cell 2⟩, r.blk.frozen 2⟩
theorem RA.flen {w : World} {g : Nat} {A B C : Option Addr} {ca cb m cc : Nat} {L : List Pl} {F : List Nat} (r : RA w g A B C ca cb m cc L F) : F.length = m := by
  have := r.fs.len
  unfold fsI at this
  simpa using this
theorem RA.stored {w : World} {g a b : Nat} {C : Option Addr} {ca cb m cc : Nat} {L : List Pl} {F : List Nat} (r : RA w g (some ⟨a, 0, none⟩) (some ⟨b, 0, none⟩) C ca cb m cc L F) (k : Nat) (p : Pl) :
    RA ((w.setCell ⟨a, k, none⟩ (.int .i64 p.x)).setCell ⟨b, k, none⟩ (.bool p.used)) g (some ⟨a, 0, none⟩) (some ⟨b, 0, none⟩) C ca cb m cc (L.set k p) F ∧
    Keep (fun i => i = a ∨ i = b) w ((w.setCell ⟨a, k, none⟩ (.int .i64 p.x)).setCell ⟨b, k, none⟩ (.bool p.used)) := by
  have kk : Keep (fun i => i = a ∨ i = b) w ((w.setCell ⟨a, k, none⟩ (.int .i64 p.x)).setCell ⟨b, k, none⟩ (.bool p.used)) := Keep.trans (Keep.set _ a _ _ _ (.inl rfl)) (Keep.set _ b _ _ _ (.inr rfl))
  have na := r.nA _ rfl
  have nb := r.nB _ rfl
  have hab : a ≠ b := fun e => by
    subst e
    have h1 := r.xs
    have h2 := r.us
    exact own_ne h1 h2 (by decide) a rfl rfl
  have ex : xsV (L.set k p) = (xsV L).set k (.int .i64 p.x) := by unfold xsV; rw [List.map_set]
  have eu : usV (L.set k p) = (usV L).set k (.bool p.used) := by unfold usV; rw [List.map_set]
  have hcc : ∀ x, C = some x → ¬ (x.block = a ∨ x.block = b) := fun x e q => by
    obtain ⟨_, h1, h2⟩ := r.nC x e
    rcases q with q | q
    · exact h1 _ rfl q.symm
    · exact h2 _ rfl q.symm
  refine ⟨⟨?_, ?_, ?_, ints_keep r.fs kk hcc, r.mc, r.fn, r.nA, r.nB, r.nC, fun c e => ct_keep r.ct kk hcc c e⟩, kk⟩
  · rw [List.length_set]; exact kk.bk r.blk (fun q => q.elim (fun e => na e.symm) (fun e => nb e.symm))
  · rw [List.length_set, ex]
    exact own_keepO (r.xs.stored _ _).1 (Keep.set _ b _ _ (fun i => i = b) rfl) (fun x e q => by injection e with e; subst e; exact hab q)
  · rw [List.length_set, eu]
    exact ((own_keepO r.us (Keep.set w a k (.int .i64 p.x) (fun i => i = a) rfl) (fun x e q => by injection e with e; subst e; exact hab q.symm)).stored _ _).1
set_option maxHeartbeats 1000000 in
theorem rhasA_any (g : Nat) (A B C : Option Addr) (ca cb m cc : Nat) (L : List Pl) (F : List Nat) (i : Int) (w : World) (r : RA w g A B C ca cb m cc L F) (hL : L.length ≤ 1000) :
    Calls Try.prog 43 #[.pointer (some ⟨g, 0, none⟩), .int .i64 i] w fun e w' => e = .returned (.bool (usA L i).isSome) ∧ w = w' := by
  obtain ⟨⟨c0, c1, c2⟩, _⟩ := r.cells
  by_cases hi : 0 ≤ i ∧ i < L.length
  · obtain ⟨k, rfl⟩ : ∃ k : Nat, i = k := ⟨i.toNat, by omega⟩
    have hk : k < L.length := by omega
    have hp : L[k]? = some L[k] := List.getElem?_eq_getElem hk
    obtain ⟨a, b, rfl, rfl, p0, p1, _, _, _, _, _, _⟩ := r.place k _ hp
    rw [usA_at L k _ hp]
    clear hp
    generalize L[k] = p at p0 p1 ⊢
    obtain ⟨px, pu, pn⟩ := p
    dsimp only at p0 p1 ⊢
    generalize L.length = N at c0 c1 hk hL
    clear r hi
    cases pu <;>
    · go_enter Try.func43, Try.ntmps43
      go_wp2
      go_ret
      exact ⟨rfl, rfl⟩
  · rw [usA_out L i hi]
    generalize L.length = N at c0 c1 hi hL
    clear r
    by_cases h0 : 0 ≤ i
    · have h1 : ¬ (i < (N : Int)) := by omega
      clear hi
      go_enter Try.func43, Try.ntmps43
      go_wp2
      go_ret
      exact ⟨rfl, rfl⟩
    · have h1 : i < 0 := by omega
      clear hi
      go_enter Try.func43, Try.ntmps43
      go_wp2
      go_ret
      exact ⟨rfl, rfl⟩
def SK (g : Nat) (A B : Option Addr) : Nat → Prop := fun i => i = g ∨ (∃ a, A = some a ∧ i = a.block) ∨ (∃ b, B = some b ∧ i = b.block)
def RTakeRet (g : Nat) (A B : Option Addr) (ca cb : Nat) (L : List Pl) (F : List Nat) (v : Int) (ok : Bool) (w : World) (e : Ending) (w' : World) : Prop :=
  e = .returned (.tuple #[.int .i64 v, .bool ok]) ∧ (∃ C m cc, RA w' g A B C ca cb m cc L F) ∧ Keep (SK g A B) w w'
set_option maxHeartbeats 1000000 in
theorem rtakeA_no (g : Nat) (A B C : Option Addr) (ca cb m cc : Nat) (L : List Pl) (x : Int) (w : World) (r : RA w g A B C ca cb m cc L []) :
    Calls Try.prog 40 #[.pointer (some ⟨g, 0, none⟩), .int .i64 x] w (RTakeRet g A B ca cb L [] 0 false w) := by
  obtain ⟨⟨c0, c1, c2⟩, _⟩ := r.cells
  have hm := r.flen
  simp at hm
  subst hm
  have HR := Lib.hid r
  clear r
  go_enter Try.func40, Try.ntmps40
  go_wp2
  go_ret2
  exact ⟨rfl, ⟨_, _, _, HR.out⟩, Keep.refl _ _⟩
/-- Behind `a.Free = a.Free[1:]`. -/
theorem RA.popped {w : World} {g a b1 b off ca cb q cc : Nat} {L : List Pl} {k : Nat} {F : List Nat} (r : RA w g (some ⟨a, 0, none⟩) (some ⟨b1, 0, none⟩) (some ⟨b, off, none⟩) ca cb (q + 1) cc L (k :: F)) (o' : Nat) (ho : o' = off + 1 ∨ q = 0) :
    RA (w.setCell ⟨g, 2, none⟩ (.slice (some ⟨b, o', none⟩) q (cc - 1))) g (some ⟨a, 0, none⟩) (some ⟨b1, 0, none⟩) (some ⟨b, o', none⟩) ca cb q (cc - 1) L F := by
  have ks := Keep.set w g 2 (.slice (some ⟨b, o', none⟩) q (cc - 1)) (fun i => i = g) rfl
  have hmc := r.mc
  have hF := r.fs
  have hC := r.nC _ rfl
  refine ⟨r.blk.set 2 _, own_keepO r.xs ks (fun x e => r.nA x e), own_keepO r.us ks (fun x e => r.nB x e), ?_, ⟨by omega, by omega⟩, (fun h => by cases h), r.nA, r.nB, ?_, fun c e => (by injection e with e; subst e; exact ct_keep (c := ⟨b, off, none⟩) r.ct ks (fun x hx z => (r.nC x hx).1 z) rfl)⟩
  · refine ⟨by have := hF.1; unfold fsI at this ⊢; simp at this ⊢; exact this, by have := hF.2.1; omega, fun hq => ?_⟩
    obtain ⟨b', off', he, hlt, hc⟩ := hF.2.2 (by omega)
    injection he with he
    injection he with e1 e2
    subst e1; subst e2
    rcases ho with rfl | h0
    · refine ⟨b, off + 1, rfl, by simpa using hlt, fun i hi => ?_⟩
      have h1 := hc (i + 1) (by omega)
      have e : off + (i + 1) = off + 1 + i := by omega
      rw [e] at h1
      have h2 : (fsI (k :: F)).getD (i + 1) 0 = (fsI F).getD i 0 := rfl
      rw [h2] at h1
      exact Keep.cellS ks h1 (fun z => hC.1 z)
    · omega
  · intro c e
    injection e with e; subst e
    exact ⟨hC.1, fun x hx => hC.2.1 x hx, fun x hx => hC.2.2 x hx⟩
set_option maxRecDepth 100000 in
set_option maxHeartbeats 2000000 in
theorem rtakeA_yes (g : Nat) (A B C : Option Addr) (ca cb m cc : Nat) (L : List Pl) (k : Nat) (F : List Nat) (x nx : Int) (w : World) (r : RA w g A B C ca cb m cc L (k :: F)) (hk : k < L.length) (hL : L.length ≤ 1000) :
    Calls Try.prog 40 #[.pointer (some ⟨g, 0, none⟩), .int .i64 x] w (RTakeRet g A B ca cb (L.set k ⟨x, true, nx⟩) F k true w) := by
  have hm := r.flen
  have hmc := r.mc
  obtain ⟨q, rfl⟩ : ∃ q, m = q + 1 := ⟨m - 1, by simp at hm; omega⟩
  have hm63 : cc ≤ 9223372036854775807 := hmc.2
  obtain ⟨b, off, rfl, e0⟩ := r.fs.get (i := 0) (by omega)
  have e00 : (fsI (k :: F)).getD 0 0 = (k : Int) := rfl
  rw [e00] at e0
  simp only [Nat.add_zero] at e0
  obtain ⟨⟨c0, c1, c2⟩, f2⟩ := r.cells
  have hp : L[k]? = some L[k] := List.getElem?_eq_getElem hk
  obtain ⟨a, b1, rfl, rfl, p0, p1, q0, q1, h1, h2, h3, h4⟩ := r.place k _ hp
  have hq1 : q + 1 ≤ cc := hmc.1
  have hkN := hk
  have HK := Lib.hid hk
  generalize hN : L.length = N at c0 c1 hkN hL h1 h2
  have HN := Lib.hid hN
  by_cases hcc : cc = 1
  · obtain rfl : q = 0 := by omega
    subst hcc
    have HR : Hid (RA (w.setCell ⟨g, 2, none⟩ (.slice (some ⟨b, off, none⟩) 0 0)) g (some ⟨a, 0, none⟩) (some ⟨b1, 0, none⟩) (some ⟨b, off, none⟩) ca cb 0 0 L F) := Lib.hid (r.popped off (.inr rfl))
    have kS := Keep.set w g 2 (.slice (some ⟨b, off, none⟩) 0 0) (SK g (some ⟨a, 0, none⟩) (some ⟨b1, 0, none⟩)) (.inl rfl)
    clear r hN hp
    go_enter Try.func40, Try.ntmps40
    go_wp2_with fail
    have r3 := HR.out
    generalize w.setCell ⟨g, 2, none⟩ (.slice (some ⟨b, off, none⟩) 0 0) = w3 at r3 kS ⊢
    clear c0 c1 c2 f2 p0 p1 q0 q1 e0 e00 HR
    have hp : L[k]? = some L[k] := List.getElem?_eq_getElem HK.out
    obtain ⟨⟨c0, c1, c2⟩, f2⟩ := r3.cells
    rw [HN.out] at c0 c1
    obtain ⟨_, _, ea, eb, p0, p1, q0, q1, _⟩ := r3.place k _ hp
    injection ea with ea
    injection ea with ea
    injection eb with eb
    injection eb with eb
    subst ea; subst eb
    obtain ⟨r5, k5⟩ := RA.stored (r3.below (below_drew _)) k ⟨x, true, nx⟩
    have kA := Keep.set w3.drew a k (.int .i64 x) (fun i => i = a) rfl
    have nag := r3.nA _ rfl
    have nab : a ≠ b1 := fun e => by subst e; exact own_ne r3.xs r3.us (by decide) a rfl rfl
    have c1' : (w3.drew.setCell ⟨a, k, none⟩ (.int .i64 x)).cell? ⟨g, 1, none⟩ = some (.slice (some ⟨b1, 0, none⟩) N cb) := Keep.cellS kA (show w3.drew.cell? _ = _ from c1) (fun z => nag z.symm)
    have p1' : (w3.drew.setCell ⟨a, k, none⟩ (.int .i64 x)).cell? ⟨b1, k, none⟩ = some (.bool L[k].used) := Keep.cellS kA (show w3.drew.cell? _ = _ from p1) (fun z => nab z.symm)
    have q1' : (w3.drew.setCell ⟨a, k, none⟩ (.int .i64 x)).frozen? ⟨b1, k, none⟩ = false := by rw [World.frozen?_setCell]; exact q1
    have R5 := Lib.hid r5
    have K5 := Lib.hid (Keep.trans (Keep.trans kS (Keep.drew _ _)) (k5.mono (fun i hi => hi.elim (fun e => .inr (.inl ⟨_, rfl, e⟩)) (fun e => .inr (.inr ⟨_, rfl, e⟩)))) : Keep (SK g (some ⟨a, 0, none⟩) (some ⟨b1, 0, none⟩)) w _)
    generalize L[k] = px at p0 p1 p1'
    clear r3 r5 k5 kS kA hp
    go_region
    all_goals
      go_wp2
      go_ret2
      exact ⟨rfl, ⟨_, _, _, R5.out⟩, K5.out⟩
  · have HR := Lib.hid (r.popped (off + 1) (.inl rfl))
    have kS := Keep.set w g 2 (.slice (some ⟨b, off + 1, none⟩) q (cc - 1)) (SK g (some ⟨a, 0, none⟩) (some ⟨b1, 0, none⟩)) (.inl rfl)
    have hcc2 : (1 : Int) < cc := by omega
    clear r hN hp
    go_enter Try.func40, Try.ntmps40
    go_wp2_with fail
    have r3 := HR.out
    generalize w.setCell ⟨g, 2, none⟩ (.slice (some ⟨b, off + 1, none⟩) q (cc - 1)) = w3 at r3 kS ⊢
    clear c0 c1 c2 f2 p0 p1 q0 q1 e0 e00 HR
    have hp : L[k]? = some L[k] := List.getElem?_eq_getElem HK.out
    obtain ⟨⟨c0, c1, c2⟩, f2⟩ := r3.cells
    rw [HN.out] at c0 c1
    obtain ⟨_, _, ea, eb, p0, p1, q0, q1, _⟩ := r3.place k _ hp
    injection ea with ea
    injection ea with ea
    injection eb with eb
    injection eb with eb
    subst ea; subst eb
    obtain ⟨r5, k5⟩ := RA.stored (r3.below (below_drew _)) k ⟨x, true, nx⟩
    have kA := Keep.set w3.drew a k (.int .i64 x) (fun i => i = a) rfl
    have nag := r3.nA _ rfl
    have nab : a ≠ b1 := fun e => by subst e; exact own_ne r3.xs r3.us (by decide) a rfl rfl
    have c1' : (w3.drew.setCell ⟨a, k, none⟩ (.int .i64 x)).cell? ⟨g, 1, none⟩ = some (.slice (some ⟨b1, 0, none⟩) N cb) := Keep.cellS kA (show w3.drew.cell? _ = _ from c1) (fun z => nag z.symm)
    have p1' : (w3.drew.setCell ⟨a, k, none⟩ (.int .i64 x)).cell? ⟨b1, k, none⟩ = some (.bool L[k].used) := Keep.cellS kA (show w3.drew.cell? _ = _ from p1) (fun z => nab z.symm)
    have q1' : (w3.drew.setCell ⟨a, k, none⟩ (.int .i64 x)).frozen? ⟨b1, k, none⟩ = false := by rw [World.frozen?_setCell]; exact q1
    have R5 := Lib.hid r5
    have K5 := Lib.hid (Keep.trans (Keep.trans kS (Keep.drew _ _)) (k5.mono (fun i hi => hi.elim (fun e => .inr (.inl ⟨_, rfl, e⟩)) (fun e => .inr (.inr ⟨_, rfl, e⟩)))) : Keep (SK g (some ⟨a, 0, none⟩) (some ⟨b1, 0, none⟩)) w _)
    generalize L[k] = px at p0 p1 p1'
    clear r3 r5 k5 kS kA hp
    go_region
    all_goals
      go_wp2
      go_ret2
      exact ⟨rfl, ⟨_, _, _, R5.out⟩, K5.out⟩
def RDropRet (g : Nat) (A B : Option Addr) (ca cb : Nat) (L : List Pl) (F : List Nat) (ok : Bool) (w : World) (e : Ending) (w' : World) : Prop :=
  e = .returned (.bool ok) ∧ (∃ C m cc, RA w' g A B C ca cb m cc L F) ∧ Keep (SK g A B) w w'
set_option maxHeartbeats 1000000 in
theorem rdropA_no (g : Nat) (A B C : Option Addr) (ca cb m cc : Nat) (L : List Pl) (F : List Nat) (i : Int) (w : World) (r : RA w g A B C ca cb m cc L F) (hi : usA L i = none) (hL : L.length ≤ 1000) :
    Calls Try.prog 41 #[.pointer (some ⟨g, 0, none⟩), .int .i64 i] w (RDropRet g A B ca cb L F false w) := by
  have hh := rhasA_any g A B C ca cb m cc L F i w r hL
  rw [hi] at hh
  have HH := Lib.hid hh
  have HR := Lib.hid r
  clear r hh hi
  go_enter Try.func41, Try.ntmps41
  go_wp2_with (first | (go_at_call 43; refine HH.out.mono ?_; rintro e w' ⟨rfl, rfl⟩; dsimp only [Option.isSome_none]))
  go_ret
  exact ⟨rfl, ⟨_, _, _, HR.out⟩, Keep.refl _ _⟩
theorem own_one (w : World) (x : Int) (e : TypeId) : (w.alloc (.cells #[.int .i64 x] e)).ownsRow w.heap.size e 1 (.slice (some ⟨w.heap.size, 0, none⟩) 1 1) 1 ([x].map (Value.int .i64)) :=
  ⟨rfl, .inr ⟨w.heap.size, 1, #[.int .i64 x], rfl, Nat.le_refl _, heap_alloc_new w _, Nat.le_refl _, by unfold maxLen; omega, rfl, rfl⟩⟩
/-- Behind `a.Free = append([]int{i}, a.Free...)`. -/
theorem RA.pushed {w w2 : World} {g ca cb m cc k : Nat} {A B C : Option Addr} {L : List Pl} {F : List Nat} {v : Value} (r : RA w g A B C ca cb m cc L F) (o : Obj)
    (hown : w2.ownsRow w.heap.size 3 1 v (1 + m) (([(k : Int)] ++ fsI F).map (Value.int .i64))) (hgr : (w.alloc o).grownBy w2 (some w.heap.size)) :
    (w2.cell? ⟨g, 2, none⟩ = some (.slice C m cc) ∧ w2.frozen? ⟨g, 2, none⟩ = false) ∧ ∃ C' c', v = .slice C' (1 + m) c' ∧ RA (w2.setCell ⟨g, 2, none⟩ v) g A B C' ca cb (1 + m) c' L (k :: F) ∧ Keep (SK g A B) w (w2.setCell ⟨g, 2, none⟩ v) := by
  have hb : Below w.heap.size w w2 := ((Below.refl _ _).alloc (Nat.le_refl _) o).grown hgr (by simp) (fun k e => by injection e with e; omega)
  have r2 := r.below hb
  have ks := Keep.set w2 g 2 v (fun i => i = g) rfl
  obtain ⟨C', c', rfl, hI⟩ := own_ints hown
  have fC : ∀ a, C' = some a → (Value.slice C' (1 + m) c').ownBlock = some a.block := fun a e => by subst e; rfl
  have hCge : ∀ a, C' = some a → w.heap.size ≤ a.block := fun a e => (hown.lt _ (fC a e)).1
  have hAlt : ∀ a, A = some a → a.block < w.heap.size := fun a e => (r.xs.lt a.block (by subst e; rfl)).2
  have hBlt : ∀ a, B = some a → a.block < w.heap.size := fun a e => (r.us.lt a.block (by subst e; rfl)).2
  have hgl := r.blk.lt
  refine ⟨⟨r2.blk.cell 2, r2.blk.frozen 2⟩, C', c', rfl, ⟨r2.blk.set 2 _, own_keepO r2.xs ks (fun x e => r.nA x e), own_keepO r2.us ks (fun x e => r.nB x e), ?_, own_mc hown, own_fn hown, r.nA, r.nB, ?_, fun c e => ct_keep (fun c e => (by subst e; exact own_blk hown)) ks (fun x hx z => by have := hCge x hx; omega) c e⟩, ?_⟩
  · have : fsI (k :: F) = [(k : Int)] ++ fsI F := rfl
    rw [this]
    exact ints_keep hI ks (fun x e q => by have := hCge x e; omega)
  · intro c e
    have := hCge c e
    exact ⟨by omega, fun a ea => by have := hAlt a ea; omega, fun b eb => by have := hBlt b eb; omega⟩
  · exact Keep.trans (Keep.of_below hb _) (ks.mono (fun i hi => .inl hi))
set_option maxRecDepth 100000 in
set_option maxHeartbeats 2000000 in
theorem rdropA_yes (g : Nat) (A B C : Option Addr) (ca cb m cc : Nat) (L : List Pl) (F : List Nat) (k : Nat) (p : Pl) (nx : Int) (w : World) (r : RA w g A B C ca cb m cc L F) (hp : L[k]? = some p) (hpu : p.used = true) (hL : L.length ≤ 1000) (hF : F.length ≤ 1000) :
    Calls Try.prog 41 #[.pointer (some ⟨g, 0, none⟩), .int .i64 k] w (RDropRet g A B ca cb (L.set k ⟨0, false, nx⟩) (k :: F) true w) := by
  obtain ⟨i0, hi, hz0, hz1, hz2⟩ := info_parts Try.infoI
  have hh := rhasA_any g A B C ca cb m cc L F k w r hL
  rw [usA_at L k p hp, if_pos hpu] at hh
  have HH := Lib.hid hh
  have hk : k < L.length := (List.getElem?_eq_some_iff.1 hp).1
  have hml := r.flen
  obtain ⟨⟨c0, c1, c2⟩, f2⟩ := r.cells
  obtain ⟨a, b1, rfl, rfl, p0, p1, q0, q1, h1, h2, h3, h4⟩ := r.place k _ hp
  have HR := Lib.hid r
  have hkN := hk
  generalize hN : L.length = N at c0 c1 hkN hL h1 h2
  have HN := Lib.hid hN
  obtain ⟨r5, k5⟩ := RA.stored (r.below (below_drew _)) k ⟨0, false, nx⟩
  have kA := Keep.set w.drew a k (.int .i64 0) (fun i => i = a) rfl
  have nag := r.nA _ rfl
  have nab : a ≠ b1 := fun e => by subst e; exact own_ne r.xs r.us (by decide) a rfl rfl
  have c1' : (w.drew.setCell ⟨a, k, none⟩ (.int .i64 0)).cell? ⟨g, 1, none⟩ = some (.slice (some ⟨b1, 0, none⟩) N cb) := Keep.cellS kA (show w.drew.cell? _ = _ from c1) (fun z => nag z.symm)
  have p1' : (w.drew.setCell ⟨a, k, none⟩ (.int .i64 0)).cell? ⟨b1, k, none⟩ = some (.bool p.used) := Keep.cellS kA (show w.drew.cell? _ = _ from p1) (fun z => nab z.symm)
  have q1' : (w.drew.setCell ⟨a, k, none⟩ (.int .i64 0)).frozen? ⟨b1, k, none⟩ = false := by rw [World.frozen?_setCell]; exact q1
  have R5 := Lib.hid r5
  have K5 := Lib.hid (Keep.trans (Keep.drew _ _) (k5.mono (fun i hi => hi.elim (fun e => .inr (.inl ⟨_, rfl, e⟩)) (fun e => .inr (.inr ⟨_, rfl, e⟩)))) : Keep (SK g (some ⟨a, 0, none⟩) (some ⟨b1, 0, none⟩)) w _)
  clear r r5 k5 kA hN hh hp
  go_enter Try.func41, Try.ntmps41
  go_wp2_with (first | (go_at_call 43; refine HH.out.mono ?_; rintro e w' ⟨rfl, rfl⟩; dsimp only [Option.isSome_some]))
  go_region
  all_goals
    have r6 : RA ((w.setCell ⟨a, k, none⟩ (.int .i64 0)).setCell ⟨b1, k, none⟩ (.bool false)).drew g (some ⟨a, 0, none⟩) (some ⟨b1, 0, none⟩) C ca cb m cc (L.set k ⟨0, false, nx⟩) F := R5.out
    have k6 : Keep (SK g (some ⟨a, 0, none⟩) (some ⟨b1, 0, none⟩)) w ((w.setCell ⟨a, k, none⟩ (.int .i64 0)).setCell ⟨b1, k, none⟩ (.bool false)).drew := K5.out
    generalize ((w.setCell ⟨a, k, none⟩ (.int .i64 0)).setCell ⟨b1, k, none⟩ (.bool false)).drew = w6 at r6 k6 ⊢
    clear c0 c1 c2 f2 p0 p1 q0 q1 c1' p1' q1' R5 K5 HR
    obtain ⟨⟨d0, d1, d2⟩, g2⟩ := r6.cells
    have hfs := r6.fs
    have hfn := r6.fn
    have e2 := cell_new_a (.cells #[.int .i64 k] 3) d2
    go_wp2_with (first
      | (at_builtin; refine wpList_append_src rfl _ _ 54 rfl w6.heap.size 3 i0 Try.underlying54 hi hz0 hz1 hz2 _ 1 [(k : Int)] rfl (own_one w6 k 3) C m cc (fsI F) rfl (hfs.below ((Below.refl _ _).alloc (Nat.le_refl _) _)) hfn (by unfold maxLen; omega) (by omega) (by simp) ?_; intro v w7 hown7 hgr7; obtain ⟨⟨x2, y2⟩, C', c', rfl, r7, k7⟩ := RA.pushed r6 _ hown7 hgr7))
    go_ret
    exact ⟨rfl, ⟨_, _, _, r7⟩, Keep.trans k6 k7⟩
end Go.Proofs.Ytgdghinconghgaa
