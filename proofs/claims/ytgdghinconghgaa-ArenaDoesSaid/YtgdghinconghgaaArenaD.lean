/- The two arenas side by side: their blocks apart; one deed. No condition. -/
import Derived.Test.YtgdghinconghgaaArenaT
import Derived.Test.YtgdghinconghgaaFlat
import Derived.Lib.QuietBelow
set_option linter.unusedVariables false
set_option linter.unusedSimpArgs false
namespace Go.Proofs.Ytgdghinconghgaa
open Go.RowKit (wrap32 wrap64)
open Go.RowKit
theorem blk_ne {w : World} {g h : Nat} {t u : TypeId} {cs ds : Array Value} {f f' : Nat × Nat} (a : w.heap[g]? = some (.cells cs t f)) (b : w.heap[h]? = some (.cells ds u f')) (hne : t ≠ u) : g ≠ h := by
  rintro rfl
  rw [a] at b
  injection b with b
  injection b with _ b
  exact hne b
theorem ar_apart {w : World} {g h gx ca cb m cc : Nat} {A B C : Option Addr} {L M : List Pl} {f u : Int} {F : List Nat} (b : Ar w g h L f u) (r : RA w gx A B C ca cb m cc M F) :
    g ≠ gx ∧ h ≠ gx ∧ (∀ x, A = some x → x.block ≠ g ∧ x.block ≠ h) ∧ (∀ x, B = some x → x.block ≠ g ∧ x.block ≠ h) ∧ (∀ x, C = some x → x.block ≠ g ∧ x.block ≠ h) := by
  obtain ⟨ch, fh, hh⟩ := own_blk b.2.1
  refine ⟨Bk.ne b.1 r.blk (by decide), fun e => by subst e; exact blk_ne hh r.blk (by decide) rfl, ?_, ?_, ?_⟩
  · intro x e
    have hx := r.xs
    rw [e] at hx
    obtain ⟨cx, fx, hxx⟩ := own_blk hx
    exact ⟨blk_ne hxx b.1 (by decide), blk_ne hxx hh (by decide)⟩
  · intro x e
    have hx := r.us
    rw [e] at hx
    obtain ⟨cx, fx, hxx⟩ := own_blk hx
    exact ⟨blk_ne hxx b.1 (by decide), blk_ne hxx hh (by decide)⟩
  · intro x e
    obtain ⟨cx, fx, hxx⟩ := r.ct x e
    exact ⟨blk_ne hxx b.1 (by decide), blk_ne hxx hh (by decide)⟩
/-- What the arena's calls write leaves the reference's as it is, and the other way round. -/
theorem RA.off {w w1 : World} {g h gx ca cb m cc : Nat} {A B C : Option Addr} {L M : List Pl} {f u : Int} {F : List Nat} (b : Ar w g h L f u) (r : RA w gx A B C ca cb m cc M F) (k : Keep (fun i => i = g ∨ i = h) w w1) : RA w1 gx A B C ca cb m cc M F := by
  obtain ⟨n1, n2, nA, nB, nC⟩ := ar_apart b r
  exact r.keep k (fun q => q.elim (fun e => n1 e.symm) (fun e => n2 e.symm)) (fun x e q => q.elim (nA x e).1 (nA x e).2) (fun x e q => q.elim (nB x e).1 (nB x e).2) (fun x e q => q.elim (nC x e).1 (nC x e).2)
theorem Ar.off {w w1 : World} {g h gx ca cb m cc : Nat} {A B C : Option Addr} {L M : List Pl} {f u : Int} {F : List Nat} (b : Ar w g h L f u) (r : RA w gx A B C ca cb m cc M F) (k : Keep (SK gx A B) w w1) : Ar w1 g h L f u := by
  obtain ⟨n1, n2, nA, nB, nC⟩ := ar_apart b r
  refine b.keep k (fun q => ?_) (fun q => ?_)
  · rcases q with q | ⟨x, e, q⟩ | ⟨x, e, q⟩
    · exact n1 q
    · exact (nA x e).1 q.symm
    · exact (nB x e).1 q.symm
  · rcases q with q | ⟨x, e, q⟩ | ⟨x, e, q⟩
    · exact n2 q
    · exact (nA x e).2 q.symm
    · exact (nB x e).2 q.symm
/-- A deed's three cells. -/
structure D3 where
  kind : Int
  i : Int
  x : Int
def ksD : List CK := [.int .i64, .int .i64, .int .i64]
theorem d3_of {c : List Value} (hl : c.length = ksD.length) (h : PW ksD c) : ∃ d : D3, c = [.int .i64 d.kind, .int .i64 d.i, .int .i64 d.x] := by
  match c, hl with
  | [v0, v1, v2], _ =>
    obtain ⟨n0, rfl, _⟩ := h 0 _ v0 rfl rfl
    obtain ⟨n1, rfl, _⟩ := h 1 _ v1 rfl rfl
    obtain ⟨n2, rfl, _⟩ := h 2 _ v2 rfl rfl
    exact ⟨⟨n0, n1, n2⟩, rfl⟩
theorem deed_at {w : World} {a : Option Addr} {len cap : Nat} {css : List (List Value)} (h : FlatRow w ksD a len cap css) {i : Nat} (hi : i < len) :
    ∃ b off, ∃ d : D3, a = some ⟨b, off, none⟩ ∧ w.cell? ⟨b, off + i * 3, none⟩ = some (.int .i64 d.kind) ∧ w.cell? ⟨b, off + i * 3 + 1, none⟩ = some (.int .i64 d.i) ∧ w.cell? ⟨b, off + i * 3 + 2, none⟩ = some (.int .i64 d.x) := by
  obtain ⟨b, off, c, ha, hc, hl, hp, hcell⟩ := h.get hi
  obtain ⟨d, rfl⟩ := d3_of hl hp
  have e : ksD.length = 3 := rfl
  rw [e] at hcell
  exact ⟨b, off, d, ha, hcell 0 (by omega), hcell 1 (by omega), hcell 2 (by omega)⟩
/-- Both arenas, alike: the same places, the same free ones. -/
structure Both (w : World) (g h gx : Nat) (A B C : Option Addr) (ca cb m cc : Nat) (L : List Pl) (f u : Int) (F : List Nat) : Prop where
  ar : Ar w g h L f u
  ra : RA w gx A B C ca cb m cc L F
  inv : AInv L f u F
theorem Both.below {w w1 : World} {g h gx ca cb m cc : Nat} {A B C : Option Addr} {L : List Pl} {f u : Int} {F : List Nat} (b : Both w g h gx A B C ca cb m cc L f u F) (k : Below w.heap.size w w1) : Both w1 g h gx A B C ca cb m cc L f u F := ⟨b.ar.below k, b.ra.below k, b.inv⟩
/-- A store into the reference's values. -/
theorem RA.storedX {w : World} {g a ca cb m cc : Nat} {B C : Option Addr} {L : List Pl} {F : List Nat} (r : RA w g (some ⟨a, 0, none⟩) B C ca cb m cc L F) (k : Nat) (p : Pl) (hp : L[k]? = some p) (x : Int) :
    RA (w.setCell ⟨a, k, none⟩ (.int .i64 x)) g (some ⟨a, 0, none⟩) B C ca cb m cc (L.set k ⟨x, p.used, p.next⟩) F := by
  have kk := Keep.set w a k (.int .i64 x) (fun i => i = a) rfl
  have na := r.nA _ rfl
  have ex : xsV (L.set k ⟨x, p.used, p.next⟩) = (xsV L).set k (.int .i64 x) := by unfold xsV; rw [List.map_set]
  have eu : usV (L.set k ⟨x, p.used, p.next⟩) = usV L := by
    unfold usV
    rw [List.map_set]
    apply List.ext_getElem?
    intro i
    by_cases e : i = k
    · subst e
      have hk : i < L.length := (List.getElem?_eq_some_iff.1 hp).1
      rw [List.getElem?_set_self (by simp [hk]), List.getElem?_map, hp]; rfl
    · rw [List.getElem?_set_ne (fun z => e z.symm)]
  have hB : ∀ x, B = some x → ¬ (x.block = a) := fun x e q => by
    have hx := r.us
    rw [e] at hx
    have h1 := r.xs
    obtain ⟨c1, f1, g1⟩ := own_blk h1
    obtain ⟨c2, f2, g2⟩ := own_blk hx
    exact blk_ne g1 g2 (by decide) q.symm
  have hC : ∀ x, C = some x → ¬ (x.block = a) := fun x e q => (r.nC x e).2.1 _ rfl q.symm
  refine ⟨?_, ?_, ?_, ints_keep r.fs kk hC, r.mc, r.fn, r.nA, r.nB, r.nC, fun c e => ct_keep r.ct kk hC c e⟩
  · rw [List.length_set]; exact kk.bk r.blk (fun q => na q.symm)
  · rw [List.length_set, ex]; exact (r.xs.stored _ _).1
  · rw [List.length_set, eu]; exact own_keepO r.us kk hB
theorem Both.apart {w : World} {g h gx ca cb m cc : Nat} {A B C : Option Addr} {L : List Pl} {f u : Int} {F : List Nat} (b : Both w g h gx A B C ca cb m cc L f u F) {X : Nat} {t : TypeId} {cs : Array Value} (hX : Bk w X t cs)
    (h1 : t ≠ 110) (h2 : t ≠ 112) (h3 : t ≠ 68) (h4 : t ≠ 3) (h5 : ∀ x, B = some x → X ≠ x.block) : ¬ (X = g ∨ X = h) ∧ ¬ SK gx A B X := by
  obtain ⟨ch, fh, hh⟩ := own_blk b.ar.2.1
  constructor
  · rintro (rfl | rfl)
    · exact Bk.ne hX b.ar.1 h1 rfl
    · exact blk_ne hX hh h2 rfl
  · rintro (rfl | ⟨x, e, rfl⟩ | ⟨x, e, rfl⟩)
    · exact Bk.ne hX b.ra.blk h3 rfl
    · have hx := b.ra.xs
      rw [e] at hx
      obtain ⟨cx, fx, hxx⟩ := own_blk hx
      exact blk_ne hX hxx h4 rfl
    · exact h5 x e rfl
theorem Both.notB {w : World} {g h gx ca cb m cc : Nat} {A B C : Option Addr} {L : List Pl} {f u : Int} {F : List Nat} (b : Both w g h gx A B C ca cb m cc L f u F) {X : Nat} {t : TypeId} {cs : Array Value} (hX : Bk w X t cs) (h1 : t ≠ 4) : ∀ x, B = some x → X ≠ x.block := by
  rintro x e rfl
  have hx := b.ra.us
  rw [e] at hx
  obtain ⟨cx, fx, hxx⟩ := own_blk hx
  exact blk_ne hX hxx h1 rfl
def TakeBoth (g h gx : Nat) (A B : Option Addr) (ca cb : Nat) (L : List Pl) (f u : Int) (F : List Nat) (x : Int) : Prop :=
  ∃ (v : Int) (ok : Bool) (L' : List Pl) (f' u' : Int) (F' : List Nat), (∀ w, Ar w g h L f u → Calls Try.prog 27 #[.pointer (some ⟨g, 0, none⟩), .int .i64 x] w (TakeRet g h L' f' u' v ok w)) ∧
    (∀ w C m cc, RA w gx A B C ca cb m cc L F → Calls Try.prog 40 #[.pointer (some ⟨gx, 0, none⟩), .int .i64 x] w (RTakeRet gx A B ca cb L' F' v ok w)) ∧ AInv L' f' u' F' ∧ L'.length = L.length
theorem take_both (g h gx : Nat) (A B : Option Addr) (ca cb : Nat) (L : List Pl) (f u : Int) (F : List Nat) (x : Int) (hI : AInv L f u F) (hL : L.length ≤ 1000) : TakeBoth g h gx A B ca cb L f u F x := by
  cases F with
  | nil =>
    have hu := hI.none_left
    subst hu
    exact ⟨0, false, L, f, L.length, [], fun w hA => atake_no g h L f x w hA hL, fun w C m cc r => rtakeA_no gx A B C ca cb m cc L x w r, hI, rfl⟩
  | cons k F =>
    obtain ⟨hf, p, hp, hu, hI'⟩ := hI.take x
    subst hf
    exact ⟨k, true, L.set k ⟨x, true, 0⟩, p.next, u + 1, F, fun w hA => atake_yes g h L k p u x w hA hp hu hL, fun w C m cc r => rtakeA_yes gx A B C ca cb m cc L k F x 0 w r (List.getElem?_eq_some_iff.1 hp).1 hL, hI', List.length_set⟩
def FreeBoth (g h gx : Nat) (A B : Option Addr) (ca cb : Nat) (L : List Pl) (f u : Int) (F : List Nat) (i : Int) : Prop :=
  ∃ (ok : Bool) (L' : List Pl) (f' u' : Int) (F' : List Nat), (∀ w, Ar w g h L f u → Calls Try.prog 29 #[.pointer (some ⟨g, 0, none⟩), .int .i64 i] w (ASetRet g h L' f' u' ok w)) ∧
    (∀ w C m cc, RA w gx A B C ca cb m cc L F → Calls Try.prog 41 #[.pointer (some ⟨gx, 0, none⟩), .int .i64 i] w (RDropRet gx A B ca cb L' F' ok w)) ∧ AInv L' f' u' F' ∧ L'.length = L.length
theorem free_both (g h gx : Nat) (A B : Option Addr) (ca cb : Nat) (L : List Pl) (f u : Int) (F : List Nat) (i : Int) (hI : AInv L f u F) (hL : L.length ≤ 1000) : FreeBoth g h gx A B ca cb L f u F i := by
  have hF : F.length ≤ 1000 := by
    have h1 := hI.sum
    have h2 := hI.cnt
    omega
  cases hu : usA L i with
  | none => exact ⟨false, L, f, u, F, fun w hA => afree_no g h L f u i w hA hu hL, fun w C m cc r => rdropA_no gx A B C ca cb m cc L F i w r hu hL, hI, rfl⟩
  | some p =>
    obtain ⟨k, rfl, hp, hpu⟩ := usA_some L i p hu
    obtain ⟨hr, hI'⟩ := hI.free k p hp hpu
    exact ⟨true, L.set k ⟨0, false, f⟩, k, u - 1, k :: F, fun w hA => afree_yes g h L k p f u w hA hp hpu hr hL, fun w C m cc r => rdropA_yes gx A B C ca cb m cc L F k p f w r hp hpu hL hF, hI', List.length_set⟩
end Go.Proofs.Ytgdghinconghgaa
