/- The statement ArenaOnce: the plain law, and what is asked of an arena that nobody made. No condition. -/
import Derived.Test.YtgdghinconghgaaArenaI
import Derived.Test.YtgdghinconghgaaArenaF
import Derived.Test.YtgdghinconghgaaMapS
set_option linter.unusedVariables false
set_option linter.unusedSimpArgs false
namespace Go.Proofs.Ytgdghinconghgaa
open Go.RowKit (wrap32 wrap64)
open Go.RowKit
/-- Those that are used are the ones of O, one behind the other. -/
structure OInv (L : List Pl) (f u : Int) (F O : List Nat) : Prop where
  inv : AInv L f u F
  nd : O.Nodup
  mem : ∀ (i : Nat) (p : Pl), L[i]? = some p → (p.used = true ↔ i ∈ O)
  lt : ∀ i ∈ O, i < L.length
  len : (O.length : Int) = u
theorem OInv.fresh (M : Nat) : OInv (freshTo M M) 0 0 (List.range M) [] := by
  refine ⟨AInv.fresh M, List.nodup_nil, fun i p hp => ?_, by simp, rfl⟩
  have hi : i < M := by have := (List.getElem?_eq_some_iff.1 hp).1; rw [freshTo_len] at this; exact this
  rw [freshTo_get M M i hi, if_pos hi] at hp
  injection hp with hp; subst hp
  simp
/-- What Take does, in one. -/
def TakeO (g h : Nat) (L : List Pl) (f u : Int) (F O : List Nat) (x v : Int) (ok : Bool) (L' : List Pl) (f' u' : Int) (F' O' : List Nat) : Prop :=
  (∀ W, Ar W g h L f u → Calls Try.prog 27 #[.pointer (some ⟨g, 0, none⟩), .int .i64 x] W (TakeRet g h L' f' u' v ok W)) ∧ OInv L' f' u' F' O' ∧ L'.length = L.length ∧
    ((ok = true ∧ ∃ k : Nat, v = k ∧ k < L.length ∧ O' = O ++ [k] ∧ k ∉ O) ∨ (ok = false ∧ O' = O ∧ O.length = L.length))
theorem take_once (g h : Nat) (L : List Pl) (f u : Int) (F O : List Nat) (x : Int) (hI : OInv L f u F O) (hL : L.length ≤ 1000) : ∃ v ok L' f' u' F' O', TakeO g h L f u F O x v ok L' f' u' F' O' := by
  cases F with
  | nil =>
    have hu := hI.inv.none_left
    have hl := hI.len
    subst hu
    exact ⟨0, false, L, f, L.length, [], O, fun W b => atake_no g h L f x W b hL, hI, rfl, .inr ⟨rfl, rfl, by omega⟩⟩
  | cons k F =>
    obtain ⟨rfl, p, hp, hu, hA⟩ := hI.inv.take x
    have hk : k < L.length := (List.getElem?_eq_some_iff.1 hp).1
    have hpu : p.used = false := (hI.inv.mem k p hp).2 (by simp)
    have hkO : k ∉ O := fun hm => by have := (hI.mem k p hp).2 hm; rw [hpu] at this; cases this
    refine ⟨k, true, L.set k ⟨x, true, 0⟩, p.next, u + 1, F, O ++ [k], fun W b => atake_yes g h L k p u x W b hp hu hL, ⟨hA, ?_, ?_, ?_, ?_⟩, by rw [List.length_set], .inl ⟨rfl, k, rfl, hk, rfl, hkO⟩⟩
    · rw [List.nodup_append]
      exact ⟨hI.nd, by simp, fun a ha b hb e => hkO (by rw [List.mem_singleton.1 hb] at e; exact e ▸ ha)⟩
    · intro i q hq
      by_cases e : i = k
      · subst e
        rw [List.getElem?_set_self hk] at hq
        injection hq with hq; subst hq
        simp
      · rw [List.getElem?_set_ne (fun z => e z.symm)] at hq
        rw [hI.mem i q hq]
        simp [e]
    · intro i hi
      rw [List.length_set]
      rcases List.mem_append.1 hi with h | h
      · exact hI.lt i h
      · rw [List.mem_singleton.1 h]; exact hk
    · rw [List.length_append]
      have := hI.len
      simp
      omega
/-- What Free does at the first of those that are used, twice. -/
def FreeO (g h : Nat) (L : List Pl) (f u : Int) (F : List Nat) (o : Nat) (O : List Nat) (L' : List Pl) (f' u' : Int) (F' : List Nat) : Prop :=
  (∀ W, Ar W g h L f u → Calls Try.prog 29 #[.pointer (some ⟨g, 0, none⟩), .int .i64 o] W (ASetRet g h L' f' u' true W)) ∧
  (∀ W, Ar W g h L' f' u' → Calls Try.prog 29 #[.pointer (some ⟨g, 0, none⟩), .int .i64 o] W (ASetRet g h L' f' u' false W)) ∧ OInv L' f' u' F' O ∧ L'.length = L.length ∧ o < L.length ∧ o ∉ O
theorem free_once (g h : Nat) (L : List Pl) (f u : Int) (F : List Nat) (o : Nat) (O : List Nat) (hI : OInv L f u F (o :: O)) (hL : L.length ≤ 1000) : ∃ L' f' u' F', FreeO g h L f u F o O L' f' u' F' := by
  have ho : o < L.length := hI.lt o (by simp)
  obtain ⟨p, hp⟩ : ∃ p, L[o]? = some p := ⟨_, List.getElem?_eq_getElem ho⟩
  have hpu : p.used = true := (hI.mem o p hp).2 (by simp)
  obtain ⟨hu, hA⟩ := hI.inv.free o p hp hpu
  have hnd := List.nodup_cons.1 hI.nd
  refine ⟨L.set o ⟨0, false, f⟩, o, u - 1, o :: F, fun W b => afree_yes g h L o p f u W b hp hpu hu hL, fun W b => ?_, ⟨hA, hnd.2, ?_, ?_, ?_⟩, by rw [List.length_set], ho, hnd.1⟩
  · refine afree_no g h _ _ _ _ W b ?_ (by rw [List.length_set]; exact hL)
    rw [usA_at _ o _ (List.getElem?_set_self ho)]; rfl
  · intro i q hq
    by_cases e : i = o
    · subst e
      rw [List.getElem?_set_self ho] at hq
      injection hq with hq; subst hq
      simp [hnd.1]
    · rw [List.getElem?_set_ne (fun z => e z.symm)] at hq
      rw [hI.mem i q hq]
      simp [e]
  · intro i hi
    rw [List.length_set]
    exact hI.lt i (by simp [hi])
  · have := hI.len
    simp at this
    omega
theorem atake_nil (x : Int) (w : World) : Calls Try.prog 27 #[.pointer none, .int .i64 x] w fun e w' => e = .returned (.tuple #[.int .i64 0, .bool false]) ∧ w = w' := by
  go_enter Try.func27, Try.ntmps27
  go_wp2_with (go_at_call 28; refine (aleft_nil _).mono ?_; rintro e _ ⟨rfl, rfl⟩)
  go_ret2
  exact ⟨rfl, rfl⟩
theorem afree_nil (i : Int) (w : World) : Calls Try.prog 29 #[.pointer none, .int .i64 i] w fun e w' => e = .returned (.bool false) ∧ w = w' := by
  go_enter Try.func29, Try.ntmps29
  go_wp2_with (go_at_call 69; refine (ahas_nil _ _).mono ?_; rintro e _ ⟨rfl, rfl⟩)
  go_ret
  exact ⟨rfl, rfl⟩
theorem aset_nil (i x : Int) (w : World) : Calls Try.prog 42 #[.pointer none, .int .i64 i, .int .i64 x] w fun e w' => e = .returned (.bool false) ∧ w = w' := by
  go_enter Try.func42, Try.ntmps42
  go_wp2_with (go_at_call 69; refine (ahas_nil _ _).mono ?_; rintro e _ ⟨rfl, rfl⟩)
  go_ret
  exact ⟨rfl, rfl⟩
set_option maxRecDepth 100000 in
set_option maxHeartbeats 2000000 in
/-- Len at none. -/
theorem alen_nil (w : World) : Calls Try.prog 31 #[.pointer none] w fun e w' => e = .returned (.int .i64 0) ∧ Below w.heap.size w w' := by
  refine (callsIn_wide (n := 3)).1 ?_
  refine callsIn_of_wp_marks Try.func31 rfl trivial ?_ rfl
  simp only [Try.ntmps31, List.size_toArray, List.length_cons, List.length_nil, Nat.reduceAdd, Nat.reduceSub, Array.replicate_succ, Array.replicate_zero, List.push_toArray, List.append_toArray, List.nil_append, List.cons_append]
  gi_wp2_with (first | (refine ⟨trivial, ?_⟩; gi_at_call 44; refine (used_in _ _ _).mono ?_; rintro e w' ⟨rfl, rfl⟩))
  have hs : (w.alloc (.cells #[.int .i64 0] 3)).cell? ⟨w.heap.size, 0, none⟩ = some (.int .i64 0) ∧ (w.alloc (.cells #[.int .i64 0] 3)).frozen? ⟨w.heap.size, 0, none⟩ = false := ⟨(Bk.new w 3 #[.int .i64 0]).cell 0, (Bk.new w 3 #[.int .i64 0]).frozen 0⟩
  have hb := (Bk.new (w.alloc (.cells #[.int .i64 0] 3)) 41 #[.pointer none]).cell 0
  rw [World.size_alloc] at hb
  have hB0 : Below w.heap.size w ((w.alloc (.cells #[.int .i64 0] 3)).alloc (.cells #[.pointer none] 41)) := ((Below.refl _ w).alloc (Nat.le_refl _) _).alloc (by simp) _
  refine wpIn_rangeFunc_ownF rfl (by omega) (gf := 71) (lb := #[.pointer (some ⟨w.heap.size + 1, 0, none⟩)]) rfl trivial (enters_of Try.func71 (by kernel_rfl) rfl)
    (used_nil_stops 2 (w.heap.size + 1) w.heap.size _ (by simp) hb) Keep.trans
    (fun W l o o' hl ho h1 h2 => grown_keep (grownBy_putObj' W l o') _ (fun k e => by cases e; simp at hl; constructor <;> omega)) (Below.refl _ _) (fun _ => rfl)
    (fun pre W => (W.cell? ⟨w.heap.size, 0, none⟩ = some (.int .i64 pre.length) ∧ W.frozen? ⟨w.heap.size, 0, none⟩ = false) ∧ Below w.heap.size w W)
    (fun _ _ _ => False)
    (OwnFrom.and (Own.from (fun s A B row hs hg hr => ⟨cell_kept hs.1 hg hr, (frozen_kept hs.1 hg hr).trans hs.2⟩) _) (ownFrom_below (Nat.le_refl _) (by simp; omega)))
    (fun _ _ _ _ _ hs _ _ => hs)
    ⟨⟨cell_new_a _ hs.1, frozen_new_a _ hs.1 hs.2⟩, hB0⟩
    (fun x => { tmps := #[.pointer none, undef, .int .i64 0, .pointer (some ⟨w.heap.size, 0, none⟩), .pointer none, .func (.func 71) #[] #[.pointer (some ⟨w.heap.size + 1, 0, none⟩)], .int .i64 (x.1 : Int), .int .i64 x.2, undef, undef, undef], defers := [] }) ?assign ?body ?done ?stop
  case assign =>
    intro l x W K hK
    gi_wp2
    refine cast (congrArg (fun t => K { tmps := t, defers := [] } W) ?_) hK
    first
      | rfl
      | kernel_rfl
      | (simp [Array.zip, Array.zipWith]; done)
  case body =>
    rintro l pre x W _ hpre
    exact absurd hpre (by simp)
  case done =>
    rintro D ys W hD rfl ⟨⟨hc, _⟩, hB⟩ hK
    gi_wp2
    refine ⟨by simp, .inl ⟨_, _, rfl, run_takeDeferred hK, ?_⟩⟩
    exact ⟨_, results_tmp rfl _ _ _, rfl, hB.trans (belowK_b (w := w) (Nat.le_refl _) W D _ _ (by simp at hD; omega) hK rfl rfl)⟩
  case stop =>
    rintro D c pre W _ _ h _
    exact h.elim
end Go.Proofs.Ytgdghinconghgaa
