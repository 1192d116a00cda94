/- The walk of the reference's NewArena. No condition. -/
import Derived.Test.YtgdghinconghgaaArenaR
set_option linter.unusedVariables false
set_option linter.unusedSimpArgs false
namespace Go.Proofs.Ytgdghinconghgaa
open Go.RowKit (wrap32 wrap64)
open Go.RowKit
theorem xsV_fresh (M : Nat) : xsV (freshTo M M) = List.replicate M (.int .i64 0) := by
  apply List.ext_getElem?
  intro i
  by_cases hi : i < M
  · rw [xsV_get _ i _ (freshTo_get M M i hi), if_pos hi]; simp [hi]
  · rw [List.getElem?_eq_none (by unfold xsV; rw [List.length_map, freshTo_len]; omega), List.getElem?_eq_none (by simp; omega)]
theorem usV_fresh (M : Nat) : usV (freshTo M M) = List.replicate M (.bool false) := by
  apply List.ext_getElem?
  intro i
  by_cases hi : i < M
  · rw [usV_get _ i _ (freshTo_get M M i hi), if_pos hi]; simp [hi]
  · rw [List.getElem?_eq_none (by unfold usV; rw [List.length_map, freshTo_len]; omega), List.getElem?_eq_none (by simp; omega)]
theorem own_mc {w : World} {base n c : Nat} {e : TypeId} {s : Nat} {A : Option Addr} {xs : List Value} (h : w.ownsRow base e s (.slice A n c) n xs) : n ≤ c ∧ c ≤ maxLen := by
  rcases h.2 with ⟨hv, hn⟩ | ⟨g, cap, cur, hv, _, _, r1, r2, _⟩
  · injection hv with _ _ e; subst e; subst hn; exact ⟨Nat.le_refl _, Nat.zero_le _⟩
  · injection hv with _ _ e; subst e; exact ⟨r1, r2⟩
theorem own_fn {w : World} {base n c : Nat} {e : TypeId} {s : Nat} {A : Option Addr} {xs : List Value} (h : w.ownsRow base e s (.slice A n c) n xs) : A = none → n = 0 ∧ c = 0 := by
  intro hA
  rcases h.2 with ⟨hv, hn⟩ | ⟨g, cap, cur, hv, _⟩
  · injection hv with _ _ e; exact ⟨hn, e⟩
  · injection hv with e _ _; rw [hA] at e; cases e
theorem RBuild.done {w wr : World} {M : Nat} {va vb vc : Value} (r : RBuild w wr M M M va vb vc) : RNewA w M (.returned (.pointer (some ⟨w.heap.size, 0, none⟩))) wr := by
  obtain ⟨A, ca, rfl⟩ := own_slice r.xs
  obtain ⟨B, cb, rfl⟩ := own_slice r.us
  obtain ⟨C, cc, rfl, hI⟩ := own_ints r.fs
  have hl := freshTo_len M M
  have fA : ∀ a, A = some a → (Value.slice A M ca).ownBlock = some a.block := fun a e => by subst e; rfl
  have fB : ∀ a, B = some a → (Value.slice B M cb).ownBlock = some a.block := fun a e => by subst e; rfl
  have fC : ∀ a, C = some a → (Value.slice C M cc).ownBlock = some a.block := fun a e => by subst e; rfl
  refine ⟨w.heap.size, A, B, C, ca, cb, cc, rfl, ⟨?_, ?_, ?_, ?_, own_mc r.fs, own_fn r.fs, ?_, ?_, ?_, fun c e => (by subst e; exact own_blk r.fs)⟩, Nat.le_refl _, ?_, ?_, ?_, r.bel⟩
  · rw [hl]; exact r.blk
  · rw [hl, xsV_fresh]; exact own_weaken r.xs (Nat.zero_le _)
  · rw [hl, usV_fresh]; exact own_weaken r.us (Nat.zero_le _)
  · exact hI
  · intro a e; have := (r.xs.lt _ (fA a e)).1; omega
  · intro a e; have := (r.us.lt _ (fB a e)).1; omega
  · intro c e
    refine ⟨by have := (r.fs.lt _ (fC c e)).1; omega, fun a ea q => r.ac a.block (fA a ea) (by rw [fC c e, q]), fun b eb q => own_ne r.us r.fs (by decide) b.block (fB b eb) (by rw [fC c e, q])⟩
  · intro a e; have := (r.xs.lt _ (fA a e)).1; omega
  · intro a e; have := (r.us.lt _ (fB a e)).1; omega
  · intro a e; have := (r.fs.lt _ (fC a e)).1; omega
theorem step_fst {w wr : World} {k1 k2 k3 : Nat} {va vb vc : Value} (r : RBuild w wr k1 k2 k3 va vb vc) : wr.cell? ⟨w.heap.size, 0, none⟩ = some va ∧ wr.cell? ⟨w.heap.size, 1, none⟩ = some vb ∧ wr.cell? ⟨w.heap.size, 2, none⟩ = some vc := ⟨r.blk.cell 0, r.blk.cell 1, r.blk.cell 2⟩
set_option maxRecDepth 100000 in
set_option maxHeartbeats 4000000 in
theorem rnewA_any (M : Nat) (n : Int) (hn : (n < 0 ∧ M = 0) ∨ n = M) (hM : M ≤ 1000) (w : World) : Calls Try.prog 39 #[.int .i64 n] w (RNewA w M) := by
  obtain ⟨i0, hi, hz0, hz1, hz2⟩ := info_parts Try.infoI
  obtain ⟨j0, hj, hy0, hy1, hy2⟩ := info_parts Try.infoBo
  have hB0 : RBuild w (w.alloc (.cells #[.slice none 0 0, .slice none 0 0, .slice none 0 0] 68)) 0 0 0 (.slice none 0 0) (.slice none 0 0) (.slice none 0 0) :=
    ⟨Bk.new _ _ _, World.ownsRow_nil _ _ _ _, World.ownsRow_nil _ _ _ _, World.ownsRow_nil _ _ _ _, fun h e => (by cases e), (Below.refl _ _).alloc (Nat.le_refl _) _⟩
  go_enter Try.func39, Try.ntmps39
  go_wp2_with fail
  go_loopw [4] (fun c wr => ∃ (k : Nat) (va vb vc : Value), k ≤ M ∧ c = .int .i64 k ∧ RBuild w wr k k k va vb vc) (fun c _ => M - (intOf c).toNat)
  case atStart => exact ⟨0, _, _, _, by omega, rfl, hB0⟩
  case round =>
    clear hB0
    obtain ⟨k, va, vb, vc, hk, rfl, hR⟩ := hrel
    by_cases hlt : k < M
    · have hkn : (k : Int) < n := by omega
      have hk4 : (k : Int) < 4096 := by omega
      obtain ⟨A, ca, rfl⟩ := own_slice hR.xs
      obtain ⟨B, cb, rfl⟩ := own_slice hR.us
      obtain ⟨C, cc, rfl⟩ := own_slice hR.fs
      obtain ⟨c0, c1, c2⟩ := step_fst hR
      have t1 : IntKind.i64.wrap ((k : Int) + 1) = (k : Int) + 1 := by rw [IntKind.wrap_i64]; omega
      have M1 : True := trivial
      have M2 : True := trivial
      have M3 : True := trivial
      clear hn
      go_wp2_with (first
        | (at_builtin; (have m := M1; clear M1 m); refine wpList_want rfl fun K hK => ?_; refine wp_append_own_fr _ _ 54 rfl (w.heap.size + 1) 3 i0 _ 1 8 Try.underlying54 hi hz0 hz1 hz2 rfl (by decide) _ _ _ rfl (hR.xs.alloc _) ⟨wr.heap.size, 0, none⟩ 1 1 [.int .i64 0] rfl rfl (by have := cell_one_new wr (.int .i64 0) 3; simpa using this) (by simp [Value.oneCell']) (by unfold maxLen; omega) (by omega) (by have := hR.size; simp; omega) ?_; intro v1 w2 hown1 hgr1 hfr1; refine hK _ _ ?_; clear hK K; obtain ⟨⟨d0, d1⟩, hR1⟩ := hR.step1 _ hown1 hgr1 hfr1; obtain ⟨A1, ca1, rfl⟩ := own_slice hown1; obtain ⟨e0, e1, e2⟩ := step_fst hR1)
        | (at_builtin; (have m := M2; clear M2 m); refine wpList_want rfl fun K hK => ?_; refine wp_append_own_fr _ _ 66 rfl (w.heap.size + 1) 4 j0 _ 1 1 Try.underlying66 hj hy0 hy1 hy2 rfl (by decide) _ _ _ rfl (hR1.us.alloc _) ⟨_, 0, none⟩ 1 1 [.bool false] rfl rfl (by have := cell_one_new (w2.setCell ⟨w.heap.size, 0, none⟩ (.slice A1 (k + 1) ca1)) (.bool false) 4; simpa using this) (by simp [Value.oneCell']) (by unfold maxLen; omega) (by omega) (by have := hR1.size; simp at this ⊢; omega) ?_; intro v2 w3 hown2 hgr2 _; refine hK _ _ ?_; clear hK K; obtain ⟨⟨d2, d3⟩, hR2⟩ := hR1.step2 _ hown2 hgr2; obtain ⟨B1, cb1, rfl⟩ := own_slice hown2; obtain ⟨e3, e4, e5⟩ := step_fst hR2)
        | (at_builtin; (have m := M3; clear M3 m); refine wpList_want rfl fun K hK => ?_; refine wp_append_own_fr _ _ 54 rfl (w.heap.size + 1) 3 i0 _ 1 8 Try.underlying54 hi hz0 hz1 hz2 rfl (by decide) _ _ _ rfl (hR2.fs.alloc _) ⟨_, 0, none⟩ 1 1 [.int .i64 k] rfl rfl (by have := cell_one_new (w3.setCell ⟨w.heap.size, 1, none⟩ (.slice B1 (k + 1) cb1)) (.int .i64 k) 3; simpa using this) (by simp [Value.oneCell']) (by unfold maxLen; omega) (by omega) (by have := hR2.size; simp at this ⊢; omega) ?_; intro v3 w4 hown3 hgr3 hfr3; refine hK _ _ ?_; clear hK K; obtain ⟨⟨d4, d5⟩, hR3⟩ := hR2.step3 _ hown3 hgr3 hfr3; obtain ⟨C1, cc1, rfl⟩ := own_slice hown3))
      go_roundw
      case rel => exact ⟨k + 1, _, _, _, by omega, by go_num, hR3⟩
      case measure => simp [intOf]; omega
    · obtain rfl : k = M := by omega
      have hkn : ¬ ((k : Int) < n) := by omega
      clear hn
      go_wp2
      go_ret
      exact hR.done
end Go.Proofs.Ytgdghinconghgaa
