/- history: what is asked at the two events of the example. No condition. -/
import Derived.Test.YtjenchijenkndaaHis
import Derived.Test.YtjenchijenkndaaPthC
import Derived.Deep.RegionHeld3
set_option linter.unusedVariables false
set_option linter.unusedSimpArgs false
namespace Go.Proofs.Ytjenchijenkndaa
open Go.RowKit (wrap32 wrap64)
open Go.RowKit
def pA : Pt := ⟨1, 1, 1, 1, 4⟩
def eA : Ev := ⟨7, 1, 1, 1, 1, 1, 4, 0, 1, (none, 0, 0), 0⟩
def eB : Ev := ⟨6, 2, 1, 1, 1, 1, 4, 0, 1, (none, 0, 0), 0⟩
theorem writesA (w : World) : Calls Try.prog 26 #[.agg #[.int .i64 7, .int .i64 1, .int .i64 1, .int .i64 1, .int .i64 1, .int .i64 1, .int .i64 4, .int .i64 0, .int .i64 1, .slice none 0 0, .int .i64 0]] w fun e w' => e = .returned (.bool true) ∧ Below w.heap.size w w' := by
  go_enter Try.func26, Try.ntmps26
  go_wp2
  go_ret
  exact ⟨rfl, (Below.refl _ _).alloc (Nat.le_refl _) _⟩
theorem writesB (w : World) : Calls Try.prog 26 #[.agg #[.int .i64 6, .int .i64 2, .int .i64 1, .int .i64 1, .int .i64 1, .int .i64 1, .int .i64 4, .int .i64 0, .int .i64 1, .slice none 0 0, .int .i64 0]] w fun e w' => e = .returned (.bool false) ∧ Below w.heap.size w w' := by
  go_enter Try.func26, Try.ntmps26
  go_wp2
  go_ret
  exact ⟨rfl, (Below.refl _ _).alloc (Nat.le_refl _) _⟩
theorem accessA (w : World) : Calls Try.prog 27 #[.agg #[.int .i64 7, .int .i64 1, .int .i64 1, .int .i64 1, .int .i64 1, .int .i64 1, .int .i64 4, .int .i64 0, .int .i64 1, .slice none 0 0, .int .i64 0]] w fun e w' => e = .returned (.bool true) ∧ Below w.heap.size w w' := by
  go_enter Try.func27, Try.ntmps27
  go_wp2_with (go_at_call 26; refine (writesA _).mono ?_; rintro e w1 ⟨rfl, hb1⟩)
  go_ret
  exact ⟨rfl, bl_then ((Below.refl _ _).alloc (Nat.le_refl _) _) (Nat.le_refl _) hb1⟩
theorem accessB (w : World) : Calls Try.prog 27 #[.agg #[.int .i64 6, .int .i64 2, .int .i64 1, .int .i64 1, .int .i64 1, .int .i64 1, .int .i64 4, .int .i64 0, .int .i64 1, .slice none 0 0, .int .i64 0]] w fun e w' => e = .returned (.bool true) ∧ Below w.heap.size w w' := by
  have hB := Bk.new w 31 #[.int .i64 6, .int .i64 2, .int .i64 1, .int .i64 1, .int .i64 1, .int .i64 1, .int .i64 4, .int .i64 0, .int .i64 1, .slice none 0 0, .int .i64 0]
  go_enter Try.func27, Try.ntmps27
  go_wp2_with (go_at_call 26; refine (writesB _).mono ?_; rintro e w1 ⟨rfl, hb1⟩; have y0 := (hB.below hb1).cell 0)
  go_ret
  exact ⟨rfl, bl_then ((Below.refl _ _).alloc (Nat.le_refl _) _) (Nat.le_refl _) hb1⟩
set_option maxRecDepth 100000 in
set_option maxHeartbeats 4000000 in
theorem withinA (w : World) : Calls Try.prog 28 #[.agg #[.int .i64 1, .int .i64 1, .int .i64 1, .int .i64 1, .int .i64 4], .agg #[.int .i64 1, .int .i64 1, .int .i64 1, .int .i64 1, .int .i64 4]] w fun e w' => e = .returned (.bool true) ∧ Below w.heap.size w w' := by
  have hO : Below w.heap.size w ((w.alloc (.cells #[.int .i64 1, .int .i64 1, .int .i64 1, .int .i64 1, .int .i64 4] 27)).alloc (.cells #[.int .i64 1, .int .i64 1, .int .i64 1, .int .i64 1, .int .i64 4] 27)) := ((Below.refl _ _).alloc (Nat.le_refl _) _).alloc (by simp) _
  have hP : Bk ((w.alloc (.cells #[.int .i64 1, .int .i64 1, .int .i64 1, .int .i64 1, .int .i64 4] 27)).alloc (.cells #[.int .i64 1, .int .i64 1, .int .i64 1, .int .i64 1, .int .i64 4] 27)) w.heap.size 27 #[.int .i64 1, .int .i64 1, .int .i64 1, .int .i64 1, .int .i64 4] := (Bk.new w _ _).below ((Below.refl _ _).alloc (Nat.le_refl _) _)
  have hQ : Bk ((w.alloc (.cells #[.int .i64 1, .int .i64 1, .int .i64 1, .int .i64 1, .int .i64 4] 27)).alloc (.cells #[.int .i64 1, .int .i64 1, .int .i64 1, .int .i64 1, .int .i64 4] 27)) (w.heap.size + 1) 27 #[.int .i64 1, .int .i64 1, .int .i64 1, .int .i64 1, .int .i64 4] := by
    have := Bk.new (w.alloc (.cells #[.int .i64 1, .int .i64 1, .int .i64 1, .int .i64 1, .int .i64 4] 27)) 27 #[.int .i64 1, .int .i64 1, .int .i64 1, .int .i64 1, .int .i64 4]
    rw [World.size_alloc] at this
    exact this
  have hmay : mayP pA = true := by decide
  have HMAY : Hid (∀ W, Calls Try.prog 46 #[.agg #[.int .i64 1, .int .i64 1, .int .i64 1, .int .i64 1, .int .i64 4]] W fun e w' => e = .returned (.bool true) ∧ Below W.heap.size W w') := Lib.hid (fun W => by have := pmay_any pA W; rw [hmay] at this; exact this)
  have HCUT : Hid (∀ W, Calls Try.prog 47 #[.agg #[.int .i64 1, .int .i64 1, .int .i64 1, .int .i64 1, .int .i64 4], .int .i64 4] W fun e w' => e = .returned (.agg #[.int .i64 1, .int .i64 1, .int .i64 1, .int .i64 1, .int .i64 4]) ∧ Below W.heap.size W w') := Lib.hid (fun W => cut_any pA 4 (by omega) (by omega) W)
  have he : ∀ w : World, (binOp .eql 27 (.agg #[.int .i64 1, .int .i64 1, .int .i64 1, .int .i64 1, .int .i64 4]) (.agg #[.int .i64 1, .int .i64 1, .int .i64 1, .int .i64 1, .int .i64 4])).run Try.prog w = .ok (.bool true) w := fun w => by
    have := eqlPt ⟨1, 1, 1, 1, 4⟩ ⟨1, 1, 1, 1, 4⟩ w
    rw [decide_eq_true rfl] at this
    exact this
  have hgd := gdPt
  clear hmay
  go_enter Try.func28, Try.ntmps28
  go_wp2
  generalize (w.alloc (.cells #[.int .i64 1, .int .i64 1, .int .i64 1, .int .i64 1, .int .i64 4] 27)).alloc (.cells #[.int .i64 1, .int .i64 1, .int .i64 1, .int .i64 1, .int .i64 4] 27) = w2 at hO hP hQ ⊢
  obtain ⟨PA, hPA⟩ : ∃ PA, PA = w.heap.size := ⟨_, rfl⟩
  obtain ⟨QA, hQA⟩ : ∃ QA, QA = w.heap.size + 1 := ⟨_, rfl⟩
  rw [← hQA] at hQ ⊢
  rw [← hPA] at hP ⊢
  have HO := Lib.hid (hO.trans ((below_drew w2).mono hO.size))
  clear hPA hQA hO
  have hPd : Bk w2.drew PA 27 #[.int .i64 1, .int .i64 1, .int .i64 1, .int .i64 1, .int .i64 4] := hP
  have hQd : Bk w2.drew QA 27 #[.int .i64 1, .int .i64 1, .int .i64 1, .int .i64 1, .int .i64 4] := hQ
  have gS : ∀ w', Below w2.drew.heap.size w2.drew w' → (Below w2.drew.heap.size w2.drew w' ∧ w'.cell? ⟨PA, 0, none⟩ = some (.int .i64 1) ∧ w'.cell? ⟨PA, 1, none⟩ = some (.int .i64 1) ∧ w'.cell? ⟨PA, 2, none⟩ = some (.int .i64 1) ∧ w'.cell? ⟨PA, 3, none⟩ = some (.int .i64 1) ∧ w'.cell? ⟨PA, 4, none⟩ = some (.int .i64 4) ∧ w'.cell? ⟨QA, 0, none⟩ = some (.int .i64 1) ∧ w'.cell? ⟨QA, 1, none⟩ = some (.int .i64 1) ∧ w'.cell? ⟨QA, 2, none⟩ = some (.int .i64 1) ∧ w'.cell? ⟨QA, 3, none⟩ = some (.int .i64 1) ∧ w'.cell? ⟨QA, 4, none⟩ = some (.int .i64 4)) := fun W h => ⟨h, (hPd.below h).cell 0, (hPd.below h).cell 1, (hPd.below h).cell 2, (hPd.below h).cell 3, (hPd.below h).cell 4, (hQd.below h).cell 0, (hQd.below h).cell 1, (hQd.below h).cell 2, (hQd.below h).cell 3, (hQd.below h).cell 4⟩
  have GS := Lib.hid gS
  have hS0 := gS _ (Below.refl _ _)
  clear hP hQ hPd hQd gS
  go_region_held3 (fun w' => Below w2.drew.heap.size w2.drew w' ∧ w'.cell? ⟨PA, 0, none⟩ = some (.int .i64 1) ∧ w'.cell? ⟨PA, 1, none⟩ = some (.int .i64 1) ∧ w'.cell? ⟨PA, 2, none⟩ = some (.int .i64 1) ∧ w'.cell? ⟨PA, 3, none⟩ = some (.int .i64 1) ∧ w'.cell? ⟨PA, 4, none⟩ = some (.int .i64 4) ∧ w'.cell? ⟨QA, 0, none⟩ = some (.int .i64 1) ∧ w'.cell? ⟨QA, 1, none⟩ = some (.int .i64 1) ∧ w'.cell? ⟨QA, 2, none⟩ = some (.int .i64 1) ∧ w'.cell? ⟨QA, 3, none⟩ = some (.int .i64 1) ∧ w'.cell? ⟨QA, 4, none⟩ = some (.int .i64 4))
    (first
      | exact hS0
      | assumption
      | exact GS.out _ (bl_then (And.left (by assumption)) (Nat.le_refl _) hb))
    (first
      | (go_at_call 46; refine (HMAY.out _).mono ?_; rintro e wn ⟨rfl, hb⟩)
      | (go_at_call 47; refine (HCUT.out _).mono ?_; rintro e wn ⟨rfl, hb⟩))
  all_goals
    go_wp2
    go_ret
    refine ⟨rfl, HO.out.trans (Below.mono ?_ HO.out.size)⟩
    exact And.left (by assumption)
end Go.Proofs.Ytjenchijenkndaa
