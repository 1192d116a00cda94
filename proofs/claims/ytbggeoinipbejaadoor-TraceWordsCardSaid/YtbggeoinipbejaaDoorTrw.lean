/- trace: Word, the line of the chapter's example; TraceWords. No condition. -/
import Derived.Test.YtbggeoinipbejaaDoorSamPt
import Derived.Test.YtbggeoinipbejaaDoorShelf
import Derived.Deep.RegionHeld3
import Derived.Lib.ItoaLen
set_option linter.unusedVariables false
set_option linter.unusedSimpArgs false
namespace Go.Proofs.YtbggeoinipbejaaDoor
open Go.RowKit (wrap32 wrap64)
open Go.RowKit Go.Shelf
def wordL : List (List UInt8) := [[], [98, 101, 103, 105, 110], [97, 115, 107], [103, 114, 97, 110, 116], [107, 105, 108, 108], [99, 97, 110, 99, 101, 108], [114, 101, 97, 100], [119, 114, 105, 116, 101], [115, 99, 97, 110], [99, 111, 109, 109, 105, 116], [117, 110, 100, 111], [114, 101, 108, 101, 97, 115, 101], [101, 110, 100], [103, 114, 111, 119]]
def wordB (a : Int) : ByteArray := ⟨((if 0 ≤ a then wordL[a.toNat]?.getD [] else []) : List UInt8).toArray⟩
def wordsA : Array Value := #[.string ⟨#[]⟩, .string ⟨#[98, 101, 103, 105, 110]⟩, .string ⟨#[97, 115, 107]⟩, .string ⟨#[103, 114, 97, 110, 116]⟩, .string ⟨#[107, 105, 108, 108]⟩, .string ⟨#[99, 97, 110, 99, 101, 108]⟩, .string ⟨#[114, 101, 97, 100]⟩, .string ⟨#[119, 114, 105, 116, 101]⟩, .string ⟨#[115, 99, 97, 110]⟩, .string ⟨#[99, 111, 109, 109, 105, 116]⟩, .string ⟨#[117, 110, 100, 111]⟩, .string ⟨#[114, 101, 108, 101, 97, 115, 101]⟩, .string ⟨#[101, 110, 100]⟩, .string ⟨#[103, 114, 111, 119]⟩]
def namesA : Array Value := #[.string ⟨#[110, 111, 110, 101]⟩, .string ⟨#[73, 83]⟩, .string ⟨#[73, 88]⟩, .string ⟨#[83]⟩, .string ⟨#[83, 73, 88]⟩, .string ⟨#[85]⟩, .string ⟨#[88]⟩]
theorem words_any (w : World) : Calls Tryd.prog 7 #[] w fun e w' => e = .returned (.agg wordsA) ∧ Below w.heap.size w w' := by
  have hB := Bk.new w 33 #[.string ⟨#[]⟩, .string ⟨#[98, 101, 103, 105, 110]⟩, .string ⟨#[97, 115, 107]⟩, .string ⟨#[103, 114, 97, 110, 116]⟩, .string ⟨#[107, 105, 108, 108]⟩, .string ⟨#[99, 97, 110, 99, 101, 108]⟩, .string ⟨#[114, 101, 97, 100]⟩, .string ⟨#[119, 114, 105, 116, 101]⟩, .string ⟨#[115, 99, 97, 110]⟩, .string ⟨#[99, 111, 109, 109, 105, 116]⟩, .string ⟨#[117, 110, 100, 111]⟩, .string ⟨#[114, 101, 108, 101, 97, 115, 101]⟩, .string ⟨#[101, 110, 100]⟩, .string ⟨#[103, 114, 111, 119]⟩]
  go_enter Tryd.func7, Tryd.ntmps7
  go_wp2
  have z0 := hB.cell 0
  have z1 := hB.cell 1
  have z2 := hB.cell 2
  have z3 := hB.cell 3
  have z4 := hB.cell 4
  have z5 := hB.cell 5
  have z6 := hB.cell 6
  have z7 := hB.cell 7
  have z8 := hB.cell 8
  have z9 := hB.cell 9
  have z10 := hB.cell 10
  have z11 := hB.cell 11
  have z12 := hB.cell 12
  have z13 := hB.cell 13
  exact bodyPost_ret (v := .agg #[.string ⟨#[]⟩, .string ⟨#[98, 101, 103, 105, 110]⟩, .string ⟨#[97, 115, 107]⟩, .string ⟨#[103, 114, 97, 110, 116]⟩, .string ⟨#[107, 105, 108, 108]⟩, .string ⟨#[99, 97, 110, 99, 101, 108]⟩, .string ⟨#[114, 101, 97, 100]⟩, .string ⟨#[119, 114, 105, 116, 101]⟩, .string ⟨#[115, 99, 97, 110]⟩, .string ⟨#[99, 111, 109, 109, 105, 116]⟩, .string ⟨#[117, 110, 100, 111]⟩, .string ⟨#[114, 101, 108, 101, 97, 115, 101]⟩, .string ⟨#[101, 110, 100]⟩, .string ⟨#[103, 114, 111, 119]⟩]) (by simp [results, Tryd.results7, go_sem, z0, z1, z2, z3, z4, z5, z6, z7, z8, z9, z10, z11, z12, z13]) rfl ⟨rfl, (Below.refl _ _).alloc (Nat.le_refl _) _⟩
theorem names_any (w : World) : Calls Tryd.prog 19 #[] w fun e w' => e = .returned (.agg namesA) ∧ Below w.heap.size w w' := by
  have hB := Bk.new w 44 #[.string ⟨#[110, 111, 110, 101]⟩, .string ⟨#[73, 83]⟩, .string ⟨#[73, 88]⟩, .string ⟨#[83]⟩, .string ⟨#[83, 73, 88]⟩, .string ⟨#[85]⟩, .string ⟨#[88]⟩]
  go_enter Tryd.func19, Tryd.ntmps19
  go_wp2
  have z0 := hB.cell 0
  have z1 := hB.cell 1
  have z2 := hB.cell 2
  have z3 := hB.cell 3
  have z4 := hB.cell 4
  have z5 := hB.cell 5
  have z6 := hB.cell 6
  exact bodyPost_ret (v := .agg #[.string ⟨#[110, 111, 110, 101]⟩, .string ⟨#[73, 83]⟩, .string ⟨#[73, 88]⟩, .string ⟨#[83]⟩, .string ⟨#[83, 73, 88]⟩, .string ⟨#[85]⟩, .string ⟨#[88]⟩]) (by simp [results, Tryd.results19, go_sem, z0, z1, z2, z3, z4, z5, z6]) rfl ⟨rfl, (Below.refl _ _).alloc (Nat.le_refl _) _⟩
theorem idx_words (a : Int) (h : 0 ≤ a ∧ a ≤ 13) (w : World) : (Instr.index 33 (.agg wordsA) (.int .i64 a)).run Tryd.prog w = .ok (.string (wordB a)) w := by
  obtain rfl | rfl | rfl | rfl | rfl | rfl | rfl | rfl | rfl | rfl | rfl | rfl | rfl | rfl : a = 0 ∨ a = 1 ∨ a = 2 ∨ a = 3 ∨ a = 4 ∨ a = 5 ∨ a = 6 ∨ a = 7 ∨ a = 8 ∨ a = 9 ∨ a = 10 ∨ a = 11 ∨ a = 12 ∨ a = 13 := by omega
  all_goals kernel_rfl
theorem idx_names (w : World) : (Instr.index 44 (.agg namesA) (.int .i64 0)).run Tryd.prog w = .ok (.string ⟨#[110, 111, 110, 101]⟩) w := by kernel_rfl
theorem wordB_out (a : Int) (h : a < 0 ∨ 14 ≤ a) : wordB a = ⟨#[]⟩ := by
  unfold wordB
  by_cases h0 : 0 ≤ a
  · rw [if_pos h0, List.getElem?_eq_none (by show 14 ≤ a.toNat; omega)]; rfl
  · rw [if_neg h0]
set_option maxRecDepth 100000 in
set_option maxHeartbeats 2000000 in
theorem word_any (a : Int) (w : World) : Calls Tryd.prog 5 #[.int .i64 a] w fun e w' => e = .returned (.string (wordB a)) ∧ Below w.heap.size w w' := by
  by_cases h0 : a < 0
  · rw [wordB_out a (.inl h0)]
    go_enter Tryd.func5, Tryd.ntmps5
    go_wp2
    go_ret
    exact ⟨rfl, Below.refl _ _⟩
  by_cases h14 : 14 ≤ a
  · rw [wordB_out a (.inr h14)]
    go_enter Tryd.func5, Tryd.ntmps5
    go_wp2
    go_ret
    exact ⟨rfl, Below.refl _ _⟩
  have hi := fun W => idx_words a ⟨by omega, by omega⟩ W
  go_enter Tryd.func5, Tryd.ntmps5
  go_wp2_with (go_at_call 7; refine (words_any _).mono ?_; rintro e w1 ⟨rfl, hb1⟩)
  go_ret
  exact ⟨rfl, hb1⟩
theorem join_six (B : Nat) (w : World) (h : Bk w B 9 #[.string ⟨#[98, 101, 103, 105, 110]⟩, .string ⟨#[49]⟩, .string ⟨#[45]⟩, .string ⟨#[110, 111, 110, 101]⟩, .string ⟨#[49]⟩, .string ⟨#[48]⟩]) : Calls Tryd.prog 13 #[.slice (some ⟨B, 0, none⟩) 6 6, .string ⟨#[32]⟩] w fun e w' => e = .returned (.string ⟨#[98, 101, 103, 105, 110, 32, 49, 32, 45, 32, 110, 111, 110, 101, 32, 49, 32, 48]⟩) ∧ Below w.heap.size w w' := by
  refine Tryd.strings_Join B 0 6 [⟨#[98, 101, 103, 105, 110]⟩, ⟨#[49]⟩, ⟨#[45]⟩, ⟨#[110, 111, 110, 101]⟩, ⟨#[49]⟩, ⟨#[48]⟩] ⟨#[32]⟩ w (fun j x hx => ?_) h.lt (by decide) (by decide) (by decide)
  have hj : j < 6 := (List.getElem?_eq_some_iff.1 hx).1
  have hc := h.cell (0 + j)
  obtain rfl | rfl | rfl | rfl | rfl | rfl : j = 0 ∨ j = 1 ∨ j = 2 ∨ j = 3 ∨ j = 4 ∨ j = 5 := by omega
  all_goals (cases hx; exact hc)
theorem below_al {w0 w : World} (h : Below w0.heap.size w0 w) {o : Obj} : Below w0.heap.size w0 (w.alloc o) := h.alloc h.size o
theorem word_a (w : World) : Calls Tryd.prog 5 #[.int .i64 1] w fun e w' => e = .returned (.string ⟨#[98, 101, 103, 105, 110]⟩) ∧ Below w.heap.size w w' := word_any 1 w
theorem itoa_one (w : World) : Calls Tryd.prog 9 #[.int .i64 1] w fun e w' => e = .returned (.string ⟨#[49]⟩) ∧ Below w.heap.size w w' := by
  have h := Tryd.strconv_Itoa_small 1 (by decide) w
  rw [Lib.decDigits_one (by decide)] at h
  exact h.mono fun e w' ⟨he, hw⟩ => ⟨he, hw ▸ Below.refl _ _⟩
theorem itoa_zero (w : World) : Calls Tryd.prog 9 #[.int .i64 0] w fun e w' => e = .returned (.string ⟨#[48]⟩) ∧ Below w.heap.size w w' := by
  have h := Tryd.strconv_Itoa_small 0 (by decide) w
  rw [Lib.decDigits_one (by decide)] at h
  exact h.mono fun e w' ⟨he, hw⟩ => ⟨he, hw ▸ Below.refl _ _⟩
theorem place_zero (w : World) : Calls Tryd.prog 10 #[.agg #[.int .i64 0, .int .i64 0, .int .i64 0, .int .i64 0, .int .i64 0]] w fun e w' => e = .returned (.string ⟨#[45]⟩) ∧ Below w.heap.size w w' := by
  go_enter Tryd.func10, Tryd.ntmps10
  go_wp2
  go_ret
  exact ⟨rfl, (Below.refl _ _).alloc (Nat.le_refl _) _⟩
theorem name_zero (w : World) : Calls Tryd.prog 11 #[.int .i64 0] w fun e w' => e = .returned (.string ⟨#[110, 111, 110, 101]⟩) ∧ Below w.heap.size w w' := by
  have hi := idx_names
  go_enter Tryd.func11, Tryd.ntmps11
  go_wp2_with (first
    | (go_at_call 19; refine (names_any _).mono ?_; rintro e w1 ⟨rfl, hb1⟩)
    | go_in)
  go_ret
  exact ⟨rfl, hb1⟩
theorem rows_nil (w : World) : Calls Tryd.prog 17 #[.slice none 0 0] w fun e w' => e = .returned (.bool true) ∧ Below w.heap.size w w' := by
  go_enter Tryd.func17, Tryd.ntmps17
  go_wp2_with fail
  refine wp_loop_rounds 1 ?_
  rw [rounds_succ]
  go_wp2
  go_ret
  exact ⟨rfl, Below.refl _ _⟩
set_option maxRecDepth 100000 in
set_option maxHeartbeats 2000000 in
theorem right_a (w : World) : Calls Tryd.prog 8 #[.agg #[.int .i64 1, .int .i64 1, .int .i64 0, .int .i64 0, .int .i64 0, .int .i64 0, .int .i64 0, .int .i64 0, .int .i64 1, .slice none 0 0, .int .i64 0]] w fun e w' => e = .returned (.bool true) ∧ Below w.heap.size w w' := by
  have hO : Below w.heap.size w (w.alloc (.cells #[.int .i64 1, .int .i64 1, .int .i64 0, .int .i64 0, .int .i64 0, .int .i64 0, .int .i64 0, .int .i64 0, .int .i64 1, .slice none 0 0, .int .i64 0] 32)) := (Below.refl _ _).alloc (Nat.le_refl _) _
  have hB := Bk.new w 32 #[.int .i64 1, .int .i64 1, .int .i64 0, .int .i64 0, .int .i64 0, .int .i64 0, .int .i64 0, .int .i64 0, .int .i64 1, .slice none 0 0, .int .i64 0]
  have hq := eqlPt ⟨0, 0, 0, 0, 0⟩ ⟨0, 0, 0, 0, 0⟩
  rw [decide_eq_true rfl] at hq
  have hgd := gdPt
  dsimp only at hq
  go_enter Tryd.func8, Tryd.ntmps8
  go_wp2_with (first
    | (go_at_call 5; refine (word_a _).mono ?_; rintro e w1 ⟨rfl, hb1⟩; have k1 := hB.below hb1; have y0 := k1.cell 0; have y1 := k1.cell 1; have y2 := k1.cell 2; have y3 := k1.cell 3; have y4 := k1.cell 4; have y5 := k1.cell 5; have y6 := k1.cell 6; have y7 := k1.cell 7; have y8 := k1.cell 8; have y9 := k1.cell 9; have y10 := k1.cell 10; clear k1)
    | (go_at_call 17; refine (rows_nil _).mono ?_; rintro e w2 ⟨rfl, hb2⟩)
    | go_in)
  go_ret
  exact ⟨rfl, bl_then (bl_then hO (Nat.le_refl _) hb1) (Nat.le_refl _) hb2⟩
set_option maxRecDepth 100000 in
set_option maxHeartbeats 4000000 in
theorem line_a (w : World) : Calls Tryd.prog 6 #[.agg #[.int .i64 1, .int .i64 1, .int .i64 0, .int .i64 0, .int .i64 0, .int .i64 0, .int .i64 0, .int .i64 0, .int .i64 1, .slice none 0 0, .int .i64 0]] w fun e w' => e = .returned (.string ⟨#[98, 101, 103, 105, 110, 32, 49, 32, 45, 32, 110, 111, 110, 101, 32, 49, 32, 48]⟩) ∧ Below w.heap.size w w' := by
  have hO : Below w.heap.size w (w.alloc (.cells #[.int .i64 1, .int .i64 1, .int .i64 0, .int .i64 0, .int .i64 0, .int .i64 0, .int .i64 0, .int .i64 0, .int .i64 1, .slice none 0 0, .int .i64 0] 32)) := (Below.refl _ _).alloc (Nat.le_refl _) _
  have hB := Bk.new w 32 #[.int .i64 1, .int .i64 1, .int .i64 0, .int .i64 0, .int .i64 0, .int .i64 0, .int .i64 0, .int .i64 0, .int .i64 1, .slice none 0 0, .int .i64 0]
  go_enter Tryd.func6, Tryd.ntmps6
  go_wp2_with (go_at_call 8; refine (right_a _).mono ?_; rintro e wz ⟨rfl, hb1⟩)
  have k1 := hB.below hb1
  have B1 := bl_then hO (Nat.le_refl _) hb1
  obtain ⟨bE, hbE⟩ : ∃ b, b = w.heap.size := ⟨_, rfl⟩
  rw [← hbE] at k1 ⊢
  have kd : Bk wz.drew bE 32 #[.int .i64 1, .int .i64 1, .int .i64 0, .int .i64 0, .int .i64 0, .int .i64 0, .int .i64 0, .int .i64 0, .int .i64 1, .slice none 0 0, .int .i64 0] := k1
  have gS : ∀ w', Below wz.drew.heap.size wz.drew w' → (Below wz.drew.heap.size wz.drew w' ∧ w'.cell? ⟨bE, 0, none⟩ = some (.int .i64 1) ∧ w'.cell? ⟨bE, 1, none⟩ = some (.int .i64 1) ∧ w'.cell? ⟨bE, 2, none⟩ = some (.int .i64 0) ∧ w'.cell? ⟨bE, 3, none⟩ = some (.int .i64 0) ∧ w'.cell? ⟨bE, 4, none⟩ = some (.int .i64 0) ∧ w'.cell? ⟨bE, 5, none⟩ = some (.int .i64 0) ∧ w'.cell? ⟨bE, 6, none⟩ = some (.int .i64 0) ∧ w'.cell? ⟨bE, 7, none⟩ = some (.int .i64 0) ∧ w'.cell? ⟨bE, 8, none⟩ = some (.int .i64 1) ∧ w'.cell? ⟨bE, 9, none⟩ = some (.slice none 0 0) ∧ w'.cell? ⟨bE, 10, none⟩ = some (.int .i64 0)) := fun W h => ⟨h, (kd.below h).cell 0, (kd.below h).cell 1, (kd.below h).cell 2, (kd.below h).cell 3, (kd.below h).cell 4, (kd.below h).cell 5, (kd.below h).cell 6, (kd.below h).cell 7, (kd.below h).cell 8, (kd.below h).cell 9, (kd.below h).cell 10⟩
  have GS := Lib.hid gS
  have hS0 := gS _ (Below.refl _ _)
  have HO := Lib.hid (B1.trans ((below_drew wz).mono B1.size))
  have HKD := Lib.hid kd
  clear hO hB hb1 k1 B1 kd gS hbE
  go_region_held3 (fun w' => Below wz.drew.heap.size wz.drew w' ∧ w'.cell? ⟨bE, 0, none⟩ = some (.int .i64 1) ∧ w'.cell? ⟨bE, 1, none⟩ = some (.int .i64 1) ∧ w'.cell? ⟨bE, 2, none⟩ = some (.int .i64 0) ∧ w'.cell? ⟨bE, 3, none⟩ = some (.int .i64 0) ∧ w'.cell? ⟨bE, 4, none⟩ = some (.int .i64 0) ∧ w'.cell? ⟨bE, 5, none⟩ = some (.int .i64 0) ∧ w'.cell? ⟨bE, 6, none⟩ = some (.int .i64 0) ∧ w'.cell? ⟨bE, 7, none⟩ = some (.int .i64 0) ∧ w'.cell? ⟨bE, 8, none⟩ = some (.int .i64 1) ∧ w'.cell? ⟨bE, 9, none⟩ = some (.slice none 0 0) ∧ w'.cell? ⟨bE, 10, none⟩ = some (.int .i64 0))
    (first
      | exact hS0
      | assumption
      | exact GS.out _ (bl_then (And.left (by assumption)) (Nat.le_refl _) hb)
      | exact GS.out _ (below_al (And.left (by assumption))))
    (first
      | (go_at_call 5; refine (word_a _).mono ?_; rintro e wn ⟨rfl, hb⟩)
      | (go_at_call_of 9 (Value.int IntKind.i64 1); refine (itoa_one _).mono ?_; rintro e wn ⟨rfl, hb⟩)
      | (go_at_call_of 9 (Value.int IntKind.i64 0); refine (itoa_zero _).mono ?_; rintro e wn ⟨rfl, hb⟩)
      | (go_at_call 10; refine (place_zero _).mono ?_; rintro e wn ⟨rfl, hb⟩)
      | (go_at_call 11; refine (name_zero _).mono ?_; rintro e wn ⟨rfl, hb⟩))
  have hn : Below wz.drew.heap.size wz.drew (wn.alloc (.cells #[.string ⟨#[98, 101, 103, 105, 110]⟩, .string ⟨#[49]⟩, .string ⟨#[45]⟩, .string ⟨#[110, 111, 110, 101]⟩, .string ⟨#[49]⟩, .string ⟨#[48]⟩] 9)) ∧ (wn.alloc (.cells #[.string ⟨#[98, 101, 103, 105, 110]⟩, .string ⟨#[49]⟩, .string ⟨#[45]⟩, .string ⟨#[110, 111, 110, 101]⟩, .string ⟨#[49]⟩, .string ⟨#[48]⟩] 9)).cell? ⟨bE, 0, none⟩ = some (.int .i64 1) ∧ (wn.alloc (.cells #[.string ⟨#[98, 101, 103, 105, 110]⟩, .string ⟨#[49]⟩, .string ⟨#[45]⟩, .string ⟨#[110, 111, 110, 101]⟩, .string ⟨#[49]⟩, .string ⟨#[48]⟩] 9)).cell? ⟨bE, 1, none⟩ = some (.int .i64 1) ∧ (wn.alloc (.cells #[.string ⟨#[98, 101, 103, 105, 110]⟩, .string ⟨#[49]⟩, .string ⟨#[45]⟩, .string ⟨#[110, 111, 110, 101]⟩, .string ⟨#[49]⟩, .string ⟨#[48]⟩] 9)).cell? ⟨bE, 2, none⟩ = some (.int .i64 0) ∧ (wn.alloc (.cells #[.string ⟨#[98, 101, 103, 105, 110]⟩, .string ⟨#[49]⟩, .string ⟨#[45]⟩, .string ⟨#[110, 111, 110, 101]⟩, .string ⟨#[49]⟩, .string ⟨#[48]⟩] 9)).cell? ⟨bE, 3, none⟩ = some (.int .i64 0) ∧ (wn.alloc (.cells #[.string ⟨#[98, 101, 103, 105, 110]⟩, .string ⟨#[49]⟩, .string ⟨#[45]⟩, .string ⟨#[110, 111, 110, 101]⟩, .string ⟨#[49]⟩, .string ⟨#[48]⟩] 9)).cell? ⟨bE, 4, none⟩ = some (.int .i64 0) ∧ (wn.alloc (.cells #[.string ⟨#[98, 101, 103, 105, 110]⟩, .string ⟨#[49]⟩, .string ⟨#[45]⟩, .string ⟨#[110, 111, 110, 101]⟩, .string ⟨#[49]⟩, .string ⟨#[48]⟩] 9)).cell? ⟨bE, 5, none⟩ = some (.int .i64 0) ∧ (wn.alloc (.cells #[.string ⟨#[98, 101, 103, 105, 110]⟩, .string ⟨#[49]⟩, .string ⟨#[45]⟩, .string ⟨#[110, 111, 110, 101]⟩, .string ⟨#[49]⟩, .string ⟨#[48]⟩] 9)).cell? ⟨bE, 6, none⟩ = some (.int .i64 0) ∧ (wn.alloc (.cells #[.string ⟨#[98, 101, 103, 105, 110]⟩, .string ⟨#[49]⟩, .string ⟨#[45]⟩, .string ⟨#[110, 111, 110, 101]⟩, .string ⟨#[49]⟩, .string ⟨#[48]⟩] 9)).cell? ⟨bE, 7, none⟩ = some (.int .i64 0) ∧ (wn.alloc (.cells #[.string ⟨#[98, 101, 103, 105, 110]⟩, .string ⟨#[49]⟩, .string ⟨#[45]⟩, .string ⟨#[110, 111, 110, 101]⟩, .string ⟨#[49]⟩, .string ⟨#[48]⟩] 9)).cell? ⟨bE, 8, none⟩ = some (.int .i64 1) ∧ (wn.alloc (.cells #[.string ⟨#[98, 101, 103, 105, 110]⟩, .string ⟨#[49]⟩, .string ⟨#[45]⟩, .string ⟨#[110, 111, 110, 101]⟩, .string ⟨#[49]⟩, .string ⟨#[48]⟩] 9)).cell? ⟨bE, 9, none⟩ = some (.slice none 0 0) ∧ (wn.alloc (.cells #[.string ⟨#[98, 101, 103, 105, 110]⟩, .string ⟨#[49]⟩, .string ⟨#[45]⟩, .string ⟨#[110, 111, 110, 101]⟩, .string ⟨#[49]⟩, .string ⟨#[48]⟩] 9)).cell? ⟨bE, 10, none⟩ = some (.int .i64 0) := by assumption
  have hnb := hn.1
  have kR := Bk.new wn 9 #[.string ⟨#[98, 101, 103, 105, 110]⟩, .string ⟨#[49]⟩, .string ⟨#[45]⟩, .string ⟨#[110, 111, 110, 101]⟩, .string ⟨#[49]⟩, .string ⟨#[48]⟩]
  have kE := HKD.out.below hnb
  have HZ := Lib.hid (HO.out.trans (hnb.mono HO.out.size))
  have hj := join_six wn.heap.size _ kR
  have HJ := Lib.hid hj
  have y0 := kE.cell 0
  have y1 := kE.cell 1
  have y2 := kE.cell 2
  have y3 := kE.cell 3
  have y4 := kE.cell 4
  have y5 := kE.cell 5
  have y6 := kE.cell 6
  have y7 := kE.cell 7
  have y8 := kE.cell 8
  have y9 := kE.cell 9
  have y10 := kE.cell 10
  clear hn hnb kR kE hj
  go_wp2_with fail
  refine wp_loop_rounds 1 ?_
  rw [rounds_succ]
  go_wp2_with (go_at_call 13; refine (HJ.out).mono ?_; rintro e w9 ⟨rfl, hb9⟩)
  go_ret
  exact ⟨rfl, bl_then HZ.out (Nat.le_refl _) hb9⟩
theorem awake_a (w : World) : Calls Tryd.prog 4 #[] w fun e w' => e = .returned (.bool true) ∧ Below w.heap.size w w' := by
  go_enter Tryd.func4, Tryd.ntmps4
  go_wp2_with (go_at_call 6; refine (line_a _).mono ?_; rintro e w1 ⟨rfl, hb1⟩)
  go_ret
  exact ⟨rfl, hb1⟩
theorem wordL_inj : ∀ i j : Fin 14, wordL[i.val]? = wordL[j.val]? → i = j := by decide
theorem wordB_in (k : Nat) (h : k < 14) : (wordB k).data.toList = wordL[k]?.getD [] := by
  unfold wordB
  rw [if_pos (by omega), Int.toNat_natCast]
theorem wordB_ne (a : Int) (h : 1 ≤ a ∧ a ≤ 13) : (wordB a).data.toList ≠ [] := by
  obtain rfl | rfl | rfl | rfl | rfl | rfl | rfl | rfl | rfl | rfl | rfl | rfl | rfl : a = 1 ∨ a = 2 ∨ a = 3 ∨ a = 4 ∨ a = 5 ∨ a = 6 ∨ a = 7 ∨ a = 8 ∨ a = 9 ∨ a = 10 ∨ a = 11 ∨ a = 12 ∨ a = 13 := by omega
  all_goals decide
theorem wordB_eq (a b : Int) (h : 1 ≤ a ∧ a ≤ 13) : (wordB a).data.toList = (wordB b).data.toList ↔ a = b := by
  constructor
  · intro e
    by_cases hb : 0 ≤ b ∧ b ≤ 13
    · have h1 := wordB_in a.toNat (by omega)
      have h2 := wordB_in b.toNat (by omega)
      rw [Int.toNat_of_nonneg (by omega)] at h1 h2
      rw [h1, h2] at e
      have hl : wordL.length = 14 := rfl
      have e1 : wordL[a.toNat]? = some (wordL[a.toNat]'(by omega)) := List.getElem?_eq_getElem _
      have e2 : wordL[b.toNat]? = some (wordL[b.toNat]'(by omega)) := List.getElem?_eq_getElem _
      rw [e1, e2] at e
      have := wordL_inj ⟨a.toNat, by omega⟩ ⟨b.toNat, by omega⟩ (by rw [e1, e2]; exact congrArg some e)
      have := congrArg Fin.val this
      simp only at this
      omega
    · rw [wordB_out b (by omega)] at e
      exact absurd e (wordB_ne a h)
  · rintro rfl; rfl
set_option maxRecDepth 100000 in
set_option maxHeartbeats 2000000 in
theorem traceWords_walk (a b : Int) (w : World) : Calls Tryd.prog 3 #[.int .i64 a, .int .i64 b] w fun e w' => e = .returned (.bool true) ∧ Below w.heap.size w w' := by
  have H1 := Lib.hid (fun W => word_any a W)
  have H2 := Lib.hid (fun W => word_any b W)
  have M1 : True := trivial
  by_cases hin : 1 ≤ a ∧ a ≤ 13
  · have hne : ((wordB a).toList == ([] : List UInt8)) = false := by rw [ByteArray.toList_eq]; simpa using wordB_ne a hin
    have hem : (wordB a).toList.isEmpty = false := by rw [ByteArray.toList_eq]; simpa using wordB_ne a hin
    have heq : ((wordB a).toList == (wordB b).toList) = decide (a = b) := by
      rw [ByteArray.toList_eq, ByteArray.toList_eq, Bool.eq_iff_iff]
      simpa using wordB_eq a b hin
    have g1 : ¬ a < 1 := by omega
    have g2 : ¬ 13 < a := by omega
    generalize wordB a = x at H1 hne hem heq
    generalize wordB b = y at H2 heq
    clear hin
    by_cases hab : a = b
    · rw [decide_eq_true hab] at heq
      have e : (a == b) = true := by rw [hab]; simp
      clear hab
      go_enter Tryd.func3, Tryd.ntmps3
      go_wp2_with (first
        | (go_at_call 4; refine (awake_a _).mono ?_; rintro e w1 ⟨rfl, hb1⟩)
        | (go_at_call 5; (have m_ := M1; clear M1 m_); refine (H1.out _).mono ?_; rintro e w2 ⟨rfl, hb2⟩)
        | (go_at_call 5; refine (H2.out _).mono ?_; rintro e w3 ⟨rfl, hb3⟩))
      go_ret
      exact ⟨rfl, bl_then (bl_then hb1 (Nat.le_refl _) hb2) (Nat.le_refl _) hb3⟩
    · rw [decide_eq_false hab] at heq
      have e : (a == b) = false := beq_eq_false_iff_ne.2 hab
      clear hab
      go_enter Tryd.func3, Tryd.ntmps3
      go_wp2_with (first
        | (go_at_call 4; refine (awake_a _).mono ?_; rintro e w1 ⟨rfl, hb1⟩)
        | (go_at_call 5; (have m_ := M1; clear M1 m_); refine (H1.out _).mono ?_; rintro e w2 ⟨rfl, hb2⟩)
        | (go_at_call 5; refine (H2.out _).mono ?_; rintro e w3 ⟨rfl, hb3⟩))
      go_ret
      exact ⟨rfl, bl_then (bl_then hb1 (Nat.le_refl _) hb2) (Nat.le_refl _) hb3⟩
  · have hx : wordB a = ⟨#[]⟩ := by
      by_cases h0 : a = 0
      · subst h0; rfl
      · exact wordB_out a (by omega)
    rw [hx] at H1
    generalize wordB b = y at H2
    clear hx
    have hc : a < 1 ∨ (¬ a < 1 ∧ 13 < a) := by omega
    clear hin
    rcases hc with g1 | ⟨g1, g2⟩
    all_goals
      go_enter Tryd.func3, Tryd.ntmps3
      go_wp2_with (first
        | (go_at_call 4; refine (awake_a _).mono ?_; rintro e w1 ⟨rfl, hb1⟩)
        | (go_at_call 5; (have m_ := M1; clear M1 m_); refine (H1.out _).mono ?_; rintro e w2 ⟨rfl, hb2⟩)
        | (go_at_call 5; refine (H2.out _).mono ?_; rintro e w3 ⟨rfl, hb3⟩))
      go_ret
      exact ⟨rfl, bl_then (bl_then hb1 (Nat.le_refl _) hb2) (Nat.le_refl _) hb3⟩
end Go.Proofs.YtbggeoinipbejaaDoor
