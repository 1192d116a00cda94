/- history: the example. No condition. -/
import Derived.Test.YtjenchijenkndaaHisB
import Derived.ScopeJumps
import Derived.Deep.Cut
import Derived.Deep.RegionWith
set_option linter.unusedVariables false
set_option linter.unusedSimpArgs false
namespace Go.Proofs.Ytjenchijenkndaa
open Go.RowKit (wrap32 wrap64)
open Go.RowKit
set_option maxRecDepth 100000 in
set_option maxHeartbeats 4000000 in
theorem clashAB (w : World) : Calls Try.prog 9 #[.agg #[.int .i64 7, .int .i64 1, .int .i64 1, .int .i64 1, .int .i64 1, .int .i64 1, .int .i64 4, .int .i64 0, .int .i64 1, .slice none 0 0, .int .i64 0], .agg #[.int .i64 6, .int .i64 2, .int .i64 1, .int .i64 1, .int .i64 1, .int .i64 1, .int .i64 4, .int .i64 0, .int .i64 1, .slice none 0 0, .int .i64 0]] w fun e w' => e = .returned (.bool true) ∧ Below w.heap.size w w' := by
  have hO : Below w.heap.size w ((w.alloc (.cells #[.int .i64 7, .int .i64 1, .int .i64 1, .int .i64 1, .int .i64 1, .int .i64 1, .int .i64 4, .int .i64 0, .int .i64 1, .slice none 0 0, .int .i64 0] 31)).alloc (.cells #[.int .i64 6, .int .i64 2, .int .i64 1, .int .i64 1, .int .i64 1, .int .i64 1, .int .i64 4, .int .i64 0, .int .i64 1, .slice none 0 0, .int .i64 0] 31)) := ((Below.refl _ _).alloc (Nat.le_refl _) _).alloc (by simp) _
  have hP : Bk ((w.alloc (.cells #[.int .i64 7, .int .i64 1, .int .i64 1, .int .i64 1, .int .i64 1, .int .i64 1, .int .i64 4, .int .i64 0, .int .i64 1, .slice none 0 0, .int .i64 0] 31)).alloc (.cells #[.int .i64 6, .int .i64 2, .int .i64 1, .int .i64 1, .int .i64 1, .int .i64 1, .int .i64 4, .int .i64 0, .int .i64 1, .slice none 0 0, .int .i64 0] 31)) w.heap.size 31 #[.int .i64 7, .int .i64 1, .int .i64 1, .int .i64 1, .int .i64 1, .int .i64 1, .int .i64 4, .int .i64 0, .int .i64 1, .slice none 0 0, .int .i64 0] := (Bk.new w _ _).below ((Below.refl _ _).alloc (Nat.le_refl _) _)
  have hQ : Bk ((w.alloc (.cells #[.int .i64 7, .int .i64 1, .int .i64 1, .int .i64 1, .int .i64 1, .int .i64 1, .int .i64 4, .int .i64 0, .int .i64 1, .slice none 0 0, .int .i64 0] 31)).alloc (.cells #[.int .i64 6, .int .i64 2, .int .i64 1, .int .i64 1, .int .i64 1, .int .i64 1, .int .i64 4, .int .i64 0, .int .i64 1, .slice none 0 0, .int .i64 0] 31)) (w.heap.size + 1) 31 #[.int .i64 6, .int .i64 2, .int .i64 1, .int .i64 1, .int .i64 1, .int .i64 1, .int .i64 4, .int .i64 0, .int .i64 1, .slice none 0 0, .int .i64 0] := by
    have := Bk.new (w.alloc (.cells #[.int .i64 7, .int .i64 1, .int .i64 1, .int .i64 1, .int .i64 1, .int .i64 1, .int .i64 4, .int .i64 0, .int .i64 1, .slice none 0 0, .int .i64 0] 31)) 31 #[.int .i64 6, .int .i64 2, .int .i64 1, .int .i64 1, .int .i64 1, .int .i64 1, .int .i64 4, .int .i64 0, .int .i64 1, .slice none 0 0, .int .i64 0]
    rw [World.size_alloc] at this
    exact this
  obtain ⟨PA, hPA⟩ : ∃ PA, PA = w.heap.size := ⟨_, rfl⟩
  obtain ⟨QA, hQA⟩ : ∃ QA, QA = w.heap.size + 1 := ⟨_, rfl⟩
  rw [← hQA] at hQ
  rw [← hPA] at hP
  have HPA := Lib.hid hPA
  have HQA := Lib.hid hQA
  clear hPA hQA
  go_enter Try.func9, Try.ntmps9
  go_upto_region 1 with fail
  rw [← HQA.out, ← HPA.out]
  generalize ((w.alloc (.cells #[.int .i64 7, .int .i64 1, .int .i64 1, .int .i64 1, .int .i64 1, .int .i64 1, .int .i64 4, .int .i64 0, .int .i64 1, .slice none 0 0, .int .i64 0] 31)).alloc (.cells #[.int .i64 6, .int .i64 2, .int .i64 1, .int .i64 1, .int .i64 1, .int .i64 1, .int .i64 4, .int .i64 0, .int .i64 1, .slice none 0 0, .int .i64 0] 31)) = w2 at hO hP hQ ⊢
  have HO := Lib.hid hO
  have HC : Hid (∀ W, Below w2.heap.size w2 W → (W.cell? ⟨PA, 0, none⟩ = some (.int .i64 7) ∧ W.cell? ⟨PA, 1, none⟩ = some (.int .i64 1) ∧ W.cell? ⟨PA, 2, none⟩ = some (.int .i64 1) ∧ W.cell? ⟨PA, 3, none⟩ = some (.int .i64 1) ∧ W.cell? ⟨PA, 4, none⟩ = some (.int .i64 1) ∧ W.cell? ⟨PA, 5, none⟩ = some (.int .i64 1) ∧ W.cell? ⟨PA, 6, none⟩ = some (.int .i64 4) ∧ W.cell? ⟨PA, 7, none⟩ = some (.int .i64 0) ∧ W.cell? ⟨PA, 8, none⟩ = some (.int .i64 1) ∧ W.cell? ⟨PA, 9, none⟩ = some (.slice none 0 0) ∧ W.cell? ⟨PA, 10, none⟩ = some (.int .i64 0) ∧ W.cell? ⟨QA, 0, none⟩ = some (.int .i64 6) ∧ W.cell? ⟨QA, 1, none⟩ = some (.int .i64 2) ∧ W.cell? ⟨QA, 2, none⟩ = some (.int .i64 1) ∧ W.cell? ⟨QA, 3, none⟩ = some (.int .i64 1) ∧ W.cell? ⟨QA, 4, none⟩ = some (.int .i64 1) ∧ W.cell? ⟨QA, 5, none⟩ = some (.int .i64 1) ∧ W.cell? ⟨QA, 6, none⟩ = some (.int .i64 4) ∧ W.cell? ⟨QA, 7, none⟩ = some (.int .i64 0) ∧ W.cell? ⟨QA, 8, none⟩ = some (.int .i64 1) ∧ W.cell? ⟨QA, 9, none⟩ = some (.slice none 0 0) ∧ W.cell? ⟨QA, 10, none⟩ = some (.int .i64 0))) := Lib.hid (fun W h => ⟨(hP.below h).cell 0, (hP.below h).cell 1, (hP.below h).cell 2, (hP.below h).cell 3, (hP.below h).cell 4, (hP.below h).cell 5, (hP.below h).cell 6, (hP.below h).cell 7, (hP.below h).cell 8, (hP.below h).cell 9, (hP.below h).cell 10, (hQ.below h).cell 0, (hQ.below h).cell 1, (hQ.below h).cell 2, (hQ.below h).cell 3, (hQ.below h).cell 4, (hQ.below h).cell 5, (hQ.below h).cell 6, (hQ.below h).cell 7, (hQ.below h).cell 8, (hQ.below h).cell 9, (hQ.below h).cell 10⟩)
  obtain ⟨y0, y1, y2, y3, y4, y5, y6, y7, y8, y9, y10, y11, y12, y13, y14, y15, y16, y17, y18, y19, y20, y21⟩ := HC.out w2 (Below.refl _ _)
  clear hP hQ hO HPA HQA
  have M1 : True := trivial
  go_wp2_with (first
    | (go_at_call 27; (have m_ := M1; clear M1 m_); refine (accessA _).mono ?_; rintro e w3 ⟨rfl, hb3⟩; obtain ⟨y0, y1, y2, y3, y4, y5, y6, y7, y8, y9, y10, y11, y12, y13, y14, y15, y16, y17, y18, y19, y20, y21⟩ := HC.out _ hb3)
    | (go_at_call 27; refine (accessB _).mono ?_; rintro e w4 ⟨rfl, hb4⟩; have hb24 := bl_then hb3 (Nat.le_refl _) hb4; obtain ⟨y0, y1, y2, y3, y4, y5, y6, y7, y8, y9, y10, y11, y12, y13, y14, y15, y16, y17, y18, y19, y20, y21⟩ := HC.out _ hb24)
    | (go_at_call 26; refine (writesA _).mono ?_; rintro e w5 ⟨rfl, hb5⟩; have hb25 := bl_then hb24 (Nat.le_refl _) hb5; obtain ⟨y0, y1, y2, y3, y4, y5, y6, y7, y8, y9, y10, y11, y12, y13, y14, y15, y16, y17, y18, y19, y20, y21⟩ := HC.out _ hb25)
    | (go_at_call 28; refine (withinA _).mono ?_; rintro e w6 ⟨rfl, hb6⟩; have hb26 := bl_then hb25 (Nat.le_refl _) hb6))
  go_ret
  exact ⟨rfl, bl_then HO.out (Nat.le_refl _) hb26⟩
set_option maxRecDepth 100000 in
set_option maxHeartbeats 4000000 in
theorem strictF (g : Nat) (w : World) (hg : Bk w g 31 #[.int .i64 7, .int .i64 1, .int .i64 1, .int .i64 1, .int .i64 1, .int .i64 1, .int .i64 4, .int .i64 0, .int .i64 1, .slice none 0 0, .int .i64 0, .int .i64 6, .int .i64 2, .int .i64 1, .int .i64 1, .int .i64 1, .int .i64 1, .int .i64 4, .int .i64 0, .int .i64 1, .slice none 0 0, .int .i64 0]) (hs : Evs w (some ⟨g, 0, none⟩) 2 [eA, eB]) : Calls Try.prog 7 #[.slice (some ⟨g, 0, none⟩) 2 2] w fun e w' => e = .returned (.bool false) ∧ Below w.heap.size w w' := by
  have hen : endI Ev.tx cmE edE [eA, eB] 1 = -1 ∧ howE [eA, eB] 1 = 0 := by decide
  have HE : Hid (∀ W, Below w.heap.size w W → Calls Try.prog 8 #[.slice (some ⟨g, 0, none⟩) 2 2, .int .i64 1] W fun e w' => e = .returned (.tuple #[.int .i64 (-1), .int .i64 0]) ∧ Below W.heap.size W w') := Lib.hid (fun W hb => by have := ends_any (some ⟨g, 0, none⟩) 2 2 [eA, eB] 1 W (hs.below hb); rw [hen.1, hen.2] at this; exact this)
  have HG := Lib.hid hg
  clear hs hen hg
  go_enter Try.func7, Try.ntmps7
  go_wp2
  go_loopw [10] (fun c wr => c = .int .i64 0 ∧ Below w.heap.size w wr) (fun _ _ => 1)
  case atStart => exact ⟨rfl, Below.refl _ _⟩
  case round =>
    obtain ⟨rfl, HB⟩ := hrel
    have hgr := HG.out.below HB
    have g0 := hgr.cell 0
    have g1 := hgr.cell 1
    have g2 := hgr.cell 2
    have g3 := hgr.cell 3
    have g4 := hgr.cell 4
    have g5 := hgr.cell 5
    have g6 := hgr.cell 6
    have g7 := hgr.cell 7
    have g8 := hgr.cell 8
    have g9 := hgr.cell 9
    have g10 := hgr.cell 10
    have hD := Bk.new wr 31 #[.int .i64 7, .int .i64 1, .int .i64 1, .int .i64 1, .int .i64 1, .int .i64 1, .int .i64 4, .int .i64 0, .int .i64 1, .slice none 0 0, .int .i64 0]
    have hDb : Below w.heap.size w (wr.alloc (.cells #[.int .i64 7, .int .i64 1, .int .i64 1, .int .i64 1, .int .i64 1, .int .i64 1, .int .i64 4, .int .i64 0, .int .i64 1, .slice none 0 0, .int .i64 0] 31)) := HB.alloc HB.size _
    have HD := Lib.hid hD
    have HDB := Lib.hid hDb
    clear hgr hD hDb
    go_wp2
    refine wp_scope_jumps 0 (fun _ _ => False) (fun _ _ => 0) rfl ?_ (fun _ _ h => h.elim)
    go_wp2_with (first
      | (go_at_call 26; refine (writesA _).mono ?_; rintro e w3 ⟨rfl, hb3⟩; have y1 := (HD.out.below hb3).cell 1)
      | (go_at_call 8; refine (HE.out _ (bl_then HDB.out (Nat.le_refl _) hb3)).mono ?_; rintro e w4 ⟨rfl, hb4⟩))
    have hb34 := bl_then hb3 (Nat.le_refl _) hb4
    have hD4 := HD.out.below hb34
    have hB4 := bl_then HDB.out (Nat.le_refl _) hb34
    generalize wr.heap.size = X at hD4 ⊢
    clear HD HDB hb3 hb4 hb34 y1 g0 g1 g2 g3 g4 g5 g6 g7 g8 g9 g10 HB
    go_step3
    go_wp2
    go_loopw [7] (fun c wr => c = .int .i64 1 ∧ Below w4.heap.size w4 wr) (fun _ _ => 1)
    case atStart => exact ⟨rfl, Below.refl _ _⟩
    case round =>
      obtain ⟨rfl, HB5⟩ := hrel
      have hgr := HG.out.below (bl_then hB4 (Nat.le_refl _) HB5)
      have hDr := hD4.below HB5
      have g0 := hgr.cell 0
      have g1 := hgr.cell 1
      have g2 := hgr.cell 2
      have g3 := hgr.cell 3
      have g4 := hgr.cell 4
      have g5 := hgr.cell 5
      have g6 := hgr.cell 6
      have g7 := hgr.cell 7
      have g8 := hgr.cell 8
      have g9 := hgr.cell 9
      have g10 := hgr.cell 10
      have g11 := hgr.cell 11
      have g12 := hgr.cell 12
      have g13 := hgr.cell 13
      have g14 := hgr.cell 14
      have g15 := hgr.cell 15
      have g16 := hgr.cell 16
      have g17 := hgr.cell 17
      have g18 := hgr.cell 18
      have g19 := hgr.cell 19
      have g20 := hgr.cell 20
      have g21 := hgr.cell 21
      have x0 := hDr.cell 0
      have x1 := hDr.cell 1
      have x2 := hDr.cell 2
      have x3 := hDr.cell 3
      have x4 := hDr.cell 4
      have x5 := hDr.cell 5
      have x6 := hDr.cell 6
      have x7 := hDr.cell 7
      have x8 := hDr.cell 8
      have x9 := hDr.cell 9
      have x10 := hDr.cell 10
      have hB5 := bl_then hB4 (Nat.le_refl _) HB5
      clear hgr hDr
      go_wp2
      go_region_with (first | (go_at_call 9; refine (clashAB _).mono ?_; rintro e w6 ⟨rfl, hb6⟩))
      all_goals
        go_wp2
        simp +zetaDelta only [Exit.jump, Exit.inBlock, Exit.then]
        go_ret
        exact ⟨rfl, bl_then (bl_then hB5 (Nat.le_refl _) (below_drew _)) (Nat.le_refl _) hb6⟩
set_option maxRecDepth 100000 in
set_option maxHeartbeats 4000000 in
theorem strictT (g : Nat) (w : World) (hg : Bk w g 31 #[.int .i64 7, .int .i64 1, .int .i64 1, .int .i64 1, .int .i64 1, .int .i64 1, .int .i64 4, .int .i64 0, .int .i64 1, .slice none 0 0, .int .i64 0, .int .i64 6, .int .i64 2, .int .i64 1, .int .i64 1, .int .i64 1, .int .i64 1, .int .i64 4, .int .i64 0, .int .i64 1, .slice none 0 0, .int .i64 0]) (hs : Evs w (some ⟨g, 0, none⟩) 1 [eA]) : Calls Try.prog 7 #[.slice (some ⟨g, 0, none⟩) 1 2] w fun e w' => e = .returned (.bool true) ∧ Below w.heap.size w w' := by
  have hen : endI Ev.tx cmE edE [eA] 1 = -1 ∧ howE [eA] 1 = 0 := by decide
  have HE : Hid (∀ W, Below w.heap.size w W → Calls Try.prog 8 #[.slice (some ⟨g, 0, none⟩) 1 2, .int .i64 1] W fun e w' => e = .returned (.tuple #[.int .i64 (-1), .int .i64 0]) ∧ Below W.heap.size W w') := Lib.hid (fun W hb => by have := ends_any (some ⟨g, 0, none⟩) 1 2 [eA] 1 W (hs.below hb); rw [hen.1, hen.2] at this; exact this)
  have HG := Lib.hid hg
  clear hs hen hg
  go_enter Try.func7, Try.ntmps7
  go_wp2
  go_loopw [10] (fun c wr => ∃ k : Nat, k ≤ 1 ∧ c = .int .i64 k ∧ Below w.heap.size w wr) (fun c _ => 1 - (intOf c).toNat)
  case atStart => exact ⟨0, by omega, rfl, Below.refl _ _⟩
  case round =>
    obtain ⟨k, hk, rfl, HB⟩ := hrel
    by_cases hk0 : k = 0
    · subst hk0
      have hgr := HG.out.below HB
      have g0 := hgr.cell 0
      have g1 := hgr.cell 1
      have g2 := hgr.cell 2
      have g3 := hgr.cell 3
      have g4 := hgr.cell 4
      have g5 := hgr.cell 5
      have g6 := hgr.cell 6
      have g7 := hgr.cell 7
      have g8 := hgr.cell 8
      have g9 := hgr.cell 9
      have g10 := hgr.cell 10
      have hD := Bk.new wr 31 #[.int .i64 7, .int .i64 1, .int .i64 1, .int .i64 1, .int .i64 1, .int .i64 1, .int .i64 4, .int .i64 0, .int .i64 1, .slice none 0 0, .int .i64 0]
      have hDb : Below w.heap.size w (wr.alloc (.cells #[.int .i64 7, .int .i64 1, .int .i64 1, .int .i64 1, .int .i64 1, .int .i64 1, .int .i64 4, .int .i64 0, .int .i64 1, .slice none 0 0, .int .i64 0] 31)) := HB.alloc HB.size _
      have HD := Lib.hid hD
      have HDB := Lib.hid hDb
      clear hgr hD hDb
      go_wp2
      refine wp_scope_jumps 0 (fun _ _ => False) (fun _ _ => 0) rfl ?_ (fun _ _ h => h.elim)
      go_wp2_with (first
        | (go_at_call 26; refine (writesA _).mono ?_; rintro e w3 ⟨rfl, hb3⟩; have y1 := (HD.out.below hb3).cell 1)
        | (go_at_call 8; refine (HE.out _ (bl_then HDB.out (Nat.le_refl _) hb3)).mono ?_; rintro e w4 ⟨rfl, hb4⟩))
      have hB4 := bl_then HDB.out (Nat.le_refl _) (bl_then hb3 (Nat.le_refl _) hb4)
      generalize wr.heap.size = X
      clear HD HDB hb3 hb4 y1 g0 g1 g2 g3 g4 g5 g6 g7 g8 g9 g10 HB
      go_step3
      go_wp2
      go_loopw [7] (fun c wr => c = .int .i64 1 ∧ wr = w4) (fun _ _ => 1)
      case atStart => exact ⟨rfl, rfl⟩
      case round =>
        obtain ⟨rfl, rfl⟩ := hrel
        go_wp2
        simp only [Exit.jump]
        go_wp2
        go_roundw
        case rel => exact ⟨1, by omega, by go_num, hB4⟩
        case measure => simp [intOf]
    · obtain rfl : k = 1 := by omega
      go_wp2
      go_ret
      exact ⟨rfl, HB⟩
set_option maxRecDepth 100000 in
set_option maxHeartbeats 2000000 in
theorem awake23 (w : World) : Calls Try.prog 5 #[] w fun e w' => e = .returned (.bool true) ∧ Below w.heap.size w w' := by
  have hw1 : Below w.heap.size w (w.alloc (.cells #[.int .i64 1, .int .i64 1, .int .i64 1, .int .i64 1, .int .i64 4] 27)) := (Below.refl _ _).alloc (Nat.le_refl _) _
  have hm1 : Evs ((w.alloc (.cells #[.int .i64 1, .int .i64 1, .int .i64 1, .int .i64 1, .int .i64 4] 27)).alloc (.cells #[.int .i64 7, .int .i64 1, .int .i64 1, .int .i64 1, .int .i64 1, .int .i64 1, .int .i64 4, .int .i64 0, .int .i64 1, .slice none 0 0, .int .i64 0, .int .i64 6, .int .i64 2, .int .i64 1, .int .i64 1, .int .i64 1, .int .i64 1, .int .i64 4, .int .i64 0, .int .i64 1, .slice none 0 0, .int .i64 0] 31)) (some ⟨w.heap.size + 1, 0, none⟩) 2 [eA, eB] := by
    have := SR.made (enc := enEv) (ok := okEv) enEv_len (w.alloc (.cells #[.int .i64 1, .int .i64 1, .int .i64 1, .int .i64 1, .int .i64 4] 27)) 31 #[.int .i64 7, .int .i64 1, .int .i64 1, .int .i64 1, .int .i64 1, .int .i64 1, .int .i64 4, .int .i64 0, .int .i64 1, .slice none 0 0, .int .i64 0, .int .i64 6, .int .i64 2, .int .i64 1, .int .i64 1, .int .i64 1, .int .i64 1, .int .i64 4, .int .i64 0, .int .i64 1, .slice none 0 0, .int .i64 0] [eA, eB] rfl (by intro x hx; simp only [List.mem_cons, List.not_mem_nil, or_false] at hx; rcases hx with rfl | rfl <;> decide) (by decide)
    rw [World.size_alloc] at this
    exact this
  have hm2 : Bk ((w.alloc (.cells #[.int .i64 1, .int .i64 1, .int .i64 1, .int .i64 1, .int .i64 4] 27)).alloc (.cells #[.int .i64 7, .int .i64 1, .int .i64 1, .int .i64 1, .int .i64 1, .int .i64 1, .int .i64 4, .int .i64 0, .int .i64 1, .slice none 0 0, .int .i64 0, .int .i64 6, .int .i64 2, .int .i64 1, .int .i64 1, .int .i64 1, .int .i64 1, .int .i64 4, .int .i64 0, .int .i64 1, .slice none 0 0, .int .i64 0] 31)) (w.heap.size + 1) 31 #[.int .i64 7, .int .i64 1, .int .i64 1, .int .i64 1, .int .i64 1, .int .i64 1, .int .i64 4, .int .i64 0, .int .i64 1, .slice none 0 0, .int .i64 0, .int .i64 6, .int .i64 2, .int .i64 1, .int .i64 1, .int .i64 1, .int .i64 1, .int .i64 4, .int .i64 0, .int .i64 1, .slice none 0 0, .int .i64 0] := by
    have := Bk.new (w.alloc (.cells #[.int .i64 1, .int .i64 1, .int .i64 1, .int .i64 1, .int .i64 4] 27)) 31 #[.int .i64 7, .int .i64 1, .int .i64 1, .int .i64 1, .int .i64 1, .int .i64 1, .int .i64 4, .int .i64 0, .int .i64 1, .slice none 0 0, .int .i64 0, .int .i64 6, .int .i64 2, .int .i64 1, .int .i64 1, .int .i64 1, .int .i64 1, .int .i64 4, .int .i64 0, .int .i64 1, .slice none 0 0, .int .i64 0]
    rw [World.size_alloc] at this
    exact this
  have HF := Lib.hid (strictF _ _ hm2 hm1)
  have HT := Lib.hid (fun W hb => strictT (w.heap.size + 1) W (hm2.below hb) ((hm1.take enEv_len (m := 1) (by omega)).below hb))
  have HB2 := Lib.hid (hw1.alloc hw1.size (.cells #[.int .i64 7, .int .i64 1, .int .i64 1, .int .i64 1, .int .i64 1, .int .i64 1, .int .i64 4, .int .i64 0, .int .i64 1, .slice none 0 0, .int .i64 0, .int .i64 6, .int .i64 2, .int .i64 1, .int .i64 1, .int .i64 1, .int .i64 1, .int .i64 4, .int .i64 0, .int .i64 1, .slice none 0 0, .int .i64 0] 31))
  clear hm1 hm2 hw1
  have M1 : True := trivial
  go_enter Try.func5, Try.ntmps5
  go_wp2_with (first
    | (go_at_call 7; (have m_ := M1; clear M1 m_); refine HF.out.mono ?_; rintro e w3 ⟨rfl, hb3⟩)
    | (go_at_call 7; refine (HT.out _ hb3).mono ?_; rintro e w4 ⟨rfl, hb4⟩))
  go_ret
  exact ⟨rfl, bl_then (bl_then HB2.out (Nat.le_refl _) hb3) (Nat.le_refl _) hb4⟩
end Go.Proofs.Ytjenchijenkndaa
