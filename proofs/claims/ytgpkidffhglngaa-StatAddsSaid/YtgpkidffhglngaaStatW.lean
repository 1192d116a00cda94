/- The walks of stat's Of, Add, Modes; of Few, of mode's May. No condition. -/
import Derived.Test.YtgpkidffhglngaaStat
set_option linter.unusedVariables false
set_option linter.unusedSimpArgs false
namespace Go.Proofs.Ytgpkidffhglngaa
open Go.RowKit (wrap32 wrap64)
open Go.RowKit
def mayB (m : Int) : Bool := decide (0 ≤ m) && decide (m < 7)
set_option maxHeartbeats 400000 in
theorem may_any (m : Int) (w : World) : Calls Try.prog 40 #[.int .i64 m] w fun e w' => e = .returned (.bool (mayB m)) ∧ w = w' := by
  unfold mayB
  by_cases h : 0 ≤ m
  · go_enter Try.func40, Try.ntmps40
    go_wp2
    go_ret
    exact ⟨by simp [h], rfl⟩
  · go_enter Try.func40, Try.ntmps40
    go_wp2
    go_ret
    exact ⟨by simp; omega, rfl⟩
set_option maxHeartbeats 1000000 in
theorem few_any (a : Option Addr) (len cap : Nat) (L : List Ev) (w : World) (hl : Evs w a len L) :
    Calls Try.prog 26 #[.slice a len cap] w fun e w' => e = .returned (.bool (fewL L)) ∧ Below w.heap.size w w' := by
  have hlm : len ≤ 9223372036854775807 := hl.2.1
  have hll := hl.1
  go_enter Try.func26, Try.ntmps26
  go_wp2_with fail
  go_loopw [7] (fun c wr => ∃ k : Nat, k ≤ len ∧ c = .int .i64 k ∧ (∀ i x, i < k → L[i]? = some x → x.rl ≤ 20) ∧ Below w.heap.size w wr) (fun c _ => len - (intOf c).toNat)
  case atStart => exact ⟨0, by omega, rfl, fun i x h => by omega, Below.refl _ _⟩
  case round =>
    obtain ⟨k, hk, rfl, hall, HB⟩ := hrel
    by_cases hlt : k < len
    · obtain ⟨b, off, x, rfl, hx, hrl, d0, d1, d2, d3, d4, d5, d6, d7, d8, d9, d10⟩ := evs_at (hl.below HB) hlt
      have HX := Lib.hid hx
      have HALL := Lib.hid hall
      have hrl' : x.rl ≤ 9223372036854775807 := hrl
      clear hl hx hall
      by_cases h20 : x.rl ≤ 20
      · obtain ⟨kd, tx, n0, n1, n2, n3, dp, mo, va, ra, rl, rc, er⟩ := x
        dsimp only at d0 d1 d2 d3 d4 d5 d6 d7 d8 d9 d10 h20 hrl hrl'
        go_wp2
        go_roundw
        case rel =>
          refine ⟨k + 1, by omega, by go_num, ?_, HB.alloc HB.size _⟩
          intro i y hi hy
          by_cases e : i = k
          · subst e; rw [HX.out] at hy; injection hy with hy; subst hy; exact h20
          · exact HALL.out i y (by omega) hy
        case measure => simp [intOf]; omega
      · have hf : fewL L = false := by
          unfold fewL
          have : (L.all fun x => decide (x.rl ≤ 20)) = false := by
            rw [List.all_eq_false]
            exact ⟨x, List.mem_of_getElem? HX.out, by simp; omega⟩
          rw [this]; rfl
        have HF := Lib.hid hf
        have h21 : (20 : Int) < x.rl := by omega
        obtain ⟨kd, tx, n0, n1, n2, n3, dp, mo, va, ra, rl, rc, er⟩ := x
        dsimp only at d0 d1 d2 d3 d4 d5 d6 d7 d8 d9 d10 h20 h21 hrl hrl'
        clear hf
        go_wp2
        go_ret
        exact ⟨by rw [HF.out]; rfl, HB.alloc HB.size _⟩
    · obtain rfl : k = len := by omega
      have hf : fewL L = decide (L.length ≤ 30) := by
        unfold fewL
        have : (L.all fun x => decide (x.rl ≤ 20)) = true := by
          rw [List.all_eq_true]
          intro x hx
          obtain ⟨i, hi, e⟩ := List.getElem_of_mem hx
          have := hall i x (by omega) (by rw [List.getElem?_eq_getElem hi, e])
          simp [this]
        rw [this, Bool.true_and]
      rw [hll] at hf
      have HF := Lib.hid hf
      clear hf hl hall hll
      by_cases h30 : k ≤ 30
      · have h31 : (k : Int) ≤ 30 := by omega
        go_wp2
        go_ret
        exact ⟨by rw [HF.out, decide_eq_true h30]; rfl, HB⟩
      · have h31 : ¬ ((k : Int) ≤ 30) := by omega
        go_wp2
        go_ret
        exact ⟨by rw [HF.out, decide_eq_false h30]; rfl, HB⟩
set_option maxHeartbeats 1000000 in
theorem waits_any (kd tx n0 n1 n2 n3 dp mo va er : Int) (ra : Option Addr) (rl rc : Nat) (w : World) :
    Calls Try.prog 58 #[.agg #[.int .i64 kd, .int .i64 tx, .int .i64 n0, .int .i64 n1, .int .i64 n2, .int .i64 n3, .int .i64 dp, .int .i64 mo, .int .i64 va, .slice ra rl rc, .int .i64 er]] w fun e w' => e = .returned (.bool (kd == 2 && va == 2)) ∧ Below w.heap.size w w' := by
  by_cases h : kd = 2
  · subst h
    go_enter Try.func58, Try.ntmps58
    go_wp2
    go_ret
    exact ⟨by simp, (Below.refl _ _).alloc (Nat.le_refl _) _⟩
  · have h2 : (kd == 2) = false := beq_eq_false_iff_ne.2 h
    clear h
    go_enter Try.func58, Try.ntmps58
    go_wp2
    go_ret
    exact ⟨by simp [h2], (Below.refl _ _).alloc (Nat.le_refl _) _⟩
def tal (L : List Ev) : Value := .agg #[.int .i64 (cn pB L), .int .i64 (cn pC L), .int .i64 (cn pA L), .int .i64 (cn pW L), .int .i64 (cn pK L), .int .i64 (cn pG L)]
set_option maxRecDepth 100000 in
set_option maxHeartbeats 4000000 in
theorem of_any (a : Option Addr) (len cap : Nat) (L : List Ev) (w : World) (hl : Evs w a len L) (hn : len ≤ 1000) :
    Calls Try.prog 29 #[.slice a len cap] w fun e w' => e = .returned (tal L) ∧ Below w.heap.size w w' := by
  unfold tal
  have hll := hl.1
  have hT0 : Bk ((w.alloc (.cells #[.int .i64 0, .int .i64 0, .int .i64 0, .int .i64 0, .int .i64 0, .int .i64 0] 40)).alloc (.cells #[.int .i64 0, .int .i64 0, .int .i64 0, .int .i64 0, .int .i64 0, .int .i64 0] 40)) (w.heap.size + 1) 40 #[.int .i64 0, .int .i64 0, .int .i64 0, .int .i64 0, .int .i64 0, .int .i64 0] := by
    have := Bk.new (w.alloc (.cells #[.int .i64 0, .int .i64 0, .int .i64 0, .int .i64 0, .int .i64 0, .int .i64 0] 40)) 40 #[.int .i64 0, .int .i64 0, .int .i64 0, .int .i64 0, .int .i64 0, .int .i64 0]
    simpa using this
  have hR0 : Bk ((w.alloc (.cells #[.int .i64 0, .int .i64 0, .int .i64 0, .int .i64 0, .int .i64 0, .int .i64 0] 40)).alloc (.cells #[.int .i64 0, .int .i64 0, .int .i64 0, .int .i64 0, .int .i64 0, .int .i64 0] 40)) w.heap.size 40 #[.int .i64 0, .int .i64 0, .int .i64 0, .int .i64 0, .int .i64 0, .int .i64 0] :=
    (Bk.new w 40 #[.int .i64 0, .int .i64 0, .int .i64 0, .int .i64 0, .int .i64 0, .int .i64 0]).below ((Below.refl _ _).alloc (Nat.le_refl _) _)
  have HB0 : Below w.heap.size w ((w.alloc (.cells #[.int .i64 0, .int .i64 0, .int .i64 0, .int .i64 0, .int .i64 0, .int .i64 0] 40)).alloc (.cells #[.int .i64 0, .int .i64 0, .int .i64 0, .int .i64 0, .int .i64 0, .int .i64 0] 40)) := ((Below.refl _ _).alloc (Nat.le_refl _) _).alloc (by simp) _
  go_enter Try.func29, Try.ntmps29
  go_wp2_with fail
  generalize ((w.alloc (.cells #[.int .i64 0, .int .i64 0, .int .i64 0, .int .i64 0, .int .i64 0, .int .i64 0] 40)).alloc (.cells #[.int .i64 0, .int .i64 0, .int .i64 0, .int .i64 0, .int .i64 0, .int .i64 0] 40)) = w1 at hT0 hR0 HB0 ⊢
  have hRT : w.heap.size ≠ w.heap.size + 1 := by omega
  have hT1 : w.heap.size ≤ w.heap.size + 1 := by omega
  go_loopw [8] (fun c wr => ∃ k : Nat, k ≤ len ∧ c = .int .i64 k ∧ Bk wr (w.heap.size + 1) 40 #[.int .i64 (cn pB (L.take k)), .int .i64 (cn pC (L.take k)), .int .i64 (cn pA (L.take k)), .int .i64 (cn pW (L.take k)), .int .i64 (cn pK (L.take k)), .int .i64 (cn pG (L.take k))] ∧ Bk wr w.heap.size 40 #[.int .i64 0, .int .i64 0, .int .i64 0, .int .i64 0, .int .i64 0, .int .i64 0] ∧ Below w.heap.size w wr) (fun c _ => len - (intOf c).toNat)
  case atStart => exact ⟨0, by omega, rfl, hT0, hR0, HB0⟩
  case round =>
    clear hT0 hR0 HB0
    obtain ⟨k, hk, rfl, hTw, hRw, HB⟩ := hrel
    by_cases hlt : k < len
    · obtain ⟨b, off, x, rfl, hx, hrl, d0, d1, d2, d3, d4, d5, d6, d7, d8, d9, d10⟩ := evs_at (hl.below HB) hlt
      have hw0 : ∀ p, 0 ≤ cn p (L.take k) ∧ cn p (L.take k) ≤ 1000 := fun p => by
        have := cn_range p (L.take k)
        rw [List.length_take] at this
        omega
      have sB := cn_take pB L k x hx
      have rB := hw0 pB
      have sC := cn_take pC L k x hx
      have rC := hw0 pC
      have sA := cn_take pA L k x hx
      have rA := hw0 pA
      have sW := cn_take pW L k x hx
      have rW := hw0 pW
      have sK := cn_take pK L k x hx
      have rK := hw0 pK
      have sG := cn_take pG L k x hx
      have rG := hw0 pG
      clear hl hw0 hx
      generalize cn pB (L.take k) = cB at sB rB hTw
      have SB := Lib.hid sB
      clear sB
      have tB : IntKind.i64.wrap (cB + 1) = cB + 1 := by rw [IntKind.wrap_i64]; omega
      generalize cn pC (L.take k) = cC at sC rC hTw
      have SC := Lib.hid sC
      clear sC
      have tC : IntKind.i64.wrap (cC + 1) = cC + 1 := by rw [IntKind.wrap_i64]; omega
      generalize cn pA (L.take k) = cA at sA rA hTw
      have SA := Lib.hid sA
      clear sA
      have tA : IntKind.i64.wrap (cA + 1) = cA + 1 := by rw [IntKind.wrap_i64]; omega
      generalize cn pW (L.take k) = cW at sW rW hTw
      have SW := Lib.hid sW
      clear sW
      have tW : IntKind.i64.wrap (cW + 1) = cW + 1 := by rw [IntKind.wrap_i64]; omega
      generalize cn pK (L.take k) = cK at sK rK hTw
      have SK := Lib.hid sK
      clear sK
      have tK : IntKind.i64.wrap (cK + 1) = cK + 1 := by rw [IntKind.wrap_i64]; omega
      generalize cn pG (L.take k) = cG at sG rG hTw
      have SG := Lib.hid sG
      clear sG
      have tG : IntKind.i64.wrap (cG + 1) = cG + 1 := by rw [IntKind.wrap_i64]; omega
      obtain ⟨kd, tx, n0, n1, n2, n3, dp, mo, va, ra, rl, rc, er⟩ := x
      dsimp only at d0 d1 d2 d3 d4 d5 d6 d7 d8 d9 d10 SB SC SA SW SK SG
      have hO : Below wr.heap.size wr (wr.alloc (.cells #[.int .i64 kd, .int .i64 tx, .int .i64 n0, .int .i64 n1, .int .i64 n2, .int .i64 n3, .int .i64 dp, .int .i64 mo, .int .i64 va, .slice ra rl rc, .int .i64 er] 68)) := (Below.refl _ _).alloc (Nat.le_refl _) _
      have hTa := hTw.below hO
      have hRa := hRw.below hO
      have HBa := bl_then HB (Nat.le_refl _) hO
      have hE : Bk (wr.alloc (.cells #[.int .i64 kd, .int .i64 tx, .int .i64 n0, .int .i64 n1, .int .i64 n2, .int .i64 n3, .int .i64 dp, .int .i64 mo, .int .i64 va, .slice ra rl rc, .int .i64 er] 68)) wr.heap.size 68 #[.int .i64 kd, .int .i64 tx, .int .i64 n0, .int .i64 n1, .int .i64 n2, .int .i64 n3, .int .i64 dp, .int .i64 mo, .int .i64 va, .slice ra rl rc, .int .i64 er] := Bk.new _ _ _
      have hET : wr.heap.size ≠ w.heap.size + 1 := by have := hTw.lt; omega
      have hER : wr.heap.size ≠ w.heap.size := by have := hRw.lt; omega
      clear hTw hRw HB hO
      have hcase : kd = 1 ∨ kd = 9 ∨ kd = 12 ∨ kd = 4 ∨ kd = 13 ∨ (kd = 2 ∧ va = 2) ∨ (kd = 2 ∧ (va == 2) = false) ∨ ((kd == 1) = false ∧ (kd == 9) = false ∧ (kd == 12) = false ∧ (kd == 4) = false ∧ (kd == 13) = false ∧ (kd == 2) = false) := by
        by_cases h1 : kd = 1
        · exact .inl h1
        by_cases h9 : kd = 9
        · exact .inr (.inl h9)
        by_cases h12 : kd = 12
        · exact .inr (.inr (.inl h12))
        by_cases h4 : kd = 4
        · exact .inr (.inr (.inr (.inl h4)))
        by_cases h13 : kd = 13
        · exact .inr (.inr (.inr (.inr (.inl h13))))
        by_cases h2 : kd = 2
        · by_cases hv : va = 2
          · exact .inr (.inr (.inr (.inr (.inr (.inl ⟨h2, hv⟩)))))
          · exact .inr (.inr (.inr (.inr (.inr (.inr (.inl ⟨h2, beq_eq_false_iff_ne.2 hv⟩))))))
        · exact .inr (.inr (.inr (.inr (.inr (.inr (.inr ⟨beq_eq_false_iff_ne.2 h1, beq_eq_false_iff_ne.2 h9, beq_eq_false_iff_ne.2 h12, beq_eq_false_iff_ne.2 h4, beq_eq_false_iff_ne.2 h13, beq_eq_false_iff_ne.2 h2⟩))))))
      rcases hcase with rfl | rfl | rfl | rfl | rfl | ⟨rfl, rfl⟩ | ⟨rfl, hv⟩ | ⟨g1, g9, g12, g4, g13, g2⟩
      · have eB : cn pB (L.take (k + 1)) = cB + 1 := by rw [SB.out]; simp [pB]
        have EB := Lib.hid eB
        have eC : cn pC (L.take (k + 1)) = cC := by rw [SC.out]; simp [pC]
        have EC := Lib.hid eC
        have eA : cn pA (L.take (k + 1)) = cA := by rw [SA.out]; simp [pA]
        have EA := Lib.hid eA
        have eW : cn pW (L.take (k + 1)) = cW := by rw [SW.out]; simp [pW]
        have EW := Lib.hid eW
        have eK : cn pK (L.take (k + 1)) = cK := by rw [SK.out]; simp [pK]
        have EK := Lib.hid eK
        have eG : cn pG (L.take (k + 1)) = cG := by rw [SG.out]; simp [pG]
        have EG := Lib.hid eG
        clear eB SB eC SC eA SA eW SW eK SK eG SG
        skip
        have hE2 : Bk ((wr.alloc (.cells #[.int .i64 1, .int .i64 tx, .int .i64 n0, .int .i64 n1, .int .i64 n2, .int .i64 n3, .int .i64 dp, .int .i64 mo, .int .i64 va, .slice ra rl rc, .int .i64 er] 68)).setCell ⟨w.heap.size + 1, 0, none⟩ (.int .i64 (cB + 1))) wr.heap.size 68 #[.int .i64 1, .int .i64 tx, .int .i64 n0, .int .i64 n1, .int .i64 n2, .int .i64 n3, .int .i64 dp, .int .i64 mo, .int .i64 va, .slice ra rl rc, .int .i64 er] := (Keep.set (wr.alloc (.cells #[.int .i64 1, .int .i64 tx, .int .i64 n0, .int .i64 n1, .int .i64 n2, .int .i64 n3, .int .i64 dp, .int .i64 mo, .int .i64 va, .slice ra rl rc, .int .i64 er] 68)) (w.heap.size + 1) 0 _ (fun i => i = w.heap.size + 1) rfl).bk hE hET
        have hR2 := (Keep.set (wr.alloc (.cells #[.int .i64 1, .int .i64 tx, .int .i64 n0, .int .i64 n1, .int .i64 n2, .int .i64 n3, .int .i64 dp, .int .i64 mo, .int .i64 va, .slice ra rl rc, .int .i64 er] 68)) (w.heap.size + 1) 0 (.int .i64 (cB + 1)) (fun i => i = w.heap.size + 1) rfl).bk hRa hRT
        have hT2 : Bk ((wr.alloc (.cells #[.int .i64 1, .int .i64 tx, .int .i64 n0, .int .i64 n1, .int .i64 n2, .int .i64 n3, .int .i64 dp, .int .i64 mo, .int .i64 va, .slice ra rl rc, .int .i64 er] 68)).setCell ⟨w.heap.size + 1, 0, none⟩ (.int .i64 (cB + 1))) (w.heap.size + 1) 40 #[.int .i64 (cB + 1), .int .i64 (cC), .int .i64 (cA), .int .i64 (cW), .int .i64 (cK), .int .i64 (cG)] := hTa.set 0 _
        have HB2 : Below w.heap.size w ((wr.alloc (.cells #[.int .i64 1, .int .i64 tx, .int .i64 n0, .int .i64 n1, .int .i64 n2, .int .i64 n3, .int .i64 dp, .int .i64 mo, .int .i64 va, .slice ra rl rc, .int .i64 er] 68)).setCell ⟨w.heap.size + 1, 0, none⟩ (.int .i64 (cB + 1))) := HBa.setCell (p := ⟨w.heap.size + 1, 0, none⟩) hT1 _
        have y0 := hE2.cell 0
        have y1 := hE2.cell 1
        have y2 := hE2.cell 2
        have y3 := hE2.cell 3
        have y4 := hE2.cell 4
        have y5 := hE2.cell 5
        have y6 := hE2.cell 6
        have y7 := hE2.cell 7
        have y8 := hE2.cell 8
        have y9 := hE2.cell 9
        have y10 := hE2.cell 10
        have q0 := hE.cell 0
        have q1 := hTa.cell 0
        have q2 := hTa.frozen 0
        go_wp2_with fail
        refine (waits_any _ _ _ _ _ _ _ _ _ _ _ _ _ _).mono ?_
        rintro e w6 ⟨rfl, hb6⟩
        have hT6 := hT2.below hb6
        have hR6 := hR2.below hb6
        have HB6 := bl_then HB2 (Nat.le_refl _) hb6
        go_wp2
        go_roundw
        case rel => exact ⟨k + 1, by omega, by go_num, by rw [EB.out, EC.out, EA.out, EW.out, EK.out, EG.out]; exact hT6, hR6, HB6⟩
        case measure => simp [intOf]; omega
      · have eB : cn pB (L.take (k + 1)) = cB := by rw [SB.out]; simp [pB]
        have EB := Lib.hid eB
        have eC : cn pC (L.take (k + 1)) = cC + 1 := by rw [SC.out]; simp [pC]
        have EC := Lib.hid eC
        have eA : cn pA (L.take (k + 1)) = cA := by rw [SA.out]; simp [pA]
        have EA := Lib.hid eA
        have eW : cn pW (L.take (k + 1)) = cW := by rw [SW.out]; simp [pW]
        have EW := Lib.hid eW
        have eK : cn pK (L.take (k + 1)) = cK := by rw [SK.out]; simp [pK]
        have EK := Lib.hid eK
        have eG : cn pG (L.take (k + 1)) = cG := by rw [SG.out]; simp [pG]
        have EG := Lib.hid eG
        clear eB SB eC SC eA SA eW SW eK SK eG SG
        skip
        have hE2 : Bk ((wr.alloc (.cells #[.int .i64 9, .int .i64 tx, .int .i64 n0, .int .i64 n1, .int .i64 n2, .int .i64 n3, .int .i64 dp, .int .i64 mo, .int .i64 va, .slice ra rl rc, .int .i64 er] 68)).setCell ⟨w.heap.size + 1, 1, none⟩ (.int .i64 (cC + 1))) wr.heap.size 68 #[.int .i64 9, .int .i64 tx, .int .i64 n0, .int .i64 n1, .int .i64 n2, .int .i64 n3, .int .i64 dp, .int .i64 mo, .int .i64 va, .slice ra rl rc, .int .i64 er] := (Keep.set (wr.alloc (.cells #[.int .i64 9, .int .i64 tx, .int .i64 n0, .int .i64 n1, .int .i64 n2, .int .i64 n3, .int .i64 dp, .int .i64 mo, .int .i64 va, .slice ra rl rc, .int .i64 er] 68)) (w.heap.size + 1) 1 _ (fun i => i = w.heap.size + 1) rfl).bk hE hET
        have hR2 := (Keep.set (wr.alloc (.cells #[.int .i64 9, .int .i64 tx, .int .i64 n0, .int .i64 n1, .int .i64 n2, .int .i64 n3, .int .i64 dp, .int .i64 mo, .int .i64 va, .slice ra rl rc, .int .i64 er] 68)) (w.heap.size + 1) 1 (.int .i64 (cC + 1)) (fun i => i = w.heap.size + 1) rfl).bk hRa hRT
        have hT2 : Bk ((wr.alloc (.cells #[.int .i64 9, .int .i64 tx, .int .i64 n0, .int .i64 n1, .int .i64 n2, .int .i64 n3, .int .i64 dp, .int .i64 mo, .int .i64 va, .slice ra rl rc, .int .i64 er] 68)).setCell ⟨w.heap.size + 1, 1, none⟩ (.int .i64 (cC + 1))) (w.heap.size + 1) 40 #[.int .i64 (cB), .int .i64 (cC + 1), .int .i64 (cA), .int .i64 (cW), .int .i64 (cK), .int .i64 (cG)] := hTa.set 1 _
        have HB2 : Below w.heap.size w ((wr.alloc (.cells #[.int .i64 9, .int .i64 tx, .int .i64 n0, .int .i64 n1, .int .i64 n2, .int .i64 n3, .int .i64 dp, .int .i64 mo, .int .i64 va, .slice ra rl rc, .int .i64 er] 68)).setCell ⟨w.heap.size + 1, 1, none⟩ (.int .i64 (cC + 1))) := HBa.setCell (p := ⟨w.heap.size + 1, 1, none⟩) hT1 _
        have y0 := hE2.cell 0
        have y1 := hE2.cell 1
        have y2 := hE2.cell 2
        have y3 := hE2.cell 3
        have y4 := hE2.cell 4
        have y5 := hE2.cell 5
        have y6 := hE2.cell 6
        have y7 := hE2.cell 7
        have y8 := hE2.cell 8
        have y9 := hE2.cell 9
        have y10 := hE2.cell 10
        have q0 := hE.cell 0
        have q1 := hTa.cell 1
        have q2 := hTa.frozen 1
        go_wp2_with fail
        refine (waits_any _ _ _ _ _ _ _ _ _ _ _ _ _ _).mono ?_
        rintro e w6 ⟨rfl, hb6⟩
        have hT6 := hT2.below hb6
        have hR6 := hR2.below hb6
        have HB6 := bl_then HB2 (Nat.le_refl _) hb6
        go_wp2
        go_roundw
        case rel => exact ⟨k + 1, by omega, by go_num, by rw [EB.out, EC.out, EA.out, EW.out, EK.out, EG.out]; exact hT6, hR6, HB6⟩
        case measure => simp [intOf]; omega
      · have eB : cn pB (L.take (k + 1)) = cB := by rw [SB.out]; simp [pB]
        have EB := Lib.hid eB
        have eC : cn pC (L.take (k + 1)) = cC := by rw [SC.out]; simp [pC]
        have EC := Lib.hid eC
        have eA : cn pA (L.take (k + 1)) = cA + 1 := by rw [SA.out]; simp [pA]
        have EA := Lib.hid eA
        have eW : cn pW (L.take (k + 1)) = cW := by rw [SW.out]; simp [pW]
        have EW := Lib.hid eW
        have eK : cn pK (L.take (k + 1)) = cK := by rw [SK.out]; simp [pK]
        have EK := Lib.hid eK
        have eG : cn pG (L.take (k + 1)) = cG := by rw [SG.out]; simp [pG]
        have EG := Lib.hid eG
        clear eB SB eC SC eA SA eW SW eK SK eG SG
        skip
        have hE2 : Bk ((wr.alloc (.cells #[.int .i64 12, .int .i64 tx, .int .i64 n0, .int .i64 n1, .int .i64 n2, .int .i64 n3, .int .i64 dp, .int .i64 mo, .int .i64 va, .slice ra rl rc, .int .i64 er] 68)).setCell ⟨w.heap.size + 1, 2, none⟩ (.int .i64 (cA + 1))) wr.heap.size 68 #[.int .i64 12, .int .i64 tx, .int .i64 n0, .int .i64 n1, .int .i64 n2, .int .i64 n3, .int .i64 dp, .int .i64 mo, .int .i64 va, .slice ra rl rc, .int .i64 er] := (Keep.set (wr.alloc (.cells #[.int .i64 12, .int .i64 tx, .int .i64 n0, .int .i64 n1, .int .i64 n2, .int .i64 n3, .int .i64 dp, .int .i64 mo, .int .i64 va, .slice ra rl rc, .int .i64 er] 68)) (w.heap.size + 1) 2 _ (fun i => i = w.heap.size + 1) rfl).bk hE hET
        have hR2 := (Keep.set (wr.alloc (.cells #[.int .i64 12, .int .i64 tx, .int .i64 n0, .int .i64 n1, .int .i64 n2, .int .i64 n3, .int .i64 dp, .int .i64 mo, .int .i64 va, .slice ra rl rc, .int .i64 er] 68)) (w.heap.size + 1) 2 (.int .i64 (cA + 1)) (fun i => i = w.heap.size + 1) rfl).bk hRa hRT
        have hT2 : Bk ((wr.alloc (.cells #[.int .i64 12, .int .i64 tx, .int .i64 n0, .int .i64 n1, .int .i64 n2, .int .i64 n3, .int .i64 dp, .int .i64 mo, .int .i64 va, .slice ra rl rc, .int .i64 er] 68)).setCell ⟨w.heap.size + 1, 2, none⟩ (.int .i64 (cA + 1))) (w.heap.size + 1) 40 #[.int .i64 (cB), .int .i64 (cC), .int .i64 (cA + 1), .int .i64 (cW), .int .i64 (cK), .int .i64 (cG)] := hTa.set 2 _
        have HB2 : Below w.heap.size w ((wr.alloc (.cells #[.int .i64 12, .int .i64 tx, .int .i64 n0, .int .i64 n1, .int .i64 n2, .int .i64 n3, .int .i64 dp, .int .i64 mo, .int .i64 va, .slice ra rl rc, .int .i64 er] 68)).setCell ⟨w.heap.size + 1, 2, none⟩ (.int .i64 (cA + 1))) := HBa.setCell (p := ⟨w.heap.size + 1, 2, none⟩) hT1 _
        have y0 := hE2.cell 0
        have y1 := hE2.cell 1
        have y2 := hE2.cell 2
        have y3 := hE2.cell 3
        have y4 := hE2.cell 4
        have y5 := hE2.cell 5
        have y6 := hE2.cell 6
        have y7 := hE2.cell 7
        have y8 := hE2.cell 8
        have y9 := hE2.cell 9
        have y10 := hE2.cell 10
        have q0 := hE.cell 0
        have q1 := hTa.cell 2
        have q2 := hTa.frozen 2
        go_wp2_with fail
        refine (waits_any _ _ _ _ _ _ _ _ _ _ _ _ _ _).mono ?_
        rintro e w6 ⟨rfl, hb6⟩
        have hT6 := hT2.below hb6
        have hR6 := hR2.below hb6
        have HB6 := bl_then HB2 (Nat.le_refl _) hb6
        go_wp2
        go_roundw
        case rel => exact ⟨k + 1, by omega, by go_num, by rw [EB.out, EC.out, EA.out, EW.out, EK.out, EG.out]; exact hT6, hR6, HB6⟩
        case measure => simp [intOf]; omega
      · have eB : cn pB (L.take (k + 1)) = cB := by rw [SB.out]; simp [pB]
        have EB := Lib.hid eB
        have eC : cn pC (L.take (k + 1)) = cC := by rw [SC.out]; simp [pC]
        have EC := Lib.hid eC
        have eA : cn pA (L.take (k + 1)) = cA := by rw [SA.out]; simp [pA]
        have EA := Lib.hid eA
        have eW : cn pW (L.take (k + 1)) = cW := by rw [SW.out]; simp [pW]
        have EW := Lib.hid eW
        have eK : cn pK (L.take (k + 1)) = cK + 1 := by rw [SK.out]; simp [pK]
        have EK := Lib.hid eK
        have eG : cn pG (L.take (k + 1)) = cG := by rw [SG.out]; simp [pG]
        have EG := Lib.hid eG
        clear eB SB eC SC eA SA eW SW eK SK eG SG
        skip
        have hE2 : Bk ((wr.alloc (.cells #[.int .i64 4, .int .i64 tx, .int .i64 n0, .int .i64 n1, .int .i64 n2, .int .i64 n3, .int .i64 dp, .int .i64 mo, .int .i64 va, .slice ra rl rc, .int .i64 er] 68)).setCell ⟨w.heap.size + 1, 4, none⟩ (.int .i64 (cK + 1))) wr.heap.size 68 #[.int .i64 4, .int .i64 tx, .int .i64 n0, .int .i64 n1, .int .i64 n2, .int .i64 n3, .int .i64 dp, .int .i64 mo, .int .i64 va, .slice ra rl rc, .int .i64 er] := (Keep.set (wr.alloc (.cells #[.int .i64 4, .int .i64 tx, .int .i64 n0, .int .i64 n1, .int .i64 n2, .int .i64 n3, .int .i64 dp, .int .i64 mo, .int .i64 va, .slice ra rl rc, .int .i64 er] 68)) (w.heap.size + 1) 4 _ (fun i => i = w.heap.size + 1) rfl).bk hE hET
        have hR2 := (Keep.set (wr.alloc (.cells #[.int .i64 4, .int .i64 tx, .int .i64 n0, .int .i64 n1, .int .i64 n2, .int .i64 n3, .int .i64 dp, .int .i64 mo, .int .i64 va, .slice ra rl rc, .int .i64 er] 68)) (w.heap.size + 1) 4 (.int .i64 (cK + 1)) (fun i => i = w.heap.size + 1) rfl).bk hRa hRT
        have hT2 : Bk ((wr.alloc (.cells #[.int .i64 4, .int .i64 tx, .int .i64 n0, .int .i64 n1, .int .i64 n2, .int .i64 n3, .int .i64 dp, .int .i64 mo, .int .i64 va, .slice ra rl rc, .int .i64 er] 68)).setCell ⟨w.heap.size + 1, 4, none⟩ (.int .i64 (cK + 1))) (w.heap.size + 1) 40 #[.int .i64 (cB), .int .i64 (cC), .int .i64 (cA), .int .i64 (cW), .int .i64 (cK + 1), .int .i64 (cG)] := hTa.set 4 _
        have HB2 : Below w.heap.size w ((wr.alloc (.cells #[.int .i64 4, .int .i64 tx, .int .i64 n0, .int .i64 n1, .int .i64 n2, .int .i64 n3, .int .i64 dp, .int .i64 mo, .int .i64 va, .slice ra rl rc, .int .i64 er] 68)).setCell ⟨w.heap.size + 1, 4, none⟩ (.int .i64 (cK + 1))) := HBa.setCell (p := ⟨w.heap.size + 1, 4, none⟩) hT1 _
        have y0 := hE2.cell 0
        have y1 := hE2.cell 1
        have y2 := hE2.cell 2
        have y3 := hE2.cell 3
        have y4 := hE2.cell 4
        have y5 := hE2.cell 5
        have y6 := hE2.cell 6
        have y7 := hE2.cell 7
        have y8 := hE2.cell 8
        have y9 := hE2.cell 9
        have y10 := hE2.cell 10
        have q0 := hE.cell 0
        have q1 := hTa.cell 4
        have q2 := hTa.frozen 4
        go_wp2_with fail
        refine (waits_any _ _ _ _ _ _ _ _ _ _ _ _ _ _).mono ?_
        rintro e w6 ⟨rfl, hb6⟩
        have hT6 := hT2.below hb6
        have hR6 := hR2.below hb6
        have HB6 := bl_then HB2 (Nat.le_refl _) hb6
        go_wp2
        go_roundw
        case rel => exact ⟨k + 1, by omega, by go_num, by rw [EB.out, EC.out, EA.out, EW.out, EK.out, EG.out]; exact hT6, hR6, HB6⟩
        case measure => simp [intOf]; omega
      · have eB : cn pB (L.take (k + 1)) = cB := by rw [SB.out]; simp [pB]
        have EB := Lib.hid eB
        have eC : cn pC (L.take (k + 1)) = cC := by rw [SC.out]; simp [pC]
        have EC := Lib.hid eC
        have eA : cn pA (L.take (k + 1)) = cA := by rw [SA.out]; simp [pA]
        have EA := Lib.hid eA
        have eW : cn pW (L.take (k + 1)) = cW := by rw [SW.out]; simp [pW]
        have EW := Lib.hid eW
        have eK : cn pK (L.take (k + 1)) = cK := by rw [SK.out]; simp [pK]
        have EK := Lib.hid eK
        have eG : cn pG (L.take (k + 1)) = cG + 1 := by rw [SG.out]; simp [pG]
        have EG := Lib.hid eG
        clear eB SB eC SC eA SA eW SW eK SK eG SG
        skip
        have hE2 : Bk ((wr.alloc (.cells #[.int .i64 13, .int .i64 tx, .int .i64 n0, .int .i64 n1, .int .i64 n2, .int .i64 n3, .int .i64 dp, .int .i64 mo, .int .i64 va, .slice ra rl rc, .int .i64 er] 68)).setCell ⟨w.heap.size + 1, 5, none⟩ (.int .i64 (cG + 1))) wr.heap.size 68 #[.int .i64 13, .int .i64 tx, .int .i64 n0, .int .i64 n1, .int .i64 n2, .int .i64 n3, .int .i64 dp, .int .i64 mo, .int .i64 va, .slice ra rl rc, .int .i64 er] := (Keep.set (wr.alloc (.cells #[.int .i64 13, .int .i64 tx, .int .i64 n0, .int .i64 n1, .int .i64 n2, .int .i64 n3, .int .i64 dp, .int .i64 mo, .int .i64 va, .slice ra rl rc, .int .i64 er] 68)) (w.heap.size + 1) 5 _ (fun i => i = w.heap.size + 1) rfl).bk hE hET
        have hR2 := (Keep.set (wr.alloc (.cells #[.int .i64 13, .int .i64 tx, .int .i64 n0, .int .i64 n1, .int .i64 n2, .int .i64 n3, .int .i64 dp, .int .i64 mo, .int .i64 va, .slice ra rl rc, .int .i64 er] 68)) (w.heap.size + 1) 5 (.int .i64 (cG + 1)) (fun i => i = w.heap.size + 1) rfl).bk hRa hRT
        have hT2 : Bk ((wr.alloc (.cells #[.int .i64 13, .int .i64 tx, .int .i64 n0, .int .i64 n1, .int .i64 n2, .int .i64 n3, .int .i64 dp, .int .i64 mo, .int .i64 va, .slice ra rl rc, .int .i64 er] 68)).setCell ⟨w.heap.size + 1, 5, none⟩ (.int .i64 (cG + 1))) (w.heap.size + 1) 40 #[.int .i64 (cB), .int .i64 (cC), .int .i64 (cA), .int .i64 (cW), .int .i64 (cK), .int .i64 (cG + 1)] := hTa.set 5 _
        have HB2 : Below w.heap.size w ((wr.alloc (.cells #[.int .i64 13, .int .i64 tx, .int .i64 n0, .int .i64 n1, .int .i64 n2, .int .i64 n3, .int .i64 dp, .int .i64 mo, .int .i64 va, .slice ra rl rc, .int .i64 er] 68)).setCell ⟨w.heap.size + 1, 5, none⟩ (.int .i64 (cG + 1))) := HBa.setCell (p := ⟨w.heap.size + 1, 5, none⟩) hT1 _
        have y0 := hE2.cell 0
        have y1 := hE2.cell 1
        have y2 := hE2.cell 2
        have y3 := hE2.cell 3
        have y4 := hE2.cell 4
        have y5 := hE2.cell 5
        have y6 := hE2.cell 6
        have y7 := hE2.cell 7
        have y8 := hE2.cell 8
        have y9 := hE2.cell 9
        have y10 := hE2.cell 10
        have q0 := hE.cell 0
        have q1 := hTa.cell 5
        have q2 := hTa.frozen 5
        go_wp2_with fail
        refine (waits_any _ _ _ _ _ _ _ _ _ _ _ _ _ _).mono ?_
        rintro e w6 ⟨rfl, hb6⟩
        have hT6 := hT2.below hb6
        have hR6 := hR2.below hb6
        have HB6 := bl_then HB2 (Nat.le_refl _) hb6
        go_wp2
        go_roundw
        case rel => exact ⟨k + 1, by omega, by go_num, by rw [EB.out, EC.out, EA.out, EW.out, EK.out, EG.out]; exact hT6, hR6, HB6⟩
        case measure => simp [intOf]; omega
      · have eB : cn pB (L.take (k + 1)) = cB := by rw [SB.out]; simp [pB]
        have EB := Lib.hid eB
        have eC : cn pC (L.take (k + 1)) = cC := by rw [SC.out]; simp [pC]
        have EC := Lib.hid eC
        have eA : cn pA (L.take (k + 1)) = cA := by rw [SA.out]; simp [pA]
        have EA := Lib.hid eA
        have eW : cn pW (L.take (k + 1)) = cW + 1 := by rw [SW.out]; simp [pW]
        have EW := Lib.hid eW
        have eK : cn pK (L.take (k + 1)) = cK := by rw [SK.out]; simp [pK]
        have EK := Lib.hid eK
        have eG : cn pG (L.take (k + 1)) = cG := by rw [SG.out]; simp [pG]
        have EG := Lib.hid eG
        clear eB SB eC SC eA SA eW SW eK SK eG SG
        skip
        have y0 := hE.cell 0
        have y1 := hE.cell 1
        have y2 := hE.cell 2
        have y3 := hE.cell 3
        have y4 := hE.cell 4
        have y5 := hE.cell 5
        have y6 := hE.cell 6
        have y7 := hE.cell 7
        have y8 := hE.cell 8
        have y9 := hE.cell 9
        have y10 := hE.cell 10
        go_wp2_with fail
        refine (waits_any _ _ _ _ _ _ _ _ _ _ _ _ _ _).mono ?_
        rintro e w6 ⟨rfl, hb6⟩
        have hT6 := hTa.below hb6
        have hR6 := hRa.below hb6
        have HB6 := bl_then HBa (Nat.le_refl _) hb6
        have z1 := hT6.cell 3
        have z2 := hT6.frozen 3
        go_wp2
        go_roundw
        case rel => exact ⟨k + 1, by omega, by go_num, by rw [EB.out, EC.out, EA.out, EW.out, EK.out, EG.out]; exact hT6.set 3 _, (Keep.set w6 (w.heap.size + 1) 3 _ (fun i => i = w.heap.size + 1) rfl).bk hR6 hRT, HB6.setCell (p := ⟨w.heap.size + 1, 3, none⟩) hT1 _⟩
        case measure => simp [intOf]; omega
      · have eB : cn pB (L.take (k + 1)) = cB := by rw [SB.out]; simp [pB, hv]
        have EB := Lib.hid eB
        have eC : cn pC (L.take (k + 1)) = cC := by rw [SC.out]; simp [pC, hv]
        have EC := Lib.hid eC
        have eA : cn pA (L.take (k + 1)) = cA := by rw [SA.out]; simp [pA, hv]
        have EA := Lib.hid eA
        have eW : cn pW (L.take (k + 1)) = cW := by rw [SW.out]; simp [pW, hv]
        have EW := Lib.hid eW
        have eK : cn pK (L.take (k + 1)) = cK := by rw [SK.out]; simp [pK, hv]
        have EK := Lib.hid eK
        have eG : cn pG (L.take (k + 1)) = cG := by rw [SG.out]; simp [pG, hv]
        have EG := Lib.hid eG
        clear eB SB eC SC eA SA eW SW eK SK eG SG
        skip
        have y0 := hE.cell 0
        have y1 := hE.cell 1
        have y2 := hE.cell 2
        have y3 := hE.cell 3
        have y4 := hE.cell 4
        have y5 := hE.cell 5
        have y6 := hE.cell 6
        have y7 := hE.cell 7
        have y8 := hE.cell 8
        have y9 := hE.cell 9
        have y10 := hE.cell 10
        go_wp2_with fail
        refine (waits_any _ _ _ _ _ _ _ _ _ _ _ _ _ _).mono ?_
        rintro e w6 ⟨rfl, hb6⟩
        have hT6 := hTa.below hb6
        have hR6 := hRa.below hb6
        have HB6 := bl_then HBa (Nat.le_refl _) hb6
        go_wp2
        go_roundw
        case rel => exact ⟨k + 1, by omega, by go_num, by rw [EB.out, EC.out, EA.out, EW.out, EK.out, EG.out]; exact hT6, hR6, HB6⟩
        case measure => simp [intOf]; omega
      · have eB : cn pB (L.take (k + 1)) = cB := by rw [SB.out]; simp [pB, g1, g9, g12, g4, g13, g2]
        have EB := Lib.hid eB
        have eC : cn pC (L.take (k + 1)) = cC := by rw [SC.out]; simp [pC, g1, g9, g12, g4, g13, g2]
        have EC := Lib.hid eC
        have eA : cn pA (L.take (k + 1)) = cA := by rw [SA.out]; simp [pA, g1, g9, g12, g4, g13, g2]
        have EA := Lib.hid eA
        have eW : cn pW (L.take (k + 1)) = cW := by rw [SW.out]; simp [pW, g1, g9, g12, g4, g13, g2]
        have EW := Lib.hid eW
        have eK : cn pK (L.take (k + 1)) = cK := by rw [SK.out]; simp [pK, g1, g9, g12, g4, g13, g2]
        have EK := Lib.hid eK
        have eG : cn pG (L.take (k + 1)) = cG := by rw [SG.out]; simp [pG, g1, g9, g12, g4, g13, g2]
        have EG := Lib.hid eG
        clear eB SB eC SC eA SA eW SW eK SK eG SG
        skip
        have y0 := hE.cell 0
        have y1 := hE.cell 1
        have y2 := hE.cell 2
        have y3 := hE.cell 3
        have y4 := hE.cell 4
        have y5 := hE.cell 5
        have y6 := hE.cell 6
        have y7 := hE.cell 7
        have y8 := hE.cell 8
        have y9 := hE.cell 9
        have y10 := hE.cell 10
        go_wp2_with fail
        refine (waits_any _ _ _ _ _ _ _ _ _ _ _ _ _ _).mono ?_
        rintro e w6 ⟨rfl, hb6⟩
        have hT6 := hTa.below hb6
        have hR6 := hRa.below hb6
        have HB6 := bl_then HBa (Nat.le_refl _) hb6
        go_wp2
        go_roundw
        case rel => exact ⟨k + 1, by omega, by go_num, by rw [EB.out, EC.out, EA.out, EW.out, EK.out, EG.out]; exact hT6, hR6, HB6⟩
        case measure => simp [intOf]; omega
    · obtain rfl : k = len := by omega
      rw [List.take_of_length_le (by rw [hll]; exact Nat.le_refl _)] at hTw
      have t0 := hTw.cell 0
      have u0 := hRw.cell 0
      have f0 := hRw.frozen 0
      have t1 := hTw.cell 1
      have u1 := hRw.cell 1
      have f1 := hRw.frozen 1
      have t2 := hTw.cell 2
      have u2 := hRw.cell 2
      have f2 := hRw.frozen 2
      have t3 := hTw.cell 3
      have u3 := hRw.cell 3
      have f3 := hRw.frozen 3
      have t4 := hTw.cell 4
      have u4 := hRw.cell 4
      have f4 := hRw.frozen 4
      have t5 := hTw.cell 5
      have u5 := hRw.cell 5
      have f5 := hRw.frozen 5
      clear hl
      go_wp2
      have hF : Bk ((((((wr.setCell ⟨w.heap.size, 0, none⟩ (.int .i64 (cn pB L))).setCell ⟨w.heap.size, 1, none⟩ (.int .i64 (cn pC L))).setCell ⟨w.heap.size, 2, none⟩ (.int .i64 (cn pA L))).setCell ⟨w.heap.size, 3, none⟩ (.int .i64 (cn pW L))).setCell ⟨w.heap.size, 4, none⟩ (.int .i64 (cn pK L))).setCell ⟨w.heap.size, 5, none⟩ (.int .i64 (cn pG L))) w.heap.size 40 #[.int .i64 (cn pB L), .int .i64 (cn pC L), .int .i64 (cn pA L), .int .i64 (cn pW L), .int .i64 (cn pK L), .int .i64 (cn pG L)] := (((((hRw.set 0 _).set 1 _).set 2 _).set 3 _).set 4 _).set 5 _
      have y0 := hF.cell 0
      have y1 := hF.cell 1
      have y2 := hF.cell 2
      have y3 := hF.cell 3
      have y4 := hF.cell 4
      have y5 := hF.cell 5
      exact bodyPost_ret (v := .agg #[.int .i64 (cn pB L), .int .i64 (cn pC L), .int .i64 (cn pA L), .int .i64 (cn pW L), .int .i64 (cn pK L), .int .i64 (cn pG L)]) (by simp [results, Try.results29, go_sem, y0, y1, y2, y3, y4, y5]) rfl ⟨rfl, (((((HB.setCell (p := ⟨w.heap.size, 0, none⟩) (Nat.le_refl _) _).setCell (p := ⟨w.heap.size, 1, none⟩) (Nat.le_refl _) _).setCell (p := ⟨w.heap.size, 2, none⟩) (Nat.le_refl _) _).setCell (p := ⟨w.heap.size, 3, none⟩) (Nat.le_refl _) _).setCell (p := ⟨w.heap.size, 4, none⟩) (Nat.le_refl _) _).setCell (p := ⟨w.heap.size, 5, none⟩) (Nat.le_refl _) _⟩
end Go.Proofs.Ytgpkidffhglngaa
