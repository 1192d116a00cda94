/- The walk of stat's Modes. No condition. -/
import Derived.Test.YtgpkidffhglngaaStatW
set_option linter.unusedVariables false
set_option linter.unusedSimpArgs false
namespace Go.Proofs.Ytgpkidffhglngaa
open Go.RowKit (wrap32 wrap64)
open Go.RowKit
def mdV (L : List Ev) : Value := .agg #[.int .i64 (cn (pM 0) L), .int .i64 (cn (pM 1) L), .int .i64 (cn (pM 2) L), .int .i64 (cn (pM 3) L), .int .i64 (cn (pM 4) L), .int .i64 (cn (pM 5) L), .int .i64 (cn (pM 6) L)]
set_option maxRecDepth 100000 in
set_option maxHeartbeats 8000000 in
theorem modes_any (a : Option Addr) (len cap : Nat) (L : List Ev) (w : World) (hl : Evs w a len L) (hn : len ≤ 1000) :
    Calls Try.prog 27 #[.slice a len cap] w fun e w' => e = .returned (mdV L) ∧ Below w.heap.size w w' := by
  unfold mdV
  have hll := hl.1
  have hT0 : Bk ((w.alloc (.cells #[.int .i64 0, .int .i64 0, .int .i64 0, .int .i64 0, .int .i64 0, .int .i64 0, .int .i64 0] 42)).alloc (.cells #[.int .i64 0, .int .i64 0, .int .i64 0, .int .i64 0, .int .i64 0, .int .i64 0, .int .i64 0] 42)) (w.heap.size + 1) 42 #[.int .i64 0, .int .i64 0, .int .i64 0, .int .i64 0, .int .i64 0, .int .i64 0, .int .i64 0] := by
    have := Bk.new (w.alloc (.cells #[.int .i64 0, .int .i64 0, .int .i64 0, .int .i64 0, .int .i64 0, .int .i64 0, .int .i64 0] 42)) 42 #[.int .i64 0, .int .i64 0, .int .i64 0, .int .i64 0, .int .i64 0, .int .i64 0, .int .i64 0]
    simpa using this
  have hR0 : Bk ((w.alloc (.cells #[.int .i64 0, .int .i64 0, .int .i64 0, .int .i64 0, .int .i64 0, .int .i64 0, .int .i64 0] 42)).alloc (.cells #[.int .i64 0, .int .i64 0, .int .i64 0, .int .i64 0, .int .i64 0, .int .i64 0, .int .i64 0] 42)) w.heap.size 42 #[.int .i64 0, .int .i64 0, .int .i64 0, .int .i64 0, .int .i64 0, .int .i64 0, .int .i64 0] :=
    (Bk.new w 42 #[.int .i64 0, .int .i64 0, .int .i64 0, .int .i64 0, .int .i64 0, .int .i64 0, .int .i64 0]).below ((Below.refl _ _).alloc (Nat.le_refl _) _)
  have HB0 : Below w.heap.size w ((w.alloc (.cells #[.int .i64 0, .int .i64 0, .int .i64 0, .int .i64 0, .int .i64 0, .int .i64 0, .int .i64 0] 42)).alloc (.cells #[.int .i64 0, .int .i64 0, .int .i64 0, .int .i64 0, .int .i64 0, .int .i64 0, .int .i64 0] 42)) := ((Below.refl _ _).alloc (Nat.le_refl _) _).alloc (by simp) _
  go_enter Try.func27, Try.ntmps27
  go_wp2_with fail
  generalize ((w.alloc (.cells #[.int .i64 0, .int .i64 0, .int .i64 0, .int .i64 0, .int .i64 0, .int .i64 0, .int .i64 0] 42)).alloc (.cells #[.int .i64 0, .int .i64 0, .int .i64 0, .int .i64 0, .int .i64 0, .int .i64 0, .int .i64 0] 42)) = w1 at hT0 hR0 HB0 ⊢
  have hRT : w.heap.size ≠ w.heap.size + 1 := by omega
  have hT1 : w.heap.size ≤ w.heap.size + 1 := by omega
  go_loopw [8] (fun c wr => ∃ k : Nat, k ≤ len ∧ c = .int .i64 k ∧ Bk wr (w.heap.size + 1) 42 #[.int .i64 (cn (pM 0) (L.take k)), .int .i64 (cn (pM 1) (L.take k)), .int .i64 (cn (pM 2) (L.take k)), .int .i64 (cn (pM 3) (L.take k)), .int .i64 (cn (pM 4) (L.take k)), .int .i64 (cn (pM 5) (L.take k)), .int .i64 (cn (pM 6) (L.take k))] ∧ Bk wr w.heap.size 42 #[.int .i64 0, .int .i64 0, .int .i64 0, .int .i64 0, .int .i64 0, .int .i64 0, .int .i64 0] ∧ Below w.heap.size w wr) (fun c _ => len - (intOf c).toNat)
  case atStart => exact ⟨0, by omega, rfl, hT0, hR0, HB0⟩
  case round =>
    clear hT0 hR0 HB0
    obtain ⟨k, hk, rfl, hTw, hRw, HB⟩ := hrel
    by_cases hlt : k < len
    · obtain ⟨b, off, x, rfl, hx, hrl, d0, d1, d2, d3, d4, d5, d6, d7, d8, d9, d10⟩ := evs_at (hl.below HB) hlt
      have hw0 : ∀ p, 0 ≤ cn p (L.take k) ∧ cn p (L.take k) ≤ 1000 := fun p => by
        have := cn_range p (L.take k)
        rw [List.length_take] at this
        omega
      have s0 := cn_take (pM 0) L k x hx
      have r0 := hw0 (pM 0)
      have s1 := cn_take (pM 1) L k x hx
      have r1 := hw0 (pM 1)
      have s2 := cn_take (pM 2) L k x hx
      have r2 := hw0 (pM 2)
      have s3 := cn_take (pM 3) L k x hx
      have r3 := hw0 (pM 3)
      have s4 := cn_take (pM 4) L k x hx
      have r4 := hw0 (pM 4)
      have s5 := cn_take (pM 5) L k x hx
      have r5 := hw0 (pM 5)
      have s6 := cn_take (pM 6) L k x hx
      have r6 := hw0 (pM 6)
      clear hl hw0 hx
      generalize cn (pM 0) (L.take k) = c0 at s0 r0 hTw
      have S0 := Lib.hid s0
      clear s0
      have t0 : IntKind.i64.wrap (c0 + 1) = c0 + 1 := by rw [IntKind.wrap_i64]; omega
      generalize cn (pM 1) (L.take k) = c1 at s1 r1 hTw
      have S1 := Lib.hid s1
      clear s1
      have t1 : IntKind.i64.wrap (c1 + 1) = c1 + 1 := by rw [IntKind.wrap_i64]; omega
      generalize cn (pM 2) (L.take k) = c2 at s2 r2 hTw
      have S2 := Lib.hid s2
      clear s2
      have t2 : IntKind.i64.wrap (c2 + 1) = c2 + 1 := by rw [IntKind.wrap_i64]; omega
      generalize cn (pM 3) (L.take k) = c3 at s3 r3 hTw
      have S3 := Lib.hid s3
      clear s3
      have t3 : IntKind.i64.wrap (c3 + 1) = c3 + 1 := by rw [IntKind.wrap_i64]; omega
      generalize cn (pM 4) (L.take k) = c4 at s4 r4 hTw
      have S4 := Lib.hid s4
      clear s4
      have t4 : IntKind.i64.wrap (c4 + 1) = c4 + 1 := by rw [IntKind.wrap_i64]; omega
      generalize cn (pM 5) (L.take k) = c5 at s5 r5 hTw
      have S5 := Lib.hid s5
      clear s5
      have t5 : IntKind.i64.wrap (c5 + 1) = c5 + 1 := by rw [IntKind.wrap_i64]; omega
      generalize cn (pM 6) (L.take k) = c6 at s6 r6 hTw
      have S6 := Lib.hid s6
      clear s6
      have t6 : IntKind.i64.wrap (c6 + 1) = c6 + 1 := by rw [IntKind.wrap_i64]; omega
      obtain ⟨kd, tx, n0, n1, n2, n3, dp, mo, va, ra, rl, rc, er⟩ := x
      dsimp only at d0 d1 d2 d3 d4 d5 d6 d7 d8 d9 d10 S0 S1 S2 S3 S4 S5 S6
      have hO : Below wr.heap.size wr (wr.alloc (.cells #[.int .i64 kd, .int .i64 tx, .int .i64 n0, .int .i64 n1, .int .i64 n2, .int .i64 n3, .int .i64 dp, .int .i64 mo, .int .i64 va, .slice ra rl rc, .int .i64 er] 68)) := (Below.refl _ _).alloc (Nat.le_refl _) _
      have hTa := hTw.below hO
      have hRa := hRw.below hO
      have HBa := bl_then HB (Nat.le_refl _) hO
      have hE : Bk (wr.alloc (.cells #[.int .i64 kd, .int .i64 tx, .int .i64 n0, .int .i64 n1, .int .i64 n2, .int .i64 n3, .int .i64 dp, .int .i64 mo, .int .i64 va, .slice ra rl rc, .int .i64 er] 68)) wr.heap.size 68 #[.int .i64 kd, .int .i64 tx, .int .i64 n0, .int .i64 n1, .int .i64 n2, .int .i64 n3, .int .i64 dp, .int .i64 mo, .int .i64 va, .slice ra rl rc, .int .i64 er] := Bk.new _ _ _
      clear hTw hRw HB hO
      by_cases hk23 : kd = 2 ∨ kd = 3
      · have hmo : mo = 0 ∨ mo = 1 ∨ mo = 2 ∨ mo = 3 ∨ mo = 4 ∨ mo = 5 ∨ mo = 6 ∨ (Hid (mayB mo = false) ∧ Hid (moR mo = 0)) := by
          by_cases h : 0 ≤ mo ∧ mo < 7
          · omega
          · refine .inr (.inr (.inr (.inr (.inr (.inr (.inr ⟨Lib.hid ?_, Lib.hid (if_neg h)⟩))))))
            unfold mayB
            by_cases h0 : 0 ≤ mo
            · rw [decide_eq_false (show ¬ mo < 7 by omega), Bool.and_false]
            · rw [decide_eq_false h0, Bool.false_and]
        rcases hk23 with rfl | rfl
        · rcases hmo with rfl | rfl | rfl | rfl | rfl | rfl | rfl | ⟨hmay, hmo⟩
          · have E0 : Hid (cn (pM 0) (L.take (k + 1)) = c0 + 1) := Lib.hid (by rw [S0.out]; simp [pM, moR])
            have E1 : Hid (cn (pM 1) (L.take (k + 1)) = c1) := Lib.hid (by rw [S1.out]; simp [pM, moR])
            have E2 : Hid (cn (pM 2) (L.take (k + 1)) = c2) := Lib.hid (by rw [S2.out]; simp [pM, moR])
            have E3 : Hid (cn (pM 3) (L.take (k + 1)) = c3) := Lib.hid (by rw [S3.out]; simp [pM, moR])
            have E4 : Hid (cn (pM 4) (L.take (k + 1)) = c4) := Lib.hid (by rw [S4.out]; simp [pM, moR])
            have E5 : Hid (cn (pM 5) (L.take (k + 1)) = c5) := Lib.hid (by rw [S5.out]; simp [pM, moR])
            have E6 : Hid (cn (pM 6) (L.take (k + 1)) = c6) := Lib.hid (by rw [S6.out]; simp [pM, moR])
            clear S0 S1 S2 S3 S4 S5 S6
            have hR2 := (Keep.set (wr.alloc (.cells #[.int .i64 2, .int .i64 tx, .int .i64 n0, .int .i64 n1, .int .i64 n2, .int .i64 n3, .int .i64 dp, .int .i64 0, .int .i64 va, .slice ra rl rc, .int .i64 er] 68)) (w.heap.size + 1) 0 (.int .i64 (c0 + 1)) (fun i => i = w.heap.size + 1) rfl).bk hRa hRT
            have hT2 : Bk ((wr.alloc (.cells #[.int .i64 2, .int .i64 tx, .int .i64 n0, .int .i64 n1, .int .i64 n2, .int .i64 n3, .int .i64 dp, .int .i64 0, .int .i64 va, .slice ra rl rc, .int .i64 er] 68)).setCell ⟨w.heap.size + 1, 0, none⟩ (.int .i64 (c0 + 1))) (w.heap.size + 1) 42 #[.int .i64 (c0 + 1), .int .i64 (c1), .int .i64 (c2), .int .i64 (c3), .int .i64 (c4), .int .i64 (c5), .int .i64 (c6)] := hTa.set 0 _
            have HB2 : Below w.heap.size w ((wr.alloc (.cells #[.int .i64 2, .int .i64 tx, .int .i64 n0, .int .i64 n1, .int .i64 n2, .int .i64 n3, .int .i64 dp, .int .i64 0, .int .i64 va, .slice ra rl rc, .int .i64 er] 68)).setCell ⟨w.heap.size + 1, 0, none⟩ (.int .i64 (c0 + 1))) := HBa.setCell (p := ⟨w.heap.size + 1, 0, none⟩) hT1 _
            have q0 := hE.cell 0
            have q7 := hE.cell 7
            have q1 := hTa.cell 0
            have q2 := hTa.frozen 0
            clear hTa hRa HBa hE
            go_wp2_with fail
            refine (may_any _ _).mono ?_
            rintro e _ ⟨rfl, rfl⟩
            rw [show mayB 0 = true from rfl]
            go_wp2
            go_roundw
            case rel => exact ⟨k + 1, by omega, by go_num, by rw [E0.out, E1.out, E2.out, E3.out, E4.out, E5.out, E6.out]; exact hT2, hR2, HB2⟩
            case measure => simp [intOf]; omega
          · have E0 : Hid (cn (pM 0) (L.take (k + 1)) = c0) := Lib.hid (by rw [S0.out]; simp [pM, moR])
            have E1 : Hid (cn (pM 1) (L.take (k + 1)) = c1 + 1) := Lib.hid (by rw [S1.out]; simp [pM, moR])
            have E2 : Hid (cn (pM 2) (L.take (k + 1)) = c2) := Lib.hid (by rw [S2.out]; simp [pM, moR])
            have E3 : Hid (cn (pM 3) (L.take (k + 1)) = c3) := Lib.hid (by rw [S3.out]; simp [pM, moR])
            have E4 : Hid (cn (pM 4) (L.take (k + 1)) = c4) := Lib.hid (by rw [S4.out]; simp [pM, moR])
            have E5 : Hid (cn (pM 5) (L.take (k + 1)) = c5) := Lib.hid (by rw [S5.out]; simp [pM, moR])
            have E6 : Hid (cn (pM 6) (L.take (k + 1)) = c6) := Lib.hid (by rw [S6.out]; simp [pM, moR])
            clear S0 S1 S2 S3 S4 S5 S6
            have hR2 := (Keep.set (wr.alloc (.cells #[.int .i64 2, .int .i64 tx, .int .i64 n0, .int .i64 n1, .int .i64 n2, .int .i64 n3, .int .i64 dp, .int .i64 1, .int .i64 va, .slice ra rl rc, .int .i64 er] 68)) (w.heap.size + 1) 1 (.int .i64 (c1 + 1)) (fun i => i = w.heap.size + 1) rfl).bk hRa hRT
            have hT2 : Bk ((wr.alloc (.cells #[.int .i64 2, .int .i64 tx, .int .i64 n0, .int .i64 n1, .int .i64 n2, .int .i64 n3, .int .i64 dp, .int .i64 1, .int .i64 va, .slice ra rl rc, .int .i64 er] 68)).setCell ⟨w.heap.size + 1, 1, none⟩ (.int .i64 (c1 + 1))) (w.heap.size + 1) 42 #[.int .i64 (c0), .int .i64 (c1 + 1), .int .i64 (c2), .int .i64 (c3), .int .i64 (c4), .int .i64 (c5), .int .i64 (c6)] := hTa.set 1 _
            have HB2 : Below w.heap.size w ((wr.alloc (.cells #[.int .i64 2, .int .i64 tx, .int .i64 n0, .int .i64 n1, .int .i64 n2, .int .i64 n3, .int .i64 dp, .int .i64 1, .int .i64 va, .slice ra rl rc, .int .i64 er] 68)).setCell ⟨w.heap.size + 1, 1, none⟩ (.int .i64 (c1 + 1))) := HBa.setCell (p := ⟨w.heap.size + 1, 1, none⟩) hT1 _
            have q0 := hE.cell 0
            have q7 := hE.cell 7
            have q1 := hTa.cell 1
            have q2 := hTa.frozen 1
            clear hTa hRa HBa hE
            go_wp2_with fail
            refine (may_any _ _).mono ?_
            rintro e _ ⟨rfl, rfl⟩
            rw [show mayB 1 = true from rfl]
            go_wp2
            go_roundw
            case rel => exact ⟨k + 1, by omega, by go_num, by rw [E0.out, E1.out, E2.out, E3.out, E4.out, E5.out, E6.out]; exact hT2, hR2, HB2⟩
            case measure => simp [intOf]; omega
          · have E0 : Hid (cn (pM 0) (L.take (k + 1)) = c0) := Lib.hid (by rw [S0.out]; simp [pM, moR])
            have E1 : Hid (cn (pM 1) (L.take (k + 1)) = c1) := Lib.hid (by rw [S1.out]; simp [pM, moR])
            have E2 : Hid (cn (pM 2) (L.take (k + 1)) = c2 + 1) := Lib.hid (by rw [S2.out]; simp [pM, moR])
            have E3 : Hid (cn (pM 3) (L.take (k + 1)) = c3) := Lib.hid (by rw [S3.out]; simp [pM, moR])
            have E4 : Hid (cn (pM 4) (L.take (k + 1)) = c4) := Lib.hid (by rw [S4.out]; simp [pM, moR])
            have E5 : Hid (cn (pM 5) (L.take (k + 1)) = c5) := Lib.hid (by rw [S5.out]; simp [pM, moR])
            have E6 : Hid (cn (pM 6) (L.take (k + 1)) = c6) := Lib.hid (by rw [S6.out]; simp [pM, moR])
            clear S0 S1 S2 S3 S4 S5 S6
            have hR2 := (Keep.set (wr.alloc (.cells #[.int .i64 2, .int .i64 tx, .int .i64 n0, .int .i64 n1, .int .i64 n2, .int .i64 n3, .int .i64 dp, .int .i64 2, .int .i64 va, .slice ra rl rc, .int .i64 er] 68)) (w.heap.size + 1) 2 (.int .i64 (c2 + 1)) (fun i => i = w.heap.size + 1) rfl).bk hRa hRT
            have hT2 : Bk ((wr.alloc (.cells #[.int .i64 2, .int .i64 tx, .int .i64 n0, .int .i64 n1, .int .i64 n2, .int .i64 n3, .int .i64 dp, .int .i64 2, .int .i64 va, .slice ra rl rc, .int .i64 er] 68)).setCell ⟨w.heap.size + 1, 2, none⟩ (.int .i64 (c2 + 1))) (w.heap.size + 1) 42 #[.int .i64 (c0), .int .i64 (c1), .int .i64 (c2 + 1), .int .i64 (c3), .int .i64 (c4), .int .i64 (c5), .int .i64 (c6)] := hTa.set 2 _
            have HB2 : Below w.heap.size w ((wr.alloc (.cells #[.int .i64 2, .int .i64 tx, .int .i64 n0, .int .i64 n1, .int .i64 n2, .int .i64 n3, .int .i64 dp, .int .i64 2, .int .i64 va, .slice ra rl rc, .int .i64 er] 68)).setCell ⟨w.heap.size + 1, 2, none⟩ (.int .i64 (c2 + 1))) := HBa.setCell (p := ⟨w.heap.size + 1, 2, none⟩) hT1 _
            have q0 := hE.cell 0
            have q7 := hE.cell 7
            have q1 := hTa.cell 2
            have q2 := hTa.frozen 2
            clear hTa hRa HBa hE
            go_wp2_with fail
            refine (may_any _ _).mono ?_
            rintro e _ ⟨rfl, rfl⟩
            rw [show mayB 2 = true from rfl]
            go_wp2
            go_roundw
            case rel => exact ⟨k + 1, by omega, by go_num, by rw [E0.out, E1.out, E2.out, E3.out, E4.out, E5.out, E6.out]; exact hT2, hR2, HB2⟩
            case measure => simp [intOf]; omega
          · have E0 : Hid (cn (pM 0) (L.take (k + 1)) = c0) := Lib.hid (by rw [S0.out]; simp [pM, moR])
            have E1 : Hid (cn (pM 1) (L.take (k + 1)) = c1) := Lib.hid (by rw [S1.out]; simp [pM, moR])
            have E2 : Hid (cn (pM 2) (L.take (k + 1)) = c2) := Lib.hid (by rw [S2.out]; simp [pM, moR])
            have E3 : Hid (cn (pM 3) (L.take (k + 1)) = c3 + 1) := Lib.hid (by rw [S3.out]; simp [pM, moR])
            have E4 : Hid (cn (pM 4) (L.take (k + 1)) = c4) := Lib.hid (by rw [S4.out]; simp [pM, moR])
            have E5 : Hid (cn (pM 5) (L.take (k + 1)) = c5) := Lib.hid (by rw [S5.out]; simp [pM, moR])
            have E6 : Hid (cn (pM 6) (L.take (k + 1)) = c6) := Lib.hid (by rw [S6.out]; simp [pM, moR])
            clear S0 S1 S2 S3 S4 S5 S6
            have hR2 := (Keep.set (wr.alloc (.cells #[.int .i64 2, .int .i64 tx, .int .i64 n0, .int .i64 n1, .int .i64 n2, .int .i64 n3, .int .i64 dp, .int .i64 3, .int .i64 va, .slice ra rl rc, .int .i64 er] 68)) (w.heap.size + 1) 3 (.int .i64 (c3 + 1)) (fun i => i = w.heap.size + 1) rfl).bk hRa hRT
            have hT2 : Bk ((wr.alloc (.cells #[.int .i64 2, .int .i64 tx, .int .i64 n0, .int .i64 n1, .int .i64 n2, .int .i64 n3, .int .i64 dp, .int .i64 3, .int .i64 va, .slice ra rl rc, .int .i64 er] 68)).setCell ⟨w.heap.size + 1, 3, none⟩ (.int .i64 (c3 + 1))) (w.heap.size + 1) 42 #[.int .i64 (c0), .int .i64 (c1), .int .i64 (c2), .int .i64 (c3 + 1), .int .i64 (c4), .int .i64 (c5), .int .i64 (c6)] := hTa.set 3 _
            have HB2 : Below w.heap.size w ((wr.alloc (.cells #[.int .i64 2, .int .i64 tx, .int .i64 n0, .int .i64 n1, .int .i64 n2, .int .i64 n3, .int .i64 dp, .int .i64 3, .int .i64 va, .slice ra rl rc, .int .i64 er] 68)).setCell ⟨w.heap.size + 1, 3, none⟩ (.int .i64 (c3 + 1))) := HBa.setCell (p := ⟨w.heap.size + 1, 3, none⟩) hT1 _
            have q0 := hE.cell 0
            have q7 := hE.cell 7
            have q1 := hTa.cell 3
            have q2 := hTa.frozen 3
            clear hTa hRa HBa hE
            go_wp2_with fail
            refine (may_any _ _).mono ?_
            rintro e _ ⟨rfl, rfl⟩
            rw [show mayB 3 = true from rfl]
            go_wp2
            go_roundw
            case rel => exact ⟨k + 1, by omega, by go_num, by rw [E0.out, E1.out, E2.out, E3.out, E4.out, E5.out, E6.out]; exact hT2, hR2, HB2⟩
            case measure => simp [intOf]; omega
          · have E0 : Hid (cn (pM 0) (L.take (k + 1)) = c0) := Lib.hid (by rw [S0.out]; simp [pM, moR])
            have E1 : Hid (cn (pM 1) (L.take (k + 1)) = c1) := Lib.hid (by rw [S1.out]; simp [pM, moR])
            have E2 : Hid (cn (pM 2) (L.take (k + 1)) = c2) := Lib.hid (by rw [S2.out]; simp [pM, moR])
            have E3 : Hid (cn (pM 3) (L.take (k + 1)) = c3) := Lib.hid (by rw [S3.out]; simp [pM, moR])
            have E4 : Hid (cn (pM 4) (L.take (k + 1)) = c4 + 1) := Lib.hid (by rw [S4.out]; simp [pM, moR])
            have E5 : Hid (cn (pM 5) (L.take (k + 1)) = c5) := Lib.hid (by rw [S5.out]; simp [pM, moR])
            have E6 : Hid (cn (pM 6) (L.take (k + 1)) = c6) := Lib.hid (by rw [S6.out]; simp [pM, moR])
            clear S0 S1 S2 S3 S4 S5 S6
            have hR2 := (Keep.set (wr.alloc (.cells #[.int .i64 2, .int .i64 tx, .int .i64 n0, .int .i64 n1, .int .i64 n2, .int .i64 n3, .int .i64 dp, .int .i64 4, .int .i64 va, .slice ra rl rc, .int .i64 er] 68)) (w.heap.size + 1) 4 (.int .i64 (c4 + 1)) (fun i => i = w.heap.size + 1) rfl).bk hRa hRT
            have hT2 : Bk ((wr.alloc (.cells #[.int .i64 2, .int .i64 tx, .int .i64 n0, .int .i64 n1, .int .i64 n2, .int .i64 n3, .int .i64 dp, .int .i64 4, .int .i64 va, .slice ra rl rc, .int .i64 er] 68)).setCell ⟨w.heap.size + 1, 4, none⟩ (.int .i64 (c4 + 1))) (w.heap.size + 1) 42 #[.int .i64 (c0), .int .i64 (c1), .int .i64 (c2), .int .i64 (c3), .int .i64 (c4 + 1), .int .i64 (c5), .int .i64 (c6)] := hTa.set 4 _
            have HB2 : Below w.heap.size w ((wr.alloc (.cells #[.int .i64 2, .int .i64 tx, .int .i64 n0, .int .i64 n1, .int .i64 n2, .int .i64 n3, .int .i64 dp, .int .i64 4, .int .i64 va, .slice ra rl rc, .int .i64 er] 68)).setCell ⟨w.heap.size + 1, 4, none⟩ (.int .i64 (c4 + 1))) := HBa.setCell (p := ⟨w.heap.size + 1, 4, none⟩) hT1 _
            have q0 := hE.cell 0
            have q7 := hE.cell 7
            have q1 := hTa.cell 4
            have q2 := hTa.frozen 4
            clear hTa hRa HBa hE
            go_wp2_with fail
            refine (may_any _ _).mono ?_
            rintro e _ ⟨rfl, rfl⟩
            rw [show mayB 4 = true from rfl]
            go_wp2
            go_roundw
            case rel => exact ⟨k + 1, by omega, by go_num, by rw [E0.out, E1.out, E2.out, E3.out, E4.out, E5.out, E6.out]; exact hT2, hR2, HB2⟩
            case measure => simp [intOf]; omega
          · have E0 : Hid (cn (pM 0) (L.take (k + 1)) = c0) := Lib.hid (by rw [S0.out]; simp [pM, moR])
            have E1 : Hid (cn (pM 1) (L.take (k + 1)) = c1) := Lib.hid (by rw [S1.out]; simp [pM, moR])
            have E2 : Hid (cn (pM 2) (L.take (k + 1)) = c2) := Lib.hid (by rw [S2.out]; simp [pM, moR])
            have E3 : Hid (cn (pM 3) (L.take (k + 1)) = c3) := Lib.hid (by rw [S3.out]; simp [pM, moR])
            have E4 : Hid (cn (pM 4) (L.take (k + 1)) = c4) := Lib.hid (by rw [S4.out]; simp [pM, moR])
            have E5 : Hid (cn (pM 5) (L.take (k + 1)) = c5 + 1) := Lib.hid (by rw [S5.out]; simp [pM, moR])
            have E6 : Hid (cn (pM 6) (L.take (k + 1)) = c6) := Lib.hid (by rw [S6.out]; simp [pM, moR])
            clear S0 S1 S2 S3 S4 S5 S6
            have hR2 := (Keep.set (wr.alloc (.cells #[.int .i64 2, .int .i64 tx, .int .i64 n0, .int .i64 n1, .int .i64 n2, .int .i64 n3, .int .i64 dp, .int .i64 5, .int .i64 va, .slice ra rl rc, .int .i64 er] 68)) (w.heap.size + 1) 5 (.int .i64 (c5 + 1)) (fun i => i = w.heap.size + 1) rfl).bk hRa hRT
            have hT2 : Bk ((wr.alloc (.cells #[.int .i64 2, .int .i64 tx, .int .i64 n0, .int .i64 n1, .int .i64 n2, .int .i64 n3, .int .i64 dp, .int .i64 5, .int .i64 va, .slice ra rl rc, .int .i64 er] 68)).setCell ⟨w.heap.size + 1, 5, none⟩ (.int .i64 (c5 + 1))) (w.heap.size + 1) 42 #[.int .i64 (c0), .int .i64 (c1), .int .i64 (c2), .int .i64 (c3), .int .i64 (c4), .int .i64 (c5 + 1), .int .i64 (c6)] := hTa.set 5 _
            have HB2 : Below w.heap.size w ((wr.alloc (.cells #[.int .i64 2, .int .i64 tx, .int .i64 n0, .int .i64 n1, .int .i64 n2, .int .i64 n3, .int .i64 dp, .int .i64 5, .int .i64 va, .slice ra rl rc, .int .i64 er] 68)).setCell ⟨w.heap.size + 1, 5, none⟩ (.int .i64 (c5 + 1))) := HBa.setCell (p := ⟨w.heap.size + 1, 5, none⟩) hT1 _
            have q0 := hE.cell 0
            have q7 := hE.cell 7
            have q1 := hTa.cell 5
            have q2 := hTa.frozen 5
            clear hTa hRa HBa hE
            go_wp2_with fail
            refine (may_any _ _).mono ?_
            rintro e _ ⟨rfl, rfl⟩
            rw [show mayB 5 = true from rfl]
            go_wp2
            go_roundw
            case rel => exact ⟨k + 1, by omega, by go_num, by rw [E0.out, E1.out, E2.out, E3.out, E4.out, E5.out, E6.out]; exact hT2, hR2, HB2⟩
            case measure => simp [intOf]; omega
          · have E0 : Hid (cn (pM 0) (L.take (k + 1)) = c0) := Lib.hid (by rw [S0.out]; simp [pM, moR])
            have E1 : Hid (cn (pM 1) (L.take (k + 1)) = c1) := Lib.hid (by rw [S1.out]; simp [pM, moR])
            have E2 : Hid (cn (pM 2) (L.take (k + 1)) = c2) := Lib.hid (by rw [S2.out]; simp [pM, moR])
            have E3 : Hid (cn (pM 3) (L.take (k + 1)) = c3) := Lib.hid (by rw [S3.out]; simp [pM, moR])
            have E4 : Hid (cn (pM 4) (L.take (k + 1)) = c4) := Lib.hid (by rw [S4.out]; simp [pM, moR])
            have E5 : Hid (cn (pM 5) (L.take (k + 1)) = c5) := Lib.hid (by rw [S5.out]; simp [pM, moR])
            have E6 : Hid (cn (pM 6) (L.take (k + 1)) = c6 + 1) := Lib.hid (by rw [S6.out]; simp [pM, moR])
            clear S0 S1 S2 S3 S4 S5 S6
            have hR2 := (Keep.set (wr.alloc (.cells #[.int .i64 2, .int .i64 tx, .int .i64 n0, .int .i64 n1, .int .i64 n2, .int .i64 n3, .int .i64 dp, .int .i64 6, .int .i64 va, .slice ra rl rc, .int .i64 er] 68)) (w.heap.size + 1) 6 (.int .i64 (c6 + 1)) (fun i => i = w.heap.size + 1) rfl).bk hRa hRT
            have hT2 : Bk ((wr.alloc (.cells #[.int .i64 2, .int .i64 tx, .int .i64 n0, .int .i64 n1, .int .i64 n2, .int .i64 n3, .int .i64 dp, .int .i64 6, .int .i64 va, .slice ra rl rc, .int .i64 er] 68)).setCell ⟨w.heap.size + 1, 6, none⟩ (.int .i64 (c6 + 1))) (w.heap.size + 1) 42 #[.int .i64 (c0), .int .i64 (c1), .int .i64 (c2), .int .i64 (c3), .int .i64 (c4), .int .i64 (c5), .int .i64 (c6 + 1)] := hTa.set 6 _
            have HB2 : Below w.heap.size w ((wr.alloc (.cells #[.int .i64 2, .int .i64 tx, .int .i64 n0, .int .i64 n1, .int .i64 n2, .int .i64 n3, .int .i64 dp, .int .i64 6, .int .i64 va, .slice ra rl rc, .int .i64 er] 68)).setCell ⟨w.heap.size + 1, 6, none⟩ (.int .i64 (c6 + 1))) := HBa.setCell (p := ⟨w.heap.size + 1, 6, none⟩) hT1 _
            have q0 := hE.cell 0
            have q7 := hE.cell 7
            have q1 := hTa.cell 6
            have q2 := hTa.frozen 6
            clear hTa hRa HBa hE
            go_wp2_with fail
            refine (may_any _ _).mono ?_
            rintro e _ ⟨rfl, rfl⟩
            rw [show mayB 6 = true from rfl]
            go_wp2
            go_roundw
            case rel => exact ⟨k + 1, by omega, by go_num, by rw [E0.out, E1.out, E2.out, E3.out, E4.out, E5.out, E6.out]; exact hT2, hR2, HB2⟩
            case measure => simp [intOf]; omega
          · have E0 : Hid (cn (pM 0) (L.take (k + 1)) = c0 + 1) := Lib.hid (by rw [S0.out]; simp [pM, hmo.out])
            have E1 : Hid (cn (pM 1) (L.take (k + 1)) = c1) := Lib.hid (by rw [S1.out]; simp [pM, hmo.out])
            have E2 : Hid (cn (pM 2) (L.take (k + 1)) = c2) := Lib.hid (by rw [S2.out]; simp [pM, hmo.out])
            have E3 : Hid (cn (pM 3) (L.take (k + 1)) = c3) := Lib.hid (by rw [S3.out]; simp [pM, hmo.out])
            have E4 : Hid (cn (pM 4) (L.take (k + 1)) = c4) := Lib.hid (by rw [S4.out]; simp [pM, hmo.out])
            have E5 : Hid (cn (pM 5) (L.take (k + 1)) = c5) := Lib.hid (by rw [S5.out]; simp [pM, hmo.out])
            have E6 : Hid (cn (pM 6) (L.take (k + 1)) = c6) := Lib.hid (by rw [S6.out]; simp [pM, hmo.out])
            clear S0 S1 S2 S3 S4 S5 S6
            have hR2 := (Keep.set (wr.alloc (.cells #[.int .i64 2, .int .i64 tx, .int .i64 n0, .int .i64 n1, .int .i64 n2, .int .i64 n3, .int .i64 dp, .int .i64 mo, .int .i64 va, .slice ra rl rc, .int .i64 er] 68)) (w.heap.size + 1) 0 (.int .i64 (c0 + 1)) (fun i => i = w.heap.size + 1) rfl).bk hRa hRT
            have hT2 : Bk ((wr.alloc (.cells #[.int .i64 2, .int .i64 tx, .int .i64 n0, .int .i64 n1, .int .i64 n2, .int .i64 n3, .int .i64 dp, .int .i64 mo, .int .i64 va, .slice ra rl rc, .int .i64 er] 68)).setCell ⟨w.heap.size + 1, 0, none⟩ (.int .i64 (c0 + 1))) (w.heap.size + 1) 42 #[.int .i64 (c0 + 1), .int .i64 (c1), .int .i64 (c2), .int .i64 (c3), .int .i64 (c4), .int .i64 (c5), .int .i64 (c6)] := hTa.set 0 _
            have HB2 : Below w.heap.size w ((wr.alloc (.cells #[.int .i64 2, .int .i64 tx, .int .i64 n0, .int .i64 n1, .int .i64 n2, .int .i64 n3, .int .i64 dp, .int .i64 mo, .int .i64 va, .slice ra rl rc, .int .i64 er] 68)).setCell ⟨w.heap.size + 1, 0, none⟩ (.int .i64 (c0 + 1))) := HBa.setCell (p := ⟨w.heap.size + 1, 0, none⟩) hT1 _
            have q0 := hE.cell 0
            have q7 := hE.cell 7
            have q1 := hTa.cell 0
            have q2 := hTa.frozen 0
            clear hTa hRa HBa hE
            go_wp2_with fail
            refine (may_any _ _).mono ?_
            rintro e _ ⟨rfl, rfl⟩
            rw [hmay.out]
            go_wp2
            go_roundw
            case rel => exact ⟨k + 1, by omega, by go_num, by rw [E0.out, E1.out, E2.out, E3.out, E4.out, E5.out, E6.out]; exact hT2, hR2, HB2⟩
            case measure => simp [intOf]; omega
        · rcases hmo with rfl | rfl | rfl | rfl | rfl | rfl | rfl | ⟨hmay, hmo⟩
          · have E0 : Hid (cn (pM 0) (L.take (k + 1)) = c0 + 1) := Lib.hid (by rw [S0.out]; simp [pM, moR])
            have E1 : Hid (cn (pM 1) (L.take (k + 1)) = c1) := Lib.hid (by rw [S1.out]; simp [pM, moR])
            have E2 : Hid (cn (pM 2) (L.take (k + 1)) = c2) := Lib.hid (by rw [S2.out]; simp [pM, moR])
            have E3 : Hid (cn (pM 3) (L.take (k + 1)) = c3) := Lib.hid (by rw [S3.out]; simp [pM, moR])
            have E4 : Hid (cn (pM 4) (L.take (k + 1)) = c4) := Lib.hid (by rw [S4.out]; simp [pM, moR])
            have E5 : Hid (cn (pM 5) (L.take (k + 1)) = c5) := Lib.hid (by rw [S5.out]; simp [pM, moR])
            have E6 : Hid (cn (pM 6) (L.take (k + 1)) = c6) := Lib.hid (by rw [S6.out]; simp [pM, moR])
            clear S0 S1 S2 S3 S4 S5 S6
            have hR2 := (Keep.set (wr.alloc (.cells #[.int .i64 3, .int .i64 tx, .int .i64 n0, .int .i64 n1, .int .i64 n2, .int .i64 n3, .int .i64 dp, .int .i64 0, .int .i64 va, .slice ra rl rc, .int .i64 er] 68)) (w.heap.size + 1) 0 (.int .i64 (c0 + 1)) (fun i => i = w.heap.size + 1) rfl).bk hRa hRT
            have hT2 : Bk ((wr.alloc (.cells #[.int .i64 3, .int .i64 tx, .int .i64 n0, .int .i64 n1, .int .i64 n2, .int .i64 n3, .int .i64 dp, .int .i64 0, .int .i64 va, .slice ra rl rc, .int .i64 er] 68)).setCell ⟨w.heap.size + 1, 0, none⟩ (.int .i64 (c0 + 1))) (w.heap.size + 1) 42 #[.int .i64 (c0 + 1), .int .i64 (c1), .int .i64 (c2), .int .i64 (c3), .int .i64 (c4), .int .i64 (c5), .int .i64 (c6)] := hTa.set 0 _
            have HB2 : Below w.heap.size w ((wr.alloc (.cells #[.int .i64 3, .int .i64 tx, .int .i64 n0, .int .i64 n1, .int .i64 n2, .int .i64 n3, .int .i64 dp, .int .i64 0, .int .i64 va, .slice ra rl rc, .int .i64 er] 68)).setCell ⟨w.heap.size + 1, 0, none⟩ (.int .i64 (c0 + 1))) := HBa.setCell (p := ⟨w.heap.size + 1, 0, none⟩) hT1 _
            have q0 := hE.cell 0
            have q7 := hE.cell 7
            have q1 := hTa.cell 0
            have q2 := hTa.frozen 0
            clear hTa hRa HBa hE
            go_wp2_with fail
            refine (may_any _ _).mono ?_
            rintro e _ ⟨rfl, rfl⟩
            rw [show mayB 0 = true from rfl]
            go_wp2
            go_roundw
            case rel => exact ⟨k + 1, by omega, by go_num, by rw [E0.out, E1.out, E2.out, E3.out, E4.out, E5.out, E6.out]; exact hT2, hR2, HB2⟩
            case measure => simp [intOf]; omega
          · have E0 : Hid (cn (pM 0) (L.take (k + 1)) = c0) := Lib.hid (by rw [S0.out]; simp [pM, moR])
            have E1 : Hid (cn (pM 1) (L.take (k + 1)) = c1 + 1) := Lib.hid (by rw [S1.out]; simp [pM, moR])
            have E2 : Hid (cn (pM 2) (L.take (k + 1)) = c2) := Lib.hid (by rw [S2.out]; simp [pM, moR])
            have E3 : Hid (cn (pM 3) (L.take (k + 1)) = c3) := Lib.hid (by rw [S3.out]; simp [pM, moR])
            have E4 : Hid (cn (pM 4) (L.take (k + 1)) = c4) := Lib.hid (by rw [S4.out]; simp [pM, moR])
            have E5 : Hid (cn (pM 5) (L.take (k + 1)) = c5) := Lib.hid (by rw [S5.out]; simp [pM, moR])
            have E6 : Hid (cn (pM 6) (L.take (k + 1)) = c6) := Lib.hid (by rw [S6.out]; simp [pM, moR])
            clear S0 S1 S2 S3 S4 S5 S6
            have hR2 := (Keep.set (wr.alloc (.cells #[.int .i64 3, .int .i64 tx, .int .i64 n0, .int .i64 n1, .int .i64 n2, .int .i64 n3, .int .i64 dp, .int .i64 1, .int .i64 va, .slice ra rl rc, .int .i64 er] 68)) (w.heap.size + 1) 1 (.int .i64 (c1 + 1)) (fun i => i = w.heap.size + 1) rfl).bk hRa hRT
            have hT2 : Bk ((wr.alloc (.cells #[.int .i64 3, .int .i64 tx, .int .i64 n0, .int .i64 n1, .int .i64 n2, .int .i64 n3, .int .i64 dp, .int .i64 1, .int .i64 va, .slice ra rl rc, .int .i64 er] 68)).setCell ⟨w.heap.size + 1, 1, none⟩ (.int .i64 (c1 + 1))) (w.heap.size + 1) 42 #[.int .i64 (c0), .int .i64 (c1 + 1), .int .i64 (c2), .int .i64 (c3), .int .i64 (c4), .int .i64 (c5), .int .i64 (c6)] := hTa.set 1 _
            have HB2 : Below w.heap.size w ((wr.alloc (.cells #[.int .i64 3, .int .i64 tx, .int .i64 n0, .int .i64 n1, .int .i64 n2, .int .i64 n3, .int .i64 dp, .int .i64 1, .int .i64 va, .slice ra rl rc, .int .i64 er] 68)).setCell ⟨w.heap.size + 1, 1, none⟩ (.int .i64 (c1 + 1))) := HBa.setCell (p := ⟨w.heap.size + 1, 1, none⟩) hT1 _
            have q0 := hE.cell 0
            have q7 := hE.cell 7
            have q1 := hTa.cell 1
            have q2 := hTa.frozen 1
            clear hTa hRa HBa hE
            go_wp2_with fail
            refine (may_any _ _).mono ?_
            rintro e _ ⟨rfl, rfl⟩
            rw [show mayB 1 = true from rfl]
            go_wp2
            go_roundw
            case rel => exact ⟨k + 1, by omega, by go_num, by rw [E0.out, E1.out, E2.out, E3.out, E4.out, E5.out, E6.out]; exact hT2, hR2, HB2⟩
            case measure => simp [intOf]; omega
          · have E0 : Hid (cn (pM 0) (L.take (k + 1)) = c0) := Lib.hid (by rw [S0.out]; simp [pM, moR])
            have E1 : Hid (cn (pM 1) (L.take (k + 1)) = c1) := Lib.hid (by rw [S1.out]; simp [pM, moR])
            have E2 : Hid (cn (pM 2) (L.take (k + 1)) = c2 + 1) := Lib.hid (by rw [S2.out]; simp [pM, moR])
            have E3 : Hid (cn (pM 3) (L.take (k + 1)) = c3) := Lib.hid (by rw [S3.out]; simp [pM, moR])
            have E4 : Hid (cn (pM 4) (L.take (k + 1)) = c4) := Lib.hid (by rw [S4.out]; simp [pM, moR])
            have E5 : Hid (cn (pM 5) (L.take (k + 1)) = c5) := Lib.hid (by rw [S5.out]; simp [pM, moR])
            have E6 : Hid (cn (pM 6) (L.take (k + 1)) = c6) := Lib.hid (by rw [S6.out]; simp [pM, moR])
            clear S0 S1 S2 S3 S4 S5 S6
            have hR2 := (Keep.set (wr.alloc (.cells #[.int .i64 3, .int .i64 tx, .int .i64 n0, .int .i64 n1, .int .i64 n2, .int .i64 n3, .int .i64 dp, .int .i64 2, .int .i64 va, .slice ra rl rc, .int .i64 er] 68)) (w.heap.size + 1) 2 (.int .i64 (c2 + 1)) (fun i => i = w.heap.size + 1) rfl).bk hRa hRT
            have hT2 : Bk ((wr.alloc (.cells #[.int .i64 3, .int .i64 tx, .int .i64 n0, .int .i64 n1, .int .i64 n2, .int .i64 n3, .int .i64 dp, .int .i64 2, .int .i64 va, .slice ra rl rc, .int .i64 er] 68)).setCell ⟨w.heap.size + 1, 2, none⟩ (.int .i64 (c2 + 1))) (w.heap.size + 1) 42 #[.int .i64 (c0), .int .i64 (c1), .int .i64 (c2 + 1), .int .i64 (c3), .int .i64 (c4), .int .i64 (c5), .int .i64 (c6)] := hTa.set 2 _
            have HB2 : Below w.heap.size w ((wr.alloc (.cells #[.int .i64 3, .int .i64 tx, .int .i64 n0, .int .i64 n1, .int .i64 n2, .int .i64 n3, .int .i64 dp, .int .i64 2, .int .i64 va, .slice ra rl rc, .int .i64 er] 68)).setCell ⟨w.heap.size + 1, 2, none⟩ (.int .i64 (c2 + 1))) := HBa.setCell (p := ⟨w.heap.size + 1, 2, none⟩) hT1 _
            have q0 := hE.cell 0
            have q7 := hE.cell 7
            have q1 := hTa.cell 2
            have q2 := hTa.frozen 2
            clear hTa hRa HBa hE
            go_wp2_with fail
            refine (may_any _ _).mono ?_
            rintro e _ ⟨rfl, rfl⟩
            rw [show mayB 2 = true from rfl]
            go_wp2
            go_roundw
            case rel => exact ⟨k + 1, by omega, by go_num, by rw [E0.out, E1.out, E2.out, E3.out, E4.out, E5.out, E6.out]; exact hT2, hR2, HB2⟩
            case measure => simp [intOf]; omega
          · have E0 : Hid (cn (pM 0) (L.take (k + 1)) = c0) := Lib.hid (by rw [S0.out]; simp [pM, moR])
            have E1 : Hid (cn (pM 1) (L.take (k + 1)) = c1) := Lib.hid (by rw [S1.out]; simp [pM, moR])
            have E2 : Hid (cn (pM 2) (L.take (k + 1)) = c2) := Lib.hid (by rw [S2.out]; simp [pM, moR])
            have E3 : Hid (cn (pM 3) (L.take (k + 1)) = c3 + 1) := Lib.hid (by rw [S3.out]; simp [pM, moR])
            have E4 : Hid (cn (pM 4) (L.take (k + 1)) = c4) := Lib.hid (by rw [S4.out]; simp [pM, moR])
            have E5 : Hid (cn (pM 5) (L.take (k + 1)) = c5) := Lib.hid (by rw [S5.out]; simp [pM, moR])
            have E6 : Hid (cn (pM 6) (L.take (k + 1)) = c6) := Lib.hid (by rw [S6.out]; simp [pM, moR])
            clear S0 S1 S2 S3 S4 S5 S6
            have hR2 := (Keep.set (wr.alloc (.cells #[.int .i64 3, .int .i64 tx, .int .i64 n0, .int .i64 n1, .int .i64 n2, .int .i64 n3, .int .i64 dp, .int .i64 3, .int .i64 va, .slice ra rl rc, .int .i64 er] 68)) (w.heap.size + 1) 3 (.int .i64 (c3 + 1)) (fun i => i = w.heap.size + 1) rfl).bk hRa hRT
            have hT2 : Bk ((wr.alloc (.cells #[.int .i64 3, .int .i64 tx, .int .i64 n0, .int .i64 n1, .int .i64 n2, .int .i64 n3, .int .i64 dp, .int .i64 3, .int .i64 va, .slice ra rl rc, .int .i64 er] 68)).setCell ⟨w.heap.size + 1, 3, none⟩ (.int .i64 (c3 + 1))) (w.heap.size + 1) 42 #[.int .i64 (c0), .int .i64 (c1), .int .i64 (c2), .int .i64 (c3 + 1), .int .i64 (c4), .int .i64 (c5), .int .i64 (c6)] := hTa.set 3 _
            have HB2 : Below w.heap.size w ((wr.alloc (.cells #[.int .i64 3, .int .i64 tx, .int .i64 n0, .int .i64 n1, .int .i64 n2, .int .i64 n3, .int .i64 dp, .int .i64 3, .int .i64 va, .slice ra rl rc, .int .i64 er] 68)).setCell ⟨w.heap.size + 1, 3, none⟩ (.int .i64 (c3 + 1))) := HBa.setCell (p := ⟨w.heap.size + 1, 3, none⟩) hT1 _
            have q0 := hE.cell 0
            have q7 := hE.cell 7
            have q1 := hTa.cell 3
            have q2 := hTa.frozen 3
            clear hTa hRa HBa hE
            go_wp2_with fail
            refine (may_any _ _).mono ?_
            rintro e _ ⟨rfl, rfl⟩
            rw [show mayB 3 = true from rfl]
            go_wp2
            go_roundw
            case rel => exact ⟨k + 1, by omega, by go_num, by rw [E0.out, E1.out, E2.out, E3.out, E4.out, E5.out, E6.out]; exact hT2, hR2, HB2⟩
            case measure => simp [intOf]; omega
          · have E0 : Hid (cn (pM 0) (L.take (k + 1)) = c0) := Lib.hid (by rw [S0.out]; simp [pM, moR])
            have E1 : Hid (cn (pM 1) (L.take (k + 1)) = c1) := Lib.hid (by rw [S1.out]; simp [pM, moR])
            have E2 : Hid (cn (pM 2) (L.take (k + 1)) = c2) := Lib.hid (by rw [S2.out]; simp [pM, moR])
            have E3 : Hid (cn (pM 3) (L.take (k + 1)) = c3) := Lib.hid (by rw [S3.out]; simp [pM, moR])
            have E4 : Hid (cn (pM 4) (L.take (k + 1)) = c4 + 1) := Lib.hid (by rw [S4.out]; simp [pM, moR])
            have E5 : Hid (cn (pM 5) (L.take (k + 1)) = c5) := Lib.hid (by rw [S5.out]; simp [pM, moR])
            have E6 : Hid (cn (pM 6) (L.take (k + 1)) = c6) := Lib.hid (by rw [S6.out]; simp [pM, moR])
            clear S0 S1 S2 S3 S4 S5 S6
            have hR2 := (Keep.set (wr.alloc (.cells #[.int .i64 3, .int .i64 tx, .int .i64 n0, .int .i64 n1, .int .i64 n2, .int .i64 n3, .int .i64 dp, .int .i64 4, .int .i64 va, .slice ra rl rc, .int .i64 er] 68)) (w.heap.size + 1) 4 (.int .i64 (c4 + 1)) (fun i => i = w.heap.size + 1) rfl).bk hRa hRT
            have hT2 : Bk ((wr.alloc (.cells #[.int .i64 3, .int .i64 tx, .int .i64 n0, .int .i64 n1, .int .i64 n2, .int .i64 n3, .int .i64 dp, .int .i64 4, .int .i64 va, .slice ra rl rc, .int .i64 er] 68)).setCell ⟨w.heap.size + 1, 4, none⟩ (.int .i64 (c4 + 1))) (w.heap.size + 1) 42 #[.int .i64 (c0), .int .i64 (c1), .int .i64 (c2), .int .i64 (c3), .int .i64 (c4 + 1), .int .i64 (c5), .int .i64 (c6)] := hTa.set 4 _
            have HB2 : Below w.heap.size w ((wr.alloc (.cells #[.int .i64 3, .int .i64 tx, .int .i64 n0, .int .i64 n1, .int .i64 n2, .int .i64 n3, .int .i64 dp, .int .i64 4, .int .i64 va, .slice ra rl rc, .int .i64 er] 68)).setCell ⟨w.heap.size + 1, 4, none⟩ (.int .i64 (c4 + 1))) := HBa.setCell (p := ⟨w.heap.size + 1, 4, none⟩) hT1 _
            have q0 := hE.cell 0
            have q7 := hE.cell 7
            have q1 := hTa.cell 4
            have q2 := hTa.frozen 4
            clear hTa hRa HBa hE
            go_wp2_with fail
            refine (may_any _ _).mono ?_
            rintro e _ ⟨rfl, rfl⟩
            rw [show mayB 4 = true from rfl]
            go_wp2
            go_roundw
            case rel => exact ⟨k + 1, by omega, by go_num, by rw [E0.out, E1.out, E2.out, E3.out, E4.out, E5.out, E6.out]; exact hT2, hR2, HB2⟩
            case measure => simp [intOf]; omega
          · have E0 : Hid (cn (pM 0) (L.take (k + 1)) = c0) := Lib.hid (by rw [S0.out]; simp [pM, moR])
            have E1 : Hid (cn (pM 1) (L.take (k + 1)) = c1) := Lib.hid (by rw [S1.out]; simp [pM, moR])
            have E2 : Hid (cn (pM 2) (L.take (k + 1)) = c2) := Lib.hid (by rw [S2.out]; simp [pM, moR])
            have E3 : Hid (cn (pM 3) (L.take (k + 1)) = c3) := Lib.hid (by rw [S3.out]; simp [pM, moR])
            have E4 : Hid (cn (pM 4) (L.take (k + 1)) = c4) := Lib.hid (by rw [S4.out]; simp [pM, moR])
            have E5 : Hid (cn (pM 5) (L.take (k + 1)) = c5 + 1) := Lib.hid (by rw [S5.out]; simp [pM, moR])
            have E6 : Hid (cn (pM 6) (L.take (k + 1)) = c6) := Lib.hid (by rw [S6.out]; simp [pM, moR])
            clear S0 S1 S2 S3 S4 S5 S6
            have hR2 := (Keep.set (wr.alloc (.cells #[.int .i64 3, .int .i64 tx, .int .i64 n0, .int .i64 n1, .int .i64 n2, .int .i64 n3, .int .i64 dp, .int .i64 5, .int .i64 va, .slice ra rl rc, .int .i64 er] 68)) (w.heap.size + 1) 5 (.int .i64 (c5 + 1)) (fun i => i = w.heap.size + 1) rfl).bk hRa hRT
            have hT2 : Bk ((wr.alloc (.cells #[.int .i64 3, .int .i64 tx, .int .i64 n0, .int .i64 n1, .int .i64 n2, .int .i64 n3, .int .i64 dp, .int .i64 5, .int .i64 va, .slice ra rl rc, .int .i64 er] 68)).setCell ⟨w.heap.size + 1, 5, none⟩ (.int .i64 (c5 + 1))) (w.heap.size + 1) 42 #[.int .i64 (c0), .int .i64 (c1), .int .i64 (c2), .int .i64 (c3), .int .i64 (c4), .int .i64 (c5 + 1), .int .i64 (c6)] := hTa.set 5 _
            have HB2 : Below w.heap.size w ((wr.alloc (.cells #[.int .i64 3, .int .i64 tx, .int .i64 n0, .int .i64 n1, .int .i64 n2, .int .i64 n3, .int .i64 dp, .int .i64 5, .int .i64 va, .slice ra rl rc, .int .i64 er] 68)).setCell ⟨w.heap.size + 1, 5, none⟩ (.int .i64 (c5 + 1))) := HBa.setCell (p := ⟨w.heap.size + 1, 5, none⟩) hT1 _
            have q0 := hE.cell 0
            have q7 := hE.cell 7
            have q1 := hTa.cell 5
            have q2 := hTa.frozen 5
            clear hTa hRa HBa hE
            go_wp2_with fail
            refine (may_any _ _).mono ?_
            rintro e _ ⟨rfl, rfl⟩
            rw [show mayB 5 = true from rfl]
            go_wp2
            go_roundw
            case rel => exact ⟨k + 1, by omega, by go_num, by rw [E0.out, E1.out, E2.out, E3.out, E4.out, E5.out, E6.out]; exact hT2, hR2, HB2⟩
            case measure => simp [intOf]; omega
          · have E0 : Hid (cn (pM 0) (L.take (k + 1)) = c0) := Lib.hid (by rw [S0.out]; simp [pM, moR])
            have E1 : Hid (cn (pM 1) (L.take (k + 1)) = c1) := Lib.hid (by rw [S1.out]; simp [pM, moR])
            have E2 : Hid (cn (pM 2) (L.take (k + 1)) = c2) := Lib.hid (by rw [S2.out]; simp [pM, moR])
            have E3 : Hid (cn (pM 3) (L.take (k + 1)) = c3) := Lib.hid (by rw [S3.out]; simp [pM, moR])
            have E4 : Hid (cn (pM 4) (L.take (k + 1)) = c4) := Lib.hid (by rw [S4.out]; simp [pM, moR])
            have E5 : Hid (cn (pM 5) (L.take (k + 1)) = c5) := Lib.hid (by rw [S5.out]; simp [pM, moR])
            have E6 : Hid (cn (pM 6) (L.take (k + 1)) = c6 + 1) := Lib.hid (by rw [S6.out]; simp [pM, moR])
            clear S0 S1 S2 S3 S4 S5 S6
            have hR2 := (Keep.set (wr.alloc (.cells #[.int .i64 3, .int .i64 tx, .int .i64 n0, .int .i64 n1, .int .i64 n2, .int .i64 n3, .int .i64 dp, .int .i64 6, .int .i64 va, .slice ra rl rc, .int .i64 er] 68)) (w.heap.size + 1) 6 (.int .i64 (c6 + 1)) (fun i => i = w.heap.size + 1) rfl).bk hRa hRT
            have hT2 : Bk ((wr.alloc (.cells #[.int .i64 3, .int .i64 tx, .int .i64 n0, .int .i64 n1, .int .i64 n2, .int .i64 n3, .int .i64 dp, .int .i64 6, .int .i64 va, .slice ra rl rc, .int .i64 er] 68)).setCell ⟨w.heap.size + 1, 6, none⟩ (.int .i64 (c6 + 1))) (w.heap.size + 1) 42 #[.int .i64 (c0), .int .i64 (c1), .int .i64 (c2), .int .i64 (c3), .int .i64 (c4), .int .i64 (c5), .int .i64 (c6 + 1)] := hTa.set 6 _
            have HB2 : Below w.heap.size w ((wr.alloc (.cells #[.int .i64 3, .int .i64 tx, .int .i64 n0, .int .i64 n1, .int .i64 n2, .int .i64 n3, .int .i64 dp, .int .i64 6, .int .i64 va, .slice ra rl rc, .int .i64 er] 68)).setCell ⟨w.heap.size + 1, 6, none⟩ (.int .i64 (c6 + 1))) := HBa.setCell (p := ⟨w.heap.size + 1, 6, none⟩) hT1 _
            have q0 := hE.cell 0
            have q7 := hE.cell 7
            have q1 := hTa.cell 6
            have q2 := hTa.frozen 6
            clear hTa hRa HBa hE
            go_wp2_with fail
            refine (may_any _ _).mono ?_
            rintro e _ ⟨rfl, rfl⟩
            rw [show mayB 6 = true from rfl]
            go_wp2
            go_roundw
            case rel => exact ⟨k + 1, by omega, by go_num, by rw [E0.out, E1.out, E2.out, E3.out, E4.out, E5.out, E6.out]; exact hT2, hR2, HB2⟩
            case measure => simp [intOf]; omega
          · have E0 : Hid (cn (pM 0) (L.take (k + 1)) = c0 + 1) := Lib.hid (by rw [S0.out]; simp [pM, hmo.out])
            have E1 : Hid (cn (pM 1) (L.take (k + 1)) = c1) := Lib.hid (by rw [S1.out]; simp [pM, hmo.out])
            have E2 : Hid (cn (pM 2) (L.take (k + 1)) = c2) := Lib.hid (by rw [S2.out]; simp [pM, hmo.out])
            have E3 : Hid (cn (pM 3) (L.take (k + 1)) = c3) := Lib.hid (by rw [S3.out]; simp [pM, hmo.out])
            have E4 : Hid (cn (pM 4) (L.take (k + 1)) = c4) := Lib.hid (by rw [S4.out]; simp [pM, hmo.out])
            have E5 : Hid (cn (pM 5) (L.take (k + 1)) = c5) := Lib.hid (by rw [S5.out]; simp [pM, hmo.out])
            have E6 : Hid (cn (pM 6) (L.take (k + 1)) = c6) := Lib.hid (by rw [S6.out]; simp [pM, hmo.out])
            clear S0 S1 S2 S3 S4 S5 S6
            have hR2 := (Keep.set (wr.alloc (.cells #[.int .i64 3, .int .i64 tx, .int .i64 n0, .int .i64 n1, .int .i64 n2, .int .i64 n3, .int .i64 dp, .int .i64 mo, .int .i64 va, .slice ra rl rc, .int .i64 er] 68)) (w.heap.size + 1) 0 (.int .i64 (c0 + 1)) (fun i => i = w.heap.size + 1) rfl).bk hRa hRT
            have hT2 : Bk ((wr.alloc (.cells #[.int .i64 3, .int .i64 tx, .int .i64 n0, .int .i64 n1, .int .i64 n2, .int .i64 n3, .int .i64 dp, .int .i64 mo, .int .i64 va, .slice ra rl rc, .int .i64 er] 68)).setCell ⟨w.heap.size + 1, 0, none⟩ (.int .i64 (c0 + 1))) (w.heap.size + 1) 42 #[.int .i64 (c0 + 1), .int .i64 (c1), .int .i64 (c2), .int .i64 (c3), .int .i64 (c4), .int .i64 (c5), .int .i64 (c6)] := hTa.set 0 _
            have HB2 : Below w.heap.size w ((wr.alloc (.cells #[.int .i64 3, .int .i64 tx, .int .i64 n0, .int .i64 n1, .int .i64 n2, .int .i64 n3, .int .i64 dp, .int .i64 mo, .int .i64 va, .slice ra rl rc, .int .i64 er] 68)).setCell ⟨w.heap.size + 1, 0, none⟩ (.int .i64 (c0 + 1))) := HBa.setCell (p := ⟨w.heap.size + 1, 0, none⟩) hT1 _
            have q0 := hE.cell 0
            have q7 := hE.cell 7
            have q1 := hTa.cell 0
            have q2 := hTa.frozen 0
            clear hTa hRa HBa hE
            go_wp2_with fail
            refine (may_any _ _).mono ?_
            rintro e _ ⟨rfl, rfl⟩
            rw [hmay.out]
            go_wp2
            go_roundw
            case rel => exact ⟨k + 1, by omega, by go_num, by rw [E0.out, E1.out, E2.out, E3.out, E4.out, E5.out, E6.out]; exact hT2, hR2, HB2⟩
            case measure => simp [intOf]; omega
      · have g2 : (kd == 2) = false := beq_eq_false_iff_ne.2 (fun h => hk23 (.inl h))
        have g3 : (kd == 3) = false := beq_eq_false_iff_ne.2 (fun h => hk23 (.inr h))
        have E0 : Hid (cn (pM 0) (L.take (k + 1)) = c0) := Lib.hid (by rw [S0.out]; simp [pM, g2, g3])
        have E1 : Hid (cn (pM 1) (L.take (k + 1)) = c1) := Lib.hid (by rw [S1.out]; simp [pM, g2, g3])
        have E2 : Hid (cn (pM 2) (L.take (k + 1)) = c2) := Lib.hid (by rw [S2.out]; simp [pM, g2, g3])
        have E3 : Hid (cn (pM 3) (L.take (k + 1)) = c3) := Lib.hid (by rw [S3.out]; simp [pM, g2, g3])
        have E4 : Hid (cn (pM 4) (L.take (k + 1)) = c4) := Lib.hid (by rw [S4.out]; simp [pM, g2, g3])
        have E5 : Hid (cn (pM 5) (L.take (k + 1)) = c5) := Lib.hid (by rw [S5.out]; simp [pM, g2, g3])
        have E6 : Hid (cn (pM 6) (L.take (k + 1)) = c6) := Lib.hid (by rw [S6.out]; simp [pM, g2, g3])
        have b2 : (kd != 2) = true := by simp only [bne, g2, Bool.not_false]
        have b3 : (kd != 3) = true := by simp only [bne, g3, Bool.not_false]
        clear hk23 g2 g3 S0 S1 S2 S3 S4 S5 S6
        have q0 := hE.cell 0
        go_wp2
        go_roundw
        case rel => exact ⟨k + 1, by omega, by go_num, by rw [E0.out, E1.out, E2.out, E3.out, E4.out, E5.out, E6.out]; exact hTa, hRa, HBa⟩
        case measure => simp [intOf]; omega
    · obtain rfl : k = len := by omega
      rw [List.take_of_length_le (by rw [hll]; exact Nat.le_refl _)] at hTw
      have t0 := hTw.cell 0
      have u0 := hRw.cell 0
      have f0 := hRw.frozen 0
      have t1 := hTw.cell 1
      have u1 := hRw.cell 1
      have f1 := hRw.frozen 1
      have t2 := hTw.cell 2
      have u2 := hRw.cell 2
      have f2 := hRw.frozen 2
      have t3 := hTw.cell 3
      have u3 := hRw.cell 3
      have f3 := hRw.frozen 3
      have t4 := hTw.cell 4
      have u4 := hRw.cell 4
      have f4 := hRw.frozen 4
      have t5 := hTw.cell 5
      have u5 := hRw.cell 5
      have f5 := hRw.frozen 5
      have t6 := hTw.cell 6
      have u6 := hRw.cell 6
      have f6 := hRw.frozen 6
      clear hl
      go_wp2
      have hF : Bk (((((((wr.setCell ⟨w.heap.size, 0, none⟩ (.int .i64 (cn (pM 0) L))).setCell ⟨w.heap.size, 1, none⟩ (.int .i64 (cn (pM 1) L))).setCell ⟨w.heap.size, 2, none⟩ (.int .i64 (cn (pM 2) L))).setCell ⟨w.heap.size, 3, none⟩ (.int .i64 (cn (pM 3) L))).setCell ⟨w.heap.size, 4, none⟩ (.int .i64 (cn (pM 4) L))).setCell ⟨w.heap.size, 5, none⟩ (.int .i64 (cn (pM 5) L))).setCell ⟨w.heap.size, 6, none⟩ (.int .i64 (cn (pM 6) L))) w.heap.size 42 #[.int .i64 (cn (pM 0) L), .int .i64 (cn (pM 1) L), .int .i64 (cn (pM 2) L), .int .i64 (cn (pM 3) L), .int .i64 (cn (pM 4) L), .int .i64 (cn (pM 5) L), .int .i64 (cn (pM 6) L)] := (((((((hRw.set 0 _).set 1 _).set 2 _).set 3 _).set 4 _).set 5 _).set 6 _)
      have y0 := hF.cell 0
      have y1 := hF.cell 1
      have y2 := hF.cell 2
      have y3 := hF.cell 3
      have y4 := hF.cell 4
      have y5 := hF.cell 5
      have y6 := hF.cell 6
      exact bodyPost_ret (v := .agg #[.int .i64 (cn (pM 0) L), .int .i64 (cn (pM 1) L), .int .i64 (cn (pM 2) L), .int .i64 (cn (pM 3) L), .int .i64 (cn (pM 4) L), .int .i64 (cn (pM 5) L), .int .i64 (cn (pM 6) L)]) (by simp [results, Try.results27, go_sem, y0, y1, y2, y3, y4, y5, y6]) rfl ⟨rfl, (((((((HB.setCell (p := ⟨w.heap.size, 0, none⟩) (Nat.le_refl _) _).setCell (p := ⟨w.heap.size, 1, none⟩) (Nat.le_refl _) _).setCell (p := ⟨w.heap.size, 2, none⟩) (Nat.le_refl _) _).setCell (p := ⟨w.heap.size, 3, none⟩) (Nat.le_refl _) _).setCell (p := ⟨w.heap.size, 4, none⟩) (Nat.le_refl _) _).setCell (p := ⟨w.heap.size, 5, none⟩) (Nat.le_refl _) _).setCell (p := ⟨w.heap.size, 6, none⟩) (Nat.le_refl _) _)⟩
end Go.Proofs.Ytgpkidffhglngaa
