/- The statement MixBounds: its walk. No condition. -/
import Derived.Test.YtbdefhekkafihaaMixS
import Derived.Deep.RegionWith
import Derived.Deep.RegionHeld3
set_option linter.unusedVariables false
set_option linter.unusedSimpArgs false
namespace Go.Proofs.Ytbdefhekkafihaa
open Go.RowKit (wrap32 wrap64)
open Go.RowKit Go.Shelf
theorem takeD {P : Program} {md : Region.Mode} {ops : Array Oper} {Q : Exit → Act → World → Prop} {S : World → Prop} {i d : Nat} {oi : Oper} {v : Value} {fuel : Nat} {listed : Array Bool} {a : Act} {w : World} (hi : ops[i]? = some oi) (hd : oi.dst = some d)
    (hs : Region.noSelect ops = true) (hf : Region.free md ops listed i = true) (hr : (Region.ready md ops listed).contains i = true)
    (hQ : ∀ c a w, Q (.panic c) (a.put (some d) v) w → Q (.panic c) a w) (hy : YieldsIf P ops S oi v a) (hS : S w)
    (h : wpAnyH P md ops Q S fuel (listed.setIfInBounds i true) (a.put (some d) v) w) : wpAnyH P md ops Q S (fuel + 1) listed a w := by
  rw [← hd] at hQ h
  exact wpAnyH_take hi hs hf hr hQ hy hS h
abbrev rcA (cl tx op rw wq sc sd : Int) : Array Value := #[.int .i64 cl, .int .i64 tx, .int .i64 op, .int .i64 rw, .int .i64 wq, .int .i64 sc, .int .u64 sd]
theorem decRc (c : Array Value) (hl : c.size = 7) (h : PW [.int .i64, .int .i64, .int .i64, .int .i64, .int .i64, .int .i64, .int .u64] c.toList) : ∃ cl tx op rw wq sc sd : Int, c = rcA cl tx op rw wq sc sd ∧ okS sd := by
  obtain ⟨c⟩ := c
  match c, hl with
  | [v0, v1, v2, v3, v4, v5, v6], _ =>
    obtain ⟨n0, rfl, w0⟩ := h 0 _ v0 rfl rfl
    obtain ⟨n1, rfl, w1⟩ := h 1 _ v1 rfl rfl
    obtain ⟨n2, rfl, w2⟩ := h 2 _ v2 rfl rfl
    obtain ⟨n3, rfl, w3⟩ := h 3 _ v3 rfl rfl
    obtain ⟨n4, rfl, w4⟩ := h 4 _ v4 rfl rfl
    obtain ⟨n5, rfl, w5⟩ := h 5 _ v5 rfl rfl
    obtain ⟨n6, rfl, w6⟩ := h 6 _ v6 rfl rfl
    exact ⟨n0, n1, n2, n3, n4, n5, n6, rfl, wf_u64 w6⟩
set_option maxRecDepth 100000 in
set_option maxHeartbeats 16000000 in
theorem mixBounds_walk (cl tx op rw wq sc sd : Int) (hsd : okS sd) (w : World) : Calls Try.prog 4 #[.agg (rcA cl tx op rw wq sc sd)] w fun e w' => e = .returned (.bool true) ∧ Below w.heap.size w w' := by
  have hO : Below w.heap.size w (w.alloc (.cells (rcA cl tx op rw wq sc sd) 24)) := (Below.refl _ _).alloc (Nat.le_refl _) _
  have hR := Bk.new w 24 (rcA cl tx op rw wq sc sd)
  have HOPS := Lib.hid (fun W => mops_any cl tx op rw wq sc sd hsd W)
  have h8 := opsL_len8 cl tx op rw wq sc sd
  have H64 := Lib.hid (opsL_row64 cl tx op rw wq sc sd)
  have HFL := Lib.hid (opsL_flat cl tx op rw wq sc sd)
  have hmem := opsL_mem cl tx op rw wq sc sd
  have HVAL : Hid (∀ x ∈ (opsL cl tx op rw wq sc sd).flatten, 0 ≤ x.val ∧ x.val ≤ 999) := Lib.hid (fun x hx => drawn_val (hmem x hx).2)
  have HBOX := Lib.hid (rows_boxed hmem)
  have HFEW := Lib.hid (rows_few hmem)
  have HNO : Hid ((opsL cl tx op rw wq sc sd).length ≠ 0 → 1 ≤ rw) := Lib.hid (fun h => by
    have hx : (opsL cl tx op rw wq sc sd)[0]'(by omega) ∈ opsL cl tx op rw wq sc sd := List.getElem_mem _
    obtain ⟨hm, _⟩ := opsL_all _ _ _ _ _ _ _ _ hx
    exact ((mayR_iff cl tx op rw wq sc).1 hm).2.2.2.1.1)
  generalize opsL cl tx op rw wq sc sd = LL at HOPS h8 H64 HFL hmem HVAL HBOX HFEW HNO
  generalize hnl : LL.length = nl at h8 HNO
  have HNL := Lib.hid hnl
  generalize hrl : (rowsP LL.flatten).length = nr at HFEW
  have HNR := Lib.hid hrl
  obtain ⟨RA, hRA⟩ : ∃ b, b = w.heap.size := ⟨_, rfl⟩
  rw [← hRA] at hR
  have HRA := Lib.hid hRA
  have HR := Lib.hid hR
  have q := fun i => hR.cell i
  have q0 := q 0
  have q1 := q 1
  have q2 := q 2
  have q3 := q 3
  have q4 := q 4
  have q5 := q 5
  have q6 := q 6
  clear hmem hnl hrl hRA q hR
  go_enter Try.func4, Try.ntmps4
  go_upto_region 1 with fail
  rw [← HRA.out]
  generalize w.alloc (.cells (rcA cl tx op rw wq sc sd) 24) = w0 at hO HR q0 q1 q2 q3 q4 q5 q6 ⊢
  clear HRA
  go_upto_region 3 with (go_at_call 6; refine (awake45 _).mono ?_; rintro e w1 ⟨rfl, hb1⟩)
  have hR1 := HR.out.below hb1
  have HB1 := Lib.hid (bl_then hO (Nat.le_refl _) hb1)
  clear q0 q1 q2 q3 q4 q5 q6 hO HR hb1
  have q0 := hR1.cell 0
  have q1 := hR1.cell 1
  have q2 := hR1.cell 2
  have q3 := hR1.cell 3
  have q4 := hR1.cell 4
  have q5 := hR1.cell 5
  have q6 := hR1.cell 6
  have HR1 := Lib.hid hR1
  clear hR1
  go_upto_region 6 with (go_at_call 7; refine (HOPS.out _).mono ?_; rintro e w2 ⟨A, c, hs, rfl, h1, h2, h3, ⟨h4, h5⟩, hb2⟩; rw [HNL.out] at h1 h3 h4 ⊢)
  have hR2 := HR1.out.below hb2
  have HR2 := Lib.hid hR2
  have HB2 := Lib.hid (bl_then HB1.out (Nat.le_refl _) hb2)
  have H1 := Lib.hid h1
  have H2 := Lib.hid h2
  have hc5 : c ≤ 9223372036854775807 := by unfold maxLen at h5; exact h5
  have HROWS := Lib.hid (fun W (hb : Below w2.heap.size w2 W) => mrows_any A nl c hs LL W (h1.below hb) (h2.below hb) HFL.out)
  clear q0 q1 q2 q3 q4 q5 q6 hR2 hb2 HB1 HR1 HOPS h1 h2 h5 HFL
  have HPOK : Hid (∀ p ∈ rowsP LL.flatten, okPt p) := Lib.hid (fun p hp => by
    obtain ⟨x, hx, rfl⟩ := List.mem_map.1 ((rowsP_mem _ p).1 hp)
    have hx2 := (List.mem_filter.1 hx).1
    obtain ⟨l, hl1, hxl⟩ := List.mem_flatten.1 hx2
    obtain ⟨i, hi, e⟩ := List.getElem_of_mem hl1
    have hi2 : i < hs.length := by rw [H2.out.len]; exact hi
    exact okAc_pt ((H2.out.row i hs[i] l (List.getElem?_eq_getElem hi2) (by rw [List.getElem?_eq_getElem hi, e])).1.all x hxl))
  go_wp2_with (go_at_call 16; refine (HROWS.out _ (Below.refl _ _)).mono ?_; rintro e w3 ⟨v3, rfl, ho3, hb3⟩; rw [HNR.out] at ho3; obtain ⟨A3, c3, rfl, hs3, _, _⟩ := SR.own (ok := okPt) enPt_len (by omega) ho3 HPOK.out; clear ho3)
  have HS3 := Lib.hid hs3
  have HB3 := Lib.hid hb3
  have hnr : nr ≤ 9223372036854775807 := by have := hs3.max; unfold maxLen at this; exact this
  clear hs3 hb3
  go_loopw [20] (fun c wr => ∃ k : Nat, k ≤ nr ∧ c = .int .i64 k ∧ Below w3.heap.size w3 wr) (fun c _ => nr - (intOf c).toNat)
  case atStart => exact ⟨0, by omega, rfl, Below.refl _ _⟩
  case round =>
    obtain ⟨k, hk, rfl, HB⟩ := hrel
    by_cases hlt : k < nr
    · obtain ⟨b, off, p, rfl, hb, hp, hokp, d0, d1, d2, d3, d4⟩ := Pt_at (HS3.out.below HB) hlt
      obtain ⟨b0, ⟨b1, b2⟩, ⟨b3, b4⟩, ⟨b5, b6⟩⟩ := HBOX.out p (List.mem_of_getElem? hp)
      obtain ⟨p0, p1, p2, p3, p4⟩ := p
      dsimp only at b0 b1 b2 b3 b4 b5 b6 d0 d1 d2 d3 d4
      subst b0
      have hBX := Bk.new wr 50 #[.int .i64 1, .int .i64 p1, .int .i64 p2, .int .i64 p3, .int .i64 p4]
      have al := (Below.refl wr.heap.size wr).alloc (Nat.le_refl _) (.cells #[.int .i64 1, .int .i64 p1, .int .i64 p2, .int .i64 p3, .int .i64 p4] 50)
      have HB' := Lib.hid (bl_then HB (Nat.le_refl _) al)
      have x0 := hBX.cell 0
      have x1 := hBX.cell 1
      have x2 := hBX.cell 2
      have x3 := hBX.cell 3
      have g1 : decide (p1 < 1) = false := decide_eq_false (by omega)
      have g2 : decide (p1 > 4) = false := decide_eq_false (by omega)
      have g3 : decide (p2 < 1) = false := decide_eq_false (by omega)
      have g4 : decide (p2 > 5) = false := decide_eq_false (by omega)
      have g5 : decide (p3 < 1) = false := decide_eq_false (by omega)
      have g6 : decide (p3 > 5) = false := decide_eq_false (by omega)
      clear hp hokp hb HB al hBX b1 b2 b3 b4 b5 b6
      go_wp2_with fail
      go_roundw
      case rel => exact ⟨k + 1, by omega, by go_num, HB'.out⟩
      case measure => simp [intOf]; omega
    · obtain rfl : k = nr := by omega
      have HBA := Lib.hid (bl_then HB3.out (Nat.le_refl _) HB)
      clear HB HB3
      go_wp2_with fail
      obtain ⟨wo, hwo⟩ : ∃ wo : World, wo = wr := ⟨_, rfl⟩
      rw [← hwo] at HBA ⊢
      clear hwo
      go_loopw [67] (fun c wr => ∃ i : Nat, i ≤ nl ∧ c = .int .i64 i ∧ Below wo.heap.size wo wr) (fun c _ => nl - (intOf c).toNat)
      case atStart => exact ⟨0, by omega, rfl, Below.refl _ _⟩
      case round =>
        obtain ⟨i, hi, rfl, HB⟩ := hrel
        by_cases hli : i < nl
        · have hB2 := bl_then HBA.out (Nat.le_refl _) HB
          obtain ⟨b, off, h, rfl, hb, hh, hok, hc⟩ := (H1.out.below hB2).get enHr_len hli
          have c0 := hc 0 (by omega)
          rw [Nat.mul_one, Nat.add_zero] at c0
          change _ = some (Value.slice h.a h.len h.cap) at c0
          obtain ⟨l, hll⟩ : ∃ l, LL[i]? = some l := ⟨_, List.getElem?_eq_getElem (by rw [HNL.out]; exact hli)⟩
          have hrow := (H2.out.below hB2).row i h l hh hll
          have HROW := Lib.hid hrow.1
          have hl64 : h.len ≤ 64 := by rw [← hrow.1.len]; exact H64.out l (List.mem_of_getElem? hll)
          have hl64i : ¬ ((h.len : Int) > 64) := by omega
          have HV : Hid (∀ x ∈ l, 0 ≤ x.val ∧ x.val ≤ 999) := Lib.hid (fun x hx => HVAL.out x (List.mem_flatten.2 ⟨l, List.mem_of_getElem? hll, hx⟩))
          have HBi := Lib.hid HB
          clear hb hh hok hc hll hrow HB hB2
          go_wp2_with fail
          obtain ⟨wi, hwi⟩ : ∃ wi : World, wi = wr := ⟨_, rfl⟩
          rw [← hwi] at HBi HROW ⊢
          clear hwi c0
          go_loopw [73] (fun c wr => ∃ j : Nat, j ≤ h.len ∧ c = .int .i64 j ∧ Below wi.heap.size wi wr) (fun c _ => h.len - (intOf c).toNat)
          case atStart => exact ⟨0, by omega, rfl, Below.refl _ _⟩
          case round =>
            obtain ⟨j, hj, rfl, HBJ⟩ := hrel
            by_cases hlj : j < h.len
            · obtain ⟨b', off', x, hax, hbx, hx, hokx, d0, d1, d2, d3, d4, d5, d6⟩ := Ac_at (HROW.out.below HBJ) hlj
              obtain ⟨v1, v2⟩ := HV.out x (List.mem_of_getElem? hx)
              obtain ⟨al, hBX⟩ := ac_box x wr
              have HB' := Lib.hid (bl_then HBJ (Nat.le_refl _) al)
              have x6 := hBX.cell 6
              have g1 : decide (x.val < 0) = false := decide_eq_false (by omega)
              have g2 : decide (x.val > 999) = false := decide_eq_false (by omega)
              obtain ⟨ha, hlen, hcap⟩ := h
              dsimp only at hax hlj hj hl64 hl64i HROW ⊢
              subst hax
              clear hx hokx hbx HBJ al hBX v1 v2
              go_wp2_with fail
              go_roundw
              case rel => exact ⟨j + 1, by omega, by go_num, HB'.out⟩
              case measure => simp [intOf]; omega
            · obtain rfl : j = h.len := by omega
              have HB' := Lib.hid (bl_then HBi.out (Nat.le_refl _) HBJ)
              clear HBJ
              go_wp2_with fail
              go_roundw
              case rel => exact ⟨i + 1, by omega, by go_num, HB'.out⟩
              case measure => simp [intOf]; omega
        · obtain rfl : i = nl := by omega
          have hB2 := bl_then HBA.out (Nat.le_refl _) HB
          have HBW := Lib.hid (bl_then HB2.out (Nat.le_refl _) hB2)
          have HBD := Lib.hid (bl_then hB2 (Nat.le_refl _) (below_drew wr))
          have HRW := Lib.hid (HR2.out.below hB2)
          have x3 := HRW.out.cell 3
          have x3d := (HRW.out.below (below_drew wr)).cell 3
          have XC := Lib.hid (fun W (h : Below wr.drew.heap.size wr.drew W) => ((HRW.out.below (below_drew wr)).below h).cell 3)
          have hfew := HFEW.out
          clear HB hB2
          by_cases hneg : 0 > rw
          · have hk0 : k = 0 := by omega
            subst hk0
            have hle : (0 : Int) ≤ 0 := by omega
            go_wp2_with fail
            have x3d : wr.drew.cell? ⟨RA, 3, none⟩ = some (.int .i64 rw) := x3d
            refine wp_region_noPanic ?_
            refine wp_region_held_drew (S := fun w' => w'.cell? ⟨RA, 3, none⟩ = some (.int .i64 rw)) (by kernel_rfl) x3d (fun hHeld => ?_)
            refine takeD (i := 0) (v := ?v0) rfl rfl (by kernel_rfl) (by kernel_rfl) (by kernel_rfl) (fun _ _ _ h => h) (Or.inl ⟨by rfl, ?y0⟩) (by assumption) ?_
            case y0 => (intro w hSw; (try dsimp only at hSw); go_simp; try with_reducible rfl)
            try simp only [Act.put, List.setIfInBounds_toArray, List.set_cons_zero, List.set_cons_succ]
            refine takeD (i := 3) (v := ?v3) rfl rfl (by kernel_rfl) (by kernel_rfl) (by kernel_rfl) (fun _ _ _ h => h) (Or.inl ⟨by rfl, ?y3⟩) (by assumption) ?_
            case y3 => (intro w hSw; (try dsimp only at hSw); go_simp; try with_reducible rfl)
            try simp only [Act.put, List.setIfInBounds_toArray, List.set_cons_zero, List.set_cons_succ]
            refine takeD (i := 4) (v := ?v4) rfl rfl (by kernel_rfl) (by kernel_rfl) (by kernel_rfl) (fun _ _ _ h => h) (Or.inl ⟨by rfl, ?y4⟩) (by assumption) ?_
            case y4 => (intro w hSw; (try dsimp only at hSw); go_simp; try with_reducible rfl)
            try simp only [Act.put, List.setIfInBounds_toArray, List.set_cons_zero, List.set_cons_succ]
            refine takeD (i := 5) (v := .int .i64 0) rfl rfl (by kernel_rfl) (by kernel_rfl) (by kernel_rfl) (fun _ _ _ h => h) (Or.inl ⟨by rfl, ?y5⟩) (by assumption) ?_
            case y5 => (intro w hSw; (try dsimp only at hSw); go_simp; (try omega))
            try simp only [Act.put, List.setIfInBounds_toArray, List.set_cons_zero, List.set_cons_succ]
            refine wpAnyH_ready (rs := [1]) (by kernel_rfl) (by simp) ?_
            refine AllReadyH.cons rfl (fun K hK => ?_) AllReadyH.nil
            go_simp
            go_at_call 16; refine (HROWS.out _ HBD.out).mono ?_; rintro e w9 ⟨v9, rfl, ho9, hb9⟩; rw [HNR.out] at ho9; obtain ⟨A9, c9, rfl⟩ := own_slice ho9; clear ho9
            try dsimp only
            refine hK.out _ _ (XC.out _ hb9) (fun hHeld2 => ?_)
            clear hK K hHeld
            have hHeld := hHeld2; clear hHeld2
            try simp only [Act.put, List.setIfInBounds_toArray, List.set_cons_zero, List.set_cons_succ]
            refine takeD (i := 2) (v := ?v2) rfl rfl (by kernel_rfl) (by kernel_rfl) (by kernel_rfl) (fun _ _ _ h => h) (Or.inl ⟨by rfl, ?y2⟩) (by assumption) ?_
            case y2 => (intro w hSw; (try dsimp only at hSw); go_simp; try with_reducible rfl)
            try simp only [Act.put, List.setIfInBounds_toArray, List.set_cons_zero, List.set_cons_succ]
            refine takeD (i := 6) (v := .bool true) rfl rfl (by kernel_rfl) (by kernel_rfl) (by kernel_rfl) (fun _ _ _ h => h) (Or.inl ⟨by rfl, ?y6⟩) (by assumption) ?_
            case y6 => (intro w hSw; (try dsimp only at hSw); go_simp; try (simp; done))
            try simp only [Act.put, List.setIfInBounds_toArray, List.set_cons_zero, List.set_cons_succ]
            refine takeD (i := 7) (v := .bool true) rfl rfl (by kernel_rfl) (by kernel_rfl) (by kernel_rfl) (fun _ _ _ h => h) (Or.inl ⟨by rfl, ?y7⟩) (by assumption) ?_
            case y7 => (intro w hSw; (try dsimp only at hSw); go_simp; try with_reducible rfl)
            try simp only [Act.put, List.setIfInBounds_toArray, List.set_cons_zero, List.set_cons_succ]
            refine takeD (i := 8) (v := undef) rfl rfl (by kernel_rfl) (by kernel_rfl) (by kernel_rfl) (fun _ _ _ h => h) (Or.inr ⟨by rfl, rfl⟩) (by assumption) ?_
            try simp only [Act.put, List.setIfInBounds_toArray, List.set_cons_zero, List.set_cons_succ]
            refine takeD (i := 9) (v := undef) rfl rfl (by kernel_rfl) (by kernel_rfl) (by kernel_rfl) (fun _ _ _ h => h) (Or.inr ⟨by rfl, rfl⟩) (by assumption) ?_
            try simp only [Act.put, List.setIfInBounds_toArray, List.set_cons_zero, List.set_cons_succ]
            refine takeD (i := 10) (v := undef) rfl rfl (by kernel_rfl) (by kernel_rfl) (by kernel_rfl) (fun _ _ _ h => h) (Or.inr ⟨by rfl, rfl⟩) (by assumption) ?_
            try simp only [Act.put, List.setIfInBounds_toArray, List.set_cons_zero, List.set_cons_succ]
            refine takeD (i := 11) (v := .bool true) rfl rfl (by kernel_rfl) (by kernel_rfl) (by kernel_rfl) (fun _ _ _ h => h) (Or.inl ⟨by rfl, ?y11⟩) (by assumption) ?_
            case y11 => (intro w hSw; (try dsimp only at hSw); go_simp; try with_reducible rfl)
            try simp only [Act.put, List.setIfInBounds_toArray, List.set_cons_zero, List.set_cons_succ]
            refine takeD (i := 12) (v := ?v12) rfl rfl (by kernel_rfl) (by kernel_rfl) (by kernel_rfl) (fun _ _ _ h => h) (Or.inl ⟨by rfl, ?y12⟩) (by assumption) ?_
            case y12 => (intro w hSw; (try dsimp only at hSw); go_simp; try with_reducible rfl)
            try simp only [Act.put, List.setIfInBounds_toArray, List.set_cons_zero, List.set_cons_succ]
            refine wpAnyH_done (by kernel_rfl) ?_ _
            refine NoPanic.normal ?_
            go_wp2
            go_ret
            refine ⟨?_, bl_then HBW.out (Nat.le_refl _) (bl_then (below_drew wr) (Nat.le_refl _) hb9)⟩
            first
              | rfl
              | (simp; done)
              | (simp only [Act.put, List.setIfInBounds_toArray, List.set_cons_zero, List.set_cons_succ]; simp; done)
          · have hle : (k : Int) ≤ rw := by omega
            have hled : decide ((k : Int) ≤ rw) = true := decide_eq_true hle
            go_wp2_with fail
            have x3d : wr.drew.cell? ⟨RA, 3, none⟩ = some (.int .i64 rw) := x3d
            refine wp_region_noPanic ?_
            refine wp_region_held_drew (S := fun w' => w'.cell? ⟨RA, 3, none⟩ = some (.int .i64 rw)) (by kernel_rfl) x3d (fun hHeld => ?_)
            refine takeD (i := 0) (v := ?s0) rfl rfl (by kernel_rfl) (by kernel_rfl) (by kernel_rfl) (fun _ _ _ h => h) (Or.inl ⟨by rfl, ?y0⟩) (by assumption) ?_
            case y0 => (intro w hSw; (try dsimp only at hSw); go_simp; try with_reducible rfl)
            try simp only [Act.put, List.setIfInBounds_toArray, List.set_cons_zero, List.set_cons_succ]
            refine takeD (i := 3) (v := ?s3) rfl rfl (by kernel_rfl) (by kernel_rfl) (by kernel_rfl) (fun _ _ _ h => h) (Or.inl ⟨by rfl, ?y3⟩) (by assumption) ?_
            case y3 => (intro w hSw; (try dsimp only at hSw); go_simp; try with_reducible rfl)
            try simp only [Act.put, List.setIfInBounds_toArray, List.set_cons_zero, List.set_cons_succ]
            refine takeD (i := 4) (v := ?s4) rfl rfl (by kernel_rfl) (by kernel_rfl) (by kernel_rfl) (fun _ _ _ h => h) (Or.inl ⟨by rfl, ?y4⟩) (by assumption) ?_
            case y4 => (intro w hSw; (try dsimp only at hSw); go_simp; try with_reducible rfl)
            try simp only [Act.put, List.setIfInBounds_toArray, List.set_cons_zero, List.set_cons_succ]
            refine takeD (i := 5) (v := .int .i64 rw) rfl rfl (by kernel_rfl) (by kernel_rfl) (by kernel_rfl) (fun _ _ _ h => h) (Or.inl ⟨by rfl, ?y5⟩) (by assumption) ?_
            case y5 => (intro w hSw; (try dsimp only at hSw); go_simp; (try omega))
            try simp only [Act.put, List.setIfInBounds_toArray, List.set_cons_zero, List.set_cons_succ]
            refine wpAnyH_ready (rs := [1]) (by kernel_rfl) (by simp) ?_
            refine AllReadyH.cons rfl (fun K hK => ?_) AllReadyH.nil
            go_simp
            go_at_call 16; refine (HROWS.out _ HBD.out).mono ?_; rintro e w9 ⟨v9, rfl, ho9, hb9⟩; rw [HNR.out] at ho9; obtain ⟨A9, c9, rfl⟩ := own_slice ho9; clear ho9
            try dsimp only
            refine hK.out _ _ (XC.out _ hb9) (fun hHeld2 => ?_)
            clear hK K hHeld
            have hHeld := hHeld2; clear hHeld2
            try simp only [Act.put, List.setIfInBounds_toArray, List.set_cons_zero, List.set_cons_succ]
            refine takeD (i := 2) (v := ?s2) rfl rfl (by kernel_rfl) (by kernel_rfl) (by kernel_rfl) (fun _ _ _ h => h) (Or.inl ⟨by rfl, ?y2⟩) (by assumption) ?_
            case y2 => (intro w hSw; (try dsimp only at hSw); go_simp; try with_reducible rfl)
            try simp only [Act.put, List.setIfInBounds_toArray, List.set_cons_zero, List.set_cons_succ]
            refine takeD (i := 6) (v := .bool true) rfl rfl (by kernel_rfl) (by kernel_rfl) (by kernel_rfl) (fun _ _ _ h => h) (Or.inl ⟨by rfl, ?y6⟩) (by assumption) ?_
            case y6 => (intro w hSw; (try dsimp only at hSw); go_simp; all_goals (first | (simp [hled]; done) | (simp [hle]; done) | (trace_state; fail)))
            try simp only [Act.put, List.setIfInBounds_toArray, List.set_cons_zero, List.set_cons_succ]
            refine takeD (i := 7) (v := .bool true) rfl rfl (by kernel_rfl) (by kernel_rfl) (by kernel_rfl) (fun _ _ _ h => h) (Or.inl ⟨by rfl, ?y7⟩) (by assumption) ?_
            case y7 => (intro w hSw; (try dsimp only at hSw); go_simp; try with_reducible rfl)
            try simp only [Act.put, List.setIfInBounds_toArray, List.set_cons_zero, List.set_cons_succ]
            refine takeD (i := 8) (v := undef) rfl rfl (by kernel_rfl) (by kernel_rfl) (by kernel_rfl) (fun _ _ _ h => h) (Or.inr ⟨by rfl, rfl⟩) (by assumption) ?_
            try simp only [Act.put, List.setIfInBounds_toArray, List.set_cons_zero, List.set_cons_succ]
            refine takeD (i := 9) (v := undef) rfl rfl (by kernel_rfl) (by kernel_rfl) (by kernel_rfl) (fun _ _ _ h => h) (Or.inr ⟨by rfl, rfl⟩) (by assumption) ?_
            try simp only [Act.put, List.setIfInBounds_toArray, List.set_cons_zero, List.set_cons_succ]
            refine takeD (i := 10) (v := undef) rfl rfl (by kernel_rfl) (by kernel_rfl) (by kernel_rfl) (fun _ _ _ h => h) (Or.inr ⟨by rfl, rfl⟩) (by assumption) ?_
            try simp only [Act.put, List.setIfInBounds_toArray, List.set_cons_zero, List.set_cons_succ]
            refine takeD (i := 11) (v := .bool true) rfl rfl (by kernel_rfl) (by kernel_rfl) (by kernel_rfl) (fun _ _ _ h => h) (Or.inl ⟨by rfl, ?y11⟩) (by assumption) ?_
            case y11 => (intro w hSw; (try dsimp only at hSw); go_simp; try with_reducible rfl)
            try simp only [Act.put, List.setIfInBounds_toArray, List.set_cons_zero, List.set_cons_succ]
            refine takeD (i := 12) (v := ?s12) rfl rfl (by kernel_rfl) (by kernel_rfl) (by kernel_rfl) (fun _ _ _ h => h) (Or.inl ⟨by rfl, ?y12⟩) (by assumption) ?_
            case y12 => (intro w hSw; (try dsimp only at hSw); go_simp; try with_reducible rfl)
            try simp only [Act.put, List.setIfInBounds_toArray, List.set_cons_zero, List.set_cons_succ]
            refine wpAnyH_done (by kernel_rfl) ?_ _
            refine NoPanic.normal ?_
            go_wp2
            go_ret
            refine ⟨?_, bl_then HBW.out (Nat.le_refl _) (bl_then (below_drew wr) (Nat.le_refl _) hb9)⟩
            first
              | rfl
              | (simp; done)
              | (simp only [Act.put, List.setIfInBounds_toArray, List.set_cons_zero, List.set_cons_succ]; simp; done)
end Go.Proofs.Ytbdefhekkafihaa
