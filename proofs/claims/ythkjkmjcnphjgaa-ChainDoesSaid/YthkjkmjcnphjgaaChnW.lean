/- The statement ChainDoes: the walk. No condition. -/
import Derived.Test.YthkjkmjcnphjgaaRchE
import Derived.Deep.RegionHeld3
import Derived.Deep.CutRange
import Derived.Deep.CutBlock
set_option linter.unusedVariables false
set_option linter.unusedSimpArgs false
namespace Go.Proofs.Ythkjkmjcnphjgaa
open Go.RowKit (wrap32 wrap64)
open Go.RowKit
theorem ne_in {g h1 h2 h : Nat} (a : g < h) (b : h1 < h) (c : h2 < h) : (¬ LayS h1 h2 h) ∧ (∀ i, LayS h1 h2 i → i < h) ∧ g ≠ h ∧ h1 ≠ h ∧ h2 ≠ h := ⟨fun e => by rcases e with e | e <;> omega, fun i e => by rcases e with e | e <;> omega, by omega, by omega, by omega⟩
set_option maxRecDepth 100000 in
set_option maxHeartbeats 40000000 in
theorem chainDoes_walk (n : Int) (a : Option Addr) (len cap : Nat) (L : List Dd) (w : World) (hl : Dds w a len L) :
    Calls Try.prog 4 #[.int .i64 n, .slice a len cap] w fun e w' => e = .returned (.bool true) ∧ Below w.heap.size w w' := by
  have hle := hl.max
  by_cases q1 : 40 < len
  · clear hl
    go_enter Try.func4, Try.ntmps4
    go_wp2_with (go_at_call 13; refine (awake07 _).mono ?_; rintro e w1 ⟨rfl, hb1⟩)
    go_ret
    exact ⟨rfl, hb1⟩
  have q1' : len ≤ 40 := by omega
  by_cases q2 : 30 < n
  · clear hl
    go_enter Try.func4, Try.ntmps4
    go_wp2_with (go_at_call 13; refine (awake07 _).mono ?_; rintro e w1 ⟨rfl, hb1⟩)
    go_ret
    exact ⟨rfl, hb1⟩
  have q2' : n ≤ 30 := by omega
  obtain ⟨N, hN⟩ : ∃ N : Nat, N = n.toNat := ⟨_, rfl⟩
  have hN30 : N ≤ 30 := by omega
  have HNW : Hid (∀ W, Calls Try.prog 14 #[.int .i64 n] W (CNew W N)) := Lib.hid (fun W => by rw [hN]; exact cnewA_any n (by omega) W)
  have HNX : Hid (∀ W, Calls Try.prog 21 #[.int .i64 n] W (RchNew W N)) := Lib.hid (fun W => by rw [hN]; exact rnew_any n (by omega) W)
  clear hN
  go_enter Try.func4, Try.ntmps4
  go_wp2_with (first
    | (go_at_call 13; refine (awake07 _).mono ?_; rintro e w1 ⟨rfl, hb1⟩)
    | (go_at_call 14; refine (HNW.out _).mono ?_; rintro e w2 ⟨g, h1, h2, rfl, hc, l0, l1, l2, hb2⟩)
    | (go_at_call 21; refine (HNX.out _).mono ?_; rintro e w3 ⟨gx, h, rfl, hx, l3, l4, hb3⟩))
  have hs1 := hb1.size
  have hs2 := hb2.size
  have hB3 := bl_then (bl_then hb1 (Nat.le_refl _) hb2) (Nat.le_refl _) hb3
  have hsz := hc.lts
  have hc3 := hc.below hb3
  obtain ⟨n1, nB', n2, n3, n4⟩ := ne_in (g := g) (h1 := h1) (h2 := h2) (h := h) (by omega) (by omega) (by omega)
  obtain ⟨n5, _, _, _, _⟩ := ne_in (g := g) (h1 := h1) (h2 := h2) (h := gx) (by omega) (by omega) (by omega)
  have hSw : ∀ i, LayS h1 h2 i → w.heap.size ≤ i := (fun i hi => by rcases hi with rfl | rfl <;> omega)
  have hhw : w.heap.size ≤ h := by omega
  obtain ⟨B, hB⟩ : ∃ B, B = w3.heap.size := ⟨_, rfl⟩
  rw [← hB] at hx
  have hzB : gx < B ∧ h < B := by obtain ⟨S, q⟩ := hx; exact ⟨q.gB, q.hB⟩
  have nB : ∀ i, LayS h1 h2 i → i < B := fun i hi => by have := nB' i hi; omega
  have hBw : B ≤ w3.heap.size := by omega
  have HLW := Lib.hid hl
  clear hb1 hb2 hb3 hl HNW HNX hc hsz hs1 hs2 nB' l0 l1 l2 l3 l4 hB
  go_loopw [35] (fun c wr => ∃ (k : Nat) (R : List (List Nat)), k ≤ len ∧ c = .int .i64 k ∧ Chn wr g h1 h2 N R ∧ Rch wr gx h B N R ∧ Below w.heap.size w wr ∧ B ≤ wr.heap.size) (fun c _ => len - (intOf c).toNat)
  case atStart => exact ⟨0, _, by omega, rfl, hc3, hx, hB3, hBw⟩
  case round =>
    clear hc3 hx hB3 hBw
    obtain ⟨k, R, hk, rfl, hC, hX, HB, hBr⟩ := hrel
    by_cases hlt : k < len
    · obtain ⟨b, off, ⟨kd, rw', pl, ii⟩, rfl, hb, hxx, hok, d0, d1, d2, d3⟩ := Dd_at (HLW.out.below HB) hlt
      dsimp only at d0 d1 d2 d3
      have hlts := hC.lts
      have hCa : Chn (wr.alloc (.cells #[.int .i64 kd, .int .i64 rw', .int .i64 pl, .int .i64 ii] 38)) g h1 h2 N R := hC.below ((Below.refl _ _).alloc (Nat.le_refl _) _)
      have hXa : Rch (wr.alloc (.cells #[.int .i64 kd, .int .i64 rw', .int .i64 pl, .int .i64 ii] 38)) gx h B N R := hX.below ((Below.refl _ _).alloc (Nat.le_refl _) _)
      have HBa : Below w.heap.size w (wr.alloc (.cells #[.int .i64 kd, .int .i64 rw', .int .i64 pl, .int .i64 ii] 38)) := HB.alloc HB.size _
      have hD : Bk (wr.alloc (.cells #[.int .i64 kd, .int .i64 rw', .int .i64 pl, .int .i64 ii] 38)) wr.heap.size 38 #[.int .i64 kd, .int .i64 rw', .int .i64 pl, .int .i64 ii] := Bk.new _ _ _
      have hDc : ¬ LayS h1 h2 wr.heap.size := fun e => by rcases e with e | e <;> omega
      have hDx : ¬ (wr.heap.size = h) := by omega
      have hBa : B ≤ (wr.alloc (.cells #[.int .i64 kd, .int .i64 rw', .int .i64 pl, .int .i64 ii] 38)).heap.size := by simp; omega
      have hrelx : ∃ T E, Rel T E R N := by obtain ⟨T, E, _, q⟩ := hC; exact ⟨T, E, q⟩
      obtain ⟨T0, E0, hrel0⟩ := hrelx
      have HREL := Lib.hid hrel0
      clear hC hX HB hxx hok hlts hrel0
      go_upto_block 2 with fail
      generalize wr.alloc (.cells #[.int .i64 kd, .int .i64 rw', .int .i64 pl, .int .i64 ii] 38) = w5 at hCa hXa HBa hD hBa ⊢
      generalize wr.heap.size = D at hD hDc hDx ⊢
      clear d0 d1 d2 d3
      go_cut [9] from 41 to 83 (fun s9 wx => s9 = .bool true ∧ ∃ R9 : List (List Nat), Chn wx g h1 h2 N R9 ∧ Rch wx gx h B N R9 ∧ Bk wx D 38 #[.int .i64 kd, .int .i64 rw', .int .i64 pl, .int .i64 ii] ∧ Below w.heap.size w wx ∧ B ≤ wx.heap.size)
      case first =>
        by_cases hk0 : kd = 0
        · as_aux_lemma =>
            subst hk0
            go_wp2_with fail
            have e1 := hD.cell 1
            have e2 := hD.cell 2
            have e3 := hD.cell 3
            have hCd := hCa.below (below_drew w5)
            have hXd := hXa.below (below_drew w5)
            have hBd : B ≤ w5.drew.heap.size := hBa
            go_region_held3 (fun w' => w'.cell? ⟨D, 1, none⟩ = some (.int .i64 rw') ∧ w'.cell? ⟨D, 3, none⟩ = some (.int .i64 ii))
              (first
                | exact ⟨e1, e3⟩
                | exact ⟨Keep.cellS (S := LayS h1 h2) k3 e1 hDc, Keep.cellS (S := LayS h1 h2) k3 e3 hDc⟩
                | exact ⟨Keep.cellS (S := fun i => i = h) k4 e1 hDx, Keep.cellS (S := fun i => i = h) k4 e3 hDx⟩
                | exact ⟨Keep.cellS k4 (Keep.cellS k3 e1 hDc) hDx, Keep.cellS k4 (Keep.cellS k3 e3 hDc) hDx⟩
                | exact ⟨Keep.cellS k3 (Keep.cellS k4 e1 hDx) hDc, Keep.cellS k3 (Keep.cellS k4 e3 hDx) hDc⟩)
              (first
                | (go_at_call 15; refine (cback_any g h1 h2 N R rw' ii _ (by first | exact hCd | exact hCa | exact hCd.keep k4 n2 n3 n4)).mono ?_; rintro e w3 ⟨rfl, hC3, k3⟩)
                | (go_at_call 22; refine (rback_any gx h B N R rw' ii _ (by first | exact hXd | exact hXa | exact hXd.keep k3 nB n5 n1) (by first | exact hBd | exact Nat.le_trans hBd k3.size) T0 E0 HREL.out).mono ?_; rintro e w4 ⟨rfl, hX4, k4⟩))
            · have hC9 := hC3.keep k4 n2 n3 n4
              have hX9 := hX4
              have hD9 := k4.bk ((Keep.trans (Keep.drew _ _) k3).bk hD hDc) hDx
              have hb9 : Below w.heap.size w w4 := bl_keep (bl_keep HBa (Keep.trans (Keep.drew _ _) k3) hSw) k4 (fun i hi => by rw [hi]; exact hhw)
              have hB9 : B ≤ w4.heap.size := by have q1 := k3.size; have q2 := k4.size; omega
              go_wp2_with fail
              go_meet
              exact ⟨rfl, backR N R rw' ii, hC9, hX9, hD9, hb9, hB9⟩
        by_cases hk1 : kd = 1
        · as_aux_lemma =>
            subst hk1
            clear hk0
            go_wp2_with fail
            have e1 := hD.cell 1
            have e2 := hD.cell 2
            have e3 := hD.cell 3
            have hCd := hCa.below (below_drew w5)
            have hXd := hXa.below (below_drew w5)
            have hBd : B ≤ w5.drew.heap.size := hBa
            go_region_held3 (fun w' => w'.cell? ⟨D, 1, none⟩ = some (.int .i64 rw') ∧ w'.cell? ⟨D, 2, none⟩ = some (.int .i64 pl) ∧ w'.cell? ⟨D, 3, none⟩ = some (.int .i64 ii))
              (first
                | exact ⟨e1, e2, e3⟩
                | exact ⟨Keep.cellS (S := LayS h1 h2) k3 e1 hDc, Keep.cellS (S := LayS h1 h2) k3 e2 hDc, Keep.cellS (S := LayS h1 h2) k3 e3 hDc⟩
                | exact ⟨Keep.cellS (S := fun i => i = h) k4 e1 hDx, Keep.cellS (S := fun i => i = h) k4 e2 hDx, Keep.cellS (S := fun i => i = h) k4 e3 hDx⟩
                | exact ⟨Keep.cellS k4 (Keep.cellS k3 e1 hDc) hDx, Keep.cellS k4 (Keep.cellS k3 e2 hDc) hDx, Keep.cellS k4 (Keep.cellS k3 e3 hDc) hDx⟩
                | exact ⟨Keep.cellS k3 (Keep.cellS k4 e1 hDx) hDc, Keep.cellS k3 (Keep.cellS k4 e2 hDx) hDc, Keep.cellS k3 (Keep.cellS k4 e3 hDx) hDc⟩)
              (first
                | (go_at_call 17; refine (cahead_any g h1 h2 N R rw' pl ii _ (by first | exact hCd | exact hCa | exact hCd.keep k4 n2 n3 n4)).mono ?_; rintro e w3 ⟨rfl, hC3, k3⟩)
                | (go_at_call 23; refine (rahead_any gx h B N R rw' pl ii _ (by first | exact hXd | exact hXa | exact hXd.keep k3 nB n5 n1) (by first | exact hBd | exact Nat.le_trans hBd k3.size) T0 E0 HREL.out).mono ?_; rintro e w4 ⟨rfl, hX4, k4⟩))
            · have hC9 := hC3.keep k4 n2 n3 n4
              have hX9 := hX4
              have hD9 := k4.bk ((Keep.trans (Keep.drew _ _) k3).bk hD hDc) hDx
              have hb9 : Below w.heap.size w w4 := bl_keep (bl_keep HBa (Keep.trans (Keep.drew _ _) k3) hSw) k4 (fun i hi => by rw [hi]; exact hhw)
              have hB9 : B ≤ w4.heap.size := by have q1 := k3.size; have q2 := k4.size; omega
              go_wp2_with fail
              go_meet
              exact ⟨rfl, aheadR N R rw' pl ii, hC9, hX9, hD9, hb9, hB9⟩
        · as_aux_lemma =>
            have hkz : (kd == 0) = false := beq_eq_false_iff_ne.2 hk0
            have hko : (kd == 1) = false := beq_eq_false_iff_ne.2 hk1
            clear hk0 hk1
            go_wp2_with fail
            have e1 := hD.cell 1
            have e2 := hD.cell 2
            have e3 := hD.cell 3
            have hCd := hCa.below (below_drew w5)
            have hXd := hXa.below (below_drew w5)
            have hBd : B ≤ w5.drew.heap.size := hBa
            go_region_held3 (fun w' => w'.cell? ⟨D, 3, none⟩ = some (.int .i64 ii))
              (first
                | exact e3
                | exact Keep.cellS (S := LayS h1 h2) k3 e3 hDc
                | exact Keep.cellS (S := fun i => i = h) k4 e3 hDx
                | exact Keep.cellS k4 (Keep.cellS k3 e3 hDc) hDx
                | exact Keep.cellS k3 (Keep.cellS k4 e3 hDx) hDc)
              (first
                | (go_at_call 24; refine (ccut_any g h1 h2 N R ii _ (by first | exact hCd | exact hCa | exact hCd.keep k4 n2 n3 n4)).mono ?_; rintro e w3 ⟨rfl, hC3, k3⟩)
                | (go_at_call 25; refine (rcut_any gx h B N R ii _ (by first | exact hXd | exact hXa | exact hXd.keep k3 nB n5 n1) (by first | exact hBd | exact Nat.le_trans hBd k3.size) T0 E0 HREL.out).mono ?_; rintro e w4 ⟨rfl, hX4, k4⟩))
            · have hC9 := hC3.keep k4 n2 n3 n4
              have hX9 := hX4
              have hD9 := k4.bk ((Keep.trans (Keep.drew _ _) k3).bk hD hDc) hDx
              have hb9 : Below w.heap.size w w4 := bl_keep (bl_keep HBa (Keep.trans (Keep.drew _ _) k3) hSw) k4 (fun i hi => by rw [hi]; exact hhw)
              have hB9 : B ≤ w4.heap.size := by have q1 := k3.size; have q2 := k4.size; omega
              go_wp2_with fail
              go_meet
              exact ⟨rfl, cutR R ii, hC9, hX9, hD9, hb9, hB9⟩
      case rest =>
        obtain ⟨rfl, R9, hC9, hX9, hD9, hb9, hB9⟩ := hcut
        clear hCa hXa HBa hD hBa HREL n1 n2 n3 n4 n5 nB hSw hhw hzB hDc hDx q1 q1' q2 q2' HLW hBr T0 E0 hb
        generalize wc = w9 at hC9 hX9 hD9 hb9 hB9 ⊢
        have hrelx : ∃ T E, Rel T E R9 N := by obtain ⟨T, E, _, q⟩ := hC9; exact ⟨T, E, q⟩
        obtain ⟨T9, E9, hrel9⟩ := hrelx
        have hrl := (hrel9.rows rw').2.2
        have hROW := fun W hc => crowR_any g h1 h2 N R9 ii W hc
        have hNX := fun W hc => cnextR_any g h1 h2 N R9 ii W hc
        have hFI := fun W hc => cfirstR_any g h1 h2 N R9 rw' W hc
        have hCL := fun W hc => clist_any g h1 h2 N R9 rw' W hc (by omega)
        have hLN := fun W hc => clen_any g h1 h2 N R9 rw' W hc (by omega)
        have hAT := fun W hx => rat_any gx h B N R9 ii W hx
        have hRL := fun W hx => rlist_any gx h B N R9 rw' W hx
        generalize atR R9 rw' = l0 at hFI hCL hLN hRL hrl
        generalize hm0 : l0.length = m0 at hLN hrl
        have HM0 := Lib.hid hm0
        have HH : Hid ((m0 = 0 ∧ hdI l0 = -1) ∨ ∃ x0 : Nat, l0[0]? = some x0 ∧ hdI l0 = x0 ∧ 0 < m0) := Lib.hid (by
          cases l0 with
          | nil => exact .inl ⟨hm0.symm, rfl⟩
          | cons z l0 => exact .inr ⟨z, rfl, rfl, by rw [← hm0]; simp⟩)
        have HT : Hid ((atI R9 ii = -1 ∧ poI R9 ii = -1 ∧ nxR R9 ii = -1) ∨ ∃ r p q : Nat, atI R9 ii = r ∧ poI R9 ii = p ∧ p + 1 + q ≤ 1000 ∧ r < N ∧ (∃ l : List Nat, R9[r]? = some l ∧ l.length = p + 1 + q ∧ ((q = 0 ∧ nxR R9 ii = -1) ∨ ∃ y : Nat, 0 < q ∧ l[p + 1]? = some y ∧ nxR R9 ii = y))) := Lib.hid (by
          rcases at_cases hrel9 ii with ⟨t1, t2, _, _⟩ | ⟨r, x, A, Dl, rfl, hxn, hrn, hR9, hat9, t1, t2, _, _⟩
          · exact .inl ⟨t1, t2, if_pos t1⟩
          · have t3 : nxR R9 (x : Int) = hdI Dl := by
              unfold nxR
              rw [t1, if_neg (by omega), t2, hat9, show ((A.length : Nat) : Int).toNat + 1 = A.length + 1 by omega, drop_past A x Dl]
            have hrl2 := (hrel9.rows r).2.2
            rw [hat9, List.length_append, List.length_cons] at hrl2
            refine .inr ⟨r, A.length, Dl.length, t1, t2, by omega, hrn, _, hR9, by rw [List.length_append, List.length_cons]; omega, ?_⟩
            cases Dl with
            | nil => exact .inl ⟨rfl, t3⟩
            | cons y D' => exact .inr ⟨y, by simp, by rw [List.getElem?_append_right (by omega), show A.length + 1 - A.length = 0 + 1 by omega, List.getElem?_cons_succ]; rfl, t3⟩)
        clear hm0 hrel9
        generalize hdI l0 = hd at hFI HH
        generalize atI R9 ii = t at hROW hAT HT
        generalize poI R9 ii = u at hAT HT
        generalize nxR R9 ii = nx at hNX HT
        have HROW := Lib.hid hROW
        have HNX := Lib.hid hNX
        have HFI := Lib.hid hFI
        have HCL := Lib.hid hCL
        have HLN := Lib.hid hLN
        have HAT := Lib.hid hAT
        have HRL := Lib.hid hRL
        have x1 := hD9.cell 1
        have x3 := hD9.cell 3
        clear hROW hNX hFI hCL hLN hAT hRL
        have hsm : ∀ l : List Int, sameB l l = true := fun l => decide_eq_true rfl
        go_upto_region 21 with (first
          | (go_at_call 26; refine (HROW.out _ hC9).mono ?_; rintro e _ ⟨rfl, rfl⟩)
          | (go_at_call 27; refine (HAT.out _ hX9).mono ?_; rintro e w10 ⟨rfl, hb10⟩; have y1 := (hD9.below hb10).cell 1; have y3 := (hD9.below hb10).cell 3; have hC10 := hC9.below hb10; have hX10 := hX9.below hb10)
          | (go_at_call 16; refine (HFI.out _ hC10).mono ?_; rintro e _ ⟨rfl, rfl⟩)
          | (go_at_call 28; refine (HRL.out _ hX10).mono ?_; rintro e _ ⟨Aw, cw, rfl, hwr, rfl⟩; rw [HM0.out] at hwr; rw [HM0.out])
          | (go_at_call 29; refine (HNX.out _ hC10).mono ?_; rintro e _ ⟨rfl, rfl⟩))
        have hD10 := hD9.below hb10
        have hb10' := bl_then hb9 (Nat.le_refl _) hb10
        have hB10 : B ≤ w10.heap.size := Nat.le_trans hB9 hb10.size
        clear x1 x3 hC9 hX9 hD9 hb9 hb10 hB9 HROW HNX HFI HAT HRL
        go_cut [10, 11, 12, 13, 14, 15, 16, 17, 18, 182] from 84 to 182 (fun s10 s11 s12 s13 s14 s15 s16 s17 s18 s182 wx => s182 = .bool false ∧ s10 = .int .i64 (z1 t) ∧ s11 = .bool (t != -1) ∧ s12 = .int .i64 t ∧ s13 = .int .i64 u ∧ s17 = .int .i64 (z1 nx) ∧ s18 = .bool (nx != -1) ∧ Chn wx g h1 h2 N R9 ∧ Rch wx gx h B N R9 ∧ Below w.heap.size w wx ∧ B ≤ wx.heap.size)
        case first =>
          rcases HH.out with ⟨hm, hhd⟩ | ⟨x0, hx0, hhd, hm⟩
          · subst hm
            subst hhd
            have z0 : z1 (-1) = 0 := rfl
            have z2 : ((-1 : Int) != -1) = false := rfl
            rcases HT.out with ⟨ht, -, -⟩ | ⟨r, p, q, ht, -, -⟩
            · subst ht
              as_aux_lemma =>
                go_wp2_with (first
                  | (go_at_call 19; refine (HCL.out _ hC10).mono ?_; rintro e w11 ⟨v, rfl, hown, hb11⟩; rw [natI_len, HM0.out] at hown; obtain ⟨A11, c11, rfl, hi11⟩ := ints_own hown; clear hown)
                  | (go_at_call 18; refine (same_any _ _ _ _ _ _ (natI l0) (natI l0) _ hi11 (hwr.ints.below hb11)).mono ?_; rintro e w12 ⟨rfl, hb12⟩; rw [hsm]; have hb112 := bl_then hb11 (Nat.le_refl _) hb12; have z1' := (hD10.below hb112).cell 1)
                  | (go_at_call 20; refine (HLN.out _ (hC10.below hb112)).mono ?_; rintro e w13 ⟨rfl, hb13⟩; have hb113 := bl_then hb112 (Nat.le_refl _) hb13))
                go_meet
                exact ⟨rfl, by first | rfl | exact congrArg _ z3.symm, by first | rfl | exact congrArg _ z4.symm, rfl, rfl, rfl, rfl, hC10.below hb113, hX10.below hb113, bl_then hb10' (Nat.le_refl _) hb113, by have q1 := hb113.size; omega⟩
            · subst ht
              have z3 : z1 (r : Int) = r := if_neg (by omega)
              have z4 : ((r : Int) != -1) = true := bne_iff_ne.2 (by omega)
              as_aux_lemma =>
                go_wp2_with (first
                  | (go_at_call 19; refine (HCL.out _ hC10).mono ?_; rintro e w11 ⟨v, rfl, hown, hb11⟩; rw [natI_len, HM0.out] at hown; obtain ⟨A11, c11, rfl, hi11⟩ := ints_own hown; clear hown)
                  | (go_at_call 18; refine (same_any _ _ _ _ _ _ (natI l0) (natI l0) _ hi11 (hwr.ints.below hb11)).mono ?_; rintro e w12 ⟨rfl, hb12⟩; rw [hsm]; have hb112 := bl_then hb11 (Nat.le_refl _) hb12; have z1' := (hD10.below hb112).cell 1)
                  | (go_at_call 20; refine (HLN.out _ (hC10.below hb112)).mono ?_; rintro e w13 ⟨rfl, hb13⟩; have hb113 := bl_then hb112 (Nat.le_refl _) hb13))
                go_meet
                exact ⟨rfl, by first | rfl | exact congrArg _ z3.symm, by first | rfl | exact congrArg _ z4.symm, rfl, rfl, rfl, rfl, hC10.below hb113, hX10.below hb113, bl_then hb10' (Nat.le_refl _) hb113, by have q1 := hb113.size; omega⟩
          · obtain ⟨bw, rfl, hw0⟩ : ∃ bw, Aw = some ⟨bw, 0, none⟩ ∧ ∀ W, Below w10.heap.size w10 W → W.cell? ⟨bw, 0, none⟩ = some (.int .i64 x0) := by
              have key : ∀ W, RowOk B W ⟨Aw, m0, cw⟩ l0 → ∃ bw, Aw = some ⟨bw, 0, none⟩ ∧ W.cell? ⟨bw, 0, none⟩ = some (.int .i64 x0) := fun W hro => by
                rcases hro.row with h | ⟨bb, h, _, _, hcc⟩
                · have := h.2.1; dsimp only at this; omega
                · exact ⟨bb, h, hcc 0 x0 hx0⟩
              obtain ⟨bw, e, _⟩ := key _ hwr
              refine ⟨bw, e, fun W hb => ?_⟩
              obtain ⟨bw', e', h'⟩ := key W (hwr.keep (Keep.of_below hb (fun _ => False)) (fun _ h => h.elim))
              rw [e] at e'
              cases e'
              exact h'
            have HW0 := Lib.hid hw0
            subst hhd
            have hm2 : (0 : Int) < (m0 : Int) := by omega
            have z5 : z1 (x0 : Int) = x0 := if_neg (by omega)
            have z6 : ((x0 : Int) != -1) = true := bne_iff_ne.2 (by omega)
            clear hw0 hx0
            rcases HT.out with ⟨ht, -, -⟩ | ⟨r, p, q, ht, -, -⟩
            · subst ht
              have z0 : z1 (-1) = 0 := rfl
              have z2 : ((-1 : Int) != -1) = false := rfl
              as_aux_lemma =>
                go_wp2_with (first
                  | (go_at_call 19; refine (HCL.out _ hC10).mono ?_; rintro e w11 ⟨v, rfl, hown, hb11⟩; rw [natI_len, HM0.out] at hown; obtain ⟨A11, c11, rfl, hi11⟩ := ints_own hown; clear hown)
                  | (go_at_call 18; refine (same_any _ _ _ _ _ _ (natI l0) (natI l0) _ hi11 (hwr.ints.below hb11)).mono ?_; rintro e w12 ⟨rfl, hb12⟩; rw [hsm]; have hb112 := bl_then hb11 (Nat.le_refl _) hb12; have z1' := (hD10.below hb112).cell 1)
                  | (go_at_call 20; refine (HLN.out _ (hC10.below hb112)).mono ?_; rintro e w13 ⟨rfl, hb13⟩; have hb113 := bl_then hb112 (Nat.le_refl _) hb13; have hwc := HW0.out _ hb113))
                go_meet
                exact ⟨rfl, by first | rfl | exact congrArg _ z3.symm, by first | rfl | exact congrArg _ z4.symm, rfl, rfl, rfl, rfl, hC10.below hb113, hX10.below hb113, bl_then hb10' (Nat.le_refl _) hb113, by have q1 := hb113.size; omega⟩
            · subst ht
              have z3 : z1 (r : Int) = r := if_neg (by omega)
              have z4 : ((r : Int) != -1) = true := bne_iff_ne.2 (by omega)
              as_aux_lemma =>
                go_wp2_with (first
                  | (go_at_call 19; refine (HCL.out _ hC10).mono ?_; rintro e w11 ⟨v, rfl, hown, hb11⟩; rw [natI_len, HM0.out] at hown; obtain ⟨A11, c11, rfl, hi11⟩ := ints_own hown; clear hown)
                  | (go_at_call 18; refine (same_any _ _ _ _ _ _ (natI l0) (natI l0) _ hi11 (hwr.ints.below hb11)).mono ?_; rintro e w12 ⟨rfl, hb12⟩; rw [hsm]; have hb112 := bl_then hb11 (Nat.le_refl _) hb12; have z1' := (hD10.below hb112).cell 1)
                  | (go_at_call 20; refine (HLN.out _ (hC10.below hb112)).mono ?_; rintro e w13 ⟨rfl, hb13⟩; have hb113 := bl_then hb112 (Nat.le_refl _) hb13; have hwc := HW0.out _ hb113))
                go_meet
                exact ⟨rfl, by first | rfl | exact congrArg _ z3.symm, by first | rfl | exact congrArg _ z4.symm, rfl, rfl, rfl, rfl, hC10.below hb113, hX10.below hb113, bl_then hb10' (Nat.le_refl _) hb113, by have q1 := hb113.size; omega⟩
        case rest =>
          obtain ⟨rfl, rfl, rfl, rfl, rfl, rfl, rfl, hC13, hX13, hb13, hB13⟩ := hcut
          clear hC10 hX10 hD10 hb10' hB10 y1 y3 hwr HCL HLN HH HM0
          rcases HT.out with ⟨ht, hu, hn⟩ | ⟨r, p, q, ht, hu, hpq, hrn, l, hl, hll, hnn⟩
          · subst ht
            subst hu
            subst hn
            have z0 : z1 (-1) = 0 := rfl
            have z2 : ((-1 : Int) != -1) = false := rfl
            as_aux_lemma =>
              go_wp2
              go_roundw
              case rel => exact ⟨k + 1, R9, by omega, by go_num, hC13, hX13, hb13, hB13⟩
              case measure => simp [intOf]; omega
          · subst ht
            subst hu
            have z3 : z1 (r : Int) = r := if_neg (by omega)
            have z4 : ((r : Int) != -1) = true := bne_iff_ne.2 (by omega)
            obtain ⟨⟨sa, sn, sc⟩, hro, hrc, hgc⟩ : ∃ s, RowOk B wc s l ∧ wc.cell? ⟨h, r, none⟩ = some (.slice s.a s.len s.cap) ∧ wc.cell? ⟨gx, 1, none⟩ = some (.slice (some ⟨h, 0, none⟩) N N) := by
              obtain ⟨S, hx⟩ := hX13
              obtain ⟨s, l', e1, e2, e3⟩ := hx.get hrn
              rw [hl] at e1
              cases e1
              exact ⟨s, e2, e3, hx.bk.cell 1⟩
            have hln := hro.len
            rw [hll] at hln
            dsimp only at hln hrc
            subst hln
            have hp8 : IntKind.i64.wrap ((p : Int) + 1) = (p : Int) + 1 := by rw [IntKind.wrap_i64]; omega
            rcases hnn with ⟨hq, hn⟩ | ⟨y, hq, hy, hn⟩
            · subst hn
              have z0 : z1 (-1) = 0 := rfl
              have z2 : ((-1 : Int) != -1) = false := rfl
              have hq2 : ¬ ((p : Int) + 1 < (p : Int) + 1 + (q : Int)) := by omega
              clear hq hll hl hro
              as_aux_lemma =>
                go_wp2
                go_roundw
                case rel => exact ⟨k + 1, R9, by omega, by go_num, hC13, hX13, hb13, hB13⟩
                case measure => simp [intOf]; omega
            · subst hn
              have z5 : z1 (y : Int) = y := if_neg (by omega)
              have z6 : ((y : Int) != -1) = true := bne_iff_ne.2 (by omega)
              have hq2 : (p : Int) + 1 < (p : Int) + 1 + (q : Int) := by omega
              obtain ⟨bb, rfl, hyc⟩ : ∃ bb, sa = some ⟨bb, 0, none⟩ ∧ wc.cell? ⟨bb, p + 1, none⟩ = some (.int .i64 y) := by
                rcases hro.row with h | ⟨bb, h, _, _, hcc⟩
                · have := h.2.1; dsimp only at this; omega
                · exact ⟨bb, h, hcc (p + 1) y hy⟩
              clear hll hl hro hy
              as_aux_lemma =>
                go_wp2
                go_roundw
                case rel => exact ⟨k + 1, R9, by omega, by go_num, hC13, hX13, hb13, hB13⟩
                case measure => simp [intOf]; omega
    · obtain rfl : k = len := by omega
      clear hC hX HLW
      go_wp2
      go_ret
      exact ⟨rfl, HB⟩
end Go.Proofs.Ythkjkmjcnphjgaa
