/- Nodes: Decimal and Text, by the reference. No condition. -/
import Derived.Test.YtlbjlopljlblpaaDoorPthT
import Derived.Laws.BytesArg
import Derived.Lib.ItoaLen
set_option linter.unusedVariables false
set_option linter.unusedSimpArgs false
namespace Go.Proofs.YtlbjlopljlblpaaDoor
open Go.RowKit (wrap32 wrap64)
open Go.RowKit Go.Shelf
theorem dec_small (n : Nat) (h : n < 10) : Lib.decDigits n = [UInt8.ofNat (48 + n)] := Lib.decDigits_one h
theorem dec_big (n : Nat) (h : ¬ n < 10) : Lib.decDigits n = Lib.decDigits (n / 10) ++ [UInt8.ofNat (48 + n % 10)] := by
  rw [Lib.decDigits, dif_neg h]
set_option maxRecDepth 100000 in
set_option maxHeartbeats 1000000 in
theorem str_one (m : Nat) : strOfNums [48 + (m : Int) % 10] = bsOf [UInt8.ofNat (48 + m % 10)] := by
  unfold strOfNums
  simp only [List.map_cons, List.map_nil]
  rw [show (48 + (m : Int) % 10).toNat = 48 + m % 10 by omega]
theorem dec_any : ∀ (m : Nat), m < 9223372036854775808 → ∀ (w : World), Calls Tryd.prog 34 #[.int .i64 (m : Int)] w fun e w' => e = .returned (.string (bsOf (Lib.decDigits m))) ∧ Below w.heap.size w w' := by
  intro m
  induction m using Nat.strongRecOn with
  | ind m ih =>
    intro hm w
    have t1 : ((m : Int)).tmod 10 = (m : Int) % 10 := Int.tmod_eq_emod_of_nonneg (by omega)
    have t2 : IntKind.i64.wrap (48 + (m : Int) % 10) = 48 + (m : Int) % 10 := by rw [IntKind.wrap_i64]; omega
    have t3 : IntKind.u8.wrap (48 + (m : Int) % 10) = 48 + (m : Int) % 10 := by rw [IntKind.wrap_u8]; omega
    have t4 : ((m : Int)).tdiv 10 = (m : Int) / 10 := Int.tdiv_eq_ediv_of_nonneg (by omega)
    have t5 : IntKind.i64.wrap ((m : Int) / 10) = (m : Int) / 10 := by rw [IntKind.wrap_i64]; omega
    have t6 : IntKind.i64.wrap ((m : Int) % 10) = (m : Int) % 10 := by rw [IntKind.wrap_i64]; omega
    have hO : Below w.heap.size w (w.alloc (.cells #[.int .u8 (48 + (m : Int) % 10)] 5)) := (Below.refl _ _).alloc (Nat.le_refl _) _
    have hcell : ∀ i, i < 1 → (w.alloc (.cells #[.int .u8 (48 + (m : Int) % 10)] 5)).cell? ⟨w.heap.size, 0 + i, none⟩ = some (.int .u8 ([48 + (m : Int) % 10].getD i 0)) := fun i hi => by
      have h0 : i = 0 := Nat.lt_one_iff.1 hi
      subst h0
      exact (Bk.new w 5 _).cell 0
    have hcv := run_convert_bytes_arg (P := Tryd.prog) (w.alloc (.cells #[.int .u8 (48 + (m : Int) % 10)] 5)) 55 5 Tryd.underlying55 Tryd.underlying5 w.heap.size 0 1 1 [48 + (m : Int) % 10] rfl hcell 9 Tryd.underlying9
    clear hcell
    rw [str_one] at hcv
    by_cases h10 : m < 10
    · have hd := dec_small m h10
      rw [hd]
      have h10' : (m : Int) < 10 := by omega
      have hmm : m % 10 = m := Nat.mod_eq_of_lt h10
      rw [hmm] at hcv
      generalize bsOf [UInt8.ofNat (48 + m)] = b1 at hcv ⊢
      clear ih hd hmm
      go_enter Tryd.func34, Tryd.ntmps34
      go_wp2
      go_ret
      exact ⟨rfl, hO⟩
    · have hd := dec_big m h10
      rw [hd]
      have h10' : ¬ (m : Int) < 10 := by omega
      have hc := fun W => ih (m / 10) (by omega) (by omega) W
      have hcast : (((m / 10 : Nat) : Int)) = (m : Int) / 10 := by omega
      rw [hcast] at hc
      have hap := bs_append (Lib.decDigits (m / 10)) [UInt8.ofNat (48 + m % 10)]
      have hl1 : (Lib.decDigits (m / 10)).length ≤ 20 := by rw [Lib.decDigits_length]; exact Lib.nDigits_le20 _ (by omega)
      have HC := Lib.hid hc
      have HAP := Lib.hid hap
      have hz1 : (bsOf (Lib.decDigits (m / 10))).size + (bsOf [UInt8.ofNat (48 + m % 10)]).size ≤ 1000 := by
        show (Lib.decDigits (m / 10)).toArray.size + [UInt8.ofNat (48 + m % 10)].toArray.size ≤ 1000
        simp; omega
      have hz2 : (((bsOf (Lib.decDigits (m / 10))).size : Nat) : Int) + (((bsOf [UInt8.ofNat (48 + m % 10)]).size : Nat) : Int) ≤ 1000 := by omega
      generalize bsOf [UInt8.ofNat (48 + m % 10)] = b1 at hcv HAP hz1 hz2
      generalize bsOf (Lib.decDigits (m / 10)) = b0 at HC HAP hz1 hz2
      clear ih hc hd hcast hap hl1
      go_enter Tryd.func34, Tryd.ntmps34
      go_wp2_with (go_at_call 34; refine (HC.out _).mono ?_; rintro e w1 ⟨rfl, hb1⟩)
      go_ret
      exact ⟨by rw [HAP.out]; rfl, bl_then hO (Nat.le_refl _) hb1⟩
theorem bs_size (l : List UInt8) : (bsOf l).size = l.length := by show l.toArray.size = l.length; simp
set_option maxRecDepth 100000 in
set_option maxHeartbeats 1000000 in
theorem rtext_any (p : Pt) (w : World) : Calls Tryd.prog 17 #[.agg (ptA p)] w fun e w' => e = .returned (.string (bsOf (textP p))) ∧ Below w.heap.size w w' := by
  have hO : Below w.heap.size w (w.alloc (.cells (ptA p) 24)) := (Below.refl _ _).alloc (Nat.le_refl _) _
  have hb := Bk.new w 24 (ptA p)
  have c0 := hb.cell 0
  have c1 := hb.cell 1
  have c2 := hb.cell 2
  have c3 := hb.cell 3
  have c4 := hb.cell 4
  have hm := fun W => rpright_any p W
  unfold textP
  cases hmp : mayP p with
  | false =>
    rw [hmp] at hm
    have HM := Lib.hid hm
    clear hm hmp hb
    go_enter Tryd.func17, Tryd.ntmps17
    go_wp2_with (go_at_call 16; refine (HM.out _).mono ?_; rintro e w1 ⟨rfl, hb1⟩)
    go_ret
    exact ⟨rfl, bl_then hO (Nat.le_refl _) hb1⟩
  | true =>
    rw [hmp] at hm
    rw [if_pos rfl]
    obtain ⟨D, hD, hD1, hD4⟩ := mayP_dep p hmp
    have hdp : depN p = D := by unfold depN; omega
    rw [hdp]
    have hnum := mayP_num p hmp
    have hdl := digs_len p hmp
    have hpl := preT_len p hmp
    have HM := Lib.hid hm
    have HNUM := Lib.hid hnum
    have HDL := Lib.hid hdl
    have HPL := Lib.hid hpl
    have hnm := fun k h => ptA_num p k h
    obtain ⟨x0, x1, x2, x3, x4⟩ := p
    dsimp only at hD
    subst hD
    have q1 : (D : Int) ≤ 4 := by omega
    clear hm hmp hnum hdp hdl hpl
    go_enter Tryd.func17, Tryd.ntmps17
    go_wp2_with (go_at_call 16; refine (HM.out _).mono ?_; rintro e w1 ⟨rfl, hb1⟩; have k1 := hb.below hb1; have e4 := k1.cell 4; clear c0 c1 c2 c3 c4)
    have HB := bl_then hO (Nat.le_refl _) hb1
    clear hO hb1 hb e4
    go_loopw [3, 4] (fun v c wr => ∃ k : Nat, k ≤ D ∧ c = .int .i64 k ∧ v = .string (bsOf (preT ⟨x0, x1, x2, x3, D⟩ k)) ∧ Bk wr w.heap.size 24 (ptA ⟨x0, x1, x2, x3, D⟩) ∧ Below w.heap.size w wr) (fun _ c _ => D - (intOf c).toNat)
    case atStart => exact ⟨0, by omega, rfl, rfl, k1, HB⟩
    case round =>
      clear k1 HB
      obtain ⟨k, hk, rfl, rfl, hbk, HB⟩ := hrel
      have e4 := hbk.cell 4
      by_cases hlt : k < D
      · have hlt4 : (k : Int) < 4 := by omega
        have hn := HNUM.out k (by omega)
        have g1 := hbk.cell k
        rw [hnm k (by omega)] at g1
        have hdl := HDL.out k (by omega)
        have hpl := HPL.out k (by omega)
        have hdg : digs ⟨x0, x1, x2, x3, D⟩ k = Lib.decDigits (num ⟨x0, x1, x2, x3, D⟩ k).toNat := rfl
        rw [hdg] at hdl
        obtain ⟨m, hm⟩ : ∃ m : Nat, num ⟨x0, x1, x2, x3, (D : Int)⟩ k = m := ⟨_, (Int.toNat_of_nonneg hn.1).symm⟩
        have hdec := fun W => dec_any m (by omega) W
        have hs : preT ⟨x0, x1, x2, x3, D⟩ (k + 1) = (if k = 0 then [] else preT ⟨x0, x1, x2, x3, D⟩ k ++ [46]) ++ Lib.decDigits m := by
          by_cases h0 : k = 0
          · subst h0
            rw [if_pos rfl, preT_one, hdg, hm]; rfl
          · rw [if_neg h0, preT_succ _ _ (by omega), hdg, hm]; rfl
        rw [hm] at g1 hdl
        rw [Int.toNat_natCast] at hdl
        have HS := Lib.hid hs
        have HDEC := Lib.hid hdec
        by_cases h0 : k = 0
        · subst h0
          have hz0 := bs_size (Lib.decDigits m)
          have hz1 : (⟨#[]⟩ : ByteArray).size + (bsOf (Lib.decDigits m)).size ≤ 1000 := by rw [hz0]; show 0 + _ ≤ 1000; omega
          have hap : (⟨#[]⟩ : ByteArray) ++ bsOf (Lib.decDigits m) = bsOf (preT ⟨x0, x1, x2, x3, D⟩ 1) := by rw [HS.out]; exact bs_append [] _
          have hp0 : bsOf (preT ⟨x0, x1, x2, x3, D⟩ 0) = ⟨#[]⟩ := rfl
          rw [hp0]
          generalize bsOf (Lib.decDigits m) = b0 at HDEC hz1 hap
          have HAP := Lib.hid hap
          clear hs hdec hn hdg hm hdl hpl HS hap hp0 hz0
          go_wp2_with (go_at_call 34; refine (HDEC.out _).mono ?_; rintro e w2 ⟨rfl, hb2⟩)
          go_roundw
          case rel => exact ⟨1, by omega, rfl, by rw [HAP.out], hbk.below hb2, bl_then HB (Nat.le_refl _) hb2⟩
          case measure => simp [intOf]; omega
        · have hk0 : (0 : Int) < (k : Int) := by omega
          have hz0 := bs_size (Lib.decDigits m)
          have hz3 := bs_size (preT ⟨x0, x1, x2, x3, D⟩ k)
          have hz4 : (bsOf (preT ⟨x0, x1, x2, x3, D⟩ k)).size + (⟨#[46]⟩ : ByteArray).size ≤ 1000 := by rw [hz3]; show _ + 1 ≤ 1000; omega
          have hap1 : bsOf (preT ⟨x0, x1, x2, x3, D⟩ k) ++ (⟨#[46]⟩ : ByteArray) = bsOf (preT ⟨x0, x1, x2, x3, D⟩ k ++ [46]) := bs_append _ [46]
          have hz5 := bs_size (preT ⟨x0, x1, x2, x3, D⟩ k ++ [46])
          rw [List.length_append] at hz5
          have hz6 : (bsOf (preT ⟨x0, x1, x2, x3, D⟩ k ++ [46])).size + (bsOf (Lib.decDigits m)).size ≤ 1000 := by rw [hz5, hz0]; show _ + 1 + _ ≤ 1000; omega
          have hap : bsOf (preT ⟨x0, x1, x2, x3, D⟩ k ++ [46]) ++ bsOf (Lib.decDigits m) = bsOf (preT ⟨x0, x1, x2, x3, D⟩ (k + 1)) := by rw [HS.out, if_neg h0]; exact bs_append _ _
          generalize bsOf (Lib.decDigits m) = b0 at HDEC hz6 hap
          generalize bsOf (preT ⟨x0, x1, x2, x3, D⟩ k ++ [46]) = b1 at hap1 hz6 hap
          generalize bsOf (preT ⟨x0, x1, x2, x3, D⟩ k) = b2 at hz4 hap1 ⊢
          have HAP := Lib.hid hap
          clear hs hdec hn hdg hm hdl hpl HS hap hz0 hz3 hz5 h0
          go_wp2_with (go_at_call 34; refine (HDEC.out _).mono ?_; rintro e w2 ⟨rfl, hb2⟩)
          go_roundw
          case rel => exact ⟨k + 1, by omega, by go_num, by rw [HAP.out], hbk.below hb2, bl_then HB (Nat.le_refl _) hb2⟩
          case measure => simp [intOf]; omega
      · obtain rfl : k = D := by omega
        go_wp2
        go_ret
        exact ⟨rfl, HB⟩
end Go.Proofs.YtlbjlopljlblpaaDoor
