/- serial: the reference's Ends, Commits, Of. No condition. -/
import Derived.Test.YtjenchijenkndaaHis
set_option linter.unusedVariables false
set_option linter.unusedSimpArgs false
namespace Go.Proofs.Ytjenchijenkndaa
open Go.RowKit (wrap32 wrap64)
open Go.RowKit
set_option maxRecDepth 100000 in
set_option maxHeartbeats 2000000 in
theorem rends_any (a : Option Addr) (len cap : Nat) (L : List Ev) (tx : Int) (w : World) (hl : Evs w a len L) :
    Calls Try.prog 13 #[.slice a len cap, .int .i64 tx] w fun e w' => e = .returned (.tuple #[.int .i64 (endI Ev.tx cmE edE L tx), .int .i64 (howE L tx)]) ∧ Below w.heap.size w w' := by
  have hlm : len ≤ 9223372036854775807 := hl.max
  have HLL := Lib.hid hl.len
  go_enter Try.func13, Try.ntmps13
  go_wp2_with fail
  go_loopw [10] (fun c wr => ∃ k : Nat, k ≤ len ∧ c = .int .i64 k ∧ (∀ y ∈ L.take k, stopE tx y = false) ∧ Below w.heap.size w wr) (fun c _ => len - (intOf c).toNat)
  case atStart => exact ⟨0, by omega, rfl, by simp, Below.refl _ _⟩
  case round =>
    obtain ⟨k, hk, rfl, hno, HB⟩ := hrel
    have HNO := Lib.hid hno
    clear hno
    by_cases hlt : k < len
    · obtain ⟨b, off, x, rfl, hb, hx, hok, d0, d1, d2, d3, d4, d5, d6, d7, d8, d9, d10⟩ := Ev_at (hl.below HB) hlt
      have HX := Lib.hid hx
      have HTK := Lib.hid (take_snocG L k x hx)
      clear hl hx hok
      have HST : Hid (stopE tx x = (x.tx == tx && (x.kind == 9 || x.kind == 12))) := Lib.hid rfl
      have HREL : Hid (stopE tx x = false → ∀ y ∈ L.take (k + 1), stopE tx y = false) := Lib.hid (fun h y hy => by
        rw [HTK.out] at hy
        rcases List.mem_append.1 hy with h' | h'
        · exact HNO.out y h'
        · rw [List.mem_singleton.1 h']; exact h)
      have HHIT : Hid (stopE tx x = true → endI Ev.tx cmE edE L tx = k ∧ howE L tx = if x.kind = 9 then 1 else 2) := Lib.hid (fun h => endI_hit HX.out h HNO.out)
      obtain ⟨kd, tx', n0, n1, n2, n3, dp, mo, va, ⟨ra, rl, rc⟩, er⟩ := x
      dsimp only at d0 d1 d2 d3 d4 d5 d6 d7 d8 d9 d10 HST HHIT
      clear HX HTK
      by_cases h1 : tx' = tx
      · subst h1
        by_cases h2 : kd = 9
        · subst h2
          have HH := Lib.hid (HHIT.out (by rw [HST.out]; simp))
          clear HHIT HREL HST
          go_wp2
          go_ret2
          exact ⟨by rw [HH.out.1, HH.out.2]; rfl, HB.alloc HB.size _⟩
        · by_cases h3 : kd = 12
          · subst h3
            have HH := Lib.hid (HHIT.out (by rw [HST.out]; simp))
            clear HHIT HREL HST
            go_wp2
            go_ret2
            exact ⟨by rw [HH.out.1, HH.out.2]; rfl, HB.alloc HB.size _⟩
          · have h2' : (kd == 9) = false := beq_eq_false_iff_ne.2 h2
            have h3' : (kd == 12) = false := beq_eq_false_iff_ne.2 h3
            have HR := Lib.hid (HREL.out (by rw [HST.out, h2', h3']; simp))
            clear HHIT HREL HST
            go_wp2
            go_roundw
            case rel => exact ⟨k + 1, by omega, by go_num, HR.out, HB.alloc HB.size _⟩
            case measure => simp [intOf]; omega
      · have h1' : (tx' == tx) = false := beq_eq_false_iff_ne.2 h1
        have h1'' : (tx' != tx) = true := bne_iff_ne.2 h1
        have HR := Lib.hid (HREL.out (by rw [HST.out, h1']; rfl))
        clear HHIT HREL HST
        go_wp2
        go_roundw
        case rel => exact ⟨k + 1, by omega, by go_num, HR.out, HB.alloc HB.size _⟩
        case measure => simp [intOf]; omega
    · obtain rfl : k = len := by omega
      have HM := Lib.hid (endI_miss (L := L) (tx := tx) (by have := HNO.out; rw [List.take_of_length_le (by rw [HLL.out]; exact Nat.le_refl _)] at this; exact this))
      clear hl
      go_wp2
      go_ret2
      exact ⟨by rw [HM.out.1, HM.out.2]; rfl, HB⟩
set_option maxRecDepth 100000 in
set_option maxHeartbeats 2000000 in
theorem rcomm_any (a : Option Addr) (len cap : Nat) (L : List Ev) (w : World) (hl : Evs w a len L) (hn : len ≤ 1000) :
    Calls Try.prog 15 #[.slice a len cap] w (OwnRet enI 3 1 w (commTo Ev.tx cmE edE L L.length)) := by
  have hll := hl.len
  obtain ⟨i0, hi0, hz0, hz1, hz2⟩ := info_parts Try.infoI
  go_enter Try.func15, Try.ntmps15
  go_wp2_with fail
  go_loopw [3, 10] (fun s3 c wr => ∃ (k : Nat) (D : List Int) (nD : Nat), k ≤ len ∧ c = .int .i64 k ∧ commTo Ev.tx cmE edE L k = D ∧ D.length = nD ∧ nD ≤ k ∧ wr.ownsRow w.heap.size 3 1 s3 nD (flatV enI D) ∧ Below w.heap.size w wr) (fun _ c _ => len - (intOf c).toNat)
  case atStart => exact ⟨0, [], 0, by omega, rfl, rfl, rfl, Nat.le_refl _, World.ownsRow_nil _ _ _ _, Below.refl _ _⟩
  case round =>
    obtain ⟨k, D, nD, hk, rfl, hD, hnD, hnk, ho, HB⟩ := hrel
    have HD := Lib.hid hD
    have HND := Lib.hid hnD
    clear hD hnD
    by_cases hlt : k < len
    · obtain ⟨b, off, x, rfl, hb, hx, hok, d0, d1, d2, d3, d4, d5, d6, d7, d8, d9, d10⟩ := Ev_at (hl.below HB) hlt
      have HE := Lib.hid (fun W (hb : Below w.heap.size w W) => rends_any (some ⟨b, off, none⟩) len cap L x.tx W (hl.below hb))
      have HIFF := Lib.hid (how_iff hx)
      have HSTEP : Hid (commTo Ev.tx cmE edE L (k + 1) = if endI Ev.tx cmE edE L x.tx = k ∧ cmE x = true then D ++ [x.tx] else D) := Lib.hid (by
        rw [commTo_at hx, HD.out])
      clear hl hx hok
      generalize hw9 : cmE x = cm at HIFF HSTEP
      clear hw9
      obtain ⟨kd, tx, n0, n1, n2, n3, dp, mo, va, ⟨ra, rl, rc⟩, er⟩ := x
      dsimp only at d0 d1 d2 d3 d4 d5 d6 d7 d8 d9 d10 HE HIFF HSTEP
      generalize endI Ev.tx cmE edE L tx = at' at HE HIFF HSTEP
      generalize howE L tx = hw at HE HIFF
      have d1x := (Bk.new wr 31 #[.int .i64 kd, .int .i64 tx, .int .i64 n0, .int .i64 n1, .int .i64 n2, .int .i64 n3, .int .i64 dp, .int .i64 mo, .int .i64 va, .slice ra rl rc, .int .i64 er])
      have HBX := Lib.hid d1x
      have hba : Below w.heap.size w (wr.alloc (.cells #[.int .i64 kd, .int .i64 tx, .int .i64 n0, .int .i64 n1, .int .i64 n2, .int .i64 n3, .int .i64 dp, .int .i64 mo, .int .i64 va, .slice ra rl rc, .int .i64 er] 31)) := HB.alloc HB.size _
      have hoa := own_below ho ((Below.refl _ _).alloc (Nat.le_refl _) (.cells #[.int .i64 kd, .int .i64 tx, .int .i64 n0, .int .i64 n1, .int .i64 n2, .int .i64 n3, .int .i64 dp, .int .i64 mo, .int .i64 va, .slice ra rl rc, .int .i64 er] 31))
      clear d1x
      by_cases hy : at' = k ∧ hw = 1
      · obtain ⟨rfl, rfl⟩ := hy
        have HN : Hid (commTo Ev.tx cmE edE L (k + 1) = D ++ [tx]) := Lib.hid (by rw [HSTEP.out, if_pos (HIFF.out.1 ⟨rfl, rfl⟩)])
        clear HSTEP HIFF
        go_wp2_with (first
          | (go_at_call 13; refine (HE.out _ hba).mono ?_; rintro e w2 ⟨rfl, hb2⟩; have y1 := (HBX.out.below hb2).cell 1; have hb12 := bl_then hba (Nat.le_refl _) hb2; have ho2 := own_below hoa hb2)
          | (at_builtin; refine wpList_append_one enI_len (by omega) enI_one rfl _ _ 35 rfl w.heap.size 3 i0 _ 8 Try.underlying35 hi0 hz0 hz1 hz2 rfl _ nD D rfl ho2 tx #[.int .i64 tx] rfl 3 _ rfl rfl (by unfold maxLen; omega) (by omega) hb12 hb12.size ?_; intro v' w7 ho' hb7 k7))
        go_roundw
        case rel => exact ⟨k + 1, D ++ [tx], nD + 1, by omega, by go_num, HN.out, by simp [HND.out], by omega, ho', hb7⟩
        case measure => simp [intOf]; omega
      · have HN : Hid (commTo Ev.tx cmE edE L (k + 1) = D) := Lib.hid (by rw [HSTEP.out, if_neg (fun h => hy (HIFF.out.2 h))])
        clear HSTEP HIFF
        by_cases ha : at' = k
        · subst ha
          have hh : (hw == 1) = false := beq_eq_false_iff_ne.2 (fun e => hy ⟨rfl, e⟩)
          clear hy
          go_wp2_with (go_at_call 13; refine (HE.out _ hba).mono ?_; rintro e w2 ⟨rfl, hb2⟩; have y1 := (HBX.out.below hb2).cell 1; have hb12 := bl_then hba (Nat.le_refl _) hb2; have ho2 := own_below hoa hb2)
          go_roundw
          case rel => exact ⟨k + 1, D, nD, by omega, by go_num, HN.out, HND.out, by omega, ho2, hb12⟩
          case measure => simp [intOf]; omega
        · have hh : (at' == (k : Int)) = false := beq_eq_false_iff_ne.2 ha
          clear hy ha
          go_wp2_with (go_at_call 13; refine (HE.out _ hba).mono ?_; rintro e w2 ⟨rfl, hb2⟩; have y1 := (HBX.out.below hb2).cell 1; have hb12 := bl_then hba (Nat.le_refl _) hb2; have ho2 := own_below hoa hb2)
          go_roundw
          case rel => exact ⟨k + 1, D, nD, by omega, by go_num, HN.out, HND.out, by omega, ho2, hb12⟩
          case measure => simp [intOf]; omega
    · obtain rfl : k = len := by omega
      have HRET : Hid (∀ v, wr.ownsRow w.heap.size 3 1 v nD (flatV enI D) → OwnRet enI 3 1 w (commTo Ev.tx cmE edE L L.length) (.returned v) wr) := Lib.hid (fun v h => by
        rw [hll, HD.out]
        exact ⟨_, rfl, by rw [HND.out]; exact h, HB⟩)
      have HR2 := Lib.hid (HRET.out _ ho)
      clear hl ho
      go_wp2
      go_ret
      exact HR2.out
set_option maxRecDepth 100000 in
set_option maxHeartbeats 2000000 in
theorem rof_any (a : Option Addr) (len cap : Nat) (L : List Ev) (tx : Int) (w : World) (hl : Evs w a len L) (hn : len ≤ 1000) :
    Calls Try.prog 24 #[.slice a len cap, .int .i64 tx] w (OwnRet enEv 31 11 w (L.filter fun x => !isOf tx x)) := by
  have HLL := Lib.hid hl.len
  obtain ⟨i0, hi, hz0, hz1, hz2⟩ := info_parts Try.infoEv
  have HL := Lib.hid hl
  clear hl
  go_enter Try.func24, Try.ntmps24
  go_wp2_with fail
  go_loopw [5, 10] (fun v5 c wr => ∃ (j m : Nat), j ≤ len ∧ c = .int .i64 j ∧ m ≤ j ∧ Hid (m = ((L.take j).filter fun x => !isOf tx x).length) ∧ wr.ownsRow w.heap.size 31 11 v5 m (flatV enEv ((L.take j).filter fun x => !isOf tx x)) ∧ Below w.heap.size w wr) (fun _ c _ => len - (intOf c).toNat)
  case atStart => exact ⟨0, 0, by omega, rfl, by omega, Lib.hid rfl, World.ownsRow_nil _ _ _ _, Below.refl _ _⟩
  case round =>
    obtain ⟨j, m, hj, rfl, hmj, HN, ho, HBQ⟩ := hrel
    by_cases hlt : j < len
    · obtain ⟨b3, o3, y, rfl, _, hy, hoky, d0, d1, d2, d3, d4, d5, d6, d7, d8, d9, d10⟩ := Ev_at (HL.out.below HBQ) hlt
      have al := (Below.refl wr.heap.size wr).alloc (Nat.le_refl _) (.cells #[.int .i64 y.kind, .int .i64 y.tx, .int .i64 y.n0, .int .i64 y.n1, .int .i64 y.n2, .int .i64 y.n3, .int .i64 y.dep, .int .i64 y.mode, .int .i64 y.val, .slice y.rows.1 y.rows.2.1 y.rows.2.2, .int .i64 y.err] 31)
      have hyb := Bk.new wr 31 #[.int .i64 y.kind, .int .i64 y.tx, .int .i64 y.n0, .int .i64 y.n1, .int .i64 y.n2, .int .i64 y.n3, .int .i64 y.dep, .int .i64 y.mode, .int .i64 y.val, .slice y.rows.1 y.rows.2.1 y.rows.2.2, .int .i64 y.err]
      have hB8 := bl_then HBQ (Nat.le_refl _) al
      have HO8 := Lib.hid (ho.alloc (.cells #[.int .i64 y.kind, .int .i64 y.tx, .int .i64 y.n0, .int .i64 y.n1, .int .i64 y.n2, .int .i64 y.n3, .int .i64 y.dep, .int .i64 y.mode, .int .i64 y.val, .slice y.rows.1 y.rows.2.1 y.rows.2.2, .int .i64 y.err] 31))
      have hst : (L.take (j + 1)).filter (fun x => !isOf tx x) = (L.take j).filter (fun x => !isOf tx x) ++ (if y.tx = tx then [y] else []) := by
        rw [take_snocG L j y hy, List.filter_append]
        congr 1
        by_cases e : y.tx = tx <;> simp [isOf, e]
      have x0 := hyb.cell 0
      have x1 := hyb.cell 1
      have x2 := hyb.cell 2
      have x3 := hyb.cell 3
      have x4 := hyb.cell 4
      have x5 := hyb.cell 5
      have x6 := hyb.cell 6
      have x7 := hyb.cell 7
      have x8 := hyb.cell 8
      have x9 := hyb.cell 9
      have x10 := hyb.cell 10
      clear hy hoky hyb ho HBQ al
      by_cases e : y.tx = tx
      · rw [if_pos e] at hst
        have HST := Lib.hid hst
        have HN' : Hid (m + 1 = ((L.take (j + 1)).filter fun x => !isOf tx x).length) := Lib.hid (by rw [hst, List.length_append, ← HN.out]; rfl)
        have hq : (y.tx == tx) = true := by simp [e]
        clear hst e
        go_wp2_with (at_builtin; go_loud (refine wpList_append_one enEv_len (by omega) enEv_one rfl _ _ 22 rfl w.heap.size 31 i0 _ 104 Try.underlying22 hi hz0 hz1 hz2 rfl _ m _ rfl HO8.out y #[.int .i64 y.kind, .int .i64 y.tx, .int .i64 y.n0, .int .i64 y.n1, .int .i64 y.n2, .int .i64 y.n3, .int .i64 y.dep, .int .i64 y.mode, .int .i64 y.val, .slice y.rows.1 y.rows.2.1 y.rows.2.2, .int .i64 y.err] rfl 31 _ rfl (by simp) (by unfold maxLen; omega) (by omega) hB8 hB8.size ?_; intro v' w9 hown9 HB9 hk9; rw [← HST.out] at hown9))
        go_roundw
        case rel => exact ⟨j + 1, m + 1, by omega, by go_num, by omega, HN', hown9, HB9⟩
        case measure => simp [intOf]; omega
      · rw [if_neg e, List.append_nil] at hst
        have HST := Lib.hid hst
        have HN' : Hid (m = ((L.take (j + 1)).filter fun x => !isOf tx x).length) := Lib.hid (by rw [hst]; exact HN.out)
        have hq : (y.tx == tx) = false := by simp [e]
        clear hst e
        go_wp2
        go_roundw
        case rel => exact ⟨j + 1, m, by omega, by go_num, by omega, HN', by rw [HST.out]; exact HO8.out, hB8⟩
        case measure => simp [intOf]; omega
    · obtain rfl : j = len := by omega
      have hfull : L.take j = L := List.take_of_length_le (by rw [HLL.out]; exact Nat.le_refl _)
      rw [hfull] at ho HN
      go_wp2
      go_ret
      exact ⟨_, rfl, by rw [← HN.out]; exact ho, HBQ⟩
end Go.Proofs.Ytjenchijenkndaa
