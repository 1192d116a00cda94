/- The statement ChainOrder: the walk. No condition. -/
import Derived.Test.YthkjkmjcnphjgaaChnE
import Derived.Test.YthkjkmjcnphjgaaChnK
import Derived.Test.YthkjkmjcnphjgaaChnV
import Derived.Test.YthkjkmjcnphjgaaMapB
set_option linter.unusedVariables false
set_option linter.unusedSimpArgs false
namespace Go.Proofs.Ythkjkmjcnphjgaa
open Go.RowKit (wrap32 wrap64)
open Go.RowKit
theorem wf_nat (y : Nat) (h : y < 1000) : (Lit.int .i64 (y : Int)).wf = true := by
  simp only [Lit.wf, Bool.and_eq_true, decide_eq_true_eq]
  constructor
  · show (-9223372036854775808 : Int) ≤ (y : Int); omega
  · show (y : Int) ≤ (9223372036854775807 : Int); omega
set_option maxRecDepth 100000 in
set_option maxHeartbeats 8000000 in
theorem chainOrder_walk (n : Int) (a : Option Addr) (len cap : Nat) (L : List Dd) (i : Int) (w : World) (hl : Dds w a len L) :
    Calls Try.prog 5 #[.int .i64 n, .slice a len cap, .int .i64 i] w fun e w' => e = .returned (.bool true) ∧ Below w.heap.size w w' := by
  have hle := hl.max
  by_cases q1 : 40 < len
  · clear hl
    go_enter Try.func5, Try.ntmps5
    go_wp2_with (go_at_call 13; refine (awake07 _).mono ?_; rintro e w1 ⟨rfl, hb1⟩)
    go_ret
    exact ⟨rfl, hb1⟩
  have q1' : len ≤ 40 := by omega
  by_cases q2 : 30 < n
  · clear hl
    go_enter Try.func5, Try.ntmps5
    go_wp2_with (go_at_call 13; refine (awake07 _).mono ?_; rintro e w1 ⟨rfl, hb1⟩)
    go_ret
    exact ⟨rfl, hb1⟩
  have q2' : n ≤ 30 := by omega
  obtain ⟨N, hN⟩ : ∃ N : Nat, N = n.toNat := ⟨_, rfl⟩
  have hN30 : N ≤ 30 := by omega
  have HNW : Hid (∀ W, Calls Try.prog 14 #[.int .i64 n] W (CNew W N)) := Lib.hid (fun W => by rw [hN]; exact cnewA_any n (by omega) W)
  have HN := Lib.hid hN
  clear hN
  go_enter Try.func5, Try.ntmps5
  go_wp2_with (first
    | (go_at_call 13; refine (awake07 _).mono ?_; rintro e w1 ⟨rfl, hb1⟩)
    | (go_at_call 14; refine (HNW.out _).mono ?_; rintro e w2 ⟨g, h1, h2, rfl, hc, l0, l1, l2, hb2⟩))
  have hs1 := hb1.size
  have hB2 := bl_then hb1 (Nat.le_refl _) hb2
  have hsz := hc.lts
  have hSw : ∀ i, LayS h1 h2 i → w.heap.size ≤ i := (fun i hi => by rcases hi with rfl | rfl <;> omega)
  have hgw : w.heap.size ≤ g := by omega
  have HLW := Lib.hid hl
  obtain ⟨B0, hB0⟩ : ∃ B0, B0 = w2.heap.size := ⟨_, rfl⟩
  have hSB : ∀ i, LayS h1 h2 i → i < B0 := (fun i hi => by rcases hi with rfl | rfl <;> omega)
  have hgB : g < B0 := by omega
  clear hb1 hb2 hl HNW hsz
  go_loopw [40] (fun c wr => ∃ (k : Nat) (R : List (List Nat)), k ≤ len ∧ c = .int .i64 k ∧ Chn wr g h1 h2 N R ∧ Below w.heap.size w wr ∧ B0 ≤ wr.heap.size) (fun c _ => len - (intOf c).toNat)
  case atStart => exact ⟨0, _, by omega, rfl, hc, hB2, by omega⟩
  case round =>
    obtain ⟨k, R, hk, rfl, hA, HB, hBr⟩ := hrel
    clear hc hB2 hB0
    by_cases hlt : k < len
    · obtain ⟨b, off, ⟨kd, rw', pl, ii⟩, rfl, hb, hx, hok, d0, d1, d2, d3⟩ := Dd_at (HLW.out.below HB) hlt
      dsimp only at d0 d1 d2 d3
      have HA := Lib.hid hA
      clear hA hx hok
      by_cases hkd : kd = 0
      · subst hkd
        go_wp2_with (go_at_call 15; refine (cback_any g h1 h2 N R rw' ii _ (HA.out.below ((Below.refl _ _).alloc (Nat.le_refl _) _))).mono ?_; rintro e w4 ⟨rfl, hc4, k4⟩)
        go_roundw
        case rel => exact ⟨k + 1, _, by omega, by go_num, hc4, bl_keep (HB.alloc HB.size _) k4 hSw, by have := k4.size; simp at this; omega⟩
        case measure => simp [intOf]; omega
      · go_wp2_with (go_at_call 17; refine (cahead_any g h1 h2 N R rw' pl ii _ (HA.out.below ((Below.refl _ _).alloc (Nat.le_refl _) _))).mono ?_; rintro e w4 ⟨rfl, hc4, k4⟩)
        go_roundw
        case rel => exact ⟨k + 1, _, by omega, by go_num, hc4, bl_keep (HB.alloc HB.size _) k4 hSw, by have := k4.size; simp at this; omega⟩
        case measure => simp [intOf]; omega
    · obtain rfl : k = len := by omega
      clear hlt HLW hk
      have hr1 := crowR_any g h1 h2 N R i wr hA
      have hli := clist_any g h1 h2 N R (z1 (atI R i)) wr hA (by have := hA.rows (z1 (atI R i)); omega)
      have hct := fun W (hb : Below wr.heap.size wr W) => ccut_any g h1 h2 N R i W (hA.below hb)
      have hrm := hA.rows (z1 (atI R i))
      have hts := hA.lts
      have hrel : ∃ T E, Rel T E R N := by
        obtain ⟨T, E, _, h⟩ := hA
        exact ⟨T, E, h⟩
      obtain ⟨T0, E0, hrel0⟩ := hrel
      have hleft := hrel0.left i
      have hgone := hrel0.gone i
      have hg2 := hrel0.gone2 i
      have hct2 := fun W hc => ccut_any g h1 h2 N (cutR R i) i W hc
      rw [hgone, hg2] at hct2
      clear hgone hg2 hrel0 T0 E0 hA
      generalize cutR R i = R' at hct hleft hct2
      generalize z1 (atI R i) = row at hr1 hli hrm hleft
      generalize (atI R i != -1) = q at hr1 hct hleft
      have hwl : (natI (atR R row)).length = (atR R row).length := List.length_map _
      generalize (atR R row).length = m at hwl hrm
      generalize natI (atR R row) = wl at hli hleft hwl
      have HLEFT := Lib.hid hleft
      have HWL := Lib.hid hwl
      have HR1 := Lib.hid hr1
      have HL1 := Lib.hid hli
      have HC1 := Lib.hid hct
      have HC2 := Lib.hid hct2
      clear hleft hwl hr1 hli hct hct2
      obtain ⟨i0, hi0, hz0, hz1, hz2⟩ := info_parts Try.infoI
      have M1 : True := trivial
      cases q
      · go_wp2_with (first
          | (go_at_call 26; refine HR1.out.mono ?_; rintro e _ ⟨rfl, rfl⟩)
          | (go_at_call 19; refine HL1.out.mono ?_; rintro e w4 ⟨v, rfl, hown, hb4⟩; rw [HWL.out] at hown; obtain ⟨A4, c4, rfl, _, _, _⟩ := SR.own (ok := fun _ => True) enI_len (by omega) hown (fun _ _ => trivial))
          | (go_at_call 24; (have m_ := M1; clear M1 m_); refine (HC1.out _ hb4).mono ?_; rintro e w5 ⟨rfl, hc5, k5⟩)
          | (go_at_call 24; refine (HC2.out _ hc5).mono ?_; rintro e w6 ⟨rfl, hc6, k6⟩))
        have hown6 := own_keepS (own_keepS hown k5 (fun i hi => by have := hSB i hi; omega)) k6 (fun i hi => by have := hSB i hi; omega)
        have hB6 := bl_keep (bl_keep (bl_then HB (Nat.le_refl _) hb4) k5 hSw) k6 hSw
        have hs6 : wr.heap.size ≤ w6.heap.size := by have h1 := hb4.size; have h2 := k5.size; have h3 := k6.size; omega
        obtain ⟨A4', c4', e4, hi6⟩ := ints_own hown6
        obtain ⟨rfl, rfl⟩ : A4 = A4' ∧ c4 = c4' := by injection e4 with e1 _ e2; exact ⟨e1, e2⟩
        clear hown hown6 hb4 hc5 k5 k6 e4 HR1 HL1 HC1 HC2 HB hSB
        obtain ⟨B, hBB⟩ : ∃ B, B = w6.heap.size := ⟨_, rfl⟩
        have hcut : B0 ≤ B := by omega
        go_loopw [13, 83] (fun s13 c wq => ∃ (kk : Nat) (D : List Int) (nD : Nat), kk ≤ m ∧ c = .int .i64 kk ∧ (wl.take kk).filter (keepB i false) = D ∧ D.length = nD ∧ nD ≤ kk ∧ wq.ownsRow B 3 1 s13 nD (flatV enI D) ∧ Below B w6 wq) (fun _ c _ => m - (intOf c).toNat)
        case atStart => exact ⟨0, [], 0, by omega, rfl, rfl, rfl, Nat.le_refl _, World.ownsRow_nil _ _ _ _, Below.refl _ _⟩
        case round =>
          obtain ⟨kk, D, nD, hkk, rfl, hDD, hND, hnk, ho, HBQ⟩ := hrel
          have HDD := Lib.hid hDD
          have HND := Lib.hid hND
          clear hDD hND
          have hiq := hi6.below (by rw [← hBB]; exact HBQ)
          have HC6 := Lib.hid hc6
          clear hc6
          by_cases hlt : kk < m
          · obtain ⟨b, off, rfl, d0⟩ := hiq.get hlt
            have HTK : Hid (wl.take (kk + 1) = wl.take kk ++ [wl.getD kk 0]) := Lib.hid (take_snocG wl kk _ (by rw [List.getD_eq_getElem?_getD, List.getElem?_eq_getElem (by rw [HWL.out]; exact hlt)]; rfl))
            generalize wl.getD kk 0 = y at d0 HTK
            by_cases hy : y = i
            · have HP : Hid (keepB i false y = true) := Lib.hid (by unfold keepB; simp [hy])
              subst hy
              go_wp2_with (at_builtin; refine wpList_append_one enI_len (by omega) enI_one rfl _ _ 22 rfl B 3 i0 _ 8 Try.underlying22 hi0 hz0 hz1 hz2 rfl _ nD D rfl ho y #[.int .i64 y] rfl 3 _ rfl rfl (by unfold maxLen; omega) (by omega) HBQ (by have := HBQ.size; omega) ?_; intro v' w7 ho' hb7 k7)
              go_roundw
              case rel => exact ⟨kk + 1, D ++ [y], nD + 1, by omega, by go_num, by rw [HTK.out, List.filter_append, HDD.out]; simp [HP.out], by simp [HND.out], by omega, ho', hb7⟩
              case measure => simp [intOf]; omega
            · have HP : Hid (keepB i false y = true) := Lib.hid (by unfold keepB; simp [hy])
              have hne : (y != i) = true := bne_iff_ne.2 hy
              clear hy
              go_wp2_with (at_builtin; refine wpList_append_one enI_len (by omega) enI_one rfl _ _ 22 rfl B 3 i0 _ 8 Try.underlying22 hi0 hz0 hz1 hz2 rfl _ nD D rfl ho y #[.int .i64 y] rfl 3 _ rfl rfl (by unfold maxLen; omega) (by omega) HBQ (by have := HBQ.size; omega) ?_; intro v' w7 ho' hb7 k7)
              go_roundw
              case rel => exact ⟨kk + 1, D ++ [y], nD + 1, by omega, by go_num, by rw [HTK.out, List.filter_append, HDD.out]; simp [HP.out], by simp [HND.out], by omega, ho', hb7⟩
              case measure => simp [intOf]; omega
          · obtain rfl : kk = m := by omega
            have hwk : wl.take kk = wl := List.take_of_length_le (by rw [HWL.out]; exact Nat.le_refl _)
            have HDE : Hid (D = natI (atR R' row)) := Lib.hid (by rw [← HDD.out, hwk]; exact HLEFT.out.symm)
            have hmk := fun W => run_makeMap (P := Try.prog) 46 W
            have hmx1 : (if (0 : Int) > n then 0 else n) = (N : Int) := by rw [HN.out]; split <;> omega
            have hmx2 : (if n < 0 then (0 : Int) else n) = (N : Int) := hmx1
            have hc8 : Chn wr g h1 h2 N R' := HC6.out.below (by rw [← hBB]; exact HBQ)
            have hB8 : Below w.heap.size w wr := bl_then hB6 (Nat.le_refl _) (by rw [← hBB]; exact HBQ)
            obtain ⟨A13, c13, rfl, hi13⟩ := ints_own ho
            clear hwk hi6 hiq ho HBQ HDD HC6 HLEFT hB6 hBB hlt
            generalize wr = w8 at hc8 hB8 hi13 ⊢
            go_wp2
            have hM0 : MapB (w8.alloc (.map #[] 0)) w8.heap.size 0 (metO R' 0) := by
              rw [show metO R' 0 = fun _ => false from by funext z; simp [metO]]
              exact MapB.made w8
            have hB9 : Below w8.heap.size w8 (w8.alloc (.map #[] 0)) := (Below.refl _ _).alloc (Nat.le_refl _) _
            generalize w8.alloc (.map #[] 0) = w9 at hM0 hB9 ⊢
            obtain ⟨b, hb⟩ : ∃ b, b = w8.heap.size := ⟨_, rfl⟩
            have hb8 : w8.heap.size ≤ b := by omega
            rw [← hb] at hM0 ⊢
            clear hmk hmx1 hmx2 hb
            go_loopw [102] (fun c wr => ∃ (r cnt : Nat), r ≤ N ∧ c = .int .i64 r ∧ MapB wr b cnt (metO R' r) ∧ cnt ≤ 40 * r ∧ Below w8.heap.size w8 wr) (fun c _ => N - (intOf c).toNat)
            case atStart => exact ⟨0, 0, by omega, rfl, hM0, by omega, hB9⟩
            case round =>
              obtain ⟨r, cnt, hr, rfl, hM, hcnt, HB9⟩ := hrel
              clear hM0 hB9
              have hc9 := hc8.below HB9
              by_cases hlt : r < N
              · have hrn := hc9.rows r
                have hl9 := clist_any g h1 h2 N R' r wr hc9 (by omega)
                have hon : ∀ (k y : Nat), (atR R' r)[k]? = some y → (metI R' r k y = false ∧ y < N) := by
                  obtain ⟨T, E, _, h⟩ := hc9
                  intro k y hy
                  have := h.once r k y hy
                  exact ⟨by unfold metI metO; rw [this.1, this.2]; rfl, (h.rows r).2.1 y (List.mem_of_getElem? hy)⟩
                have hall : metI R' r (atR R' r).length = metO R' (r + 1) := by
                  obtain ⟨T, E, _, h⟩ := hc9
                  exact metI_all h.rl hlt
                have hll : (natI (atR R' r)).length = (atR R' r).length := List.length_map _
                have hgd : ∀ (k y : Nat), (atR R' r)[k]? = some y → (natI (atR R' r)).getD k 0 = y := fun k y hy => by unfold natI; rw [List.getD_eq_getElem?_getD, List.getElem?_map, hy]; rfl
                have hsn := metI_snoc R' r
                have hz := metI_zero R' r
                generalize atR R' r = l0 at hl9 hon hall hll hgd hsn hrn
                generalize hml : l0.length = ml at hall hll hrn
                have HML := Lib.hid hml
                have HLL := Lib.hid hll
                have HALL := Lib.hid hall
                have HON := Lib.hid hon
                have HGD := Lib.hid hgd
                have HSN := Lib.hid hsn
                have HL9 := Lib.hid hl9
                have hbw := hM.lt
                clear hc9 hml hll hall hon hgd hsn hl9
                generalize wr = w10 at hM HB9 HL9 hbw ⊢
                go_wp2_with (go_at_call 19; refine HL9.out.mono ?_; rintro e w11 ⟨v, rfl, hown, hb11⟩; rw [HLL.out] at hown; obtain ⟨A11, c11, rfl, _, _, _⟩ := SR.own (ok := fun _ => True) enI_len (by omega) hown (fun _ _ => trivial))
                have hM11 := hM.below hb11
                have hB11 := bl_then HB9 (Nat.le_refl _) hb11
                clear hM hb11 HB9 HL9
                go_loopw [109] (fun c wr => ∃ (kq cq : Nat), kq ≤ ml ∧ c = .int .i64 kq ∧ MapB wr b cq (metI R' r kq) ∧ cq ≤ 40 * r + kq ∧ Below w8.heap.size w8 wr ∧ Keep (fun i => i = b) w11 wr) (fun c _ => ml - (intOf c).toNat)
                case atStart => exact ⟨0, cnt, by omega, rfl, by rw [hz]; exact hM11, by omega, hB11, Keep.refl _ _⟩
                case round =>
                  obtain ⟨kq, cq, hkq, rfl, hMq, hcq, HBq, kQ⟩ := hrel
                  clear hM11 hB11
                  by_cases hlt2 : kq < ml
                  · obtain ⟨y, hy⟩ : ∃ y, l0[kq]? = some y := ⟨_, List.getElem?_eq_getElem (by rw [HML.out]; exact hlt2)⟩
                    obtain ⟨A11', c11', e11, hi11⟩ := ints_own (own_keepS hown kQ (fun i hi => by subst hi; exact hbw))
                    obtain ⟨rfl, rfl⟩ : A11 = A11' ∧ c11 = c11' := by injection e11 with e1 _ e2; exact ⟨e1, e2⟩
                    obtain ⟨b11, off, rfl, d0⟩ := hi11.get hlt2
                    rw [HGD.out kq y hy] at d0
                    have hwf := wf_nat y (by have := (HON.out kq y hy).2; omega)
                    have hlook := hMq.look y hwf
                    rw [(HON.out kq y hy).1] at hlook
                    have HS := Lib.hid (HSN.out kq y hy)
                    have HMq := Lib.hid hMq
                    clear hi11 e11 hy hMq
                    go_wp2_with (at_mapUpdate; refine wpList_putB rfl _ _ _ rfl rfl HMq.out (by unfold maxLen; omega) (y : Int) rfl hwf rfl ?_; intro w12 hM12 k12)
                    go_roundw
                    case rel => exact ⟨kq + 1, cq + 1, by omega, by go_num, by rw [← HS.out]; exact hM12, by omega, bl_keep HBq k12 (fun i hi => by subst hi; exact hb8), Keep.trans kQ k12⟩
                    case measure => simp [intOf]; omega
                  · obtain rfl : kq = ml := by omega
                    go_wp2
                    go_roundw
                    case rel => exact ⟨r + 1, cq, by omega, by go_num, by rw [← HALL.out]; exact hMq, by omega, HBq⟩
                    case measure => simp [intOf]; omega
              · obtain rfl : r = N := by omega
                have hlz := clist_any g h1 h2 r R' row wr hc9 (by have := hc9.rows row; omega)
                rw [← HDE.out] at hlz
                have HLZ := Lib.hid hlz
                have hiz := hi13.below HB9
                have hB10 := bl_then hB8 (Nat.le_refl _) HB9
                have HIZ := Lib.hid hiz
                have hsm : ∀ l : List Int, sameB l l = true := fun l => decide_eq_true rfl
                clear hc8 hc9 hlz hiz hi13 hM HB9 hB8
                go_wp2_with (first
                  | (go_at_call 26; refine (crowN_any _ _).mono ?_; rintro e _ ⟨rfl, rfl⟩)
                  | (go_at_call 16; refine (cfirstN_any _ _).mono ?_; rintro e _ ⟨rfl, rfl⟩)
                  | (go_at_call 29; refine (cnextN_any _ _).mono ?_; rintro e _ ⟨rfl, rfl⟩)
                  | (go_at_call 19; refine HLZ.out.mono ?_; rintro e w13 ⟨v, rfl, hown, hb13⟩; rw [HND.out] at hown; obtain ⟨A14, c14, rfl, hi14⟩ := ints_own hown; clear hown)
                  | (go_at_call 18; refine (same_any _ _ _ _ _ _ D D _ hi14 (HIZ.out.below hb13)).mono ?_; rintro e w14 ⟨rfl, hb14⟩; rw [hsm])
                  | (go_at_call 15; refine (cbackN_any _ _ _).mono ?_; rintro e _ ⟨rfl, rfl⟩)
                  | (go_at_call 17; refine (caheadN_any _ _ _ _).mono ?_; rintro e _ ⟨rfl, rfl⟩)
                  | (go_at_call 24; refine (ccutN_any _ _).mono ?_; rintro e _ ⟨rfl, rfl⟩)
                  | (go_at_call 20; refine (clenN_any _ _).mono ?_; rintro e _ ⟨rfl, rfl⟩))
                go_ret
                exact ⟨rfl, bl_then (bl_then hB10 (Nat.le_refl _) hb13) (Nat.le_refl _) hb14⟩
      · go_wp2_with (first
          | (go_at_call 26; refine HR1.out.mono ?_; rintro e _ ⟨rfl, rfl⟩)
          | (go_at_call 19; refine HL1.out.mono ?_; rintro e w4 ⟨v, rfl, hown, hb4⟩; rw [HWL.out] at hown; obtain ⟨A4, c4, rfl, _, _, _⟩ := SR.own (ok := fun _ => True) enI_len (by omega) hown (fun _ _ => trivial))
          | (go_at_call 24; (have m_ := M1; clear M1 m_); refine (HC1.out _ hb4).mono ?_; rintro e w5 ⟨rfl, hc5, k5⟩)
          | (go_at_call 24; refine (HC2.out _ hc5).mono ?_; rintro e w6 ⟨rfl, hc6, k6⟩))
        have hown6 := own_keepS (own_keepS hown k5 (fun i hi => by have := hSB i hi; omega)) k6 (fun i hi => by have := hSB i hi; omega)
        have hB6 := bl_keep (bl_keep (bl_then HB (Nat.le_refl _) hb4) k5 hSw) k6 hSw
        have hs6 : wr.heap.size ≤ w6.heap.size := by have h1 := hb4.size; have h2 := k5.size; have h3 := k6.size; omega
        obtain ⟨A4', c4', e4, hi6⟩ := ints_own hown6
        obtain ⟨rfl, rfl⟩ : A4 = A4' ∧ c4 = c4' := by injection e4 with e1 _ e2; exact ⟨e1, e2⟩
        clear hown hown6 hb4 hc5 k5 k6 e4 HR1 HL1 HC1 HC2 HB hSB
        obtain ⟨B, hBB⟩ : ∃ B, B = w6.heap.size := ⟨_, rfl⟩
        have hcut : B0 ≤ B := by omega
        go_loopw [13, 83] (fun s13 c wq => ∃ (kk : Nat) (D : List Int) (nD : Nat), kk ≤ m ∧ c = .int .i64 kk ∧ (wl.take kk).filter (keepB i true) = D ∧ D.length = nD ∧ nD ≤ kk ∧ wq.ownsRow B 3 1 s13 nD (flatV enI D) ∧ Below B w6 wq) (fun _ c _ => m - (intOf c).toNat)
        case atStart => exact ⟨0, [], 0, by omega, rfl, rfl, rfl, Nat.le_refl _, World.ownsRow_nil _ _ _ _, Below.refl _ _⟩
        case round =>
          obtain ⟨kk, D, nD, hkk, rfl, hDD, hND, hnk, ho, HBQ⟩ := hrel
          have HDD := Lib.hid hDD
          have HND := Lib.hid hND
          clear hDD hND
          have hiq := hi6.below (by rw [← hBB]; exact HBQ)
          have HC6 := Lib.hid hc6
          clear hc6
          by_cases hlt : kk < m
          · obtain ⟨b, off, rfl, d0⟩ := hiq.get hlt
            have HTK : Hid (wl.take (kk + 1) = wl.take kk ++ [wl.getD kk 0]) := Lib.hid (take_snocG wl kk _ (by rw [List.getD_eq_getElem?_getD, List.getElem?_eq_getElem (by rw [HWL.out]; exact hlt)]; rfl))
            generalize wl.getD kk 0 = y at d0 HTK
            by_cases hy : y = i
            · have HP : Hid (keepB i true y = false) := Lib.hid (by unfold keepB; simp [hy])
              subst hy
              go_wp2
              go_roundw
              case rel => exact ⟨kk + 1, D, nD, by omega, by go_num, by rw [HTK.out, List.filter_append, HDD.out]; simp [HP.out], HND.out, by omega, ho, HBQ⟩
              case measure => simp [intOf]; omega
            · have HP : Hid (keepB i true y = true) := Lib.hid (by unfold keepB; simp [hy])
              have hne : (y != i) = true := bne_iff_ne.2 hy
              clear hy
              go_wp2_with (at_builtin; refine wpList_append_one enI_len (by omega) enI_one rfl _ _ 22 rfl B 3 i0 _ 8 Try.underlying22 hi0 hz0 hz1 hz2 rfl _ nD D rfl ho y #[.int .i64 y] rfl 3 _ rfl rfl (by unfold maxLen; omega) (by omega) HBQ (by have := HBQ.size; omega) ?_; intro v' w7 ho' hb7 k7)
              go_roundw
              case rel => exact ⟨kk + 1, D ++ [y], nD + 1, by omega, by go_num, by rw [HTK.out, List.filter_append, HDD.out]; simp [HP.out], by simp [HND.out], by omega, ho', hb7⟩
              case measure => simp [intOf]; omega
          · obtain rfl : kk = m := by omega
            have hwk : wl.take kk = wl := List.take_of_length_le (by rw [HWL.out]; exact Nat.le_refl _)
            have HDE : Hid (D = natI (atR R' row)) := Lib.hid (by rw [← HDD.out, hwk]; exact HLEFT.out.symm)
            have hmk := fun W => run_makeMap (P := Try.prog) 46 W
            have hmx1 : (if (0 : Int) > n then 0 else n) = (N : Int) := by rw [HN.out]; split <;> omega
            have hmx2 : (if n < 0 then (0 : Int) else n) = (N : Int) := hmx1
            have hc8 : Chn wr g h1 h2 N R' := HC6.out.below (by rw [← hBB]; exact HBQ)
            have hB8 : Below w.heap.size w wr := bl_then hB6 (Nat.le_refl _) (by rw [← hBB]; exact HBQ)
            obtain ⟨A13, c13, rfl, hi13⟩ := ints_own ho
            clear hwk hi6 hiq ho HBQ HDD HC6 HLEFT hB6 hBB hlt
            generalize wr = w8 at hc8 hB8 hi13 ⊢
            go_wp2
            have hM0 : MapB (w8.alloc (.map #[] 0)) w8.heap.size 0 (metO R' 0) := by
              rw [show metO R' 0 = fun _ => false from by funext z; simp [metO]]
              exact MapB.made w8
            have hB9 : Below w8.heap.size w8 (w8.alloc (.map #[] 0)) := (Below.refl _ _).alloc (Nat.le_refl _) _
            generalize w8.alloc (.map #[] 0) = w9 at hM0 hB9 ⊢
            obtain ⟨b, hb⟩ : ∃ b, b = w8.heap.size := ⟨_, rfl⟩
            have hb8 : w8.heap.size ≤ b := by omega
            rw [← hb] at hM0 ⊢
            clear hmk hmx1 hmx2 hb
            go_loopw [102] (fun c wr => ∃ (r cnt : Nat), r ≤ N ∧ c = .int .i64 r ∧ MapB wr b cnt (metO R' r) ∧ cnt ≤ 40 * r ∧ Below w8.heap.size w8 wr) (fun c _ => N - (intOf c).toNat)
            case atStart => exact ⟨0, 0, by omega, rfl, hM0, by omega, hB9⟩
            case round =>
              obtain ⟨r, cnt, hr, rfl, hM, hcnt, HB9⟩ := hrel
              clear hM0 hB9
              have hc9 := hc8.below HB9
              by_cases hlt : r < N
              · have hrn := hc9.rows r
                have hl9 := clist_any g h1 h2 N R' r wr hc9 (by omega)
                have hon : ∀ (k y : Nat), (atR R' r)[k]? = some y → (metI R' r k y = false ∧ y < N) := by
                  obtain ⟨T, E, _, h⟩ := hc9
                  intro k y hy
                  have := h.once r k y hy
                  exact ⟨by unfold metI metO; rw [this.1, this.2]; rfl, (h.rows r).2.1 y (List.mem_of_getElem? hy)⟩
                have hall : metI R' r (atR R' r).length = metO R' (r + 1) := by
                  obtain ⟨T, E, _, h⟩ := hc9
                  exact metI_all h.rl hlt
                have hll : (natI (atR R' r)).length = (atR R' r).length := List.length_map _
                have hgd : ∀ (k y : Nat), (atR R' r)[k]? = some y → (natI (atR R' r)).getD k 0 = y := fun k y hy => by unfold natI; rw [List.getD_eq_getElem?_getD, List.getElem?_map, hy]; rfl
                have hsn := metI_snoc R' r
                have hz := metI_zero R' r
                generalize atR R' r = l0 at hl9 hon hall hll hgd hsn hrn
                generalize hml : l0.length = ml at hall hll hrn
                have HML := Lib.hid hml
                have HLL := Lib.hid hll
                have HALL := Lib.hid hall
                have HON := Lib.hid hon
                have HGD := Lib.hid hgd
                have HSN := Lib.hid hsn
                have HL9 := Lib.hid hl9
                have hbw := hM.lt
                clear hc9 hml hll hall hon hgd hsn hl9
                generalize wr = w10 at hM HB9 HL9 hbw ⊢
                go_wp2_with (go_at_call 19; refine HL9.out.mono ?_; rintro e w11 ⟨v, rfl, hown, hb11⟩; rw [HLL.out] at hown; obtain ⟨A11, c11, rfl, _, _, _⟩ := SR.own (ok := fun _ => True) enI_len (by omega) hown (fun _ _ => trivial))
                have hM11 := hM.below hb11
                have hB11 := bl_then HB9 (Nat.le_refl _) hb11
                clear hM hb11 HB9 HL9
                go_loopw [109] (fun c wr => ∃ (kq cq : Nat), kq ≤ ml ∧ c = .int .i64 kq ∧ MapB wr b cq (metI R' r kq) ∧ cq ≤ 40 * r + kq ∧ Below w8.heap.size w8 wr ∧ Keep (fun i => i = b) w11 wr) (fun c _ => ml - (intOf c).toNat)
                case atStart => exact ⟨0, cnt, by omega, rfl, by rw [hz]; exact hM11, by omega, hB11, Keep.refl _ _⟩
                case round =>
                  obtain ⟨kq, cq, hkq, rfl, hMq, hcq, HBq, kQ⟩ := hrel
                  clear hM11 hB11
                  by_cases hlt2 : kq < ml
                  · obtain ⟨y, hy⟩ : ∃ y, l0[kq]? = some y := ⟨_, List.getElem?_eq_getElem (by rw [HML.out]; exact hlt2)⟩
                    obtain ⟨A11', c11', e11, hi11⟩ := ints_own (own_keepS hown kQ (fun i hi => by subst hi; exact hbw))
                    obtain ⟨rfl, rfl⟩ : A11 = A11' ∧ c11 = c11' := by injection e11 with e1 _ e2; exact ⟨e1, e2⟩
                    obtain ⟨b11, off, rfl, d0⟩ := hi11.get hlt2
                    rw [HGD.out kq y hy] at d0
                    have hwf := wf_nat y (by have := (HON.out kq y hy).2; omega)
                    have hlook := hMq.look y hwf
                    rw [(HON.out kq y hy).1] at hlook
                    have HS := Lib.hid (HSN.out kq y hy)
                    have HMq := Lib.hid hMq
                    clear hi11 e11 hy hMq
                    go_wp2_with (at_mapUpdate; refine wpList_putB rfl _ _ _ rfl rfl HMq.out (by unfold maxLen; omega) (y : Int) rfl hwf rfl ?_; intro w12 hM12 k12)
                    go_roundw
                    case rel => exact ⟨kq + 1, cq + 1, by omega, by go_num, by rw [← HS.out]; exact hM12, by omega, bl_keep HBq k12 (fun i hi => by subst hi; exact hb8), Keep.trans kQ k12⟩
                    case measure => simp [intOf]; omega
                  · obtain rfl : kq = ml := by omega
                    go_wp2
                    go_roundw
                    case rel => exact ⟨r + 1, cq, by omega, by go_num, by rw [← HALL.out]; exact hMq, by omega, HBq⟩
                    case measure => simp [intOf]; omega
              · obtain rfl : r = N := by omega
                have hlz := clist_any g h1 h2 r R' row wr hc9 (by have := hc9.rows row; omega)
                rw [← HDE.out] at hlz
                have HLZ := Lib.hid hlz
                have hiz := hi13.below HB9
                have hB10 := bl_then hB8 (Nat.le_refl _) HB9
                have HIZ := Lib.hid hiz
                have hsm : ∀ l : List Int, sameB l l = true := fun l => decide_eq_true rfl
                clear hc8 hc9 hlz hiz hi13 hM HB9 hB8
                go_wp2_with (first
                  | (go_at_call 26; refine (crowN_any _ _).mono ?_; rintro e _ ⟨rfl, rfl⟩)
                  | (go_at_call 16; refine (cfirstN_any _ _).mono ?_; rintro e _ ⟨rfl, rfl⟩)
                  | (go_at_call 29; refine (cnextN_any _ _).mono ?_; rintro e _ ⟨rfl, rfl⟩)
                  | (go_at_call 19; refine HLZ.out.mono ?_; rintro e w13 ⟨v, rfl, hown, hb13⟩; rw [HND.out] at hown; obtain ⟨A14, c14, rfl, hi14⟩ := ints_own hown; clear hown)
                  | (go_at_call 18; refine (same_any _ _ _ _ _ _ D D _ hi14 (HIZ.out.below hb13)).mono ?_; rintro e w14 ⟨rfl, hb14⟩; rw [hsm])
                  | (go_at_call 15; refine (cbackN_any _ _ _).mono ?_; rintro e _ ⟨rfl, rfl⟩)
                  | (go_at_call 17; refine (caheadN_any _ _ _ _).mono ?_; rintro e _ ⟨rfl, rfl⟩)
                  | (go_at_call 24; refine (ccutN_any _ _).mono ?_; rintro e _ ⟨rfl, rfl⟩)
                  | (go_at_call 20; refine (clenN_any _ _).mono ?_; rintro e _ ⟨rfl, rfl⟩))
                go_ret
                exact ⟨rfl, bl_then (bl_then hB10 (Nat.le_refl _) hb13) (Nat.le_refl _) hb14⟩
end Go.Proofs.Ythkjkmjcnphjgaa
