/- The statement ChainBuilds: the walk. No condition. -/
import Derived.Test.YthkjkmjcnphjgaaChnU
set_option linter.unusedVariables false
set_option linter.unusedSimpArgs false
namespace Go.Proofs.Ythkjkmjcnphjgaa
open Go.RowKit (wrap32 wrap64)
open Go.RowKit
theorem Chn.lts {w : World} {g h1 h2 n : Nat} {R : List (List Nat)} (c : Chn w g h1 h2 n R) : g < w.heap.size ∧ h1 < w.heap.size ∧ h2 < w.heap.size := by
  obtain ⟨T, E, c, _⟩ := c
  exact ⟨c.bk.lt, c.r1.lt, c.r2.lt⟩
theorem own_blk_lt {w : World} {base E s n : Nat} {v : Value} {xs : List Value} (h : w.ownsRow base E s v n xs) : ∀ i, v.ownBlock = some i → base ≤ i ∧ i < w.heap.size := by
  intro i hi
  rcases h.2 with ⟨rfl, _⟩ | ⟨g, cap, cur, rfl, hb, hw, _⟩
  · cases hi
  · cases hi; exact ⟨hb, (Array.getElem?_eq_some_iff.1 hw).1⟩
theorem own_keepB {w w1 : World} {S : Nat → Prop} {base : Nat} {e : TypeId} {size n : Nat} {v : Value} {xs : List Value} (ho : w.ownsRow base e size v n xs) (k : Keep S w w1) (hS : ∀ i, v.ownBlock = some i → ¬ S i) : w1.ownsRow base e size v n xs := by
  refine ⟨ho.1, ?_⟩
  rcases ho.2 with hn | ⟨g, cap', cur, hv, hb, hg, r⟩
  · exact .inl hn
  · exact .inr ⟨g, cap', cur, hv, hb, (k.block g (Array.getElem?_eq_some_iff.1 hg).1 (hS g (by rw [hv]; rfl))).trans hg, r⟩
set_option maxRecDepth 100000 in
set_option maxHeartbeats 8000000 in
theorem chainBuilds_walk (a : Option Addr) (len cap : Nat) (xs : List Int) (row : Int) (w : World) (hl : Ints w a len xs) :
    Calls Try.prog 3 #[.slice a len cap, .int .i64 row] w fun e w' => e = .returned (.bool true) ∧ Below w.heap.size w w' := by
  have hle := hl.le
  have hll := hl.len
  by_cases hgo : len ≤ 30 ∧ 0 ≤ row ∧ row < 40
  case neg =>
    by_cases q1 : 30 < len
    · clear hl hll hgo
      go_enter Try.func3, Try.ntmps3
      go_wp2_with (go_at_call 13; refine (awake07 _).mono ?_; rintro e w1 ⟨rfl, hb1⟩)
      go_ret
      exact ⟨rfl, hb1⟩
    · have q1' : len ≤ 30 := by omega
      by_cases q2 : row < 0
      · clear hl hll hgo
        go_enter Try.func3, Try.ntmps3
        go_wp2_with (go_at_call 13; refine (awake07 _).mono ?_; rintro e w1 ⟨rfl, hb1⟩)
        go_ret
        exact ⟨rfl, hb1⟩
      · have q3 : 40 ≤ row := by omega
        clear hl hll hgo
        go_enter Try.func3, Try.ntmps3
        go_wp2_with (go_at_call 13; refine (awake07 _).mono ?_; rintro e w1 ⟨rfl, hb1⟩)
        go_ret
        exact ⟨rfl, hb1⟩
  case pos =>
    obtain ⟨g30, g0, g40⟩ := hgo
    obtain ⟨r, rfl⟩ : ∃ r : Nat, row = r := ⟨row.toNat, by omega⟩
    have hr : r < 40 := by omega
    have HNW := Lib.hid (rowsW_new r hr)
    have M1 : True := trivial
    go_enter Try.func3, Try.ntmps3
    go_wp2_with (first
      | (go_at_call 13; refine (awake07 _).mono ?_; rintro e w1 ⟨rfl, hb1⟩)
      | (go_at_call 14; (have m_ := M1; clear M1 m_); refine (cnew_any 40 (by omega) _).mono ?_; rintro e w2 ⟨ga, ha1, ha2, rfl, hca, la0, la1, la2, hb2⟩; rw [HNW.out] at hca)
      | (go_at_call 14; refine (cnew_any 40 (by omega) _).mono ?_; rintro e w3 ⟨gb, hc1, hc2, rfl, hcb, lb0, lb1, lb2, hb3⟩; rw [HNW.out] at hcb))
    have hHA := hca.below hb3
    have hsz := hHA.lts
    have hsb := hcb.lts
    have hla := hca.lts
    have hB3 := bl_then (bl_then hb1 (Nat.le_refl _) hb2) (Nat.le_refl _) hb3
    have hs1 := hb1.size
    have hs2 := hb2.size
    have hs3 := hb3.size
    have hl3 := hl.below hB3
    have HLW := Lib.hid hl
    clear hca hb1 hb2 hb3 hl HNW
    have hSA : ∀ i, LayS ha1 ha2 i → i < w3.heap.size := (fun i hi => by rcases hi with rfl | rfl <;> omega)
    have hSAw : ∀ i, LayS ha1 ha2 i → w.heap.size ≤ i := (fun i hi => by rcases hi with rfl | rfl <;> omega)
    have hSB : ∀ i, LayS hc1 hc2 i → i < w3.heap.size := (fun i hi => by rcases hi with rfl | rfl <;> omega)
    have hSBw : ∀ i, LayS hc1 hc2 i → w.heap.size ≤ i := (fun i hi => by rcases hi with rfl | rfl <;> omega)
    have nA0 : ¬ LayS hc1 hc2 ga := (fun hi => by rcases hi with h | h <;> omega)
    have nA1 : ¬ LayS hc1 hc2 ha1 := (fun hi => by rcases hi with h | h <;> omega)
    have nA2 : ¬ LayS hc1 hc2 ha2 := (fun hi => by rcases hi with h | h <;> omega)
    have nB0 : ¬ LayS ha1 ha2 gb := (fun hi => by rcases hi with h | h <;> omega)
    have nB1 : ¬ LayS ha1 ha2 hc1 := (fun hi => by rcases hi with h | h <;> omega)
    have nB2 : ¬ LayS ha1 ha2 hc2 := (fun hi => by rcases hi with h | h <;> omega)
    obtain ⟨B, hBB⟩ : ∃ B, B = w3.heap.size := ⟨_, rfl⟩
    go_loopw [7, 8, 31] (fun s7 s8 c wr => ∃ (k : Nat) (W : List Nat) (B8 : Nat), k ≤ len ∧ c = .int .i64 k ∧ W.length ≤ k ∧ (∀ i ∈ W, i < 40) ∧ wr.ownsRow B 3 1 s7 W.length (flatV enI (natI W)) ∧ wr.ownsRow B8 3 1 s8 W.length (flatV enI (natI W.reverse)) ∧ B ≤ B8 ∧ (∀ i, s7.ownBlock = some i → i < B8) ∧ Chn wr ga ha1 ha2 40 (rowsW r W) ∧ Chn wr gb hc1 hc2 40 (rowsW r W.reverse) ∧ Below w.heap.size w wr ∧ B ≤ wr.heap.size) (fun _ _ c _ => len - (intOf c).toNat)
    case atStart => exact ⟨0, [], B, by omega, rfl, Nat.le_refl _, by simp, World.ownsRow_nil _ _ _ _, World.ownsRow_nil _ _ _ _, Nat.le_refl _, (by intro i h; cases h), hHA, hcb, hB3, by omega⟩
    case round =>
      obtain ⟨k, W, B8, hk, rfl, hWk, hW40, ho7, ho8, hB8, h78, hA, hC, HB, hBw⟩ := hrel
      clear hHA hcb hB3 hl3
      by_cases hlt : k < len
      · obtain ⟨b, off, rfl, d0⟩ := (HLW.out.below HB).get hlt
        generalize xs.getD k 0 = x at d0
        have hbk := cback_any ga ha1 ha2 40 (rowsW r W) r x wr hA
        rw [rowsW_free r W hr, rowsW_back r W hr] at hbk
        cases hg : goodX W x with
        | false =>
          rw [hg, if_neg (by simp)] at hbk
          have HBK := Lib.hid hbk
          clear hbk hg hA
          go_wp2_with (go_at_call 15; refine HBK.out.mono ?_; rintro e w4 ⟨rfl, hA4, k4⟩)
          go_roundw
          case rel => exact ⟨k + 1, W, B8, by omega, by go_num, by omega, hW40, own_keepS ho7 k4 (fun i hi => by have := hSA i hi; omega), own_keepS ho8 k4 (fun i hi => by have := hSA i hi; omega), hB8, h78, hA4, hC.keep k4 nB0 nB1 nB2, bl_keep HB k4 hSAw, Nat.le_trans hBw k4.size⟩
          case measure => simp [intOf]; omega
        | true =>
          rw [hg, if_pos rfl] at hbk
          have hgg := hg
          unfold goodX at hgg
          simp only [Bool.and_eq_true, Bool.not_eq_true'] at hgg
          obtain ⟨X, rfl, hX⟩ : ∃ X : Nat, x = X ∧ X < 40 := ⟨x.toNat, by have := hgg.1; unfold inC at this; simp at this; omega, by have := hgg.1; unfold inC at this; simp at this; omega⟩
          rw [show ((X : Nat) : Int).toNat = X by omega] at hbk
          obtain ⟨i0, hi0, hz0, hz1, hz2⟩ := info_parts Try.infoI
          have HBK := Lib.hid hbk
          have HGR := Lib.hid ((goodX_rev W (X : Int)).trans hg)
          have HW40 : Hid (∀ i ∈ W ++ [X], i < 40) := Lib.hid (fun i hi => by rcases List.mem_append.1 hi with h | h; exact hW40 i h; rw [List.mem_singleton.1 h]; exact hX)
          have HN7 : Hid (natI W ++ [(X : Int)] = natI (W ++ [X])) := Lib.hid (by unfold natI; simp)
          have HN8 : Hid ([(X : Int)] ++ natI W.reverse = natI (W ++ [X]).reverse) := Lib.hid (by unfold natI; simp)
          have hwl8 : (natI W.reverse).length = W.length := by unfold natI; rw [List.length_map, List.length_reverse]
          clear hbk hg hA hgg hwl8
          cases hWr : W.reverse with
          | nil =>
            have HREV : Hid ((W ++ [X]).reverse = [X]) := Lib.hid (by rw [List.reverse_append, hWr]; rfl)
            have HFI : Hid (∀ W6, Chn W6 gb hc1 hc2 40 (rowsW r W.reverse) → Calls Try.prog 16 #[.pointer (some ⟨gb, 0, none⟩), .int .i64 r] W6 fun e w' => e = .returned (.tuple #[.int .i64 0, .bool false]) ∧ W6 = w') := Lib.hid (fun W6 h => by
              have q := cfirstR_any gb hc1 hc2 40 _ r W6 h
              rw [rowsW_at r _ hr, hWr] at q
              exact q)
            have HBB : Hid (∀ W6, Chn W6 gb hc1 hc2 40 (rowsW r W.reverse) → Calls Try.prog 15 #[.pointer (some ⟨gb, 0, none⟩), .int .i64 r, .int .i64 X] W6 (ChnRet W6 true gb hc1 hc2 40 (rowsW r (W ++ [X]).reverse))) := Lib.hid (fun W6 h => by
              have q := cback_any gb hc1 hc2 40 _ r X W6 h
              rw [rowsW_free r _ hr, rowsW_back r _ hr, HGR.out, if_pos rfl, hWr] at q
              rw [HREV.out]
              exact q)
            clear hWr
            go_wp2_with (first
              | (go_at_call_of 15 (Value.pointer (some ⟨ga, 0, none⟩)); refine HBK.out.mono ?_; rintro e w4 ⟨rfl, hA4, k4⟩; have ho7b := own_keepS ho7 k4 (fun i hi => by have := hSA i hi; omega); have ho8b := own_keepS ho8 k4 (fun i hi => by have := hSA i hi; omega); have hCb := hC.keep k4 nB0 nB1 nB2; have hs4 := k4.size; have hw4 := bl_keep HB k4 hSAw)
              | (at_builtin; refine wpList_append_one enI_len (by omega) enI_one rfl _ _ 22 rfl B 3 i0 _ 8 Try.underlying22 hi0 hz0 hz1 hz2 rfl _ _ (natI W) rfl ho7b (X : Int) #[.int .i64 (X : Int)] rfl 3 _ rfl rfl (by unfold maxLen; omega) (by omega) (Below.refl B w4) (by omega) ?_; intro v7' w5 ho7c hb5 k5; rw [HN7.out] at ho7c; have ho8c := own_keepS ho8b k5 (fun i hi => h78 i hi); have hs5 := k5.size; obtain ⟨A8, c8, rfl, hs8, hn8, _⟩ := SR.own (ok := fun _ => True) enI_len (by omega) ho8c (fun _ _ => trivial); have hlit := World.ownsRow_lit (base := w5.heap.size) (e := 3) (size := 1) w5 #[.int .i64 (X : Int)] 1 (Nat.le_refl _) (by unfold maxLen; omega) rfl)
              | (at_builtin; refine wpList_append_sr enI_len (by omega) enI_one rfl _ _ 22 rfl w5.heap.size 3 i0 _ 8 Try.underlying22 hi0 hz0 hz1 hz2 rfl _ 1 [(X : Int)] rfl hlit A8 W.length c8 (natI W.reverse) rfl (hs8.below ((Below.refl _ _).alloc (Nat.le_refl _) _)) hn8 (by unfold maxLen; omega) (by omega) (by simp) ?_; intro v8' w6 ho8d hgr; rw [HN8.out] at ho8d; have k6 := Keep.trans (Keep.alloc w5 (.cells #[.int .i64 (X : Int)] 3) (fun i => i = w5.heap.size)) (grown_keep hgr (fun i => i = w5.heap.size) (fun i hi => by cases hi; rfl)); have hCd := (hCb.keep k5 (fun h => by have := (own_blk_lt ho7b _ h).1; omega) (fun h => by have := (own_blk_lt ho7b _ h).1; omega) (fun h => by have := (own_blk_lt ho7b _ h).1; omega)).keep k6 (by omega) (by omega) (by omega); have hs6 := k6.size)
              | (go_at_call_of 16 (Value.pointer (some ⟨gb, 0, none⟩)); refine (HFI.out _ hCd).mono ?_; rintro e _ ⟨rfl, rfl⟩)
              | (go_at_call_of 15 (Value.pointer (some ⟨gb, 0, none⟩)); refine (HBB.out _ hCd).mono ?_; rintro e w7 ⟨rfl, hC7, k7⟩))
            go_roundw
            case rel =>
              have n7 : ∀ i, v7'.ownBlock = some i → i < w5.heap.size := fun i hi => (own_blk_lt ho7c i hi).2
              have e7 := own_keepS (own_keepB ho7c k6 (fun i hi h => by have := n7 i hi; omega)) k7 (fun i hi => by have := hSB i hi; omega)
              have e8 := own_keepS ho8d k7 (fun i hi => by have := hSB i hi; omega)
              have hA5 := hA4.keep k5 (fun h => by have := (own_blk_lt ho7b _ h).1; omega) (fun h => by have := (own_blk_lt ho7b _ h).1; omega) (fun h => by have := (own_blk_lt ho7b _ h).1; omega)
              have hA7 := (hA5.keep k6 (by omega) (by omega) (by omega)).keep k7 nA0 nA1 nA2
              have hB7 := bl_keep (bl_keep (bl_keep hw4 k5 (fun i h => by have := (own_blk_lt ho7b _ h).1; omega)) k6 (fun i h => by omega)) k7 hSBw
              have hs7 := k7.size
              have hlen : (W ++ [X]).length = W.length + 1 := by rw [List.length_append]; rfl
              exact ⟨k + 1, W ++ [X], w5.heap.size, by omega, by go_num, by omega, HW40.out, (by rw [hlen]; exact e7), (by rw [hlen, Nat.add_comm]; exact e8), by omega, n7, hA7, hC7, hB7, by omega⟩
            case measure => simp [intOf]; omega
          | cons f V =>
            have HREV : Hid ((W ++ [X]).reverse = X :: f :: V) := Lib.hid (by rw [List.reverse_append, hWr]; rfl)
            have hf40 : f < 40 := hW40 f (List.mem_reverse.1 (by rw [hWr]; exact List.mem_cons_self))
            have HFI : Hid (∀ W6, Chn W6 gb hc1 hc2 40 (rowsW r W.reverse) → Calls Try.prog 16 #[.pointer (some ⟨gb, 0, none⟩), .int .i64 r] W6 fun e w' => e = .returned (.tuple #[.int .i64 f, .bool true]) ∧ W6 = w') := Lib.hid (fun W6 h => by
              have q := cfirstR_any gb hc1 hc2 40 _ r W6 h
              rw [rowsW_at r _ hr, hWr, show hdI (f :: V) = (f : Int) from rfl, show z1 (f : Int) = f from if_neg (by omega), show ((f : Int) != -1) = true from bne_iff_ne.2 (by omega)] at q
              exact q)
            have HBB : Hid (∀ W6, Chn W6 gb hc1 hc2 40 (rowsW r W.reverse) → Calls Try.prog 17 #[.pointer (some ⟨gb, 0, none⟩), .int .i64 r, .int .i64 f, .int .i64 X] W6 (ChnRet W6 true gb hc1 hc2 40 (rowsW r (W ++ [X]).reverse))) := Lib.hid (fun W6 h => by
              have hgd : goodX (f :: V) (X : Int) = true := by rw [← hWr]; exact HGR.out
              rw [hWr] at h
              have q := cahead_any gb hc1 hc2 40 _ r f X W6 h
              rw [rowsW_aheadB r f V hr hf40, rowsW_ahead r f V hr hf40 _ hgd, hgd, show ((X : Nat) : Int).toNat = X by omega] at q
              rw [HREV.out]
              exact q)
            clear hWr
            go_wp2_with (first
              | (go_at_call_of 15 (Value.pointer (some ⟨ga, 0, none⟩)); refine HBK.out.mono ?_; rintro e w4 ⟨rfl, hA4, k4⟩; have ho7b := own_keepS ho7 k4 (fun i hi => by have := hSA i hi; omega); have ho8b := own_keepS ho8 k4 (fun i hi => by have := hSA i hi; omega); have hCb := hC.keep k4 nB0 nB1 nB2; have hs4 := k4.size; have hw4 := bl_keep HB k4 hSAw)
              | (at_builtin; refine wpList_append_one enI_len (by omega) enI_one rfl _ _ 22 rfl B 3 i0 _ 8 Try.underlying22 hi0 hz0 hz1 hz2 rfl _ _ (natI W) rfl ho7b (X : Int) #[.int .i64 (X : Int)] rfl 3 _ rfl rfl (by unfold maxLen; omega) (by omega) (Below.refl B w4) (by omega) ?_; intro v7' w5 ho7c hb5 k5; rw [HN7.out] at ho7c; have ho8c := own_keepS ho8b k5 (fun i hi => h78 i hi); have hs5 := k5.size; obtain ⟨A8, c8, rfl, hs8, hn8, _⟩ := SR.own (ok := fun _ => True) enI_len (by omega) ho8c (fun _ _ => trivial); have hlit := World.ownsRow_lit (base := w5.heap.size) (e := 3) (size := 1) w5 #[.int .i64 (X : Int)] 1 (Nat.le_refl _) (by unfold maxLen; omega) rfl)
              | (at_builtin; refine wpList_append_sr enI_len (by omega) enI_one rfl _ _ 22 rfl w5.heap.size 3 i0 _ 8 Try.underlying22 hi0 hz0 hz1 hz2 rfl _ 1 [(X : Int)] rfl hlit A8 W.length c8 (natI W.reverse) rfl (hs8.below ((Below.refl _ _).alloc (Nat.le_refl _) _)) hn8 (by unfold maxLen; omega) (by omega) (by simp) ?_; intro v8' w6 ho8d hgr; rw [HN8.out] at ho8d; have k6 := Keep.trans (Keep.alloc w5 (.cells #[.int .i64 (X : Int)] 3) (fun i => i = w5.heap.size)) (grown_keep hgr (fun i => i = w5.heap.size) (fun i hi => by cases hi; rfl)); have hCd := (hCb.keep k5 (fun h => by have := (own_blk_lt ho7b _ h).1; omega) (fun h => by have := (own_blk_lt ho7b _ h).1; omega) (fun h => by have := (own_blk_lt ho7b _ h).1; omega)).keep k6 (by omega) (by omega) (by omega); have hs6 := k6.size)
              | (go_at_call_of 16 (Value.pointer (some ⟨gb, 0, none⟩)); refine (HFI.out _ hCd).mono ?_; rintro e _ ⟨rfl, rfl⟩)
              | (go_at_call 17; refine (HBB.out _ hCd).mono ?_; rintro e w7 ⟨rfl, hC7, k7⟩))
            go_roundw
            case rel =>
              have n7 : ∀ i, v7'.ownBlock = some i → i < w5.heap.size := fun i hi => (own_blk_lt ho7c i hi).2
              have e7 := own_keepS (own_keepB ho7c k6 (fun i hi h => by have := n7 i hi; omega)) k7 (fun i hi => by have := hSB i hi; omega)
              have e8 := own_keepS ho8d k7 (fun i hi => by have := hSB i hi; omega)
              have hA5 := hA4.keep k5 (fun h => by have := (own_blk_lt ho7b _ h).1; omega) (fun h => by have := (own_blk_lt ho7b _ h).1; omega) (fun h => by have := (own_blk_lt ho7b _ h).1; omega)
              have hA7 := (hA5.keep k6 (by omega) (by omega) (by omega)).keep k7 nA0 nA1 nA2
              have hB7 := bl_keep (bl_keep (bl_keep hw4 k5 (fun i h => by have := (own_blk_lt ho7b _ h).1; omega)) k6 (fun i h => by omega)) k7 hSBw
              have hs7 := k7.size
              have hlen : (W ++ [X]).length = W.length + 1 := by rw [List.length_append]; rfl
              exact ⟨k + 1, W ++ [X], w5.heap.size, by omega, by go_num, by omega, HW40.out, (by rw [hlen]; exact e7), (by rw [hlen, Nat.add_comm]; exact e8), by omega, n7, hA7, hC7, hB7, by omega⟩
            case measure => simp [intOf]; omega
      · obtain rfl : k = len := by omega
        have hwl : (natI W).length = W.length := List.length_map _
        have hwr : (natI W.reverse).length = W.length := by unfold natI; rw [List.length_map, List.length_reverse]
        obtain ⟨A7, c7, rfl, hi7⟩ := ints_own ho7
        obtain ⟨A8, c8, rfl, hi8⟩ := ints_own ho8
        have hla2 := clist_any ga ha1 ha2 40 (rowsW r W) r wr hA (by rw [rowsW_at r W hr]; omega)
        have hlb2 := fun W' (hb : Below wr.heap.size wr W') => clist_any gb hc1 hc2 40 (rowsW r W.reverse) r W' (hC.below hb) (by rw [rowsW_at r _ hr, List.length_reverse]; omega)
        have hln := fun W' (hb : Below wr.heap.size wr W') => clen_any ga ha1 ha2 40 (rowsW r W) r W' (hA.below hb) (by rw [rowsW_at r W hr]; omega)
        rw [rowsW_at r W hr] at hla2 hln
        rw [rowsW_at r _ hr] at hlb2
        have HLA := Lib.hid hla2
        have HLB := Lib.hid hlb2
        have HLN := Lib.hid hln
        have HWL := Lib.hid hwl
        have HWR := Lib.hid hwr
        generalize W.length = m at *
        generalize natI W = l7 at *
        generalize natI W.reverse = l8 at *
        have HI7 := Lib.hid hi7
        have HI8 := Lib.hid hi8
        clear hla2 hlb2 hln hwl hwr hA hC ho7 ho8 hi7 hi8 h78
        have hsm : ∀ l : List Int, sameB l l = true := fun l => decide_eq_true rfl
        go_wp2_with (first
          | (go_at_call_of 19 (Value.pointer (some ⟨ga, 0, none⟩)); refine HLA.out.mono ?_; rintro e w4 ⟨v, rfl, hown, b4⟩; rw [HWL.out] at hown; obtain ⟨A4, c4, rfl, hi4⟩ := ints_own hown; clear hown)
          | (go_at_call_of 18 (Value.slice A7 m c7); refine (same_any _ _ _ _ _ _ l7 l7 _ hi4 (HI7.out.below b4)).mono ?_; rintro e w5 ⟨rfl, b5⟩; rw [hsm]; have b45 := bl_then b4 (Nat.le_refl _) b5)
          | (go_at_call_of 19 (Value.pointer (some ⟨gb, 0, none⟩)); refine (HLB.out _ b45).mono ?_; rintro e w6 ⟨v, rfl, hown, b6⟩; rw [HWR.out] at hown; obtain ⟨A6, c6, rfl, hi6⟩ := ints_own hown; have b46 := bl_then b45 (Nat.le_refl _) b6; clear hown)
          | (go_at_call_of 18 (Value.slice A8 m c8); refine (same_any _ _ _ _ _ _ l8 l8 _ hi6 (HI8.out.below b46)).mono ?_; rintro e w7 ⟨rfl, b7⟩; rw [hsm]; have b47 := bl_then b46 (Nat.le_refl _) b7)
          | (go_at_call 20; refine (HLN.out _ b47).mono ?_; rintro e w8 ⟨rfl, b8⟩))
        go_ret
        exact ⟨rfl, bl_then HB (Nat.le_refl _) (bl_then b47 (Nat.le_refl _) b8)⟩
end Go.Proofs.Ythkjkmjcnphjgaa
