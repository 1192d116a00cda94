/- The reference's latches: Held, Take, Give. No condition. -/
import Derived.Test.YtgdghinconghgaaLatchX
import Derived.Test.YtgdghinconghgaaLatchR
set_option linter.unusedVariables false
set_option linter.unusedSimpArgs false
namespace Go.Proofs.Ytgdghinconghgaa
open Go.RowKit (wrap32 wrap64)
open Go.RowKit
set_option maxRecDepth 100000 in
set_option maxHeartbeats 2000000 in
theorem rheld_any (g h cap : Nat) (L : List Ow) (who : Int) (w : World) (hb : RSet w g h cap L) (hL : L.length ≤ 64) (hok : okO L) :
    Calls Try.prog 55 #[.pointer (some ⟨g, 0, none⟩), .int .i64 who] w (OwnRet w (heldL L who).length (heldL L who)) := by
  obtain ⟨i0, hi, hz0, hz1, hz2⟩ := info_parts Try.infoI
  have hc := hb.cell
  have HOK := Lib.hid hok
  unfold heldL
  generalize hN : L.length = N at hc hL ⊢
  have HN := Lib.hid hN
  clear hN hok
  go_enter Try.func55, Try.ntmps55
  go_wp2
  go_loopw [5, 13] (fun o c wr => ∃ k : Nat, k ≤ N ∧ c = .int .i64 k ∧ wr.ownsRow w.heap.size 3 1 o (hitTo (ownP L who) k).length ((hitTo (ownP L who) k).map (Value.int .i64)) ∧ Below w.heap.size w wr) (fun _ c _ => N - (intOf c).toNat)
  case atStart => exact ⟨0, by omega, rfl, World.ownsRow_nil _ _ _ _, Below.refl _ _⟩
  case round =>
    obtain ⟨k, hk, rfl, hown, HB⟩ := hrel
    have hbw := hb.below HB
    by_cases hlt : k < N
    · have hkl : k < L.length := by rw [HN.out]; exact hlt
      have hx : L[k]? = some L[k] := List.getElem?_eq_getElem hkl
      have hp : ownP L who k = ownB who L[k] := by unfold ownP; rw [hx]
      have hst : hitTo (ownP L who) (k + 1) = if ownP L who k = true then hitTo (ownP L who) k ++ [(k : Int)] else hitTo (ownP L who) k := rfl
      have hle := hitTo_le (ownP L who) k
      have d0 := (rset_cell hbw k _ hx).1
      have hox := HOK.out k _ hx
      generalize L[k] = x at d0 hp hx hox
      rw [hp] at hst
      have HST := Lib.hid hst
      have hcs : (ownB who x = true ∧ (refV x == who) = true ∧ 0 ≤ who) ∨ (ownB who x = false ∧ (refV x == who) = false) ∨ (ownB who x = false ∧ (refV x == who) = true ∧ who < 0) := by
        by_cases hw : 0 ≤ who
        · have := ref_own x who hw
          cases ho : ownB who x with
          | true => exact .inl ⟨rfl, by rw [this, ho], hw⟩
          | false => exact .inr (.inl ⟨rfl, by rw [this, ho]⟩)
        · have ho : ownB who x = false := by
            unfold ownB
            cases hi : x.is with
            | false => rfl
            | true =>
              have := hox hi
              rw [Bool.true_and]
              exact beq_eq_false_iff_ne.2 (by omega)
          cases he : refV x == who with
          | true => exact .inr (.inr ⟨ho, rfl, by omega⟩)
          | false => exact .inr (.inl ⟨ho, rfl⟩)
      clear hst hx hp hkl hox
      have hbs := HB.size
      generalize refV x = rv at d0 hcs
      rcases hcs with ⟨ho, q1, q2⟩ | ⟨ho, q1⟩ | ⟨ho, q1, q2⟩
      · have hs : hitTo (ownP L who) (k + 1) = hitTo (ownP L who) k ++ [(k : Int)] := by rw [HST.out, if_pos ho]
        have HS := Lib.hid hs
        clear hs HST ho
        go_wp2_with (at_builtin; refine wpList_append_own _ rfl _ _ 54 rfl w.heap.size 3 i0 (.int .i64 0) 1 8 Try.underlying54 hi hz0 hz1 hz2 rfl (by decide) _ _ _ rfl (hown.alloc _) ⟨wr.heap.size, 0, none⟩ 1 1 [.int .i64 k] rfl rfl (cell_one_new _ _ _) (by simp [Value.oneCell']) (by unfold maxLen; omega) (by omega) (by simp; omega) ?_; intro v' w2 hown' hgr' _)
        go_roundw
        case rel => exact ⟨k + 1, by omega, by go_num, by rw [HS.out, List.length_append, List.map_append]; exact hown', (HB.alloc hbs _).grown hgr' (by simp; omega) (fun k h => ((hown.lt k h).1))⟩
        case measure => simp [intOf]; omega
      all_goals
        have hs : hitTo (ownP L who) (k + 1) = hitTo (ownP L who) k := by rw [HST.out, if_neg (by rw [ho]; decide)]
        have HS := Lib.hid hs
        clear hs HST ho
        go_wp2
        go_roundw
        case rel => exact ⟨k + 1, by omega, by go_num, by rw [HS.out]; exact hown, HB⟩
        case measure => simp [intOf]; omega
    · obtain rfl : k = N := by omega
      have HO := Lib.hid hown
      clear hown
      go_wp2
      go_ret
      exact ⟨_, rfl, HO.out, HB⟩
theorem hitTo_has (p : Nat → Bool) (k n : Nat) (hk : k < n) (hp : p k = true) : (k : Int) ∈ hitTo p n := by
  induction n with
  | zero => omega
  | succ n ih =>
    unfold hitTo
    by_cases e : k = n
    · subst e; rw [if_pos hp]; simp
    · have := ih (by omega)
      split
      · exact List.mem_append_left _ this
      · exact this
def RLRet (g h cap : Nat) (er : Int) (L : List Ow) (w : World) (e : Ending) (w' : World) : Prop := e = .returned (.int .i64 er) ∧ RSet w' g h cap L ∧ Keep (fun k => k = h) w w'
set_option maxHeartbeats 3000000 in
theorem rgive_any (g h cap : Nat) (L : List Ow) (who i : Int) (w : World) (hb : RSet w g h cap L) (hL : L.length ≤ 64) :
    Calls Try.prog 51 #[.pointer (some ⟨g, 0, none⟩), .int .i64 who, .int .i64 i] w (RLRet g h cap (givE L who i) (givL L who i) w) := by
  have hc := hb.cell
  by_cases hw : who < 0
  · have he : givE L who i = 1 := if_pos hw
    have hl : givL L who i = L := by unfold givL; rw [he, if_neg (by decide)]
    rw [he, hl]
    go_enter Try.func51, Try.ntmps51
    go_wp2
    go_ret
    exact ⟨rfl, hb, Keep.refl _ _⟩
  by_cases hi : 0 ≤ i ∧ i < L.length
  · obtain ⟨k, rfl⟩ : ∃ k : Nat, i = k := ⟨i.toNat, by omega⟩
    have hk : k < L.length := by omega
    have hx : L[k]? = some L[k] := List.getElem?_eq_getElem hk
    have he : givE L who k = if ownB who L[k] = true then 0 else 2 := by
      unfold givE; rw [if_neg hw, owAt_yes L k hk]
    have hl : givL L who k = if givE L who k = 0 then L.set k ⟨0, false⟩ else L := rfl
    obtain ⟨c0, f0⟩ := rset_cell hb k _ hx
    have hro := ref_own L[k] who (by omega)
    obtain ⟨hS, kS⟩ := rset_stored hb k hk ⟨0, false⟩
    have HS := Lib.hid hS
    have KS := Lib.hid kS
    have HBK := Lib.hid hb
    generalize L[k] = x at c0 he hx hro
    generalize hN : L.length = N at hk hc
    have HN := Lib.hid hN
    have HL := Lib.hid hl
    have HE := Lib.hid he
    have hN64 : N ≤ 64 := by omega
    generalize refV x = rv at c0 hro
    clear hN hl he hx hi hS kS hb
    cases h1 : ownB who x with
    | true =>
      have e1 : givE L who k = 0 := by rw [HE.out, if_pos h1]
      have e2 : givL L who k = L.set k ⟨0, false⟩ := by rw [HL.out, e1, if_pos rfl]
      have E1 := Lib.hid e1
      have E2 := Lib.hid e2
      rw [h1] at hro
      clear e1 e2 h1
      go_enter Try.func51, Try.ntmps51
      go_wp2
      go_ret
      exact ⟨by rw [E1.out]; rfl, by rw [E2.out]; exact HS.out, KS.out⟩
    | false =>
      have e1 : givE L who k = 2 := by rw [HE.out, if_neg (by rw [h1]; decide)]
      have e2 : givL L who k = L := by rw [HL.out, e1, if_neg (by decide)]
      have E1 := Lib.hid e1
      have E2 := Lib.hid e2
      rw [h1] at hro
      clear e1 e2 h1
      go_enter Try.func51, Try.ntmps51
      go_wp2
      go_ret
      exact ⟨by rw [E1.out]; rfl, by rw [E2.out]; exact HBK.out, Keep.refl _ _⟩
  · have he : givE L who i = 1 := by unfold givE; rw [if_neg hw, owAt_no L i hi]
    have hl : givL L who i = L := by unfold givL; rw [he, if_neg (by decide)]
    rw [he, hl]
    have HBK := Lib.hid hb
    have hL0 : L.length ≤ 64 := hL
    generalize L.length = N at hc hi hL0
    clear he hl hb hL
    by_cases h0 : i < 0
    · go_enter Try.func51, Try.ntmps51
      go_wp2
      go_ret
      exact ⟨rfl, HBK.out, Keep.refl _ _⟩
    · have h9 : (N : Int) ≤ i := by omega
      clear hi
      go_enter Try.func51, Try.ntmps51
      go_wp2
      go_ret
      exact ⟨rfl, HBK.out, Keep.refl _ _⟩
set_option maxRecDepth 100000 in
set_option maxHeartbeats 4000000 in
theorem rtake_any (g h cap : Nat) (L : List Ow) (who i : Int) (w : World) (hb : RSet w g h cap L) (hL : L.length ≤ 64) (hok : okO L) :
    Calls Try.prog 49 #[.pointer (some ⟨g, 0, none⟩), .int .i64 who, .int .i64 i] w (RLRet g h cap (takE L who i) (takL L who i) w) := by
  have hc := hb.cell
  by_cases hw : who < 0
  · have he : takE L who i = 1 := if_pos hw
    have hl : takL L who i = L := by unfold takL; rw [he, if_neg (by decide)]
    rw [he, hl]
    go_enter Try.func49, Try.ntmps49
    go_wp2
    go_ret
    exact ⟨rfl, hb, Keep.refl _ _⟩
  by_cases hi : 0 ≤ i ∧ i < L.length
  · obtain ⟨k, rfl⟩ : ∃ k : Nat, i = k := ⟨i.toNat, by omega⟩
    have hk : k < L.length := by omega
    have hx : L[k]? = some L[k] := List.getElem?_eq_getElem hk
    have he : takE L who k = if ownB who L[k] = true then 3 else if anyO who (L.drop k) = true then 30 else if L[k].is = true then 31 else 0 := by
      unfold takE; rw [if_neg hw, owAt_yes L k hk]; rfl
    have hl : takL L who k = if takE L who k = 0 then L.set k ⟨who, true⟩ else L := rfl
    obtain ⟨c0, f0⟩ := rset_cell hb k _ hx
    have hro := ref_own L[k] who (by omega)
    have hri := ref_is L[k] (hok k _ hx)
    have hheld := rheld_any g h cap L who w hb hL hok
    have hop : ownP L who k = ownB who L[k] := ownP_at _ _ _ _ hx
    have hsome : anyO who (L.drop k) = true → ownB who L[k] = false → ∃ q, q < (heldL L who).length ∧ (k : Int) < (heldL L who).getD q 0 := by
      intro ha hn
      unfold anyO at ha
      rw [List.any_eq_true] at ha
      obtain ⟨y, hy, hoy⟩ := ha
      obtain ⟨j, hj⟩ := List.mem_iff_getElem?.1 hy
      rw [List.getElem?_drop] at hj
      have hpj : ownP L who (k + j) = true := by rw [ownP_at _ _ _ _ hj]; exact hoy
      have hjl : k + j < L.length := (List.getElem?_eq_some_iff.1 hj).1
      have hne : j ≠ 0 := by
        rintro rfl
        rw [Nat.add_zero, hop, hn] at hpj; cases hpj
      have hm := hitTo_has (ownP L who) (k + j) L.length hjl hpj
      obtain ⟨q, hq⟩ := List.mem_iff_getElem?.1 hm
      refine ⟨q, (List.getElem?_eq_some_iff.1 hq).1, ?_⟩
      unfold heldL
      rw [List.getD_eq_getElem?_getD, hq]
      simp; omega
    have hnone : anyO who (L.drop k) = false → ∀ q, q < (heldL L who).length → (heldL L who).getD q 0 ≤ k := by
      intro ha q hq
      have hm : (heldL L who).getD q 0 ∈ heldL L who := by rw [List.getD_eq_getElem?_getD, List.getElem?_eq_getElem hq]; exact List.getElem_mem _
      obtain ⟨j, ej, hj, hp⟩ := hitTo_mem _ _ _ hm
      have := anyO_drop L who k j ha hp
      omega
    have hhl := heldL_len L who
    have hhlt := hb.lt.2
    have HBK := Lib.hid hb
    have HHELD := Lib.hid hheld
    generalize heldL L who = H at hheld hsome hnone hhl HHELD
    generalize L[k] = x at c0 he hx hro hri hsome hop
    generalize anyO who (L.drop k) = b2 at he hsome hnone
    generalize hN : L.length = N at hk hc hhl
    have HN := Lib.hid hN
    have HL := Lib.hid hl
    have HE := Lib.hid he
    have HSOME := Lib.hid hsome
    have HNONE := Lib.hid hnone
    have hN64 : N ≤ 64 := by omega
    generalize refV x = rv at c0 hro hri
    clear hN hl he hx hi hb hheld hsome hnone hop hok
    cases h1 : ownB who x with
    | true =>
      have e1 : takE L who k = 3 := by rw [HE.out, if_pos h1]
      have e2 : takL L who k = L := by rw [HL.out, e1, if_neg (by decide)]
      have E1 := Lib.hid e1
      have E2 := Lib.hid e2
      rw [h1] at hro
      clear e1 e2 h1
      go_enter Try.func49, Try.ntmps49
      go_wp2
      go_ret
      exact ⟨by rw [E1.out]; rfl, by rw [E2.out]; exact HBK.out, Keep.refl _ _⟩
    | false =>
      have HO1 := Lib.hid h1
      have hn1 : Hid (¬ (ownB who x = true)) := Lib.hid (by rw [h1]; decide)
      rw [h1] at hro
      clear h1
      go_enter Try.func49, Try.ntmps49
      go_wp2_with fail
      refine HHELD.out.mono ?_
      rintro e w1 ⟨v1, rfl, hown1, hb1⟩
      obtain ⟨A1, cc1, rfl, hI1⟩ := own_ints hown1
      have hB1 := HBK.out.below hb1
      have HB1 := Lib.hid hB1
      have hc1 := hB1.cell
      rw [HN.out] at hc1
      have d0 : w1.cell? ⟨h, k, none⟩ = some (.int .i64 rv) := (hb1.cell (p := ⟨h, _, none⟩) hhlt).trans c0
      have f1 : w1.frozen? ⟨h, k, none⟩ = false := (hb1.frozen (p := ⟨h, _, none⟩) hhlt).trans f0
      obtain ⟨hS, kS⟩ := rset_stored hB1 k (by rw [HN.out]; exact hk) ⟨who, true⟩
      have HS := Lib.hid hS
      have KS := Lib.hid kS
      clear hown1 hB1 hS kS HHELD c0 f0
      go_wp2_with fail
      go_loop [37] (fun c => ∃ q : Nat, q ≤ H.length ∧ c = .int .i64 q ∧ Hid (∀ p, p < q → H.getD p 0 ≤ k)) (fun c => H.length - (intOf c).toNat)
      case atStart => exact ⟨0, by omega, rfl, Lib.hid (fun p hp => by omega)⟩
      case round =>
        obtain ⟨q, hq, rfl, hle⟩ := hrel
        by_cases hlt : q < H.length
        · obtain ⟨b3, o3, rfl, hc3⟩ := hI1.get hlt
          by_cases hgt : (k : Int) < H.getD q 0
          · have hb2 : b2 = true := by
              cases b2 with
              | true => rfl
              | false => have := HNONE.out rfl q hlt; omega
            have e1 : takE L who k = 30 := by rw [HE.out, if_neg hn1.out, if_pos hb2]
            have e2 : takL L who k = L := by rw [HL.out, e1, if_neg (by decide)]
            have E1 := Lib.hid e1
            have E2 := Lib.hid e2
            clear e1 e2 hb2 hle
            generalize H.getD q 0 = y at hc3 hgt
            go_wp2
            go_ret
            exact ⟨by rw [E1.out]; rfl, by rw [E2.out]; exact HB1.out, Keep.of_below hb1 _⟩
          · have hle2 : H.getD q 0 ≤ k := by omega
            have hnew : Hid (∀ p, p < q + 1 → H.getD p 0 ≤ k) := Lib.hid (fun p hp => if e : p = q then by rw [e]; exact hle2 else hle.out p (by omega))
            clear hgt hle
            generalize H.getD q 0 = y at hc3 hle2
            go_wp2
            go_round
            case rel => exact ⟨q + 1, by omega, by go_num, hnew⟩
            case measure => simp [intOf]; omega
        · obtain rfl : q = H.length := by omega
          have hb2 : b2 = false := by
            cases b2 with
            | false => rfl
            | true =>
              obtain ⟨q, hq, hg⟩ := HSOME.out rfl HO1.out
              have := hle.out q hq
              omega
          have hn2 : Hid (¬ (b2 = true)) := Lib.hid (by rw [hb2]; decide)
          clear hle hb2
          cases hxi : x.is with
          | true =>
            have e1 : takE L who k = 31 := by rw [HE.out, if_neg hn1.out, if_neg hn2.out, if_pos hxi]
            have e2 : takL L who k = L := by rw [HL.out, e1, if_neg (by decide)]
            have E1 := Lib.hid e1
            have E2 := Lib.hid e2
            have hr0 : 0 ≤ rv := by rw [hxi] at hri; exact of_decide_eq_true hri
            clear e1 e2 hri hxi
            go_wp2
            go_ret
            exact ⟨by rw [E1.out]; rfl, by rw [E2.out]; exact HB1.out, Keep.of_below hb1 _⟩
          | false =>
            have e1 : takE L who k = 0 := by rw [HE.out, if_neg hn1.out, if_neg hn2.out, if_neg (by rw [hxi]; decide)]
            have e2 : takL L who k = L.set k ⟨who, true⟩ := by rw [HL.out, e1, if_pos rfl]
            have E1 := Lib.hid e1
            have E2 := Lib.hid e2
            have hr0 : rv < 0 := by rw [hxi] at hri; have := of_decide_eq_false hri; omega
            clear e1 e2 hri hxi
            go_wp2
            go_ret
            exact ⟨by rw [E1.out]; rfl, by rw [E2.out]; exact HS.out, Keep.trans (Keep.of_below hb1 _) KS.out⟩
  · have he : takE L who i = 1 := by unfold takE; rw [if_neg hw, owAt_no L i hi]
    have hl : takL L who i = L := by unfold takL; rw [he, if_neg (by decide)]
    rw [he, hl]
    have HBK := Lib.hid hb
    have hL0 : L.length ≤ 64 := hL
    generalize L.length = N at hc hi hL0
    clear he hl hb hL
    by_cases h0 : i < 0
    · go_enter Try.func49, Try.ntmps49
      go_wp2
      go_ret
      exact ⟨rfl, HBK.out, Keep.refl _ _⟩
    · have h9 : (N : Int) ≤ i := by omega
      clear hi
      go_enter Try.func49, Try.ntmps49
      go_wp2
      go_ret
      exact ⟨rfl, HBK.out, Keep.refl _ _⟩
end Go.Proofs.Ytgdghinconghgaa
