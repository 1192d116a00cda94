/- Who reaches itself: the reference's Reach and On; whether edges lead round about. No condition. -/
import Derived.Test.YtjenchijenkndaaRea
set_option linter.unusedVariables false
set_option linter.unusedSimpArgs false
namespace Go.Proofs.Ytjenchijenkndaa
open Go.RowKit (wrap32 wrap64)
open Go.RowKit Go.Shelf Go.Sort
theorem step_want {P : Program} {ops : Array Oper} {o : Oper} {a : Act} {w : World} {K : Act → World → Prop} {Q : Exit → Act → World → Prop} {E : Prop} (hw : Region.wanted o (yielded ops a.tmps) = true) (h : Oper.wp P o a w K Q) :
    if Region.wanted o (yielded ops a.tmps) = true then Oper.wp P o a w K Q else E := by rw [if_pos hw]; exact h
/-- append behind 'l[:len(l):len(l)]', as one step of a region that draws: what is read lies elsewhere, or as it was. -/
theorem wp_append_cap {α : Type} {enc : α → List Value} {ok : α → Prop} {s : Nat} (he : ∀ a, (enc a).length = s) (hs0 : 0 < s) (h1 : ∀ x, ∀ u ∈ enc x, u.oneCell' = true) {P : Program} (ops : Array Oper) {o : Oper} {a : Act} {w : World} {K : Act → World → Prop} {Q : Exit → Act → World → Prop}
    (hg : o.guard = none) (sl x : Operand) (t : TypeId) (hop : o.op = Op.call { callee := Callee.builtin Builtin.append, args := #[sl, x], argTypes := #[t, t] })
    (e : TypeId) (i : TypeInfo) (z : Value) (bytes : Nat) (ht : P.underlying t = some (.slice e)) (hi : P.info? e = some i) (hz : i.zero = some z) (hsize : i.size = s) (hby : i.bytes = bytes) (hzs : z.cells.size = s)
    (A : Option Addr) (m : Nat) (M : List α) (hs : a.eval sl = .slice A m m) (hM : SR enc ok s w A m M) (hA : A = none → m = 0)
    (A3 : Option Addr) (q c3 : Nat) (N : List α) (hx : a.eval x = .slice A3 q c3) (hN : SR enc ok s w A3 q N)
    (b1 : m + q ≤ maxLen) (b2 : (m + q) * bytes ≤ 140737488355328)
    (hK : ∀ A' c' w', SR enc ok s w' A' (m + q) (M ++ N) → m + q ≤ c' → c' ≤ maxLen → (A' = none → m + q = 0) → Below w.heap.size w w' → K (a.put o.dst (.slice A' (m + q) c')) w') :
    Oper.wp P o a w K Q := by
  have hwt : Region.wanted o (yielded ops a.tmps) = true := by simp [Region.wanted, hg]
  suffices hif : (if Region.wanted o (yielded ops a.tmps) = true then Oper.wp P o a w K Q else True) by rwa [if_pos hwt] at hif
  by_cases hq : q = 0
  · subst hq
    have hN0 : N = [] := List.eq_nil_of_length_eq_zero hN.len
    subst hN0
    refine step_append_none hg sl x t hop e i ht hi A m m hs (Nat.le_refl _) A3 c3 hx ?_
    exact hK A m w (by rw [List.append_nil]; exact hM) (Nat.le_refl _) hM.max hA (Below.refl _ _)
  · obtain ⟨b, off, rfl, _, hcell⟩ := hN.row (by omega)
    have hfl : (flatV enc N).length = q * s := by rw [flatV_len he, hN.len]
    have hfm : (flatV enc M).length = m * s := by rw [flatV_len he, hM.len]
    refine step_append_grows hg sl x t hop e i z s bytes ht hi hz hsize hby hzs hs0 A m m (flatV enc M) hs (fun h => ⟨hA h, hA h⟩) hfm (fun b' hb' j u hu => ?_) ⟨b, off, none⟩ q c3 (flatV enc N) hx hfl (fun j u hu => ?_) (flatV_one h1 N) (by omega) b1 b2 ?_
    · have hj : j < m * s := by rw [← hfm]; exact (List.getElem?_eq_some_iff.1 hu).1
      have hm : 0 < m := by
        rcases Nat.eq_zero_or_pos m with h | h
        · rw [h, Nat.zero_mul] at hj; omega
        · exact h
      obtain ⟨b2', off2, hA2, _, hc2⟩ := hM.row hm
      rw [hA2] at hb'
      cases hb'
      have hadd : (⟨b2', off2, none⟩ : Addr).add j = ⟨b2', off2 + j, none⟩ := by unfold Addr.add; split <;> simp_all
      rw [hadd, hc2 j hj, hu]
    · have hj : j < q * s := by rw [← hfl]; exact (List.getElem?_eq_some_iff.1 hu).1
      have hadd : (⟨b, off, none⟩ : Addr).add j = ⟨b, off + j, none⟩ := by unfold Addr.add; split <;> simp_all
      rw [hadd, hcell j hj, hu]
    · intro v' w' hown hgr
      rw [← flatV_append] at hown
      obtain ⟨A', c', rfl, hs', hc1, _⟩ := SR.own (ok := ok) he hs0 hown (fun y hy => by
        rcases List.mem_append.1 hy with hy | hy
        · exact hM.all y hy
        · exact hN.all y hy)
      have hcc := own_caps hown
      exact hK A' c' w' hs' hcc.1 hcc.2.1 (fun h => (hcc.2.2 h).1) (grown_below hgr (Below.refl _ _))
theorem SRI {w : World} {A : Option Addr} {n : Nat} {L : List Int} (h : SR enI okI 1 w A n L) : Ints w A n L := by
  refine ⟨h.len, h.max, fun hn => ?_⟩
  obtain ⟨b, off, ha, hb, hc⟩ := h.row hn
  refine ⟨b, off, ha, hb, fun i hi => ?_⟩
  rw [hc i (by omega), flatI, List.getElem?_map]
  have : i < L.length := by rw [h.len]; exact hi
  rw [List.getElem?_eq_getElem this, List.getD_eq_getElem?_getD, List.getElem?_eq_getElem this]
  rfl
theorem okIall (L : List Int) : ∀ x ∈ L, okI x := fun _ _ => trivial
def FromRet (w : World) (N : List Int) (e : Ending) (w' : World) : Prop := ∃ A c, e = .returned (.slice A N.length c) ∧ SR enI okI 1 w' A N.length N ∧ Below w.heap.size w w'
theorem rfrom_sl (a : Option Addr) (len cap : Nat) (L : List Eg) (x : Int) (w : World) (hl : Egs w a len L) (hn : len ≤ 1000) :
    Calls Try.prog 69 #[.slice a len cap, .int .i64 x] w (FromRet w (fromE L x)) :=
  (rfrom_any a len cap L x w hl hn).mono fun e w' ⟨v, he, ho, hb⟩ => by
    obtain ⟨A, c, rfl, hs, _, _⟩ := SR.own (ok := okI) enI_len (by omega) ho (okIall _)
    exact ⟨A, c, he, hs, hb⟩
set_option maxRecDepth 100000 in
set_option maxHeartbeats 8000000 in
theorem rreach_any (a : Option Addr) (len cap : Nat) (L : List Eg) (x : Int) (w : World) (hl : Egs w a len L) (hn : len ≤ 1000) :
    Calls Try.prog 55 #[.slice a len cap, .int .i64 x] w (OwnRet enI 3 1 w (reachE L x)) := by
  obtain ⟨i0, hi0, hz0, hz1, hz2⟩ := info_parts Try.infoI
  have HLN := Lib.hid hl.len
  have HFR := Lib.hid (fun y W (hb : Below w.heap.size w W) => rfrom_any a len cap L y W (hl.below hb) hn)
  have HFL := Lib.hid (fun y => fromE_len L y)
  have HFS := Lib.hid (fun y W (hb : Below w.heap.size w W) => rfrom_sl a len cap L y W (hl.below hb) hn)
  clear hl
  go_enter Try.func55, Try.ntmps55
  go_wp2_with (go_at_call 69; refine (HFR.out x _ (Below.refl _ _)).mono ?_; rintro e w1 ⟨v1, rfl, ho1, hb1⟩; obtain ⟨A1, c1, rfl⟩ := own_slice ho1)
  have HL1 : Hid ((fromE L x).length = (fromE L x).length) := Lib.hid rfl
  go_loopw [5, 14] (fun s5 c wr => ∃ (t n : Nat) (D : List Int) (A : Option Addr) (c5 : Nat), t ≤ len ∧ c = .int .i64 t ∧ s5 = .slice A n c5 ∧ Hid (reachF L x t = D) ∧ Hid (D.length = n) ∧ wr.ownsRow w.heap.size 3 1 (.slice A n c5) n (flatV enI D) ∧ Below w.heap.size w wr) (fun _ c _ => len - (intOf c).toNat)
  case atStart => exact ⟨0, _, fromE L x, A1, c1, by omega, rfl, rfl, Lib.hid rfl, Lib.hid rfl, ho1, hb1⟩
  case round =>
    clear ho1 hb1 HL1
    obtain ⟨t, n, D, A, c5, ht, rfl, rfl, HD, HDN, ho, HB⟩ := hrel
    have hn9 : n ≤ 1000 := by have := reachF_len L x t; rw [HD.out, HDN.out, HLN.out] at this; omega
    by_cases hlt : t < len
    · obtain ⟨A', c', e', hs0, hcap1, hnil⟩ := SR.own (ok := okI) enI_len (by omega) ho (okIall D)
      obtain ⟨rfl, rfl⟩ : A = A' ∧ c5 = c' := by injection e' with e1 _ e2; exact ⟨e1, e2⟩
      have hcc := own_caps ho
      have hc5 := hcc.1
      have hc5m : c5 ≤ 9223372036854775807 := by have := hcc.2.1; unfold maxLen at this; exact this
      have hnil2 := Lib.hid (fun h => (hcc.2.2 h).1)
      have HI5 := Lib.hid (ints_own ho)
      have HS0 := Lib.hid hs0
      have HST := Lib.hid (show reachF L x (t + 1) = numI (reachF L x t ++ moreE L (reachF L x t)) from rfl)
      clear ho e' hs0 hcc hcap1 hnil
      go_wp2_with fail
      obtain ⟨wo, hwo⟩ : ∃ wo : World, wo = wr := ⟨_, rfl⟩
      rw [← hwo] at HB HI5 HS0 ⊢
      clear hwo
      go_loopw [6, 19] (fun s6 c wr => ∃ (j m : Nat) (M : List Int) (A6 : Option Addr) (c6 : Nat), j ≤ n ∧ c = .int .i64 j ∧ s6 = .slice A6 m c6 ∧ Hid (D ++ moreE L (D.take j) = M) ∧ m ≤ c6 ∧ c6 ≤ 9223372036854775807 ∧ Hid (A6 = none → m = 0) ∧ SR enI okI 1 wr A6 m M ∧ Below wo.heap.size wo wr) (fun _ c _ => n - (intOf c).toNat)
      case atStart => exact ⟨0, n, D, A, c5, by omega, rfl, rfl, Lib.hid (by simp [moreE]), hc5, hc5m, hnil2, HS0.out, Below.refl _ _⟩
      case round =>
        obtain ⟨j, m, M, A6, c6, hj, rfl, rfl, HM, hmc, hc6, HN6, hs6, HB6⟩ := hrel
        have hm9 : m ≤ 1002000 := by
          have h1 := moreE_len L (D.take j)
          have h2 : (D.take j).length * L.length ≤ 1000 * 1000 := Nat.mul_le_mul (by rw [List.length_take, HDN.out]; omega) (by rw [HLN.out]; exact hn)
          have h3 := hs6.len
          rw [← HM.out, List.length_append, HDN.out] at h3
          omega
        by_cases hlj : j < n
        · obtain ⟨A', c', e', hi'⟩ := HI5.out
          obtain ⟨rfl, rfl⟩ : A = A' ∧ c5 = c' := by injection e' with e1 _ e2; exact ⟨e1, e2⟩
          obtain ⟨b, off, rfl, d0⟩ := (hi'.below HB6).get hlj
          obtain ⟨y, hy⟩ : ∃ y, D[j]? = some y := ⟨_, List.getElem?_eq_getElem (by rw [HDN.out]; exact hlj)⟩
          rw [show D.getD j 0 = y by rw [List.getD_eq_getElem?_getD, hy]; rfl] at d0
          have HN : Hid (D ++ moreE L (D.take (j + 1)) = M ++ fromE L y) := Lib.hid (by rw [moreE_take L D j y hy, ← List.append_assoc, HM.out])
          have hfy := HFL.out y
          rw [HLN.out] at hfy
          have HBO := Lib.hid (bl_then HB (Nat.le_refl _) HB6)
          have HFY := Lib.hid (fun W (hb : Below wr.heap.size wr W) => HFS.out y W (bl_then HBO.out (Nat.le_refl _) hb))
          have HS6 := Lib.hid hs6
          have HB6' := Lib.hid HB6
          have hmi : (m : Int) ≤ (c6 : Int) := by omega
          generalize hfn : fromE L y = N at HN HFY hfy
          have hq1 : (N.length : Int) ≤ 1000 := by omega
          clear e' hi' hy hs6 HB6 hfn
          go_wp2_with fail
          have HD0 := Lib.hid (below_drew wr)
          have hS0 : Below wr.drew.heap.size wr.drew wr.drew := Below.refl _ _
          have HS6d := Lib.hid (HS6.out.below HD0.out)
          have HFYd := Lib.hid (fun W (hb : Below wr.drew.heap.size wr.drew W) => HFY.out W (bl_then HD0.out (Nat.le_refl _) hb))
          clear HFY
          first | go_region_held3 (fun w' => Below wr.drew.heap.size wr.drew w')
            (first
              | exact hS0
              | assumption
              | exact bl_then (by assumption) (Nat.le_refl _) hb)
            (first
              | (go_at_call 69; refine (HFYd.out _ (by assumption)).mono ?_; rintro e w3 ⟨A3, c3, rfl, hs3, hb⟩)
              | (refine step_want (by rfl) ?_; refine wp_append_cap (ok := okI) enI_len (by omega) enI_one #[] (by rfl) _ _ 35 (by rfl) 3 i0 _ 8 Try.underlying35 hi0 hz0 hz1 hz2 rfl A6 m M (by rfl) (HS6d.out.below (by assumption)) HN6.out A3 N.length c3 N (by rfl) hs3 (by unfold maxLen; omega) (by omega) ?_; intro A7 c7 w7 hs7 hm7 hc7 hn7 hb)) | fail
          all_goals
            have hc7' : c7 ≤ 9223372036854775807 := by unfold maxLen at hc7; exact hc7
            have HN7 := Lib.hid hn7
            have HS7 := Lib.hid hs7
            have HB7 := Lib.hid (bl_then HB6'.out (Nat.le_refl _) (bl_then HD0.out (Nat.le_refl _) (by assumption)))
            clear hn7 hs7 hs3 hc7
            go_wp2_with fail
            go_roundw
            case rel => exact ⟨j + 1, m + N.length, M ++ N, A7, c7, by omega, by go_num, rfl, HN, hm7, hc7', HN7, HS7.out, HB7.out⟩
            case measure => simp [intOf]; omega
        · obtain rfl : j = n := by omega
          have HT : Hid (reachF L x (t + 1) = numI M) := Lib.hid (by
            rw [HST.out, HD.out, ← HM.out, List.take_of_length_le (by rw [HDN.out]; exact Nat.le_refl _)])
          have HNM := Lib.hid (nums_any A6 m c6 M wr (SRI hs6) (by omega))
          have HBO := Lib.hid (bl_then HB (Nat.le_refl _) HB6)
          clear hs6 HB6
          go_wp2_with (go_at_call 68; refine HNM.out.mono ?_; rintro e w2 ⟨v2, rfl, ho2, hb2⟩; obtain ⟨A2, c2, rfl⟩ := own_slice ho2)
          have ho3 := own_weaken ho2 HBO.out.size
          have hb3 := bl_then HBO.out (Nat.le_refl _) hb2
          go_roundw
          case rel => exact ⟨t + 1, (numI M).length, numI M, A2, c2, by omega, by go_num, rfl, HT, Lib.hid rfl, ho3, hb3⟩
          case measure => simp [intOf]; omega
    · obtain rfl : t = len := by omega
      have HR : Hid (OwnRet enI 3 1 w (reachE L x) (.returned (.slice A n c5)) wr) := Lib.hid (by
        have e : reachE L x = D := by unfold reachE; rw [HLN.out]; exact HD.out
        rw [e]
        exact ⟨_, rfl, by rw [HDN.out]; exact ho, HB⟩)
      clear ho
      go_wp2_with fail
      go_ret
      exact HR.out
end Go.Proofs.Ytjenchijenkndaa
