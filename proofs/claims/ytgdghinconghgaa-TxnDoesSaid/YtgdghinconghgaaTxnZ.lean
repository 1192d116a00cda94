/- The walk of TxnDoes. No condition. -/
import Derived.Test.YtgdghinconghgaaTxnY
import Derived.Test.YtgdghinconghgaaTxnX
import Derived.Test.YtgdghinconghgaaTxnS
import Derived.Test.YtgdghinconghgaaTxnU
set_option linter.unusedVariables false
set_option linter.unusedSimpArgs false
namespace Go.Proofs.Ytgdghinconghgaa
open Go.RowKit (wrap32 wrap64)
open Go.RowKit
theorem Keep.cellS {S : Nat → Prop} {w w1 : World} (k : Keep S w w1) {p : Addr} {v : Value} (h : w.cell? p = some v) (hS : ¬ S p.block) : w1.cell? p = some v := (World.cell?_of_block (k.block p.block (World.block_lt_of_cell? w p h) hS)).trans h
theorem below_drew (w : World) : Below w.heap.size w w.drew := (Keep.drew w (fun _ => False)).below (Nat.le_refl _) (fun _ h => h.elim)
theorem below_drewN (w : World) (n : Nat) : Below w.heap.size w (w.drewN n) := (Keep.drewN w n (fun _ => False)).below (Nat.le_refl _) (fun _ h => h.elim)
theorem sameB_self (xs : List Int) : sameB xs xs = true := by unfold sameB; simp
theorem ba_nil : (⟨#[]⟩ : ByteArray).toList.isEmpty = true := by
  unfold ByteArray.toList ByteArray.toList.loop; rfl
theorem ba_cons (b : ByteArray) (h : 0 < b.size) : b.toList.isEmpty = false := by
  unfold ByteArray.toList ByteArray.toList.loop
  rw [if_pos h]
  have gen : ∀ (n i : Nat) (r : List UInt8), b.size - i ≤ n → r ≠ [] → (ByteArray.toList.loop b i r) ≠ [] := by
    intro n
    induction n with
    | zero => intro i r hn hr; unfold ByteArray.toList.loop; rw [if_neg (by omega)]; simpa using hr
    | succ n ih =>
      intro i r hn hr
      unfold ByteArray.toList.loop
      split
      · exact ih _ _ (by omega) (by simp)
      · simpa using hr
  have := gen b.size 1 [b.get! 0] (by omega) (by simp)
  cases hq : ByteArray.toList.loop b (0 + 1) [b.get! 0] with
  | nil => exact absurd hq this
  | cons x l => rfl
theorem wordB_empty (a : Int) : (wordB a).toList.isEmpty = (decide (a < 1) || decide (6 < a)) := by
  by_cases h1 : a < 1
  · rw [wordB_none a (.inl h1), decide_eq_true h1, Bool.true_or]; exact ba_nil
  · by_cases h6 : 6 < a
    · rw [wordB_none a (.inr h6), decide_eq_true h6, Bool.or_true]; exact ba_nil
    · rw [decide_eq_false h1, decide_eq_false h6]
      have : a = 1 ∨ a = 2 ∨ a = 3 ∨ a = 4 ∨ a = 5 ∨ a = 6 := by omega
      rcases this with rfl | rfl | rfl | rfl | rfl | rfl <;> exact ba_cons _ (by decide)
theorem takeD {P : Program} {md : Region.Mode} {ops : Array Oper} {Q : Exit → Act → World → Prop} {S : World → Prop} {i d : Nat} {oi : Oper} {v : Value} {fuel : Nat} {listed : Array Bool} {a : Act} {w : World} (hi : ops[i]? = some oi) (hd : oi.dst = some d)
    (hs : Region.noSelect ops = true) (hf : Region.free md ops listed i = true) (hr : (Region.ready md ops listed).contains i = true)
    (hQ : ∀ c a w, Q (.panic c) (a.put (some d) v) w → Q (.panic c) a w) (hy : YieldsIf P ops S oi v a) (hS : S w)
    (h : wpAnyH P md ops Q S fuel (listed.setIfInBounds i true) (a.put (some d) v) w) : wpAnyH P md ops Q S (fuel + 1) listed a w := by
  rw [← hd] at hQ h
  exact wpAnyH_take hi hs hf hr hQ hy hS h
theorem ok_one : okL [txZero] := by
  intro k x hk hx
  match k, hk, hx with
  | k + 1, _, hx => simp at hx
theorem id_one : idL [txZero] := by
  intro k x hx
  match k, hx with
  | 0, hx => simp at hx; rw [← hx]; rfl
  | k + 1, hx => simp at hx
theorem stamps_at (L : List Tx) (k : Nat) (hk : k < L.length) : (stampsL (txZero :: L)).getD (k + 1) 0 = L[k].stamp := by
  unfold stampsL
  simp [List.getD_eq_getElem?_getD, hk]
set_option maxRecDepth 100000 in
set_option maxHeartbeats 30000000 in
theorem tdoes_any (a : Option Addr) (len cap : Nat) (css : List (List Value)) (p q : Int) (w : World) (hl : FlatRow w ksD a len cap css) :
    Calls Try.prog 13 #[.slice a len cap, .int .i64 p, .int .i64 q] w fun e w' => e = .returned (.bool true) ∧ Below w.heap.size w w' := by
  have hlc := hl.2.1
  have hcm : cap ≤ 9223372036854775807 := hl.2.2.1
  by_cases h1 : 60 < len
  · go_enter Try.func13, Try.ntmps13
    go_wp2_with fail
    refine (awake22 _).mono ?_
    rintro e w1 ⟨rfl, hb1⟩
    go_wp2
    go_ret
    exact ⟨rfl, hb1⟩
  go_enter Try.func13, Try.ntmps13
  go_wp2_with fail
  refine (awake22 _).mono ?_
  rintro e w1 ⟨rfl, hb1⟩
  go_wp2_with fail
  refine (tnew_any _).mono ?_
  rintro e w2 ⟨g, h, rfl, hB, hg, hh, bel⟩
  have hb2 := bl_then hb1 (Nat.le_refl _) bel
  have hs1 := hb1.size
  have hg0 : w.heap.size ≤ g := by omega
  have hh0 : w.heap.size ≤ h := by omega
  have hX0 := xbook_new w2
  have hB0 : Book (w2.alloc (.cells #[.slice none 0 0] 94)) g h 1 [⟨0, 0, 0, 0⟩] := hB.below ((Below.refl _ _).alloc (Nat.le_refl _) _)
  have hb0 : Below w.heap.size w (w2.alloc (.cells #[.slice none 0 0] 94)) := hb2.alloc hb2.size _
  have hgx0 : w.heap.size ≤ w2.heap.size := hb2.size
  clear bel hb1 hg hh hs1 hB hb2
  go_wp2_with fail
  generalize w2.alloc (.cells #[.slice none 0 0] 94) = w3 at hX0 hB0 hb0 ⊢
  generalize w2.heap.size = gx at hX0 hgx0 ⊢
  go_loopw [26] (fun c wr => ∃ (k h cp : Nat) (L : List Tx) (A : Option Addr) (cx : Nat), k ≤ len ∧ c = .int .i64 k ∧ Book wr g h cp (txZero :: L) ∧ XBook wr gx A cx L ∧ Hid (okL (txZero :: L)) ∧ Hid (idL (txZero :: L)) ∧ L.length ≤ k ∧ w.heap.size ≤ h ∧ (∀ x, A = some x → w.heap.size ≤ x.block) ∧ Below w.heap.size w wr) (fun c _ => len - (intOf c).toNat)
  case atStart => exact ⟨0, h, 1, [], none, 0, by omega, rfl, hB0, hX0, Lib.hid ok_one, Lib.hid id_one, Nat.le_refl _, hh0, fun x e => (by cases e), hb0⟩
  case round =>
    clear hB0 hX0 hb0 hh0
    obtain ⟨k, h, cp, L, A, cx, hk, rfl, hB, hX, hok, hid, hL2, hh0, hA0, HB⟩ := hrel
    by_cases hlt : k < len
    · obtain ⟨b, off, d, rfl, _, d0, d1, d2, d3, d4⟩ := deed_at (hl.below HB) hlt
      clear hl
      have hBa : Book (wr.alloc (.cells #[.int .i64 d.kind, .int .i64 d.id, .int .i64 d.st, .int .i64 d.why, .int .i64 d.stamp] 52)) g h cp (txZero :: L) := hB.below ((Below.refl _ _).alloc (Nat.le_refl _) _)
      have hXa : XBook (wr.alloc (.cells #[.int .i64 d.kind, .int .i64 d.id, .int .i64 d.st, .int .i64 d.why, .int .i64 d.stamp] 52)) gx A cx L := hX.below ((Below.refl _ _).alloc (Nat.le_refl _) _)
      have HBa : Below w.heap.size w (wr.alloc (.cells #[.int .i64 d.kind, .int .i64 d.id, .int .i64 d.st, .int .i64 d.why, .int .i64 d.stamp] 52)) := HB.alloc HB.size _
      have hD : Bk (wr.alloc (.cells #[.int .i64 d.kind, .int .i64 d.id, .int .i64 d.st, .int .i64 d.why, .int .i64 d.stamp] 52)) wr.heap.size 52 #[.int .i64 d.kind, .int .i64 d.id, .int .i64 d.st, .int .i64 d.why, .int .i64 d.stamp] := Bk.new _ _ _
      have hDg : wr.heap.size ≠ g := by have := hB.lt.1; omega
      have hDh : wr.heap.size ≠ h := by have := hB.lt.2; omega
      have hDx : wr.heap.size ≠ gx := by have := hX.1.lt; omega
      have hDA : ∀ x, A = some x → wr.heap.size ≠ x.block := by
        intro x e
        rcases hX.form with ⟨e2, _⟩ | ⟨hx, e2, _, hlx, _⟩
        · rw [e2] at e; cases e
        · rw [e2] at e; injection e with e; subst e; show wr.heap.size ≠ hx; omega
      obtain ⟨n1, n2, n3⟩ := books_apart hB hX
      have hsz : w.heap.size ≤ wr.heap.size := HB.size
      clear hB hX HB
      by_cases hk0 : d.kind = 0
      · rw [hk0] at d0 hBa hXa HBa hD
        clear hk0
        go_wp2_with fail
        generalize wr.alloc (.cells #[.int .i64 0, .int .i64 d.id, .int .i64 d.st, .int .i64 d.why, .int .i64 d.stamp] 52) = w5 at hBa hXa HBa hD ⊢
        have hsz5 := HBa.size
        generalize wr.heap.size = D at hD hDg hDh hDx hDA hsz ⊢
        have e4 := hD.cell 4
        clear d0 d1 d2 d3 d4
        go_region_held3 (fun w' => w'.cell? ⟨D, 4, none⟩ = some (.int .i64 d.stamp))
          (first
            | exact e4
            | exact Keep.cellS (S := fun i => i = g ∨ i = h) k3 e4 (fun q => q.elim hDg hDh)
            | exact Keep.cellS k4 (Keep.cellS k3 e4 (fun q => q.elim hDg hDh)) hDx
            | exact Keep.cellS (S := fun i => i = gx) k4 e4 hDx)
          (first
            | (go_at_call 35; refine (tbegin_any g h cp (txZero :: L) d.stamp _ (by exact hBa) (by simp) (by simp; omega)).mono ?_; rintro e w3 ⟨h3, cap3, rfl, hB3, k3, hh3⟩)
            | (go_at_call 58; refine (xbegin_any gx cx A L ((txZero :: L).length : Nat) d.stamp _ (by exact hXa.keep (Keep.trans (Keep.drew _ _) k3) (fun q => q.elim (fun q => n1 q.symm) (fun q => n2 q.symm)) (fun x e q => q.elim (n3 x e).1 (n3 x e).2)) (by omega)).mono ?_; rintro e w4 ⟨hx4, cx4, rfl, hX4, k4, hhx4⟩))
        · have hLe : (txZero :: L) ++ [(⟨((txZero :: L).length : Nat), d.stamp, 1, 0⟩ : Tx)] = txZero :: (L ++ [⟨((txZero :: L).length : Nat), d.stamp, 1, 0⟩]) := rfl
          have ho9 := okL_begin _ d.stamp hok.out
          have hi9 := idL_begin _ d.stamp hid.out
          rw [hLe] at hB3 ho9 hi9
          have hl9 : (L ++ [(⟨((txZero :: L).length : Nat), d.stamp, 1, 0⟩ : Tx)]).length = L.length + 1 := by simp
          have hb3 := bl_keep HBa (Keep.trans (Keep.drew _ _) k3) (fun i hi => by rcases hi with rfl | rfl <;> omega)
          have hh3' : w.heap.size ≤ h3 := by have : w5.heap.size = w5.drew.heap.size := rfl; omega
          have hb9 : Below w.heap.size w w4 := bl_keep hb3 k4 (fun i hi => by subst hi; omega)
          have hgh3 := books_apart hB3 (hXa.keep (Keep.trans (Keep.drew _ _) k3) (fun q => q.elim (fun q => n1 q.symm) (fun q => n2 q.symm)) (fun x e q => q.elim (n3 x e).1 (n3 x e).2))
          have hB9 : Book w4 g h3 cap3 (txZero :: (L ++ [⟨((txZero :: L).length : Nat), d.stamp, 1, 0⟩])) := Tab.keep hB3 k4 hgh3.1 hgh3.2.1
          have hX9 : XBook w4 gx (some ⟨hx4, 0, none⟩) cx4 (L ++ [⟨((txZero :: L).length : Nat), d.stamp, 1, 0⟩]) := hX4
          have hD9 := k4.bk ((Keep.trans (Keep.drew _ _) k3).bk hD (fun q => q.elim hDg hDh)) hDx
          have hA9 : ∀ x, (some ⟨hx4, 0, none⟩ : Option Addr) = some x → w.heap.size ≤ x.block := by
            intro x e; injection e with e; subst e; have := hb3.size; show w.heap.size ≤ hx4; omega
          obtain ⟨w9, hw9⟩ : ∃ x, x = w4 := ⟨_, rfl⟩
          obtain ⟨h9, hh9⟩ : ∃ x, x = h3 := ⟨_, rfl⟩
          obtain ⟨cp9, hc9⟩ : ∃ x, x = cap3 := ⟨_, rfl⟩
          obtain ⟨A9, hA9e⟩ : ∃ x, x = (some ⟨hx4, 0, none⟩ : Option Addr) := ⟨_, rfl⟩
          obtain ⟨cx9, hcx9⟩ : ∃ x, x = cx4 := ⟨_, rfl⟩
          rw [← hw9] at hB9 hX9 hD9 hb9 ⊢
          rw [← hh9] at hB9 hh3'
          rw [← hc9] at hB9
          rw [← hA9e] at hX9 hA9
          rw [← hcx9] at hX9
          have ho9 := Lib.hid ho9
          have hi9 := Lib.hid hi9
          have hl9' : (L ++ [(⟨((txZero :: L).length : Nat), d.stamp, 1, 0⟩ : Tx)]).length ≤ k + 1 := by rw [hl9]; omega
          generalize L ++ [(⟨((txZero :: L).length : Nat), d.stamp, 1, 0⟩ : Tx)] = L9 at hB9 hX9 ho9 hi9 hl9'
          clear hw9 hh9 hc9 hA9e hcx9 hl9 hgh3
          clear k3 k4 hB3 hX4 hBa hXa HBa hD e4 hb3 hsz5 hhx4 hh3 hLe
          have e1g := hD9.cell 1
          go_wp2_with fail
          refine (tget_any _ _ _ _ _ _ hB9 (by simp) (by simp; omega)).mono ?_
          rintro e w6 ⟨rfl, hb6⟩
          have hB6 := hB9.below hb6
          have hX6 := hX9.below hb6
          have hD6 := hD9.below hb6
          have hbb6 := bl_then hb9 (Nat.le_refl _) hb6
          clear hB9 hX9 hD9 hb9 hb6 e1g
          by_cases hin : 1 ≤ d.id ∧ d.id ≤ L9.length
          · obtain ⟨j, hj⟩ : ∃ j : Nat, d.id = (j : Int) + 1 := ⟨(d.id - 1).toNat, by omega⟩
            have hjl : j < L9.length := by omega
            have ht : txAt (txZero :: L9) d.id = some L9[j] := by
              have := txAt_yes (txZero :: L9) (j + 1) (by omega) (by simp; omega)
              rw [hj]; simpa only [List.getElem_cons_succ, Int.natCast_add, Int.cast_ofNat_Int] using this
            rw [ht]
            have hx : L9[j]? = some L9[j] := List.getElem?_eq_getElem hjl
            have hx1 : (txZero :: L9)[j + 1]? = some L9[j] := hx
            have hxi : L9[j].id = (j : Int) + 1 := by have := hi9.out (j + 1) _ hx1; rw [this]; simp
            have hgd : L9.getD (d.id - 1).toNat ⟨0, 0, 0, 0⟩ = L9[j] := by rw [hj]; have : ((j : Int) + 1 - 1).toNat = j := by omega
                                                                           rw [this]; simp [List.getD_eq_getElem?_getD, hjl]
            have hst : (if 1 ≤ d.id ∧ d.id ≤ L9.length then (L9.getD (d.id - 1).toNat ⟨0, 0, 0, 0⟩).state else 0) = L9[j].state := by rw [if_pos hin, hgd]
            rcases hX6.form with ⟨_, e, _⟩ | ⟨hx9, rfl, q1, q2, q3, q4, q5⟩
            · rw [e] at hjl; simp at hjl
            have hO : Below w6.heap.size w6 (w6.alloc (.cells #[.int .i64 L9[j].id, .int .i64 L9[j].stamp, .int .i64 L9[j].state, .int .i64 L9[j].why] 57)) := (Below.refl _ _).alloc (Nat.le_refl _) _
            have hB7 := hB6.below hO
            have hX7 := hX6.below hO
            have hD7 := hD6.below hO
            have hbb7 := bl_then hbb6 (Nat.le_refl _) hO
            have hY7 : Bk (w6.alloc (.cells #[.int .i64 L9[j].id, .int .i64 L9[j].stamp, .int .i64 L9[j].state, .int .i64 L9[j].why] 57)) w6.heap.size 57 #[.int .i64 L9[j].id, .int .i64 L9[j].stamp, .int .i64 L9[j].state, .int .i64 L9[j].why] := Bk.new _ _ _
            obtain ⟨x0, x1, x2⟩ := (xcells hX7 j _ hx).1
            have hc7 := hX7.cell
            clear hx hx1 hgd hB6 hX6 hD6 hbb6 hO ht
            rw [hxi] at hB7 hX7 hD7 hbb7 hY7 x0 x1 x2 hc7
            unfold aggT
            simp only [Option.getD_some, Option.isSome_some]
            rw [hxi]
            clear hxi
            have hstH := Lib.hid hst
            clear hst
            generalize L9[j] = y at hB7 hX7 hD7 hbb7 hY7 x0 x1 x2 hc7 hstH ⊢
            obtain ⟨yi, ys, yt, yw⟩ := y
            dsimp only at hB7 hX7 hD7 hbb7 hY7 x0 x1 x2 hc7 hstH ⊢
            go_wp2_with fail
            generalize w6.alloc (.cells #[.int .i64 (j + 1), .int .i64 ys, .int .i64 yt, .int .i64 yw] 57) = w7 at hB7 hX7 hD7 hbb7 hY7 x0 x1 x2 hc7 ⊢
            generalize w6.heap.size = Y at hY7 ⊢
            have y0 := hY7.cell 0
            have y1 := hY7.cell 1
            have y2 := hY7.cell 2
            have y3 := hY7.cell 3
            have e1 := hD7.cell 1
            have hL9s : L9.length ≤ 1000 := by omega
            have HX7 := Lib.hid hX7
            have HB7 := Lib.hid hB7
            rw [hj] at e1 hstH
            generalize hN : L9.length = N at hc7 hjl
            have HN := Lib.hid hN
            have hN2 : N ≤ 1000 := by omega
            have t1 : IntKind.i64.wrap ((j : Int) + 1 - 1) = j := by rw [IntKind.wrap_i64]; omega
            have t2 : (1 : Int) ≤ (j : Int) + 1 := by omega
            have t3 : (j : Int) + 1 ≤ (N : Int) := by omega
            clear hN hin hj hX7 hB7 hD7 hY7 q1 q2 q3 q4 q5
            go_big_quiet (first
              | (go_at_call 60; exact Calls.quiet_of_same ((xstate_any gx cx9 _ L9 ((j : Int) + 1) _ (HX7.out.below (below_drewN _ _)) hL9s).mono fun _ _ h => ⟨h.1.trans (by rw [hstH.out]), h.2.symm⟩)))
            go_wp2
            go_roundw
            case rel => exact ⟨k + 1, h9, cp9, L9, _, cx9, by omega, by go_num, HB7.out.below (below_drewN _ _), HX7.out.below (below_drewN _ _), ho9, hi9, hl9', hh3', hA9, bl_then hbb7 (Nat.le_refl _) (below_drewN _ _)⟩
            case measure => simp [intOf]; omega
          · have ht : txAt (txZero :: L9) d.id = none := txAt_no _ _ (by simp; omega)
            rw [ht]
            have hO : Below w6.heap.size w6 (w6.alloc (.cells #[.int .i64 0, .int .i64 0, .int .i64 0, .int .i64 0] 57)) := (Below.refl _ _).alloc (Nat.le_refl _) _
            have hB7 := hB6.below hO
            have hX7 := hX6.below hO
            have hD7 := hD6.below hO
            have hbb7 := bl_then hbb6 (Nat.le_refl _) hO
            have hc7 := hX7.cell
            clear hB6 hX6 hD6 hbb6 hO ht
            unfold aggT txZero
            simp only [Option.getD_none, Option.isSome_none]
            go_wp2_with fail
            generalize w6.alloc (.cells #[.int .i64 0, .int .i64 0, .int .i64 0, .int .i64 0] 57) = w7 at hB7 hX7 hD7 hbb7 hc7 ⊢
            have e1 := hD7.cell 1
            have hL9s : L9.length ≤ 1000 := by omega
            have HX7 := Lib.hid hX7
            have HB7 := Lib.hid hB7
            generalize hN : L9.length = N at hc7 hin
            have HN := Lib.hid hN
            have hN2 : N ≤ 1000 := by omega
            clear hN hX7 hB7 hD7
            by_cases hlow : 1 ≤ d.id
            · have hhigh : ¬ (d.id ≤ (N : Int)) := by omega
              have hhigh2 : (N : Int) < d.id := by omega
              clear hin
              go_big_quiet (fail)
              go_wp2
              go_roundw
              case rel => exact ⟨k + 1, h9, cp9, L9, A9, cx9, by omega, by go_num, HB7.out.below (below_drewN _ _), HX7.out.below (below_drewN _ _), ho9, hi9, hl9', hh3', hA9, bl_then hbb7 (Nat.le_refl _) (below_drewN _ _)⟩
              case measure => simp [intOf]; omega
            · clear hin
              go_big_quiet (fail)
              go_wp2
              go_roundw
              case rel => exact ⟨k + 1, h9, cp9, L9, A9, cx9, by omega, by go_num, HB7.out.below (below_drewN _ _), HX7.out.below (below_drewN _ _), ho9, hi9, hl9', hh3', hA9, bl_then hbb7 (Nat.le_refl _) (below_drewN _ _)⟩
              case measure => simp [intOf]; omega
      · have hk1 : (d.kind == 0) = false := beq_eq_false_iff_ne.2 hk0
        clear hk0
        go_wp2_with fail
        generalize wr.alloc (.cells #[.int .i64 d.kind, .int .i64 d.id, .int .i64 d.st, .int .i64 d.why, .int .i64 d.stamp] 52) = w5 at hBa hXa HBa hD ⊢
        have hsz5 := HBa.size
        generalize wr.heap.size = D at hD hDg hDh hDx hDA hsz ⊢
        have e1 := hD.cell 1
        have e2 := hD.cell 2
        have e3 := hD.cell 3
        clear d0 d1 d2 d3 d4
        go_region_held3 (fun w' => w'.cell? ⟨D, 1, none⟩ = some (.int .i64 d.id) ∧ w'.cell? ⟨D, 2, none⟩ = some (.int .i64 d.st) ∧ w'.cell? ⟨D, 3, none⟩ = some (.int .i64 d.why))
          (first
            | exact ⟨e1, e2, e3⟩
            | exact ⟨Keep.cellS k3 e1 hDh, Keep.cellS k3 e2 hDh, Keep.cellS k3 e3 hDh⟩
            | exact ⟨Keep.cellS k4 (Keep.cellS k3 e1 hDh) hDA', Keep.cellS k4 (Keep.cellS k3 e2 hDh) hDA', Keep.cellS k4 (Keep.cellS k3 e3 hDh) hDA'⟩)
          (first
            | (go_at_call 36; refine (tturn_any g h cp (txZero :: L) d.id d.st d.why _ (by exact hBa) (by simp) (by simp; omega)).mono ?_; rintro e w3 ⟨rfl, hB3, k3⟩)
            | (go_at_call 59; refine (xturn_any gx cx A L d.id d.st d.why _ (by exact hXa.keep (Keep.trans (Keep.drew _ _) k3) (fun q => n2 q.symm) (fun x e q => (n3 x e).2 q)) (by omega)).mono ?_; rintro e w4 ⟨rfl, hX4, k4⟩; have hDA' : ¬ (∃ x, A = some x ∧ D = x.block) := fun ⟨x, e, q⟩ => hDA x e q))
        · have ho9 := okL_turn _ d.id d.st d.why hok.out
          have hi9 := idL_turn _ d.id d.st d.why hid.out
          rw [trnL_cons] at hB3 ho9 hi9
          have hl9 : (trnX L d.id d.st d.why).length = L.length := trnX_len _ _ _ _
          have hb3 := bl_keep HBa (Keep.trans (Keep.drew _ _) k3) (fun i hi => by subst hi; omega)
          have hb9 : Below w.heap.size w w4 := bl_keep hb3 k4 (fun i hi => by obtain ⟨x, e, rfl⟩ := hi; exact hA0 x e)
          have hB9 : Book w4 g h cp (txZero :: trnX L d.id d.st d.why) := Tab.keep hB3 k4 (fun ⟨x, e, q⟩ => (n3 x e).1 q.symm) (fun ⟨x, e, q⟩ => (n3 x e).2 q.symm)
          have hX9 : XBook w4 gx A cx (trnX L d.id d.st d.why) := hX4
          have hD9 := k4.bk ((Keep.trans (Keep.drew _ _) k3).bk hD hDh) hDA'
          have hA9 := hA0
          have hh3' := hh0
          obtain ⟨w9, hw9⟩ : ∃ x, x = w4 := ⟨_, rfl⟩
          obtain ⟨h9, hh9⟩ : ∃ x, x = h := ⟨_, rfl⟩
          obtain ⟨cp9, hc9⟩ : ∃ x, x = cp := ⟨_, rfl⟩
          obtain ⟨A9, hA9e⟩ : ∃ x, x = A := ⟨_, rfl⟩
          obtain ⟨cx9, hcx9⟩ : ∃ x, x = cx := ⟨_, rfl⟩
          rw [← hw9] at hB9 hX9 hD9 hb9 ⊢
          rw [← hh9] at hB9 hh3'
          rw [← hc9] at hB9
          rw [← hA9e] at hX9 hA9
          rw [← hcx9] at hX9
          have ho9 := Lib.hid ho9
          have hi9 := Lib.hid hi9
          have hl9' : (trnX L d.id d.st d.why).length ≤ k + 1 := by rw [hl9]; omega
          generalize trnX L d.id d.st d.why = L9 at hB9 hX9 ho9 hi9 hl9'
          generalize trnE (txZero :: L) d.id d.st d.why = E9 at ⊢
          clear hw9 hh9 hc9 hA9e hcx9 hl9
          clear k3 k4 hB3 hX4 hBa hXa HBa hD e1 e2 e3 hb3 hsz5
          have e1g := hD9.cell 1
          go_wp2_with fail
          refine (tget_any _ _ _ _ _ _ hB9 (by simp) (by simp; omega)).mono ?_
          rintro e w6 ⟨rfl, hb6⟩
          have hB6 := hB9.below hb6
          have hX6 := hX9.below hb6
          have hD6 := hD9.below hb6
          have hbb6 := bl_then hb9 (Nat.le_refl _) hb6
          clear hB9 hX9 hD9 hb9 hb6 e1g
          by_cases hin : 1 ≤ d.id ∧ d.id ≤ L9.length
          · obtain ⟨j, hj⟩ : ∃ j : Nat, d.id = (j : Int) + 1 := ⟨(d.id - 1).toNat, by omega⟩
            have hjl : j < L9.length := by omega
            have ht : txAt (txZero :: L9) d.id = some L9[j] := by
              have := txAt_yes (txZero :: L9) (j + 1) (by omega) (by simp; omega)
              rw [hj]; simpa only [List.getElem_cons_succ, Int.natCast_add, Int.cast_ofNat_Int] using this
            rw [ht]
            have hx : L9[j]? = some L9[j] := List.getElem?_eq_getElem hjl
            have hx1 : (txZero :: L9)[j + 1]? = some L9[j] := hx
            have hxi : L9[j].id = (j : Int) + 1 := by have := hi9.out (j + 1) _ hx1; rw [this]; simp
            have hgd : L9.getD (d.id - 1).toNat ⟨0, 0, 0, 0⟩ = L9[j] := by rw [hj]; have : ((j : Int) + 1 - 1).toNat = j := by omega
                                                                           rw [this]; simp [List.getD_eq_getElem?_getD, hjl]
            have hst : (if 1 ≤ d.id ∧ d.id ≤ L9.length then (L9.getD (d.id - 1).toNat ⟨0, 0, 0, 0⟩).state else 0) = L9[j].state := by rw [if_pos hin, hgd]
            rcases hX6.form with ⟨_, e, _⟩ | ⟨hx9, rfl, q1, q2, q3, q4, q5⟩
            · rw [e] at hjl; simp at hjl
            have hO : Below w6.heap.size w6 (w6.alloc (.cells #[.int .i64 L9[j].id, .int .i64 L9[j].stamp, .int .i64 L9[j].state, .int .i64 L9[j].why] 57)) := (Below.refl _ _).alloc (Nat.le_refl _) _
            have hB7 := hB6.below hO
            have hX7 := hX6.below hO
            have hD7 := hD6.below hO
            have hbb7 := bl_then hbb6 (Nat.le_refl _) hO
            have hY7 : Bk (w6.alloc (.cells #[.int .i64 L9[j].id, .int .i64 L9[j].stamp, .int .i64 L9[j].state, .int .i64 L9[j].why] 57)) w6.heap.size 57 #[.int .i64 L9[j].id, .int .i64 L9[j].stamp, .int .i64 L9[j].state, .int .i64 L9[j].why] := Bk.new _ _ _
            obtain ⟨x0, x1, x2⟩ := (xcells hX7 j _ hx).1
            have hc7 := hX7.cell
            clear hx hx1 hgd hB6 hX6 hD6 hbb6 hO ht
            rw [hxi] at hB7 hX7 hD7 hbb7 hY7 x0 x1 x2 hc7
            unfold aggT
            simp only [Option.getD_some, Option.isSome_some]
            rw [hxi]
            clear hxi
            have hstH := Lib.hid hst
            clear hst
            generalize L9[j] = y at hB7 hX7 hD7 hbb7 hY7 x0 x1 x2 hc7 hstH ⊢
            obtain ⟨yi, ys, yt, yw⟩ := y
            dsimp only at hB7 hX7 hD7 hbb7 hY7 x0 x1 x2 hc7 hstH ⊢
            go_wp2_with fail
            generalize w6.alloc (.cells #[.int .i64 (j + 1), .int .i64 ys, .int .i64 yt, .int .i64 yw] 57) = w7 at hB7 hX7 hD7 hbb7 hY7 x0 x1 x2 hc7 ⊢
            generalize w6.heap.size = Y at hY7 ⊢
            have y0 := hY7.cell 0
            have y1 := hY7.cell 1
            have y2 := hY7.cell 2
            have y3 := hY7.cell 3
            have e1 := hD7.cell 1
            have hL9s : L9.length ≤ 1000 := by omega
            have HX7 := Lib.hid hX7
            have HB7 := Lib.hid hB7
            rw [hj] at e1 hstH
            generalize hN : L9.length = N at hc7 hjl
            have HN := Lib.hid hN
            have hN2 : N ≤ 1000 := by omega
            have t1 : IntKind.i64.wrap ((j : Int) + 1 - 1) = j := by rw [IntKind.wrap_i64]; omega
            have t2 : (1 : Int) ≤ (j : Int) + 1 := by omega
            have t3 : (j : Int) + 1 ≤ (N : Int) := by omega
            clear hN hin hj hX7 hB7 hD7 hY7 q1 q2 q3 q4 q5
            go_big_quiet (first
              | (go_at_call 60; exact Calls.quiet_of_same ((xstate_any gx cx9 _ L9 ((j : Int) + 1) _ (HX7.out.below (below_drewN _ _)) hL9s).mono fun _ _ h => ⟨h.1.trans (by rw [hstH.out]), h.2.symm⟩)))
            go_wp2
            go_roundw
            case rel => exact ⟨k + 1, h9, cp9, L9, _, cx9, by omega, by go_num, HB7.out.below (below_drewN _ _), HX7.out.below (below_drewN _ _), ho9, hi9, hl9', hh3', hA9, bl_then hbb7 (Nat.le_refl _) (below_drewN _ _)⟩
            case measure => simp [intOf]; omega
          · have ht : txAt (txZero :: L9) d.id = none := txAt_no _ _ (by simp; omega)
            rw [ht]
            have hO : Below w6.heap.size w6 (w6.alloc (.cells #[.int .i64 0, .int .i64 0, .int .i64 0, .int .i64 0] 57)) := (Below.refl _ _).alloc (Nat.le_refl _) _
            have hB7 := hB6.below hO
            have hX7 := hX6.below hO
            have hD7 := hD6.below hO
            have hbb7 := bl_then hbb6 (Nat.le_refl _) hO
            have hc7 := hX7.cell
            clear hB6 hX6 hD6 hbb6 hO ht
            unfold aggT txZero
            simp only [Option.getD_none, Option.isSome_none]
            go_wp2_with fail
            generalize w6.alloc (.cells #[.int .i64 0, .int .i64 0, .int .i64 0, .int .i64 0] 57) = w7 at hB7 hX7 hD7 hbb7 hc7 ⊢
            have e1 := hD7.cell 1
            have hL9s : L9.length ≤ 1000 := by omega
            have HX7 := Lib.hid hX7
            have HB7 := Lib.hid hB7
            generalize hN : L9.length = N at hc7 hin
            have HN := Lib.hid hN
            have hN2 : N ≤ 1000 := by omega
            clear hN hX7 hB7 hD7
            by_cases hlow : 1 ≤ d.id
            · have hhigh : ¬ (d.id ≤ (N : Int)) := by omega
              have hhigh2 : (N : Int) < d.id := by omega
              clear hin
              go_big_quiet (fail)
              go_wp2
              go_roundw
              case rel => exact ⟨k + 1, h9, cp9, L9, A9, cx9, by omega, by go_num, HB7.out.below (below_drewN _ _), HX7.out.below (below_drewN _ _), ho9, hi9, hl9', hh3', hA9, bl_then hbb7 (Nat.le_refl _) (below_drewN _ _)⟩
              case measure => simp [intOf]; omega
            · clear hin
              go_big_quiet (fail)
              go_wp2
              go_roundw
              case rel => exact ⟨k + 1, h9, cp9, L9, A9, cx9, by omega, by go_num, HB7.out.below (below_drewN _ _), HX7.out.below (below_drewN _ _), ho9, hi9, hl9', hh3', hA9, bl_then hbb7 (Nat.le_refl _) (below_drewN _ _)⟩
              case measure => simp [intOf]; omega
    · obtain rfl : k = len := by omega
      clear hl
      have hL60 : L.length ≤ 60 := by omega
      go_wp2_with fail
      refine (tstamps_any _ _ _ _ _ hB (by simp) (by simp; omega)).mono ?_
      rintro e w3 ⟨v, rfl, hown, bel3⟩
      have hB3 := hB.below bel3
      have hX3 := hX.below bel3
      have hb3 := bl_then HB (Nat.le_refl _) bel3
      obtain ⟨A3, c3, rfl, hI3⟩ := own_ints hown
      clear hown bel3 hB hX HB
      have hlen1 : (txZero :: L).length = L.length + 1 := rfl
      rw [hlen1] at hI3 ⊢
      have hc3 := hX3.cell
      obtain ⟨b3, o3, rfl, z0⟩ := hI3.get (i := 0) (by omega)
      have z00 : (stampsL (txZero :: L)).getD 0 0 = 0 := rfl
      rw [z00] at z0
      simp only [Nat.add_zero] at z0
      generalize hN : L.length = N at hc3 hI3 hL60 hL2 ⊢
      have HN := Lib.hid hN
      have HI3 := Lib.hid hI3
      clear hN hI3 hlen1 z00
      go_wp2_with fail
      go_loopw [153] (fun c wr2 => ∃ i : Nat, i ≤ N ∧ c = .int .i64 i ∧ Below w3.heap.size w3 wr2) (fun c _ => N - (intOf c).toNat)
      case atStart => exact ⟨0, by omega, rfl, Below.refl _ _⟩
      case round =>
        obtain ⟨i, hi, rfl, hbr⟩ := hrel
        have hXr := hX3.below hbr
        have hBr := hB3.below hbr
        by_cases hlt2 : i < N
        · have hil : i < L.length := by rw [HN.out]; exact hlt2
          have hx : L[i]? = some L[i] := List.getElem?_eq_getElem hil
          rcases hXr.form with ⟨_, e, _⟩ | ⟨hx9, rfl, _⟩
          · rw [e] at hil; simp at hil
          obtain ⟨x0, x1, x2⟩ := (xcells hXr i _ hx).1
          obtain ⟨b5, o5, e5, hc5⟩ := (HI3.out.below hbr).get (i := i + 1) (by omega)
          injection e5 with e5
          injection e5 with e5 e6
          subst e5 e6
          rw [stamps_at L i hil] at hc5
          have hO : Below wr.heap.size wr (wr.alloc (.cells #[.int .i64 L[i].stamp, .int .i64 L[i].state, .int .i64 L[i].why] 98)) := (Below.refl _ _).alloc (Nat.le_refl _) _
          clear hx hXr hBr hX3 hB3
          generalize L[i] = y at x0 x1 x2 hc5 hO
          obtain ⟨yi, ys, yt, yw⟩ := y
          dsimp only at x0 x1 x2 hc5 hO
          have hc6 := cell_new_a (.cells #[.int .i64 ys, .int .i64 yt, .int .i64 yw] 98) hc5
          have hbr7 := bl_then hbr (Nat.le_refl _) hO
          have t1 : IntKind.i64.wrap ((i : Int) + 1) = (i : Int) + 1 := by rw [IntKind.wrap_i64]; omega
          have hY : Bk (wr.alloc (.cells #[.int .i64 ys, .int .i64 yt, .int .i64 yw] 98)) wr.heap.size 98 #[.int .i64 ys, .int .i64 yt, .int .i64 yw] := Bk.new _ _ _
          clear hbr hO hc5
          go_wp2_with fail
          generalize wr.alloc (.cells #[.int .i64 ys, .int .i64 yt, .int .i64 yw] 98) = w7 at hc6 hbr7 hY ⊢
          generalize wr.heap.size = Y at hY ⊢
          have y0 := hY.cell 0
          clear hY x0 x1 x2
          go_big_quiet (fail)
          go_wp2
          go_roundw
          case rel => exact ⟨i + 1, by omega, by go_num, bl_then hbr7 (Nat.le_refl _) (below_drewN _ _)⟩
          case measure => simp [intOf]; omega
        · obtain rfl : i = N := by omega
          have ex : wr.cell? ⟨gx, 0, none⟩ = some (.slice A i cx) := by have := hXr.cell; rw [HN.out] at this; exact this
          have hL900 : L.length ≤ 900 := by rw [HN.out]; omega
          clear hX3 hB3 hc3 z0 HI3 hlt2
          rcases (show p < 1 ∨ 6 < p ∨ (¬ p < 1 ∧ ¬ 6 < p) by omega) with hp | hp | ⟨hp, hp6⟩
          · have hd1 : decide (p < 1) = true := decide_eq_true hp
            have hw0 := wordB_empty p
            generalize hwe : wordB p = s at hw0
            have hw := Lib.hid hwe
            have HW := Lib.hid hw0
            clear hwe hw0
            go_wp2_with fail
            replace hBr : Book wr.drew g h cp (txZero :: L) := hBr
            replace hXr : XBook wr.drew gx A cx L := hXr
            replace ex : wr.drew.cell? ⟨gx, 0, none⟩ = some (.slice A i cx) := ex
            refine wp_region_noPanic ?_
            refine wp_region_held_drew (S := fun w' => w'.cell? ⟨gx, 0, none⟩ = some (.slice A i cx)) (by kernel_rfl) ex (fun hHeld => ?_)
            refine takeD (i := 0) (v := ?v0) rfl rfl (by kernel_rfl) (by kernel_rfl) (by kernel_rfl) (fun _ _ _ h => h) (Or.inl ⟨by rfl, ?y0⟩) (by assumption) ?_
            case y0 => (intro w hSw; (try dsimp only at hSw); go_simp; try with_reducible rfl)
            try simp only [Act.put, List.setIfInBounds_toArray, List.set_cons_zero, List.set_cons_succ]
            refine takeD (i := 2) (v := ?v2) rfl rfl (by kernel_rfl) (by kernel_rfl) (by kernel_rfl) (fun _ _ _ h => h) (Or.inl ⟨by rfl, ?y2⟩) (by assumption) ?_
            case y2 => (intro w hSw; (try dsimp only at hSw); go_simp; try with_reducible rfl)
            try simp only [Act.put, List.setIfInBounds_toArray, List.set_cons_zero, List.set_cons_succ]
            refine wpAnyH_ready (rs := [1]) (by kernel_rfl) (by simp) ?_
            refine AllReadyH.cons rfl (fun K hK => ?_) AllReadyH.nil
            go_simp
            go_at_call 37; refine (tlive_any g h cp (txZero :: L) _ (by exact hBr) (by simp) (by simp; omega)).mono ?_; rintro e w5 ⟨v5, rfl, hown5, hb5⟩; obtain ⟨A5, c5, rfl, hI5⟩ := own_ints hown5
            try dsimp only
            refine hK.out _ _ (Keep.cellS (Keep.of_below hb5 (fun _ => False)) (ex) (fun h => h)) (fun hHeld2 => ?_)
            clear hK K hHeld
            have hHeld := hHeld2; clear hHeld2
            try simp only [Act.put, List.setIfInBounds_toArray, List.set_cons_zero, List.set_cons_succ]
            refine wpAnyH_ready (rs := [3]) (by kernel_rfl) (by simp) ?_
            refine AllReadyH.cons rfl (fun K hK => ?_) AllReadyH.nil
            go_simp
            go_at_call 63; refine (xlive_any gx cx A L _ (by exact hXr.below hb5) (by omega) hok.out).mono ?_; rintro e w6 ⟨v6, rfl, hown6, hb6⟩; obtain ⟨A6, c6, rfl, hI6⟩ := own_ints hown6
            try dsimp only
            refine hK.out _ _ (Keep.cellS (Keep.of_below hb6 (fun _ => False)) (Keep.cellS (Keep.of_below hb5 (fun _ => False)) (ex) (fun h => h)) (fun h => h)) (fun hHeld2 => ?_)
            clear hK K hHeld
            have hHeld := hHeld2; clear hHeld2
            try simp only [Act.put, List.setIfInBounds_toArray, List.set_cons_zero, List.set_cons_succ]
            refine wpAnyH_ready (rs := [4]) (by kernel_rfl) (by simp) ?_
            refine AllReadyH.cons rfl (fun K hK => ?_) AllReadyH.nil
            go_simp
            go_at_call 62; refine (sameInts_any _ _ _ _ _ _ _ _ _ (by exact hI5.below hb6) (by exact hI6)).mono ?_; rintro e w7 ⟨rfl, hb7⟩; rw [show sameB (liveTo (txZero :: L) (txZero :: L).length) (liveTo (txZero :: L) (L.length + 1)) = true from sameB_self _]
            try dsimp only
            refine hK.out _ _ (Keep.cellS (Keep.of_below hb7 (fun _ => False)) (Keep.cellS (Keep.of_below hb6 (fun _ => False)) (Keep.cellS (Keep.of_below hb5 (fun _ => False)) (ex) (fun h => h)) (fun h => h)) (fun h => h)) (fun hHeld2 => ?_)
            clear hK K hHeld
            have hHeld := hHeld2; clear hHeld2
            try simp only [Act.put, List.setIfInBounds_toArray, List.set_cons_zero, List.set_cons_succ]
            refine takeD (i := 5) (v := ?v5) rfl rfl (by kernel_rfl) (by kernel_rfl) (by kernel_rfl) (fun _ _ _ h => h) (Or.inl ⟨by rfl, ?y5⟩) (by assumption) ?_
            case y5 => (intro w hSw; (try dsimp only at hSw); go_simp; try with_reducible rfl)
            try simp only [Act.put, List.setIfInBounds_toArray, List.set_cons_zero, List.set_cons_succ]
            refine takeD (i := 6) (v := ?v6) rfl rfl (by kernel_rfl) (by kernel_rfl) (by kernel_rfl) (fun _ _ _ h => h) (Or.inl ⟨by rfl, ?y6⟩) (by assumption) ?_
            case y6 => (intro w hSw; (try dsimp only at hSw); go_simp; try with_reducible rfl)
            try simp only [Act.put, List.setIfInBounds_toArray, List.set_cons_zero, List.set_cons_succ]
            refine takeD (i := 8) (v := ?v8) rfl rfl (by kernel_rfl) (by kernel_rfl) (by kernel_rfl) (fun _ _ _ h => h) (Or.inl ⟨by rfl, ?y8⟩) (by assumption) ?_
            case y8 => (intro w hSw; (try dsimp only at hSw); go_simp; try with_reducible rfl)
            try simp only [Act.put, List.setIfInBounds_toArray, List.set_cons_zero, List.set_cons_succ]
            refine takeD (i := 9) (v := ?v9) rfl rfl (by kernel_rfl) (by kernel_rfl) (by kernel_rfl) (fun _ _ _ h => h) (Or.inl ⟨by rfl, ?y9⟩) (by assumption) ?_
            case y9 => (intro w hSw; (try dsimp only at hSw); go_simp; try with_reducible rfl)
            try simp only [Act.put, List.setIfInBounds_toArray, List.set_cons_zero, List.set_cons_succ]
            refine takeD (i := 10) (v := ?v10) rfl rfl (by kernel_rfl) (by kernel_rfl) (by kernel_rfl) (fun _ _ _ h => h) (Or.inl ⟨by rfl, ?y10⟩) (by assumption) ?_
            case y10 => (intro w hSw; (try dsimp only at hSw); go_simp; try with_reducible rfl)
            try simp only [Act.put, List.setIfInBounds_toArray, List.set_cons_zero, List.set_cons_succ]
            refine takeD (i := 11) (v := ?v11) rfl rfl (by kernel_rfl) (by kernel_rfl) (by kernel_rfl) (fun _ _ _ h => h) (Or.inl ⟨by rfl, ?y11⟩) (by assumption) ?_
            case y11 => (intro w hSw; (try dsimp only at hSw); go_simp; try with_reducible rfl)
            try simp only [Act.put, List.setIfInBounds_toArray, List.set_cons_zero, List.set_cons_succ]
            refine takeD (i := 12) (v := ?v12) rfl rfl (by kernel_rfl) (by kernel_rfl) (by kernel_rfl) (fun _ _ _ h => h) (Or.inl ⟨by rfl, ?y12⟩) (by assumption) ?_
            case y12 => (intro w hSw; (try dsimp only at hSw); go_simp; try with_reducible rfl)
            try simp only [Act.put, List.setIfInBounds_toArray, List.set_cons_zero, List.set_cons_succ]
            refine wpAnyH_ready (rs := [7]) (by kernel_rfl) (by simp) ?_
            refine AllReadyH.cons rfl (fun K hK => ?_) AllReadyH.nil
            go_simp
            go_at_call 34; refine (tlen_yes g (some ⟨h, 0, none⟩) L.length cp _ (by exact (((hBr.below hb5).below hb6).below hb7).cell) (by omega)).mono ?_; rintro e _ ⟨rfl, rfl⟩; rw [HN.out]
            try dsimp only
            refine hK.out _ _ (Keep.cellS (Keep.of_below hb7 (fun _ => False)) (Keep.cellS (Keep.of_below hb6 (fun _ => False)) (Keep.cellS (Keep.of_below hb5 (fun _ => False)) (ex) (fun h => h)) (fun h => h)) (fun h => h)) (fun hHeld2 => ?_)
            clear hK K hHeld
            have hHeld := hHeld2; clear hHeld2
            try simp only [Act.put, List.setIfInBounds_toArray, List.set_cons_zero, List.set_cons_succ]
            refine takeD (i := 13) (v := ?v13) rfl rfl (by kernel_rfl) (by kernel_rfl) (by kernel_rfl) (fun _ _ _ h => h) (Or.inl ⟨by rfl, ?y13⟩) (by assumption) ?_
            case y13 => (intro w hSw; (try dsimp only at hSw); go_simp; try with_reducible rfl)
            try simp only [Act.put, List.setIfInBounds_toArray, List.set_cons_zero, List.set_cons_succ]
            refine takeD (i := 14) (v := ?v14) rfl rfl (by kernel_rfl) (by kernel_rfl) (by kernel_rfl) (fun _ _ _ h => h) (Or.inl ⟨by rfl, ?y14⟩) (by assumption) ?_
            case y14 => (intro w hSw; (try dsimp only at hSw); go_simp; try with_reducible rfl)
            try simp only [Act.put, List.setIfInBounds_toArray, List.set_cons_zero, List.set_cons_succ]
            refine takeD (i := 15) (v := ?v15) rfl rfl (by kernel_rfl) (by kernel_rfl) (by kernel_rfl) (fun _ _ _ h => h) (Or.inl ⟨by rfl, ?y15⟩) (by assumption) ?_
            case y15 => (intro w hSw; (try dsimp only at hSw); go_simp; try with_reducible rfl)
            try simp only [Act.put, List.setIfInBounds_toArray, List.set_cons_zero, List.set_cons_succ]
            refine takeD (i := 16) (v := ?v16) rfl rfl (by kernel_rfl) (by kernel_rfl) (by kernel_rfl) (fun _ _ _ h => h) (Or.inl ⟨by rfl, ?y16⟩) (by assumption) ?_
            case y16 => (intro w hSw; (try dsimp only at hSw); go_simp; try with_reducible rfl)
            try simp only [Act.put, List.setIfInBounds_toArray, List.set_cons_zero, List.set_cons_succ]
            refine takeD (i := 17) (v := ?v17) rfl rfl (by kernel_rfl) (by kernel_rfl) (by kernel_rfl) (fun _ _ _ h => h) (Or.inl ⟨by rfl, ?y17⟩) (by assumption) ?_
            case y17 => (intro w hSw; (try dsimp only at hSw); go_simp; try with_reducible rfl)
            try simp only [Act.put, List.setIfInBounds_toArray, List.set_cons_zero, List.set_cons_succ]
            refine takeD (i := 19) (v := ?v19) rfl rfl (by kernel_rfl) (by kernel_rfl) (by kernel_rfl) (fun _ _ _ h => h) (Or.inl ⟨by rfl, ?y19⟩) (by assumption) ?_
            case y19 => (intro w hSw; (try dsimp only at hSw); go_simp; try with_reducible rfl)
            try simp only [Act.put, List.setIfInBounds_toArray, List.set_cons_zero, List.set_cons_succ]
            refine takeD (i := 20) (v := ?v20) rfl rfl (by kernel_rfl) (by kernel_rfl) (by kernel_rfl) (fun _ _ _ h => h) (Or.inl ⟨by rfl, ?y20⟩) (by assumption) ?_
            case y20 => (intro w hSw; (try dsimp only at hSw); go_simp; try with_reducible rfl)
            try simp only [Act.put, List.setIfInBounds_toArray, List.set_cons_zero, List.set_cons_succ]
            refine wpAnyH_ready (rs := [18]) (by kernel_rfl) (by simp) ?_
            refine AllReadyH.cons rfl (fun K hK => ?_) AllReadyH.nil
            go_simp
            go_at_call 64; refine (tmay_any p q _).mono ?_; rintro e w8 ⟨rfl, hb8⟩
            try dsimp only
            refine hK.out _ _ (Keep.cellS (Keep.of_below hb8 (fun _ => False)) (Keep.cellS (Keep.of_below hb7 (fun _ => False)) (Keep.cellS (Keep.of_below hb6 (fun _ => False)) (Keep.cellS (Keep.of_below hb5 (fun _ => False)) (ex) (fun h => h)) (fun h => h)) (fun h => h)) (fun h => h)) (fun hHeld2 => ?_)
            clear hK K hHeld
            have hHeld := hHeld2; clear hHeld2
            try simp only [Act.put, List.setIfInBounds_toArray, List.set_cons_zero, List.set_cons_succ]
            refine wpAnyH_ready (rs := [21]) (by kernel_rfl) (by simp) ?_
            refine AllReadyH.cons rfl (fun K hK => ?_) AllReadyH.nil
            go_simp
            go_at_call 65; refine (rmay_any p q _).mono ?_; rintro e _ ⟨rfl, rfl⟩
            try dsimp only
            refine hK.out _ _ (Keep.cellS (Keep.of_below hb8 (fun _ => False)) (Keep.cellS (Keep.of_below hb7 (fun _ => False)) (Keep.cellS (Keep.of_below hb6 (fun _ => False)) (Keep.cellS (Keep.of_below hb5 (fun _ => False)) (ex) (fun h => h)) (fun h => h)) (fun h => h)) (fun h => h)) (fun hHeld2 => ?_)
            clear hK K hHeld
            have hHeld := hHeld2; clear hHeld2
            try simp only [Act.put, List.setIfInBounds_toArray, List.set_cons_zero, List.set_cons_succ]
            refine takeD (i := 22) (v := ?v22) rfl rfl (by kernel_rfl) (by kernel_rfl) (by kernel_rfl) (fun _ _ _ h => h) (Or.inl ⟨by rfl, ?y22⟩) (by assumption) ?_
            case y22 => (intro w hSw; (try dsimp only at hSw); go_simp; try with_reducible rfl)
            try simp only [Act.put, List.setIfInBounds_toArray, List.set_cons_zero, List.set_cons_succ]
            refine takeD (i := 23) (v := ?v23) rfl rfl (by kernel_rfl) (by kernel_rfl) (by kernel_rfl) (fun _ _ _ h => h) (Or.inl ⟨by rfl, ?y23⟩) (by assumption) ?_
            case y23 => (intro w hSw; (try dsimp only at hSw); go_simp; try with_reducible rfl)
            try simp only [Act.put, List.setIfInBounds_toArray, List.set_cons_zero, List.set_cons_succ]
            refine takeD (i := 24) (v := ?v24) rfl rfl (by kernel_rfl) (by kernel_rfl) (by kernel_rfl) (fun _ _ _ h => h) (Or.inl ⟨by rfl, ?y24⟩) (by assumption) ?_
            case y24 => (intro w hSw; (try dsimp only at hSw); go_simp; try with_reducible rfl)
            try simp only [Act.put, List.setIfInBounds_toArray, List.set_cons_zero, List.set_cons_succ]
            refine takeD (i := 25) (v := ?v25) rfl rfl (by kernel_rfl) (by kernel_rfl) (by kernel_rfl) (fun _ _ _ h => h) (Or.inl ⟨by rfl, ?y25⟩) (by assumption) ?_
            case y25 => (intro w hSw; (try dsimp only at hSw); go_simp; try with_reducible rfl)
            try simp only [Act.put, List.setIfInBounds_toArray, List.set_cons_zero, List.set_cons_succ]
            refine takeD (i := 28) (v := ?v28) rfl rfl (by kernel_rfl) (by kernel_rfl) (by kernel_rfl) (fun _ _ _ h => h) (Or.inl ⟨by rfl, ?y28⟩) (by assumption) ?_
            case y28 => (intro w hSw; (try dsimp only at hSw); go_simp; try with_reducible rfl)
            try simp only [Act.put, List.setIfInBounds_toArray, List.set_cons_zero, List.set_cons_succ]
            refine takeD (i := 29) (v := ?v29) rfl rfl (by kernel_rfl) (by kernel_rfl) (by kernel_rfl) (fun _ _ _ h => h) (Or.inl ⟨by rfl, ?y29⟩) (by assumption) ?_
            case y29 => (intro w hSw; (try dsimp only at hSw); go_simp; try with_reducible rfl)
            try simp only [Act.put, List.setIfInBounds_toArray, List.set_cons_zero, List.set_cons_succ]
            refine wpAnyH_ready (rs := [26]) (by kernel_rfl) (by simp) ?_
            refine AllReadyH.cons rfl (fun K hK => ?_) AllReadyH.nil
            go_simp
            go_at_call 66; refine (tword_any p _).mono ?_; rintro e w9 ⟨rfl, hb9⟩; rw [hw.out]
            try dsimp only
            refine hK.out _ _ (Keep.cellS (Keep.of_below hb9 (fun _ => False)) (Keep.cellS (Keep.of_below hb8 (fun _ => False)) (Keep.cellS (Keep.of_below hb7 (fun _ => False)) (Keep.cellS (Keep.of_below hb6 (fun _ => False)) (Keep.cellS (Keep.of_below hb5 (fun _ => False)) (ex) (fun h => h)) (fun h => h)) (fun h => h)) (fun h => h)) (fun h => h)) (fun hHeld2 => ?_)
            clear hK K hHeld
            have hHeld := hHeld2; clear hHeld2
            try simp only [Act.put, List.setIfInBounds_toArray, List.set_cons_zero, List.set_cons_succ]
            refine takeD (i := 27) (v := ?v27) rfl rfl (by kernel_rfl) (by kernel_rfl) (by kernel_rfl) (fun _ _ _ h => h) (Or.inl ⟨by rfl, ?y27⟩) (by assumption) ?_
            case y27 => (intro w hSw; (try dsimp only at hSw); go_simp; try with_reducible rfl)
            try simp only [Act.put, List.setIfInBounds_toArray, List.set_cons_zero, List.set_cons_succ]
            refine takeD (i := 30) (v := ?v30) rfl rfl (by kernel_rfl) (by kernel_rfl) (by kernel_rfl) (fun _ _ _ h => h) (Or.inl ⟨by rfl, ?y30⟩) (by assumption) ?_
            case y30 => (intro w hSw; (try dsimp only at hSw); go_simp; try with_reducible rfl)
            try simp only [Act.put, List.setIfInBounds_toArray, List.set_cons_zero, List.set_cons_succ]
            refine takeD (i := 31) (v := undef) rfl rfl (by kernel_rfl) (by kernel_rfl) (by kernel_rfl) (fun _ _ _ h => h) (Or.inr ⟨by rfl, rfl⟩) (by assumption) ?_
            try simp only [Act.put, List.setIfInBounds_toArray, List.set_cons_zero, List.set_cons_succ]
            refine takeD (i := 32) (v := undef) rfl rfl (by kernel_rfl) (by kernel_rfl) (by kernel_rfl) (fun _ _ _ h => h) (Or.inr ⟨by rfl, rfl⟩) (by assumption) ?_
            try simp only [Act.put, List.setIfInBounds_toArray, List.set_cons_zero, List.set_cons_succ]
            refine takeD (i := 33) (v := ?v33) rfl rfl (by kernel_rfl) (by kernel_rfl) (by kernel_rfl) (fun _ _ _ h => h) (Or.inl ⟨by rfl, ?y33⟩) (by assumption) ?_
            case y33 => (intro w hSw; (try dsimp only at hSw); go_simp; try with_reducible rfl)
            try simp only [Act.put, List.setIfInBounds_toArray, List.set_cons_zero, List.set_cons_succ]
            refine takeD (i := 34) (v := ?v34) rfl rfl (by kernel_rfl) (by kernel_rfl) (by kernel_rfl) (fun _ _ _ h => h) (Or.inl ⟨by rfl, ?y34⟩) (by assumption) ?_
            case y34 => (intro w hSw; (try dsimp only at hSw); go_simp; try with_reducible rfl)
            try simp only [Act.put, List.setIfInBounds_toArray, List.set_cons_zero, List.set_cons_succ]
            refine takeD (i := 35) (v := ?v35) rfl rfl (by kernel_rfl) (by kernel_rfl) (by kernel_rfl) (fun _ _ _ h => h) (Or.inl ⟨by rfl, ?y35⟩) (by assumption) ?_
            case y35 => (intro w hSw; (try dsimp only at hSw); go_simp; try with_reducible rfl)
            try simp only [Act.put, List.setIfInBounds_toArray, List.set_cons_zero, List.set_cons_succ]
            refine takeD (i := 36) (v := ?v36) rfl rfl (by kernel_rfl) (by kernel_rfl) (by kernel_rfl) (fun _ _ _ h => h) (Or.inl ⟨by rfl, ?y36⟩) (by assumption) ?_
            case y36 => (intro w hSw; (try dsimp only at hSw); go_simp; try with_reducible rfl)
            try simp only [Act.put, List.setIfInBounds_toArray, List.set_cons_zero, List.set_cons_succ]
            refine wpAnyH_done (by kernel_rfl) ?_ _
            refine NoPanic.normal ?_
            have hfin := bl_then (bl_then (bl_then (bl_then (bl_then (bl_then (bl_then hb3 (Nat.le_refl _) hbr) (Nat.le_refl _) (below_drew _)) (Nat.le_refl _) hb5) (Nat.le_refl _) hb6) (Nat.le_refl _) hb7) (Nat.le_refl _) hb8) (Nat.le_refl _) hb9
            go_wp2
            go_ret
            refine ⟨?_, hfin⟩
            first
              | (simp [HW.out, hd1]; done)
              | (simp only [Act.put, List.setIfInBounds_toArray, List.set_cons_zero, List.set_cons_succ]; simp [HW.out, hd1]; done)
          · have hp1 : ¬ p < 1 := by omega
            have hd1 : decide (p < 1) = false := decide_eq_false hp1
            have hd6 : decide (6 < p) = true := decide_eq_true hp
            have hw0 := wordB_empty p
            generalize hwe : wordB p = s at hw0
            have hw := Lib.hid hwe
            have HW := Lib.hid hw0
            clear hwe hw0
            go_wp2_with fail
            replace hBr : Book wr.drew g h cp (txZero :: L) := hBr
            replace hXr : XBook wr.drew gx A cx L := hXr
            replace ex : wr.drew.cell? ⟨gx, 0, none⟩ = some (.slice A i cx) := ex
            first | go_region_held3 (fun w' => w'.cell? ⟨gx, 0, none⟩ = some (.slice A i cx))
              (first
                | exact ex
                | exact Keep.cellS (Keep.of_below hb5 (fun _ => False)) ex (fun h => h)
                | exact Keep.cellS (Keep.of_below hb6 (fun _ => False)) (Keep.cellS (Keep.of_below hb5 (fun _ => False)) ex (fun h => h)) (fun h => h)
                | exact Keep.cellS (Keep.of_below hb7 (fun _ => False)) (Keep.cellS (Keep.of_below hb6 (fun _ => False)) (Keep.cellS (Keep.of_below hb5 (fun _ => False)) ex (fun h => h)) (fun h => h)) (fun h => h)
                | exact Keep.cellS (Keep.of_below hb8 (fun _ => False)) (Keep.cellS (Keep.of_below hb7 (fun _ => False)) (Keep.cellS (Keep.of_below hb6 (fun _ => False)) (Keep.cellS (Keep.of_below hb5 (fun _ => False)) ex (fun h => h)) (fun h => h)) (fun h => h)) (fun h => h)
                | exact Keep.cellS (Keep.of_below hb9 (fun _ => False)) (Keep.cellS (Keep.of_below hb8 (fun _ => False)) (Keep.cellS (Keep.of_below hb7 (fun _ => False)) (Keep.cellS (Keep.of_below hb6 (fun _ => False)) (Keep.cellS (Keep.of_below hb5 (fun _ => False)) ex (fun h => h)) (fun h => h)) (fun h => h)) (fun h => h)) (fun h => h))
              (first
                | (go_at_call 37; refine (tlive_any g h cp (txZero :: L) _ (by exact hBr) (by simp) (by simp; omega)).mono ?_; rintro e w5 ⟨v5, rfl, hown5, hb5⟩; obtain ⟨A5, c5, rfl, hI5⟩ := own_ints hown5)
                | (go_at_call 63; refine (xlive_any gx cx A L _ (by exact hXr.below hb5) (by omega) hok.out).mono ?_; rintro e w6 ⟨v6, rfl, hown6, hb6⟩; obtain ⟨A6, c6, rfl, hI6⟩ := own_ints hown6)
                | (go_at_call 62; refine (sameInts_any _ _ _ _ _ _ _ _ _ (by exact hI5.below hb6) (by exact hI6)).mono ?_; rintro e w7 ⟨rfl, hb7⟩; rw [show sameB (liveTo (txZero :: L) (txZero :: L).length) (liveTo (txZero :: L) (L.length + 1)) = true from sameB_self _])
                | (go_at_call 34; refine (tlen_yes g (some ⟨h, 0, none⟩) L.length cp _ (by exact (((hBr.below hb5).below hb6).below hb7).cell) (by omega)).mono ?_; rintro e _ ⟨rfl, rfl⟩; rw [HN.out])
                | (go_at_call 64; refine (tmay_any p q _).mono ?_; rintro e w8 ⟨rfl, hb8⟩)
                | (go_at_call 65; refine (rmay_any p q _).mono ?_; rintro e _ ⟨rfl, rfl⟩)
                | (go_at_call 66; refine (tword_any p _).mono ?_; rintro e w9 ⟨rfl, hb9⟩; rw [hw.out])) | fail
            have hfin := bl_then (bl_then (bl_then (bl_then (bl_then (bl_then (bl_then hb3 (Nat.le_refl _) hbr) (Nat.le_refl _) (below_drew _)) (Nat.le_refl _) hb5) (Nat.le_refl _) hb6) (Nat.le_refl _) hb7) (Nat.le_refl _) hb8) (Nat.le_refl _) hb9
            go_wp2
            go_ret
            refine ⟨?_, hfin⟩
            first
              | (show Ending.returned (.bool (s.toList.isEmpty == (decide (p < 1) || decide (6 < p)))) = _; rw [HW.out, beq_self_eq_true])
              | (show Ending.returned (.bool s.toList.isEmpty) = _; rw [HW.out, decide_eq_true hp]; simp)
          · have hd1 : decide (p < 1) = false := decide_eq_false hp
            have hd6 : decide (6 < p) = false := decide_eq_false hp6
            have hw0 := wordB_empty p
            generalize hwe : wordB p = s at hw0
            have hw := Lib.hid hwe
            have HW := Lib.hid hw0
            clear hwe hw0
            go_wp2_with fail
            replace hBr : Book wr.drew g h cp (txZero :: L) := hBr
            replace hXr : XBook wr.drew gx A cx L := hXr
            replace ex : wr.drew.cell? ⟨gx, 0, none⟩ = some (.slice A i cx) := ex
            first | go_region_held3 (fun w' => w'.cell? ⟨gx, 0, none⟩ = some (.slice A i cx))
              (first
                | exact ex
                | exact Keep.cellS (Keep.of_below hb5 (fun _ => False)) ex (fun h => h)
                | exact Keep.cellS (Keep.of_below hb6 (fun _ => False)) (Keep.cellS (Keep.of_below hb5 (fun _ => False)) ex (fun h => h)) (fun h => h)
                | exact Keep.cellS (Keep.of_below hb7 (fun _ => False)) (Keep.cellS (Keep.of_below hb6 (fun _ => False)) (Keep.cellS (Keep.of_below hb5 (fun _ => False)) ex (fun h => h)) (fun h => h)) (fun h => h)
                | exact Keep.cellS (Keep.of_below hb8 (fun _ => False)) (Keep.cellS (Keep.of_below hb7 (fun _ => False)) (Keep.cellS (Keep.of_below hb6 (fun _ => False)) (Keep.cellS (Keep.of_below hb5 (fun _ => False)) ex (fun h => h)) (fun h => h)) (fun h => h)) (fun h => h)
                | exact Keep.cellS (Keep.of_below hb9 (fun _ => False)) (Keep.cellS (Keep.of_below hb8 (fun _ => False)) (Keep.cellS (Keep.of_below hb7 (fun _ => False)) (Keep.cellS (Keep.of_below hb6 (fun _ => False)) (Keep.cellS (Keep.of_below hb5 (fun _ => False)) ex (fun h => h)) (fun h => h)) (fun h => h)) (fun h => h)) (fun h => h))
              (first
                | (go_at_call 37; refine (tlive_any g h cp (txZero :: L) _ (by exact hBr) (by simp) (by simp; omega)).mono ?_; rintro e w5 ⟨v5, rfl, hown5, hb5⟩; obtain ⟨A5, c5, rfl, hI5⟩ := own_ints hown5)
                | (go_at_call 63; refine (xlive_any gx cx A L _ (by exact hXr.below hb5) (by omega) hok.out).mono ?_; rintro e w6 ⟨v6, rfl, hown6, hb6⟩; obtain ⟨A6, c6, rfl, hI6⟩ := own_ints hown6)
                | (go_at_call 62; refine (sameInts_any _ _ _ _ _ _ _ _ _ (by exact hI5.below hb6) (by exact hI6)).mono ?_; rintro e w7 ⟨rfl, hb7⟩; rw [show sameB (liveTo (txZero :: L) (txZero :: L).length) (liveTo (txZero :: L) (L.length + 1)) = true from sameB_self _])
                | (go_at_call 34; refine (tlen_yes g (some ⟨h, 0, none⟩) L.length cp _ (by exact (((hBr.below hb5).below hb6).below hb7).cell) (by omega)).mono ?_; rintro e _ ⟨rfl, rfl⟩; rw [HN.out])
                | (go_at_call 64; refine (tmay_any p q _).mono ?_; rintro e w8 ⟨rfl, hb8⟩)
                | (go_at_call 65; refine (rmay_any p q _).mono ?_; rintro e _ ⟨rfl, rfl⟩)
                | (go_at_call 66; refine (tword_any p _).mono ?_; rintro e w9 ⟨rfl, hb9⟩; rw [hw.out])) | fail
            have hfin := bl_then (bl_then (bl_then (bl_then (bl_then (bl_then (bl_then hb3 (Nat.le_refl _) hbr) (Nat.le_refl _) (below_drew _)) (Nat.le_refl _) hb5) (Nat.le_refl _) hb6) (Nat.le_refl _) hb7) (Nat.le_refl _) hb8) (Nat.le_refl _) hb9
            go_wp2
            go_ret
            refine ⟨?_, hfin⟩
            first
              | (show Ending.returned (.bool (!s.toList.isEmpty)) = _; rw [HW.out, hd1, hd6]; rfl)
              | (show Ending.returned (.bool (s.toList.isEmpty == (decide (p < 1) || decide (6 < p)))) = _; rw [HW.out, beq_self_eq_true])
              | (show Ending.returned (.bool s.toList.isEmpty) = _; rw [HW.out, decide_eq_true hp]; simp)
end Go.Proofs.Ytgdghinconghgaa
