/- The statement QueueAlone: its plain law and its walk. No condition. -/
import Derived.Test.YtdkbfmffnamdbaaQux
set_option linter.unusedVariables false
set_option linter.unusedSimpArgs false
namespace Go.Proofs.Ytdkbfmffnamdbaa
open Go.RowKit (wrap32 wrap64)
open Go.RowKit Go.Shelf Go.Sort
def alT (tx v : Int) : List Hd := if v = 0 then [] else [⟨tx, v⟩]
theorem al_of (tx v : Int) : ofT (alT tx v) tx = v := by
  unfold alT
  split
  · rename_i h; rw [h]; rfl
  · simp [ofT, isTx]
theorem al_len (tx v : Int) : (alT tx v).length ≤ 1 := by
  unfold alT; split <;> simp
theorem al_set (tx v t : Int) (h : t ≠ 0) : setT tx t (alT tx v) = alT tx t := by
  have e : alT tx t = [⟨tx, t⟩] := if_neg h
  rw [e]
  unfold alT
  split
  · rfl
  · simp [setT, isTx]
theorem al_goes (tx v t : Int) : goesT (alT tx v) tx t = true := by
  unfold alT
  split
  · rfl
  · simp [goesT, hits]
theorem cov_anti (a b : Int) (ha : 0 ≤ a ∧ a ≤ 6) (hb : 0 ≤ b ∧ b ≤ 6) (h1 : covT a b = true) (h2 : covT b a = true) : a = b := by
  have hd : ∀ i j : Fin 7, covT (i.val : Int) (j.val : Int) = true → covT (j.val : Int) (i.val : Int) = true → i = j := by decide +kernel
  have := hd ⟨a.toNat, by omega⟩ ⟨b.toNat, by omega⟩ (by rw [show (((⟨a.toNat, by omega⟩ : Fin 7).val : Nat) : Int) = a from by show ((a.toNat : Nat) : Int) = a; omega, show (((⟨b.toNat, by omega⟩ : Fin 7).val : Nat) : Int) = b from by show ((b.toNat : Nat) : Int) = b; omega]; exact h1) (by rw [show (((⟨a.toNat, by omega⟩ : Fin 7).val : Nat) : Int) = a from by show ((a.toNat : Nat) : Int) = a; omega, show (((⟨b.toNat, by omega⟩ : Fin 7).val : Nat) : Int) = b from by show ((b.toNat : Nat) : Int) = b; omega]; exact h2)
  have h3 := congrArg Fin.val this
  have h4 : a.toNat = b.toNat := h3
  omega
theorem alone_no (tx m v : Int) (h : m < 1 ∨ 6 < m) : askT (alT tx v) [] tx m 0 = ⟨0, 1, alT tx v, []⟩ := by
  unfold askT
  rw [if_pos]
  unfold chkT
  rw [if_neg (by omega)]
  decide
theorem alone_yes (tx m v : Int) (htx : 1 ≤ tx) (hv : 0 ≤ v ∧ v ≤ 6) (h : 1 ≤ m ∧ m ≤ 6) : askT (alT tx v) [] tx m 0 = ⟨1, 0, alT tx (supT v m), []⟩ := by
  have hs := sup_pos v m h
  unfold askT
  rw [if_neg (by unfold chkT; rw [if_pos ⟨htx, h, by omega, by omega⟩]; decide)]
  rw [if_neg (show ¬ 0 ≤ idxB (ofTx tx) [] from by show ¬ (0 : Int) ≤ -1; decide)]
  have htg : tgtT (alT tx v) tx m = supT v m := by unfold tgtT; rw [al_of]
  rw [htg, al_of]
  split
  · rename_i hc
    have hc2 : othT v m = false := by
      rw [Bool.and_eq_true] at hc
      simpa using hc.2
    have h1 := cov_sup_l v m
    have h2 : covT v (supT v m) = true := by unfold othT at hc2; rw [h1] at hc2; simpa using hc2
    rw [cov_anti (supT v m) v (by omega) hv h1 h2]
  · rw [if_pos]
    · rw [if_neg (by decide), al_set _ _ _ (by omega)]
    · unfold nowT
      rw [al_goes, Bool.and_true]
      cases convT (alT tx v) tx <;> rfl
theorem Known.mono {T U : Int → Prop} {H : List Hd} {W : List Wt} (k : Known T H W) (h : ∀ u, T u → U u) : Known U H W := ⟨fun x hx => h _ (k.1 x hx), fun x hx => h _ (k.2 x hx)⟩
theorem Known.none {T : Int → Prop} {H : List Hd} {W : List Wt} (k : Known T H W) (h : ∀ u, ¬ T u) : H = [] ∧ W = [] := by
  constructor
  · cases H with
    | nil => rfl
    | cons x l => exact absurd (k.1 x (by simp)) (h _)
  · cases W with
    | nil => rfl
    | cons x l => exact absurd (k.2 x (by simp)) (h _)
/-- Who may still be known when so many have let go. -/
def gonT (tx : Int) (X : List Int) (i : Nat) (u : Int) : Prop := (u = tx ∨ u ∈ X) ∧ u ∉ X.take i
theorem gon_step {tx : Int} {X : List Int} {i : Nat} {x u : Int} (hx : X[i]? = some x) (h : gonT tx X i u ∧ u ≠ x) : gonT tx X (i + 1) u := by
  refine ⟨h.1.1, fun hm => ?_⟩
  rw [take_snocG X i x hx] at hm
  rcases List.mem_append.1 hm with hm | hm
  · exact h.1.2 hm
  · exact h.2 (List.mem_singleton.1 hm)
theorem gon_end {tx : Int} {X : List Int} (u : Int) : ¬ (gonT tx X X.length u ∧ u ≠ tx) := by
  rintro ⟨⟨h1, h2⟩, h3⟩
  rw [List.take_length] at h2
  rcases h1 with h1 | h1
  · exact h3 h1
  · exact h2 h1
set_option maxRecDepth 100000 in
set_option maxHeartbeats 8000000 in
theorem queueAlone_walk (a2 : Option Addr) (len2 cap2 : Nat) (zs : List Int) (tx : Int) (a : Option Addr) (len cap : Nat) (css : List (List Value)) (w : World) (hzs : IsRow .i64 w a2 len2 cap2 zs) (htx0 : (Lit.int .i64 tx).wf = true) (hf : FlatRow w ksQd a len cap css) :
    Calls Try.prog 4 #[.slice a2 len2 cap2, .int .i64 tx, .slice a len cap] w fun e w' => e = .returned (.bool true) ∧ Below w.heap.size w w' := by
  obtain ⟨L, hl, hcap, hcm, hnil⟩ := SR.flat (ks := ksQd) (enc := enQd) (ok := okQd) (s := 4) rfl (by omega) enQd_len decQd hf
  obtain ⟨hi2, _, _, _⟩ := hzs.ints
  clear hf hnil hzs
  generalize zs.take len2 = O at hi2
  by_cases hmany2 : (30 : Int) < len2
  · clear hl hcap hcm hi2
    go_enter Try.func4, Try.ntmps4
    go_wp2_with (go_at_call 7; refine (awake12 _).mono ?_; rintro e w1 ⟨rfl, hb1⟩)
    go_ret
    exact ⟨rfl, hb1⟩
  have hfew2 : ¬ ((len2 : Int) > 30) := hmany2
  have hle2 : len2 ≤ 30 := by omega
  by_cases hmany : (40 : Int) < len
  · clear hl hcap hcm hi2
    go_enter Try.func4, Try.ntmps4
    go_wp2_with (go_at_call 7; refine (awake12 _).mono ?_; rintro e w1 ⟨rfl, hb1⟩)
    go_ret
    exact ⟨rfl, hb1⟩
  have hfew : ¬ ((len : Int) > 40) := hmany
  have hle : len ≤ 40 := by omega
  by_cases htx : tx < 1
  · clear hl hcap hcm hi2
    go_enter Try.func4, Try.ntmps4
    go_wp2_with (go_at_call 7; refine (awake12 _).mono ?_; rintro e w1 ⟨rfl, hb1⟩)
    go_ret
    exact ⟨rfl, hb1⟩
  have htx1 : 1 ≤ tx := by omega
  have hcm' : cap ≤ 9223372036854775807 := by unfold maxLen at hcm; exact hcm
  clear hmany hcm hmany2
  go_enter Try.func4, Try.ntmps4
  go_wp2_with (go_at_call 7; refine (awake12 _).mono ?_; rintro e w1 ⟨rfl, hb1⟩)
  have hq0 := QA.new w1
  have HB1 := bl_then hb1 (Nat.le_refl _) ((Below.refl w1.heap.size w1).alloc (Nat.le_refl _) (.cells #[.slice none 0 0, .slice none 0 0] 29))
  obtain ⟨q, hqe⟩ : ∃ q, q = w1.heap.size := ⟨_, rfl⟩
  rw [← hqe] at hq0 ⊢
  generalize w1.alloc (.cells #[.slice none 0 0, .slice none 0 0] 29) = w2 at hq0 HB1 ⊢
  have HQL : Hid (w.heap.size ≤ q) := Lib.hid (by rw [hqe]; exact hb1.size)
  clear hqe hb1
  go_loopw [8, 35] (fun hv c wr => ∃ (k : Nat) (v : Int), k ≤ len2 ∧ c = .int .i64 k ∧ hv = .int .i64 v ∧ 0 ≤ v ∧ v ≤ 6 ∧ QA wr q (alT tx v) [] ∧ QOk (alT tx v) [] ∧ Below w.heap.size w wr) (fun _ c _ => len2 - (intOf c).toNat)
  case atStart => exact ⟨0, 0, by omega, rfl, rfl, by omega, by omega, hq0, (show QOk [] [] from ⟨by decide, ⟨by simp, by simp, by simp⟩, by simp⟩), HB1⟩
  case round =>
    clear hq0 HB1
    obtain ⟨k, v, hk, rfl, rfl, hv0, hv6, hq, hok, HB⟩ := hrel
    by_cases hlt : k < len2
    · obtain ⟨b, off, rfl, d0⟩ := (hi2.below HB).get hlt
      generalize O.getD k 0 = m at d0
      generalize wr = w3 at hq HB d0 ⊢
      have HA := Lib.hid (qask_any q (alT tx v) [] tx m 0 htx0 w3 hq (by have := al_len tx v; omega) (by simp))
      have hok2 := (ask_ok hok (fun x hx => by cases hx) tx m 0).1
      clear hq hi2
      by_cases g1 : m < 1 ∨ 6 < m
      · rw [alone_no tx m v g1] at HA hok2
        have HOK := Lib.hid hok2
        have HV := Lib.hid (And.intro hv0 hv6)
        have HBB := Lib.hid HB
        clear hok hok2 hv0 hv6 HB hl
        rcases g1 with g1 | g1
        · go_wp2_with (go_at_call 8; refine HA.out.mono ?_; rintro e w4 ⟨rfl, hq4, hk4⟩; clear d0)
          go_roundw
          case rel => exact ⟨k + 1, v, by omega, by go_num, rfl, HV.out.1, HV.out.2, hq4, HOK.out, bl_keep HBB.out hk4 (fun i hi => by rw [hi]; exact HQL.out)⟩
          case measure => simp [intOf]; omega
        · have g2 : ¬ m < 1 := by omega
          go_wp2_with (go_at_call 8; refine HA.out.mono ?_; rintro e w4 ⟨rfl, hq4, hk4⟩; clear d0)
          go_roundw
          case rel => exact ⟨k + 1, v, by omega, by go_num, rfl, HV.out.1, HV.out.2, hq4, HOK.out, bl_keep HBB.out hk4 (fun i hi => by rw [hi]; exact HQL.out)⟩
          case measure => simp [intOf]; omega
      · have g2 : ¬ m < 1 := by omega
        have g3 : ¬ 6 < m := by omega
        rw [alone_yes tx m v htx1 ⟨hv0, hv6⟩ (by omega)] at HA hok2
        have hs := sup_pos v m (by omega)
        have HS := Lib.hid (fun W1 => rsup_any v m W1)
        generalize supT v m = v2 at HA hok2 hs HS
        have HM := Lib.hid (fun W1 (hq : QA W1 q (alT tx v2) []) => qmode_any q (alT tx v2) [] tx W1 hq (by have := al_len tx v2; omega))
        rw [al_of] at HM
        have HOK := Lib.hid hok2
        have HV := Lib.hid hs
        have HBB := Lib.hid HB
        clear hok hok2 hv0 hv6 HB hl g1 hs
        go_wp2_with (first
          | (go_at_call 8; refine HA.out.mono ?_; rintro e w4 ⟨rfl, hq4, hk4⟩; clear d0)
          | (go_at_call 12; refine (HS.out _).mono ?_; rintro e w5 ⟨rfl, hb5⟩)
          | (go_at_call 13; refine (HM.out _ (hq4.below hb5)).mono ?_; rintro e w6 ⟨rfl, hb6⟩))
        go_roundw
        case rel => exact ⟨k + 1, v2, by omega, by go_num, rfl, by have := HV.out; omega, by have := HV.out; omega, (hq4.below hb5).below hb6, HOK.out, bl_then (bl_then (bl_keep HBB.out hk4 (fun i hi => by rw [hi]; exact HQL.out)) (Nat.le_refl _) hb5) (Nat.le_refl _) hb6⟩
        case measure => simp [intOf]; omega
    · obtain rfl : k = len2 := by omega
      generalize wr = w3 at hq HB ⊢
      have hkn : Known (fun u => u = tx ∨ u ∈ L.map Qd.tx) (alT tx v) [] := by
        refine ⟨fun x hx => .inl ?_, by simp⟩
        unfold alT at hx
        split at hx
        · cases hx
        · rw [List.mem_singleton.1 hx]
      have HN1 := al_len tx v
      have HKN := Lib.hid hkn
      generalize alT tx v = H0 at hq hok HN1 HKN
      clear hkn hi2
      go_wp2
      go_loopw [73] (fun c wr => ∃ (k : Nat) (H : List Hd) (W : List Wt), k ≤ len ∧ c = .int .i64 k ∧ QA wr q H W ∧ QOk H W ∧ Stuck H W ∧ Known (fun u => u = tx ∨ u ∈ L.map Qd.tx) H W ∧ H.length + W.length ≤ k + 1 ∧ Below w.heap.size w wr) (fun c _ => len - (intOf c).toNat)
      case atStart => exact ⟨0, H0, [], by omega, rfl, hq, hok, (by intro x h; cases h), HKN.out, by simpa using HN1, HB⟩
      case round =>
        clear hq hok HB HN1 HKN
        obtain ⟨k, H, W, hk, rfl, hq, hok, hst, hkn, hn, HB⟩ := hrel
        by_cases hlt : k < len
        · obtain ⟨b, off, x, rfl, _, hx, hokx, d0, d1, d2, d3⟩ := Qd_at (hl.below HB) hlt
          have al := (Below.refl wr.heap.size wr).alloc (Nat.le_refl _) (.cells #[.int .i64 x.kind, .int .i64 x.tx, .int .i64 x.mode, .int .i64 x.fl] 31)
          have hbx := Bk.new wr 31 #[.int .i64 x.kind, .int .i64 x.tx, .int .i64 x.mode, .int .i64 x.fl]
          have q1 := hbx.cell 1
          have q2 := hbx.cell 2
          have q3 := hbx.cell 3
          have HQA := Lib.hid (hq.below al)
          have HBX := Lib.hid (bl_then HB (Nat.le_refl _) al)
          have htx2 := hokx.2.1
          have hn4 : (askT H W x.tx x.mode x.fl).H.length + (askT H W x.tx x.mode x.fl).W.length ≤ k + 2 := by have := ask_len H W x.tx x.mode x.fl; omega
          obtain ⟨ok4, st4⟩ := ask_ok hok hst x.tx x.mode x.fl
          have kn4 := ask_known hkn x.tx x.mode x.fl (.inr (List.mem_map.2 ⟨x, List.mem_of_getElem? hx, rfl⟩))
          clear hbx al hx hq HB hokx hok hst hkn
          go_wp2_with fail
          refine (qask_any q H W x.tx x.mode x.fl htx2 _ HQA.out (by omega) (by omega)).mono ?_
          rintro e w4 ⟨rfl, hq4, hk4⟩
          have HB4 := bl_keep HBX.out hk4 (fun i hi => by rw [hi]; exact HQL.out)
          generalize (askT H W x.tx x.mode x.fl).H = H4 at *
          generalize (askT H W x.tx x.mode x.fl).W = W4 at *
          have HKN4 := Lib.hid kn4
          have HOK4 := Lib.hid ok4
          have HST4 := Lib.hid st4
          clear HBX HQA q1 q2 q3 hk4 d0 d1 d2 d3 kn4 ok4 st4
          go_wp2
          go_roundw
          case rel => exact ⟨k + 1, H4, W4, by omega, by go_num, hq4, HOK4.out, HST4.out, HKN4.out, hn4, HB4⟩
          case measure => simp [intOf]; omega
        · obtain rfl : k = len := by omega
          generalize wr = w5 at hq HB ⊢
          have HKN := Lib.hid (hkn.mono (U := gonT tx (L.map Qd.tx) 0) (fun u hu => ⟨hu, by simp⟩))
          have HLL := Lib.hid (show (L.map Qd.tx).length = k by rw [List.length_map]; exact hl.len)
          clear hkn
          go_wp2
          go_loopw [88] (fun c wr => ∃ (i : Nat) (H : List Hd) (W : List Wt), i ≤ k ∧ c = .int .i64 i ∧ QA wr q H W ∧ QOk H W ∧ Stuck H W ∧ Known (gonT tx (L.map Qd.tx) i) H W ∧ H.length + W.length ≤ 41 ∧ Below w.heap.size w wr) (fun c _ => k - (intOf c).toNat)
          case atStart => exact ⟨0, H, W, by omega, rfl, hq, hok, hst, HKN.out, by omega, HB⟩
          case round =>
            clear hq hok hst HB HKN hn
            obtain ⟨i, H, W, hi, rfl, hq, hok, hst, hkn, hn, HB⟩ := hrel
            by_cases hlt : i < k
            · obtain ⟨b, off, x, rfl, _, hx, hokx, d0, d1, d2, d3⟩ := Qd_at (hl.below HB) hlt
              have al := (Below.refl wr.heap.size wr).alloc (Nat.le_refl _) (.cells #[.int .i64 x.kind, .int .i64 x.tx, .int .i64 x.mode, .int .i64 x.fl] 31)
              have hbx := Bk.new wr 31 #[.int .i64 x.kind, .int .i64 x.tx, .int .i64 x.mode, .int .i64 x.fl]
              have q1 := hbx.cell 1
              have HQA := Lib.hid (hq.below al)
              have HBX := Lib.hid (bl_then HB (Nat.le_refl _) al)
              have hn4 : (releaseT H W x.tx).H.length + (releaseT H W x.tx).W.length ≤ 41 := by have := release_len H W x.tx; omega
              obtain ⟨ok4, st4⟩ := release_ok hok hst x.tx
              have kn4 := (release_known hok hkn x.tx).mono (U := gonT tx (L.map Qd.tx) (i + 1)) (fun u hu => gon_step (by rw [List.getElem?_map, hx]; rfl) hu)
              clear hbx al hx hq HB hokx hok hst hkn
              go_wp2_with fail
              refine (qrelease_any q H W x.tx _ HQA.out (by omega)).mono ?_
              rintro e w4 ⟨v4, rfl, _, hq4, hk4⟩
              have HB4 := bl_keep HBX.out hk4 (fun i hi => by rw [hi]; exact HQL.out)
              generalize (releaseT H W x.tx).H = H4 at *
              generalize (releaseT H W x.tx).W = W4 at *
              have HKN4 := Lib.hid kn4
              have HOK4 := Lib.hid ok4
              have HST4 := Lib.hid st4
              clear HBX HQA q1 hk4 d0 d1 d2 d3 kn4 ok4 st4
              go_wp2
              go_roundw
              case rel => exact ⟨i + 1, H4, W4, by omega, by go_num, hq4, HOK4.out, HST4.out, HKN4.out, hn4, HB4⟩
              case measure => simp [intOf]; omega
            · obtain rfl : i = k := by omega
              rw [← HLL.out] at hkn
              obtain ⟨e1, e2⟩ := ((release_known hok hkn tx).none gon_end)
              have HR := Lib.hid (qrelease_any q H W tx wr hq (by omega))
              have HBB := Lib.hid HB
              generalize releaseT H W tx = R at HR e1 e2
              obtain ⟨Ro, Re, RH, RW⟩ := R
              obtain rfl : RH = [] := e1
              obtain rfl : RW = [] := e2
              clear hq hok hst hkn HB hl HLL
              go_wp2_with (first
                | (go_at_call 11; refine HR.out.mono ?_; rintro e w7 ⟨v7, rfl, _, hq7, hk7⟩; have HQ7 : Hid (QA w7 q [] []) := Lib.hid hq7; clear hq7)
                | (go_at_call 14; refine (qsize_any q [] [] _ HQ7.out (by simp)).mono ?_; rintro e w8 ⟨rfl, hb8⟩))
              go_ret
              exact ⟨rfl, bl_then (bl_keep HBB.out hk7 (fun i hi => by rw [hi]; exact HQL.out)) (Nat.le_refl _) hb8⟩
end Go.Proofs.Ytdkbfmffnamdbaa
