/- Numbers in order, each once: the reference's Numbers. No condition. -/
import Derived.Test.YtjenchijenkndaaInsG
import Derived.Test.YtjenchijenkndaaAppR
import Derived.Test.YtjenchijenkndaaIns
import Derived.Test.YtjenchijenkndaaHis
import Derived.Deep.RegionWith
import Derived.Shelf.RegionOpenPlain
import Derived.Lib.QuietBelow
set_option linter.unusedVariables false
set_option linter.unusedSimpArgs false
namespace Go.Proofs.Ytjenchijenkndaa
open Go.RowKit (wrap32 wrap64)
open Go.RowKit Go.Shelf Go.Sort
theorem flatV_preG {α : Type} {enc : α → List Value} {s : Nat} (he : ∀ a, (enc a).length = s) (D : List α) (k j : Nat) (u : Value) (hu : (flatV enc (D.take k))[j]? = some u) : (flatV enc D)[j]? = some u := by
  have e : flatV enc D = flatV enc (D.take k) ++ flatV enc (D.drop k) := by rw [← flatV_append, List.take_append_drop]
  rw [e, List.getElem?_append_left (List.getElem?_eq_some_iff.1 hu).1, hu]
theorem insG_new_len {α : Type} [DecidableEq α] {lt : α → α → Bool} {O : List α} {x : α} {i n m : Nat} (h : insG lt O x = O.take i ++ ([x] ++ O.drop i)) (hn : O.length = n) (hi : i ≤ n) (hm : m = n - i) : (insG lt O x).length = i + (1 + m) := by
  rw [h]; simp; omega
abbrev okI (_ : Int) : Prop := True
set_option maxRecDepth 100000 in
set_option maxHeartbeats 8000000 in
theorem nums_any (a : Option Addr) (len cap : Nat) (L : List Int) (w : World) (hl : Ints w a len L) (hn : len ≤ 2000000) :
    Calls Try.prog 68 #[.slice a len cap] w (OwnRet enI 3 1 w (numI L)) := by
  have hll := hl.len
  obtain ⟨i0, hi0, hz0, hz1, hz2⟩ := info_parts Try.infoI
  have HL := Lib.hid hl
  have HLN := Lib.hid hll
  clear hl hll
  go_enter Try.func68, Try.ntmps68
  go_wp2_with fail
  go_loopw [3, 9] (fun s3 c wr => ∃ (k : Nat) (O : List Int) (n : Nat), k ≤ len ∧ c = .int .i64 k ∧ Hid (numI (L.take k) = O) ∧ Hid (O.length = n) ∧ n ≤ k ∧ wr.ownsRow w.heap.size 3 1 s3 n (flatV enI O) ∧ Below w.heap.size w wr) (fun _ c _ => len - (intOf c).toNat)
  case atStart => exact ⟨0, [], 0, by omega, rfl, Lib.hid rfl, Lib.hid rfl, Nat.le_refl _, World.ownsRow_nil _ _ _ _, Below.refl _ _⟩
  case round =>
    obtain ⟨k, O, n, hk, rfl, HO, HON, hnk, ho, HB⟩ := hrel
    by_cases hlt : k < len
    · obtain ⟨b, off, rfl, d0⟩ := (HL.out.below HB).get hlt
      obtain ⟨x, hx⟩ : ∃ x, L[k]? = some x := ⟨_, List.getElem?_eq_getElem (by rw [HLN.out]; exact hlt)⟩
      rw [show L.getD k 0 = x by rw [List.getD_eq_getElem?_getD, hx]; rfl] at d0
      have HST : Hid (numI (L.take (k + 1)) = insG ltI O x) := Lib.hid (by rw [← HO.out]; exact sortG_take ltI L k x hx)
      have HIN := Lib.hid (fun i => insG_at ltI O x i)
      have HOK : Hid (∀ y ∈ O, okI y) := Lib.hid (fun _ _ => trivial)
      have HBB := Lib.hid HB
      have HO1 := Lib.hid ho
      clear hx HO
      rcases ho.2 with ⟨rfl, rfl⟩ | ⟨g, cap', cur, rfl, hbg, _⟩
      · have hO : O = [] := List.eq_nil_of_length_eq_zero HON.out
        have HN2 : Hid (insG ltI O x = [] ++ ([x] ++ [])) := Lib.hid (by rw [hO]; rfl)
        clear ho HB hO
        go_wp2_with fail
        go_loopw [6] (fun c w5 => c = .int .i64 0 ∧ w5 = wr) (fun _ _ => 1)
        case atStart => exact ⟨rfl, rfl⟩
        case round =>
          obtain ⟨rfl, rfl⟩ := hrel
          have HLIT : Hid ((wr.drew.alloc (.cells #[.int .i64 x] 3)).ownsRow wr.heap.size 3 1 (.slice (some ⟨wr.heap.size, 0, none⟩) 1 1) 1 (flatV enI [x])) := Lib.hid ((RowAt.fresh (enc := enI) (s := 1) wr.drew 3 1 [x] (by simp) (by decide) _ rfl rfl).own (enI_len) (Nat.le_refl _))
          go_wp2_with fail
          have HD0 : Below wr.heap.size wr wr.drew := below_drew wr
          have HD1 : Below wr.heap.size wr (wr.drew.alloc (.cells #[.int .i64 x] 3)) := HD0.alloc (Nat.le_refl _) _
          go_region_law (first
            | (refine step_append_recs (ok := okI) enI_len (by omega) enI_one (by rfl) _ _ 35 (by rfl) wr.heap.size 3 i0 _ 8 Try.underlying35 hi0 hz0 hz1 hz2 rfl (.slice (some ⟨wr.heap.size, 0, none⟩) 1 1) 1 [x] (by rfl) HLIT.out none 0 0 [] (by simp [Act.eval, Act.put]) (SR.zero _) (by unfold maxLen; omega) (by omega) (by first | exact Nat.le_refl _ | simp) ?_
               intro v2 w2 hown2 hg2
               obtain ⟨g2, c2, rfl, hbg2, hlg2⟩ := hown2.form (by omega)
               have HB2 : Below wr.heap.size wr w2 := bl_keep HD1 (grown_keep hg2 (fun i => i = wr.heap.size) (fun k hk => by injection hk with hk; exact hk.symm)) (fun i hi => by rw [hi]; exact Nat.le_refl _)
               skip)
            | (go_loud (refine step_append_grows rfl _ _ 35 (by rfl) 3 i0 _ 1 8 Try.underlying35 hi0 hz0 hz1 hz2 rfl (by decide) none 0 0 [] (by simp [Act.eval, Act.put]) (by intro _; exact ⟨rfl, rfl⟩) (by rfl) (by intro b hb; cases hb) ⟨g2, 0, none⟩ (1 + 0) c2 (flatV enI ([x] ++ [])) (by rfl) hown2.1 (hown2.cells rfl) (flatV_one enI_one _) (by omega) (by unfold maxLen; omega) (by omega) ?_)
               intro v3 w3 hown3 hg3
               obtain ⟨g3, c3, rfl, hbg3, hlg3⟩ := hown3.form (by omega)
               have HB3 : Below wr.heap.size wr w3 := grown_below hg3 HB2))
          all_goals
            have HL3 : Hid ((insG ltI O x).length = 0 + (1 + 0)) := Lib.hid (by rw [HN2.out]; rfl)
            have ho3 := own_weaken hown3 (show w.heap.size ≤ _ from Nat.le_trans HBB.out.size HB2.size)
            have HR : Hid (w3.ownsRow w.heap.size 3 1 (.slice (some ⟨g3, 0, none⟩) (0 + (1 + 0)) c3) (0 + (1 + 0)) (flatV enI (insG ltI O x))) := Lib.hid (by rw [HN2.out]; exact ho3)
            have HB9 := Lib.hid (bl_then HBB.out (Nat.le_refl _) HB3)
            clear hown3 hown2 ho3 HB3 HB2 HD0 HD1 hg2 hg3
            go_wp2_with fail
            go_roundw
            case rel => exact ⟨k + 1, insG ltI O x, 0 + (1 + 0), by omega, by go_num, HST, HL3, by omega, HR.out, HB9.out⟩
            case measure => simp [intOf]; omega
      · have hcap := own_caps ho
        have hcap1 : n ≤ cap' := hcap.1
        have hcapm : cap' ≤ 9223372036854775807 := by have := hcap.2.1; unfold maxLen at this; exact this
        have hi4 := ints_own ho
        clear ho hcap HB
        go_wp2_with fail
        go_loopw [6] (fun c w5 => ∃ i : Nat, i ≤ n ∧ c = .int .i64 i ∧ Hid (∀ (j : Nat) (y : Int), j < i → O[j]? = some y → ltI y x = true) ∧ w5 = wr) (fun c _ => n - (intOf c).toNat)
        case atStart => exact ⟨0, by omega, rfl, Lib.hid (fun j y h => by omega), rfl⟩
        case round =>
          obtain ⟨i, hi, rfl, HLO, rfl⟩ := hrel
          have hin : i ≤ n := hi
          have HAT := Lib.hid (HIN.out i (by rw [HON.out]; exact hi) HLO.out)
          by_cases hlti : i < n
          · obtain ⟨y, hy⟩ : ∃ y, O[i]? = some y := ⟨_, List.getElem?_eq_getElem (by rw [HON.out]; exact hlti)⟩
            obtain ⟨A4, c4, e4, hi4'⟩ := hi4
            obtain ⟨b4, off4, hA4, e0⟩ := hi4'.get hlti
            rw [show O.getD i 0 = y by rw [List.getD_eq_getElem?_getD, hy]; rfl] at e0
            subst hA4
            obtain ⟨rfl, rfl⟩ : g = b4 ∧ 0 = off4 := by injection e4 with e1 _ _; injection e1 with e1; injection e1 with e1 e2 _; exact ⟨e1, e2⟩
            rw [Nat.zero_add] at e0
            clear e4 hi4'
            by_cases hly : y < x
            · have HLO2 : Hid (∀ (j : Nat) (z : Int), j < i + 1 → O[j]? = some z → ltI z x = true) := Lib.hid (fun j z hj hz => by
                by_cases e : j = i
                · subst e; rw [hy] at hz; cases hz; exact decide_eq_true hly
                · exact HLO.out j z (by omega) hz)
              clear hy
              go_wp2_with fail
              go_roundw
              case rel => exact ⟨i + 1, by omega, by go_num, HLO2, by first | trivial | rfl⟩
              case measure => simp [intOf]; omega
            · by_cases hyx : y = x
              · have HN2 : Hid (insG ltI O x = O) := Lib.hid (HAT.out.2.1 y hy (decide_eq_false hly) hyx)
                have hnb : (y != x) = false := by simp [hyx]
                have HST2 : Hid (numI (L.take (k + 1)) = O) := Lib.hid (by rw [HST.out, HN2.out])
                have hni : ¬ ((i : Int) = n) := by omega
                have hnn : (i == n) = false := beq_eq_false_iff_ne.2 (by omega)
                clear hy hyx
                go_wp2_with fail
                go_roundw
                case rel => exact ⟨k + 1, O, n, by omega, by go_num, HST2, HON, by omega, HO1.out, HBB.out⟩
                case measure => simp [intOf]; omega
              · have HN2 : Hid (insG ltI O x = O.take i ++ ([x] ++ O.drop i)) := Lib.hid (HAT.out.2.2 y hy (decide_eq_false hly) hyx)
                have hnb : (y != x) = true := by simp [hyx]
                have hnn : (i == n) = false := beq_eq_false_iff_ne.2 (by omega)
                clear hy hyx
                have HLIT : Hid ((wr.drew.alloc (.cells #[.int .i64 x] 3)).ownsRow wr.heap.size 3 1 (.slice (some ⟨wr.heap.size, 0, none⟩) 1 1) 1 (flatV enI [x])) := Lib.hid ((RowAt.fresh (enc := enI) (s := 1) wr.drew 3 1 [x] (by simp) (by decide) _ rfl rfl).own (enI_len) (Nat.le_refl _))
                obtain ⟨XR, hXR⟩ : ∃ XR : Option Addr, (if cap' = i then (some ⟨g, 0, none⟩ : Option Addr) else some ⟨g, i, none⟩) = XR := ⟨_, rfl⟩
                have HDR : Hid (∀ W1, Below wr.heap.size wr W1 → SR enI okI 1 W1 XR (n - i) (O.drop i)) := Lib.hid (fun W1 hb => by
                  rw [← hXR]
                  split
                  · rename_i hc
                    have hlp : n - i = 0 := by omega
                    rw [hlp, List.drop_of_length_le (by have := HON.out; omega)]
                    exact SR.zero _
                  · obtain ⟨A', c', e', hs', _, _⟩ := SR.own (ok := okI) enI_len (by omega) (own_below HO1.out hb) HOK.out
                    injection e' with e1 _ _
                    subst e1
                    have := hs'.drop enI_len hin
                    rw [Nat.zero_add, Nat.mul_one] at this
                    exact this)
                have HTL : Hid ((flatV enI (O.take i)).length = i * 1) := Lib.hid (by rw [flatV_len enI_len, List.length_take, Nat.min_eq_left (by have := HON.out; omega)])
                have HTC : Hid (∀ W1, Below wr.heap.size wr W1 → ∀ b, (some ⟨g, 0, none⟩ : Option Addr) = some b → ∀ j u, (flatV enI (O.take i))[j]? = some u → W1.cell? (b.add j) = some u) := Lib.hid (fun W1 hb b e j u hu => by
                  injection e with e
                  subst e
                  exact ((own_below HO1.out hb).cells rfl) j u (flatV_preG enI_len _ i j u hu))
                have q1 : i ≤ cap' := by omega
                have q2 : (i : Int) ≤ (cap' : Int) := by omega
                have q3 : (i : Int) ≤ (n : Int) := by omega
                go_wp2_with fail
                have HD0 : Below wr.heap.size wr wr.drew := below_drew wr
                have HD1 : Below wr.heap.size wr (wr.drew.alloc (.cells #[.int .i64 x] 3)) := HD0.alloc (Nat.le_refl _) _
                go_region_law (first
                  | (refine step_append_recs (ok := okI) enI_len (by omega) enI_one (by rfl) _ _ 35 (by rfl) wr.heap.size 3 i0 _ 8 Try.underlying35 hi0 hz0 hz1 hz2 rfl (.slice (some ⟨wr.heap.size, 0, none⟩) 1 1) 1 [x] (by rfl) HLIT.out XR (n - i) (cap' - i) (O.drop i) (by simp [Act.eval, Act.put]) (HDR.out _ HD1) (by unfold maxLen; omega) (by omega) (by first | exact Nat.le_refl _ | simp) ?_
                     intro v2 w2 hown2 hg2
                     obtain ⟨g2, c2, rfl, hbg2, hlg2⟩ := hown2.form (by omega)
                     have HB2 : Below wr.heap.size wr w2 := bl_keep HD1 (grown_keep hg2 (fun i => i = wr.heap.size) (fun k hk => by injection hk with hk; exact hk.symm)) (fun i hi => by rw [hi]; exact Nat.le_refl _)
                     skip)
                  | (go_loud (refine step_append_grows rfl _ _ 35 (by rfl) 3 i0 _ 1 8 Try.underlying35 hi0 hz0 hz1 hz2 rfl (by decide) (some ⟨g, 0, none⟩) i i (flatV enI (O.take i)) (by simp [Act.eval, Act.put]) (by intro e; cases e) HTL.out (HTC.out _ HB2) ⟨g2, 0, none⟩ (1 + (n - i)) c2 (flatV enI ([x] ++ O.drop i)) (by rfl) hown2.1 (hown2.cells rfl) (flatV_one enI_one _) (by omega) (by unfold maxLen; omega) (by omega) ?_)
                     intro v3 w3 hown3 hg3
                     obtain ⟨g3, c3, rfl, hbg3, hlg3⟩ := hown3.form (by omega)
                     have HB3 : Below wr.heap.size wr w3 := grown_below hg3 HB2))
                all_goals
                  have HL3 : Hid ((insG ltI O x).length = i + (1 + (n - i))) := Lib.hid (insG_new_len HN2.out HON.out hin (by omega))
                  have ho3 := own_weaken hown3 (show w.heap.size ≤ _ from Nat.le_trans HBB.out.size HB2.size)
                  have HR : Hid (w3.ownsRow w.heap.size 3 1 (.slice (some ⟨g3, 0, none⟩) (i + (1 + (n - i))) c3) (i + (1 + (n - i))) (flatV enI (insG ltI O x))) := Lib.hid (by rw [HN2.out, flatV_append]; exact ho3)
                  have HB9 := Lib.hid (bl_then HBB.out (Nat.le_refl _) HB3)
                  clear hown3 hown2 ho3 HB3 HB2 HD0 HD1 hg2 hg3
                  go_wp2_with fail
                  go_roundw
                  case rel => exact ⟨k + 1, insG ltI O x, i + (1 + (n - i)), by omega, by go_num, HST, HL3, by omega, HR.out, HB9.out⟩
                  case measure => simp [intOf]; omega
          · obtain rfl : i = n := by omega
            have HN2 : Hid (insG ltI O x = O.take i ++ ([x] ++ O.drop i)) := Lib.hid (HAT.out.1 (by rw [HON.out]))
            clear hi4
            have HLIT : Hid ((wr.drew.alloc (.cells #[.int .i64 x] 3)).ownsRow wr.heap.size 3 1 (.slice (some ⟨wr.heap.size, 0, none⟩) 1 1) 1 (flatV enI [x])) := Lib.hid ((RowAt.fresh (enc := enI) (s := 1) wr.drew 3 1 [x] (by simp) (by decide) _ rfl rfl).own (enI_len) (Nat.le_refl _))
            obtain ⟨XR, hXR⟩ : ∃ XR : Option Addr, (if cap' = i then (some ⟨g, 0, none⟩ : Option Addr) else some ⟨g, i, none⟩) = XR := ⟨_, rfl⟩
            have HDR : Hid (∀ W1, Below wr.heap.size wr W1 → SR enI okI 1 W1 XR 0 (O.drop i)) := Lib.hid (fun W1 hb => by
              rw [List.drop_of_length_le (by have := HON.out; omega)]
              exact SR.zero _)
            have HTL : Hid ((flatV enI (O.take i)).length = i * 1) := Lib.hid (by rw [flatV_len enI_len, List.length_take, Nat.min_eq_left (by have := HON.out; omega)])
            have HTC : Hid (∀ W1, Below wr.heap.size wr W1 → ∀ b, (some ⟨g, 0, none⟩ : Option Addr) = some b → ∀ j u, (flatV enI (O.take i))[j]? = some u → W1.cell? (b.add j) = some u) := Lib.hid (fun W1 hb b e j u hu => by
              injection e with e
              subst e
              exact ((own_below HO1.out hb).cells rfl) j u (flatV_preG enI_len _ i j u hu))
            have q1 : i ≤ cap' := by omega
            have q2 : (i : Int) ≤ (cap' : Int) := by omega
            go_wp2_with fail
            have HD0 : Below wr.heap.size wr wr.drew := below_drew wr
            have HD1 : Below wr.heap.size wr (wr.drew.alloc (.cells #[.int .i64 x] 3)) := HD0.alloc (Nat.le_refl _) _
            go_region_law (first
              | (refine step_append_recs (ok := okI) enI_len (by omega) enI_one (by rfl) _ _ 35 (by rfl) wr.heap.size 3 i0 _ 8 Try.underlying35 hi0 hz0 hz1 hz2 rfl (.slice (some ⟨wr.heap.size, 0, none⟩) 1 1) 1 [x] (by rfl) HLIT.out XR 0 (cap' - i) (O.drop i) (by simp [Act.eval, Act.put]) (HDR.out _ HD1) (by unfold maxLen; omega) (by omega) (by first | exact Nat.le_refl _ | simp) ?_
                 intro v2 w2 hown2 hg2
                 obtain ⟨g2, c2, rfl, hbg2, hlg2⟩ := hown2.form (by omega)
                 have HB2 : Below wr.heap.size wr w2 := bl_keep HD1 (grown_keep hg2 (fun i => i = wr.heap.size) (fun k hk => by injection hk with hk; exact hk.symm)) (fun i hi => by rw [hi]; exact Nat.le_refl _)
                 skip)
              | (go_loud (refine step_append_grows rfl _ _ 35 (by rfl) 3 i0 _ 1 8 Try.underlying35 hi0 hz0 hz1 hz2 rfl (by decide) (some ⟨g, 0, none⟩) i i (flatV enI (O.take i)) (by simp [Act.eval, Act.put]) (by intro e; cases e) HTL.out (HTC.out _ HB2) ⟨g2, 0, none⟩ (1 + 0) c2 (flatV enI ([x] ++ O.drop i)) (by rfl) hown2.1 (hown2.cells rfl) (flatV_one enI_one _) (by omega) (by unfold maxLen; omega) (by omega) ?_)
                 intro v3 w3 hown3 hg3
                 obtain ⟨g3, c3, rfl, hbg3, hlg3⟩ := hown3.form (by omega)
                 have HB3 : Below wr.heap.size wr w3 := grown_below hg3 HB2))
            all_goals
              have HL3 : Hid ((insG ltI O x).length = i + (1 + 0)) := Lib.hid (insG_new_len HN2.out HON.out hin (by omega))
              have ho3 := own_weaken hown3 (show w.heap.size ≤ _ from Nat.le_trans HBB.out.size HB2.size)
              have HR : Hid (w3.ownsRow w.heap.size 3 1 (.slice (some ⟨g3, 0, none⟩) (i + (1 + 0)) c3) (i + (1 + 0)) (flatV enI (insG ltI O x))) := Lib.hid (by rw [HN2.out, flatV_append]; exact ho3)
              have HB9 := Lib.hid (bl_then HBB.out (Nat.le_refl _) HB3)
              clear hown3 hown2 ho3 HB3 HB2 HD0 HD1 hg2 hg3
              go_wp2_with fail
              go_roundw
              case rel => exact ⟨k + 1, insG ltI O x, i + (1 + 0), by omega, by go_num, HST, HL3, by omega, HR.out, HB9.out⟩
              case measure => simp [intOf]; omega
    · obtain rfl : k = len := by omega
      have HRET : Hid (∀ v, wr.ownsRow w.heap.size 3 1 v n (flatV enI O) → OwnRet enI 3 1 w (numI L) (.returned v) wr) := Lib.hid (fun v h => by
        have e : numI L = O := by have := HO.out; rw [List.take_of_length_le (by rw [HLN.out]; exact Nat.le_refl _)] at this; exact this
        rw [e]
        exact ⟨_, rfl, by rw [HON.out]; exact h, HB⟩)
      have HR2 := Lib.hid (HRET.out _ ho)
      clear ho
      go_wp2_with fail
      go_ret
      exact HR2.out
end Go.Proofs.Ytjenchijenkndaa
