/- Edges in order, each once: the reference's Sort. No condition. -/
import Derived.Test.YtjenchijenkndaaNums
import Derived.Test.YtjenchijenkndaaGph
import Derived.Test.YtjenchijenkndaaSamEg
import Derived.Test.YtjenchijenkndaaMapE
import Derived.Deep.Cut
import Derived.Deep.CutBlock
set_option linter.unusedVariables false
set_option linter.unusedSimpArgs false
namespace Go.Proofs.Ytjenchijenkndaa
open Go.RowKit (wrap32 wrap64)
open Go.RowKit Go.Shelf Go.Sort
theorem insEg_G (O : List Eg) (x : Eg) : insEg O x = insG ltEg O x := by
  induction O with
  | nil => rfl
  | cons y O ih => unfold insEg insG; rw [ih]
theorem sortEg_take (L : List Eg) (k : Nat) (e : Eg) (h : L[k]? = some e) : sortEg (L.take (k + 1)) = insEg (sortEg (L.take k)) e := by
  rw [take_snocG L k e h, sortEg_snoc]
theorem eg_boxN (x : Eg) (w : World) : Below w.heap.size w (w.alloc (.cells (egA x) 40)) ∧ Bk (w.alloc (.cells (egA x) 40)) w.heap.size 40 (egA x) := ⟨(Below.refl _ _).alloc (Nat.le_refl _) _, Bk.new w _ _⟩
set_option maxRecDepth 100000 in
set_option maxHeartbeats 16000000 in
theorem rsort_any (a : Option Addr) (len cap : Nat) (L : List Eg) (w : World) (hl : Egs w a len L) (hn : len ≤ 1000) :
    Calls Try.prog 37 #[.slice a len cap] w (OwnRet enEg 40 2 w (sortEg L)) := by
  have hll := hl.len
  obtain ⟨i0, hi0, hz0, hz1, hz2⟩ := info_parts Try.infoEg
  have HL := Lib.hid hl
  have HLN := Lib.hid hll
  have HALL := Lib.hid hl.all
  clear hl hll
  go_enter Try.func37, Try.ntmps37
  go_wp2_with fail
  go_loopw [3, 9] (fun s3 c wr => ∃ (k : Nat) (O : List Eg) (n : Nat), k ≤ len ∧ c = .int .i64 k ∧ Hid (sortEg (L.take k) = O) ∧ Hid (O.length = n) ∧ n ≤ k ∧ wr.ownsRow w.heap.size 40 2 s3 n (flatV enEg O) ∧ Below w.heap.size w wr) (fun _ c _ => len - (intOf c).toNat)
  case atStart => exact ⟨0, [], 0, by omega, rfl, Lib.hid rfl, Lib.hid rfl, Nat.le_refl _, World.ownsRow_nil _ _ _ _, Below.refl _ _⟩
  case round =>
    obtain ⟨k, O, n, hk, rfl, HO, HON, hnk, ho, HB⟩ := hrel
    by_cases hlt : k < len
    · obtain ⟨b, off, x, rfl, hb, hx, hokx, d0, d1⟩ := Eg_at (HL.out.below HB) hlt
      have HST : Hid (sortEg (L.take (k + 1)) = insG ltEg O x) := Lib.hid (by rw [sortEg_take L k x hx, insEg_G, HO.out])
      have HIN := Lib.hid (fun i => insG_at ltEg O x i)
      have HOK : Hid (∀ y ∈ O, okEg y) := Lib.hid (fun y hy => by
        rw [← HO.out, sortEg_mem] at hy
        exact HALL.out y (List.mem_of_mem_take hy))
      obtain ⟨al, hbx⟩ := eg_boxN x wr
      have HBB := Lib.hid (bl_then HB (Nat.le_refl _) al)
      have ho1 := own_below ho al
      clear hx hokx HO HB hb al
      go_upto_block 2 with fail
      rcases ho1.2 with ⟨rfl, rfl⟩ | ⟨g, cap', cur, rfl, hbg, _⟩
      · have hO : O = [] := List.eq_nil_of_length_eq_zero HON.out
        have HN2 : Hid (insG ltEg O x = [] ++ ([x] ++ [])) := Lib.hid (by rw [hO]; rfl)
        clear ho hO ho1
        generalize wr.alloc (.cells (egA x) 40) = w5 at HBB hbx ⊢
        generalize wr.heap.size = X at hbx ⊢
        go_wp2_with fail
        go_loopw [6] (fun c wr => c = .int .i64 0 ∧ Below w5.heap.size w5 wr) (fun _ _ => 1)
        case atStart => exact ⟨rfl, Below.refl _ _⟩
        case round =>
          obtain ⟨rfl, hb6⟩ := hrel
          go_wp2_with fail
          refine wp_region_quiet_below (by kernel_rfl) (by kernel_rfl) ?_
          repeat (go_big_quiet_step (fail))
          refine wpQuiet_nil ?_
          intro _ hw'
          obtain ⟨⟨dq, osq⟩, hw''⟩ := hw'
          subst hw''
          have HB6 := Lib.hid (hb6.trans ((below_regrown wr dq osq).mono hb6.size))
          clear hb6
          generalize grow (redrawn wr dq) osq = w6 at HB6 ⊢
          go_wp2_with fail
          refine wp_region_quiet_below (by kernel_rfl) (by kernel_rfl) ?_
          repeat (go_big_quiet_step (fail))
          refine wpQuiet_nil ?_
          intro _ hw'
          obtain ⟨⟨dq, osq⟩, hw''⟩ := hw'
          subst hw''
          have HB7 := Lib.hid (HB6.out.trans ((below_regrown w6 dq osq).mono HB6.out.size))
          have hbx7 := hbx.below HB7.out
          have HB8 := Lib.hid (bl_then HBB.out (Nat.le_refl _) HB7.out)
          clear HB6
          generalize grow (redrawn w6 dq) osq = w7 at HB7 HB8 hbx7 ⊢
          have HX := Lib.hid hbx7
          clear hbx7
          have HLIT : Hid ((w7.drew.alloc (.cells (egA x) 40)).ownsRow w7.heap.size 40 2 (.slice (some ⟨w7.heap.size, 0, none⟩) 1 1) 1 (flatV enEg [x])) := Lib.hid ((RowAt.fresh (enc := enEg) (s := 2) w7.drew 40 1 [x] (by simp) (by decide) _ rfl rfl).own (enEg_len) (Nat.le_refl _))
          go_wp2_with fail
          have HD0 : Below w7.heap.size w7 w7.drew := below_drew w7
          have HD1 : Below w7.heap.size w7 (w7.drew.alloc (.cells (egA x) 40)) := HD0.alloc (Nat.le_refl _) _
          have x0 := (HX.out.below HD0).cell 0
          have x1 := (HX.out.below HD0).cell 1
          have y0 := (HX.out.below HD1).cell 0
          have y1 := (HX.out.below HD1).cell 1
          have z0 := HX.out.cell 0
          have z1 := HX.out.cell 1
          go_region_law (first
            | (refine step_append_recs (ok := okEg) enEg_len (by omega) enEg_one (by rfl) _ _ 37 (by rfl) w7.heap.size 40 i0 _ 16 Try.underlying37 hi0 hz0 hz1 hz2 rfl (.slice (some ⟨w7.heap.size, 0, none⟩) 1 1) 1 [x] (by rfl) HLIT.out none 0 0 [] (by simp [Act.eval, Act.put]) (SR.zero _) (by unfold maxLen; omega) (by omega) (by first | exact Nat.le_refl _ | simp) ?_
               intro v2 w2 hown2 hg2
               obtain ⟨g2, c2, rfl, hbg2, hlg2⟩ := hown2.form (by omega)
               have HB2 : Below w7.heap.size w7 w2 := bl_keep HD1 (grown_keep hg2 (fun i => i = w7.heap.size) (fun k hk => by injection hk with hk; exact hk.symm)) (fun i hi => by rw [hi]; exact Nat.le_refl _)
               have u0 := (HX.out.below HB2).cell 0; have u1 := (HX.out.below HB2).cell 1)
            | (go_loud (refine step_append_grows rfl _ _ 37 (by rfl) 40 i0 _ 2 16 Try.underlying37 hi0 hz0 hz1 hz2 rfl (by decide) none 0 0 [] (by simp [Act.eval, Act.put]) (by intro _; exact ⟨rfl, rfl⟩) (by rfl) (by intro b hb; cases hb) ⟨g2, 0, none⟩ (1 + 0) c2 (flatV enEg ([x] ++ [])) (by rfl) hown2.1 (hown2.cells rfl) (flatV_one enEg_one _) (by omega) (by unfold maxLen; omega) (by omega) ?_)
               intro v3 w3 hown3 hg3
               obtain ⟨g3, c3, rfl, hbg3, hlg3⟩ := hown3.form (by omega)
               have HB3 : Below w7.heap.size w7 w3 := grown_below hg3 HB2))
          all_goals
            have HL3 : Hid ((insG ltEg O x).length = 0 + (1 + 0)) := Lib.hid (by rw [HN2.out]; rfl)
            have ho3 := own_weaken hown3 (show w.heap.size ≤ _ from Nat.le_trans HB8.out.size HB2.size)
            have HR : Hid (w3.ownsRow w.heap.size 40 2 (.slice (some ⟨g3, 0, none⟩) (0 + (1 + 0)) c3) (0 + (1 + 0)) (flatV enEg (insG ltEg O x))) := Lib.hid (by rw [HN2.out]; exact ho3)
            have HB9 := Lib.hid (bl_then HB8.out (Nat.le_refl _) HB3)
            clear hown3 hown2 ho3 HB3 HB2 HD0 HD1 hg2 hg3 HX
            go_wp2_with fail
            go_roundw
            case rel => exact ⟨k + 1, insG ltEg O x, 0 + (1 + 0), by omega, by go_num, HST, HL3, by omega, HR.out, HB9.out⟩
            case measure => simp [intOf]; omega
      · have hcap := own_caps ho1
        have hcap1 : n ≤ cap' := hcap.1
        have hcapm : cap' ≤ 9223372036854775807 := by have := hcap.2.1; unfold maxLen at this; exact this
        have HO1 := Lib.hid ho1
        clear ho ho1 hcap
        generalize wr.alloc (.cells (egA x) 40) = w5 at HBB hbx HO1 ⊢
        generalize wr.heap.size = X at hbx ⊢
        go_wp2_with fail
        go_loopw [6] (fun c wr => ∃ i : Nat, i ≤ n ∧ c = .int .i64 i ∧ Hid (∀ (j : Nat) (y : Eg), j < i → O[j]? = some y → ltEg y x = true) ∧ Below w5.heap.size w5 wr) (fun c _ => n - (intOf c).toNat)
        case atStart => exact ⟨0, by omega, rfl, Lib.hid (fun j y h => by omega), Below.refl _ _⟩
        case round =>
          obtain ⟨i, hi, rfl, HLO, hb6⟩ := hrel
          have hin : i ≤ n := hi
          have HAT := Lib.hid (HIN.out i (by rw [HON.out]; exact hi) HLO.out)
          have hbx6 := hbx.below hb6
          have x0 := fun dq osq => cell_regrown (v := .int .i64 x.src) (hbx6.cell 0) dq osq
          have x1 := fun dq osq => cell_regrown (v := .int .i64 x.dst) (hbx6.cell 1) dq osq
          have xx0 := hbx6.cell 0
          have xx1 := hbx6.cell 1
          by_cases hlti : i < n
          · obtain ⟨y, hy⟩ : ∃ y, O[i]? = some y := ⟨_, List.getElem?_eq_getElem (by rw [HON.out]; exact hlti)⟩
            obtain ⟨e0, e1⟩ := Eg_row (RowAt.of (own_below HO1.out hb6) HON.out.symm).1 hy
            have e0' := fun dq osq => cell_regrown (v := .int .i64 y.src) e0 dq osq
            have e1' := fun dq osq => cell_regrown (v := .int .i64 y.dst) e1 dq osq
            have HIFF := Lib.hid (ltEg_iff y x)
            have hlti' : (i : Int) < (n : Int) := by omega
            have hi0' : (0 : Int) ≤ (i : Int) := by omega
            cases c1 : decide (y.src < x.src) with
            | true =>
              have hlv : ltEg y x = true := HIFF.out.2 (.inl (of_decide_eq_true c1))
              have HLO2 : Hid (∀ (j : Nat) (z : Eg), j < i + 1 → O[j]? = some z → ltEg z x = true) := Lib.hid (fun j z hj hz => by
                by_cases e : j = i
                · subst e; rw [hy] at hz; cases hz; exact hlv
                · exact HLO.out j z (by omega) hz)
              clear hy hlv
              go_wp2_with fail
              refine wp_region_quiet_below (by kernel_rfl) (by kernel_rfl) ?_
              repeat (go_big_quiet_step (fail))
              refine wpQuiet_nil ?_
              intro _ hw'
              obtain ⟨⟨dq, osq⟩, hw''⟩ := hw'
              subst hw''
              go_wp2_with fail
              go_roundw
              case rel => exact ⟨i + 1, by omega, by go_num, HLO2, hb6.trans ((below_regrown wr dq osq).mono hb6.size)⟩
              case measure => simp [intOf]; omega
            | false =>
              cases c2 : (y.src == x.src) with
              | true =>
                cases c3 : decide (y.dst < x.dst) with
                | true =>
                  have hlv : ltEg y x = true := HIFF.out.2 (.inr ⟨beq_iff_eq.1 c2, of_decide_eq_true c3⟩)
                  have HLO2 : Hid (∀ (j : Nat) (z : Eg), j < i + 1 → O[j]? = some z → ltEg z x = true) := Lib.hid (fun j z hj hz => by
                    by_cases e : j = i
                    · subst e; rw [hy] at hz; cases hz; exact hlv
                    · exact HLO.out j z (by omega) hz)
                  clear hy hlv
                  go_wp2_with fail
                  refine wp_region_quiet_below (by kernel_rfl) (by kernel_rfl) ?_
                  repeat (go_big_quiet_step (fail))
                  refine wpQuiet_nil ?_
                  intro _ hw'
                  obtain ⟨⟨dq, osq⟩, hw''⟩ := hw'
                  subst hw''
                  go_wp2_with fail
                  go_roundw
                  case rel => exact ⟨i + 1, by omega, by go_num, HLO2, hb6.trans ((below_regrown wr dq osq).mono hb6.size)⟩
                  case measure => simp [intOf]; omega
                | false =>
                  have hlv : ltEg y x = false := Bool.eq_false_iff.2 (fun h => by
                    have := HIFF.out.1 h; have a := of_decide_eq_false c1; have b := of_decide_eq_false c3; omega)
                  go_wp2_with fail
                  refine wp_region_quiet_below (by kernel_rfl) (by kernel_rfl) ?_
                  repeat (go_big_quiet_step (fail))
                  refine wpQuiet_nil ?_
                  intro _ hw'
                  obtain ⟨⟨dq, osq⟩, hw''⟩ := hw'
                  subst hw''
                  have HB6 := Lib.hid (hb6.trans ((below_regrown wr dq osq).mono hb6.size))
                  clear hb6 x0 x1 xx0 xx1 hbx6 e0 e1 e0' e1'
                  generalize grow (redrawn wr dq) osq = w6 at HB6 ⊢
                  have hbx6 := hbx.below HB6.out
                  have x0 := fun dq osq => cell_regrown (v := .int .i64 x.src) (hbx6.cell 0) dq osq
                  have x1 := fun dq osq => cell_regrown (v := .int .i64 x.dst) (hbx6.cell 1) dq osq
                  have xx0 := hbx6.cell 0
                  have xx1 := hbx6.cell 1
                  obtain ⟨e0, e1⟩ := Eg_row (RowAt.of (own_below HO1.out HB6.out) HON.out.symm).1 hy
                  have e0' := fun dq osq => cell_regrown (v := .int .i64 y.src) e0 dq osq
                  have e1' := fun dq osq => cell_regrown (v := .int .i64 y.dst) e1 dq osq
                  have heq := fun w => eqlEg y x w
                  have hgd := gdEg
                  by_cases hyx : y = x
                  · have HN2 : Hid (insG ltEg O x = O) := Lib.hid (HAT.out.2.1 y hy hlv hyx)
                    have HST2 : Hid (sortEg (L.take (k + 1)) = O) := Lib.hid (by rw [HST.out, HN2.out])
                    rw [decide_eq_true hyx] at heq
                    clear hy hyx hlv c1 HAT HIFF
                    go_wp2_with fail
                    refine wp_region_quiet_below (by kernel_rfl) (by kernel_rfl) ?_
                    repeat (go_big_quiet_step (fail))
                    refine wpQuiet_nil ?_
                    intro _ hw'
                    obtain ⟨⟨dq, osq⟩, hw''⟩ := hw'
                    subst hw''
                    have HB7 := Lib.hid (HB6.out.trans ((below_regrown w6 dq osq).mono HB6.out.size))
                    have HB8 := Lib.hid (bl_then HBB.out (Nat.le_refl _) HB7.out)
                    go_wp2_with fail
                    go_roundw
                    case rel => exact ⟨k + 1, O, n, by omega, by go_num, HST2, HON, by omega, own_below HO1.out HB7.out, HB8.out⟩
                    case measure => simp [intOf]; omega
                  · have HN2 : Hid (insG ltEg O x = O.take i ++ ([x] ++ O.drop i)) := Lib.hid (HAT.out.2.2 y hy hlv hyx)
                    rw [decide_eq_false hyx] at heq
                    clear hy hyx hlv c1 HAT HIFF
                    go_wp2_with fail
                    refine wp_region_quiet_below (by kernel_rfl) (by kernel_rfl) ?_
                    repeat (go_big_quiet_step (fail))
                    refine wpQuiet_nil ?_
                    intro _ hw'
                    obtain ⟨⟨dq, osq⟩, hw''⟩ := hw'
                    subst hw''
                    have HB7 := Lib.hid (HB6.out.trans ((below_regrown w6 dq osq).mono HB6.out.size))
                    have HX := Lib.hid (hbx.below HB7.out)
                    have HB8 := Lib.hid (bl_then HBB.out (Nat.le_refl _) HB7.out)
                    have HO7 := Lib.hid (own_below HO1.out HB7.out)
                    clear HB6 x0 x1 xx0 xx1 hbx6 e0 e1 e0' e1' heq hgd
                    generalize grow (redrawn w6 dq) osq = w7 at HB7 HB8 HX HO7 ⊢
                    have HLIT : Hid ((w7.drew.alloc (.cells (egA x) 40)).ownsRow w7.heap.size 40 2 (.slice (some ⟨w7.heap.size, 0, none⟩) 1 1) 1 (flatV enEg [x])) := Lib.hid ((RowAt.fresh (enc := enEg) (s := 2) w7.drew 40 1 [x] (by simp) (by decide) _ rfl rfl).own (enEg_len) (Nat.le_refl _))
                    obtain ⟨XR, hXR⟩ : ∃ XR : Option Addr, (if cap' = i then (some ⟨g, 0, none⟩ : Option Addr) else some ⟨g, i * 2, none⟩) = XR := ⟨_, rfl⟩
                    have HDR : Hid (∀ W1, Below w7.heap.size w7 W1 → SR enEg okEg 2 W1 XR (n - i) (O.drop i)) := Lib.hid (fun W1 hb => by
                      rw [← hXR]
                      split
                      · rename_i hc
                        have hlp : n - i = 0 := by omega
                        rw [hlp, List.drop_of_length_le (by have := HON.out; omega)]
                        exact SR.zero _
                      · obtain ⟨A', c', e', hs', _, _⟩ := SR.own (ok := okEg) enEg_len (by omega) (own_below HO7.out hb) HOK.out
                        injection e' with e1 _ _
                        subst e1
                        have := hs'.drop enEg_len hin
                        rw [Nat.zero_add] at this
                        exact this)
                    have HTL : Hid ((flatV enEg (O.take i)).length = i * 2) := Lib.hid (by rw [flatV_len enEg_len, List.length_take, Nat.min_eq_left (by have := HON.out; omega)])
                    have HTC : Hid (∀ W1, Below w7.heap.size w7 W1 → ∀ b, (some ⟨g, 0, none⟩ : Option Addr) = some b → ∀ j u, (flatV enEg (O.take i))[j]? = some u → W1.cell? (b.add j) = some u) := Lib.hid (fun W1 hb b e j u hu => by
                      injection e with e
                      subst e
                      exact ((own_below HO7.out hb).cells rfl) j u (flatV_preG enEg_len _ i j u hu))
                    have q1 : i ≤ cap' := by omega
                    have q2 : (i : Int) ≤ (cap' : Int) := by omega
                    have q3 : (i : Int) ≤ (n : Int) := by omega
                    go_wp2_with fail
                    have HD0 : Below w7.heap.size w7 w7.drew := below_drew w7
                    have HD1 : Below w7.heap.size w7 (w7.drew.alloc (.cells (egA x) 40)) := HD0.alloc (Nat.le_refl _) _
                    have x0 := (HX.out.below HD0).cell 0
                    have x1 := (HX.out.below HD0).cell 1
                    have y0 := (HX.out.below HD1).cell 0
                    have y1 := (HX.out.below HD1).cell 1
                    have z0 := HX.out.cell 0
                    have z1 := HX.out.cell 1
                    go_region_law (first
                      | (refine step_append_recs (ok := okEg) enEg_len (by omega) enEg_one (by rfl) _ _ 37 (by rfl) w7.heap.size 40 i0 _ 16 Try.underlying37 hi0 hz0 hz1 hz2 rfl (.slice (some ⟨w7.heap.size, 0, none⟩) 1 1) 1 [x] (by rfl) HLIT.out XR (n - i) (cap' - i) (O.drop i) (by simp [Act.eval, Act.put]) (HDR.out _ HD1) (by unfold maxLen; omega) (by omega) (by first | exact Nat.le_refl _ | simp) ?_
                         intro v2 w2 hown2 hg2
                         obtain ⟨g2, c2, rfl, hbg2, hlg2⟩ := hown2.form (by omega)
                         have HB2 : Below w7.heap.size w7 w2 := bl_keep HD1 (grown_keep hg2 (fun i => i = w7.heap.size) (fun k hk => by injection hk with hk; exact hk.symm)) (fun i hi => by rw [hi]; exact Nat.le_refl _)
                         have u0 := (HX.out.below HB2).cell 0; have u1 := (HX.out.below HB2).cell 1)
                      | (go_loud (refine step_append_grows rfl _ _ 37 (by rfl) 40 i0 _ 2 16 Try.underlying37 hi0 hz0 hz1 hz2 rfl (by decide) (some ⟨g, 0, none⟩) i i (flatV enEg (O.take i)) (by simp [Act.eval, Act.put]) (by intro e; cases e) HTL.out (HTC.out _ HB2) ⟨g2, 0, none⟩ (1 + (n - i)) c2 (flatV enEg ([x] ++ O.drop i)) (by rfl) hown2.1 (hown2.cells rfl) (flatV_one enEg_one _) (by omega) (by unfold maxLen; omega) (by omega) ?_)
                         intro v3 w3 hown3 hg3
                         obtain ⟨g3, c3, rfl, hbg3, hlg3⟩ := hown3.form (by omega)
                         have HB3 : Below w7.heap.size w7 w3 := grown_below hg3 HB2))
                    all_goals
                      have HL3 : Hid ((insG ltEg O x).length = i + (1 + (n - i))) := Lib.hid (insG_new_len HN2.out HON.out hin (by omega))
                      have ho3 := own_weaken hown3 (show w.heap.size ≤ _ from Nat.le_trans HB8.out.size HB2.size)
                      have HR : Hid (w3.ownsRow w.heap.size 40 2 (.slice (some ⟨g3, 0, none⟩) (i + (1 + (n - i))) c3) (i + (1 + (n - i))) (flatV enEg (insG ltEg O x))) := Lib.hid (by rw [HN2.out, flatV_append]; exact ho3)
                      have HB9 := Lib.hid (bl_then HB8.out (Nat.le_refl _) HB3)
                      clear hown3 hown2 ho3 HB3 HB2 HD0 HD1 hg2 hg3 HX
                      go_wp2_with fail
                      go_roundw
                      case rel => exact ⟨k + 1, insG ltEg O x, i + (1 + (n - i)), by omega, by go_num, HST, HL3, by omega, HR.out, HB9.out⟩
                      case measure => simp [intOf]; omega
              | false =>
                have hlv : ltEg y x = false := Bool.eq_false_iff.2 (fun h => by
                  have := HIFF.out.1 h; have a := of_decide_eq_false c1; have b := beq_eq_false_iff_ne.1 c2; omega)
                go_wp2_with fail
                refine wp_region_quiet_below (by kernel_rfl) (by kernel_rfl) ?_
                repeat (go_big_quiet_step (fail))
                refine wpQuiet_nil ?_
                intro _ hw'
                obtain ⟨⟨dq, osq⟩, hw''⟩ := hw'
                subst hw''
                have HB6 := Lib.hid (hb6.trans ((below_regrown wr dq osq).mono hb6.size))
                clear hb6 x0 x1 xx0 xx1 hbx6 e0 e1 e0' e1'
                generalize grow (redrawn wr dq) osq = w6 at HB6 ⊢
                have hbx6 := hbx.below HB6.out
                have x0 := fun dq osq => cell_regrown (v := .int .i64 x.src) (hbx6.cell 0) dq osq
                have x1 := fun dq osq => cell_regrown (v := .int .i64 x.dst) (hbx6.cell 1) dq osq
                have xx0 := hbx6.cell 0
                have xx1 := hbx6.cell 1
                obtain ⟨e0, e1⟩ := Eg_row (RowAt.of (own_below HO1.out HB6.out) HON.out.symm).1 hy
                have e0' := fun dq osq => cell_regrown (v := .int .i64 y.src) e0 dq osq
                have e1' := fun dq osq => cell_regrown (v := .int .i64 y.dst) e1 dq osq
                have heq := fun w => eqlEg y x w
                have hgd := gdEg
                by_cases hyx : y = x
                · have HN2 : Hid (insG ltEg O x = O) := Lib.hid (HAT.out.2.1 y hy hlv hyx)
                  have HST2 : Hid (sortEg (L.take (k + 1)) = O) := Lib.hid (by rw [HST.out, HN2.out])
                  rw [decide_eq_true hyx] at heq
                  clear hy hyx hlv c1 HAT HIFF
                  go_wp2_with fail
                  refine wp_region_quiet_below (by kernel_rfl) (by kernel_rfl) ?_
                  repeat (go_big_quiet_step (fail))
                  refine wpQuiet_nil ?_
                  intro _ hw'
                  obtain ⟨⟨dq, osq⟩, hw''⟩ := hw'
                  subst hw''
                  have HB7 := Lib.hid (HB6.out.trans ((below_regrown w6 dq osq).mono HB6.out.size))
                  have HB8 := Lib.hid (bl_then HBB.out (Nat.le_refl _) HB7.out)
                  go_wp2_with fail
                  go_roundw
                  case rel => exact ⟨k + 1, O, n, by omega, by go_num, HST2, HON, by omega, own_below HO1.out HB7.out, HB8.out⟩
                  case measure => simp [intOf]; omega
                · have HN2 : Hid (insG ltEg O x = O.take i ++ ([x] ++ O.drop i)) := Lib.hid (HAT.out.2.2 y hy hlv hyx)
                  rw [decide_eq_false hyx] at heq
                  clear hy hyx hlv c1 HAT HIFF
                  go_wp2_with fail
                  refine wp_region_quiet_below (by kernel_rfl) (by kernel_rfl) ?_
                  repeat (go_big_quiet_step (fail))
                  refine wpQuiet_nil ?_
                  intro _ hw'
                  obtain ⟨⟨dq, osq⟩, hw''⟩ := hw'
                  subst hw''
                  have HB7 := Lib.hid (HB6.out.trans ((below_regrown w6 dq osq).mono HB6.out.size))
                  have HX := Lib.hid (hbx.below HB7.out)
                  have HB8 := Lib.hid (bl_then HBB.out (Nat.le_refl _) HB7.out)
                  have HO7 := Lib.hid (own_below HO1.out HB7.out)
                  clear HB6 x0 x1 xx0 xx1 hbx6 e0 e1 e0' e1' heq hgd
                  generalize grow (redrawn w6 dq) osq = w7 at HB7 HB8 HX HO7 ⊢
                  have HLIT : Hid ((w7.drew.alloc (.cells (egA x) 40)).ownsRow w7.heap.size 40 2 (.slice (some ⟨w7.heap.size, 0, none⟩) 1 1) 1 (flatV enEg [x])) := Lib.hid ((RowAt.fresh (enc := enEg) (s := 2) w7.drew 40 1 [x] (by simp) (by decide) _ rfl rfl).own (enEg_len) (Nat.le_refl _))
                  obtain ⟨XR, hXR⟩ : ∃ XR : Option Addr, (if cap' = i then (some ⟨g, 0, none⟩ : Option Addr) else some ⟨g, i * 2, none⟩) = XR := ⟨_, rfl⟩
                  have HDR : Hid (∀ W1, Below w7.heap.size w7 W1 → SR enEg okEg 2 W1 XR (n - i) (O.drop i)) := Lib.hid (fun W1 hb => by
                    rw [← hXR]
                    split
                    · rename_i hc
                      have hlp : n - i = 0 := by omega
                      rw [hlp, List.drop_of_length_le (by have := HON.out; omega)]
                      exact SR.zero _
                    · obtain ⟨A', c', e', hs', _, _⟩ := SR.own (ok := okEg) enEg_len (by omega) (own_below HO7.out hb) HOK.out
                      injection e' with e1 _ _
                      subst e1
                      have := hs'.drop enEg_len hin
                      rw [Nat.zero_add] at this
                      exact this)
                  have HTL : Hid ((flatV enEg (O.take i)).length = i * 2) := Lib.hid (by rw [flatV_len enEg_len, List.length_take, Nat.min_eq_left (by have := HON.out; omega)])
                  have HTC : Hid (∀ W1, Below w7.heap.size w7 W1 → ∀ b, (some ⟨g, 0, none⟩ : Option Addr) = some b → ∀ j u, (flatV enEg (O.take i))[j]? = some u → W1.cell? (b.add j) = some u) := Lib.hid (fun W1 hb b e j u hu => by
                    injection e with e
                    subst e
                    exact ((own_below HO7.out hb).cells rfl) j u (flatV_preG enEg_len _ i j u hu))
                  have q1 : i ≤ cap' := by omega
                  have q2 : (i : Int) ≤ (cap' : Int) := by omega
                  have q3 : (i : Int) ≤ (n : Int) := by omega
                  go_wp2_with fail
                  have HD0 : Below w7.heap.size w7 w7.drew := below_drew w7
                  have HD1 : Below w7.heap.size w7 (w7.drew.alloc (.cells (egA x) 40)) := HD0.alloc (Nat.le_refl _) _
                  have x0 := (HX.out.below HD0).cell 0
                  have x1 := (HX.out.below HD0).cell 1
                  have y0 := (HX.out.below HD1).cell 0
                  have y1 := (HX.out.below HD1).cell 1
                  have z0 := HX.out.cell 0
                  have z1 := HX.out.cell 1
                  go_region_law (first
                    | (refine step_append_recs (ok := okEg) enEg_len (by omega) enEg_one (by rfl) _ _ 37 (by rfl) w7.heap.size 40 i0 _ 16 Try.underlying37 hi0 hz0 hz1 hz2 rfl (.slice (some ⟨w7.heap.size, 0, none⟩) 1 1) 1 [x] (by rfl) HLIT.out XR (n - i) (cap' - i) (O.drop i) (by simp [Act.eval, Act.put]) (HDR.out _ HD1) (by unfold maxLen; omega) (by omega) (by first | exact Nat.le_refl _ | simp) ?_
                       intro v2 w2 hown2 hg2
                       obtain ⟨g2, c2, rfl, hbg2, hlg2⟩ := hown2.form (by omega)
                       have HB2 : Below w7.heap.size w7 w2 := bl_keep HD1 (grown_keep hg2 (fun i => i = w7.heap.size) (fun k hk => by injection hk with hk; exact hk.symm)) (fun i hi => by rw [hi]; exact Nat.le_refl _)
                       have u0 := (HX.out.below HB2).cell 0; have u1 := (HX.out.below HB2).cell 1)
                    | (go_loud (refine step_append_grows rfl _ _ 37 (by rfl) 40 i0 _ 2 16 Try.underlying37 hi0 hz0 hz1 hz2 rfl (by decide) (some ⟨g, 0, none⟩) i i (flatV enEg (O.take i)) (by simp [Act.eval, Act.put]) (by intro e; cases e) HTL.out (HTC.out _ HB2) ⟨g2, 0, none⟩ (1 + (n - i)) c2 (flatV enEg ([x] ++ O.drop i)) (by rfl) hown2.1 (hown2.cells rfl) (flatV_one enEg_one _) (by omega) (by unfold maxLen; omega) (by omega) ?_)
                       intro v3 w3 hown3 hg3
                       obtain ⟨g3, c3, rfl, hbg3, hlg3⟩ := hown3.form (by omega)
                       have HB3 : Below w7.heap.size w7 w3 := grown_below hg3 HB2))
                  all_goals
                    have HL3 : Hid ((insG ltEg O x).length = i + (1 + (n - i))) := Lib.hid (insG_new_len HN2.out HON.out hin (by omega))
                    have ho3 := own_weaken hown3 (show w.heap.size ≤ _ from Nat.le_trans HB8.out.size HB2.size)
                    have HR : Hid (w3.ownsRow w.heap.size 40 2 (.slice (some ⟨g3, 0, none⟩) (i + (1 + (n - i))) c3) (i + (1 + (n - i))) (flatV enEg (insG ltEg O x))) := Lib.hid (by rw [HN2.out, flatV_append]; exact ho3)
                    have HB9 := Lib.hid (bl_then HB8.out (Nat.le_refl _) HB3)
                    clear hown3 hown2 ho3 HB3 HB2 HD0 HD1 hg2 hg3 HX
                    go_wp2_with fail
                    go_roundw
                    case rel => exact ⟨k + 1, insG ltEg O x, i + (1 + (n - i)), by omega, by go_num, HST, HL3, by omega, HR.out, HB9.out⟩
                    case measure => simp [intOf]; omega
          · obtain rfl : i = n := by omega
            have HN2 : Hid (insG ltEg O x = O.take i ++ ([x] ++ O.drop i)) := Lib.hid (HAT.out.1 (by rw [HON.out]))
            clear HAT HLO
            go_wp2_with fail
            refine wp_region_quiet_below (by kernel_rfl) (by kernel_rfl) ?_
            repeat (go_big_quiet_step (fail))
            refine wpQuiet_nil ?_
            intro _ hw'
            obtain ⟨⟨dq, osq⟩, hw''⟩ := hw'
            subst hw''
            have HB6 := Lib.hid (hb6.trans ((below_regrown wr dq osq).mono hb6.size))
            clear hb6 x0 x1 xx0 xx1 hbx6 
            generalize grow (redrawn wr dq) osq = w6 at HB6 ⊢
            have hbx6 := hbx.below HB6.out
            have x0 := fun dq osq => cell_regrown (v := .int .i64 x.src) (hbx6.cell 0) dq osq
            have x1 := fun dq osq => cell_regrown (v := .int .i64 x.dst) (hbx6.cell 1) dq osq
            have xx0 := hbx6.cell 0
            have xx1 := hbx6.cell 1
            go_wp2_with fail
            refine wp_region_quiet_below (by kernel_rfl) (by kernel_rfl) ?_
            repeat (go_big_quiet_step (fail))
            refine wpQuiet_nil ?_
            intro _ hw'
            obtain ⟨⟨dq, osq⟩, hw''⟩ := hw'
            subst hw''
            have HB7 := Lib.hid (HB6.out.trans ((below_regrown w6 dq osq).mono HB6.out.size))
            have HX := Lib.hid (hbx.below HB7.out)
            have HB8 := Lib.hid (bl_then HBB.out (Nat.le_refl _) HB7.out)
            have HO7 := Lib.hid (own_below HO1.out HB7.out)
            clear HB6 x0 x1 xx0 xx1 hbx6 
            generalize grow (redrawn w6 dq) osq = w7 at HB7 HB8 HX HO7 ⊢
            have HLIT : Hid ((w7.drew.alloc (.cells (egA x) 40)).ownsRow w7.heap.size 40 2 (.slice (some ⟨w7.heap.size, 0, none⟩) 1 1) 1 (flatV enEg [x])) := Lib.hid ((RowAt.fresh (enc := enEg) (s := 2) w7.drew 40 1 [x] (by simp) (by decide) _ rfl rfl).own (enEg_len) (Nat.le_refl _))
            obtain ⟨XR, hXR⟩ : ∃ XR : Option Addr, (if cap' = i then (some ⟨g, 0, none⟩ : Option Addr) else some ⟨g, i * 2, none⟩) = XR := ⟨_, rfl⟩
            have HDR : Hid (∀ W1, Below w7.heap.size w7 W1 → SR enEg okEg 2 W1 XR 0 (O.drop i)) := Lib.hid (fun W1 hb => by
              rw [List.drop_of_length_le (by have := HON.out; omega)]
              exact SR.zero _)
            have HTL : Hid ((flatV enEg (O.take i)).length = i * 2) := Lib.hid (by rw [flatV_len enEg_len, List.length_take, Nat.min_eq_left (by have := HON.out; omega)])
            have HTC : Hid (∀ W1, Below w7.heap.size w7 W1 → ∀ b, (some ⟨g, 0, none⟩ : Option Addr) = some b → ∀ j u, (flatV enEg (O.take i))[j]? = some u → W1.cell? (b.add j) = some u) := Lib.hid (fun W1 hb b e j u hu => by
              injection e with e
              subst e
              exact ((own_below HO7.out hb).cells rfl) j u (flatV_preG enEg_len _ i j u hu))
            have q1 : i ≤ cap' := by omega
            have q2 : (i : Int) ≤ (cap' : Int) := by omega
            go_wp2_with fail
            have HD0 : Below w7.heap.size w7 w7.drew := below_drew w7
            have HD1 : Below w7.heap.size w7 (w7.drew.alloc (.cells (egA x) 40)) := HD0.alloc (Nat.le_refl _) _
            have x0 := (HX.out.below HD0).cell 0
            have x1 := (HX.out.below HD0).cell 1
            have y0 := (HX.out.below HD1).cell 0
            have y1 := (HX.out.below HD1).cell 1
            have z0 := HX.out.cell 0
            have z1 := HX.out.cell 1
            go_region_law (first
              | (refine step_append_recs (ok := okEg) enEg_len (by omega) enEg_one (by rfl) _ _ 37 (by rfl) w7.heap.size 40 i0 _ 16 Try.underlying37 hi0 hz0 hz1 hz2 rfl (.slice (some ⟨w7.heap.size, 0, none⟩) 1 1) 1 [x] (by rfl) HLIT.out XR 0 (cap' - i) (O.drop i) (by simp [Act.eval, Act.put]) (HDR.out _ HD1) (by unfold maxLen; omega) (by omega) (by first | exact Nat.le_refl _ | simp) ?_
                 intro v2 w2 hown2 hg2
                 obtain ⟨g2, c2, rfl, hbg2, hlg2⟩ := hown2.form (by omega)
                 have HB2 : Below w7.heap.size w7 w2 := bl_keep HD1 (grown_keep hg2 (fun i => i = w7.heap.size) (fun k hk => by injection hk with hk; exact hk.symm)) (fun i hi => by rw [hi]; exact Nat.le_refl _)
                 have u0 := (HX.out.below HB2).cell 0; have u1 := (HX.out.below HB2).cell 1)
              | (go_loud (refine step_append_grows rfl _ _ 37 (by rfl) 40 i0 _ 2 16 Try.underlying37 hi0 hz0 hz1 hz2 rfl (by decide) (some ⟨g, 0, none⟩) i i (flatV enEg (O.take i)) (by simp [Act.eval, Act.put]) (by intro e; cases e) HTL.out (HTC.out _ HB2) ⟨g2, 0, none⟩ (1 + 0) c2 (flatV enEg ([x] ++ O.drop i)) (by rfl) hown2.1 (hown2.cells rfl) (flatV_one enEg_one _) (by omega) (by unfold maxLen; omega) (by omega) ?_)
                 intro v3 w3 hown3 hg3
                 obtain ⟨g3, c3, rfl, hbg3, hlg3⟩ := hown3.form (by omega)
                 have HB3 : Below w7.heap.size w7 w3 := grown_below hg3 HB2))
            all_goals
              have HL3 : Hid ((insG ltEg O x).length = i + (1 + 0)) := Lib.hid (insG_new_len HN2.out HON.out hin (by omega))
              have ho3 := own_weaken hown3 (show w.heap.size ≤ _ from Nat.le_trans HB8.out.size HB2.size)
              have HR : Hid (w3.ownsRow w.heap.size 40 2 (.slice (some ⟨g3, 0, none⟩) (i + (1 + 0)) c3) (i + (1 + 0)) (flatV enEg (insG ltEg O x))) := Lib.hid (by rw [HN2.out, flatV_append]; exact ho3)
              have HB9 := Lib.hid (bl_then HB8.out (Nat.le_refl _) HB3)
              clear hown3 hown2 ho3 HB3 HB2 HD0 HD1 hg2 hg3 HX
              go_wp2_with fail
              go_roundw
              case rel => exact ⟨k + 1, insG ltEg O x, i + (1 + 0), by omega, by go_num, HST, HL3, by omega, HR.out, HB9.out⟩
              case measure => simp [intOf]; omega
    · obtain rfl : k = len := by omega
      have HRET : Hid (∀ v, wr.ownsRow w.heap.size 40 2 v n (flatV enEg O) → OwnRet enEg 40 2 w (sortEg L) (.returned v) wr) := Lib.hid (fun v h => by
        have e : sortEg L = O := by have := HO.out; rw [List.take_of_length_le (by rw [HLN.out]; exact Nat.le_refl _)] at this; exact this
        rw [e]
        exact ⟨_, rfl, by rw [HON.out]; exact h, HB⟩)
      have HR2 := Lib.hid (HRET.out _ ho)
      clear ho
      go_wp2_with fail
      go_ret
      exact HR2.out
end Go.Proofs.Ytjenchijenkndaa
