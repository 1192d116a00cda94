/- The statement QueueTurn: its walk. No condition. -/
import Derived.Test.YtdkbfmffnamdbaaQuv
import Derived.BigQuiet
set_option linter.unusedVariables false
set_option linter.unusedSimpArgs false
namespace Go.Proofs.Ytdkbfmffnamdbaa
open Go.RowKit (wrap32 wrap64)
open Go.RowKit Go.Shelf Go.Sort
def selT (W : List Wt) : List Int := (W.filter (fun x => !x.conv)).map Wt.tx
theorem selT_app (a b : List Wt) : selT (a ++ b) = selT a ++ selT b := by unfold selT; simp
theorem selT_cons (t m : Int) (i : Bool) (W : List Wt) : selT (⟨t, m, false, i⟩ :: W) = t :: selT W := by unfold selT; simp
theorem selT_conv (t m : Int) (i : Bool) (W : List Wt) : selT (⟨t, m, true, i⟩ :: W) = selT W := by unfold selT; simp
theorem release_app (H : List Hd) (W : List Wt) (tx : Int) (h : idxB (ofTx tx) W < 0) : (releaseT H W tx).o ++ (releaseT H W tx).W = W := by
  unfold releaseT
  split
  · rfl
  · rw [sweep_app, out_self tx W (find_none tx W h)]
/-- A slice of ints whose block is not q. -/
def LI (w : World) (q : Nat) (v : Value) (D : List Int) : Prop := ∃ A n c, v = .slice A n c ∧ Ints w A n D ∧ n ≤ c ∧ c ≤ maxLen ∧ ∀ x, A = some x → x.block ≠ q
theorem LI.below {w w1 : World} {q : Nat} {v : Value} {D : List Int} (h : LI w q v D) (b : Below w.heap.size w w1) : LI w1 q v D := by
  obtain ⟨A, n, c, rfl, h1, h2, h3, h4⟩ := h
  exact ⟨A, n, c, rfl, h1.below b, h2, h3, h4⟩
theorem LI.keep {w w1 : World} {q : Nat} {v : Value} {D : List Int} (h : LI w q v D) (k : Keep (fun i => i = q) w w1) : LI w1 q v D := by
  obtain ⟨A, n, c, rfl, ⟨h1, h1b, h1c⟩, h2, h3, h4⟩ := h
  refine ⟨A, n, c, rfl, ⟨h1, h1b, fun hn => ?_⟩, h2, h3, h4⟩
  obtain ⟨b, off, ha, hb, hc⟩ := h1c hn
  have hbq : b ≠ q := h4 ⟨b, off, none⟩ ha
  exact ⟨b, off, ha, Nat.lt_of_lt_of_le hb k.size, fun i hi => Keep.cellS k (hc i hi) hbq⟩
theorem LI.own {w : World} {q base n : Nat} {v : Value} {D : List Int} (h : w.ownsRow base 3 1 v n (flatV enI D)) (hq : q < base) : LI w q v D := by
  obtain ⟨A, c, rfl, hi⟩ := ints_own h
  have hc := own_caps h
  refine ⟨A, n, c, rfl, hi, hc.1, hc.2.1, fun x hx => ?_⟩
  subst hx
  have := (h.lt x.block rfl).1
  omega
theorem LI.pop {w : World} {q n c : Nat} {A : Option Addr} {x : Int} {D : List Int} (h : LI w q (.slice A n c) (x :: D)) :
    ∃ b o m, A = some ⟨b, o, none⟩ ∧ n = m + 1 ∧ w.cell? ⟨b, o, none⟩ = some (.int .i64 x) ∧ n ≤ c ∧ c ≤ 9223372036854775807 ∧ LI w q (.slice (some ⟨b, o + 1, none⟩) m (c - 1)) D ∧ (c = 1 → LI w q (.slice (some ⟨b, o, none⟩) m (c - 1)) D) := by
  obtain ⟨A', n', c', e, ⟨h1, h1b, h1c⟩, h2, h3, h4⟩ := h
  injection e with e1 e2 e3
  subst e1 e2 e3
  have hl : D.length + 1 = n := by simpa using h1
  obtain ⟨b, o, rfl, hb, hc⟩ := h1c (by omega)
  have h3' : c ≤ 9223372036854775807 := by unfold maxLen at h3; exact h3
  have hx := hc 0 (by omega)
  have hbq : b ≠ q := h4 ⟨b, o, none⟩ rfl
  refine ⟨b, o, D.length, rfl, by omega, by simpa using hx, h2, h3', ⟨_, _, _, rfl, ⟨rfl, by unfold maxLen; omega, fun hn => ⟨b, o + 1, rfl, hb, fun i hi => ?_⟩⟩, by omega, by unfold maxLen; omega, fun y hy => by cases hy; exact hbq⟩, fun hc1 => ⟨_, _, _, rfl, ⟨rfl, by unfold maxLen; omega, fun hn => ?_⟩, by omega, by unfold maxLen; omega, fun y hy => by cases hy; exact hbq⟩⟩
  · have := hc (i + 1) (by omega)
    rw [show o + 1 + i = o + (i + 1) by omega, this]
    simp
  · omega
set_option maxRecDepth 100000 in
set_option maxHeartbeats 8000000 in
theorem queueTurn_walk (a : Option Addr) (len cap : Nat) (css : List (List Value)) (a2 : Option Addr) (len2 cap2 : Nat) (zs : List Int) (w : World) (hf : FlatRow w ksQd a len cap css) (hzs : IsRow .i64 w a2 len2 cap2 zs) :
    Calls Try.prog 3 #[.slice a len cap, .slice a2 len2 cap2] w fun e w' => e = .returned (.bool true) ∧ Below w.heap.size w w' := by
  obtain ⟨L, hl, hcap, hcm, hnil⟩ := SR.flat (ks := ksQd) (enc := enQd) (ok := okQd) (s := 4) rfl (by omega) enQd_len decQd hf
  obtain ⟨hi2, _, _, _⟩ := hzs.ints
  clear hf hnil hzs
  generalize zs.take len2 = O at hi2
  by_cases hmany : (40 : Int) < len
  · clear hl hcap hcm hi2
    go_enter Try.func3, Try.ntmps3
    go_wp2_with (go_at_call 7; refine (awake12 _).mono ?_; rintro e w1 ⟨rfl, hb1⟩)
    go_ret
    exact ⟨rfl, hb1⟩
  have hfew : ¬ ((len : Int) > 40) := hmany
  have hle : len ≤ 40 := by omega
  by_cases hmany2 : (60 : Int) < len2
  · clear hl hcap hcm hi2
    go_enter Try.func3, Try.ntmps3
    go_wp2_with (go_at_call 7; refine (awake12 _).mono ?_; rintro e w1 ⟨rfl, hb1⟩)
    go_ret
    exact ⟨rfl, hb1⟩
  have hfew2 : ¬ ((len2 : Int) > 60) := hmany2
  have hle2 : len2 ≤ 60 := by omega
  have hcm' : cap ≤ 9223372036854775807 := by unfold maxLen at hcm; exact hcm
  clear hmany hcm hmany2
  go_enter Try.func3, Try.ntmps3
  go_wp2_with (go_at_call 7; refine (awake12 _).mono ?_; rintro e w1 ⟨rfl, hb1⟩)
  have hq0 := QA.new w1
  have HB1 := bl_then hb1 (Nat.le_refl _) ((Below.refl w1.heap.size w1).alloc (Nat.le_refl _) (.cells #[.slice none 0 0, .slice none 0 0] 29))
  obtain ⟨q, hqe⟩ : ∃ q, q = w1.heap.size := ⟨_, rfl⟩
  rw [← hqe] at hq0 ⊢
  generalize w1.alloc (.cells #[.slice none 0 0, .slice none 0 0] 29) = w2 at hq0 HB1 ⊢
  have HQL : Hid (w.heap.size ≤ q) := Lib.hid (by rw [hqe]; exact hb1.size)
  clear hqe hb1
  go_loopw [31] (fun c wr => ∃ (k : Nat) (H : List Hd) (W : List Wt), k ≤ len ∧ c = .int .i64 k ∧ QA wr q H W ∧ H.length + W.length ≤ k ∧ Below w.heap.size w wr) (fun c _ => len - (intOf c).toNat)
  case atStart => exact ⟨0, [], [], by omega, rfl, hq0, by simp, HB1⟩
  case round =>
    clear hq0 HB1
    obtain ⟨k, H, W, hk, rfl, hq, hn, HB⟩ := hrel
    by_cases hlt : k < len
    · obtain ⟨b, off, x, rfl, _, hx, hokx, d0, d1, d2, d3⟩ := Qd_at (hl.below HB) hlt
      have al := (Below.refl wr.heap.size wr).alloc (Nat.le_refl _) (.cells #[.int .i64 x.kind, .int .i64 x.tx, .int .i64 x.mode, .int .i64 x.fl] 31)
      have hbx := Bk.new wr 31 #[.int .i64 x.kind, .int .i64 x.tx, .int .i64 x.mode, .int .i64 x.fl]
      have q1 := hbx.cell 1
      have q2 := hbx.cell 2
      have q3 := hbx.cell 3
      have hqa := hq.below al
      have HBA := bl_then HB (Nat.le_refl _) al
      have HQA := Lib.hid hqa
      have HBX := Lib.hid HBA
      have htx := hokx.2.1
      have hn4 : (askT H W x.tx x.mode x.fl).H.length + (askT H W x.tx x.mode x.fl).W.length ≤ k + 1 := by have := ask_len H W x.tx x.mode x.fl; omega
      clear hbx hqa HBA al hx hq HB hokx
      go_wp2_with fail
      refine (qask_any q H W x.tx x.mode x.fl htx _ HQA.out (by omega) (by omega)).mono ?_
      rintro e w4 ⟨rfl, hq4, hk4⟩
      have HB4 := bl_keep HBX.out hk4 (fun i hi => by rw [hi]; exact HQL.out)
      generalize (askT H W x.tx x.mode x.fl).H = H4 at *
      generalize (askT H W x.tx x.mode x.fl).W = W4 at *
      clear HBX HQA q1 q2 q3 hk4 d0 d1 d2 d3
      go_wp2
      go_roundw
      case rel => exact ⟨k + 1, H4, W4, by omega, by go_num, hq4, hn4, HB4⟩
      case measure => simp [intOf]; omega
    · obtain rfl : k = len := by omega
      generalize wr = w3 at hq HB ⊢
      have hok := hq.okW
      have HOKW := Lib.hid hok
      have HWA := Lib.hid (qwaits_any q H W w3 hq (by omega))
      have HQ3 := Lib.hid hq
      have HB3 := Lib.hid HB
      have hql := hq.lt
      clear hl hok hq HB
      go_wp2_with (go_at_call 9; refine HWA.out.mono ?_; rintro e w6 ⟨v, rfl, hown6, hb6⟩; obtain ⟨A2, c2, rfl, hs2, _, _⟩ := SR.own (ok := okWt) enWt_len (by omega) hown6 HOKW.out; clear hown6)
      have HB6 := Lib.hid (bl_then HB3.out (Nat.le_refl _) hb6)
      have HQ6 := Lib.hid (HQ3.out.below hb6)
      have hql6 : q < w6.heap.size := by have := hb6.size; omega
      have hn2 : W.length ≤ 40 := by omega
      obtain ⟨m, hme⟩ : ∃ m, m = W.length := ⟨_, rfl⟩
      rw [← hme] at hs2 hn2 ⊢
      have HME := Lib.hid hme
      obtain ⟨B, hBe⟩ : ∃ B, B = w6.heap.size := ⟨_, rfl⟩
      have HBE := Lib.hid hBe
      rw [← hBe] at hql6
      obtain ⟨i0, hi, hz0, hz1, hz2⟩ := info_parts Try.infoI
      clear hme hb6 HWA HB3 HQ3 hBe hql
      go_loopw [8, 47] (fun v c wr => ∃ (k : Nat) (D : List Int) (nD : Nat), k ≤ m ∧ c = .int .i64 k ∧ selT (W.take k) = D ∧ nD ≤ k ∧ wr.ownsRow B 3 1 v nD (flatV enI D) ∧ Below B w6 wr) (fun _ c _ => m - (intOf c).toNat)
      case atStart => exact ⟨0, [], 0, by omega, rfl, rfl, Nat.le_refl _, World.ownsRow_nil _ _ _ _, Below.refl _ _⟩
      case round =>
        obtain ⟨j, D, nD, hj, rfl, hDD, hnj, ho, HBQ⟩ := hrel
        have HDD := Lib.hid hDD
        clear hDD
        by_cases hlt : j < m
        · obtain ⟨b, off, y, rfl, _, hy, _, d0, d1, d2, d3⟩ := Wt_at (hs2.below (by rw [← HBE.out]; exact HBQ)) hlt
          have HTK := Lib.hid (take_snocG W j y hy)
          obtain ⟨t, md, cv, ins⟩ := y
          have hO9 := (Below.refl wr.heap.size wr).alloc (Nat.le_refl _) (.cells #[.int .i64 t, .int .i64 md, .bool cv, .bool ins] 37)
          have hyb := Bk.new wr 37 #[.int .i64 t, .int .i64 md, .bool cv, .bool ins]
          have x0 := hyb.cell 0
          have x2 := hyb.cell 2
          have HBQ1 := bl_then HBQ (Nat.le_of_eq HBE.out) hO9
          have hbs : B ≤ (wr.alloc (.cells #[.int .i64 t, .int .i64 md, .bool cv, .bool ins] 37)).heap.size := by rw [HBE.out]; exact HBQ1.size
          have ho1 := ho.alloc (.cells #[.int .i64 t, .int .i64 md, .bool cv, .bool ins] 37)
          clear hy hO9 hyb ho hs2
          cases cv with
          | true =>
            go_wp2
            go_roundw
            case rel => exact ⟨j + 1, D, nD, by omega, by go_num, by rw [HTK.out, selT_app, HDD.out, selT_conv]; simp [selT], by omega, ho1, HBQ1⟩
            case measure => simp [intOf]; omega
          | false =>
            go_wp2_with (at_builtin; go_loud (refine wpList_append_one enI_len (by omega) enI_one rfl _ _ 23 rfl B 3 i0 _ 8 Try.underlying23 hi hz0 hz1 hz2 rfl _ nD D rfl ho1 t #[.int .i64 t] rfl 3 _ rfl (by simp) (by unfold maxLen; omega) (by omega) HBQ1 hbs ?_; intro v' w7 ho' hb7 k7))
            go_roundw
            case rel => exact ⟨j + 1, D ++ [t], nD + 1, by omega, by go_num, by rw [HTK.out, selT_app, HDD.out, selT_cons]; simp [selT], by omega, ho', hb7⟩
            case measure => simp [intOf]; omega
        · obtain rfl : j = m := by omega
          have hDW : D = selT W := by rw [← HDD.out, List.take_of_length_le (by rw [← HME.out]; exact Nat.le_refl _)]
          have hLI := LI.own ho hql6
          have HB7 := bl_then HB6.out (by omega) (by rw [← HBE.out]; exact HBQ)
          have hQ7 := HQ6.out.below (by rw [← HBE.out]; exact HBQ)
          have HN := Lib.hid hn
          generalize wr = w7 at hLI HB7 hQ7 ⊢
          clear ho HBQ hs2 HDD HME HBE HQ6 HB6 hn2 hlt hql6 hj hnj hn
          go_wp2
          go_loopw [8, 62] (fun v c wr => ∃ (k : Nat) (H : List Hd) (W : List Wt) (D : List Int), k ≤ len2 ∧ c = .int .i64 k ∧ QA wr q H W ∧ H.length + W.length ≤ 40 ∧ D = selT W ∧ LI wr q v D ∧ Below w.heap.size w wr) (fun _ c _ => len2 - (intOf c).toNat)
          case atStart => exact ⟨0, H, W, D, by omega, rfl, hQ7, by have := HN.out; omega, hDW, hLI, HB7⟩
          case round =>
            clear hQ7 hDW hLI HB7 HN
            obtain ⟨k, H, W, D, hk, rfl, hq, hn, hDW, hLI, HB⟩ := hrel
            by_cases hlt : k < len2
            · obtain ⟨b, off, rfl, d0⟩ := (hi2.below HB).get hlt
              generalize O.getD k 0 = y at d0
              generalize wr = w8 at hq hLI HB d0 ⊢
              have HOKW := Lib.hid hq.okW
              have HWA := Lib.hid (qwaits_any q H W w8 hq (by omega))
              have HQ8 := Lib.hid hq
              have HB8 := Lib.hid HB
              have HLI := Lib.hid hLI
              have HDW := Lib.hid hDW
              have HF := Lib.hid (fun A2 c2 W1 (hs : Wts W1 A2 W.length W) => qfind_any A2 W.length c2 W y W1 hs (by omega))
              have HRL := Lib.hid (fun W1 (hb : Below w8.heap.size w8 W1) => qrelease_any q H W y W1 (HQ8.out.below hb) (by omega))
              have HAP := Lib.hid (release_app H W y)
              have HLE := Lib.hid (release_len H W y)
              obtain ⟨A8, n8, c8, rfl, _⟩ := id hLI
              clear hq HB hLI hDW hi2
              by_cases g2 : 0 ≤ idxB (ofTx y) W
              · have g2' : idxB (ofTx y) W ≥ 0 := g2
                clear HRL HAP HLE
                generalize idxB (ofTx y) W = z at g2 g2' HF
                go_wp2_with (first
                  | (go_at_call 9; refine HWA.out.mono ?_; rintro e w9 ⟨v, rfl, hown9, hb9⟩; obtain ⟨A2, c2, rfl, hs9, _, _⟩ := SR.own (ok := okWt) enWt_len (by omega) hown9 HOKW.out; clear hown9)
                  | (go_at_call 10; refine (HF.out _ _ _ hs9).mono ?_; rintro e w10 ⟨rfl, hb10⟩))
                have hb11 := bl_then hb9 (Nat.le_refl _) hb10
                clear hb9 hb10 hs9
                go_roundw
                case rel => exact ⟨k + 1, H, W, D, by omega, by go_num, HQ8.out.below hb11, hn, HDW.out, HLI.out.below hb11, bl_then HB8.out (Nat.le_refl _) hb11⟩
                case measure => simp [intOf]; omega
              · have g2' : ¬ idxB (ofTx y) W ≥ 0 := g2
                replace HAP := Lib.hid (HAP.out (by omega))
                generalize idxB (ofTx y) W = z at g2 g2' HF
                generalize releaseT H W y = R at HRL HAP HLE
                go_wp2_with (first
                  | (go_at_call 9; refine HWA.out.mono ?_; rintro e w9 ⟨v, rfl, hown9, hb9⟩; obtain ⟨A2, c2, rfl, hs9, _, _⟩ := SR.own (ok := okWt) enWt_len (by omega) hown9 HOKW.out; clear hown9)
                  | (go_at_call 10; refine (HF.out _ _ _ hs9).mono ?_; rintro e w10 ⟨rfl, hb10⟩; replace hb10 := bl_then hb9 (Nat.le_refl _) hb10; clear hs9 hb9)
                  | (go_at_call 11; refine (HRL.out _ hb10).mono ?_; rintro e w11 ⟨v11, rfl, hown11, hq11, hk11⟩; obtain ⟨A3, c3, rfl, hs11, _, _⟩ := SR.own (ok := okWt) enWt_len (by omega) hown11 (fun x hx => HOKW.out x (by rw [← HAP.out]; exact List.mem_append_left _ hx)); clear hown11))
                have hLI11 := (HLI.out.below hb10).keep hk11
                have HB11 := Lib.hid (bl_keep (bl_then HB8.out (Nat.le_refl _) hb10) hk11 (fun i hi => by rw [hi]; exact HQL.out))
                have HQ11 := Lib.hid hq11
                obtain ⟨m, hme⟩ : ∃ m, m = R.o.length := ⟨_, rfl⟩
                rw [← hme] at hs11 ⊢
                have HME := Lib.hid hme
                have HLN := Lib.hid (show R.H.length + R.W.length ≤ 40 by have := HLE.out; omega)
                have hm40 : m ≤ 40 := by have := congrArg List.length HAP.out; rw [List.length_append] at this; omega
                have hD0 : D = selT (R.o.drop 0) ++ selT R.W := by rw [List.drop_zero, ← selT_app, HAP.out]; exact HDW.out
                have HD0 := Lib.hid hD0
                clear hk11 hb10 hq11 hme HRL HWA HF HLI HB8 HQ8 HDW HLE hD0 HOKW d0
                go_loopw [8, 79] (fun v c wr => ∃ (j : Nat) (D : List Int), j ≤ m ∧ c = .int .i64 j ∧ D = selT (R.o.drop j) ++ selT R.W ∧ LI wr q v D ∧ Below w11.heap.size w11 wr) (fun _ c _ => m - (intOf c).toNat)
                case atStart => exact ⟨0, D, by omega, rfl, HD0.out, hLI11, Below.refl _ _⟩
                case round =>
                  clear hLI11 HD0
                  obtain ⟨j, D, hj, rfl, hDD, hLI, HY⟩ := hrel
                  by_cases hlt2 : j < m
                  · obtain ⟨b3, o3, y3, rfl, _, hy, _, d0, d1, d2, d3⟩ := Wt_at (hs11.below HY) hlt2
                    have hdr : R.o.drop j = y3 :: R.o.drop (j + 1) := by
                      obtain ⟨h1, h2⟩ := List.getElem?_eq_some_iff.1 hy
                      rw [List.drop_eq_getElem_cons h1, h2]
                    obtain ⟨t, md, cv, ins⟩ := y3
                    have hO9 := (Below.refl wr.heap.size wr).alloc (Nat.le_refl _) (.cells #[.int .i64 t, .int .i64 md, .bool cv, .bool ins] 37)
                    have hyb := Bk.new wr 37 #[.int .i64 t, .int .i64 md, .bool cv, .bool ins]
                    have x0 := hyb.cell 0
                    have x2 := hyb.cell 2
                    have HY1 := Lib.hid (bl_then HY (Nat.le_refl _) hO9)
                    have hLI9 := hLI.below hO9
                    rw [hdr] at hDD
                    clear hy hO9 hyb hLI hdr HY hs11
                    cases cv with
                    | true =>
                      rw [selT_conv] at hDD
                      have HDD := Lib.hid hDD
                      obtain ⟨A7, n7, c7, rfl, _⟩ := id hLI9
                      clear hDD
                      go_wp2
                      go_roundw
                      case rel => exact ⟨j + 1, D, by omega, by go_num, HDD.out, hLI9, HY1.out⟩
                      case measure => simp [intOf]; omega
                    | false =>
                      rw [selT_cons, List.cons_append] at hDD
                      obtain ⟨A7, n7, c7, rfl, _⟩ := id hLI9
                      rw [hDD] at hLI9
                      obtain ⟨b7, o7, m7, rfl, rfl, e0, hc1, hc2, hp1, hp2⟩ := hLI9.pop
                      have HP1 := Lib.hid hp1
                      have HP2 := Lib.hid hp2
                      have g1 : ((m7 : Int) + 1 == 0) = false := by simp; omega
                      have g3 : (1 : Int) ≤ (m7 : Int) + 1 := by omega
                      have g4 : ((m7 : Int) + 1) ≤ (c7 : Int) := by omega
                      clear hDD hLI9 hp1 hp2
                      by_cases hc : c7 = 1
                      · subst hc
                        obtain rfl : m7 = 0 := by omega
                        go_wp2
                        go_quiet (fail)
                        go_wp2
                        go_roundw
                        case rel => exact ⟨j + 1, _, by omega, by go_num, rfl, LI.below (HP2.out (by first | rfl | trivial)) (by first | exact Below.refl _ _ | exact below_drew _ | exact below_drewN _ _), bl_then HY1.out (Nat.le_refl _) (by first | exact Below.refl _ _ | exact below_drew _ | exact below_drewN _ _)⟩
                        case measure => simp [intOf]; omega
                      · have hc' : ¬ ((1 : Int) = c7) := by omega
                        have hc2' : ¬ ((c7 : Int) = 1) := by omega
                        have hc3 : 1 ≤ c7 := by omega
                        go_wp2
                        go_quiet (fail)
                        go_wp2
                        go_roundw
                        case rel => exact ⟨j + 1, _, by omega, by go_num, rfl, LI.below HP1.out (by first | exact Below.refl _ _ | exact below_drew _ | exact below_drewN _ _), bl_then HY1.out (Nat.le_refl _) (by first | exact Below.refl _ _ | exact below_drew _ | exact below_drewN _ _)⟩
                        case measure => simp [intOf]; omega
                  · obtain rfl : j = m := by omega
                    have hDW : D = selT R.W := by rw [hDD, List.drop_of_length_le (by rw [HME.out]; exact Nat.le_refl _)]; rfl
                    have HB12 := bl_then HB11.out (Nat.le_refl _) HY
                    have hQ12 := HQ11.out.below HY
                    have HDW := Lib.hid hDW
                    obtain ⟨A7, n7, c7, rfl, _⟩ := id hLI
                    clear HY HB11 HQ11 hDD hDW hs11
                    go_wp2
                    go_roundw
                    case rel => exact ⟨k + 1, R.H, R.W, D, by omega, by go_num, hQ12, HLN.out, HDW.out, hLI, HB12⟩
                    case measure => simp [intOf]; omega
            · obtain rfl : k = len2 := by omega
              clear hq hLI hi2
              go_wp2
              go_ret
              exact ⟨rfl, HB⟩
end Go.Proofs.Ytdkbfmffnamdbaa
