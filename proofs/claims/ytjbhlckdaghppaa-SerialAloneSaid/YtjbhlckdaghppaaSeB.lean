/- serial: One. No condition. -/
import Derived.Test.YtjbhlckdaghppaaStJ
import Derived.Test.YtjbhlckdaghppaaDeep
import Derived.Test.YtjbhlckdaghppaaStQ
import Derived.Deep.RegionHeld3
import Derived.Lib.QuietBelow
set_option linter.unusedVariables false
set_option linter.unusedSimpArgs false
namespace Go.Proofs.Ytjbhlckdaghppaa
open Go.RowKit (wrap32 wrap64)
open Go.RowKit Go.Shelf Go.Sort Go.Lib
def evP (x : Ev) : Pt := ⟨x.n0, x.n1, x.n2, x.n3, x.dep⟩
theorem okEv_p {x : Ev} (h : okEv x) : okPt (evP x) := ⟨h.2.2.1, h.2.2.2.1, h.2.2.2.2.1, h.2.2.2.2.2.1, h.2.2.2.2.2.2.1⟩
structure Sx where
  E : List Cl
  ok : Bool
/-- What one event does. -/
def oneT (R : Ev → List Rw) (s : Sx) (x : Ev) : Sx :=
  if x.kind = 6 then ⟨s.E, s.ok && ((getE s.E (evP x)).1 == x.val)⟩
  else if x.kind = 8 then ⟨s.E, s.ok && decide (goodsE s.E (fun q => withinP q (evP x)) = R x)⟩
  else if x.kind = 7 then ⟨(putT s.E (evP x) x.val).E, s.ok && ((putT s.E (evP x) x.val).e == 0)⟩
  else s
def oneL (R : Ev → List Rw) (E : List Cl) (L : List Ev) : Sx := L.foldl (oneT R) ⟨E, true⟩
theorem oneT_ok {R : Ev → List Rw} {s : Sx} {x : Ev} {K : Nat} (h : OkE s.E K) (hx : okEv x) : OkE (oneT R s x).E (K + 1) := by
  unfold oneT
  split
  · exact h.mono (Nat.le_succ _)
  · split
    · exact h.mono (Nat.le_succ _)
    · split
      · exact putT_ok h (okEv_p hx) x.val
      · exact h.mono (Nat.le_succ _)
theorem fold_snoc {R : Ev → List Rw} {L : List Ev} {k : Nat} {x : Ev} (hx : L[k]? = some x) (s : Sx) : (L.take (k + 1)).foldl (oneT R) s = oneT R ((L.take k).foldl (oneT R) s) x := by
  rw [take_snocG L k x hx, List.foldl_append]; rfl
theorem oneL_ok {R : Ev → List Rw} (L : List Ev) {s : Sx} {K : Nat} (h : OkE s.E K) (hx : ∀ x ∈ L, okEv x) : OkE (L.foldl (oneT R) s).E (K + L.length) := by
  induction L generalizing s K with
  | nil => exact h
  | cons x L ih =>
    have := ih (oneT_ok (R := R) h (hx x (by simp))) (fun y hy => hx y (by simp [hy]))
    rw [List.length_cons]
    exact this.mono (by omega)
set_option maxRecDepth 100000 in
set_option maxHeartbeats 8000000 in
theorem sone_any (s b : Nat) (E : List Cl) (K : Nat) (a : Option Addr) (len cap : Nat) (L : List Ev) (R : Ev → List Rw) (w : World) (hsb : s ≠ b) (hO : StO w s b E) (hE : OkE E K) (hK : K + len ≤ 900)
    (hev : ∀ W1, Keep (fun i => i = b) w W1 → Evs W1 a len L ∧ EvRows W1 L R) :
    Calls Try.prog 32 #[.pointer (some ⟨s, 0, none⟩), .slice a len cap] w fun e w' => e = .returned (.bool (oneL R E L).ok) ∧ StO w' s b (oneL R E L).E ∧ Keep (fun i => i = b) w w' := by
  have HLL := Lib.hid (hev w (Keep.refl _ _)).1.len
  have HEV := Lib.hid hev
  clear hev
  go_enter Try.func32, Try.ntmps32
  go_wp2_with fail
  go_loopw [5, 12] (fun v5 c wr => ∃ (k : Nat) (X : Sx), k ≤ len ∧ c = .int .i64 k ∧ v5 = .bool X.ok ∧ Hid (X = (L.take k).foldl (oneT R) ⟨E, true⟩) ∧ StO wr s b X.E ∧ OkE X.E (K + k) ∧ Keep (fun i => i = b) w wr) (fun _ c _ => len - (intOf c).toNat)
  case atStart => exact ⟨0, ⟨E, true⟩, by omega, rfl, rfl, Lib.hid rfl, hO, hE, Keep.refl _ _⟩
  case round =>
    clear hO hE
    obtain ⟨k, X, hk, rfl, rfl, HX, hO, hE, hK2⟩ := hrel
    by_cases hlt : k < len
    · obtain ⟨b0, off, x, rfl, _, hx, hokx, d0, d1, d2, d3, d4, d5, d6, d7, d8, d9, d10⟩ := Ev_at (HEV.out wr hK2).1 hlt
      have al := (Below.refl wr.heap.size wr).alloc (Nat.le_refl _) (.cells #[.int .i64 x.kind, .int .i64 x.tx, .int .i64 x.n0, .int .i64 x.n1, .int .i64 x.n2, .int .i64 x.n3, .int .i64 x.dep, .int .i64 x.mode, .int .i64 x.val, .slice x.rows.1 x.rows.2.1 x.rows.2.2, .int .i64 x.err] 56)
      have hbx := Bk.new wr 56 #[.int .i64 x.kind, .int .i64 x.tx, .int .i64 x.n0, .int .i64 x.n1, .int .i64 x.n2, .int .i64 x.n3, .int .i64 x.dep, .int .i64 x.mode, .int .i64 x.val, .slice x.rows.1 x.rows.2.1 x.rows.2.2, .int .i64 x.err]
      have hO1 := hO.below al
      have hk1 := hK2.trans (Keep.of_below al (fun i => i = b))
      have HK1 := Lib.hid hk1
      have HX' : Hid (oneT R X x = (L.take (k + 1)).foldl (oneT R) ⟨E, true⟩) := Lib.hid (by rw [fold_snoc hx, ← HX.out])
      have HE2 : Hid (OkE (oneT R X x).E (K + (k + 1))) := Lib.hid (oneT_ok hE hokx)
      have hG := fun W1 (hb : Below (wr.alloc (.cells #[.int .i64 x.kind, .int .i64 x.tx, .int .i64 x.n0, .int .i64 x.n1, .int .i64 x.n2, .int .i64 x.n3, .int .i64 x.dep, .int .i64 x.mode, .int .i64 x.val, .slice x.rows.1 x.rows.2.1 x.rows.2.2, .int .i64 x.err] 56)).heap.size (wr.alloc (.cells #[.int .i64 x.kind, .int .i64 x.tx, .int .i64 x.n0, .int .i64 x.n1, .int .i64 x.n2, .int .i64 x.n3, .int .i64 x.dep, .int .i64 x.mode, .int .i64 x.val, .slice x.rows.1 x.rows.2.1 x.rows.2.2, .int .i64 x.err] 56)) W1) => stget_any s b X.E (evP x) (okEv_p hokx) W1 (hO1.below hb)
      have hU := fun W1 (hb : Below (wr.alloc (.cells #[.int .i64 x.kind, .int .i64 x.tx, .int .i64 x.n0, .int .i64 x.n1, .int .i64 x.n2, .int .i64 x.n3, .int .i64 x.dep, .int .i64 x.mode, .int .i64 x.val, .slice x.rows.1 x.rows.2.1 x.rows.2.2, .int .i64 x.err] 56)).heap.size (wr.alloc (.cells #[.int .i64 x.kind, .int .i64 x.tx, .int .i64 x.n0, .int .i64 x.n1, .int .i64 x.n2, .int .i64 x.n3, .int .i64 x.dep, .int .i64 x.mode, .int .i64 x.val, .slice x.rows.1 x.rows.2.1 x.rows.2.2, .int .i64 x.err] 56)) W1) => stunder_any s b X.E (K + k) (evP x) W1 (hO1.below hb) hE (by omega)
      have hS := stset_any s b X.E (K + k) (evP x) x.val (okEv_p hokx) _ hO1 hE (by omega) hsb
      have hR := fun W1 (hb : Below (wr.alloc (.cells #[.int .i64 x.kind, .int .i64 x.tx, .int .i64 x.n0, .int .i64 x.n1, .int .i64 x.n2, .int .i64 x.n3, .int .i64 x.dep, .int .i64 x.mode, .int .i64 x.val, .slice x.rows.1 x.rows.2.1 x.rows.2.2, .int .i64 x.err] 56)).heap.size (wr.alloc (.cells #[.int .i64 x.kind, .int .i64 x.tx, .int .i64 x.n0, .int .i64 x.n1, .int .i64 x.n2, .int .i64 x.n3, .int .i64 x.dep, .int .i64 x.mode, .int .i64 x.val, .slice x.rows.1 x.rows.2.1 x.rows.2.2, .int .i64 x.err] 56)) W1) => ((HEV.out _ hk1).2 x (List.mem_of_getElem? hx)).below hb
      have HOK := Lib.hid (goods_ok hE (fun q => withinP q (evP x)))
      have hrl : x.rows.2.1 ≤ 9223372036854775807 := hokx.2.2.2.2.2.2.2.2.2.1
      have HO1 := Lib.hid hO1
      obtain ⟨XE, Xok⟩ := X
      dsimp only at hG hU hS HOK
      have c0 := hbx.cell 0
      have c2 := hbx.cell 2
      have c3 := hbx.cell 3
      have c4 := hbx.cell 4
      have c5 := hbx.cell 5
      have c6 := hbx.cell 6
      have c8 := hbx.cell 8
      have c9 := hbx.cell 9
      have HBX := Lib.hid hbx
      clear hK2 hO hE al hO1 hk1 hbx hx hokx
      obtain ⟨kd, tx, n0, n1, n2, n3, dp, mo, va, ⟨ra, rl, rc⟩, er⟩ := x
      dsimp only [evP] at *
      by_cases k6 : kd = 6
      · subst k6
        have hT : oneT R ⟨XE, Xok⟩ ⟨6, tx, n0, n1, n2, n3, dp, mo, va, (ra, rl, rc), er⟩ = ⟨XE, Xok && ((getE XE ⟨n0, n1, n2, n3, dp⟩).1 == va)⟩ := by unfold oneT; rw [if_pos rfl]; rfl
        rw [hT] at HX' HE2
        clear hT hU hS hR HOK c9
        generalize (getE XE ⟨n0, n1, n2, n3, dp⟩).1 = gv at hG HX' HE2
        have HG := Lib.hid hG
        have r2 := fun dq osq => cell_regrown (v := .int .i64 n0) c2 dq osq
        have r3 := fun dq osq => cell_regrown (v := .int .i64 n1) c3 dq osq
        have r4 := fun dq osq => cell_regrown (v := .int .i64 n2) c4 dq osq
        have r5 := fun dq osq => cell_regrown (v := .int .i64 n3) c5 dq osq
        have r6 := fun dq osq => cell_regrown (v := .int .i64 dp) c6 dq osq
        have r8 := fun dq osq => cell_regrown (v := .int .i64 va) c8 dq osq
        clear hG
        cases Xok with
        | true =>
          rw [Bool.true_and] at HX'
          go_wp2_with fail
          refine wp_region_quiet_below (by kernel_rfl) (by kernel_rfl) ?_
          repeat (go_big_quiet_step (first | (go_at_call 12; exact Calls.regrown_of (HG.out _ (below_regrown _ _ _)))))
          refine wpQuiet_nil ?_
          intro _ hw'
          obtain ⟨⟨dq, osq⟩, hw''⟩ := hw'
          subst hw''
          go_wp2
          go_roundw
          case rel => exact ⟨k + 1, ⟨XE, gv == va⟩, by omega, by go_num, rfl, HX', HO1.out.below (below_regrown _ dq osq), HE2.out, HK1.out.trans (Keep.of_below (below_regrown _ dq osq) _)⟩
          case measure => simp [intOf]; omega
        | false =>
          rw [Bool.false_and] at HX'
          go_wp2_with fail
          refine wp_region_quiet_below (by kernel_rfl) (by kernel_rfl) ?_
          repeat (go_big_quiet_step (fail))
          refine wpQuiet_nil ?_
          intro _ hw'
          obtain ⟨⟨dq, osq⟩, hw''⟩ := hw'
          subst hw''
          go_wp2
          go_roundw
          case rel => exact ⟨k + 1, ⟨XE, false⟩, by omega, by go_num, rfl, HX', HO1.out.below (below_regrown _ dq osq), HE2.out, HK1.out.trans (Keep.of_below (below_regrown _ dq osq) _)⟩
          case measure => simp [intOf]; omega
      · have n6 : (kd == 6) = false := by simp [k6]
        by_cases k8 : kd = 8
        · subst k8
          have hT : oneT R ⟨XE, Xok⟩ ⟨8, tx, n0, n1, n2, n3, dp, mo, va, (ra, rl, rc), er⟩ = ⟨XE, Xok && decide (goodsE XE (fun q => withinP q ⟨n0, n1, n2, n3, dp⟩) = R ⟨8, tx, n0, n1, n2, n3, dp, mo, va, (ra, rl, rc), er⟩)⟩ := by unfold oneT; rw [if_neg (by show ¬ (8 : Int) = 6; omega), if_pos rfl]; rfl
          rw [hT] at HX' HE2
          clear hT hG hS c8 k6
          cases Xok with
          | true =>
            rw [Bool.true_and] at HX'
            generalize R ⟨8, tx, n0, n1, n2, n3, dp, mo, va, (ra, rl, rc), er⟩ = RR at hR HX' HE2
            generalize goodsE XE (fun q => withinP q ⟨n0, n1, n2, n3, dp⟩) = GG at hU HX' HE2 HOK
            obtain ⟨bb, hbb⟩ : ∃ bb, bb = decide (GG = RR) := ⟨_, rfl⟩
            rw [← hbb] at HX' HE2
            have HBB := Lib.hid hbb
            have HU := Lib.hid hU
            have HR := Lib.hid hR
            clear hU hR hbb
            have hra := Below.refl (wr.alloc (.cells #[.int .i64 8, .int .i64 tx, .int .i64 n0, .int .i64 n1, .int .i64 n2, .int .i64 n3, .int .i64 dp, .int .i64 mo, .int .i64 va, .slice ra rl rc, .int .i64 er] 56)).heap.size (wr.alloc (.cells #[.int .i64 8, .int .i64 tx, .int .i64 n0, .int .i64 n1, .int .i64 n2, .int .i64 n3, .int .i64 dp, .int .i64 mo, .int .i64 va, .slice ra rl rc, .int .i64 er] 56))
            have hrd := below_drew (wr.alloc (.cells #[.int .i64 8, .int .i64 tx, .int .i64 n0, .int .i64 n1, .int .i64 n2, .int .i64 n3, .int .i64 dp, .int .i64 mo, .int .i64 va, .slice ra rl rc, .int .i64 er] 56))
            go_wp2_with fail
            go_region_held3 (fun w' => w'.cell? ⟨wr.heap.size, 2, none⟩ = some (.int .i64 n0) ∧ w'.cell? ⟨wr.heap.size, 3, none⟩ = some (.int .i64 n1) ∧ w'.cell? ⟨wr.heap.size, 4, none⟩ = some (.int .i64 n2) ∧ w'.cell? ⟨wr.heap.size, 5, none⟩ = some (.int .i64 n3) ∧ w'.cell? ⟨wr.heap.size, 6, none⟩ = some (.int .i64 dp) ∧ w'.cell? ⟨wr.heap.size, 9, none⟩ = some (.slice ra rl rc))
              (first | exact ⟨(HBX.out.below (by assumption)).cell 2, (HBX.out.below (by assumption)).cell 3, (HBX.out.below (by assumption)).cell 4, (HBX.out.below (by assumption)).cell 5, (HBX.out.below (by assumption)).cell 6, (HBX.out.below (by assumption)).cell 9⟩)
              (first
                | (go_at_call 18; refine (HU.out _ (by assumption)).mono ?_; rintro e w5 ⟨v5, rfl, hown5, hb5⟩; obtain ⟨A5, c5', rfl, hs5, _, _⟩ := SR.own (ok := okRw) enRw_len (by omega) hown5 HOK.out; clear hown5; have hB5 : Below (wr.alloc (.cells #[.int .i64 8, .int .i64 tx, .int .i64 n0, .int .i64 n1, .int .i64 n2, .int .i64 n3, .int .i64 dp, .int .i64 mo, .int .i64 va, .slice ra rl rc, .int .i64 er] 56)).heap.size (wr.alloc (.cells #[.int .i64 8, .int .i64 tx, .int .i64 n0, .int .i64 n1, .int .i64 n2, .int .i64 n3, .int .i64 dp, .int .i64 mo, .int .i64 va, .slice ra rl rc, .int .i64 er] 56)) w5 := bl_then (by assumption) (Nat.le_refl _) hb5)
                | (go_at_call 22; refine (same_any _ _ _ _ _ _ _ _ _ hs5 (HR.out _ (by assumption))).mono ?_; rintro e w6 ⟨rfl, hb6⟩; have hB6 : Below (wr.alloc (.cells #[.int .i64 8, .int .i64 tx, .int .i64 n0, .int .i64 n1, .int .i64 n2, .int .i64 n3, .int .i64 dp, .int .i64 mo, .int .i64 va, .slice ra rl rc, .int .i64 er] 56)).heap.size (wr.alloc (.cells #[.int .i64 8, .int .i64 tx, .int .i64 n0, .int .i64 n1, .int .i64 n2, .int .i64 n3, .int .i64 dp, .int .i64 mo, .int .i64 va, .slice ra rl rc, .int .i64 er] 56)) w6 := bl_then (by assumption) (Nat.le_refl _) hb6; rw [← HBB.out]))
            all_goals
              obtain ⟨w9, hw9⟩ : ∃ y, y = w6 := ⟨_, rfl⟩
              rw [← hw9] at hB6 ⊢
              clear hw9
              go_wp2
              go_roundw
              case rel => exact ⟨k + 1, ⟨XE, bb⟩, by omega, by go_num, rfl, HX', HO1.out.below hB6, HE2.out, HK1.out.trans (Keep.of_below hB6 _)⟩
              case measure => simp [intOf]; omega
          | false =>
            rw [Bool.false_and] at HX'
            clear hU hR HOK
            go_wp2_with fail
            refine wp_region_quiet_below (by kernel_rfl) (by kernel_rfl) ?_
            repeat (go_big_quiet_step (fail))
            refine wpQuiet_nil ?_
            intro _ hw'
            obtain ⟨⟨dq, osq⟩, hw''⟩ := hw'
            subst hw''
            go_wp2
            go_roundw
            case rel => exact ⟨k + 1, ⟨XE, false⟩, by omega, by go_num, rfl, HX', HO1.out.below (below_regrown _ dq osq), HE2.out, HK1.out.trans (Keep.of_below (below_regrown _ dq osq) _)⟩
            case measure => simp [intOf]; omega
        · have n8 : (kd == 8) = false := by simp [k8]
          by_cases k7 : kd = 7
          · subst k7
            have hT : oneT R ⟨XE, Xok⟩ ⟨7, tx, n0, n1, n2, n3, dp, mo, va, (ra, rl, rc), er⟩ = ⟨(putT XE ⟨n0, n1, n2, n3, dp⟩ va).E, Xok && ((putT XE ⟨n0, n1, n2, n3, dp⟩ va).e == 0)⟩ := by unfold oneT; rw [if_neg (by show ¬ (7 : Int) = 6; omega), if_neg (by show ¬ (7 : Int) = 8; omega), if_pos rfl]; rfl
            rw [hT] at HX' HE2
            clear hT hG hU hR HOK k6 k8 c9
            generalize putT XE ⟨n0, n1, n2, n3, dp⟩ va = RW at hS HX' HE2
            obtain ⟨rA, rF, rE⟩ := RW
            dsimp only at hS HX' HE2
            have HS := Lib.hid hS
            clear hS
            cases Xok with
            | true =>
              rw [Bool.true_and] at HX'
              go_wp2_with (go_at_call 11; refine HS.out.mono ?_; rintro e w4 ⟨rfl, hO4, k4⟩)
              go_roundw
              case rel => exact ⟨k + 1, ⟨rE, rF == 0⟩, by omega, by go_num, rfl, HX', hO4, HE2.out, HK1.out.trans k4⟩
              case measure => simp [intOf]; omega
            | false =>
              rw [Bool.false_and] at HX'
              go_wp2_with (go_at_call 11; refine HS.out.mono ?_; rintro e w4 ⟨rfl, hO4, k4⟩)
              go_roundw
              case rel => exact ⟨k + 1, ⟨rE, false⟩, by omega, by go_num, rfl, HX', hO4, HE2.out, HK1.out.trans k4⟩
              case measure => simp [intOf]; omega
          · have n7 : (kd == 7) = false := by simp [k7]
            have hT : oneT R ⟨XE, Xok⟩ ⟨kd, tx, n0, n1, n2, n3, dp, mo, va, (ra, rl, rc), er⟩ = ⟨XE, Xok⟩ := by unfold oneT; rw [if_neg k6, if_neg k8, if_neg k7]
            rw [hT] at HX' HE2
            clear hT hG hU hS hR HOK k6 k8 k7 c9
            go_wp2
            go_roundw
            case rel => exact ⟨k + 1, ⟨XE, Xok⟩, by omega, by go_num, rfl, HX', HO1.out, HE2.out, HK1.out⟩
            case measure => simp [intOf]; omega
    · obtain rfl : k = len := by omega
      have HY : Hid (oneL R E L = X) := Lib.hid (by rw [HX.out, List.take_of_length_le (by rw [HLL.out]; exact Nat.le_refl _)]; rfl)
      go_wp2
      go_ret
      exact ⟨by rw [HY.out]; rfl, by rw [HY.out]; exact hO, hK2⟩
end Go.Proofs.Ytjbhlckdaghppaa
