/- group: Mode, Set, Right, Counts. No condition. -/
import Derived.Test.YtdkbfmffnamdbaaGrpL
set_option linter.unusedVariables false
set_option linter.unusedSimpArgs false
namespace Go.Proofs.Ytdkbfmffnamdbaa
open Go.RowKit (wrap32 wrap64)
open Go.RowKit
def enI (n : Int) : List Value := [.int .i64 n]
theorem enI_len (n : Int) : (enI n).length = 1 := rfl
theorem enI_one : ∀ x, ∀ u ∈ enI x, u.oneCell' = true := by intro x u hu; unfold enI at hu; rw [List.mem_singleton.1 hu]; rfl
theorem flatI (L : List Int) : flatV enI L = L.map (Value.int .i64) := by induction L with | nil => rfl | cons x l ih => rw [flatV_cons, ih]; rfl
theorem ints_own {w : World} {base n : Nat} {e : TypeId} {v : Value} {L : List Int} (h : w.ownsRow base e 1 v n (flatV enI L)) : ∃ A c, v = .slice A n c ∧ Ints w A n L := by rw [flatI] at h; exact own_ints h
set_option maxRecDepth 100000 in
set_option maxHeartbeats 1000000 in
theorem gset_any (a : Option Addr) (len cap : Nat) (L : List Hd) (tx m : Int) (w : World) (hl : Hds w a len L) (hnil : a = none → len = 0 ∧ cap = 0) (hn : len ≤ 900) :
    Calls Try.prog 34 #[.slice a len cap, .int .i64 tx, .int .i64 m] w (OwnRet enHd 82 2 w (setT tx m L)) := by
  have hll := hl.len
  have hcl := cloneHd_any a len cap L w hl hnil (by omega)
  obtain ⟨i0, hi, hz0, hz1, hz2⟩ := info_parts Try.infoHd
  have hfi := fun W (hb : Below w.heap.size w W) => gfind_any a len cap L tx W (hl.below hb) (by omega)
  have HC := Lib.hid hcl
  rcases idxB_spec (isTx tx) L with ⟨h1, hm⟩ | ⟨k, x, h1, hx, hp, hb⟩
  · rw [setT_miss tx m L hm]
    rw [h1] at hfi
    have HF := Lib.hid hfi
    have hret : ∀ v W, W.ownsRow w.heap.size 82 2 v (len + 1) (flatV enHd (L ++ [⟨tx, m⟩])) → Below w.heap.size w W → OwnRet enHd 82 2 w (L ++ [⟨tx, m⟩]) (.returned v) W := fun v W h hb => ⟨v, rfl, by rw [List.length_append, hll]; exact h, hb⟩
    have HLL := Lib.hid hll
    clear hl hnil hcl hfi h1 hm hll
    go_enter Try.func34, Try.ntmps34
    go_wp2_with (go_at_call 52; refine HC.out.mono ?_; rintro e w1 ⟨v, rfl, hown, hb1⟩)
    rw [HLL.out] at hown
    go_wp2_with (first
      | (go_at_call 58; refine (HF.out _ hb1).mono ?_; rintro e w2 ⟨rfl, hb2⟩; have hb2' := bl_then hb1 (Nat.le_refl _) hb2)
      | (at_builtin; refine wpList_append_one enHd_len (by omega) enHd_one rfl _ _ 26 rfl w.heap.size 82 i0 _ 16 Try.underlying26 hi hz0 hz1 hz2 rfl _ len L rfl (own_below hown hb2) ⟨tx, m⟩ #[.int .i64 tx, .int .i64 m] rfl 82 _ rfl rfl (by unfold maxLen; omega) (by omega) hb2' (by have := hb2'.size; omega) ?_; intro v' w3 hown3 HB3 hk3))
    go_ret
    exact hret _ _ hown3 HB3
  · rw [setT_hit tx m L k x hx hp hb]
    rw [h1] at hfi
    have HF := Lib.hid hfi
    have hkl : k < len := by rw [← hll]; exact (List.getElem?_eq_some_iff.1 hx).1
    have hret : ∀ v W, W.ownsRow w.heap.size 82 2 v len (flatV enHd (L.set k ⟨x.tx, m⟩)) → Below w.heap.size w W → OwnRet enHd 82 2 w (L.set k ⟨x.tx, m⟩) (.returned v) W := fun v W h hb => ⟨v, rfl, by rw [List.length_set, hll]; exact h, hb⟩
    have HX := Lib.hid hx
    have HLL := Lib.hid hll
    clear hl hnil hcl hfi h1 hp hb hx hll
    go_enter Try.func34, Try.ntmps34
    go_wp2_with (go_at_call 52; refine HC.out.mono ?_; rintro e w1 ⟨v, rfl, hown, hb1⟩)
    rw [HLL.out] at hown
    rcases hown.2 with ⟨_, hz⟩ | ⟨h, cap', cur, rfl, hbh, _⟩
    · omega
    · obtain ⟨hrw, _⟩ := RowAt.of hown HLL.out.symm
      go_wp2_with (go_at_call 58; refine (HF.out _ hb1).mono ?_; rintro e w2 ⟨rfl, hb2⟩; have hr2 := hrw.keep (Keep.of_below hb2 (fun _ => False)) (fun h => h); obtain ⟨c0, c1⟩ := Hd_row hr2 HX.out; have f1 := hr2.frozen (k * 2 + 1); clear hown hrw)
      go_ret
      have hb2' := bl_then hb1 (Nat.le_refl _) hb2
      have hr3 := hr2.put1 enHd_len HX.out ⟨x.tx, m⟩ 1 (by omega) (.int .i64 m) rfl
      have ho3 := hr3.own enHd_len hbh
      rw [List.length_set, HLL.out] at ho3
      exact hret _ _ ho3 (hb2'.setCell (p := ⟨h, k * 2 + 1, none⟩) hbh _)
set_option maxHeartbeats 1000000 in
theorem gright_any (a : Option Addr) (len cap : Nat) (L : List Hd) (w : World) (hl : Hds w a len L) (hn : len ≤ 1000) (hcap : len ≤ cap) (hcm : cap ≤ 9223372036854775807) :
    Calls Try.prog 27 #[.slice a len cap] w fun e w' => e = .returned (.bool (rightT L)) ∧ Below w.heap.size w w' := by
  have hll := hl.len
  have HLL := Lib.hid hll
  have hlc : (len : Int) ≤ cap := by omega
  clear hll
  go_enter Try.func27, Try.ntmps27
  go_wp2
  go_loopw [9] (fun c wr => ∃ k : Nat, k ≤ len ∧ c = .int .i64 k ∧ Hid (∀ (i : Nat) x, i < k → L[i]? = some x → okHd1 x = true ∧ ∀ o ∈ L.take i, fits x o = true) ∧ Below w.heap.size w wr) (fun c _ => len - (intOf c).toNat)
  case atStart => exact ⟨0, by omega, rfl, Lib.hid (fun i x h => absurd h (by omega)), Below.refl _ _⟩
  case round =>
    obtain ⟨k, hk, rfl, HA, HB⟩ := hrel
    by_cases hlt : k < len
    · obtain ⟨b, off, x, rfl, _, hx, _, d0, d1⟩ := Hd_at (hl.below HB) hlt
      have hO : Below wr.heap.size wr (wr.alloc (.cells #[.int .i64 x.tx, .int .i64 x.mode] 82)) := (Below.refl _ _).alloc (Nat.le_refl _) _
      have HB1 := bl_then HB (Nat.le_refl _) hO
      have hBx := Bk.new wr 82 #[.int .i64 x.tx, .int .i64 x.mode]
      have q0 := hBx.cell 0
      have q1 := hBx.cell 1
      have HX := Lib.hid hx
      clear hx hO
      cases hok : okHd1 x with
      | false =>
        have hf := right_bad_ok L k x HX.out hok
        have HF := Lib.hid hf
        unfold okHd1 at hok
        by_cases h1 : x.tx < 1
        · clear hok hf hl
          go_wp2
          go_ret
          exact ⟨by rw [HF.out]; rfl, HB1⟩
        · have h1' : decide (x.tx < 1) = false := by simp; omega
          by_cases h2 : 0 ≤ x.mode ∧ x.mode < 7
          · have hm : mayB x.mode = true := by unfold mayB; simp; omega
            have hz : x.mode = 0 := by
              by_cases e : x.mode = 0
              · exact e
              · exfalso; simp at hok; omega
            rw [hz] at d1 q1 hm hBx HB1 q0
            clear hok hf hl h1 h2
            go_wp2_with (go_at_call 53; refine (may_any _ _).mono ?_; rintro e w' ⟨rfl, rfl⟩; rw [hm])
            go_ret
            exact ⟨by rw [HF.out]; rfl, HB1⟩
          · have hm : mayB x.mode = false := by unfold mayB; simp; omega
            clear hok hf hl h1 h2
            go_wp2_with (go_at_call 53; refine (may_any _ _).mono ?_; rintro e w' ⟨rfl, rfl⟩; rw [hm])
            go_ret
            exact ⟨by rw [HF.out]; rfl, HB1⟩
      | true =>
        have HOK := Lib.hid hok
        have hsl := (hl.take enHd_len (m := k) (by omega)).below HB1
        have h1 : decide (x.tx < 1) = false := by unfold okHd1 at hok; simp at hok ⊢; omega
        have h2 : mayB x.mode = true := by unfold okHd1 at hok; unfold mayB; simp at hok ⊢; omega
        have h3 : (x.mode == 0) = false := by unfold okHd1 at hok; simp at hok ⊢; omega
        have HM := Lib.hid h2
        clear hok h2 hl
        go_wp2_with (go_at_call 53; refine (may_any _ _).mono ?_; rintro e w' ⟨rfl, rfl⟩; rw [HM.out])
        generalize wr.heap.size = Bh at q0 q1 hBx ⊢
        generalize wr.alloc (.cells #[.int .i64 x.tx, .int .i64 x.mode] 82) = w1 at HB1 hBx hsl q0 q1 ⊢
        go_loopw [32] (fun c w2 => ∃ j : Nat, j ≤ k ∧ c = .int .i64 j ∧ Hid (∀ o ∈ L.take j, fits x o = true) ∧ Below w1.heap.size w1 w2) (fun c _ => k - (intOf c).toNat)
        case atStart => exact ⟨0, by omega, rfl, Lib.hid (by simp), Below.refl _ _⟩
        case round =>
          clear q0 q1
          obtain ⟨j, hj, rfl, HF, HC⟩ := hrel
          have HB2 := bl_then HB1 (Nat.le_refl _) HC
          have hBy := hBx.below HC
          by_cases hjk : j < k
          · obtain ⟨b2, off2, y, hbb, _, hy, _, e0, e1⟩ := Hd_at (hsl.below HC) hjk
            obtain ⟨rfl, rfl⟩ : b = b2 ∧ off = off2 := by simp at hbb; exact hbb
            have hyL : L[j]? = some y := by rw [List.getElem?_take_of_lt hjk] at hy; exact hy
            have HY := Lib.hid hyL
            have hO : Below wr.heap.size wr (wr.alloc (.cells #[.int .i64 y.tx, .int .i64 y.mode] 82)) := (Below.refl _ _).alloc (Nat.le_refl _) _
            have HB3 := bl_then HB2 (Nat.le_refl _) hO
            have HC3 := bl_then HC (Nat.le_refl _) hO
            have hBz := hBy.below hO
            have hBo := Bk.new wr 82 #[.int .i64 y.tx, .int .i64 y.mode]
            have q0 := hBz.cell 0
            have q1 := hBz.cell 1
            have r0 := hBo.cell 0
            have r1 := hBo.cell 1
            clear hsl hbb hy hyL hO hBy hBz hBo HB2
            cases ht : (y.tx == x.tx) with
            | true =>
              have hf := right_bad_pair L k j x y HX.out HY.out (by omega) (by unfold fits; rw [ht]; rfl)
              have HFF := Lib.hid hf
              clear hf
              go_wp2
              go_ret
              exact ⟨by rw [HFF.out]; rfl, HB3⟩
            | false =>
              have hs := sym_any y.mode x.mode
              cases hv : symT y.mode x.mode with
              | false =>
                have hf := right_bad_pair L k j x y HX.out HY.out (by omega) (by unfold fits; rw [hv, Bool.and_false])
                have HFF := Lib.hid hf
                rw [hv] at hs
                have HS := Lib.hid hs
                clear hf hv hs
                go_wp2_with (go_at_call 54; refine (HS.out _).mono ?_; rintro e w4 ⟨rfl, hb4⟩)
                go_ret
                exact ⟨by rw [HFF.out]; rfl, bl_then HB3 (Nat.le_refl _) hb4⟩
              | true =>
                have hfy : fits x y = true := by unfold fits; rw [ht, hv]; rfl
                have HFY := Lib.hid hfy
                rw [hv] at hs
                have HS := Lib.hid hs
                clear hfy hv hs
                go_wp2_with (go_at_call 54; refine (HS.out _).mono ?_; rintro e w4 ⟨rfl, hb4⟩)
                go_roundw
                case rel =>
                  refine ⟨j + 1, by omega, by go_num, Lib.hid ?_, bl_then HC3 (Nat.le_refl _) hb4⟩
                  rw [take_snocG L j y HY.out]
                  intro o ho
                  rcases List.mem_append.1 ho with ho | ho
                  · exact HF.out o ho
                  · rw [List.mem_singleton.1 ho]; exact HFY.out
                case measure => simp [intOf]; omega
          · obtain rfl : j = k := by omega
            clear hsl hBx hBy
            go_wp2
            go_roundw
            case rel =>
              refine ⟨j + 1, by omega, by go_num, Lib.hid (fun i z hi hz => ?_), HB2⟩
              by_cases e : i = j
              · subst e
                have := HX.out
                rw [hz] at this
                obtain rfl := Option.some.inj this
                exact ⟨HOK.out, HF.out⟩
              · exact HA.out i z (by omega) hz
            case measure => simp [intOf]; omega
    · obtain rfl : k = len := by omega
      have hf : rightT L = true := right_all L (fun i x hx => HA.out i x (by have := (List.getElem?_eq_some_iff.1 hx).1; rw [HLL.out] at this; exact this) hx)
      have HF := Lib.hid hf
      clear hf hl
      go_wp2
      go_ret
      exact ⟨by rw [HF.out]; rfl, HB⟩
end Go.Proofs.Ytdkbfmffnamdbaa
