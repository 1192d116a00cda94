/- request: Right. No condition. -/
import Derived.Test.YtdkbfmffnamdbaaReqB
import Derived.Deep.DeepCutAuto
set_option linter.unusedVariables false
set_option linter.unusedSimpArgs false
namespace Go.Proofs.Ytdkbfmffnamdbaa
open Go.RowKit (wrap32 wrap64)
open Go.RowKit
/-- What Right hands back. -/
def QRightRet (w : World) (L : List Wt) (e : Ending) (w' : World) : Prop := ∃ b : Bool, e = .returned (.bool b) ∧ (b = true ↔ RightW L) ∧ Below w.heap.size w w'
set_option maxRecDepth 100000 in
set_option maxHeartbeats 4000000 in
theorem qright_any (a : Option Addr) (len cap : Nat) (L : List Wt) (w : World) (hl : Wts w a len L) (hn : len ≤ 1000) :
    Calls Try.prog 28 #[.slice a len cap] w (QRightRet w L) := by
  have hll := hl.len
  have HLL := Lib.hid hll
  have HRN : Hid (¬ RightW L → ∀ W, Below w.heap.size w W → QRightRet w L (.returned (.bool false)) W) := Lib.hid (fun h W hb => ⟨false, rfl, ⟨(fun h' => by cases h'), fun h' => absurd h' h⟩, hb⟩)
  have HRY : Hid (RightW L → ∀ W, Below w.heap.size w W → QRightRet w L (.returned (.bool true)) W) := Lib.hid (fun h W hb => ⟨true, rfl, ⟨fun _ => h, fun _ => rfl⟩, hb⟩)
  have HIF := Lib.hid (rightW_iff L)
  clear hll
  go_enter Try.func28, Try.ntmps28
  go_wp2
  go_loopw [7] (fun c wr => ∃ k : Nat, k ≤ len ∧ c = .int .i64 k ∧ Hid (∀ (i : Nat) x, i < k → L[i]? = some x → okReq x ∧ idxB (ofTx x.tx) L = i ∧ ∀ y, 0 < i → x.conv = true → L[i - 1]? = some y → y.conv = true) ∧ Below w.heap.size w wr) (fun c _ => len - (intOf c).toNat)
  case atStart => exact ⟨0, by omega, rfl, Lib.hid (fun i x h => absurd h (by omega)), Below.refl _ _⟩
  case round =>
    obtain ⟨k, hk, rfl, HA, HB⟩ := hrel
    by_cases hlt : k < len
    · obtain ⟨b, off, x, rfl, _, hx, _, d0, d1, d2, d3⟩ := Wt_at (hl.below HB) hlt
      have hOx : Below wr.heap.size wr (wr.alloc (.cells #[.int .i64 x.tx, .int .i64 x.mode, .bool x.conv, .bool x.inst] 37)) := (Below.refl _ _).alloc (Nat.le_refl _) _
      have HB1 := bl_then HB (Nat.le_refl _) hOx
      have hbx := Bk.new wr 37 #[.int .i64 x.tx, .int .i64 x.mode, .bool x.conv, .bool x.inst]
      have HX := Lib.hid hx
      by_cases h1 : 1 ≤ x.tx ∧ 1 ≤ x.mode ∧ x.mode ≤ 6
      case neg =>
        have hno : ¬ RightW L := fun hr => h1 (((HIF.out.1 hr) k x hx).1)
        have HNO := Lib.hid (HRN.out hno)
        have hck := fun W => qcheck_any x.tx x.mode W
        rw [show checkT x.tx x.mode = 1 from if_neg h1] at hck
        have HCK := Lib.hid hck
        have q0 := hbx.cell 0
        have q1 := hbx.cell 1
        clear hno hx hl hbx hOx h1 hck
        go_wp2_with (go_at_call 31; refine (HCK.out _).mono ?_; rintro e _ ⟨rfl, rfl⟩)
        go_ret
        exact HNO.out _ HB1
      case pos =>
        have hck := fun W => qcheck_any x.tx x.mode W
        rw [show checkT x.tx x.mode = 0 from if_pos h1] at hck
        have HCK := Lib.hid hck
        have hfi := fun W (hb : Below w.heap.size w W) => qfind_any (some ⟨b, off, none⟩) len cap L x.tx W (hl.below hb) hn
        by_cases h2 : idxB (ofTx x.tx) L = k
        case neg =>
          have hno : ¬ RightW L := fun hr => h2 (((HIF.out.1 hr) k x hx).2.1)
          have HNO := Lib.hid (HRN.out hno)
          have hne : (idxB (ofTx x.tx) L != (k : Int)) = true := by simpa [bne_iff_ne] using h2
          generalize idxB (ofTx x.tx) L = z at hfi hne
          have HFI := Lib.hid hfi
          have q0 := hbx.cell 0
          have q1 := hbx.cell 1
          clear hno hx hl hOx h1 hck hfi h2
          go_wp2_with (first
            | (go_at_call 31; refine (HCK.out _).mono ?_; rintro e _ ⟨rfl, rfl⟩)
            | (go_at_call 10; refine (HFI.out _ HB1).mono ?_; rintro e w2 ⟨rfl, hb2⟩))
          go_ret
          exact HNO.out _ (bl_then HB1 (Nat.le_refl _) hb2)
        case pos =>
          rw [h2] at hfi
          have HFI := Lib.hid hfi
          have h2H := Lib.hid h2
          have h1H := Lib.hid h1
          have q0 := hbx.cell 0
          have q1 := hbx.cell 1
          have hstep : (∀ y, 0 < k → x.conv = true → L[k - 1]? = some y → y.conv = true) → Hid (∀ (i : Nat) x, i < k + 1 → L[i]? = some x → okReq x ∧ idxB (ofTx x.tx) L = i ∧ ∀ y, 0 < i → x.conv = true → L[i - 1]? = some y → y.conv = true) := fun h => Lib.hid (fun i z hi hz => by
            by_cases e : i = k
            · subst e
              have := HX.out
              rw [hz] at this
              obtain rfl := Option.some.inj this
              exact ⟨h1H.out, h2H.out, h⟩
            · exact HA.out i z (by omega) hz)
          have hkk : ((k : Int) != (k : Int)) = false := by simp
          by_cases h0 : k = 0
          · subst h0
            have HST := hstep (fun y h => absurd h (by omega))
            simp only [Nat.zero_mul, Nat.add_zero] at d0 d1 d2 d3
            clear hx hOx h1 hck hfi h2 hstep HA hl
            go_wp2_with (first
              | (go_at_call 31; refine (HCK.out _).mono ?_; rintro e _ ⟨rfl, rfl⟩)
              | (go_at_call 10; refine (HFI.out _ HB1).mono ?_; rintro e w2 ⟨rfl, hb2⟩))
            go_roundw
            case rel => exact ⟨1, by omega, by first | rfl | go_num, HST, bl_then HB1 (Nat.le_refl _) hb2⟩
            case measure => simp [intOf]; omega
          · obtain ⟨j, rfl⟩ : ∃ j, k = j + 1 := ⟨k - 1, by omega⟩
            have t1 : IntKind.i64.wrap ((j : Int) + 1 - 1) = (j : Int) := by rw [IntKind.wrap_i64]; omega
            have hgt : decide ((0 : Int) < ((j + 1 : Nat) : Int)) = true := decide_eq_true (by omega)
            have hgt2 : (0 : Int) < (j : Int) + 1 := by omega
            have hjn : j < len := by omega
            have hjn1 : (j : Int) < (len : Int) := by omega
            cases hc : x.conv with
            | false =>
              rw [hc] at d2 hbx HB1
              have q2 := hbx.cell 2
              have HST := hstep (fun y _ h => by rw [hc] at h; cases h)
              clear hx hOx h1 hck hfi h2 hstep HA hl hc
              go_wp2_with (first
                | (go_at_call 31; refine (HCK.out _).mono ?_; rintro e _ ⟨rfl, rfl⟩)
                | (go_at_call 10; refine (HFI.out _ HB1).mono ?_; rintro e w2 ⟨rfl, hb2⟩; have r2 := (hbx.below hb2).cell 2; clear q2))
              go_roundw
              case rel => exact ⟨j + 2, by omega, by go_num, HST, bl_then HB1 (Nat.le_refl _) hb2⟩
              case measure => simp [intOf]; omega
            | true =>
              rw [hc] at d2 hbx HB1
              have q2 := hbx.cell 2
              obtain ⟨b', off', y, hbb, _, hy, _, _, _, ey, _⟩ := Wt_at (hl.below HB1) (i := j) (by omega)
              obtain ⟨hb3, ho3⟩ : b = b' ∧ off = off' := by simpa using hbb
              subst hb3; subst ho3
              cases hcy : y.conv with
              | true =>
                rw [hcy] at ey
                have HST := hstep (fun z _ _ h => by rw [Nat.add_sub_cancel, hy] at h; cases h; exact hcy)
                clear hx hOx h1 hck hfi h2 hstep HA hl hc hy hcy hbb
                go_wp2_with (first
                  | (go_at_call 31; refine (HCK.out _).mono ?_; rintro e _ ⟨rfl, rfl⟩)
                  | (go_at_call 10; refine (HFI.out _ HB1).mono ?_; rintro e w2 ⟨rfl, hb2⟩; have r2 := (hbx.below hb2).cell 2; have ey2 := Keep.cellS (Keep.of_below hb2 (fun _ => False)) ey (fun h => h); clear q2 ey))
                go_roundw
                case rel => exact ⟨j + 2, by omega, by go_num, HST, bl_then HB1 (Nat.le_refl _) hb2⟩
                case measure => simp [intOf]; omega
              | false =>
                rw [hcy] at ey
                have hno : ¬ RightW L := fun hr => by
                  have := ((HIF.out.1 hr) (j + 1) x hx).2.2 y (by omega) hc (by rw [Nat.add_sub_cancel]; exact hy)
                  rw [hcy] at this; cases this
                have HNO := Lib.hid (HRN.out hno)
                clear hx hOx h1 hck hfi h2 hstep HA hl hc hy hcy hbb hno
                go_wp2_with (first
                  | (go_at_call 31; refine (HCK.out _).mono ?_; rintro e _ ⟨rfl, rfl⟩)
                  | (go_at_call 10; refine (HFI.out _ HB1).mono ?_; rintro e w2 ⟨rfl, hb2⟩; have r2 := (hbx.below hb2).cell 2; have ey2 := Keep.cellS (Keep.of_below hb2 (fun _ => False)) ey (fun h => h); clear q2 ey))
                go_ret
                exact HNO.out _ (bl_then HB1 (Nat.le_refl _) hb2)
    · obtain rfl : k = len := by omega
      have hyes : RightW L := HIF.out.2 (fun i x hx => HA.out i x (by rw [← HLL.out]; exact (List.getElem?_eq_some_iff.1 hx).1) hx)
      have HY := Lib.hid (HRY.out hyes)
      clear hl hyes
      go_wp2
      go_ret
      exact HY.out _ HB
end Go.Proofs.Ytdkbfmffnamdbaa
