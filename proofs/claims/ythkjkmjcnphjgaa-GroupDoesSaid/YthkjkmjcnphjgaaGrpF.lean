/- group: whether rows are right, by the reference; counts. No condition. -/
import Derived.Test.YthkjkmjcnphjgaaGrpE
set_option linter.unusedVariables false
set_option linter.unusedSimpArgs false
namespace Go.Proofs.Ythkjkmjcnphjgaa
open Go.RowKit (wrap32 wrap64)
open Go.RowKit Go.Shelf Go.Sort
theorem right_all2 (L : List Hd) (h : ∀ (i : Nat) x, L[i]? = some x → okHd1 x = true ∧ ∀ (j : Nat) y, L[j]? = some y → i ≠ j → fits x y = true) : rightT L = true :=
  right_all L fun i x hx => ⟨(h i x hx).1, fun o ho => by
    obtain ⟨j, hj, rfl⟩ := List.mem_take_iff_getElem.1 ho
    have hjl : j < L.length := by omega
    exact (h i x hx).2 j _ (List.getElem?_eq_getElem hjl) (by omega)⟩
set_option maxHeartbeats 2000000 in
theorem rright_any (a : Option Addr) (len cap : Nat) (L : List Hd) (w : World) (hl : Hds w a len L) (hn : len ≤ 1000) :
    Calls Try.prog 52 #[.slice a len cap] w fun e w' => e = .returned (.bool (rightT L)) ∧ Below w.heap.size w w' := by
  have hll := hl.len
  have HLL := Lib.hid hll
  clear hll
  go_enter Try.func52, Try.ntmps52
  go_wp2
  go_loopw [9] (fun c wr => ∃ k : Nat, k ≤ len ∧ c = .int .i64 k ∧ Hid (∀ (i : Nat) x, i < k → L[i]? = some x → okHd1 x = true ∧ ∀ (j : Nat) y, L[j]? = some y → i ≠ j → fits x y = true) ∧ Below w.heap.size w wr) (fun c _ => len - (intOf c).toNat)
  case atStart => exact ⟨0, by omega, rfl, Lib.hid (fun i x h => absurd h (by omega)), Below.refl _ _⟩
  case round =>
    obtain ⟨k, hk, rfl, HA, HB⟩ := hrel
    by_cases hlt : k < len
    · obtain ⟨b, off, x, rfl, _, hx, _, d0, d1⟩ := Hd_at (hl.below HB) hlt
      have hO : Below wr.heap.size wr (wr.alloc (.cells #[.int .i64 x.tx, .int .i64 x.mode] 65)) := (Below.refl _ _).alloc (Nat.le_refl _) _
      have HB1 := bl_then HB (Nat.le_refl _) hO
      have hBx := Bk.new wr 65 #[.int .i64 x.tx, .int .i64 x.mode]
      have q0 := hBx.cell 0
      have q1 := hBx.cell 1
      have hl1 := hl.below HB1
      have HX := Lib.hid hx
      clear hx hO hl
      by_cases hok : okHd1 x = true
      · have HOK := Lib.hid hok
        have h1 : decide (x.tx < 1) = false := by unfold okHd1 at hok; simp at hok ⊢; omega
        have h2 : decide (x.mode < 1) = false := by unfold okHd1 at hok; simp at hok ⊢; omega
        have h3 : decide (6 < x.mode) = false := by unfold okHd1 at hok; simp at hok ⊢; omega
        clear hok
        go_wp2_with fail
        generalize wr.heap.size = Bh at q0 q1 hBx ⊢
        generalize wr.alloc (.cells #[.int .i64 x.tx, .int .i64 x.mode] 65) = w1 at HB1 hBx hl1 q0 q1 ⊢
        go_loopw [29] (fun c w2 => ∃ j : Nat, j ≤ len ∧ c = .int .i64 j ∧ Hid (∀ (i : Nat) y, i < j → L[i]? = some y → k ≠ i → fits x y = true) ∧ Below w1.heap.size w1 w2) (fun c _ => len - (intOf c).toNat)
        case atStart => exact ⟨0, by omega, rfl, Lib.hid (fun i y h => absurd h (by omega)), Below.refl _ _⟩
        case round =>
          clear q0 q1
          obtain ⟨j, hj, rfl, HF, HC⟩ := hrel
          have HB2 := bl_then HB1 (Nat.le_refl _) HC
          have hBy := hBx.below HC
          by_cases hjk : j < len
          · obtain ⟨b2, off2, y, hbb, _, hy, _, e0, e1⟩ := Hd_at (hl1.below HC) hjk
            obtain ⟨rfl, rfl⟩ : b = b2 ∧ off = off2 := by simp at hbb; exact hbb
            have HY := Lib.hid hy
            have hO : Below wr.heap.size wr (wr.alloc (.cells #[.int .i64 y.tx, .int .i64 y.mode] 65)) := (Below.refl _ _).alloc (Nat.le_refl _) _
            have HB3 := bl_then HB2 (Nat.le_refl _) hO
            have HC3 := bl_then HC (Nat.le_refl _) hO
            have hBz := hBy.below hO
            have hBo := Bk.new wr 65 #[.int .i64 y.tx, .int .i64 y.mode]
            have q0 := hBz.cell 0
            have q1 := hBz.cell 1
            have r0 := hBo.cell 0
            have r1 := hBo.cell 1
            have hstep : (k ≠ j → fits x y = true) → Hid (∀ (i : Nat) z, i < j + 1 → L[i]? = some z → k ≠ i → fits x z = true) := fun h => Lib.hid (fun i z hi hz hki => by
              by_cases e : i = j
              · subst e
                have := HY.out
                rw [hz] at this
                obtain rfl := Option.some.inj this
                exact h hki
              · exact HF.out i z (by omega) hz hki)
            have HST := Lib.hid hstep
            clear hl1 hbb hy hO hBy hBz hBo HB2 hstep
            by_cases hkj : k = j
            · have HS := HST.out (fun h => absurd hkj h)
              have hb1 : ((k : Int) != (j : Int)) = false := by rw [hkj]; simp
              clear hkj
              go_wp2
              go_roundw
              case rel => exact ⟨j + 1, by omega, by go_num, HS, HC3⟩
              case measure => simp [intOf]; omega
            · have hb1 : ((k : Int) != (j : Int)) = true := by rw [bne_iff_ne]; omega
              cases ht : (x.tx == y.tx) with
              | true =>
                have hf := right_bad_pair L k j x y HX.out HY.out hkj (by unfold fits; rw [show (y.tx == x.tx) = (x.tx == y.tx) from by rw [Bool.eq_iff_iff]; simp; exact eq_comm, ht]; rfl)
                have HFF := Lib.hid hf
                clear hf hkj
                go_wp2
                go_ret
                exact ⟨by rw [HFF.out]; rfl, HB3⟩
              | false =>
                have ht' : (y.tx == x.tx) = false := by rw [show (y.tx == x.tx) = (x.tx == y.tx) from by rw [Bool.eq_iff_iff]; simp; exact eq_comm, ht]
                have hs := fun W => rsym_any x.mode y.mode W
                rw [symT_comm] at hs
                cases hv : symT y.mode x.mode with
                | false =>
                  have hf := right_bad_pair L k j x y HX.out HY.out hkj (by unfold fits; rw [hv, Bool.and_false])
                  have HFF := Lib.hid hf
                  rw [hv] at hs
                  have HS := Lib.hid hs
                  clear hf hv hs hkj ht'
                  go_wp2_with (go_at_call 94; refine (HS.out _).mono ?_; rintro e _ ⟨rfl, rfl⟩)
                  go_ret
                  exact ⟨by rw [HFF.out]; rfl, HB3⟩
                | true =>
                  have hfy := HST.out (fun _ => by unfold fits; rw [ht', hv]; rfl)
                  rw [hv] at hs
                  have HS := Lib.hid hs
                  clear hv hs hkj ht'
                  go_wp2_with (go_at_call 94; refine (HS.out _).mono ?_; rintro e _ ⟨rfl, rfl⟩)
                  go_roundw
                  case rel => exact ⟨j + 1, by omega, by go_num, hfy, HC3⟩
                  case measure => simp [intOf]; omega
          · obtain rfl : j = len := by omega
            clear hl1 hBx hBy
            go_wp2
            go_roundw
            case rel =>
              refine ⟨k + 1, by omega, by go_num, Lib.hid (fun i z hi hz => ?_), HB2⟩
              by_cases e : i = k
              · subst e
                have := HX.out
                rw [hz] at this
                obtain rfl := Option.some.inj this
                exact ⟨HOK.out, fun j' y' hy' hne => HF.out j' y' (by have := (List.getElem?_eq_some_iff.1 hy').1; rw [HLL.out] at this; exact this) hy' hne⟩
              · exact HA.out i z (by omega) hz
            case measure => simp [intOf]; omega
      · have hf := right_bad_ok L k x HX.out (by simpa using hok)
        have HF := Lib.hid hf
        have hgu : (x.tx < 1) ∨ (¬ x.tx < 1 ∧ x.mode < 1) ∨ (¬ x.tx < 1 ∧ ¬ x.mode < 1 ∧ 6 < x.mode) := by unfold okHd1 at hok; simp at hok; omega
        clear hok hf hl1 hBx
        rcases hgu with h1 | ⟨h1, h2⟩ | ⟨h1, h2, h3⟩
        all_goals
          go_wp2
          go_ret
          exact ⟨by rw [HF.out]; rfl, HB1⟩
    · obtain rfl : k = len := by omega
      have hf : rightT L = true := right_all2 L (fun i x hx => HA.out i x (by have := (List.getElem?_eq_some_iff.1 hx).1; rw [HLL.out] at this; exact this) hx)
      have HF := Lib.hid hf
      clear hf hl
      go_wp2
      go_ret
      exact ⟨by rw [HF.out]; rfl, HB⟩
/-- Seven counts. -/
def cv (f : Nat → Int) : Array Value := #[.int .i64 (f 0), .int .i64 (f 1), .int .i64 (f 2), .int .i64 (f 3), .int .i64 (f 4), .int .i64 (f 5), .int .i64 (f 6)]
def up (f : Nat → Int) (i : Nat) : Nat → Int := fun j => if j = i then f j + 1 else f j
theorem cv_get (f : Nat → Int) (i : Nat) (h : i < 7) : (cv f)[i]? = some (.int .i64 (f i)) := by
  unfold cv
  match i, h with
  | 0, _ => rfl
  | 1, _ => rfl
  | 2, _ => rfl
  | 3, _ => rfl
  | 4, _ => rfl
  | 5, _ => rfl
  | 6, _ => rfl
theorem cv_set (f : Nat → Int) (i : Nat) (h : i < 7) : (cv f).setIfInBounds i (.int .i64 (f i + 1)) = cv (up f i) := by
  unfold cv up
  match i, h with
  | 0, _ => rfl
  | 1, _ => rfl
  | 2, _ => rfl
  | 3, _ => rfl
  | 4, _ => rfl
  | 5, _ => rfl
  | 6, _ => rfl
/-- The place at which a mode is counted. -/
def plc (m : Int) : Nat := if 0 ≤ m ∧ m < 7 then m.toNat else 0
theorem plc_lt (m : Int) : plc m < 7 := by unfold plc; split <;> omega
def cntF (L : List Hd) : Nat → Int := L.foldl (fun f h => up f (plc h.mode)) (fun _ => 0)
theorem cntF_snoc (L : List Hd) (k : Nat) (x : Hd) (hx : L[k]? = some x) : cntF (L.take (k + 1)) = up (cntF (L.take k)) (plc x.mode) := by
  unfold cntF
  rw [take_snocG L k x hx, List.foldl_append]; rfl
theorem cntF_le (L : List Hd) (j : Nat) : 0 ≤ cntF L j ∧ cntF L j ≤ L.length := by
  have : ∀ (L : List Hd) (f : Nat → Int), f j ≤ (L.foldl (fun f h => up f (plc h.mode)) f) j ∧ (L.foldl (fun f h => up f (plc h.mode)) f) j ≤ f j + L.length := by
    intro L
    induction L with
    | nil => intro f; simp
    | cons x l ih =>
      intro f
      have h1 := ih (up f (plc x.mode))
      have h2 : f j ≤ up f (plc x.mode) j ∧ up f (plc x.mode) j ≤ f j + 1 := by unfold up; split <;> omega
      rw [List.foldl_cons, List.length_cons]
      omega
  have := this L (fun _ => 0)
  unfold cntF
  omega
end Go.Proofs.Ythkjkmjcnphjgaa
