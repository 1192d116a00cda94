/- The contracts of package order. No condition. -/
import Derived.Test.YtgpkidffhglngaaSl
import Derived.Test.YtgpkidffhglngaaBits
import Derived.Maps.AppendAt
set_option linter.unusedVariables false
set_option linter.unusedSimpArgs false
namespace Go.Proofs.Ytgpkidffhglngaa
open Go.RowKit (wrap32 wrap64)
open Go.RowKit Plain
/-- The draw behind a seed. -/
def nextG (x : Int) : Int := nextZ (if x < 1 then 1 else x)
theorem nextG_pos (x : Int) (h : 1 ≤ x) : nextG x = nextZ x := by unfold nextG; rw [if_neg (by omega)]
theorem nextG_zero (x : Int) (h : x < 1) : nextG x = nextZ 1 := by unfold nextG; rw [if_pos h]
set_option maxHeartbeats 400000 in
theorem next_any (x : Int) (h0 : 0 ≤ x) (h1 : x < 18446744073709551616) (w : World) : Calls Try.prog 14 #[.int .u64 x] w fun e w' => e = .returned (.int .u64 (nextG x)) ∧ w = w' := by
  by_cases h : 1 ≤ x
  · rw [nextG_pos x h]
    have hz := Lib.hid (next_is x h0 h1)
    go_enter Try.func14, Try.ntmps14
    go_wp2
    go_ret
    exact ⟨congrArg (fun z => Ending.returned (.int .u64 z)) hz.out, rfl⟩
  · have h2 : x < 1 := by omega
    rw [nextG_zero x h2]
    have hz := Lib.hid (next_is 1 (by omega) (by omega))
    clear h
    go_enter Try.func14, Try.ntmps14
    go_wp2
    go_ret
    exact ⟨congrArg (fun z => Ending.returned (.int .u64 z)) hz.out, rfl⟩
set_option maxHeartbeats 400000 in
theorem rnext_any (x : Int) (h0 : 0 ≤ x) (h1 : x < 18446744073709551616) (w : World) : Calls Try.prog 17 #[.int .u64 x] w fun e w' => e = .returned (.int .u64 (nextG x)) ∧ w = w' := by
  by_cases h : x = 0
  · subst h
    rw [nextG_zero 0 (by omega)]
    have hz := Lib.hid (next_isd 1 (by omega) (by omega))
    go_enter Try.func17, Try.ntmps17
    go_wp2
    go_ret
    exact ⟨congrArg (fun z => Ending.returned (.int .u64 z)) hz.out, rfl⟩
  · rw [nextG_pos x (by omega)]
    have hb : (x == 0) = false := beq_eq_false_iff_ne.2 h
    have hz := Lib.hid (next_isd x h0 h1)
    go_enter Try.func17, Try.ntmps17
    go_wp2
    go_ret
    exact ⟨congrArg (fun z => Ending.returned (.int .u64 z)) hz.out, rfl⟩
def oMay (n many : Int) : Bool := decide (1 ≤ n) && decide (n ≤ 64) && decide (0 ≤ many) && decide (many ≤ 65536)
set_option maxHeartbeats 400000 in
theorem omay_any (n many : Int) (w : World) : Calls Try.prog 52 #[.int .i64 n, .int .i64 many] w fun e w' => e = .returned (.bool (oMay n many)) ∧ w = w' := by
  by_cases h1 : 1 ≤ n
  · by_cases h2 : n ≤ 64
    · by_cases h3 : 0 ≤ many
      · have e : oMay n many = decide (many ≤ 65536) := by unfold oMay; simp [h1, h2, h3]
        rw [e]
        go_enter Try.func52, Try.ntmps52
        go_wp2
        go_ret
        exact ⟨rfl, rfl⟩
      · have e : oMay n many = false := by unfold oMay; simp [h3]
        rw [e]
        go_enter Try.func52, Try.ntmps52
        go_wp2
        go_ret
        exact ⟨rfl, rfl⟩
    · have e : oMay n many = false := by unfold oMay; simp [h2]
      rw [e]
      go_enter Try.func52, Try.ntmps52
      go_wp2
      go_ret
      exact ⟨rfl, rfl⟩
  · have e : oMay n many = false := by unfold oMay; simp [h1]
    rw [e]
    go_enter Try.func52, Try.ntmps52
    go_wp2
    go_ret
    exact ⟨rfl, rfl⟩
theorem oMay_spec (n many : Int) (h : oMay n many = true) : 1 ≤ n ∧ n ≤ 64 ∧ 0 ≤ many ∧ many ≤ 65536 := by
  unfold oMay at h; simp at h; omega
theorem Try.infoI : (Try.prog.info? 3).map (fun i => (i.zero, i.size, i.bytes)) = some (some (.int .i64 0), 1, 8) := by kernel_rfl
theorem made_zero (M : Nat) : (madeCells (Value.int .i64 0).cells (M * 1)).toList = (List.replicate M (0 : Int)).map (Value.int .i64) := by
  rw [Nat.mul_one, List.map_replicate]; exact toList_madeCells_one (.int .i64 0) M
def roundL (n : Int) (M : Nat) : List Int := (List.range M).map fun (i : Nat) => (i : Int) % n
/-- The first k are set, the others 0. -/
def upto (f : Nat → Int) (M k : Nat) : List Int := (List.range M).map fun i => if i < k then f i else 0
theorem upto_zero (f : Nat → Int) (M : Nat) : upto f M 0 = List.replicate M 0 := by
  unfold upto; rw [List.eq_replicate_iff]; simp
theorem upto_set (f : Nat → Int) (M k : Nat) : (upto f M k).set k (f k) = upto f M (k + 1) := by
  unfold upto
  apply List.ext_getElem
  · simp
  · intro i h1 h2
    simp only [List.getElem_set, List.getElem_map, List.getElem_range]
    by_cases h : k = i
    · subst h; simp
    · rw [if_neg h]
      by_cases h3 : i < k
      · rw [if_pos h3, if_pos (by omega)]
      · rw [if_neg h3, if_neg (by omega)]
theorem upto_all (f : Nat → Int) (M : Nat) : upto f M M = (List.range M).map f := by
  unfold upto
  apply List.map_congr_left
  intro i hi
  rw [if_pos (List.mem_range.1 hi)]
theorem upto_length (f : Nat → Int) (M k : Nat) : (upto f M k).length = M := by simp [upto]
set_option maxHeartbeats 400000 in
theorem round_no (n many : Int) (hm : oMay n many = false) (w : World) : Calls Try.prog 15 #[.int .i64 n, .int .i64 many] w fun e w' => e = .returned (.slice none 0 0) ∧ w = w' := by
  go_enter Try.func15, Try.ntmps15
  go_wp2_with (first
    | (go_at_call 52; refine (omay_any _ _ _).mono ?_; rintro e w' ⟨rfl, rfl⟩))
  go_ret
  exact ⟨rfl, rfl⟩
def OwnRet (w : World) (M : Nat) (xs : List Int) (e : Ending) (w' : World) : Prop := ∃ v, e = .returned v ∧ w'.ownsRow w.heap.size 3 1 v M (xs.map (Value.int .i64)) ∧ Below w.heap.size w w'
set_option maxHeartbeats 400000 in
theorem round_yes (n : Int) (M : Nat) (hm : oMay n M = true) (w : World) : Calls Try.prog 15 #[.int .i64 n, .int .i64 M] w (OwnRet w M (roundL n M)) := by
  have hs := oMay_spec n M hm
  obtain ⟨i0, hi, hz0, hz1, hz2⟩ := info_parts Try.infoI
  go_enter Try.func15, Try.ntmps15
  go_wp2_with (first
    | (go_at_call 52; refine (omay_any _ _ _).mono ?_; rintro e w' ⟨rfl, rfl⟩)
    | (at_make; refine wpList_make_full _ rfl _ _ _ rfl w.heap.size 3 i0 (.int .i64 0) 1 Try.underlying26 hi hz0 hz1 .i64 .i64 M M M rfl rfl rfl rfl (by rw [hz2]; omega) (by unfold maxLen; omega) (Nat.le_refl _) ?_; intro w1 hown hgr; rw [made_zero] at hown))
  go_loopw [15] (fun c wr => ∃ k : Nat, k ≤ M ∧ c = .int .i64 k ∧ wr.ownsRow w.heap.size 3 1 (.slice (some ⟨w.heap.size, 0, none⟩) M M) M ((upto (fun i => (i : Int) % n) M k).map (Value.int .i64)) ∧ Below w.heap.size w wr) (fun c _ => M - (intOf c).toNat)
  case atStart => exact ⟨0, by omega, rfl, by rw [upto_zero]; exact hown, (Below.refl _ _).grown hgr (Nat.le_refl _) (fun k h => by cases h)⟩
  case round =>
    clear hown hgr
    obtain ⟨k, hk, rfl, hown, hb⟩ := hrel
    by_cases hlt : k < M
    · have hc := hown.cellAt k (by omega)
      have hf := hown.frozenAt k
      have hl : k < ((upto (fun i => (i : Int) % n) M k).map (Value.int .i64)).length := by rw [List.length_map, upto_length]; exact hlt
      rw [List.getElem?_eq_getElem hl] at hc
      generalize ((upto (fun i => (i : Int) % n) M k).map (Value.int .i64))[k] = old at hc
      clear hl
      have hst := hown.stored k (.int .i64 ((k : Int) % n))
      rw [← List.map_set, upto_set (fun i => (i : Int) % n)] at hst
      have HST := Lib.hid hst
      clear hst
      have HOWN := Lib.hid hown
      clear hown
      go_wp2
      go_roundw
      case rel => exact ⟨k + 1, by omega, by go_num, HST.out.1, hb.setCell (Nat.le_refl _) _⟩
      case measure => simp [intOf]; omega
    · obtain rfl : k = M := by omega
      go_wp2
      go_ret
      exact ⟨_, rfl, by unfold roundL; rw [← upto_all]; exact hown, hb⟩
/-! ### Drawn -/
theorem nextG_range (x : Int) : 0 ≤ nextG x ∧ nextG x < 18446744073709551616 := nextZ_range _
def seedN (s : Int) : Nat → Int
  | 0 => s
  | k + 1 => nextG (seedN s k)
theorem seedN_range (s : Int) (h : 0 ≤ s ∧ s < 18446744073709551616) (k : Nat) : 0 ≤ seedN s k ∧ seedN s k < 18446744073709551616 := by
  cases k with
  | zero => exact h
  | succ k => exact nextG_range _
def drawI (n s : Int) (i : Nat) : Int := seedN s (i + 1) % n
def drawnL (n : Int) (M : Nat) (s : Int) : List Int := (List.range M).map (drawI n s)
set_option maxHeartbeats 400000 in
theorem drawn_no (n many s : Int) (hm : oMay n many = false) (w : World) : Calls Try.prog 16 #[.int .i64 n, .int .i64 many, .int .u64 s] w fun e w' => e = .returned (.slice none 0 0) ∧ w = w' := by
  go_enter Try.func16, Try.ntmps16
  go_wp2_with (first
    | (go_at_call 52; refine (omay_any _ _ _).mono ?_; rintro e w' ⟨rfl, rfl⟩))
  go_ret
  exact ⟨rfl, rfl⟩
set_option maxHeartbeats 400000 in
theorem drawn_yes (n : Int) (M : Nat) (s : Int) (hm : oMay n M = true) (h0 : 0 ≤ s) (h1 : s < 18446744073709551616) (w : World) : Calls Try.prog 16 #[.int .i64 n, .int .i64 M, .int .u64 s] w (OwnRet w M (drawnL n M s)) := by
  have hs := oMay_spec n M hm
  obtain ⟨i0, hi, hz0, hz1, hz2⟩ := info_parts Try.infoI
  go_enter Try.func16, Try.ntmps16
  go_wp2_with (first
    | (go_at_call 52; refine (omay_any _ _ _).mono ?_; rintro e w' ⟨rfl, rfl⟩)
    | (at_make; refine wpList_make_full _ rfl _ _ _ rfl w.heap.size 3 i0 (.int .i64 0) 1 Try.underlying26 hi hz0 hz1 .i64 .i64 M M M rfl rfl rfl rfl (by rw [hz2]; omega) (by unfold maxLen; omega) (Nat.le_refl _) ?_; intro w1 hown hgr; rw [made_zero] at hown))
  go_loopw [2, 17] (fun sd c wr => ∃ k : Nat, k ≤ M ∧ sd = .int .u64 (seedN s k) ∧ c = .int .i64 k ∧ wr.ownsRow w.heap.size 3 1 (.slice (some ⟨w.heap.size, 0, none⟩) M M) M ((upto (drawI n s) M k).map (Value.int .i64)) ∧ Below w.heap.size w wr) (fun _ c _ => M - (intOf c).toNat)
  case atStart => exact ⟨0, by omega, rfl, rfl, by rw [upto_zero]; exact hown, (Below.refl _ _).grown hgr (Nat.le_refl _) (fun k h => by cases h)⟩
  case round =>
    clear hown hgr
    obtain ⟨k, hk, rfl, rfl, hown, hb⟩ := hrel
    by_cases hlt : k < M
    · have hc := hown.cellAt k (by omega)
      have hf := hown.frozenAt k
      have hl : k < ((upto (drawI n s) M k).map (Value.int .i64)).length := by rw [List.length_map, upto_length]; exact hlt
      rw [List.getElem?_eq_getElem hl] at hc
      generalize ((upto (drawI n s) M k).map (Value.int .i64))[k] = old at hc
      clear hl
      have hsr := seedN_range s ⟨h0, h1⟩ k
      have hsr1 := nextG_range (seedN s k)
      have hst := hown.stored k (.int .i64 (drawI n s k))
      rw [← List.map_set, upto_set (drawI n s)] at hst
      have hd : drawI n s k = nextG (seedN s k) % n := rfl
      have hdr : 0 ≤ nextG (seedN s k) % n ∧ nextG (seedN s k) % n < 64 := by
        have a1 := Int.emod_nonneg (nextG (seedN s k)) (show n ≠ 0 by omega)
        have a2 := Int.emod_lt_of_pos (nextG (seedN s k)) (show 0 < n by omega)
        omega
      rw [hd] at hst
      clear hd
      have HST := Lib.hid hst
      clear hst
      have HOWN := Lib.hid hown
      clear hown
      go_wp2_with (first
        | (go_at_call 14; refine (next_any _ hsr.1 hsr.2 _).mono ?_; rintro e w' ⟨rfl, rfl⟩))
      go_roundw
      case rel => exact ⟨k + 1, by omega, rfl, by go_num, HST.out.1, hb.setCell (Nat.le_refl _) _⟩
      case measure => simp [intOf]; omega
    · obtain rfl : k = M := by omega
      go_wp2
      go_ret
      exact ⟨_, rfl, by unfold drawnL; rw [← upto_all]; exact hown, hb⟩
/-! ### Cut -/
def cutL (n : Int) (l : List Int) : List Int := l.filter fun x => decide (0 ≤ x) && decide (x < n)
theorem take_snoc (xs : List Int) (k : Nat) (h : k < xs.length) : xs.take (k + 1) = xs.take k ++ [xs.getD k 0] := by
  rw [List.take_succ_eq_append_getElem h, List.getD_eq_getElem?_getD, List.getElem?_eq_getElem h]; rfl
theorem cutL_yes (n : Int) (l : List Int) (x : Int) (h : 0 ≤ x ∧ x < n) : cutL n (l ++ [x]) = cutL n l ++ [x] := by
  unfold cutL; rw [List.filter_append]; simp [h]
theorem cutL_no (n : Int) (l : List Int) (x : Int) (h : ¬ (0 ≤ x ∧ x < n)) : cutL n (l ++ [x]) = cutL n l := by
  unfold cutL; rw [List.filter_append]
  have : (decide (0 ≤ x) && decide (x < n)) = false := by simp; omega
  simp [this]
theorem cutL_len (n : Int) (l : List Int) : (cutL n l).length ≤ l.length := List.length_filter_le _ _
set_option maxHeartbeats 400000 in
theorem cut_any (a : Option Addr) (len cap : Nat) (xs : List Int) (n : Int) (w : World) (hl : Ints w a len xs) (hlen : len ≤ 100000) : Calls Try.prog 19 #[.slice a len cap, .int .i64 n] w (OwnRet w (cutL n xs).length (cutL n xs)) := by
  obtain ⟨i0, hi, hz0, hz1, hz2⟩ := info_parts Try.infoI
  have hx := hl.len
  go_enter Try.func19, Try.ntmps19
  go_wp2
  go_loopw [5, 10] (fun o c wr => ∃ k : Nat, k ≤ len ∧ c = .int .i64 k ∧ wr.ownsRow w.heap.size 3 1 o (cutL n (xs.take k)).length ((cutL n (xs.take k)).map (Value.int .i64)) ∧ Below w.heap.size w wr) (fun _ c _ => len - (intOf c).toNat)
  case atStart => exact ⟨0, by omega, rfl, World.ownsRow_nil _ _ _ _, Below.refl _ _⟩
  case round =>
    obtain ⟨k, hk, rfl, hown, hb⟩ := hrel
    have hlw := hl.below hb
    by_cases hlt : k < len
    · obtain ⟨b, off, rfl, hc⟩ := hlw.get hlt
      clear hlw
      have ht := take_snoc xs k (by omega)
      generalize xs.getD k 0 = x at hc ht
      by_cases h0 : 0 ≤ x
      · by_cases h1 : x < n
        · have hcy := cutL_yes n (xs.take k) x ⟨h0, h1⟩
          rw [← ht] at hcy
          have HCY := Lib.hid hcy
          clear hcy ht hx hl
          have hle := cutL_len n (xs.take k)
          rw [List.length_take] at hle
          have hbs := hb.size
          go_wp2_with (at_builtin; refine wpList_append_own _ rfl _ _ 26 rfl w.heap.size 3 i0 (.int .i64 0) 1 8 Try.underlying26 hi hz0 hz1 hz2 rfl (by decide) _ _ _ rfl (hown.alloc _) ⟨wr.heap.size, 0, none⟩ 1 1 [.int .i64 x] rfl rfl (cell_one_new _ _ _) (by simp [Value.oneCell']) (by unfold maxLen; omega) (by omega) (by simp; omega) ?_; intro v' w2 hown' hgr' _)
          go_roundw
          case rel => exact ⟨k + 1, by omega, by go_num, by rw [HCY.out, List.length_append, List.map_append]; exact hown', (hb.alloc hbs _).grown hgr' (by simp; omega) (fun k h => ((hown.lt k h).1))⟩
          case measure => simp [intOf]; omega
        · have hcn := cutL_no n (xs.take k) x (by omega)
          rw [← ht] at hcn
          have HCN := Lib.hid hcn
          clear hcn ht hx hl
          go_wp2
          go_roundw
          case rel => exact ⟨k + 1, by omega, by go_num, by rw [HCN.out]; exact hown, hb⟩
          case measure => simp [intOf]; omega
      · have hcn := cutL_no n (xs.take k) x (by omega)
        rw [← ht] at hcn
        have HCN := Lib.hid hcn
        clear hcn ht hx hl
        go_wp2
        go_roundw
        case rel => exact ⟨k + 1, by omega, by go_num, by rw [HCN.out]; exact hown, hb⟩
        case measure => simp [intOf]; omega
    · obtain rfl : k = len := by omega
      have ht : xs.take xs.length = xs := List.take_length
      rw [hx] at ht
      rw [ht] at hown
      clear ht
      go_wp2
      go_ret
      exact ⟨_, rfl, hown, hb⟩
end Go.Proofs.Ytgpkidffhglngaa
