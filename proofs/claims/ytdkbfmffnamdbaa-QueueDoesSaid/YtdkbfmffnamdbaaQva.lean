/- queue: the reference's functions on what waits: Check, Find, Without, Place, Insert. No condition. -/
import Derived.Test.YtdkbfmffnamdbaaQup
import Derived.Test.YtdkbfmffnamdbaaGrpE
import Derived.Deep.RegionLawGrows
import Derived.Deep.DeepAppendRoom
import Derived.Deep.Upon
import Derived.Deep.RegionWith
import Derived.Shelf.RegionOpenPlain
set_option linter.unusedVariables false
set_option linter.unusedSimpArgs false
namespace Go.Proofs.Ytdkbfmffnamdbaa
open Go.RowKit (wrap32 wrap64)
open Go.RowKit
theorem rchk_any (tx m fl : Int) (w : World) : Calls Try.prog 43 #[.int .i64 tx, .int .i64 m, .int .i64 fl] w fun e w' => e = .returned (.int .i64 (chkT tx m fl)) ∧ w = w' := by
  by_cases h1 : 1 ≤ tx
  case neg =>
    rw [show chkT tx m fl = 1 from if_neg (fun h => h1 h.1)]
    have g1 : tx < 1 := by omega
    clear h1
    go_enter Try.func43, Try.ntmps43
    go_wp2
    go_ret
    exact ⟨rfl, rfl⟩
  have g1 : ¬ tx < 1 := by omega
  by_cases h2 : 1 ≤ m
  case neg =>
    rw [show chkT tx m fl = 1 from if_neg (fun h => h2 h.2.1.1)]
    have g2 : m < 1 := by omega
    clear h1 h2
    go_enter Try.func43, Try.ntmps43
    go_wp2
    go_ret
    exact ⟨rfl, rfl⟩
  have g2 : ¬ m < 1 := by omega
  by_cases h3 : m ≤ 6
  case neg =>
    rw [show chkT tx m fl = 1 from if_neg (fun h => h3 h.2.1.2)]
    have g3 : 6 < m := by omega
    clear h1 h2 h3
    go_enter Try.func43, Try.ntmps43
    go_wp2
    go_ret
    exact ⟨rfl, rfl⟩
  have g3 : ¬ 6 < m := by omega
  by_cases h4 : 0 ≤ fl
  case neg =>
    rw [show chkT tx m fl = 1 from if_neg (fun h => by omega)]
    have g4 : fl < 0 := by omega
    clear h1 h2 h3 h4
    go_enter Try.func43, Try.ntmps43
    go_wp2
    go_ret
    exact ⟨rfl, rfl⟩
  have g4 : ¬ fl < 0 := by omega
  by_cases h5 : fl ≤ 2
  case neg =>
    rw [show chkT tx m fl = 1 from if_neg (fun h => by omega)]
    have g5 : 2 < fl := by omega
    clear h1 h2 h3 h4 h5
    go_enter Try.func43, Try.ntmps43
    go_wp2
    go_ret
    exact ⟨rfl, rfl⟩
  have g5 : ¬ 2 < fl := by omega
  rw [show chkT tx m fl = 0 from if_pos ⟨h1, ⟨h2, h3⟩, h4, h5⟩]
  clear h1 h2 h3 h4 h5
  go_enter Try.func43, Try.ntmps43
  go_wp2
  go_ret
  exact ⟨rfl, rfl⟩
theorem idx_hit (tx : Int) (L : List Wt) (k : Nat) (x : Wt) (hx : L[k]? = some x) (h : ofTx tx x = true) (hb : ∀ y ∈ L.take k, ofTx tx y = false) : idxB (ofTx tx) L = k := by
  rcases idxB_spec (ofTx tx) L with ⟨_, h2⟩ | ⟨j, y, h1, hy, hp, hbj⟩
  · rw [h2 x (List.mem_of_getElem? hx)] at h; cases h
  · rw [h1]
    by_cases hjk : j < k
    · have : y ∈ L.take k := by
        apply List.mem_of_getElem? (i := j)
        rw [List.getElem?_take, if_pos hjk]; exact hy
      rw [hb y this] at hp; cases hp
    · by_cases hkj : k < j
      · have : x ∈ L.take j := by
          apply List.mem_of_getElem? (i := k)
          rw [List.getElem?_take, if_pos hkj]; exact hx
        rw [hbj x this] at h; cases h
      · omega
set_option maxHeartbeats 1000000 in
theorem rfindW_any (a : Option Addr) (len cap : Nat) (L : List Wt) (tx : Int) (w : World) (hl : Wts w a len L) :
    Calls Try.prog 44 #[.slice a len cap, .int .i64 tx] w fun e w' => e = .returned (.int .i64 (idxB (ofTx tx) L)) ∧ Below w.heap.size w w' := by
  have hll := hl.len
  have HLL := Lib.hid hll
  have hmx : len ≤ 9223372036854775807 := by have := hl.max; unfold maxLen at this; exact this
  clear hll
  go_enter Try.func44, Try.ntmps44
  go_wp2
  go_loopw [9] (fun c wr => ∃ k : Nat, k ≤ len ∧ c = .int .i64 k ∧ Hid (∀ y ∈ L.take k, ofTx tx y = false) ∧ Below w.heap.size w wr) (fun c _ => len - (intOf c).toNat)
  case atStart => exact ⟨0, by omega, rfl, Lib.hid (by simp), Below.refl _ _⟩
  case round =>
    obtain ⟨k, hk, rfl, HN, HB⟩ := hrel
    by_cases hlt : k < len
    · obtain ⟨b, off, x, rfl, _, hx, _, d0, d1, d2, d3⟩ := Wt_at (hl.below HB) hlt
      have hO : Below wr.heap.size wr (wr.alloc (.cells #[.int .i64 x.tx, .int .i64 x.mode, .bool x.conv, .bool x.inst] 37)) := (Below.refl _ _).alloc (Nat.le_refl _) _
      have HB1 := bl_then HB (Nat.le_refl _) hO
      have q0 := (Bk.new wr 37 #[.int .i64 x.tx, .int .i64 x.mode, .bool x.conv, .bool x.inst]).cell 0
      have HX := Lib.hid hx
      clear hx hO hl
      cases ht : (x.tx == tx) with
      | true =>
        have hres := idx_hit tx L k x HX.out ht HN.out
        have HR := Lib.hid hres
        clear hres
        go_wp2
        go_ret
        exact ⟨by rw [HR.out]; rfl, HB1⟩
      | false =>
        have HT := Lib.hid ht
        go_wp2
        go_roundw
        case rel =>
          refine ⟨k + 1, by omega, by go_num, Lib.hid ?_, HB1⟩
          rw [take_snocG L k x HX.out]
          intro y hy
          rcases List.mem_append.1 hy with hy | hy
          · exact HN.out y hy
          · rw [List.mem_singleton.1 hy]; exact HT.out
        case measure => simp [intOf]; omega
    · obtain rfl : k = len := by omega
      have hres : idxB (ofTx tx) L = -1 := idxB_miss _ _ (by have := HN.out; rw [List.take_of_length_le (by rw [HLL.out]; exact Nat.le_refl _)] at this; exact this)
      have HR := Lib.hid hres
      clear hres hl
      go_wp2
      go_ret
      exact ⟨by rw [HR.out]; rfl, HB⟩
theorem outT_snoc (L : List Wt) (tx : Int) (k : Nat) (x : Wt) (hx : L[k]? = some x) : outT tx (L.take (k + 1)) = outT tx (L.take k) ++ (if ofTx tx x then [] else [x]) := by
  unfold outT
  rw [take_snocG L k x hx, List.filter_append]
  cases h : ofTx tx x <;> simp [h]
set_option maxHeartbeats 1000000 in
theorem rwithoutW_any (a : Option Addr) (len cap : Nat) (L : List Wt) (tx : Int) (w : World) (hl : Wts w a len L) (hn : len ≤ 1000) :
    Calls Try.prog 50 #[.slice a len cap, .int .i64 tx] w (OwnRet enWt 37 4 w (outT tx L)) := by
  have hll := hl.len
  have HLL := Lib.hid hll
  obtain ⟨i0, hi, hz0, hz1, hz2⟩ := info_parts Try.infoWt
  clear hll
  go_enter Try.func50, Try.ntmps50
  go_wp2
  go_loopw [5, 10] (fun v c wr => ∃ (k n : Nat), k ≤ len ∧ c = .int .i64 k ∧ n ≤ k ∧ Hid (n = (outT tx (L.take k)).length) ∧ wr.ownsRow w.heap.size 37 4 v n (flatV enWt (outT tx (L.take k))) ∧ Below w.heap.size w wr) (fun _ c _ => len - (intOf c).toNat)
  case atStart => exact ⟨0, 0, by omega, rfl, by omega, Lib.hid rfl, World.ownsRow_nil _ _ _ _, Below.refl _ _⟩
  case round =>
    obtain ⟨k, n, hk, rfl, hnk, HN, hown, HB⟩ := hrel
    by_cases hlt : k < len
    · obtain ⟨b, off, x, rfl, _, hx, _, d0, d1, d2, d3⟩ := Wt_at (hl.below HB) hlt
      have hO : Below wr.heap.size wr (wr.alloc (.cells #[.int .i64 x.tx, .int .i64 x.mode, .bool x.conv, .bool x.inst] 37)) := (Below.refl _ _).alloc (Nat.le_refl _) _
      have HB1 := bl_then HB (Nat.le_refl _) hO
      have hBx := Bk.new wr 37 #[.int .i64 x.tx, .int .i64 x.mode, .bool x.conv, .bool x.inst]
      have q0 := hBx.cell 0
      have q1 := hBx.cell 1
      have q2 := hBx.cell 2
      have q3 := hBx.cell 3
      have hs := outT_snoc L tx k x hx
      have hown1 := hown.alloc (.cells #[.int .i64 x.tx, .int .i64 x.mode, .bool x.conv, .bool x.inst] 37)
      clear hx hO hBx hl hown
      cases ht : (x.tx != tx) with
      | false =>
        have hi : ofTx tx x = true := by unfold ofTx; unfold bne at ht; simpa using ht
        rw [hi, if_pos rfl, List.append_nil] at hs
        rw [← hs] at hown1
        have HN' : Hid (n = (outT tx (L.take (k + 1))).length) := Lib.hid (by rw [hs]; exact HN.out)
        clear hs hi HN
        go_wp2
        go_roundw
        case rel => exact ⟨k + 1, n, by omega, by go_num, by omega, HN', hown1, HB1⟩
        case measure => simp [intOf]; omega
      | true =>
        have hi' : ofTx tx x = false := by unfold ofTx; unfold bne at ht; simpa using ht
        rw [hi', if_neg (by simp)] at hs
        have HS := Lib.hid hs
        have HN' : Hid (n + 1 = (outT tx (L.take (k + 1))).length) := Lib.hid (by rw [hs, List.length_append, ← HN.out]; rfl)
        clear hs hi' HN
        go_wp2_with (at_builtin; refine wpList_append_one enWt_len (by omega) enWt_one rfl _ _ 27 rfl w.heap.size 37 i0 _ 24 Try.underlying27 hi hz0 hz1 hz2 rfl _ n _ rfl hown1 x #[.int .i64 x.tx, .int .i64 x.mode, .bool x.conv, .bool x.inst] rfl 37 _ rfl (by simp) (by unfold maxLen; omega) (by omega) HB1 (by have := HB1.size; omega) ?_; intro v' w3 hown3 HB3 hk3; rw [← HS.out] at hown3)
        go_roundw
        case rel => exact ⟨k + 1, n + 1, by omega, by go_num, by omega, HN', hown3, HB3⟩
        case measure => simp [intOf]; omega
    · obtain rfl : k = len := by omega
      have hfull : L.take k = L := List.take_of_length_le (by rw [HLL.out]; exact Nat.le_refl _)
      rw [hfull] at hown HN
      have hret : ∀ v W, W.ownsRow w.heap.size 37 4 v n (flatV enWt (outT tx L)) → Below w.heap.size w W → OwnRet enWt 37 4 w (outT tx L) (.returned v) W := fun v W h hb => ⟨v, rfl, by rw [← HN.out]; exact h, hb⟩
      clear hl hfull
      go_wp2
      go_ret
      exact hret _ _ hown HB
set_option maxHeartbeats 1000000 in
theorem rplaceW_any (a : Option Addr) (len cap : Nat) (L : List Wt) (c : Bool) (w : World) (hl : Wts w a len L) (hn : len ≤ 1000) :
    Calls Try.prog 45 #[.slice a len cap, .bool c] w fun e w' => e = .returned (.int .i64 (placeT L c)) ∧ w = w' := by
  have hll := hl.len
  cases c with
  | false =>
    have e : placeT L false = len := hll
    rw [e]
    clear e hll hl
    go_enter Try.func45, Try.ntmps45
    go_wp2
    go_loopw [5] (fun v wr => v = .int .i64 len ∧ wr = w) (fun _ _ => 0)
    case atStart => exact ⟨rfl, rfl⟩
    case round =>
      obtain ⟨rfl, rfl⟩ := hrel
      by_cases h0 : len = 0
      · subst h0
        go_wp2
        go_ret
        exact ⟨rfl, rfl⟩
      · have g1 : (0 : Int) < len := by omega
        have g2 : 0 < len := by omega
        go_wp2
        go_ret
        exact ⟨rfl, rfl⟩
  | true =>
    have HLL := Lib.hid hll
    clear hll
    go_enter Try.func45, Try.ntmps45
    go_wp2
    go_loopw [5] (fun v wr => ∃ k : Nat, k ≤ len ∧ v = .int .i64 k ∧ Hid (lastC (L.take k) = placeT L true) ∧ wr = w) (fun v _ => (intOf v).toNat)
    case atStart => exact ⟨len, Nat.le_refl _, rfl, Lib.hid (by rw [List.take_of_length_le (by rw [HLL.out]; exact Nat.le_refl _)]; rfl), rfl⟩
    case round =>
      obtain ⟨k, hk, rfl, HK, rfl⟩ := hrel
      by_cases h0 : k = 0
      · subst h0
        have HE : Hid (placeT L true = 0) := Lib.hid (by rw [← HK.out]; rfl)
        clear hl
        go_wp2
        go_ret
        exact ⟨by rw [HE.out]; rfl, rfl⟩
      · obtain ⟨j, rfl⟩ : ∃ j, k = j + 1 := ⟨k - 1, by omega⟩
        obtain ⟨b, off, x, rfl, _, hx, _, d0, d1, d2, d3⟩ := Wt_at hl (show j < len by omega)
        have hst := lastC_snoc (L.take j) x
        rw [← take_snocG L j x hx, show (L.take j).length = j by rw [List.length_take, HLL.out]; omega] at hst
        have g1 : (0 : Int) < (j : Int) + 1 := by omega
        have g2 : (j : Int) < len := by omega
        have g3 : IntKind.i64.wrap ((j : Int) + 1 - 1) = (j : Int) := by rw [IntKind.wrap_i64] <;> omega
        cases hc : x.conv with
        | true =>
          rw [hc, if_pos rfl, HK.out] at hst
          rw [hc] at d2
          have HST := Lib.hid hst
          clear hst hx hl
          go_wp2
          go_ret
          exact ⟨by rw [HST.out]; go_num, rfl⟩
        | false =>
          rw [hc, if_neg (by simp), HK.out] at hst
          rw [hc] at d2
          have HST := Lib.hid hst
          clear hst hx hl
          go_wp2
          go_roundw
          case rel => exact ⟨j, by omega, by go_num, Lib.hid HST.out.symm, (by first | rfl | trivial)⟩
          case measure => simp [intOf]
end Go.Proofs.Ytdkbfmffnamdbaa
