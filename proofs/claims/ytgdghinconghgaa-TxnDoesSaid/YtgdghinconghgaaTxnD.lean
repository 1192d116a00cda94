/- The contracts of package txn, together; Live, Word, the example. No condition. -/
import Derived.Test.YtgdghinconghgaaTxnC
set_option linter.unusedVariables false
set_option linter.unusedSimpArgs false
namespace Go.Proofs.Ytgdghinconghgaa
open Go.RowKit (wrap32 wrap64)
open Go.RowKit
def txAt (L : List Tx) (id : Int) : Option Tx := if 1 ≤ id ∧ id < L.length then L[id.toNat]? else none
theorem txAt_yes (L : List Tx) (k : Nat) (h1 : 1 ≤ k) (h2 : k < L.length) : txAt L k = some L[k] := by
  unfold txAt; rw [if_pos (by omega)]; simp [h2]
theorem txAt_no (L : List Tx) (id : Int) (h : ¬ (1 ≤ id ∧ id < L.length)) : txAt L id = none := if_neg h
def trnE (L : List Tx) (id st why : Int) : Int := match txAt L id with
  | none => 2
  | some x => if mayT x.state st = false then 50 else if st = 2 ∧ why = 0 then 1 else 0
def trnL (L : List Tx) (id st why : Int) : List Tx := match txAt L id with
  | none => L
  | some x => if mayT x.state st = false then L else if st = 2 ∧ why = 0 then L else L.set id.toNat (nextT x st why)
theorem trnL_len (L : List Tx) (id st why : Int) : (trnL L id st why).length = L.length := by
  unfold trnL
  split
  · rfl
  · repeat' split
    all_goals first | rfl | simp
theorem tturn_any (g h cap : Nat) (L : List Tx) (id st why : Int) (w : World) (hb : Book w g h cap L) (h0 : 1 ≤ L.length) (h2 : L.length ≤ 4097) :
    Calls Try.prog 36 #[.pointer (some ⟨g, 0, none⟩), .int .i64 id, .int .i64 st, .int .i64 why] w (TurnRet g h cap (trnE L id st why) (trnL L id st why) w) := by
  by_cases hi : 1 ≤ id ∧ id < L.length
  · obtain ⟨k, rfl⟩ : ∃ k : Nat, id = k := ⟨id.toNat, by omega⟩
    have hk : k < L.length := by omega
    have e := txAt_yes L k (by omega) hk
    have hx : L[k]? = some L[k] := List.getElem?_eq_getElem hk
    unfold trnE trnL
    rw [e]
    generalize L[k] = x at hx e
    dsimp only
    cases hm : mayT x.state st with
    | false => rw [if_pos rfl, if_pos rfl]; exact tturn_state g h cap L k x st why w hb (by omega) hx h2 hm
    | true =>
      have ht : ¬ (true = false) := by decide
      rw [if_neg ht, if_neg ht]
      by_cases ha : st = 2 ∧ why = 0
      · rw [if_pos ha, if_pos ha]
        obtain ⟨rfl, rfl⟩ := ha
        exact tturn_arg g h cap L k x w hb (by omega) hx h2 hm
      · rw [if_neg ha, if_neg ha]
        exact tturn_ok g h cap L k x st why w hb (by omega) hx h2 hm ha
  · unfold trnE trnL
    rw [txAt_no L id hi]
    exact tturn_none g h cap L id st why w hb h0 hi h2
theorem tget_any (g h cap : Nat) (L : List Tx) (id : Int) (w : World) (hb : Book w g h cap L) (h0 : 1 ≤ L.length) (h2 : L.length ≤ 4097) :
    Calls Try.prog 38 #[.pointer (some ⟨g, 0, none⟩), .int .i64 id] w (GetRet ((txAt L id).getD txZero) (txAt L id).isSome w) := by
  by_cases hi : 1 ≤ id ∧ id < L.length
  · obtain ⟨k, rfl⟩ : ∃ k : Nat, id = k := ⟨id.toNat, by omega⟩
    have hk : k < L.length := by omega
    rw [txAt_yes L k (by omega) hk]
    exact tget_yes g h cap L k _ w hb (by omega) (List.getElem?_eq_getElem hk) h2
  · rw [txAt_no L id hi]
    exact tget_no g h cap L id w hb h0 hi h2
/-! ### Live -/
def aliveT (L : List Tx) (k : Nat) : Bool := match L[k]? with
  | some x => !(x.state == 5) && !(x.state == 6)
  | none => false
def liveTo (L : List Tx) : Nat → List Int
  | 0 => []
  | k + 1 => if 1 ≤ k ∧ aliveT L k = true then liveTo L k ++ [(k : Int)] else liveTo L k
theorem liveTo_le (L : List Tx) (k : Nat) : (liveTo L k).length ≤ k := by
  induction k with
  | zero => simp [liveTo]
  | succ k ih =>
    unfold liveTo
    split
    · rw [List.length_append]; simp; omega
    · omega
theorem Try.infoI : (Try.prog.info? 3).map (fun i => (i.zero, i.size, i.bytes)) = some (some (.int .i64 0), 1, 8) := by kernel_rfl
def OwnRet (w : World) (M : Nat) (xs : List Int) (e : Ending) (w' : World) : Prop := ∃ v, e = .returned v ∧ w'.ownsRow w.heap.size 3 1 v M (xs.map (Value.int .i64)) ∧ Below w.heap.size w w'
theorem Book.below {w w1 : World} {g h cap : Nat} {L : List Tx} (hb : Book w g h cap L) (b : Below w.heap.size w w1) : Book w1 g h cap L := Tab.keep hb (Keep.of_below b (fun _ => False)) (fun h => h) (fun h => h)
set_option maxRecDepth 100000 in
set_option maxHeartbeats 2000000 in
theorem tlive_any (g h cap : Nat) (L : List Tx) (w : World) (hb : Book w g h cap L) (h0 : 1 ≤ L.length) (h2 : L.length ≤ 1000) :
    Calls Try.prog 37 #[.pointer (some ⟨g, 0, none⟩)] w (OwnRet w (liveTo L L.length).length (liveTo L L.length)) := by
  obtain ⟨i0, hi, hz0, hz1, hz2⟩ := info_parts Try.infoI
  obtain ⟨m, hm⟩ : ∃ m, L.length = m + 1 := ⟨L.length - 1, by omega⟩
  have HM := Lib.hid hm
  have hml : m ≤ 999 := by omega
  clear hm h0 h2
  go_enter Try.func37, Try.ntmps37
  go_wp2
  go_loopw [3, 4] (fun o c wr => ∃ k : Nat, 1 ≤ k ∧ k ≤ m + 1 ∧ c = .int .i64 k ∧ wr.ownsRow w.heap.size 3 1 o (liveTo L k).length ((liveTo L k).map (Value.int .i64)) ∧ Below w.heap.size w wr) (fun _ c _ => m + 1 - (intOf c).toNat)
  case atStart => exact ⟨1, by omega, by omega, rfl, World.ownsRow_nil _ _ _ _, Below.refl _ _⟩
  case round =>
    obtain ⟨k, h1, hk, rfl, hown, HB⟩ := hrel
    have hbw := hb.below HB
    have hc := hbw.cell
    rw [HM.out] at hc
    by_cases hlt : k ≤ m
    · have hkl : k < L.length := by rw [HM.out]; omega
      have hx : L[k]? = some L[k] := List.getElem?_eq_getElem hkl
      have hal : aliveT L k = (!(L[k].state == 5) && !(L[k].state == 6)) := by unfold aliveT; rw [hx]
      have hst : liveTo L (k + 1) = if aliveT L k = true then liveTo L k ++ [(k : Int)] else liveTo L k := by
        show (if 1 ≤ k ∧ aliveT L k = true then _ else _) = _
        simp [h1]
      have hle := liveTo_le L k
      obtain ⟨⟨d0, d1, d2, d3⟩, _⟩ := tx_cells hbw k _ hx
      generalize L[k] = x at d0 d1 d2 d3 hal hx
      rw [hal] at hst
      have HST := Lib.hid hst
      clear hst hx hal hkl d0 d1 d3
      have hbs := HB.size
      by_cases e5 : x.state = 5
      · rw [e5] at d2
        have hs : liveTo L (k + 1) = liveTo L k := by rw [HST.out, e5]; rfl
        have HS := Lib.hid hs
        clear hs
        go_wp2_with (first | (go_at_call 34; refine (tlen_yes _ _ _ _ _ hc (by omega)).mono ?_; rintro e w' ⟨rfl, rfl⟩))
        go_roundw
        case rel => exact ⟨k + 1, by omega, by omega, by go_num, by rw [HS.out]; exact hown, HB⟩
        case measure => simp [intOf]; omega
      · have n5 : (x.state == 5) = false := beq_eq_false_iff_ne.2 e5
        by_cases e6 : x.state = 6
        · rw [e6] at d2
          have hs : liveTo L (k + 1) = liveTo L k := by rw [HST.out, e6]; rfl
          have HS := Lib.hid hs
          clear hs n5
          go_wp2_with (first | (go_at_call 34; refine (tlen_yes _ _ _ _ _ hc (by omega)).mono ?_; rintro e w' ⟨rfl, rfl⟩))
          go_roundw
          case rel => exact ⟨k + 1, by omega, by omega, by go_num, by rw [HS.out]; exact hown, HB⟩
          case measure => simp [intOf]; omega
        · have n6 : (x.state == 6) = false := beq_eq_false_iff_ne.2 e6
          have hs : liveTo L (k + 1) = liveTo L k ++ [(k : Int)] := by rw [HST.out, n5, n6]; rfl
          have HS := Lib.hid hs
          clear hs
          go_wp2_with (first
            | (go_at_call 34; refine (tlen_yes _ _ _ _ _ hc (by omega)).mono ?_; rintro e w' ⟨rfl, rfl⟩)
            | (at_builtin; refine wpList_append_own _ rfl _ _ 54 rfl w.heap.size 3 i0 (.int .i64 0) 1 8 Try.underlying54 hi hz0 hz1 hz2 rfl (by decide) _ _ _ rfl (hown.alloc _) ⟨wr.heap.size, 0, none⟩ 1 1 [.int .i64 k] rfl rfl (cell_one_new _ _ _) (by simp [Value.oneCell']) (by unfold maxLen; omega) (by omega) (by simp; omega) ?_; intro v' w2 hown' hgr' _))
          all_goals try (exfalso; omega)
          all_goals try (exfalso; simp_all; done)
          go_roundw
          case rel => exact ⟨k + 1, by omega, by omega, by go_num, by rw [HS.out, List.length_append, List.map_append]; exact hown', (HB.alloc hbs _).grown hgr' (by simp; omega) (fun k h => ((hown.lt k h).1))⟩
          case measure => simp [intOf]; omega
    · obtain rfl : k = m + 1 := by omega
      have HO := Lib.hid hown
      clear hown
      go_wp2_with (first | (go_at_call 34; refine (tlen_yes _ _ _ _ _ hc (by omega)).mono ?_; rintro e w' ⟨rfl, rfl⟩))
      go_ret
      exact ⟨_, rfl, by rw [HM.out]; exact HO.out, HB⟩
/-! ### Word -/
def wordB (a : Int) : ByteArray := if a = 1 then ⟨#[97, 99, 116, 105, 118, 101]⟩ else if a = 2 then ⟨#[100, 111, 111, 109, 101, 100]⟩ else if a = 3 then ⟨#[99, 108, 111, 115, 105, 110, 103]⟩ else if a = 4 then ⟨#[117, 110, 100, 111, 105, 110, 103]⟩ else if a = 5 then ⟨#[100, 111, 110, 101]⟩ else if a = 6 then ⟨#[103, 111, 110, 101]⟩ else ⟨#[]⟩
set_option maxRecDepth 100000 in
set_option maxHeartbeats 2000000 in
theorem tword_any (a : Int) (w : World) : Calls Try.prog 66 #[.int .i64 a] w fun e w' => e = .returned (.string (wordB a)) ∧ Below w.heap.size w w' := by
  by_cases hn : a < 0
  · have hw : wordB a = ⟨#[]⟩ := by unfold wordB; repeat' rw [if_neg (by omega)]
    rw [hw]
    clear hw
    go_enter Try.func66, Try.ntmps66
    go_wp2
    go_ret
    exact ⟨rfl, (Below.refl _ _).alloc (Nat.le_refl _) _⟩
  · by_cases hp : 7 ≤ a
    · have hw : wordB a = ⟨#[]⟩ := by unfold wordB; repeat' rw [if_neg (by omega)]
      rw [hw]
      clear hw
      go_enter Try.func66, Try.ntmps66
      go_wp2
      go_ret
      exact ⟨rfl, (Below.refl _ _).alloc (Nat.le_refl _) _⟩
    · have : a = 0 ∨ a = 1 ∨ a = 2 ∨ a = 3 ∨ a = 4 ∨ a = 5 ∨ a = 6 := by omega
      clear hn hp
      rcases this with rfl | rfl | rfl | rfl | rfl | rfl | rfl
      all_goals
        go_enter Try.func66, Try.ntmps66
        go_wp2
        go_ret
        exact ⟨rfl, (Below.refl _ _).alloc (Nat.le_refl _) _⟩
set_option maxRecDepth 100000 in
set_option maxHeartbeats 2000000 in
theorem awake22 (w : World) : Calls Try.prog 32 #[] w fun e w' => e = .returned (.bool true) ∧ Below w.heap.size w w' := by
  have hE : trnE ([⟨0, 0, 0, 0⟩] ++ [(⟨1, 7, 1, 0⟩ : Tx)]) 1 5 0 = 50 := by decide
  have hW : wordB 6 = ⟨#[103, 111, 110, 101]⟩ := by decide
  go_enter Try.func32, Try.ntmps32
  go_wp2_with fail
  refine (tnew_any _).mono ?_
  rintro e w1 ⟨g, h, rfl, hb1, hg, hh, bel1⟩
  go_wp2_with fail
  refine (tbegin_any _ _ _ _ _ _ hb1 (by simp) (by simp)).mono ?_
  rintro e w2 ⟨h2, cap2, rfl, hb2, k2, hh2⟩
  have bel2 := bel1.trans (k2.below bel1.size (fun i hi => by rcases hi with rfl | rfl <;> omega))
  have hs1 := bel1.size
  clear k2 bel1 hb1
  go_wp2_with fail
  refine (tturn_any _ _ _ _ _ _ _ _ hb2 (by simp) (by simp)).mono ?_
  rintro e w3 ⟨rfl, hb3, k3⟩
  have bel3 := bel2.trans (k3.below bel2.size (fun i hi => by subst hi; omega))
  have hE' : trnE ([⟨0, 0, 0, 0⟩] ++ [(⟨((([⟨0, 0, 0, 0⟩] : List Tx).length : Nat) : Int), 7, 1, 0⟩ : Tx)]) 1 5 0 = 50 := hE
  rw [hE']
  go_wp2_with fail
  refine (tword_any _ _).mono ?_
  rintro e w4 ⟨rfl, b4⟩
  have bel4 := bl_then bel3 (Nat.le_refl _) b4
  rw [hW]
  go_wp2
  go_ret
  exact ⟨rfl, bel4⟩
end Go.Proofs.Ytgdghinconghgaa
