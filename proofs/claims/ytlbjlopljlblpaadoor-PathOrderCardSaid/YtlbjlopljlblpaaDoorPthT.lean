/- Nodes: Text, by the program and by the reference. Condition: the library's table of powers of ten reads as the program lays it. -/
import Derived.Test.YtlbjlopljlblpaaDoorPthK
import Derived.Test.YtlbjlopljlblpaaDoorShelf
import Derived.Lib.AppendIntMem
set_option linter.unusedVariables false
set_option linter.unusedSimpArgs false
namespace Go.Proofs.YtlbjlopljlblpaaDoor
open Go.RowKit (wrap32 wrap64)
open Go.RowKit Go.Shelf
def enSt (s : ByteArray) : List Value := [.string s]
theorem enSt_len (x : ByteArray) : (enSt x).length = 1 := rfl
theorem enSt_one : ∀ x, ∀ u ∈ enSt x, u.oneCell' = true := by
  intro x u hu
  rw [enSt, List.mem_singleton] at hu
  subst hu; rfl
theorem Tryd.infoSt : (Tryd.prog.info? 9).map (fun i => (i.zero, i.size, i.bytes)) = some (some (.string ⟨#[]⟩), 1, 16) := by kernel_rfl
abbrev bsOf (l : List UInt8) : ByteArray := ⟨l.toArray⟩
theorem bs_list (l : List UInt8) : (bsOf l).data.toList = l := by simp [bsOf]
theorem bs_append (a b : List UInt8) : bsOf a ++ bsOf b = bsOf (a ++ b) := by
  apply ByteArray.ext
  simp [bsOf, ByteArray.data_append]
def digs (p : Pt) (i : Nat) : List UInt8 := Lib.decDigits (num p i).toNat
/-- The first k numbers' text. -/
def preT (p : Pt) (k : Nat) : List UInt8 := Lib.join ((List.range k).map (digs p)) [46]
def textP (p : Pt) : List UInt8 := if mayP p then preT p (depN p) else []
def Tab10 (w : World) : Prop := Lib.TabIs Tryd.prog w "internal/strconv.uint64pow10" .u64 Lib.pow10Tab
theorem tab10_of {rest : List (String × DataW Unit)} {W : World} (h : laidMet Tryd.prog (("internal/strconv.uint64pow10", Lib.tabData .u64 Lib.pow10Tab) :: rest) W) : Tab10 W :=
  Lib.tabIs_of_head (g := 0) (t := 76) (e := 27) (by kernel_rfl) (by kernel_rfl) Tryd.underlying76 Tryd.underlying27 (by kernel_rfl) (by kernel_rfl) h
theorem tab_below {w : World} (h : Tab10 w) : ∀ W, Below w.heap.size w W → Tab10 W := fun W hb => Lib.tabBelow_of_tabIs h W hb
theorem grow_below' {w w' : World} {k : Nat} {os : Array Obj} (h : w' = Sort.grow (w.drewN k) os) : Below w.heap.size w w' := by
  subst h
  exact ⟨rfl, rfl, rfl, by simp [Sort.grow, World.drewN], fun k hk => by simp [Sort.grow, World.drewN, Array.getElem?_append, hk]⟩
theorem itoa_nat (x : Int) (h : 0 ≤ x) : Lib.itoa x = Lib.decDigits x.toNat := by
  unfold Lib.itoa
  rw [if_neg (by omega)]
theorem small_dec (n : Nat) (h : n < 1000) : (Lib.decDigits n).length ≤ 3 := by
  rw [Lib.decDigits_length]
  by_cases h1 : n < 10
  · rw [Lib.nDigits_small h1]; omega
  · rw [Lib.nDigits_big h1]
    by_cases h2 : n / 10 < 10
    · rw [Lib.nDigits_small h2]; omega
    · rw [Lib.nDigits_big h2, Lib.nDigits_small (by omega)]; omega
theorem digs_len (p : Pt) (h : mayP p = true) (k : Nat) (hk : k < 4) : (digs p k).length ≤ 3 := by
  have := mayP_num p h k hk
  exact small_dec _ (by omega)
theorem preT_zero (p : Pt) : preT p 0 = [] := rfl
theorem preT_one (p : Pt) : preT p 1 = digs p 0 := Lib.join_one _ _
theorem preT_cons (p : Pt) (m : Nat) : preT p (m + 1) = digs p 0 ++ Lib.joinTail [46] ((List.range m).map (fun i => digs p (i + 1))) := by
  unfold preT
  rw [List.range_succ_eq_map, List.map_cons, Lib.join_cons, List.map_map]
  rfl
theorem preT_succ (p : Pt) (k : Nat) (hk : 0 < k) : preT p (k + 1) = preT p k ++ [46] ++ digs p k := by
  obtain ⟨k, rfl⟩ : ∃ j, k = j + 1 := ⟨k - 1, by omega⟩
  rw [preT_cons, preT_cons]
  have := Lib.joinTail_take_succ [46] ((List.range (k + 1)).map (fun i => digs p (i + 1))) k (digs p (k + 1)) (by simp)
  rw [List.take_of_length_le (by simp)] at this
  rw [this, List.range_succ, List.map_append, List.take_left' (by simp)]
  simp
theorem preT_len (p : Pt) (h : mayP p = true) : ∀ k, k ≤ 4 → (preT p k).length ≤ 4 * k
  | 0, _ => by rw [preT_zero]; simp
  | 1, _ => by rw [preT_one]; have := digs_len p h 0 (by omega); omega
  | k + 2, hk => by
    have ih := preT_len p h (k + 1) (by omega)
    have hd := digs_len p h (k + 1) (by omega)
    rw [preT_succ p (k + 1) (by omega)]
    simp only [List.length_append, List.length_cons, List.length_nil]
    omega
theorem join_row (g c n : Nat) (L : List ByteArray) (sep : ByteArray) (r : List UInt8) (w : World) (hn : L.length = n) (hr : RowAt enSt 9 1 w g c L) (hl : n ≤ 4) (hj : Lib.join (L.map (·.data.toList)) sep.data.toList = r) (hrl : r.length ≤ 1000) (hc : n ≤ c) :
    Calls Tryd.prog 33 #[.slice (some ⟨g, 0, none⟩) n c, .string sep] w fun e w' => e = .returned (.string (bsOf r)) ∧ Below w.heap.size w w' := by
  subst hn; subst hj
  exact Tryd.strings_Join g 0 c L sep w (fun j x hx => by have := hr.cell enSt_len hx 0 (by omega); simpa [enSt] using this) hr.lt (by omega) hc (by omega)
set_option maxRecDepth 100000 in
set_option maxHeartbeats 1000000 in
theorem ptext_any (p : Pt) (w : World) (ht : Tab10 w) : Calls Tryd.prog 12 #[.agg (ptA p)] w fun e w' => e = .returned (.string (bsOf (textP p))) ∧ Below w.heap.size w w' := by
  have hO : Below w.heap.size w (w.alloc (.cells (ptA p) 24)) := (Below.refl _ _).alloc (Nat.le_refl _) _
  have hb := Bk.new w 24 (ptA p)
  have c0 := hb.cell 0
  have c1 := hb.cell 1
  have c2 := hb.cell 2
  have c3 := hb.cell 3
  have c4 := hb.cell 4
  have hm := fun W => pmay_any p W
  unfold textP
  cases hmp : mayP p with
  | false =>
    rw [hmp] at hm
    have HM := Lib.hid hm
    clear hm hmp hb ht
    go_enter Tryd.func12, Tryd.ntmps12
    go_wp2_with (go_at_call 9; refine (HM.out _).mono ?_; rintro e w1 ⟨rfl, hb1⟩)
    go_ret
    exact ⟨rfl, bl_then hO (Nat.le_refl _) hb1⟩
  | true =>
    rw [hmp] at hm
    rw [if_pos rfl]
    obtain ⟨D, hD, hD1, hD4⟩ := mayP_dep p hmp
    have hdp : depN p = D := by unfold depN; omega
    rw [hdp]
    have hnum := mayP_num p hmp
    have hlen := preT_len p hmp D hD4
    have HT := Lib.hid (tab_below ht)
    have HM := Lib.hid hm
    have HNUM := Lib.hid hnum
    have HLEN := Lib.hid hlen
    have hnm := fun k h => ptA_num p k h
    obtain ⟨i0, hi, hz0, hz1, hz2⟩ := info_parts Tryd.infoSt
    obtain ⟨x0, x1, x2, x3, x4⟩ := p
    dsimp only at hD
    subst hD
    have q1 : (D : Int) ≤ 4 := by omega
    clear hm hmp hnum hdp hlen ht
    go_enter Tryd.func12, Tryd.ntmps12
    go_wp2_with (go_at_call 9; refine (HM.out _).mono ?_; rintro e w1 ⟨rfl, hb1⟩; have k1 := hb.below hb1; have e4 := k1.cell 4; clear c0 c1 c2 c3 c4)
    have HB := bl_then hO (Nat.le_refl _) hb1
    clear hO hb1 hb e4
    go_loopw [3, 5, 14] (fun v _ c wr => ∃ k : Nat, k ≤ D ∧ c = .int .i64 k ∧ wr.ownsRow (w.heap.size + 1) 9 1 v k (flatV enSt ((List.range k).map (fun i => bsOf (digs ⟨x0, x1, x2, x3, D⟩ i)))) ∧ Bk wr w.heap.size 24 (ptA ⟨x0, x1, x2, x3, D⟩) ∧ Below w.heap.size w wr) (fun _ _ c _ => D - (intOf c).toNat)
    case atStart => exact ⟨0, by omega, rfl, World.ownsRow_nil _ _ _ _, k1, HB⟩
    case round =>
      clear k1 HB
      obtain ⟨k, hk, rfl, hown, hbk, HB⟩ := hrel
      have hwl := hbk.lt
      by_cases hlt : k < D
      · have hn := HNUM.out k (by omega)
        have g1 := hbk.cell k
        rw [hnm k (by omega)] at g1
        have hit := itoa_nat _ hn.1
        have hs : (List.range (k + 1)).map (fun i => bsOf (digs ⟨x0, x1, x2, x3, D⟩ i)) = (List.range k).map (fun i => bsOf (digs ⟨x0, x1, x2, x3, D⟩ i)) ++ [bsOf (Lib.itoa (num ⟨x0, x1, x2, x3, D⟩ k))] := by
          rw [hit, List.range_succ, List.map_append]; rfl
        have hca := Tryd.strconv_Itoa (num ⟨x0, x1, x2, x3, D⟩ k) (by omega) (by omega)
        generalize num ⟨x0, x1, x2, x3, (D : Int)⟩ k = x at g1 hs hn hca
        have HS := Lib.hid hs
        have HCA := Lib.hid hca
        clear hs hca hn hit
        go_wp2_with (first
          | (go_at_call 32; refine (HCA.out _ (HT.out _ HB)).mono ?_; rintro e w4 ⟨rfl, kk, os, hw4⟩; have hb4 := grow_below' hw4; have hown4 := own_below hown hb4; have hbk4 := hbk.below hb4; have HB4 := bl_then HB (Nat.le_refl _) hb4; have hsz4 := hb4.size; clear hw4 g1)
          | (at_builtin; refine wpList_append_one enSt_len (by omega) enSt_one rfl _ _ 50 rfl (w.heap.size + 1) 9 i0 _ 16 Tryd.underlying50 hi hz0 hz1 hz2 rfl _ k _ rfl hown4 (bsOf (Lib.itoa x)) #[.string (bsOf (Lib.itoa x))] rfl 9 _ rfl rfl (by unfold maxLen; omega) (by omega) (Below.refl _ _) (by omega) ?_; intro v' w5 hown5 HB5 hk5; rw [← HS.out] at hown5))
        have hbk5 := hk5.bk hbk4 (fun hh => by have := (hown4.lt _ hh).1; omega)
        have HB6 := HB4.trans (HB5.mono (by have := HB4.size; omega))
        go_roundw
        case rel => exact ⟨k + 1, by omega, by go_num, hown5, hbk5, HB6⟩
        case measure => simp [intOf]; omega
      · obtain rfl : k = D := by omega
        have hlen2 : ((List.range k).map (fun i => bsOf (digs ⟨x0, x1, x2, x3, k⟩ i))).length = k := by simp
        have hj : Lib.join (((List.range k).map (fun i => bsOf (digs ⟨x0, x1, x2, x3, k⟩ i))).map (·.data.toList)) [46] = preT ⟨x0, x1, x2, x3, k⟩ k := by
          unfold preT
          rw [List.map_map]
          congr 1
        have hor := hown
        obtain ⟨A, c, rfl⟩ := own_slice hown
        obtain ⟨hkc, _, _⟩ := own_caps hown
        rcases hor.2 with ⟨_, hz⟩ | ⟨g, c', cur, hv, hbb, _⟩
        · omega
        · cases hv
          obtain ⟨hrow, _⟩ := RowAt.of hor hlen2.symm
          have hcall := join_row g c k _ ⟨#[46]⟩ _ wr hlen2 hrow (by omega) hj (by have := HLEN.out; omega) hkc
          have HC := Lib.hid hcall
          clear hcall hrow hbb hor hown hj hlen2 hbk
          go_wp2_with (go_at_call 33; refine HC.out.mono ?_; rintro e w6 ⟨rfl, hb6⟩)
          go_ret
          exact ⟨rfl, bl_then HB (Nat.le_refl _) hb6⟩
end Go.Proofs.YtlbjlopljlblpaaDoor
