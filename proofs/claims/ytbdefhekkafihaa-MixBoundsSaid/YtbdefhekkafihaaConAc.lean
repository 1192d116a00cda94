/- slices.Concat of rows of api.Op. No condition. -/
import Derived.Test.YtbdefhekkafihaaRecAc
import Derived.Test.YtbdefhekkafihaaSls
import Derived.Test.YtbdefhekkafihaaIns
import Derived.Test.YtbdefhekkafihaaAppR
import Derived.Lib.AppendZerosOnto
set_option linter.unusedVariables false
set_option linter.unusedSimpArgs false
namespace Go.Proofs.Ytbdefhekkafihaa
open Go.RowKit (wrap32 wrap64)
open Go.RowKit
theorem wpList_append_rowsAc {P : Program} {w : World} {ops : Array Oper} {rest : List Oper} {o : Oper} {a : Act} {Q : Exit → Act → World → Prop} (hgd : o.guard = none) (sl x : Operand) (t : TypeId)
    (ho : o.op = .call { callee := .builtin .append, args := #[sl, x], argTypes := #[t, t] })
    (base : Nat) (e : TypeId) (i : TypeInfo) (z : Value) (ht : P.underlying t = some (.slice e)) (hi : P.info? e = some i) (hz : i.zero = some z) (hsize : i.size = 7) (hby : i.bytes = 56) (hzs : z.cells.size = 7)
    (v : Value) (n : Nat) (L : List Ac) (hs : a.eval sl = v) (hown : w.ownsRow base e 7 v n (flatV enAc L))
    (xo : Option Addr) (m c : Nat) (M : List Ac) (hx : a.eval x = .slice xo m c) (hM : SR enAc okAc 7 w xo m M)
    (h63 : n + m ≤ maxLen) (hbytes : (n + m) * 56 ≤ 140737488355328) (hbase : base ≤ w.heap.size)
    (h : ∀ v' w', w'.ownsRow base e 7 v' (n + m) (flatV enAc (L ++ M)) → Keep (fun k => v.ownBlock = some k) w w' → wpList P ops Q rest (a.put o.dst v') w') : wpList P ops Q (o :: rest) a w := by
  by_cases hm : m = 0
  · subst hm
    have hM0 : M = [] := List.eq_nil_of_length_eq_zero hM.len
    subst hM0
    obtain ⟨A, cc, rfl⟩ := own_slice hown
    have hc := own_caps hown
    have hsrc : Src P i.size t (.slice xo 0 c) 0 [] w := by
      cases xo with
      | none => exact Src.ofNil w ht c
      | some b => exact Src.ofSlice w ht b 0 c [] (by simp) (by simp) (by simp)
    have hr := run_append_nothing (P := P) w t t o.type e i ht hi A n cc hc.1 (.slice xo 0 c) hsrc
    refine wpList_plain hgd fun K hK' => ?_
    unfold Oper.wp
    simp [execOp, ho, resolve, invoke, builtin, hs, hx, hr, Result.andThen]
    exact hK' _ _ (h _ _ (by rw [List.append_nil]; exact hown) (Keep.refl _ _))
  · obtain ⟨b, off, rfl, _, hcell⟩ := hM.row (by omega)
    have hfl : (flatV enAc M).length = m * 7 := by rw [flatV_len enAc_len, hM.len]
    refine wpList_append_own _ hgd sl x t ho base e i z 7 56 ht hi hz hsize hby hzs (by omega) v n _ hs hown ⟨b, off, none⟩ m c (flatV enAc M) hx hfl (fun j u hu => ?_) (flatV_one enAc_one M) h63 hbytes hbase ?_
    · have hj : j < m * 7 := by rw [← hfl]; exact (List.getElem?_eq_some_iff.1 hu).1
      have hadd : (⟨b, off, none⟩ : Addr).add j = ⟨b, off + j, none⟩ := by unfold Addr.add; split <;> simp_all
      rw [hadd, hcell j hj, hu]
    · intro v' w' h2 h3 _
      rw [← flatV_append] at h2
      exact h v' w' h2 (grown_keep h3 _ (fun k hk => hk))
theorem wpList_append_runAc {P : Program} {w w' : World} {ops : Array Oper} {rest : List Oper} {o : Oper} {a : Act} {Q : Exit → Act → World → Prop} (hgd : o.guard = none) (sl x : Operand) (t t2 : TypeId)
    (ho : o.op = .call { callee := .builtin .append, args := #[sl, x], argTypes := #[t, t2] }) (v1 v2 : Value) (hs : a.eval sl = v1) (hx : a.eval x = v2) (v' : Value) (hr : ∀ ty, (Builtin.append_ #[t, t2] ty #[v1, v2]).run P w = .ok v' w')
    (h : wpList P ops Q rest (a.put o.dst v') w') : wpList P ops Q (o :: rest) a w := by
  refine wpList_plain hgd fun K hK' => ?_
  unfold Oper.wp
  simp [execOp, ho, resolve, invoke, builtin, hs, hx, hr, Result.andThen]
  exact hK' _ _ h
def GrowRetAc (w : World) (e : Ending) (w' : World) : Prop := ∃ A c, e = .returned (.slice A 0 c) ∧ w'.ownsRow w.heap.size 52 7 (.slice A 0 c) 0 (flatV enAc []) ∧ Below w.heap.size w w'
set_option maxRecDepth 100000 in
set_option maxHeartbeats 4000000 in
theorem growAc_nil (k : Nat) (hk : k ≤ 100000) (w : World) : Calls Try.prog 41 #[.slice none 0 0, .int .i64 (k : Int)] w (GrowRetAc w) := by
  by_cases h0 : k = 0
  · subst h0
    have HR : Hid (GrowRetAc w (.returned (.slice none 0 0)) w) := Lib.hid ⟨none, 0, rfl, World.ownsRow_nil _ _ _ _, Below.refl _ _⟩
    go_enter Try.func41, Try.ntmps41
    go_wp2_with fail
    go_ret
    exact HR.out
  · obtain ⟨i0, hi0, hz0, hzs, hzb⟩ := info_parts Try.infoAc
    have hold : (Builtin.firstCells i0.size 0 (.slice none 0 0)).run Try.prog w.drew = .ok ([] : List Value).toArray w.drew := by rw [hzs]; rfl
    have hrz := fun ty => Lib.run_append_grow_zeros w 35 3 ty 52 i0 _ .i64 .i64 Try.underlying35 Try.underlying3 hi0 hz0 none 0 0 [] hold k (by omega) (by omega) (by omega) (by omega) (by rw [hzb]; omega) (by rw [hzb, Nat.zero_add]; exact growslice_fits (by omega) (by omega))
    simp only [Nat.zero_add] at hrz
    have hGn : k ≤ grownCap w k 0 52 := grownCap_ge w _ _ _
    have hGm : grownCap w k 0 52 ≤ maxLen := grownCap_le_maxLen w k 0 52 (by unfold maxLen; omega)
    generalize grownCap w k 0 52 = G at hrz hGn hGm
    obtain ⟨ROW, hROW⟩ : ∃ R, R = ([] : List Value).toArray ++ Builtin.zeroCells (Value.cells (.agg #[.int .i64 0, .int .i64 0, .int .i64 0, .int .i64 0, .int .i64 0, .int .i64 0, .int .i64 0])) k ++ Builtin.zeroCells (Value.cells (.agg #[.int .i64 0, .int .i64 0, .int .i64 0, .int .i64 0, .int .i64 0, .int .i64 0, .int .i64 0])) (G - k) := ⟨_, rfl⟩
    have hsz : ROW.size = G * 7 := by
      have hz1 := fun n => zeroCells_flat enAc_len (by omega) (Value.cells (.agg #[.int .i64 0, .int .i64 0, .int .i64 0, .int .i64 0, .int .i64 0, .int .i64 0, .int .i64 0])) ⟨0, 0, 0, 0, 0, 0, 0⟩ rfl n
      have q2 : ∀ k, (flatV enAc (List.replicate k (⟨0, 0, 0, 0, 0, 0, 0⟩ : Ac))).length = k * 7 := fun k => by rw [flatV_len enAc_len, List.length_replicate]
      rw [hROW, ← Array.length_toList, Array.toList_append, Array.toList_append, hz1, hz1, List.length_append, List.length_append, q2, q2]
      simp
      omega
    have hr1 : ∀ ty, (Builtin.append_ #[35, 3] ty #[.slice none 0 0, .int .i64 (k : Int)]).run Try.prog w = .ok (.slice (some ⟨w.heap.size, 0, none⟩) k G) (w.drew.alloc (.cells ROW 52)) := fun ty => by rw [hROW]; exact hrz ty
    have hcm : G ≤ 9223372036854775807 := by unfold maxLen at hGm; exact hGm
    have HR : Hid (GrowRetAc w (.returned (.slice (some ⟨w.heap.size, 0, none⟩) 0 G)) (w.drew.alloc (.cells ROW 52))) := Lib.hid ⟨_, G, rfl, ⟨by rfl, .inr ⟨w.heap.size, G, ROW, rfl, Nat.le_refl _, heap_alloc_new w.drew _, Nat.zero_le _, hGm, hsz, by simp [flatV]⟩⟩, (below_drew w).alloc (Nat.le_refl _) _⟩
    clear hrz hold hsz hROW hi0 hz0 hzs hzb
    obtain ⟨W1, hW1⟩ : ∃ W1, W1 = w.drew.alloc (.cells ROW 52) := ⟨_, rfl⟩
    rw [← hW1] at hr1 HR
    obtain ⟨N, hN⟩ : ∃ N, N = w.heap.size := ⟨_, rfl⟩
    rw [← hN] at hr1 HR
    have g1 : (0 : Int) < (k : Int) := by omega
    clear hW1 hN h0
    go_enter Try.func41, Try.ntmps41
    go_wp2_with (at_builtin; go_loud (refine wpList_append_runAc rfl _ _ _ _ rfl _ _ rfl rfl _ hr1 ?_))
    go_ret
    exact HR.out
theorem flatten_take {α : Type} (LL : List (List α)) (k : Nat) (l : List α) (h : LL[k]? = some l) : (LL.take (k + 1)).flatten = (LL.take k).flatten ++ l := by
  rw [take_snocG LL k l h, List.flatten_append]
  simp
theorem flatten_take_len {α : Type} (LL : List (List α)) (k : Nat) : (LL.take k).flatten.length ≤ LL.flatten.length := by
  conv => rhs; rw [← List.take_append_drop k LL, List.flatten_append, List.length_append]
  omega
set_option maxRecDepth 100000 in
set_option maxHeartbeats 8000000 in
theorem conAc_any (a : Option Addr) (len cap : Nat) (hs : List Hr) (LL : List (List Ac)) (w : World) (hl : SR enHr okHr 1 w a len hs) (hr : RowsR enAc okAc 7 w hs LL) (hn : LL.flatten.length ≤ 100000) :
    Calls Try.prog 30 #[.slice a len cap] w (OwnRet enAc 52 7 w LL.flatten) := by
  obtain ⟨i0, hi0, hz0, hz1, hz2⟩ := info_parts Try.infoAc
  have hlm : len ≤ 9223372036854775807 := hl.max
  have HLN : Hid (LL.length = len) := Lib.hid (by rw [← hr.len]; exact hl.len)
  have HL := Lib.hid hl
  have HRR := Lib.hid hr
  have HFT := Lib.hid (fun k => flatten_take_len LL k)
  have HGR := Lib.hid (fun k (h : k ≤ 100000) W => growAc_nil k h W)
  clear hl hr
  go_enter Try.func30, Try.ntmps30
  go_wp2_with fail
  go_loopw [3, 11] (fun s3 c wr => ∃ k n : Nat, k ≤ len ∧ c = .int .i64 k ∧ s3 = .int .i64 n ∧ Hid ((LL.take k).flatten.length = n) ∧ wr = w) (fun _ c _ => len - (intOf c).toNat)
  case atStart => exact ⟨0, 0, by omega, rfl, rfl, Lib.hid (by simp), rfl⟩
  case round =>
    obtain ⟨k, n, hk, rfl, rfl, HN, rfl⟩ := hrel
    have hn9 : n ≤ 100000 := by have := HFT.out k; rw [HN.out] at this; omega
    by_cases hlt : k < len
    · obtain ⟨b, off, h, rfl, hb, hh, hok, hc⟩ := HL.out.get enHr_len hlt
      have c0 := hc 0 (by omega)
      rw [Nat.mul_one, Nat.add_zero] at c0
      obtain ⟨l, hll⟩ : ∃ l, LL[k]? = some l := ⟨_, List.getElem?_eq_getElem (by rw [HLN.out]; exact hlt)⟩
      have hlen : l.length = h.len := (HRR.out.row k h l hh hll).1.len
      have HN2 : Hid ((LL.take (k + 1)).flatten.length = n + h.len) := Lib.hid (by rw [flatten_take LL k l hll, List.length_append, HN.out, hlen])
      have hn10 : n + h.len ≤ 100000 := by have := HFT.out (k + 1); rw [HN2.out] at this; omega
      have g0 : ¬ ((n : Int) + (h.len : Int) < 0) := by omega
      clear hc hh hok hll hlen hb
      change _ = some (Value.slice h.a h.len h.cap) at c0
      go_wp2_with fail
      go_roundw
      case rel => exact ⟨k + 1, n + h.len, by omega, by go_num, by go_num, HN2, by first | trivial | rfl⟩
      case measure => simp [intOf]; omega
    · obtain rfl : k = len := by omega
      have HG := Lib.hid (HGR.out n hn9 wr)
      go_wp2_with (go_at_call 41; refine HG.out.mono ?_; rintro e w1 ⟨A1, c1, rfl, ho1, hb1⟩)
      obtain ⟨wo, hwo⟩ : ∃ wo : World, wo = wr := ⟨_, rfl⟩
      rw [← hwo] at ho1 hb1 HL HRR ⊢
      have HWO := Lib.hid hwo
      clear hwo
      go_loopw [6, 27] (fun s6 c wr1 => ∃ (j m : Nat) (D : List Ac), j ≤ k ∧ c = .int .i64 j ∧ Hid ((LL.take j).flatten = D) ∧ Hid (D.length = m) ∧ wr1.ownsRow wo.heap.size 52 7 s6 m (flatV enAc D) ∧ Below wo.heap.size wo wr1) (fun _ c _ => k - (intOf c).toNat)
      case atStart => exact ⟨0, 0, [], by omega, rfl, Lib.hid (by simp), Lib.hid rfl, ho1, hb1⟩
      case round =>
        clear ho1 hb1
        obtain ⟨j, m, D, hj, rfl, HD, HDN, ho, HB⟩ := hrel
        have hm9 : m ≤ 100000 := by have := HFT.out j; rw [HD.out, HDN.out] at this; omega
        by_cases hlj : j < k
        · obtain ⟨b, off, h, rfl, hb, hh, hok, hc⟩ := (HL.out.below HB).get enHr_len hlj
          have c0 := hc 0 (by omega)
          rw [Nat.mul_one, Nat.add_zero] at c0
          obtain ⟨l, hll⟩ : ∃ l, LL[j]? = some l := ⟨_, List.getElem?_eq_getElem (by rw [HLN.out]; exact hlj)⟩
          have hrow := ((HRR.out.row j h l hh hll).1.below HB)
          have hlen : l.length = h.len := hrow.len
          have HN2 : Hid ((LL.take (j + 1)).flatten = D ++ l) := Lib.hid (by rw [flatten_take LL j l hll, HD.out])
          have HN3 : Hid ((D ++ l).length = m + h.len) := Lib.hid (by rw [List.length_append, HDN.out, hlen])
          have hm10 : m + h.len ≤ 100000 := by have := HFT.out (j + 1); rw [HN2.out, HN3.out] at this; omega
          have HRW := Lib.hid hrow
          have HB' := Lib.hid HB
          have HO := Lib.hid ho
          clear hc hh hok hll hlen hb hrow HB ho
          change _ = some (Value.slice h.a h.len h.cap) at c0
          go_wp2_with (at_builtin; go_loud (refine wpList_append_rowsAc rfl _ _ 35 rfl wo.heap.size 52 i0 _ Try.underlying35 hi0 hz0 hz1 hz2 rfl _ m D rfl HO.out h.a h.len h.cap l rfl HRW.out (by unfold maxLen; omega) (by omega) HB'.out.size ?_); intro v' w7 ho7 k7; have HB7 := Lib.hid (bl_keep HB'.out k7 (fun i e => (HO.out.lt i e).1)); have HO7 := Lib.hid ho7; clear ho7 k7)
          go_roundw
          case rel => exact ⟨j + 1, m + h.len, D ++ l, by omega, by go_num, HN2, HN3, HO7.out, HB7.out⟩
          case measure => simp [intOf]; omega
        · obtain rfl : j = k := by omega
          have HRET : Hid (∀ v, wr.ownsRow wo.heap.size 52 7 v m (flatV enAc D) → OwnRet enAc 52 7 wo LL.flatten (.returned v) wr) := Lib.hid (fun v h => by
            have e : LL.flatten = D := by have := HD.out; rw [List.take_of_length_le (by rw [HLN.out]; exact Nat.le_refl _)] at this; exact this
            rw [e]
            exact ⟨_, rfl, by rw [HDN.out]; exact h, HB⟩)
          have HR2 := Lib.hid (HRET.out _ ho)
          clear ho
          go_wp2_with fail
          go_ret
          have hfin := HR2.out
          rw [HWO.out] at hfin
          exact hfin
end Go.Proofs.Ytbdefhekkafihaa
