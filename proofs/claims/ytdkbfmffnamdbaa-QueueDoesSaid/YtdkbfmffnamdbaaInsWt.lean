/- slices.Insert over slices of api.Wait. No condition. -/
import Derived.Test.YtdkbfmffnamdbaaIns
import Derived.Test.YtdkbfmffnamdbaaRecWt
set_option linter.unusedVariables false
set_option linter.unusedSimpArgs false
namespace Go.Proofs.Ytdkbfmffnamdbaa
open Go.RowKit
/-- What Insert hands back, of a row that the call owned (at base or behind it). -/
def InsRet {α : Type} (enc : α → List Value) (E s base : Nat) (w : World) (v : Value) (L : List α) (e : Ending) (w' : World) : Prop :=
  ∃ v', e = .returned v' ∧ w'.ownsRow base E s v' L.length (flatV enc L) ∧ Keep (fun k => v.ownBlock = some k) w w'
set_option maxRecDepth 100000 in
set_option maxHeartbeats 1000000 in
theorem insWt_end (base : Nat) (a : Option Addr) (cap : Nat) (L : List Wt) (x : Wt) (g : Nat) (w : World) (hown : w.ownsRow base 37 4 (.slice a L.length cap) L.length (flatV enWt L)) (hsr : Wts w (some ⟨g, 0, none⟩) 1 [x]) (hn : L.length ≤ 1000) (hb : base ≤ w.heap.size) :
    Calls Try.prog 62 #[.slice a L.length cap, .int .i64 L.length, .slice (some ⟨g, 0, none⟩) 1 1] w (InsRet enWt 37 4 base w (.slice a L.length cap) (L ++ [x])) := by
  obtain ⟨i0, hi, hz0, hz1, hz2⟩ := info_parts Try.infoWt
  have hret : ∀ v W, W.ownsRow base 37 4 v (L.length + 1) (flatV enWt (L ++ [x])) → Keep (fun k => (Value.slice a L.length cap).ownBlock = some k) w W → InsRet enWt 37 4 base w (.slice a L.length cap) (L ++ [x]) (.returned v) W := fun v W h hk => ⟨v, rfl, by rw [List.length_append]; exact h, hk⟩
  have hcl := own_caps hown
  have hcm : cap ≤ 9223372036854775807 := by have := hcl.2.1; unfold maxLen at this; exact this
  have hlc := hcl.1
  clear hcl
  generalize hN : L.length = n at *
  by_cases hcn : cap = n
  · subst hcn
    go_enter Try.func62, Try.ntmps62
    go_wp2_with (at_builtin; refine wpList_append_sr enWt_len (by omega) enWt_one rfl _ _ 27 rfl base 37 i0 _ 24 Try.underlying27 hi hz0 hz1 hz2 rfl _ _ L rfl hown _ 1 1 [x] rfl hsr (by intro h; cases h) (by unfold maxLen; omega) (by omega) hb ?_; intro v' w2 hown' hgr')
    go_ret
    exact hret _ _ hown' (grown_keep hgr' _ (fun k hk => hk))
  · go_enter Try.func62, Try.ntmps62
    go_wp2_with (at_builtin; refine wpList_append_sr enWt_len (by omega) enWt_one rfl _ _ 27 rfl base 37 i0 _ 24 Try.underlying27 hi hz0 hz1 hz2 rfl _ _ L rfl hown _ 1 1 [x] rfl hsr (by intro h; cases h) (by unfold maxLen; omega) (by omega) hb ?_; intro v' w2 hown' hgr')
    go_ret
    exact hret _ _ hown' (grown_keep hgr' _ (fun k hk => hk))
set_option maxRecDepth 100000 in
set_option maxHeartbeats 4000000 in
theorem insWt_shift (base h cap : Nat) (L : List Wt) (x : Wt) (i g : Nat) (t' : TypeId) (w : World) (hr : RowAt enWt 37 4 w h cap L) (hbh : base ≤ h) (hx : Bk w g t' (enWt x).toArray) (hgh : g ≠ h) (hi : i < L.length) (hroom : L.length + 1 ≤ cap) :
    Calls Try.prog 62 #[.slice (some ⟨h, 0, none⟩) L.length cap, .int .i64 i, .slice (some ⟨g, 0, none⟩) 1 1] w (InsRet enWt 37 4 base w (.slice (some ⟨h, 0, none⟩) L.length cap) (L.take i ++ [x] ++ L.drop i)) := by
  have hsz : (Try.prog.info? 37).map (·.size) = some 4 := by kernel_rfl
  have hcm : cap ≤ 9223372036854775807 := by obtain ⟨_, _, _, h3, _⟩ := hr; unfold maxLen at h3; exact h3
  obtain ⟨cur, hh1, _, _, hh4, _⟩ := id hr
  have hov : ∀ lb cb, (callFunc 77 #[.slice (some ⟨g, 0, none⟩) 1 1, .slice (some ⟨h, (i + 1) * 4, none⟩) lb cb]).run Try.prog w = .ok (.value (.bool false)) w := fun lb cb => by
    rw [run_callFunc_extern Try.func77 (by kernel_rfl) (by kernel_rfl) (by kernel_rfl) (e := Extern.SlicesOverlaps.overlaps #[27, 27] #[4]) (by kernel_rfl),
      Lib.run_overlaps_apart w 27 4 37 Try.underlying27 4 Try.sizeOf37 ⟨g, 0, none⟩ ⟨h, (i + 1) * 4, none⟩ 1 1 lb cb hgh t' 37 4 (cap * 4) (by simp only [World.shape?]; rw [hx]; rfl) (by simp only [World.shape?]; rw [hh1]; simp only [hh4]) (by omega) (hx.frozen 0) (hx.frozen 4)]
    rfl
  have hlw := hr.lt
  have h48 : (L.drop i).length = L.length - i := List.length_drop
  have hR0 : RowAt enWt 37 4 w.drew h cap L := hr.keep (Keep.drew w (fun _ => False)) (fun h => h)
  have hcp1 : ∀ ty dc sc, (Builtin.copy_ #[27, 27] ty #[.slice (some ⟨h, (i + 1) * 4, none⟩) (L.length + 1 - (i + 1)) dc, .slice (some ⟨h, i * 4, none⟩) (L.length + 1 - i) sc]).run Try.prog w.drew = .ok (goInt ((L.length - i : Nat) : Int)) (w.drew.setCells h ((i + 1) * 4) (flatV enWt (L.drop i))) := fun ty dc sc =>
    run_copy_recs w.drew 27 27 ty 37 4 h ((i + 1) * 4) (L.length + 1 - (i + 1)) dc ⟨h, i * 4, none⟩ (L.length + 1 - i) sc (L.length - i) (flatV enWt (L.drop i)) Try.underlying27 hsz (by simp only [Nat.min_def]; split <;> omega) (by rw [flatV_len enWt_len, h48])
      (fun j v hj => by
        rw [flatV_drop enWt_len L i (by omega), List.getElem?_drop] at hj
        have := hR0.read enWt_len _ v hj
        rw [show (⟨h, i * 4, none⟩ : Addr).add j = ⟨h, i * 4 + j, none⟩ by unfold Addr.add; split <;> simp_all]
        exact this)
      (fun j hj => by
        rw [flatV_len enWt_len, h48] at hj
        exact hR0.lies _ (by omega))
      (fun j _ => hR0.frozen _) (fun v hv => flatV_one enWt_one _ v hv)
  have hR1 := hR0.puts enWt_len (i + 1) (by omega) (L.drop i) (by rw [h48]; omega)
  rw [show i + 1 + (L.drop i).length = L.length + 1 by rw [h48]; omega, List.drop_of_length_le (show L.length ≤ L.length + 1 by omega), List.append_nil] at hR1
  have hl1 : (L.take (i + 1) ++ L.drop i).length = L.length + 1 := by simp; omega
  generalize hL1 : L.take (i + 1) ++ L.drop i = L1 at hR1 hl1
  have hK1 : Keep (fun k => (Value.slice (some ⟨h, 0, none⟩) L.length cap).ownBlock = some k) w (w.drew.setCells h ((i + 1) * 4) (flatV enWt (L.drop i))) := Keep.trans (Keep.drew _ _) (Keep.setCells (S := fun k => (Value.slice (some ⟨h, 0, none⟩) L.length cap).ownBlock = some k) h rfl _ _ _)
  have hx1 : Bk (w.drew.setCells h ((i + 1) * 4) (flatV enWt (L.drop i))) g t' (enWt x).toArray := (hK1.block g hx.lt (fun e => hgh (by injection e with e; exact e.symm))).trans hx
  obtain ⟨W1, hW1⟩ : ∃ W1, W1 = w.drew.setCells h ((i + 1) * 4) (flatV enWt (L.drop i)) := ⟨_, rfl⟩
  rw [← hW1] at hcp1 hR1 hK1 hx1
  have hcp2 : ∀ ty dc, (Builtin.copy_ #[27, 27] ty #[.slice (some ⟨h, i * 4, none⟩) (L.length + 1 - i) dc, .slice (some ⟨g, 0, none⟩) 1 1]).run Try.prog W1 = .ok (goInt 1) (W1.setCells h (i * 4) (flatV enWt [x])) := fun ty dc =>
    run_copy_recs W1 27 27 ty 37 4 h (i * 4) (L.length + 1 - i) dc ⟨g, 0, none⟩ 1 1 1 (flatV enWt [x]) Try.underlying27 hsz (by simp only [Nat.min_def]; split <;> omega) (by rw [flatV_len enWt_len]; rfl)
      (fun j v hj => by
        rw [show (⟨g, 0, none⟩ : Addr).add j = ⟨g, j, none⟩ by unfold Addr.add; split <;> simp_all, hx1.cell j]
        simpa [flatV] using hj)
      (fun j hj => by
        rw [flatV_len enWt_len] at hj
        simp at hj
        exact hR1.lies _ (by omega))
      (fun j _ => hR1.frozen _) (fun v hv => flatV_one enWt_one _ v hv)
  have hR2 := hR1.puts enWt_len i (by omega) [x] (by simp; omega)
  have hfin : L1.take i ++ [x] ++ L1.drop (i + [x].length) = L.take i ++ [x] ++ L.drop i := by
    rw [← hL1, List.take_append_of_le_length (by simp; omega), List.take_take, Nat.min_eq_left (by omega)]
    congr 1
    rw [List.drop_append, List.drop_of_length_le (by simp; omega)]
    simp
    omega
  rw [hfin] at hR2
  have hK2 := Keep.trans hK1 (Keep.setCells (S := fun k => (Value.slice (some ⟨h, 0, none⟩) L.length cap).ownBlock = some k) h rfl (flatV enWt [x]) (i * 4) W1)
  have hown := hR2.own enWt_len hbh
  have hlen : (L.take i ++ [x] ++ L.drop i).length = L.length + 1 := by simp; omega
  have hret : InsRet enWt 37 4 base w (.slice (some ⟨h, 0, none⟩) L.length cap) (L.take i ++ [x] ++ L.drop i) (.returned (.slice (some ⟨h, 0, none⟩) (L.length + 1) cap)) (W1.setCells h (i * 4) (flatV enWt [x])) := ⟨_, rfl, by rw [hlen] at hown ⊢; exact hown, hK2⟩
  have HRET := Lib.hid hret
  have hcp1' : ∀ ty d1 dl dc s1 sl sc, d1 = (i + 1) * 4 → dl = L.length - i → s1 = i * 4 → sl = L.length + 1 - i → (Builtin.copy_ #[27, 27] ty #[.slice (some ⟨h, d1, none⟩) dl dc, .slice (some ⟨h, s1, none⟩) sl sc]).run Try.prog w.drew = .ok (goInt ((L.length - i : Nat) : Int)) W1 := by
    intro ty d1 dl dc s1 sl sc e1 e2 e3 e4
    subst e1 e2 e3 e4
    have := hcp1 ty dc sc
    rw [show L.length + 1 - (i + 1) = L.length - i by omega] at this
    exact this
  have hcp2' : ∀ ty d1 dl dc, d1 = i * 4 → dl = L.length + 1 - i → (Builtin.copy_ #[27, 27] ty #[.slice (some ⟨h, d1, none⟩) dl dc, .slice (some ⟨g, 0, none⟩) 1 1]).run Try.prog W1 = .ok (goInt 1) (W1.setCells h (i * 4) (flatV enWt [x])) := by
    intro ty d1 dl dc e1 e2
    subst e1 e2
    exact hcp2 ty dc
  clear hcp1 hcp2 hW1
  clear hret hown hK2 hR2 hfin hx1 hK1 hL1 hl1 hR1 hR0 h48 hlw hh1 hh4 hx hr hsz hgh hbh hlen
  generalize L.take i ++ [x] ++ L.drop i = LF at *
  generalize hN : L.length = n at *
  have hw1 : IntKind.i64.wrap ((n : Int) + 1) = (n : Int) + 1 := by rw [IntKind.wrap_i64]; omega
  have hw2 : IntKind.i64.wrap ((i : Int) + 1) = (i : Int) + 1 := by rw [IntKind.wrap_i64]; omega
  have hin : i ≤ n := by omega
  have hz2 : ¬ ((i : Int) = (n : Int)) := by omega
  have htn : ((i : Int) + 1).toNat = i + 1 := by omega
  have htn2 : ((n : Int) + 1).toNat = n + 1 := by omega
  have hb2 : ¬ (cap = i + 1) := by omega
  have hb4 : ¬ (cap = i) := by omega
  have mixed : Try.prog.follows .mixedOrders = true := by kernel_rfl
  have u77 := run_underlying Try.underlying27
  have z79 := Try.sizeOf37
  have hb1 : (0 : Int) ≤ (i : Int) + 1 := by omega
  have hb3 : (i : Int) ≤ (n : Int) + 1 := by omega
  have hb5 : (i : Int) + 1 ≤ (n : Int) + 1 := by omega
  go_enter Try.func62, Try.ntmps62
  go_wp2_with (simp only [hov])
  go_region_law_o (refine step_copy_runI rfl _ _ 27 27 rfl _ _ (by simp [Act.eval, Act.put]) (by simp [Act.eval, Act.put]) (hcp1' _ _ _ _ _ _ _ (by omega) (by omega) (by omega) (by omega)) ?_)
  go_wp2_with (at_builtin; refine wpList_copy_runI _ rfl _ _ 27 27 rfl _ _ rfl rfl (hcp2' _ _ _ _ (by omega) (by omega)) ?_)
  go_ret
  exact HRET.out
set_option maxRecDepth 100000 in
set_option maxHeartbeats 4000000 in
theorem insWt_grow (base h : Nat) (L : List Wt) (x : Wt) (i g : Nat) (t' : TypeId) (w : World) (hr : RowAt enWt 37 4 w h L.length L) (hbw : base ≤ w.heap.size) (hx : Bk w g t' (enWt x).toArray) (hi : i < L.length) (hn : L.length ≤ 1000) :
    Calls Try.prog 62 #[.slice (some ⟨h, 0, none⟩) L.length L.length, .int .i64 i, .slice (some ⟨g, 0, none⟩) 1 1] w (InsRet enWt 37 4 base w (.slice (some ⟨h, 0, none⟩) L.length L.length) (L.take i ++ [x] ++ L.drop i)) := by
  have hsz : (Try.prog.info? 37).map (·.size) = some 4 := by kernel_rfl
  obtain ⟨i0, hi0, hz0, hzs, hzb⟩ := info_parts Try.infoWt
  have hlw := hr.lt
  have h48 : (L.drop i).length = L.length - i := List.length_drop
  have htl : (L.take i).length = i := by simp; omega
  have hR0 : RowAt enWt 37 4 w.drew h L.length L := hr.keep (Keep.drew w (fun _ => False)) (fun h => h)
  have hold : (Builtin.firstCells i0.size i (.slice (some ⟨h, 0, none⟩) i L.length)).run Try.prog w.drew = .ok (flatV enWt (L.take i)).toArray w.drew := by
    rw [hzs]
    exact run_firstCells_some w.drew 4 i ⟨h, 0, none⟩ i L.length (flatV enWt (L.take i)) (by rw [flatV_len enWt_len, htl]) (fun j v hj => by
      rw [flatV_take enWt_len L i (by omega), List.getElem?_take] at hj
      split at hj
      · rw [show (⟨h, 0, none⟩ : Addr).add j = ⟨h, j, none⟩ by unfold Addr.add; split <;> simp_all]
        exact hR0.read enWt_len _ v hj
      · cases hj)
  have hrz : ∀ ty, (Builtin.append_ #[27, 3] ty #[.slice (some ⟨h, 0, none⟩) i L.length, .int .i64 (((L.length + 1 - i : Nat) : Int))]).run Try.prog w =
      .ok (.slice (some ⟨w.heap.size, 0, none⟩) (L.length + 1) (grownCap w (L.length + 1) L.length 37)) (w.drew.alloc (.cells ((flatV enWt (L.take i)).toArray ++ Builtin.zeroCells (Value.agg #[.int .i64 0, .int .i64 0, .bool false, .bool false]).cells (L.length + 1 - i) ++ Builtin.zeroCells (Value.agg #[.int .i64 0, .int .i64 0, .bool false, .bool false]).cells (grownCap w (L.length + 1) L.length 37 - (L.length + 1))) 37)) := fun ty => by
    have hk := Lib.run_append_grow_zeros w 27 3 ty 37 i0 _ .i64 .i64 Try.underlying27 Try.underlying3 hi0 hz0 (some ⟨h, 0, none⟩) i L.length (flatV enWt (L.take i)) hold (L.length + 1 - i) (by omega) (by omega) (by omega) (by omega) (by rw [hzb]; omega) (by rw [hzb, show i + (L.length + 1 - i) = L.length + 1 by omega]; exact growslice_fits (by omega) (by omega))
    rw [show i + (L.length + 1 - i) = L.length + 1 by omega] at hk
    exact hk
  have hGn : L.length + 1 ≤ grownCap w (L.length + 1) L.length 37 := grownCap_ge w _ _ _
  have hGm : grownCap w (L.length + 1) L.length 37 ≤ maxLen := grownCap_le_maxLen w (L.length + 1) L.length 37 (by unfold maxLen; omega)
  generalize grownCap w (L.length + 1) L.length 37 = G at hrz hGn hGm
  have hz1 := fun n => zeroCells_flat enWt_len (by omega) (Value.agg #[.int .i64 0, .int .i64 0, .bool false, .bool false]).cells ⟨0, 0, false, false⟩ rfl n
  have hD0 : (L.take i ++ List.replicate (L.length + 1 - i) (⟨0, 0, false, false⟩ : Wt)).length = L.length + 1 := by simp; omega
  have hR1 := RowAt.fresh w.drew 37 G (L.take i ++ List.replicate (L.length + 1 - i) ⟨0, 0, false, false⟩) (by rw [hD0]; exact hGn) hGm ((flatV enWt (L.take i)).toArray ++ Builtin.zeroCells (Value.agg #[.int .i64 0, .int .i64 0, .bool false, .bool false]).cells (L.length + 1 - i) ++ Builtin.zeroCells (Value.agg #[.int .i64 0, .int .i64 0, .bool false, .bool false]).cells (G - (L.length + 1)))
    (s := 4) (enc := enWt) (by
      have q1 : ((flatV enWt (L.take i)).toArray).toList.length = i * 4 := by
        show (flatV enWt (L.take i)).length = _
        rw [flatV_len enWt_len, htl]
      have q2 : ∀ k, (flatV enWt (List.replicate k (⟨0, 0, false, false⟩ : Wt))).length = k * 4 := fun k => by rw [flatV_len enWt_len, List.length_replicate]
      rw [← Array.length_toList, Array.toList_append, Array.toList_append, hz1, hz1, List.length_append, List.length_append, q1, q2, q2]
      omega)
    (by
      rw [Array.toList_append, Array.toList_append, hz1, hz1, flatV_append]
      have e : ((flatV enWt (L.take i)).toArray.toList ++ flatV enWt (List.replicate (L.length + 1 - i) ⟨0, 0, false, false⟩)).length = (L.take i ++ List.replicate (L.length + 1 - i) (⟨0, 0, false, false⟩ : Wt)).length * 4 := by
        rw [← flatV_len enWt_len, flatV_append]
      rw [List.take_append_of_le_length (by rw [e]; exact Nat.le_refl _), List.take_of_length_le (by rw [e]; exact Nat.le_refl _)])
  have hD0t : ∀ Z : List Wt, (L.take i ++ Z).take i = L.take i := fun Z => by rw [List.take_append_of_le_length (by omega), List.take_of_length_le (by omega)]
  have hD0i := hD0t (List.replicate (L.length + 1 - i) (⟨0, 0, false, false⟩ : Wt))
  generalize L.take i ++ List.replicate (L.length + 1 - i) (⟨0, 0, false, false⟩ : Wt) = D0 at hR1 hD0 hD0i
  generalize (flatV enWt (L.take i)).toArray ++ Builtin.zeroCells (Value.agg #[.int .i64 0, .int .i64 0, .bool false, .bool false]).cells (L.length + 1 - i) ++ Builtin.zeroCells (Value.agg #[.int .i64 0, .int .i64 0, .bool false, .bool false]).cells (G - (L.length + 1)) = ROW at hrz hR1
  replace hR1 : RowAt enWt 37 4 (w.drew.alloc (.cells ROW 37)) w.heap.size G D0 := hR1
  have hK1 : Keep (fun _ => False) w (w.drew.alloc (.cells ROW 37)) := Keep.trans (Keep.drew w _) (Keep.alloc _ _ _)
  obtain ⟨W1, hW1⟩ : ∃ W1, W1 = w.drew.alloc (.cells ROW 37) := ⟨_, rfl⟩
  rw [← hW1] at hrz hR1 hK1
  clear hW1
  have hx1 := hK1.bk hx (fun h => h)
  have hL1 := hr.keep hK1 (fun h => h)
  obtain ⟨N, hN⟩ : ∃ N, N = w.heap.size := ⟨_, rfl⟩
  rw [← hN] at hrz hR1
  have hcpA : ∀ ty dl dc, dl = L.length + 1 - i → (Builtin.copy_ #[27, 27] ty #[.slice (some ⟨N, i * 4, none⟩) dl dc, .slice (some ⟨g, 0, none⟩) 1 1]).run Try.prog W1 = .ok (goInt 1) (W1.setCells N (i * 4) (flatV enWt [x])) := fun ty dl dc hdl =>
    run_copy_recs W1 27 27 ty 37 4 N (i * 4) dl dc ⟨g, 0, none⟩ 1 1 1 (flatV enWt [x]) Try.underlying27 hsz (by simp only [Nat.min_def]; split <;> omega) (by rw [flatV_len enWt_len]; rfl)
      (fun j v hj => by
        rw [show (⟨g, 0, none⟩ : Addr).add j = ⟨g, j, none⟩ by unfold Addr.add; split <;> simp_all, hx1.cell j]
        simpa [flatV] using hj)
      (fun j hj => by
        rw [flatV_len enWt_len] at hj
        simp at hj
        exact hR1.lies _ (by omega))
      (fun j _ => hR1.frozen _) (fun v hv => flatV_one enWt_one _ v hv)
  have hR2 := hR1.puts enWt_len i (by omega) [x] (by simp; omega)
  rw [hD0i] at hR2
  have hKa : Keep (fun k => k = N) W1 (W1.setCells N (i * 4) (flatV enWt [x])) := Keep.setCells (S := fun k => k = N) N rfl _ _ _
  have hL2 := hL1.keep hKa (fun e => by omega)
  have hD1 : (L.take i ++ [x] ++ D0.drop (i + [x].length)).length = L.length + 1 := by simp; omega
  have hD1t : (L.take i ++ [x] ++ D0.drop (i + [x].length)).take (i + 1) = L.take i ++ [x] := by rw [List.take_append_of_le_length (by simp; omega), List.take_of_length_le (by simp; omega)]
  generalize L.take i ++ [x] ++ D0.drop (i + [x].length) = D1 at hR2 hD1 hD1t
  generalize W1.setCells N (i * 4) (flatV enWt [x]) = W2 at hcpA hR2 hKa hL2
  have hR3 : RowAt enWt 37 4 W2.drew N G D1 := hR2.keep (Keep.drew _ (fun _ => False)) (fun h => h)
  have hL3 : RowAt enWt 37 4 W2.drew h L.length L := hL2.keep (Keep.drew _ (fun _ => False)) (fun h => h)
  have hcpB : ∀ ty d1 dl dc s1 sl sc, d1 = (i + 1) * 4 → dl = L.length - i → s1 = i * 4 → sl = L.length - i → (Builtin.copy_ #[27, 27] ty #[.slice (some ⟨N, d1, none⟩) dl dc, .slice (some ⟨h, s1, none⟩) sl sc]).run Try.prog W2.drew = .ok (goInt ((L.length - i : Nat) : Int)) (W2.drew.setCells N ((i + 1) * 4) (flatV enWt (L.drop i))) := fun ty d1 dl dc s1 sl sc e1 e2 e3 e4 => by
    subst e1 e2 e3 e4
    exact run_copy_recs W2.drew 27 27 ty 37 4 N ((i + 1) * 4) (L.length - i) dc ⟨h, i * 4, none⟩ (L.length - i) sc (L.length - i) (flatV enWt (L.drop i)) Try.underlying27 hsz (by simp only [Nat.min_def]; split <;> omega) (by rw [flatV_len enWt_len, h48])
      (fun j v hj => by
        rw [flatV_drop enWt_len L i (by omega), List.getElem?_drop] at hj
        have := hL3.read enWt_len _ v hj
        rw [show (⟨h, i * 4, none⟩ : Addr).add j = ⟨h, i * 4 + j, none⟩ by unfold Addr.add; split <;> simp_all]
        exact this)
      (fun j hj => by
        rw [flatV_len enWt_len, h48] at hj
        exact hR3.lies _ (by omega))
      (fun j _ => hR3.frozen _) (fun v hv => flatV_one enWt_one _ v hv)
  have hR4 := hR3.puts enWt_len (i + 1) (by omega) (L.drop i) (by rw [h48]; omega)
  rw [hD1t, show i + 1 + (L.drop i).length = L.length + 1 by rw [h48]; omega, List.drop_of_length_le (show D1.length ≤ L.length + 1 by omega), List.append_nil] at hR4
  have hKb : Keep (fun k => k = N) W2 (W2.drew.setCells N ((i + 1) * 4) (flatV enWt (L.drop i))) := Keep.trans (Keep.drew _ _) (Keep.setCells (S := fun k => k = N) N rfl _ _ _)
  have hK2 := Keep.fresh hK1 (Keep.trans hKa hKb) (fun k hk => .inr (by omega))
  have hown := hR4.own (base := base) enWt_len (by omega)
  have hlen : (L.take i ++ [x] ++ L.drop i).length = L.length + 1 := by simp; omega
  have hret : InsRet enWt 37 4 base w (.slice (some ⟨h, 0, none⟩) L.length L.length) (L.take i ++ [x] ++ L.drop i) (.returned (.slice (some ⟨N, 0, none⟩) (L.length + 1) G)) (W2.drew.setCells N ((i + 1) * 4) (flatV enWt (L.drop i))) := ⟨_, rfl, by rw [hlen] at hown ⊢; exact hown, hK2.mono (fun _ h => h.elim)⟩
  have HRET := Lib.hid hret
  clear hret hown hK2 hR4 hR3 hR2 hR1 hL1 hL2 hL3 hx1 hK1 hKa hKb hD1 hD1t hR0 h48 hlw hx hr hsz hlen hold hz1 hD0t htl
  generalize L.take i ++ [x] ++ L.drop i = LF at *
  generalize hNL : L.length = n at *
  have hGm2 : G ≤ 9223372036854775807 := by unfold maxLen at hGm; exact hGm
  have hw1 : IntKind.i64.wrap ((n : Int) + 1) = (n : Int) + 1 := by rw [IntKind.wrap_i64]; omega
  have hw2 : IntKind.i64.wrap ((i : Int) + 1) = (i : Int) + 1 := by rw [IntKind.wrap_i64]; omega
  have hw3 : IntKind.i64.wrap ((n : Int) + 1 - i) = ((n + 1 - i : Nat) : Int) := by rw [IntKind.wrap_i64]; omega
  have hin : i ≤ n := by omega
  have hz2 : ¬ ((i : Int) = (n : Int)) := by omega
  have htn : ((i : Int) + 1).toNat = i + 1 := by omega
  have hb2 : ¬ (G = i + 1) := by omega
  have hb4 : ¬ (n = i) := by omega
  have hb6 : ¬ (G = i) := by omega
  have mixed : Try.prog.follows .mixedOrders = true := by kernel_rfl
  have u77 := run_underlying Try.underlying27
  have z79 := Try.sizeOf37
  have hb1 : (0 : Int) ≤ (i : Int) + 1 := by omega
  have hb3 : (i : Int) ≤ (n : Int) := by omega
  have hb5 : (i : Int) + 1 ≤ (n : Int) + 1 := by omega
  have hb7 : (i : Int) ≤ (n : Int) + 1 := by omega
  clear hN
  go_enter Try.func62, Try.ntmps62
  go_wp2_with (first
    | (at_builtin; refine Lib.wpList_append_run _ rfl _ _ _ _ rfl _ _ rfl rfl _ _ (hrz _) ?_)
    | (at_builtin; refine wpList_copy_runI _ rfl _ _ 27 27 rfl _ _ rfl rfl (hcpA _ _ _ (by omega)) ?_))
  go_region_law_o (refine step_copy_runI rfl _ _ 27 27 rfl _ _ (by simp [Act.eval, Act.put]) (by simp [Act.eval, Act.put]) (hcpB _ _ _ _ _ _ _ (by omega) (by omega) (by omega) (by omega)) ?_)
  go_wp2
  go_ret
  exact HRET.out
theorem insWt_any (base : Nat) (a : Option Addr) (cap : Nat) (L : List Wt) (x : Wt) (i g : Nat) (t' : TypeId) (w : World) (hown : w.ownsRow base 37 4 (.slice a L.length cap) L.length (flatV enWt L)) (hx : Bk w g t' (enWt x).toArray) (hok : okWt x) (hg : ∀ y, a = some y → g ≠ y.block) (hi : i ≤ L.length) (hn : L.length ≤ 1000) (hb : base ≤ w.heap.size) :
    Calls Try.prog 62 #[.slice a L.length cap, .int .i64 i, .slice (some ⟨g, 0, none⟩) 1 1] w (InsRet enWt 37 4 base w (.slice a L.length cap) (L.take i ++ [x] ++ L.drop i)) := by
  rcases Nat.eq_or_lt_of_le hi with rfl | hlt
  · rw [List.take_length, List.drop_length, List.append_nil]
    refine insWt_end base a cap L x g w hown ⟨rfl, by unfold maxLen; omega, fun y hy => by rw [List.mem_singleton.1 hy]; exact hok, fun _ => ⟨g, 0, rfl, hx.lt, fun j hj => ?_⟩⟩ hn hb
    rw [Nat.zero_add, hx.cell j]
    simp [flatV]
  · rcases hown.2 with ⟨_, h0⟩ | ⟨h, cap', cur, hv, hbh, _⟩
    · omega
    · simp only [Value.slice.injEq, true_and] at hv
      obtain ⟨rfl, rfl⟩ := hv
      obtain ⟨hr, _⟩ := RowAt.of hown rfl
      by_cases hroom : L.length + 1 ≤ cap
      · exact insWt_shift base h cap L x i g t' w hr hbh hx (hg _ rfl) hlt hroom
      · obtain rfl : cap = L.length := by have := (own_caps hown).1; omega
        exact insWt_grow base h L x i g t' w hr hb hx hlt hn
end Go.Proofs.Ytdkbfmffnamdbaa
