/- The contracts of package txn. No condition. -/
import Derived.Test.YtgdghinconghgaaTab
import Derived.Deep.RegionHeld3
import Derived.Deep.AppendLies
import Derived.Deep.RegionLaw
import Derived.BigRegion
set_option linter.unusedVariables false
set_option linter.unusedSimpArgs false
namespace Go.Proofs.Ytgdghinconghgaa
open Go.RowKit (wrap32 wrap64)
open Go.RowKit
structure Tx where
  id : Int
  stamp : Int
  state : Int
  why : Int
def enT (x : Tx) : List Value := [.int .i64 x.id, .int .i64 x.stamp, .int .i64 x.state, .int .i64 x.why]
theorem enT_len (x : Tx) : (enT x).length = 4 := rfl
def Book (w : World) (g h cap : Nat) (L : List Tx) : Prop := Tab enT w 115 57 4 g h cap L
theorem Book.own {w : World} {g h cap : Nat} {L : List Tx} (b : Book w g h cap L) : w.ownsRow 0 57 4 (.slice (some ⟨h, 0, none⟩) L.length cap) L.length (flatV enT L) := b.2.1
theorem Book.cell {w : World} {g h cap : Nat} {L : List Tx} (b : Book w g h cap L) : w.cell? ⟨g, 0, none⟩ = some (.slice (some ⟨h, 0, none⟩) L.length cap) := b.1.cell 0
theorem Book.frozen {w : World} {g h cap : Nat} {L : List Tx} (b : Book w g h cap L) : w.frozen? ⟨g, 0, none⟩ = false := b.1.frozen 0
theorem Try.infoT : (Try.prog.info? 57).map (fun i => (i.zero, i.size, i.bytes)) = some (some (.agg #[.int .i64 0, .int .i64 0, .int .i64 0, .int .i64 0]), 4, 32) := by kernel_rfl
def NewB (w : World) (e : Ending) (w' : World) : Prop := ∃ g h, e = .returned (.pointer (some ⟨g, 0, none⟩)) ∧ Book w' g h 1 [⟨0, 0, 0, 0⟩] ∧ w.heap.size ≤ g ∧ w.heap.size ≤ h ∧ Below w.heap.size w w'
set_option maxHeartbeats 400000 in
theorem tnew_any (w : World) : Calls Try.prog 33 #[] w (NewB w) := by
  go_enter Try.func33, Try.ntmps33
  go_wp2
  go_ret
  refine ⟨w.heap.size + 1, w.heap.size, rfl, ⟨?_, ?_, by omega⟩, by omega, Nat.le_refl _, ?_⟩
  · have := Bk.new (w.alloc (.cells #[.int .i64 0, .int .i64 0, .int .i64 0, .int .i64 0] 57)) 115 #[.slice (some ⟨w.heap.size, 0, none⟩) 1 1]
    simpa using this
  · refine ⟨rfl, .inr ⟨w.heap.size, 1, #[.int .i64 0, .int .i64 0, .int .i64 0, .int .i64 0], rfl, Nat.zero_le _, ?_, Nat.le_refl _, by unfold maxLen; omega, rfl, rfl⟩⟩
    rw [Below.heap_alloc _ _ _ (by simp)]
    exact heap_alloc_new w _
  · exact ((Below.refl _ _).alloc (Nat.le_refl _) _).alloc (by simp) _
set_option maxHeartbeats 400000 in
theorem tok_yes (g : Nat) (a : Option Addr) (n cap : Nat) (w : World) (h : w.cell? ⟨g, 0, none⟩ = some (.slice a n cap)) (hn : 1 ≤ n) : Calls Try.prog 70 #[.pointer (some ⟨g, 0, none⟩)] w fun e w' => e = .returned (.bool true) ∧ w = w' := by
  have hn0 : 0 < n := hn
  go_enter Try.func70, Try.ntmps70
  go_wp2
  go_ret
  exact ⟨by simp [hn0], rfl⟩
set_option maxHeartbeats 400000 in
theorem tok_nil (w : World) : Calls Try.prog 70 #[.pointer none] w fun e w' => e = .returned (.bool false) ∧ w = w' := by
  go_enter Try.func70, Try.ntmps70
  go_wp2
  go_ret
  exact ⟨rfl, rfl⟩
set_option maxHeartbeats 400000 in
theorem tlen_yes (g : Nat) (a : Option Addr) (n cap : Nat) (w : World) (h : w.cell? ⟨g, 0, none⟩ = some (.slice a (n + 1) cap)) (hn : n ≤ 4097) : Calls Try.prog 34 #[.pointer (some ⟨g, 0, none⟩)] w fun e w' => e = .returned (.int .i64 n) ∧ w = w' := by
  go_enter Try.func34, Try.ntmps34
  go_wp2_with (first | (go_at_call 70; refine (tok_yes _ _ _ _ _ h (by omega)).mono ?_; rintro e w' ⟨rfl, rfl⟩))
  go_ret
  exact ⟨by simp, rfl⟩
set_option maxHeartbeats 400000 in
theorem tlen_nil (w : World) : Calls Try.prog 34 #[.pointer none] w fun e w' => e = .returned (.int .i64 0) ∧ w = w' := by
  go_enter Try.func34, Try.ntmps34
  go_wp2_with (first | (go_at_call 70; refine (tok_nil _).mono ?_; rintro e w' ⟨rfl, rfl⟩))
  go_ret
  exact ⟨rfl, rfl⟩
def BeginRet (g h : Nat) (L : List Tx) (stamp : Int) (w : World) (e : Ending) (w' : World) : Prop :=
  ∃ h' cap', e = .returned (.int .i64 L.length) ∧ Book w' g h' cap' (L ++ [⟨L.length, stamp, 1, 0⟩]) ∧ Keep (fun k => k = g ∨ k = h) w w' ∧ (h' = h ∨ w.heap.size ≤ h')
set_option maxHeartbeats 2000000 in
set_option maxRecDepth 100000 in
theorem tbegin_any (g h cap : Nat) (L : List Tx) (stamp : Int) (w : World) (hb : Book w g h cap L) (h1 : 1 ≤ L.length) (h2 : L.length ≤ 1000) :
    Calls Try.prog 35 #[.pointer (some ⟨g, 0, none⟩), .int .i64 stamp] w (BeginRet g h L stamp w) := by
  have hc := hb.cell
  have hf := hb.frozen
  have hown := hb.own
  obtain ⟨m, hm⟩ : ∃ m, L.length = m + 1 := ⟨L.length - 1, by omega⟩
  obtain ⟨i0, hi, hz0, hz1, hz2⟩ := info_parts Try.infoT
  have HB := Lib.hid hb
  clear hb
  rw [hm] at hc hown
  have hmle : m ≤ 999 := by omega
  have hgh := HB.out.2.2
  have hgl := HB.out.lt.1
  have hhl := HB.out.lt.2
  have HO := Lib.hid hown
  have HM := Lib.hid hm
  clear hown hm h1 h2
  go_enter Try.func35, Try.ntmps35
  go_wp2_with fail
  refine (tok_yes _ _ _ _ _ hc (by omega)).mono ?_
  rintro e _ ⟨rfl, rfl⟩
  go_wp2_with fail
  refine (tlen_yes _ _ _ _ _ hc (by omega)).mono ?_
  rintro e _ ⟨rfl, rfl⟩
  go_wp2_with fail
  have hn1 := cell_new_a (.cells #[.int .i64 (m + 1), .int .i64 stamp, .int .i64 1, .int .i64 0] 57) hc
  have hn2 := frozen_new_a (.cells #[.int .i64 (m + 1), .int .i64 stamp, .int .i64 1, .int .i64 0] 57) hc hf
  go_region_law ((refine step_append_lies _ (by rfl) _ _ _ (by rfl) 0 57 i0 _ 4 32 Try.underlying113 hi hz0 hz1 hz2 rfl (by omega) (.slice (some ⟨h, 0, none⟩) (m + 1) cap) (m + 1) (flatV enT L) (by rfl) ((HO.out.alloc _).drew) ⟨w.heap.size, 0, none⟩ 1 1 [.int .i64 (m + 1), .int .i64 stamp, .int .i64 1, .int .i64 0] (by rfl) (by rfl) (World.news_of_block (cs := #[.int .i64 (m + 1), .int .i64 stamp, .int .i64 1, .int .i64 0]) (t := 57) (fr := (0, 0)) (heap_alloc_new w _)) (by simp [Value.oneCell']) (by omega) (by unfold maxLen; omega) (by omega) (by simp) (w.heap.size + 1) (by simp) ?_
                  intro h1 cap1 w1 hown1 hgrow hat hlt
                  have hc3 := (hgrow.cell_far ⟨g, 0, none⟩ (by simp; omega) (by simpa [Value.ownBlock] using hgh)).trans hn1
                  have hf3 := (hgrow.frozen_far ⟨g, 0, none⟩ (by simp; omega) (by simpa [Value.ownBlock] using hgh)).trans hn2))
  all_goals
    have hsame : (w1.setCell ⟨g, 0, none⟩ (.slice (some ⟨h1, 0, none⟩) (m + 1 + 1) cap1)).cell? ⟨g, 0, none⟩ = some (.slice (some ⟨h1, 0, none⟩) (m + 1 + 1) cap1) := World.cell?_setCell_same' _ _ _ (by rw [hc3]; rfl)
    clear hn1 hn2 hc hf
    go_wp2_with (first | (go_at_call 34; refine (tlen_yes _ _ _ _ _ hsame (by omega)).mono ?_; rintro e w' ⟨rfl, rfl⟩))
    go_ret
    have hat' : h1 = h ∨ h1 = w.heap.size + 1 := hat.imp (fun e => by simpa [Value.ownBlock] using e.symm) id
    have kk : Keep (fun k => k = h) w w1 := Keep.trans (Keep.trans (Keep.alloc w _ _) (Keep.drew _ _)) (grown_keep hgrow _ (fun k e => by simpa [Value.ownBlock] using e.symm))
    have hl := HM.out
    have e1 : (L ++ [(⟨L.length, stamp, 1, 0⟩ : Tx)]).length = m + 1 + 1 := by simp [hl]
    have e2 : (L.length : Int) = m + 1 := by omega
    refine ⟨h1, cap1, by rw [e2]; simp, ⟨?_, ?_, by omega⟩, ?_, by omega⟩
    · rw [e1]; exact (kk.bk HB.out.1 hgh).set 0 _
    · rw [e1, flatV_snoc, e2]; exact own_keep hown1 (Keep.set w1 g 0 _ (fun k => k = g) rfl) (by omega)
    · exact Keep.trans (kk.mono (fun k h => .inr h)) (Keep.set w1 g 0 _ _ (.inl rfl))
def txZero : Tx := ⟨0, 0, 0, 0⟩
def aggT (x : Tx) : Value := .agg #[.int .i64 x.id, .int .i64 x.stamp, .int .i64 x.state, .int .i64 x.why]
def GetRet (x : Tx) (b : Bool) (w : World) (e : Ending) (w' : World) : Prop := e = .returned (.tuple #[aggT x, .bool b]) ∧ Below w.heap.size w w'
set_option maxHeartbeats 1000000 in
theorem tget_yes (g h cap : Nat) (L : List Tx) (k : Nat) (x : Tx) (w : World) (hb : Book w g h cap L) (h1 : 1 ≤ k) (hx : L[k]? = some x) (h2 : L.length ≤ 4097) :
    Calls Try.prog 38 #[.pointer (some ⟨g, 0, none⟩), .int .i64 k] w (GetRet x true w) := by
  have hc := hb.cell
  have hlt : k < L.length := (List.getElem?_eq_some_iff.1 hx).1
  obtain ⟨m, hm⟩ : ∃ m, L.length = m + 1 := ⟨L.length - 1, by omega⟩
  have c0 : w.cell? ⟨h, k * 4, none⟩ = some (.int .i64 x.id) := Tab.get hb enT_len k x hx 0 (by omega)
  have c1 : w.cell? ⟨h, k * 4 + 1, none⟩ = some (.int .i64 x.stamp) := Tab.get hb enT_len k x hx 1 (by omega)
  have c2 : w.cell? ⟨h, k * 4 + 2, none⟩ = some (.int .i64 x.state) := Tab.get hb enT_len k x hx 2 (by omega)
  have c3 : w.cell? ⟨h, k * 4 + 3, none⟩ = some (.int .i64 x.why) := Tab.get hb enT_len k x hx 3 (by omega)
  have hkm : k ≤ m := by omega
  have hml : m ≤ 4096 := by omega
  have hgl := hb.lt.1
  have hhl := hb.lt.2
  rw [hm] at hc
  obtain ⟨xi, xs, xt, xw⟩ := x
  clear hb hx h2 hm hlt
  dsimp only at c0 c1 c2 c3
  have hcn := cell_new_a (.cells #[.int .i64 0, .int .i64 0, .int .i64 0, .int .i64 0] 57) hc
  have n0 := cell_new_a (.cells #[.int .i64 0, .int .i64 0, .int .i64 0, .int .i64 0] 57) c0
  have n1 := cell_new_a (.cells #[.int .i64 0, .int .i64 0, .int .i64 0, .int .i64 0] 57) c1
  have n2 := cell_new_a (.cells #[.int .i64 0, .int .i64 0, .int .i64 0, .int .i64 0] 57) c2
  have n3 := cell_new_a (.cells #[.int .i64 0, .int .i64 0, .int .i64 0, .int .i64 0] 57) c3
  go_enter Try.func38, Try.ntmps38
  go_wp2_with (first | (go_at_call 34; refine (tlen_yes _ _ _ _ _ hcn (by omega)).mono ?_; rintro e w' ⟨rfl, rfl⟩))
  exact bodyPost_ret (v := .tuple #[.agg #[.int .i64 xi, .int .i64 xs, .int .i64 xt, .int .i64 xw], .bool true]) (by simp [results, Try.results38, go_sem]) rfl ⟨rfl, (Below.refl _ _).alloc (Nat.le_refl _) _⟩
end Go.Proofs.Ytgdghinconghgaa
