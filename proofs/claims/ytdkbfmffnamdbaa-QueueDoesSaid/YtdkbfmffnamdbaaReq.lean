/- request: what its functions come to. No condition. -/
import Derived.Test.YtdkbfmffnamdbaaInsWt
import Derived.Test.YtdkbfmffnamdbaaSamWt
import Derived.Test.YtdkbfmffnamdbaaModeG
set_option linter.unusedVariables false
set_option linter.unusedSimpArgs false
namespace Go.Proofs.Ytdkbfmffnamdbaa
open Go.RowKit (wrap32 wrap64)
open Go.RowKit
def ofTx (tx : Int) (x : Wt) : Bool := x.tx == tx
/-- The place behind the last one that converts. -/
def lastC (L : List Wt) : Nat := L.length - (L.reverse.takeWhile fun x => !x.conv).length
theorem lastC_snoc (L : List Wt) (x : Wt) : lastC (L ++ [x]) = if x.conv then L.length + 1 else lastC L := by
  unfold lastC
  rw [List.reverse_append, List.length_append]
  cases h : x.conv <;> simp [List.takeWhile, h]
theorem lastC_le (L : List Wt) : lastC L ≤ L.length := Nat.sub_le _ _
def placeT (L : List Wt) (c : Bool) : Nat := if c then lastC L else L.length
def okReq (x : Wt) : Prop := 1 ≤ x.tx ∧ 1 ≤ x.mode ∧ x.mode ≤ 6
def RightW (L : List Wt) : Prop := (∀ x ∈ L, okReq x) ∧ (L.Pairwise fun a b => a.tx ≠ b.tx) ∧ L.Pairwise fun a b => b.conv = true → a.conv = true
theorem lastC_conv (L : List Wt) (h : L.Pairwise fun a b => b.conv = true → a.conv = true) : ∀ x ∈ L.take (lastC L), x.conv = true := by
  induction hn : L.length generalizing L with
  | zero => rw [List.eq_nil_of_length_eq_zero hn]; simp
  | succ n ih =>
    obtain ⟨M, y, rfl⟩ : ∃ M y, L = M ++ [y] := by
      have hne : L ≠ [] := by intro h; rw [h] at hn; cases hn
      exact ⟨L.dropLast, L.getLast hne, (List.dropLast_concat_getLast hne).symm⟩
    rw [lastC_snoc]
    rw [List.length_append] at hn
    rw [List.pairwise_append] at h
    split
    · rename_i hy
      intro x hx
      rw [List.take_of_length_le (by simp)] at hx
      rcases List.mem_append.1 hx with hx | hx
      · exact h.2.2 x hx y (by simp) hy
      · rw [List.mem_singleton.1 hx]; exact hy
    · rw [List.take_append_of_le_length (lastC_le _)]
      exact ih M h.1 (by simpa using hn)
theorem of1_pred (tx : Int) (B : Nat) (w : World) (S : Nat → Prop) (hB : ¬ S B) (hc : w.cell? ⟨B, 0, none⟩ = some (.int .i64 tx)) :
    PredS Try.prog 63 #[.pointer (some ⟨B, 0, none⟩)] enWt (ofTx tx) S w := fun W x k => by
  have hW := Keep.cellS k hc hB
  have hlt := World.block_lt_of_cell? W ⟨B, 0, none⟩ hW
  have hne : B ≠ W.heap.size := Nat.ne_of_lt hlt
  obtain ⟨x0, x1, x2, x3⟩ := x
  show Calls Try.prog 63 #[.agg #[.int .i64 x0, .int .i64 x1, .bool x2, .bool x3], .pointer (some ⟨B, 0, none⟩)] W _
  have hW2 := cell_new_a (.cells #[.int .i64 x0, .int .i64 x1, .bool x2, .bool x3] 37) hW
  clear k hc hlt
  go_enter Try.func63, Try.ntmps63
  go_wp2
  go_ret
  exact ⟨rfl, (Below.refl _ _).alloc (Nat.le_refl _) _⟩
theorem qof_any (tx : Int) (w : World) : Calls Try.prog 38 #[.int .i64 tx] w fun e w' => e = .returned (.func (.func 63) #[] #[.pointer (some ⟨w.heap.size, 0, none⟩)]) ∧ w' = w.alloc (.cells #[.int .i64 tx] 3) := by
  go_enter Try.func38, Try.ntmps38
  go_wp2
  go_ret
  exact ⟨rfl, rfl⟩
set_option maxHeartbeats 1000000 in
theorem qfind_any (a : Option Addr) (len cap : Nat) (L : List Wt) (tx : Int) (w : World) (hl : Wts w a len L) (hn : len ≤ 1000) :
    Calls Try.prog 10 #[.slice a len cap, .int .i64 tx] w fun e w' => e = .returned (.int .i64 (idxB (ofTx tx) L)) ∧ Below w.heap.size w w' := by
  have hO : Below w.heap.size w (w.alloc (.cells #[.int .i64 tx] 3)) := (Below.refl _ _).alloc (Nat.le_refl _) _
  have hB := (Bk.new w 3 #[.int .i64 tx]).cell 0
  have hcon := idxWt_any (ofTx tx) 63 #[.pointer (some ⟨w.heap.size, 0, none⟩)] (enters_of Try.func63 (by kernel_rfl) rfl) (fun _ => False) a len cap L (w.alloc (.cells #[.int .i64 tx] 3)) (hl.below hO) hn (of1_pred tx _ _ _ (fun h => h) hB)
  have HC := Lib.hid hcon
  clear hcon hl hB
  go_enter Try.func10, Try.ntmps10
  go_wp2_with (first
    | (go_at_call 38; refine (qof_any _ _).mono ?_; rintro e w1 ⟨rfl, rfl⟩)
    | (go_at_call 37; refine HC.out.mono ?_; rintro e w1 ⟨rfl, hb1⟩))
  go_ret
  exact ⟨rfl, bl_then hO (Nat.le_refl _) hb1⟩
set_option maxHeartbeats 1000000 in
theorem qwithout_any (a : Option Addr) (len cap : Nat) (L : List Wt) (tx : Int) (w : World) (hl : Wts w a len L) (hnil : a = none → len = 0 ∧ cap = 0) (hn : len ≤ 1000) :
    Calls Try.prog 40 #[.slice a len cap, .int .i64 tx] w (OwnRet enWt 37 4 w (L.filter fun x => !ofTx tx x)) := by
  have hcl := cloneWt_any a len cap L _ hl hnil hn
  have HCL := Lib.hid hcl
  have hall := hl.all
  have hll := hl.len
  clear hl hnil hcl
  go_enter Try.func40, Try.ntmps40
  go_wp2_with (first
    | (go_at_call 36; refine HCL.out.mono ?_; rintro e w1 ⟨v, rfl, hown, hb1⟩)
    | (go_at_call 38; refine (qof_any _ _).mono ?_; rintro e w2 ⟨rfl, rfl⟩))
  have hBk := Bk.new w1 3 #[.int .i64 tx]
  have hc0 := hBk.cell 0
  have hB1 : Below w.heap.size w (w1.alloc (.cells #[.int .i64 tx] 3)) := hb1.alloc hb1.size _
  rcases hown.2 with ⟨rfl, hz⟩ | ⟨h, cap', cur, rfl, hbh, hrow, _⟩
  · have hL : L = [] := List.eq_nil_of_length_eq_zero hz
    subst hL
    have hix := delWt_nil (ofTx tx) 63 #[.pointer (some ⟨w1.heap.size, 0, none⟩)] (enters_of Try.func63 (by kernel_rfl) rfl) 0 (w1.alloc (.cells #[.int .i64 tx] 3)) (of1_pred tx _ _ (fun _ => False) (fun h => h) hc0)
    have HI := Lib.hid hix
    clear hix hown hz
    go_wp2_with (go_at_call 66; refine HI.out.mono ?_; rintro e w2 ⟨rfl, hb2⟩)
    go_ret
    exact ⟨_, rfl, World.ownsRow_nil _ _ _ _, bl_then hB1 (Nat.le_refl _) hb2⟩
  · have hhw : h < w1.heap.size := (Array.getElem?_eq_some_iff.1 hrow).1
    obtain ⟨hrw, _⟩ := RowAt.of hown rfl
    have hrw2 := hrw.keep (Keep.alloc w1 (.cells #[.int .i64 tx] 3) (fun _ => False)) (fun h => h)
    have hne : w1.heap.size ≠ h := by omega
    have hix := delWt_any (ofTx tx) 63 #[.pointer (some ⟨w1.heap.size, 0, none⟩)] (enters_of Try.func63 (by kernel_rfl) rfl) h cap' L (w1.alloc (.cells #[.int .i64 tx] 3)) hrw2 hall (by omega) (of1_pred tx _ _ _ hne hc0)
    have HI := Lib.hid hix
    clear hix hown hrw hrw2 hall
    go_wp2_with (go_at_call 66; refine HI.out.mono ?_; rintro e w2 ⟨rfl, hr2, k2⟩)
    go_ret
    exact ⟨_, rfl, hr2.own enWt_len hbh, bl_keep hB1 k2 (fun i hi => by rw [hi]; exact hbh)⟩
end Go.Proofs.Ytdkbfmffnamdbaa
