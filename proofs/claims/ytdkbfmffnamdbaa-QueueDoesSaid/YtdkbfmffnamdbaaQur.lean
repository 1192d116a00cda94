/- queue: the first one that waits is taken away. No condition. -/
import Derived.Test.YtdkbfmffnamdbaaQuq
import Derived.Shelf.RegionOpenPlain
import Derived.Deep.RegionLaw
import Derived.WalkKit
import Derived.Lib.Walk
set_option linter.unusedVariables false
set_option linter.unusedSimpArgs false
namespace Go.Proofs.Ytdkbfmffnamdbaa
open Go.RowKit (wrap32 wrap64)
open Go.RowKit
theorem len_flatWt (L : List Wt) : (flatV enWt L).length = L.length * 4 := flatV_len enWt_len L
set_option maxRecDepth 100000 in
set_option maxHeartbeats 4000000 in
theorem del0Wt_any (h cap : Nat) (x : Wt) (L : List Wt) (w : World) (hr : RowAt enWt 37 4 w h cap (x :: L)) (hn : L.length ≤ 1000) :
    Calls Try.prog 67 #[.slice (some ⟨h, 0, none⟩) (L.length + 1) cap, .int .i64 0, .int .i64 1] w fun e w' => e = .returned (.slice (some ⟨h, 0, none⟩) L.length cap) ∧ RowAt enWt 37 4 w' h cap L ∧ Keep (fun i => i = h) w w' := by
  obtain ⟨i0, hi, hz0, hz1, hz2⟩ := info_parts Try.infoWt
  obtain ⟨news, hnews⟩ : ∃ news, news = flatV enWt L := ⟨_, rfl⟩
  have hlen : news.length = L.length * 4 := by rw [hnews, len_flatWt]
  have hcap : L.length + 1 ≤ cap ∧ cap ≤ 9223372036854775807 := by
    obtain ⟨_, _, h2, h3, _⟩ := hr
    unfold maxLen at h3
    exact ⟨by simpa using h2, h3⟩
  have hrd : RowAt enWt 37 4 w.drew h cap (x :: L) := hr.keep (Keep.drew w (fun _ => False)) (fun h => h)
  have s0 : Hid (∀ j, j < cap * 4 → (w.drew.cell? ⟨h, j, none⟩).isSome = true ∧ w.drew.frozen? ⟨h, j, none⟩ = false) := Lib.hid (fun j hj => ⟨hrd.lies j hj, hrd.frozen j⟩)
  have s1 : Hid (∀ t u, news[t]? = some u → w.drew.cell? ⟨h, 4 + t, none⟩ = some u) := Lib.hid (fun t u hu => by
    refine hrd.read enWt_len (4 + t) u ?_
    rw [flatV_cons, List.getElem?_append_right (by rw [enWt_len]; omega), enWt_len, Nat.add_sub_cancel_left, ← hnews]
    exact hu)
  have s2 : Hid (∀ u ∈ news, u.oneCell' = true) := Lib.hid (by rw [hnews]; exact flatV_one enWt_one L)
  obtain ⟨W1, hW1⟩ : ∃ W1, W1 = w.drew.setCells h 0 news := ⟨_, rfl⟩
  have hp := hrd.puts enWt_len 0 (Nat.zero_le _) L (by omega)
  rw [List.take_zero, List.nil_append, Nat.zero_mul, ← hnews, ← hW1] at hp
  have hdl : ((x :: L).drop (0 + L.length)).length = 1 := by rw [List.length_drop, List.length_cons]; omega
  have hpl : (L ++ (x :: L).drop (0 + L.length)).length = L.length + 1 := by rw [List.length_append, hdl]
  obtain ⟨vs, hvl, hrun⟩ := run_clear_rec (P := Try.prog) W1 27 37 0 (.agg #[.int .i64 0, .int .i64 0, .bool false, .bool false]) 4 Try.underlying27 (Try.zeroValue37) rfl (by simp [Value.cells, Value.oneCell']) h (L.length * 4) 1 (cap - L.length) (by omega) (by omega)
    (fun t ht => hp.lies _ (by omega)) (fun t ht => hp.frozen _)
  have hcut := hp.cut enWt_len L.length (by omega) (L.length * 4) (Nat.le_refl _) vs (by omega)
  rw [List.take_left] at hcut
  have HEND : Hid (RowAt enWt 37 4 (W1.setCells h (L.length * 4) vs) h cap L ∧ Keep (fun i => i = h) w (W1.setCells h (L.length * 4) vs)) := Lib.hid ⟨hcut, by rw [hW1]; exact ((Keep.drew w _).trans (Keep.setCells (S := fun i => i = h) h rfl _ _ _)).trans (Keep.setCells (S := fun i => i = h) h rfl _ _ _)⟩
  have HW1 := Lib.hid hW1
  generalize L.length = n at *
  obtain ⟨hc1, hc2⟩ := hcap
  have e1 : (n + 1 : Nat) - n = 1 := by omega
  by_cases hcap1 : cap = 1
  · obtain rfl : n = 0 := by omega
    have hnil : news = [] := List.eq_nil_of_length_eq_zero (by rw [hlen])
    subst hcap1
    subst hnil
    clear hr hrd hp hcut hdl hpl hW1 hnews hvl
    go_enter Try.func67, Try.ntmps67
    go_wp2_with fail
    go_region_law (refine step_append_room rfl (.tmp 22) (.tmp 25) 27 rfl 37 i0 4 Try.underlying27 hi hz1 h 0 0 1 (by simp [Act.eval, Act.put]) ⟨h, 0, none⟩ 0 0 [] (by simp [Act.eval, Act.put]) rfl (by intro j u hu; cases hu) s2.out (by omega) (by intro j hj; cases hj) ?_; rw [← HW1.out])
    go_wp2
    go_ret
    exact ⟨rfl, HEND.out⟩
  · have hj1 : 1 < cap := by omega
    have q1 : (1 : Int) ≤ (n : Int) + 1 := by omega
    have q2 : (n : Int) + 1 ≤ (cap : Int) := by omega
    have q3 : (0 : Int) ≤ (n : Int) + 1 := by omega
    have q4 : ¬ cap = 1 := hcap1
    have q5 : (1 : Int) ≤ (cap : Int) := by omega
    have q6 : (0 : Int) ≤ (cap : Int) := by omega
    have q7 : (n : Int) ≤ (cap : Int) := by omega
    have s3 : Hid (∀ j, j < news.length → (w.drew.cell? ⟨h, 0 + 0 * 4 + j, none⟩).isSome = true ∧ w.drew.frozen? ⟨h, 0 + 0 * 4 + j, none⟩ = false) := Lib.hid (fun j hj => by simpa using s0.out j (by omega))
    have s4 : Hid (∀ t u, news[t]? = some u → w.drew.cell? ((⟨h, 4, none⟩ : Addr).add t) = some u) := Lib.hid (fun t u hu => by rw [Addr.add_lit]; exact s1.out t u hu)
    have HW2 : Hid (W1 = w.drew.setCells h (0 + 0 * 4) news) := Lib.hid HW1.out
    clear hr hrd hp hcut hdl hpl hW1 hnews hvl
    go_enter Try.func67, Try.ntmps67
    go_wp2_with fail
    go_region_law (refine step_append_room rfl (.tmp 22) (.tmp 25) 27 rfl 37 i0 4 Try.underlying27 hi hz1 h 0 0 cap (by simp [Act.eval, Act.put]) ⟨h, 4, none⟩ n (cap - 1) news (by simp [Act.eval, Act.put]) hlen s4.out s2.out (by omega) s3.out ?_; rw [← HW2.out])
    go_wp2
    go_ret
    exact ⟨rfl, HEND.out⟩
end Go.Proofs.Ytdkbfmffnamdbaa
