/- The reference's book of transactions: Begin. No condition. -/
import Derived.Test.YtgdghinconghgaaTxnV
import Derived.Deep.RegionLawGrows
import Derived.BigRegion
set_option linter.unusedVariables false
set_option linter.unusedSimpArgs false
namespace Go.Proofs.Ytgdghinconghgaa
open Go.RowKit (wrap32 wrap64)
open Go.RowKit
set_option maxRecDepth 100000 in
set_option maxHeartbeats 4000000 in
theorem xbegin_nil (g : Nat) (id stamp : Int) (w : World) (hb : XBook w g none 0 []) :
    Calls Try.prog 58 #[.pointer (some ⟨g, 0, none⟩), .int .i64 stamp] w (XBegin g none [] ⟨id, stamp, 1, 0⟩ w) := by
  obtain ⟨i0, hi, hz0, hz1, hz2⟩ := info_parts Try.infoX
  have hc : w.cell? ⟨g, 0, none⟩ = some (.slice none 0 0) := hb.cell
  have hf := hb.1.frozen 0
  have hgl := hb.1.lt
  have HB := Lib.hid hb
  have hn1 := cell_new_a (.cells #[.int .i64 stamp, .int .i64 1, .int .i64 0] 98) hc
  have hn2 := frozen_new_a (.cells #[.int .i64 stamp, .int .i64 1, .int .i64 0] 98) hc hf
  clear hb
  go_enter Try.func58, Try.ntmps58
  go_wp2_with fail
  go_region_law ((refine step_append_grows rfl _ _ _ (by rfl) 98 i0 _ 3 24 Try.underlying92 hi hz0 hz1 hz2 rfl (by decide) none 0 0 [] (by rfl) (by intro _; exact ⟨rfl, rfl⟩) (by rfl) (by intro b hb; cases hb) ⟨w.heap.size, 0, none⟩ 1 1 [.int .i64 stamp, .int .i64 1, .int .i64 0] (by rfl) (by rfl) (World.news_of_block (cs := #[.int .i64 stamp, .int .i64 1, .int .i64 0]) (t := 98) (fr := (0, 0)) (heap_alloc_new w _)) (by simp [Value.oneCell']) (by omega) (by unfold maxLen; omega) (by omega) ?_
                  intro v' w1 hown1 hgrow
                  obtain ⟨h1, c1, rfl, hb1, hlt1⟩ := hown1.form (by omega)
                  have hc3 := (hgrow.cell_far ⟨g, 0, none⟩ (by simp; omega) (by simp)).trans hn1
                  have hf3 := (hgrow.frozen_far ⟨g, 0, none⟩ (by simp; omega) (by simp)).trans hn2))
  all_goals
    have hsame : (w1.setCell ⟨g, 0, none⟩ (.slice (some ⟨h1, 0, none⟩) (0 + 1) c1)).cell? ⟨g, 0, none⟩ = some (.slice (some ⟨h1, 0, none⟩) (0 + 1) c1) := World.cell?_setCell_same' _ _ _ (by rw [hc3]; rfl)
    clear hn1 hn2 hc hf hc3 hf3
    go_wp2
    go_ret
    have kk : Keep (fun _ => False) w w1 := Keep.trans (Keep.trans (Keep.alloc w _ _) (Keep.drew _ _)) (grown_keep hgrow _ (fun k e => by cases e))
    have hb1' : w.heap.size ≤ h1 := by have : (w.alloc (.cells #[.int .i64 stamp, .int .i64 1, .int .i64 0] 98)).heap.size ≤ h1 := hb1; simp at this; omega
    have hgg : g < (w.alloc (.cells #[.int .i64 stamp, .int .i64 1, .int .i64 0] 98)).heap.size := by simp; omega
    refine ⟨h1, c1, by simp, ⟨?_, ?_, ?_⟩, ?_, hb1'⟩
    · exact (kk.bk HB.out.1 (fun h => h)).set 0 _
    · exact own_weaken (own_keepS hown1 (Keep.set w1 g 0 _ (fun k => k = g) rfl) (fun i (hi : i = g) => by rw [hi]; exact hgg)) (Nat.zero_le _)
    · intro x hx; injection hx with hx; subst hx; exact ⟨by show h1 ≠ g; omega, by simp⟩
    · exact Keep.trans (kk.mono (fun _ h => h.elim)) (Keep.set w1 g 0 _ _ rfl)
set_option maxRecDepth 100000 in
set_option maxHeartbeats 4000000 in
theorem xbegin_any (g c : Nat) (A : Option Addr) (L : List Tx) (id stamp : Int) (w : World) (hb : XBook w g A c L) (hL : L.length ≤ 1000) :
    Calls Try.prog 58 #[.pointer (some ⟨g, 0, none⟩), .int .i64 stamp] w (XBegin g A L ⟨id, stamp, 1, 0⟩ w) := by
  obtain ⟨i0, hi, hz0, hz1, hz2⟩ := info_parts Try.infoX
  have hc := hb.cell
  have hf := hb.1.frozen 0
  have hgl := hb.1.lt
  have HB := Lib.hid hb
  have hlen : (flatV enX L).length = L.length * 3 := flatV_len enX_len L
  have hn1 := cell_new_a (.cells #[.int .i64 stamp, .int .i64 1, .int .i64 0] 98) hc
  have hn2 := frozen_new_a (.cells #[.int .i64 stamp, .int .i64 1, .int .i64 0] 98) hc hf
  have hcl : ∀ b, A = some b → ∀ j u, (flatV enX L)[j]? = some u → (w.alloc (.cells #[.int .i64 stamp, .int .i64 1, .int .i64 0] 98)).cell? (b.add j) = some u := by
    intro b hbb j u hu
    rcases hb.form with ⟨e, _, _⟩ | ⟨h, e, _⟩
    · rw [e] at hbb; cases hbb
    · rw [e] at hbb; injection hbb with hbb; subst hbb
      have := hb.2.1
      rw [e] at this
      exact cell_new_a _ (this.cells rfl j u hu)
  rcases hb.form with ⟨rfl, rfl, rfl⟩ | ⟨h, rfl, hgh, hhl, hN1, hNc, hcm⟩
  · exact xbegin_nil g id stamp w hb
  · generalize hN : L.length = N at hc hn1 hL hlen hN1 hNc
    have hNci : (N : Int) ≤ (c : Int) := by omega
    have hcm2 : c ≤ 9223372036854775807 := hcm
    have hc0 : 0 < c := by omega
    have HN := Lib.hid hN
    have HCL := Lib.hid hcl
    have HLEN := Lib.hid hlen
    clear hb hN hcl hlen
    go_enter Try.func58, Try.ntmps58
    go_wp2_with fail
    go_region_law ((refine step_append_grows rfl _ _ _ (by rfl) 98 i0 _ 3 24 Try.underlying92 hi hz0 hz1 hz2 rfl (by decide) (some ⟨h, 0, none⟩) N N (flatV enX L) (by rfl) (by intro e; cases e) HLEN.out HCL.out ⟨w.heap.size, 0, none⟩ 1 1 [.int .i64 stamp, .int .i64 1, .int .i64 0] (by rfl) (by rfl) (World.news_of_block (cs := #[.int .i64 stamp, .int .i64 1, .int .i64 0]) (t := 98) (fr := (0, 0)) (heap_alloc_new w _)) (by simp [Value.oneCell']) (by omega) (by unfold maxLen; omega) (by omega) ?_
                    intro v' w1 hown1 hgrow
                    obtain ⟨h1, c1, rfl, hb1, hlt1⟩ := hown1.form (by omega)
                    have hc3 := (hgrow.cell_far ⟨g, 0, none⟩ (by simp; omega) (by simp)).trans hn1
                    have hf3 := (hgrow.frozen_far ⟨g, 0, none⟩ (by simp; omega) (by simp)).trans hn2))
    all_goals
      have hsame : (w1.setCell ⟨g, 0, none⟩ (.slice (some ⟨h1, 0, none⟩) (N + 1) c1)).cell? ⟨g, 0, none⟩ = some (.slice (some ⟨h1, 0, none⟩) (N + 1) c1) := World.cell?_setCell_same' _ _ _ (by rw [hc3]; rfl)
      clear hn1 hn2 hc hf hc3 hf3
      go_wp2
      go_ret
      have kk : Keep (fun _ => False) w w1 := Keep.trans (Keep.trans (Keep.alloc w _ _) (Keep.drew _ _)) (grown_keep hgrow _ (fun k e => by cases e))
      have hb1' : w.heap.size ≤ h1 := by have : (w.alloc (.cells #[.int .i64 stamp, .int .i64 1, .int .i64 0] 98)).heap.size ≤ h1 := hb1; simp at this; omega
      have hgg : g < (w.alloc (.cells #[.int .i64 stamp, .int .i64 1, .int .i64 0] 98)).heap.size := by simp; omega
      have hl := HN.out
      have e1 : (L ++ [(⟨id, stamp, 1, 0⟩ : Tx)]).length = N + 1 := by simp [hl]
      refine ⟨h1, c1, by rw [hl]; simp, ⟨?_, ?_, ?_⟩, ?_, hb1'⟩
      · rw [e1]; exact (kk.bk HB.out.1 (fun h => h)).set 0 _
      · rw [e1, flatV_snoc]; exact own_weaken (own_keepS hown1 (Keep.set w1 g 0 _ (fun k => k = g) rfl) (fun i (hi : i = g) => by rw [hi]; exact hgg)) (Nat.zero_le _)
      · intro x hx; injection hx with hx; subst hx; exact ⟨by show h1 ≠ g; omega, by rw [e1]; omega⟩
      · exact Keep.trans (kk.mono (fun _ h => h.elim)) (Keep.set w1 g 0 _ _ rfl)
end Go.Proofs.Ytgdghinconghgaa
