/- queue: the reference's Copy. No condition. -/
import Derived.Test.YtdkbfmffnamdbaaQvc
set_option linter.unusedVariables false
set_option linter.unusedSimpArgs false
namespace Go.Proofs.Ytdkbfmffnamdbaa
open Go.RowKit (wrap32 wrap64)
open Go.RowKit
set_option maxRecDepth 100000 in
set_option maxHeartbeats 4000000 in
theorem rqcopy_any (x : Nat) (H : List Hd) (W : List Wt) (w : World) (h : RQ w x H W) (hn : H.length ≤ 900) (hn2 : W.length ≤ 900) : Calls Try.prog 16 #[.pointer (some ⟨x, 0, none⟩)] w (RCopyRet w H W) := by
  have h0 := h
  obtain ⟨vH, vW, hb, ⟨a, n, c, rfl, hs, _⟩, ⟨a2, n2, c2, rfl, hs2, _⟩⟩ := h
  have e1 := hs.len
  have e2 := hs2.len
  rw [e1] at hn
  rw [e2] at hn2
  obtain ⟨i0, hi, hz0, hz1, hz2⟩ := info_parts Try.infoHd
  obtain ⟨j0, hj, hy0, hy1, hy2⟩ := info_parts Try.infoWt
  have HSH := Lib.hid (fun W1 (hb : Below w.heap.size w W1) => hs.below hb)
  have HSW := Lib.hid (fun W1 (hb : Below w.heap.size w W1) => hs2.below hb)
  have HB := Lib.hid hb
  have HOKH := Lib.hid h0.okH
  have HOKW := Lib.hid h0.okW
  have HE := Lib.hid (And.intro e1 e2)
  have HD0 := below_drew w
  have c0 := hb.cell 0
  have c1 := hb.cell 1
  have c2' := hb.cell 2
  have c3 := hb.cell 3
  have c4 := hb.cell 4
  have c5 := hb.cell 5
  have c6 := hb.cell 6
  clear h0 hb hs hs2 e1 e2
  go_enter Try.func16, Try.ntmps16
  go_wp2
  go_region_law (first
    | (refine step_append_recs (ok := okHd) enHd_len (by omega) enHd_one (by rfl) _ _ 26 (by rfl) w.heap.size 82 i0 _ 16 Try.underlying26 hi hz0 hz1 hz2 rfl (.slice none 0 0) 0 [] (by rfl) (World.ownsRow_nil _ _ _ _) a n c H (by simp [Act.eval, Act.put]) (HSH.out _ (by assumption)) (by unfold maxLen; omega) (by omega) (by first | exact Nat.le_refl _ | exact HL.out) ?_
       intro v2 w2 hownH hg2
       rw [Nat.zero_add] at hownH
       have HB2 : Below w.heap.size w w2 := grown_below hg2 (by assumption)
       have HL : Hid (w.heap.size ≤ w2.heap.size) := Lib.hid HB2.size
       have d0 := (HB.out.below HB2).cell 0
       have d1 := (HB.out.below HB2).cell 1
       have d2 := (HB.out.below HB2).cell 2
       have d3 := (HB.out.below HB2).cell 3
       have d4 := (HB.out.below HB2).cell 4
       have d5 := (HB.out.below HB2).cell 5
       have d6 := (HB.out.below HB2).cell 6
       (try replace hownW := own_grown hownW hg2)
       (try obtain ⟨aH2, cH2, rfl, _, _, _⟩ := SR.own (ok := fun _ => True) enHd_len (by omega) hownH (fun _ _ => trivial)))
    | (go_loud (refine step_append_recs (ok := okWt) enWt_len (by omega) enWt_one (by rfl) _ _ 27 (by rfl) w.heap.size 37 j0 _ 24 Try.underlying27 hj hy0 hy1 hy2 rfl (.slice none 0 0) 0 [] (by rfl) (World.ownsRow_nil _ _ _ _) a2 n2 c2 W (by simp [Act.eval, Act.put]) (HSW.out _ (by assumption)) (by unfold maxLen; omega) (by omega) (by first | exact Nat.le_refl _ | exact HL.out) ?_)
       intro v3 w3 hownW hg3
       rw [Nat.zero_add] at hownW
       have HB3 : Below w.heap.size w w3 := grown_below hg3 (by assumption)
       (try replace hownH := own_grown hownH hg3)
       have HL : Hid (w.heap.size ≤ w3.heap.size) := Lib.hid HB3.size
       have d0 := (HB.out.below HB3).cell 0
       have d1 := (HB.out.below HB3).cell 1
       have d2 := (HB.out.below HB3).cell 2
       have d3 := (HB.out.below HB3).cell 3
       have d4 := (HB.out.below HB3).cell 4
       have d5 := (HB.out.below HB3).cell 5
       have d6 := (HB.out.below HB3).cell 6
       (try obtain ⟨aW2, cW2, rfl, _, _, _⟩ := SR.own (ok := fun _ => True) enWt_len (by omega) hownW (fun _ _ => trivial))))
  all_goals
    go_wp2
    go_ret
    first
      | exact rcopy_end HB2 hownH hownW HOKH.out HOKW.out
      | exact rcopy_end HB3 hownH hownW HOKH.out HOKW.out
end Go.Proofs.Ytdkbfmffnamdbaa
