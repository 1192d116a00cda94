/- request: Insert. No condition. -/
import Derived.Test.YtdkbfmffnamdbaaReqD
import Derived.Deep.RegionWith
import Derived.Shelf.RegionOpenPlain
set_option linter.unusedVariables false
set_option linter.unusedSimpArgs false
namespace Go.Proofs.Ytdkbfmffnamdbaa
open Go.RowKit (wrap32 wrap64)
open Go.RowKit
set_option maxRecDepth 100000 in
set_option maxHeartbeats 8000000 in
theorem qinsert_any (a : Option Addr) (len cap : Nat) (L : List Wt) (x : Wt) (w : World) (hl : Wts w a len L) (hnil : a = none → len = 0 ∧ cap = 0) (hok : okWt x) (hn : len ≤ 900) :
    Calls Try.prog 35 #[.slice a len cap, .agg #[.int .i64 x.tx, .int .i64 x.mode, .bool x.conv, .bool x.inst]] w (OwnRet enWt 37 4 w (insT x L)) := by
  have hll := hl.len
  have hall := hl.all
  obtain ⟨o, ho⟩ : ∃ o : Obj, o = .cells #[.int .i64 x.tx, .int .i64 x.mode, .bool x.conv, .bool x.inst] 37 := ⟨_, rfl⟩
  obtain ⟨wA, hA⟩ : ∃ wA, wA = w.alloc (.cells #[.int .i64 x.tx, .int .i64 x.mode, .bool x.conv, .bool x.inst] 37) := ⟨_, rfl⟩
  have hO : Below w.heap.size w wA := by rw [hA]; exact (Below.refl _ _).alloc (Nat.le_refl _) _
  have hsA : wA.heap.size = w.heap.size + 1 := by rw [hA]; simp
  have hbx : Bk wA w.heap.size 37 #[.int .i64 x.tx, .int .i64 x.mode, .bool x.conv, .bool x.inst] := by rw [hA]; exact Bk.new w 37 #[.int .i64 x.tx, .int .i64 x.mode, .bool x.conv, .bool x.inst]
  have hlA := hl.below hO
  have HCL := Lib.hid (fun W (hb : Below wA.heap.size wA W) => cloneWt_any a len cap L W (hlA.below hb) hnil (by omega))
  have HPL := Lib.hid (fun W (hb : Below wA.heap.size wA W) => qplace_any a len cap L x.conv W (hlA.below hb) (by omega))
  have HD0 : Below wA.heap.size wA wA.drew := below_drew wA
  have HRET : Hid (∀ v W, W.ownsRow w.heap.size 37 4 v (insT x L).length (flatV enWt (insT x L)) → Below w.heap.size w W → OwnRet enWt 37 4 w (insT x L) (.returned v) W) := Lib.hid (fun v W h hb => ⟨v, rfl, h, hb⟩)
  have HINS : Hid (∀ (A : Option Addr) (c g : Nat) (W : World), W.ownsRow w.heap.size 37 4 (.slice A len c) len (flatV enWt L) → Bk W g 37 #[.int .i64 x.tx, .int .i64 x.mode, .bool x.conv, .bool x.inst] → (∀ y, A = some y → g ≠ y.block) → w.heap.size ≤ W.heap.size → Calls Try.prog 62 #[.slice A len c, .int .i64 (placeT L x.conv), .slice (some ⟨g, 0, none⟩) 1 1] W (InsRet enWt 37 4 w.heap.size W (.slice A len c) (insT x L))) := Lib.hid (fun A c g W h1 h2 h3 h4 => by subst hll; exact insWt_any w.heap.size A c L x (placeT L x.conv) g _ W h1 h2 hok h3 (placeT_le _ _) (by omega) h4)
  have x0 := hbx.cell 0
  have x1 := hbx.cell 1
  have x2 := hbx.cell 2
  have x3 := hbx.cell 3
  have HX := Lib.hid hbx
  have hN0 : w.heap.size ≠ wA.heap.size := by omega
  clear hl hlA hbx hnil hn
  go_enter Try.func35, Try.ntmps35
  go_wp2_with fail
  rw [← hA]
  clear hA
  have hOl : ∀ {B : Nat} {W0 W : World}, Below B W0 W → B ≤ W0.heap.size → Below B W0 (W.alloc (.cells #[.int .i64 x.tx, .int .i64 x.mode, .bool x.conv, .bool x.inst] 37)) := fun h hB => h.alloc (Nat.le_trans hB h.size) _
  have HD1 := hOl HD0 (Nat.le_refl _)
  have y2 := cell_new_a (.cells #[.int .i64 x.tx, .int .i64 x.mode, .bool x.conv, .bool x.inst] 37) x2
  have HG0 : Bk (wA.drew.alloc (.cells #[.int .i64 x.tx, .int .i64 x.mode, .bool x.conv, .bool x.inst] 37)) (w.heap.size + 1) 37 #[.int .i64 x.tx, .int .i64 x.mode, .bool x.conv, .bool x.inst] := by
    have h := Bk.new wA.drew 37 #[.int .i64 x.tx, .int .i64 x.mode, .bool x.conv, .bool x.inst]
    rw [show wA.drew.heap.size = w.heap.size + 1 from hsA] at h
    exact h
  have HAL := Lib.hid hall
  have HLL := Lib.hid hll
  have HO := Lib.hid hO
  clear hall ho hO hll
  go_region_with (first
    | (go_at_call 36; refine (HCL.out _ (by first | exact HD0 | exact HD1)).mono ?_; rintro e w2 ⟨v, rfl, hown0, hb2⟩; rw [HLL.out] at hown0; have HB2 : Below wA.heap.size wA w2 := (by first | exact bl_then HD0 (Nat.le_refl _) hb2 | exact bl_then HD1 (Nat.le_refl _) hb2); have hgb := hb2.size; obtain ⟨A, cA, rfl, _, _, hab⟩ := SR.own (ok := okWt) enWt_len (by omega) hown0 HAL.out; have hown2 := own_weaken (base' := w.heap.size) hown0 (by simp; omega); (try have HG2 := HG0.below hb2); have hbx2 := HX.out.below HB2; clear x0 x1 x2 x3; have x0 := hbx2.cell 0; have x1 := hbx2.cell 1; have x2 := hbx2.cell 2; have x3 := hbx2.cell 3; have z2 := cell_new_a (.cells #[.int .i64 x.tx, .int .i64 x.mode, .bool x.conv, .bool x.inst] 37) x2)
    | (go_at_call 61; refine (HPL.out _ (by first | exact HB2 | exact hOl HB2 (Nat.le_refl _))).mono ?_; rintro e w3 ⟨rfl, hb3⟩; have HBQ : Below w2.heap.size w2 w3 := (by first | exact hb3 | exact bl_then ((Below.refl _ _).alloc (Nat.le_refl _) _) (Nat.le_refl _) hb3); have HB3 : Below wA.heap.size wA w3 := bl_then HB2 (Nat.le_refl _) HBQ; have hown3 := own_below hown2 HBQ; (try have HG3 := HG2.below HBQ); (try have HG3 := (Bk.new w2 37 #[.int .i64 x.tx, .int .i64 x.mode, .bool x.conv, .bool x.inst]).below hb3); have hbx3 := HX.out.below HB3; clear x0 x1 x2 x3; have x0 := hbx3.cell 0; have x1 := hbx3.cell 1; have x2 := hbx3.cell 2; have x3 := hbx3.cell 3; have hs3 := HBQ.size; have hs5 := HB3.size)
    | (go_at_call 62; go_loud (refine (HINS.out A cA _ _ ?_ ?_ ?_ ?_).mono ?_; (first | exact hown3 | exact hown3.alloc _); (first | exact HG3 | exact Bk.new _ _ _); (intro y hy; have hy2 := own_slot hown2 y hy; have hy3 := hab y hy; simp only [World.size_alloc, World.size_drew] at *; omega); (first | (simp only [World.size_alloc]; omega) | omega); rintro e w4 ⟨v4, rfl, hown4, hk4⟩)))
  all_goals
    go_wp2
    go_ret
    refine HRET.out _ _ hown4 (bl_keep (w1 := _) ?_ hk4 (fun i hi => ?_))
    · first | exact bl_then HO.out (Nat.le_refl _) HB3 | exact hOl (bl_then HO.out (Nat.le_refl _) HB3) (Nat.le_refl _)
    · cases A with
      | none => cases hi
      | some y => cases hi; exact (own_slot hown2 y rfl).1
end Go.Proofs.Ytdkbfmffnamdbaa
