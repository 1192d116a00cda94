/- need: Of, does, Plan. No condition. -/
import Derived.Test.YthkjkmjcnphjgaaRecLk
import Derived.Test.YthkjkmjcnphjgaaSamLk
import Derived.Test.YthkjkmjcnphjgaaPthE
import Derived.Test.YthkjkmjcnphjgaaModeG
set_option linter.unusedVariables false
set_option linter.unusedSimpArgs false
namespace Go.Proofs.Ythkjkmjcnphjgaa
open Go.RowKit (wrap32 wrap64)
open Go.RowKit Go.Shelf
def pathOf (l : Lk) : Pt := ⟨l.n0, l.n1, l.n2, l.n3, l.dep⟩
def isAt (p : Pt) (l : Lk) : Bool := decide (pathOf l = p)
def needOf (L : List Lk) (p : Pt) : Int := match L.find? (isAt p) with
  | some l => l.mode
  | none => 0
theorem needOf_hit (p : Pt) (L : List Lk) (k : Nat) (x : Lk) (hx : L[k]? = some x) (hp : isAt p x = true) (h : ∀ y ∈ L.take k, isAt p y = false) : needOf L p = x.mode := by
  have := idxB_find (isAt p) L
  unfold needOf
  rw [idxB_hit (isAt p) L k x hx hp h] at this
  cases hf : L.find? (isAt p) with
  | none => rw [hf] at this; simp at this
  | some y =>
    rw [hf] at this
    obtain ⟨k', h1, h2⟩ := this
    obtain rfl : k = k' := by omega
    rw [hx] at h2; cases h2; rfl
theorem needOf_miss (p : Pt) (L : List Lk) (h : ∀ x ∈ L, isAt p x = false) : needOf L p = 0 := by
  unfold needOf
  rw [List.find?_eq_none.2 (fun x hx => by rw [h x hx]; simp)]
theorem nfind1_pred (p : Pt) (B : Nat) (w : World) (S : Nat → Prop) (hB : ¬ S B) (hc : Bk w B 51 (ptA p)) :
    PredS Try.prog 115 #[.pointer (some ⟨B, 0, none⟩)] enLk (isAt p) S w := fun W x k => by
  have hW := k.bk hc hB
  have hBW := hW.lt
  have hne : B ≠ W.heap.size := Nat.ne_of_lt hBW
  obtain ⟨y0, y1, y2, y3, y4⟩ := p
  obtain ⟨x0, x1, x2, x3, x4, x5⟩ := x
  show Calls Try.prog 115 #[.agg #[.int .i64 x0, .int .i64 x1, .int .i64 x2, .int .i64 x3, .int .i64 x4, .int .i64 x5], .pointer (some ⟨B, 0, none⟩)] W _
  have hO : Below W.heap.size W (W.alloc (.cells #[.int .i64 x0, .int .i64 x1, .int .i64 x2, .int .i64 x3, .int .i64 x4, .int .i64 x5] 57)) := (Below.refl _ _).alloc (Nat.le_refl _) _
  have hW2 := hW.below hO
  have c0 := hW2.cell 0
  have c1 := hW2.cell 1
  have c2 := hW2.cell 2
  have c3 := hW2.cell 3
  have c4 := hW2.cell 4
  have hq := eqlPt ⟨x0, x1, x2, x3, x4⟩ ⟨y0, y1, y2, y3, y4⟩
  have hg := gdPt
  have hr : isAt ⟨y0, y1, y2, y3, y4⟩ ⟨x0, x1, x2, x3, x4, x5⟩ = decide ((⟨x0, x1, x2, x3, x4⟩ : Pt) = ⟨y0, y1, y2, y3, y4⟩) := rfl
  rw [hr]
  generalize decide ((⟨x0, x1, x2, x3, x4⟩ : Pt) = ⟨y0, y1, y2, y3, y4⟩) = r at hq ⊢
  clear k hc hW hW2 hBW hr
  dsimp only at hq
  go_enter Try.func115, Try.ntmps115
  go_wp2
  go_ret
  exact ⟨rfl, hO⟩
set_option maxHeartbeats 1000000 in
theorem nfind_any (a : Option Addr) (len cap : Nat) (L : List Lk) (p : Pt) (w : World) (hl : Lks w a len L) (hn : len ≤ 1000) :
    Calls Try.prog 82 #[.slice a len cap, .agg (ptA p)] w fun e w' => e = .returned (.int .i64 (idxB (isAt p) L)) ∧ Below w.heap.size w w' := by
  have hO : Below w.heap.size w (w.alloc (.cells (ptA p) 51)) := (Below.refl _ _).alloc (Nat.le_refl _) _
  have hB := Bk.new w 51 (ptA p)
  have hcon := idxLk_any (isAt p) 115 #[.pointer (some ⟨w.heap.size, 0, none⟩)] (enters_of Try.func115 (by kernel_rfl) rfl) (fun _ => False) a len cap L (w.alloc (.cells (ptA p) 51)) (hl.below hO) hn (nfind1_pred p _ _ _ (fun h => h) hB)
  have HC := Lib.hid hcon
  clear hcon hl hB
  go_enter Try.func82, Try.ntmps82
  go_wp2_with (go_at_call 114; refine HC.out.mono ?_; rintro e w1 ⟨rfl, hb1⟩)
  go_ret
  exact ⟨rfl, bl_then hO (Nat.le_refl _) hb1⟩
set_option maxHeartbeats 1000000 in
theorem nof_any (a : Option Addr) (len cap : Nat) (L : List Lk) (p : Pt) (w : World) (hl : Lks w a len L) (hn : len ≤ 1000) :
    Calls Try.prog 35 #[.slice a len cap, .agg (ptA p)] w fun e w' => e = .returned (.int .i64 (needOf L p)) ∧ Below w.heap.size w w' := by
  have hO : Below w.heap.size w (w.alloc (.cells (ptA p) 51)) := (Below.refl _ _).alloc (Nat.le_refl _) _
  have hB := Bk.new w 51 (ptA p)
  have q0 := hB.cell 0
  have q1 := hB.cell 1
  have q2 := hB.cell 2
  have q3 := hB.cell 3
  have q4 := hB.cell 4
  have hf := nfind_any a len cap L p _ (hl.below hO) hn
  rcases idxB_spec (isAt p) L with ⟨h1, h2⟩ | ⟨k, x, h1, h2, h3, h4⟩
  · rw [h1] at hf
    rw [needOf_miss p L h2]
    have HF := Lib.hid hf
    clear hf hl h1 h2 hB
    go_enter Try.func35, Try.ntmps35
    go_wp2_with (go_at_call 82; refine HF.out.mono ?_; rintro e w1 ⟨rfl, hb1⟩)
    go_ret
    exact ⟨rfl, bl_then hO (Nat.le_refl _) hb1⟩
  · rw [h1] at hf
    rw [needOf_hit p L k x h2 h3 h4]
    have hk : k < len := by rw [← hl.len]; exact (List.getElem?_eq_some_iff.1 h2).1
    have hlx := fun W (hb : Below w.heap.size w W) => Lk_at (hl.below hb) hk
    have HLX := Lib.hid hlx
    have HX := Lib.hid h2
    have HF := Lib.hid hf
    clear hf hl h1 h2 h3 h4 hlx hB
    go_enter Try.func35, Try.ntmps35
    go_wp2_with (go_at_call 82; refine HF.out.mono ?_; rintro e w1 ⟨rfl, hb1⟩; have HB1 := bl_then hO (Nat.le_refl _) hb1; obtain ⟨b, off, x', rfl, _, hx', _, d0, d1, d2, d3, d4, d5⟩ := HLX.out _ HB1; rw [HX.out] at hx'; obtain rfl := Option.some.inj hx'; clear hx')
    go_ret
    exact ⟨rfl, HB1⟩
set_option maxHeartbeats 1000000 in
theorem does_any (m : Int) (w : World) : Calls Try.prog 77 #[.int .i64 m] w fun e w' => e = .returned (.float .f64 (fb (reT m))) ∧ Below w.heap.size w w' := by
  go_enter Try.func77, Try.ntmps77
  go_wp2_with (go_at_call 109; refine (at_any _ _).mono ?_; rintro e w1 ⟨rfl, hb1⟩; unfold ptv)
  go_ret
  exact ⟨rfl, hb1⟩
theorem run_geq_fb {P : Program} {w : World} (t : TypeId) (i j : Int) (hi : 0 ≤ i ∧ i ≤ 3) (hj : 0 ≤ j ∧ j ≤ 3) : (binOp .geq t (.float .f64 (fb i)) (.float .f64 (fb j))).run P w = .ok (.bool (decide (j ≤ i))) w := by
  have e : binOp .geq t (.float .f64 (fb i)) (.float .f64 (fb j)) = pure (.bool (decide (j ≤ i))) := by
    refine four (p := fun i => binOp .geq t (.float .f64 (fb i)) (.float .f64 (fb j)) = pure (.bool (decide (j ≤ i)))) ?_ ?_ ?_ ?_ i hi <;>
    refine four (p := fun j => binOp .geq t (.float .f64 (fb _)) (.float .f64 (fb j)) = pure (.bool (decide (j ≤ _)))) ?_ ?_ ?_ ?_ j hj <;> kernel_rfl
  rw [e]; rfl
/-- What a plan comes to, node by node. -/
def planW (L : List Lk) (p : Pt) (m : Int) : List Pt → List Lk
  | [] => []
  | a :: ws =>
    if a = p then (if covT (needOf L a) (supT (needOf L a) m) then [] else [⟨a.n0, a.n1, a.n2, a.n3, a.dep, supT (needOf L a) m⟩]) ++ planW L p m ws
    else if reT m ≤ reT (needOf L a) then []
    else (if covT (needOf L a) (supT (needOf L a) (parT m)) then [] else [⟨a.n0, a.n1, a.n2, a.n3, a.dep, supT (needOf L a) (parT m)⟩]) ++ planW L p m ws
theorem planW_len (L : List Lk) (p : Pt) (m : Int) (ws : List Pt) : (planW L p m ws).length ≤ ws.length := by
  induction ws with
  | nil => exact Nat.le_refl _
  | cons a ws ih =>
    unfold planW
    split
    · rw [List.length_append, List.length_cons]; split <;> simp <;> omega
    · split
      · simp
      · rw [List.length_append, List.length_cons]; split <;> simp <;> omega
def okMode (m : Int) : Bool := m == 3 || m == 5 || m == 6
def planT (L : List Lk) (p : Pt) (m : Int) : List Lk := if mayP p && okMode m then planW L p m (ways p) else []
def planE (p : Pt) (m : Int) : Int := if mayP p && okMode m then 0 else 1
/-- What Plan hands back. -/
def PlanRet (w : World) (L : List Lk) (p : Pt) (m : Int) (e : Ending) (w' : World) : Prop :=
  ∃ v, e = .returned (.tuple #[v, .int .i64 (planE p m)]) ∧ w'.ownsRow w.heap.size 57 6 v (planT L p m).length (flatV enLk (planT L p m)) ∧ Below w.heap.size w w'
theorem drop_cons {α : Type} (L : List α) (k : Nat) (x : α) (h : L[k]? = some x) : L.drop k = x :: L.drop (k + 1) := by
  obtain ⟨h1, h2⟩ := List.getElem?_eq_some_iff.1 h
  rw [List.drop_eq_getElem_cons h1, h2]
end Go.Proofs.Ythkjkmjcnphjgaa
