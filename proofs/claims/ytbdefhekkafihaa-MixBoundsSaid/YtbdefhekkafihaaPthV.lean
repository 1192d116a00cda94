/- Nodes: Make, by the program and by the reference. No condition. -/
import Derived.Test.YtbdefhekkafihaaPthI
import Derived.Laws.IdiomCopy
set_option linter.unusedVariables false
set_option linter.unusedSimpArgs false
namespace Go.Proofs.Ytbdefhekkafihaa
open Go.RowKit (wrap32 wrap64)
open Go.RowKit Go.Shelf
def ptOfI (l : List Int) : Pt := ⟨l.getD 0 0, l.getD 1 0, l.getD 2 0, l.getD 3 0, l.length⟩
def makeP (l : List Int) : Option Pt := if l.length ≤ 4 ∧ mayP (ptOfI l) = true then some (ptOfI l) else none
def makeV (o : Option Pt) : Value := .tuple #[.agg (ptA (o.getD zeroP)), .int .i64 (if o.isSome then 0 else 1)]
theorem make_fill (xs : List Int) (h : xs.length ≤ 4) {w : World} {B : Nat} (hb : Bk w B 50 #[.int .i64 0, .int .i64 0, .int .i64 0, .int .i64 0, .int .i64 (xs.length : Int)]) : Bk (w.setCells B 0 (xs.map (Value.int .i64))) B 50 (ptA (ptOfI xs)) := by
  match xs, h with
  | [], _ => exact hb
  | [a], _ => exact hb.set 0 _
  | [a, b], _ => exact (hb.set 0 _).set 1 _
  | [a, b, c], _ => exact ((hb.set 0 _).set 1 _).set 2 _
  | [a, b, c, d], _ => exact (((hb.set 0 _).set 1 _).set 2 _).set 3 _
theorem make_copy (w : World) (B : Nat) (a : Option Addr) (n cap : Nat) (xs : List Int) (hl : Ints w a n xs) (h4 : n ≤ 4) (hb : Bk w B 50 #[.int .i64 0, .int .i64 0, .int .i64 0, .int .i64 0, .int .i64 (n : Int)]) (ty : TypeId) :
    (Builtin.copy_ #[36, 36] ty #[.slice (some ⟨B, 0, none⟩) 4 4, .slice a n cap]).run Try.prog w = .ok (goInt (xs.map (Value.int .i64)).length) (w.setCells B 0 (xs.map (Value.int .i64))) := by
  have hln := hl.len
  have hi : (Try.prog.info? 3).map (fun i => i.size) = some 1 := by kernel_rfl
  by_cases h0 : n = 0
  · subst h0
    obtain rfl : xs = [] := List.eq_nil_of_length_eq_zero hln
    exact run_copy_none (P := Try.prog) w 36 36 ty 3 (some ⟨B, 0, none⟩) a 4 4 0 cap Try.underlying36 hi rfl
  · obtain ⟨b, off, rfl, _⟩ := hl.get (i := 0) (by omega)
    refine run_copy_cells (P := Try.prog) w 36 36 ty 3 B 0 4 4 ⟨b, off, none⟩ n cap (xs.map (Value.int .i64)) Try.underlying36 hi (by rw [List.length_map, hln]; exact (Nat.min_eq_left h4).symm) (fun j v hj => ?_) (fun j hj => ?_) (fun j hj => hb.frozen _) (fun v hv => ?_)
    · have hjl : j < n := by have := (List.getElem?_eq_some_iff.1 hj).1; rw [List.length_map, hln] at this; exact this
      obtain ⟨b', off', he, hc⟩ := hl.get hjl
      obtain ⟨rfl, rfl⟩ : b = b' ∧ off = off' := by simpa using he
      have hadd : (⟨b, off, none⟩ : Addr).add j = ⟨b, off + j, none⟩ := by unfold Addr.add; split <;> simp_all
      rw [hadd, hc]
      rw [List.getElem?_map] at hj
      cases hx : xs[j]? with
      | none => rw [hx] at hj; cases hj
      | some x =>
        rw [hx] at hj
        rw [List.getD, hx]
        exact hj
    · rw [List.length_map, hln] at hj
      rw [hb.cell (0 + j), Array.getElem?_eq_getElem (by simp; omega)]; rfl
    · obtain ⟨x, _, rfl⟩ := List.mem_map.1 hv
      rfl
set_option maxRecDepth 100000 in
set_option maxHeartbeats 2000000 in
theorem pmake_big (a : Option Addr) (n cap : Nat) (w : World) (h : 4 < n) : Calls Try.prog 44 #[.slice a n cap] w fun e w' => e = .returned (.tuple #[.agg #[.int .i64 0, .int .i64 0, .int .i64 0, .int .i64 0, .int .i64 0], .int .i64 1]) ∧ Below w.heap.size w w' := by
  have h4 : (4 : Int) < (n : Int) := by omega
  have hO : Below w.heap.size w (w.alloc (.cells #[.int .i64 0, .int .i64 0, .int .i64 0, .int .i64 0, .int .i64 0] 50)) := (Below.refl _ _).alloc (Nat.le_refl _) _
  have hb := Bk.new w 50 #[.int .i64 0, .int .i64 0, .int .i64 0, .int .i64 0, .int .i64 0]
  go_enter Try.func44, Try.ntmps44
  go_wp2
  have z0 := hb.cell 0
  have z1 := hb.cell 1
  have z2 := hb.cell 2
  have z3 := hb.cell 3
  have z4 := hb.cell 4
  exact bodyPost_ret (v := .tuple #[.agg #[.int .i64 0, .int .i64 0, .int .i64 0, .int .i64 0, .int .i64 0], .int .i64 1]) (by simp [results, Try.results44, go_sem, z0, z1, z2, z3, z4]) rfl ⟨rfl, hO⟩
set_option maxRecDepth 100000 in
set_option maxHeartbeats 2000000 in
theorem pmake_small (a : Option Addr) (n cap : Nat) (xs : List Int) (w : World) (hl : Ints w a n xs) (h : n ≤ 4) (q : Pt) (hq : ptOfI xs = q) (y0 y1 y2 y3 y4 ye : Int) (hy : (mayP q = true ∧ #[.int .i64 y0, .int .i64 y1, .int .i64 y2, .int .i64 y3, .int .i64 y4] = ptA q ∧ ye = 0) ∨ (mayP q = false ∧ y0 = 0 ∧ y1 = 0 ∧ y2 = 0 ∧ y3 = 0 ∧ y4 = 0 ∧ ye = 1)) : Calls Try.prog 44 #[.slice a n cap] w fun e w' => e = .returned (.tuple #[.agg #[.int .i64 y0, .int .i64 y1, .int .i64 y2, .int .i64 y3, .int .i64 y4], .int .i64 ye]) ∧ Below w.heap.size w w' := by
  have h4 : ¬ (4 : Int) < (n : Int) := by omega
  have hln := hl.len
  obtain ⟨hO, hR, hB⟩ : Below w.heap.size w ((w.alloc (.cells #[.int .i64 0, .int .i64 0, .int .i64 0, .int .i64 0, .int .i64 0] 50)).alloc (.cells #[.int .i64 0, .int .i64 0, .int .i64 0, .int .i64 0, .int .i64 (n : Int)] 50)) ∧ Bk ((w.alloc (.cells #[.int .i64 0, .int .i64 0, .int .i64 0, .int .i64 0, .int .i64 0] 50)).alloc (.cells #[.int .i64 0, .int .i64 0, .int .i64 0, .int .i64 0, .int .i64 (n : Int)] 50)) w.heap.size 50 #[.int .i64 0, .int .i64 0, .int .i64 0, .int .i64 0, .int .i64 0] ∧ Bk ((w.alloc (.cells #[.int .i64 0, .int .i64 0, .int .i64 0, .int .i64 0, .int .i64 0] 50)).alloc (.cells #[.int .i64 0, .int .i64 0, .int .i64 0, .int .i64 0, .int .i64 (n : Int)] 50)) (w.heap.size + 1) 50 #[.int .i64 0, .int .i64 0, .int .i64 0, .int .i64 0, .int .i64 (n : Int)] := two_box zeroP ⟨0, 0, 0, 0, (n : Int)⟩ w
  have hcp := make_copy _ (w.heap.size + 1) a n cap xs (hl.below hO) h hB
  have hF := make_fill xs (by omega) (by rw [hln]; exact hB)
  rw [hq] at hF
  have hK : Keep (fun i => i = w.heap.size + 1) _ _ := Keep.setCells (S := fun i => i = w.heap.size + 1) (w.heap.size + 1) rfl (xs.map (Value.int .i64)) 0 ((w.alloc (.cells #[.int .i64 0, .int .i64 0, .int .i64 0, .int .i64 0, .int .i64 0] 50)).alloc (.cells #[.int .i64 0, .int .i64 0, .int .i64 0, .int .i64 0, .int .i64 (n : Int)] 50))
  have hR2 := hK.bk hR (by omega)
  have hO2 := hO.trans (hK.below (B := w.heap.size) (by have := hO.size; omega) (fun i hi => by omega))
  generalize hW2 : ((w.alloc (.cells #[.int .i64 0, .int .i64 0, .int .i64 0, .int .i64 0, .int .i64 0] 50)).alloc (.cells #[.int .i64 0, .int .i64 0, .int .i64 0, .int .i64 0, .int .i64 (n : Int)] 50)).setCells (w.heap.size + 1) 0 (xs.map (Value.int .i64)) = w2 at hcp hF hR2 hO2
  obtain ⟨q0, q1, q2, q3, q4⟩ := q
  have hm := fun W => pmay_any ⟨q0, q1, q2, q3, q4⟩ W
  have c0 := hF.cell 0
  have c1 := hF.cell 1
  have c2 := hF.cell 2
  have c3 := hF.cell 3
  have c4 := hF.cell 4
  have HO2 := Lib.hid hO2
  clear hW2 hK hR hB hO hq hl hln hO2
  rcases hy with ⟨hy1, hy2, hy3⟩ | ⟨hy1, rfl, rfl, rfl, rfl, rfl, rfl⟩
  · rw [hy1] at hm
    have HM := Lib.hid hm
    subst hy3
    obtain ⟨rfl, rfl, rfl, rfl, rfl⟩ : y0 = q0 ∧ y1 = q1 ∧ y2 = q2 ∧ y3 = q3 ∧ y4 = q4 := by simpa [ptA] using hy2
    clear hm hy1 hy2
    go_enter Try.func44, Try.ntmps44
    go_wp2_with (go_at_call 31; refine (HM.out _).mono ?_; rintro e w3 ⟨rfl, hb3⟩; have k3 := hF.below hb3; have r3 := hR2.below hb3; have HB3 := bl_then HO2.out (Nat.le_refl _) hb3; clear c0 c1 c2 c3 c4 hF hR2 hb3 hcp; have e0 := k3.cell 0; have e1 := k3.cell 1; have e2 := k3.cell 2; have e3 := k3.cell 3; have e4 := k3.cell 4; have r0 := r3.cell 0; have r1 := r3.cell 1; have r2 := r3.cell 2; have r4 := r3.cell 4; have r33 := r3.cell 3; have f0 := r3.frozen 0; have f1 := r3.frozen 1; have f2 := r3.frozen 2; have f3 := r3.frozen 3; have f4 := r3.frozen 4; have HF := Lib.hid (five_sets r3 (.int .i64 y0) (.int .i64 y1) (.int .i64 y2) (.int .i64 y3) (.int .i64 y4)); clear k3 r3)
    obtain ⟨z0, z1, z2, z3, z4⟩ := HF.out
    exact bodyPost_ret (v := .tuple #[.agg #[.int .i64 y0, .int .i64 y1, .int .i64 y2, .int .i64 y3, .int .i64 y4], .int .i64 0]) (by simp [results, Try.results44, go_sem, z0, z1, z2, z3, z4]) rfl ⟨rfl, five_below HB3 (Nat.le_refl _) _ _ _ _ _⟩
  · rw [hy1] at hm
    have HM := Lib.hid hm
    clear hm hy1
    go_enter Try.func44, Try.ntmps44
    go_wp2_with (go_at_call 31; refine (HM.out _).mono ?_; rintro e w3 ⟨rfl, hb3⟩; have r3 := hR2.below hb3; have HB3 := bl_then HO2.out (Nat.le_refl _) hb3; clear c0 c1 c2 c3 c4 hF hR2 hb3 hcp; have r0 := r3.cell 0; have r1 := r3.cell 1; have r2 := r3.cell 2; have r4 := r3.cell 4; have r33 := r3.cell 3; have f0 := r3.frozen 0; have f1 := r3.frozen 1; have f2 := r3.frozen 2; have f3 := r3.frozen 3; have f4 := r3.frozen 4; have HF := Lib.hid (five_sets r3 (.int .i64 0) (.int .i64 0) (.int .i64 0) (.int .i64 0) (.int .i64 0)); clear r3)
    obtain ⟨z0, z1, z2, z3, z4⟩ := HF.out
    exact bodyPost_ret (v := .tuple #[.agg #[.int .i64 0, .int .i64 0, .int .i64 0, .int .i64 0, .int .i64 0], .int .i64 1]) (by simp [results, Try.results44, go_sem, z0, z1, z2, z3, z4]) rfl ⟨rfl, five_below HB3 (Nat.le_refl _) _ _ _ _ _⟩
theorem pmake_any (a : Option Addr) (n cap : Nat) (xs : List Int) (w : World) (hl : Ints w a n xs) : Calls Try.prog 44 #[.slice a n cap] w fun e w' => e = .returned (makeV (makeP xs)) ∧ Below w.heap.size w w' := by
  have hln := hl.len
  by_cases h : 4 < n
  · rw [show makeP xs = none from if_neg (by omega)]
    exact pmake_big a n cap w h
  · cases hm : mayP (ptOfI xs) with
    | true =>
      rw [show makeP xs = some (ptOfI xs) from if_pos ⟨by omega, hm⟩]
      exact pmake_small a n cap xs w hl (by omega) _ rfl _ _ _ _ _ _ (.inl ⟨hm, rfl, rfl⟩)
    | false =>
      rw [show makeP xs = none from if_neg (by rw [hm]; simp)]
      exact pmake_small a n cap xs w hl (by omega) _ rfl _ _ _ _ _ _ (.inr ⟨hm, rfl, rfl, rfl, rfl, rfl, rfl⟩)
def fillR (l : List Int) (k : Nat) : Pt := ⟨if 0 < k then l.getD 0 0 else 0, if 1 < k then l.getD 1 0 else 0, if 2 < k then l.getD 2 0 else 0, if 3 < k then l.getD 3 0 else 0, l.length⟩
theorem fillR_step (l : List Int) (k : Nat) (h : k < 4) : (ptA (fillR l k)).setIfInBounds k (.int .i64 (l.getD k 0)) = ptA (fillR l (k + 1)) := by
  obtain rfl | rfl | rfl | rfl : k = 0 ∨ k = 1 ∨ k = 2 ∨ k = 3 := by omega
  all_goals rfl
theorem fillR_old (l : List Int) (k : Nat) (h : k < 4) : (ptA (fillR l k))[k]? = some (.int .i64 0) := by
  obtain rfl | rfl | rfl | rfl : k = 0 ∨ k = 1 ∨ k = 2 ∨ k = 3 := by omega
  all_goals rfl
theorem fillR_end (l : List Int) (k : Nat) (hk : k = min 4 l.length) : mayP (fillR l k) = (decide (l.length ≤ 4) && mayP (ptOfI l)) ∧ (l.length ≤ 4 → fillR l k = ptOfI l) := by
  have h2 : l.length ≤ 4 → fillR l k = ptOfI l := by
    intro h
    obtain rfl : k = l.length := by omega
    match l, h with
    | [], _ => rfl
    | [a], _ => rfl
    | [a, b], _ => rfl
    | [a, b, c], _ => rfl
    | [a, b, c, d], _ => rfl
  refine ⟨?_, h2⟩
  by_cases h : l.length ≤ 4
  · rw [decide_eq_true h, h2 h]; rfl
  · rw [decide_eq_false h, Bool.false_and]
    unfold mayP
    rw [show decide ((fillR l k).dep ≤ 4) = false from decide_eq_false (by show ¬ (l.length : Int) ≤ 4; omega)]
    simp
set_option maxRecDepth 100000 in
set_option maxHeartbeats 4000000 in
theorem rmake_any (a : Option Addr) (n cap : Nat) (xs : List Int) (w : World) (hl : Ints w a n xs) : Calls Try.prog 24 #[.slice a n cap] w fun e w' => e = .returned (makeV (makeP xs)) ∧ Below w.heap.size w w' := by
  have hln := hl.len
  obtain ⟨hO, hR, hB⟩ : Below w.heap.size w ((w.alloc (.cells #[.int .i64 0, .int .i64 0, .int .i64 0, .int .i64 0, .int .i64 0] 50)).alloc (.cells #[.int .i64 0, .int .i64 0, .int .i64 0, .int .i64 0, .int .i64 (n : Int)] 50)) ∧ Bk ((w.alloc (.cells #[.int .i64 0, .int .i64 0, .int .i64 0, .int .i64 0, .int .i64 0] 50)).alloc (.cells #[.int .i64 0, .int .i64 0, .int .i64 0, .int .i64 0, .int .i64 (n : Int)] 50)) w.heap.size 50 #[.int .i64 0, .int .i64 0, .int .i64 0, .int .i64 0, .int .i64 0] ∧ Bk ((w.alloc (.cells #[.int .i64 0, .int .i64 0, .int .i64 0, .int .i64 0, .int .i64 0] 50)).alloc (.cells #[.int .i64 0, .int .i64 0, .int .i64 0, .int .i64 0, .int .i64 (n : Int)] 50)) (w.heap.size + 1) 50 (ptA (fillR xs 0)) := by
    have := two_box zeroP (fillR xs 0) w
    unfold fillR at this ⊢
    rw [hln] at this ⊢
    exact this
  have HST := Lib.hid (fillR_step xs)
  have HOL := Lib.hid (fillR_old xs)
  have HEN := Lib.hid (fillR_end xs)
  have HLN := Lib.hid hln
  have HLE := Lib.hid hl.le
  have HL := Lib.hid (fun W (hb : Below w.heap.size w W) => hl.below hb)
  clear hl hln
  go_enter Try.func24, Try.ntmps24
  go_wp2_with fail
  generalize ((w.alloc (.cells #[.int .i64 0, .int .i64 0, .int .i64 0, .int .i64 0, .int .i64 0] 50)).alloc (.cells #[.int .i64 0, .int .i64 0, .int .i64 0, .int .i64 0, .int .i64 (n : Int)] 50)) = w2 at hO hR hB ⊢
  go_loopw [5] (fun c wr => ∃ k : Nat, k ≤ min 4 n ∧ c = .int .i64 k ∧ Bk wr w.heap.size 50 #[.int .i64 0, .int .i64 0, .int .i64 0, .int .i64 0, .int .i64 0] ∧ Bk wr (w.heap.size + 1) 50 (ptA (fillR xs k)) ∧ Below w.heap.size w wr) (fun c _ => 4 - (intOf c).toNat)
  case atStart => exact ⟨0, by omega, rfl, hR, hB, hO⟩
  case round =>
    clear hR hB hO
    obtain ⟨k, hk, rfl, hR, hB, HB⟩ := hrel
    have hle := HLE.out
    by_cases hlt : k < min 4 n
    · have h4 : (k : Int) < 4 := by omega
      have hn : (k : Int) < (n : Int) := by omega
      have hk4 : k < 4 := by omega
      obtain ⟨b, off, rfl, hc⟩ := (HL.out wr HB).get (i := k) (by omega)
      have hcb := hB.cell k
      rw [HOL.out k hk4] at hcb
      have hf := hB.frozen k
      have hB' := hB.set k (.int .i64 (xs.getD k 0))
      rw [HST.out k hk4] at hB'
      have hR' := (Keep.set wr (w.heap.size + 1) k (.int .i64 (xs.getD k 0)) (fun i => i = w.heap.size + 1) rfl).bk hR (by omega)
      have HB' := HB.setCell (p := ⟨w.heap.size + 1, k, none⟩) (Nat.le_succ _) (.int .i64 (xs.getD k 0))
      generalize xs.getD k 0 = x at hc hB' hR' HB'
      have H1 := Lib.hid hB'
      have H2 := Lib.hid hR'
      have H3 := Lib.hid HB'
      clear hB hR HB hB' hR' HB' hk4 hle
      go_wp2
      go_roundw
      case rel => exact ⟨k + 1, by omega, by go_num, H2.out, H1.out, H3.out⟩
      case measure => simp [intOf]; omega
    · have hkm : k = min 4 n := by omega
      have hcase : (¬ (k : Int) < (n : Int)) ∨ ((k : Int) < (n : Int) ∧ ¬ (k : Int) < 4) := by omega
      obtain ⟨he1, he2⟩ := HEN.out k (by rw [HLN.out]; exact hkm)
      have hm := fun W => rpright_any (fillR xs k) W
      have hres : (mayP (fillR xs k) = true ∧ makeP xs = some (fillR xs k)) ∨ (mayP (fillR xs k) = false ∧ makeP xs = none) := by
        by_cases h : xs.length ≤ 4
        · rw [he2 h]
          cases h5 : mayP (ptOfI xs) with
          | true => exact .inl ⟨rfl, if_pos ⟨h, h5⟩⟩
          | false => exact .inr ⟨rfl, if_neg (by rw [h5]; simp)⟩
        · rw [he1, decide_eq_false h]
          exact .inr ⟨rfl, if_neg (by omega)⟩
      clear he1 he2 hlt hkm hle
      generalize fillR xs k = q at hm hres hB
      obtain ⟨q0, q1, q2, q3, q4⟩ := q
      have c0 := hB.cell 0
      have c1 := hB.cell 1
      have c2 := hB.cell 2
      have c3 := hB.cell 3
      have c4 := hB.cell 4
      rcases hres with ⟨h1, h2⟩ | ⟨h1, h2⟩
      · rw [h1] at hm
        have HM := Lib.hid hm
        have HRES := Lib.hid h2
        clear hm h1 h2
        rcases hcase with v1 | ⟨v1, v2⟩
        all_goals
          go_wp2_with (go_at_call 19; refine (HM.out _).mono ?_; rintro e w3 ⟨rfl, hb3⟩; have k3 := hB.below hb3; have r3 := hR.below hb3; have HB3 := bl_then HB (Nat.le_refl _) hb3; clear c0 c1 c2 c3 c4 hB hR hb3; have e0 := k3.cell 0; have e1 := k3.cell 1; have e2 := k3.cell 2; have e3 := k3.cell 3; have e4 := k3.cell 4; have r0 := r3.cell 0; have r1 := r3.cell 1; have r2 := r3.cell 2; have r4 := r3.cell 4; have r33 := r3.cell 3; have f0 := r3.frozen 0; have f1 := r3.frozen 1; have f2 := r3.frozen 2; have f3 := r3.frozen 3; have f4 := r3.frozen 4; have HF := Lib.hid (five_sets r3 (.int .i64 q0) (.int .i64 q1) (.int .i64 q2) (.int .i64 q3) (.int .i64 q4)); clear k3 r3)
          obtain ⟨z0, z1, z2, z3, z4⟩ := HF.out
          exact bodyPost_ret (v := .tuple #[.agg #[.int .i64 q0, .int .i64 q1, .int .i64 q2, .int .i64 q3, .int .i64 q4], .int .i64 0]) (by simp [results, Try.results24, go_sem, z0, z1, z2, z3, z4]) rfl ⟨by rw [HRES.out]; rfl, five_below HB3 (Nat.le_refl _) _ _ _ _ _⟩
      · rw [h1] at hm
        have HM := Lib.hid hm
        have HRES := Lib.hid h2
        clear hm h1 h2
        rcases hcase with v1 | ⟨v1, v2⟩
        all_goals
          go_wp2_with (go_at_call 19; refine (HM.out _).mono ?_; rintro e w3 ⟨rfl, hb3⟩; have r3 := hR.below hb3; have HB3 := bl_then HB (Nat.le_refl _) hb3; clear c0 c1 c2 c3 c4 hB hR hb3; have r0 := r3.cell 0; have r1 := r3.cell 1; have r2 := r3.cell 2; have r4 := r3.cell 4; have r33 := r3.cell 3; have f0 := r3.frozen 0; have f1 := r3.frozen 1; have f2 := r3.frozen 2; have f3 := r3.frozen 3; have f4 := r3.frozen 4; have HF := Lib.hid (five_sets r3 (.int .i64 0) (.int .i64 0) (.int .i64 0) (.int .i64 0) (.int .i64 0)); clear r3)
          obtain ⟨z0, z1, z2, z3, z4⟩ := HF.out
          exact bodyPost_ret (v := .tuple #[.agg #[.int .i64 0, .int .i64 0, .int .i64 0, .int .i64 0, .int .i64 0], .int .i64 1]) (by simp [results, Try.results24, go_sem, z0, z1, z2, z3, z4]) rfl ⟨by rw [HRES.out]; rfl, five_below HB3 (Nat.le_refl _) _ _ _ _ _⟩
end Go.Proofs.Ytbdefhekkafihaa
