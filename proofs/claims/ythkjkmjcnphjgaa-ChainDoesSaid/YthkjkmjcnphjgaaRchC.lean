/- The reference's rows of places: Back, Ahead, Cut. No condition. -/
import Derived.Test.YthkjkmjcnphjgaaRchB
import Derived.Deep.RegionLawGrows
import Derived.Deep.Upon
set_option linter.unusedVariables false
set_option linter.unusedSimpArgs false
namespace Go.Proofs.Ythkjkmjcnphjgaa
open Go.RowKit (wrap32 wrap64)
open Go.RowKit
def RchRet (w : World) (b : Bool) (gx h B n : Nat) (R : List (List Nat)) (e : Ending) (w' : World) : Prop := e = .returned (.bool b) ∧ Rch w' gx h B n R ∧ Keep (fun k => k = h) w w'
theorem RowOk.holds {B : Nat} {w : World} {s : Sl} {l : List Nat} (r : RowOk B w s l) : ∀ b, s.a = some b → ∀ j u, (flatV enI (natI l))[j]? = some u → w.cell? (b.add j) = some u := by
  intro b hb j u hu
  rcases r.row with ⟨h, _⟩ | ⟨g, ha, _, _, hc⟩
  · rw [h] at hb; cases hb
  · rw [ha] at hb
    cases hb
    rw [flatI] at hu
    unfold natI at hu
    rw [List.getElem?_map, List.getElem?_map] at hu
    cases hx : l[j]? with
    | none => rw [hx] at hu; cases hu
    | some x =>
      rw [hx] at hu
      cases hu
      refine Eq.trans ?_ (hc j x hx)
      congr 1
      unfold Addr.add
      split
      · simp_all
      · simp
theorem flatI_len (l : List Nat) : (flatV enI (natI l)).length = l.length * 1 := by rw [flatV_len enI_len, natI_len]
theorem flatI_app (l m : List Nat) : flatV enI (natI (l ++ m)) = flatV enI (natI l) ++ flatV enI (natI m) := by unfold natI; rw [List.map_append, flatV_append]
theorem flatI_one (l : List Nat) : ∀ u ∈ flatV enI (natI l), u.oneCell' = true := flatV_one enI_one _
theorem rch_stored {w W w2 : World} {gx h B n : Nat} {S : List Sl} {R : List (List Nat)} (hc : RchAt w gx h B n S R) (kW : Keep (fun _ => False) w W) (hBW : B ≤ W.heap.size) (v' : Value) (m : Nat) (l' : List Nat) (ho : w2.ownsRow W.heap.size 3 1 v' m (flatV enI (natI l'))) (hm : l'.length = m) (hgr : W.grownBy w2 none) (k : Nat) (hk : k < n) :
    ∃ A2 c2 s, v' = .slice A2 m c2 ∧ w2.cell? ⟨gx, 1, none⟩ = some (.slice (some ⟨h, 0, none⟩) n n) ∧ w2.cell? ⟨h, k, none⟩ = some s ∧ w2.frozen? ⟨h, k, none⟩ = false ∧ RchRet w true gx h B n (R.set k l') (.returned (.bool true)) (w2.setCell ⟨h, k, none⟩ (.slice A2 m c2)) := by
  obtain ⟨A2, c2, rfl, hro⟩ := RowOk.of_own ho hBW hm
  have k2 : Keep (fun _ => False) w w2 := Keep.trans kW (grown_keep hgr _ (fun i hi => by cases hi))
  have hc2 := hc.keep k2 (fun _ h => h.elim) (fun h => h) (fun h => h)
  obtain ⟨hc3, k3⟩ := hc2.put k hk ⟨A2, m, c2⟩ l' hro
  obtain ⟨s, l, _, _, hcell⟩ := hc2.get hk
  exact ⟨A2, c2, _, rfl, hc2.bk.cell 1, hcell, hc2.row.frozen k, rfl, ⟨_, hc3⟩, Keep.trans (k2.mono (fun _ h => h.elim)) k3⟩
set_option maxRecDepth 100000 in
set_option maxHeartbeats 4000000 in
theorem rback_any (gx h B n : Nat) (R : List (List Nat)) (row i : Int) (w : World) (hc : Rch w gx h B n R) (hB : B ≤ w.heap.size) (T : List Ln) (E : List En) (hrel : Rel T E R n) :
    Calls Try.prog 22 #[.pointer (some ⟨gx, 0, none⟩), .int .i64 row, .int .i64 i] w (RchRet w (freeR n R row i) gx h B n (backR n R row i)) := by
  have hf := rfree_any gx h B n R row i w hc
  rw [frX_eq hrel] at hf
  have HRC := Lib.hid hc
  obtain ⟨S, hc⟩ := hc
  have hn4 := hc.n4
  cases hfr : freeR n R row i with
  | false =>
    have e : backR n R row i = R := if_neg (by rw [hfr]; simp)
    rw [e]
    rw [hfr] at hf
    have HF := Lib.hid hf
    have HRET : Hid (∀ w1, Below w.heap.size w w1 → RchRet w false gx h B n R (.returned (.bool false)) w1) := Lib.hid (fun w1 hb => ⟨rfl, HRC.out.below hb, Keep.of_below hb _⟩)
    clear hf hc hrel hfr e HRC
    go_enter Try.func22, Try.ntmps22
    go_wp2_with (go_at_call 73; refine HF.out.mono ?_; rintro e w1 ⟨rfl, hb1⟩)
    go_ret
    exact HRET.out _ hb1
  | true =>
    have e : backR n R row i = R.set row.toNat (atR R row ++ [i.toNat]) := if_pos hfr
    rw [e]
    rw [hfr] at hf
    have HF := Lib.hid hf
    unfold freeR at hfr
    simp only [Bool.and_eq_true, Bool.not_eq_true'] at hfr
    obtain ⟨k, rfl, hk, _⟩ := lkE_in E n row hrel.el hfr.1.1
    obtain ⟨j, rfl, hj, _⟩ := lkT_in T n i hrel.tl hfr.1.2
    rw [show ((j : Nat) : Int).toNat = j by omega, show ((k : Nat) : Int).toNat = k by omega]
    have hrow := atR_in hrel.rl hk
    have hlen := (hrel.rows k).2.2
    generalize atR R (k : Int) = l at hrow hlen ⊢
    obtain ⟨⟨sa, sn, sc⟩, hs⟩ : ∃ s, S[k]? = some s := ⟨_, List.getElem?_eq_getElem (by rw [hc.sl]; exact hk)⟩
    have HCW : Hid (∀ w1, Below w.heap.size w w1 → RchAt w1 gx h B n S R ∧ RowOk B w1 ⟨sa, sn, sc⟩ l ∧ w1.cell? ⟨h, k, none⟩ = some (.slice sa sn sc)) := Lib.hid (fun w1 hb => by
      have h1 := hc.keep (Keep.of_below hb (fun _ => False)) (fun _ h => h.elim) (fun h => h) (fun h => h)
      have h2 := h1.row.cell enSl_len hs 0 (by omega)
      rw [Nat.mul_one, Nat.add_zero] at h2
      exact ⟨h1, h1.each k _ _ hs hrow, h2⟩)
    obtain ⟨i0, hi0, hz0, hz1, hz2⟩ := info_parts Try.infoI
    clear hf hc hrel hfr e HRC hs hrow
    go_enter Try.func22, Try.ntmps22
    go_wp2_with (go_at_call 73; refine HF.out.mono ?_; rintro e w1 ⟨rfl, hb1⟩; obtain ⟨hc1, hro, hcell⟩ := HCW.out w1 hb1; have c1 := hc1.bk.cell 1; have hln := hro.len; dsimp only at hln; subst hln)
    have hB1 : B ≤ w1.heap.size := Nat.le_trans hB hb1.size
    have HC1 := Lib.hid hc1
    have HRO := Lib.hid hro
    have hlc := hro.lc
    have hcm := hro.cm
    have hnil : sa = none → l.length = 0 ∧ l.length = 0 := fun hn => by
      rcases hro.row with h | ⟨b, h, _⟩
      · exact ⟨h.2.1, h.2.1⟩
      · rw [hn] at h; cases h
    have kA : Keep (fun _ => False) w1 ((w1.alloc (.cells #[.int .i64 j] 3)).drew) := Keep.trans (Keep.alloc _ _ _) (Keep.drew _ _)
    have hroA := hro.keep kA (fun _ h => h.elim)
    have cA : (w1.alloc (.cells #[.int .i64 j] 3)).cell? ⟨gx, 1, none⟩ = some (.slice (some ⟨h, 0, none⟩) n n) := (hc1.keep kA (fun _ h => h.elim) (fun h => h) (fun h => h)).bk.cell 1
    have cD : w1.drew.cell? ⟨gx, 1, none⟩ = some (.slice (some ⟨h, 0, none⟩) n n) := c1
    clear hc1 hro
    dsimp only at hlc hcm
    go_region_law ((refine step_append_grows (by rfl) _ _ 22 (by rfl) 3 i0 _ 1 8 Try.underlying22 hi0 hz0 hz1 hz2 rfl (by omega) sa l.length l.length (flatV enI (natI l)) (by rfl) hnil (flatI_len l) hroA.holds ⟨w1.heap.size, 0, none⟩ 1 1 [.int .i64 j] (by rfl) (by rfl) (World.news_of_block (cs := #[.int .i64 j]) (t := 3) (fr := (0, 0)) (heap_alloc_new w1 _)) (by simp [Value.oneCell']) (by omega) (by unfold maxLen; omega) (by omega) ?_
                    intro v' w2 hown hgr
                    obtain ⟨A2, c2, s2, rfl, hc2, hcell2, hfz2, hret2⟩ := rch_stored HC1.out kA (Nat.le_trans hB1 kA.size) v' (l.length + 1) (l ++ [j]) (by rw [flatI_app]; exact hown) (by simp) hgr k hk))
    all_goals
      clear hcell2 hfz2 hc2 cA cD hcell c1
      go_wp2
      go_ret
      exact ⟨rfl, hret2.2.1, Keep.trans (Keep.of_below hb1 _) hret2.2.2⟩
theorem step_append_nothing {P : Program} {ops : Array Oper} {o : Oper} {a : Act} {w : World} {K : Act → World → Prop} {Q : Exit → Act → World → Prop} {E : Prop}
    (hg : o.guard = none) (s x : Operand) (t : TypeId) (hop : o.op = Op.call { callee := Callee.builtin Builtin.append, args := #[s, x], argTypes := #[t, t] })
    (e : TypeId) (i : TypeInfo) (h1 : P.underlying t = some (.slice e)) (h2 : P.info? e = some i) (ao : Option Addr) (n cap : Nat) (hs : a.eval s = .slice ao n cap) (hle : n ≤ cap) (xo : Option Addr) (c : Nat) (hx : a.eval x = .slice xo 0 c)
    (hK : K (a.put o.dst (.slice ao n cap)) w) :
    if Region.wanted o (yielded ops a.tmps) = true then Oper.wp P o a w K Q else E := by
  have hw : Region.wanted o (yielded ops a.tmps) = true := by simp [Region.wanted, hg]
  rw [if_pos hw]
  have hsrc : Src P i.size t (.slice xo 0 c) 0 [] w := by
    cases xo with
    | none => exact Src.ofNil w h1 c
    | some b => exact Src.ofSlice w h1 b 0 c [] (by simp) (by simp) (by simp)
  have hrun := run_append_nothing (P := P) w t t o.type e i h1 h2 ao n cap hle (.slice xo 0 c) hsrc
  unfold Oper.wp
  simp [execOp, hop, resolve, invoke, builtin, hs, hx, hrun, Result.andThen]
  exact hK
theorem RowOk.drops {B : Nat} {w : World} {s : Sl} {l : List Nat} (r : RowOk B w s l) (b : Nat) (ha : s.a = some ⟨b, 0, none⟩) (p : Nat) : ∀ j u, (flatV enI (natI (l.drop p)))[j]? = some u → w.cell? ((⟨b, p, none⟩ : Addr).add j) = some u := by
  intro j u hu
  rcases r.row with ⟨h, _⟩ | ⟨g, ha', _, _, hc⟩
  · rw [h] at ha; cases ha
  · rw [ha'] at ha
    cases ha
    rw [flatI] at hu
    unfold natI at hu
    rw [List.getElem?_map, List.getElem?_map, List.getElem?_drop] at hu
    cases hx : l[p + j]? with
    | none => rw [hx] at hu; cases hu
    | some x =>
      rw [hx] at hu
      cases hu
      refine Eq.trans ?_ (hc (p + j) x hx)
      congr 1
      unfold Addr.add
      split
      · simp_all
      · simp
end Go.Proofs.Ythkjkmjcnphjgaa
