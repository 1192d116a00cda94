/- chain: List. No condition. -/
import Derived.Test.YthkjkmjcnphjgaaChnR
import Derived.Test.YthkjkmjcnphjgaaGrpB
import Derived.ScopeJumps
set_option linter.unusedVariables false
set_option linter.unusedSimpArgs false
namespace Go.Proofs.Ythkjkmjcnphjgaa
open Go.RowKit (wrap32 wrap64)
open Go.RowKit
def natI (l : List Nat) : List Int := l.map Int.ofNat
theorem first_eq {T : List Ln} {E : List En} {R : List (List Nat)} {n : Nat} (h : Rel T E R n) (row : Int) : (lkE E row).first = hdI (atR R row) := by
  cases hi : inC n row with
  | true =>
    obtain ⟨k, rfl, hk, hE⟩ := lkE_in E n row h.el hi
    have := h.ends k _ (atR_in h.rl hk)
    rw [this] at hE
    injection hE with hE
    rw [← hE]
  | false =>
    rw [lkE_out E n row h.el hi]
    have : atR R row = [] := by
      unfold atR
      split
      · rename_i h0
        unfold inC at hi
        simp [h0] at hi
        rw [List.getElem?_eq_none (by rw [h.rl]; omega)]; rfl
      · rfl
    rw [this]; rfl
theorem next_eq {T : List Ln} {E : List En} {R : List (List Nat)} {n : Nat} (h : Rel T E R n) (row : Int) (k x : Nat) (hx : (atR R row)[k]? = some x) : nxV T x = hdI ((atR R row).drop (k + 1)) := by
  have hk := (List.getElem?_eq_some_iff.1 hx).1
  have hne : atR R row ≠ [] := by intro e; rw [e] at hk; cases hk
  obtain ⟨r, hr⟩ : ∃ r : Nat, R[r]? = some (atR R row) := by
    unfold atR at hne ⊢
    split
    · rename_i h0
      rw [if_pos h0] at hne
      cases hq : R[row.toNat]? with
      | none => rw [hq] at hne; exact absurd rfl hne
      | some l => exact ⟨row.toNat, hq⟩
    · rename_i h0
      rw [if_neg h0] at hne
      exact absurd rfl hne
  have hsplit : atR R row = (atR R row).take k ++ x :: (atR R row).drop (k + 1) := by
    obtain ⟨h1, h2⟩ := List.getElem?_eq_some_iff.1 hx
    rw [← h2]; simp
  have hT := h.at' r _ x _ (by rw [hr]; exact congrArg some hsplit)
  have hl : lkT T (x : Int) = ⟨r, laI ((atR R row).take k), hdI ((atR R row).drop (k + 1))⟩ := by
    unfold lkT
    rw [if_pos (by omega), show (x : Int).toNat = x by omega, hT]; rfl
  unfold nxV
  rw [hl]
  exact if_neg (by show ¬ ((r : Int) = -1); omega)
def slLen : Value → Nat
  | .slice _ n _ => n
  | _ => 0
/-- What List hands back. -/
def IntsRet (w : World) (L : List Int) (e : Ending) (w' : World) : Prop := OwnRet enI 3 1 w L e w'
set_option maxRecDepth 100000 in
set_option maxHeartbeats 4000000 in
theorem clist_any (g h1 h2 n : Nat) (R : List (List Nat)) (row : Int) (w : World) (hc : Chn w g h1 h2 n R) (hlen : (atR R row).length ≤ 1000) :
    Calls Try.prog 19 #[.pointer (some ⟨g, 0, none⟩), .int .i64 row] w (IntsRet w (natI (atR R row))) := by
  obtain ⟨i0, hi, hz0, hz1, hz2⟩ := info_parts Try.infoI
  obtain ⟨T, E, hc, hrel⟩ := hc
  have hfi := cfirst_any g h1 h2 n T E row w hc
  rw [first_eq hrel row] at hfi
  have HNX := Lib.hid (fun (x : Int) W (hb : Below w.heap.size w W) => cnext_any g h1 h2 n T E x W (hc.below hb))
  have HNE := Lib.hid (fun k x hx => next_eq hrel row k x hx)
  have HRET : Hid (∀ v W, W.ownsRow w.heap.size 3 1 v (atR R row).length (flatV enI (natI (atR R row))) → Below w.heap.size w W → IntsRet w (natI (atR R row)) (.returned v) W) := Lib.hid (fun v W h hb => ⟨v, rfl, by unfold natI at h ⊢; rw [List.length_map]; exact h, hb⟩)
  generalize atR R row = l at hfi HNE HRET hlen ⊢
  have HFI := Lib.hid hfi
  clear hfi hc hrel
  have HDR : Hid (∀ (k x : Nat), l[k]? = some x → z1 (hdI (l.drop k)) = x ∧ (hdI (l.drop k) != -1) = true) := Lib.hid (fun k x hx => by
    obtain ⟨h1, h2⟩ := List.getElem?_eq_some_iff.1 hx
    rw [List.drop_eq_getElem_cons h1, h2]
    exact ⟨if_neg (by show ¬ ((x : Int) = -1); omega), bne_iff_ne.2 (by show (x : Int) ≠ -1; omega)⟩)
  have HEN : Hid (z1 (hdI (l.drop l.length)) = 0 ∧ (hdI (l.drop l.length) != -1) = false) := Lib.hid (by rw [List.drop_length]; exact ⟨rfl, rfl⟩)
  have HTK : Hid (∀ (k x : Nat), l[k]? = some x → natI (l.take (k + 1)) = natI (l.take k) ++ [(x : Int)]) := Lib.hid (fun k x hx => by
    unfold natI
    rw [take_snocG l k x hx, List.map_append]; rfl)
  go_enter Try.func19, Try.ntmps19
  go_wp2
  refine wp_scope_jumps 0 (fun a W => ∃ (k : Nat) (A : Option Addr) (c : Nat) (u2 u3 u4 u8 u9 u10 u11 u12 u13 u14 u15 u16 u17 u18 u19 u20 u21 u22 u23 u24 u25 u26 : Value), a = { tmps := #[.pointer (some ⟨g, 0, none⟩), .int .i64 row, u2, u3, u4, .slice A k c, .int .i64 (z1 (hdI (l.drop k))), .bool (hdI (l.drop k) != -1), u8, u9, u10, u11, u12, u13, u14, u15, u16, u17, u18, u19, u20, u21, u22, u23, u24, u25, u26], defers := [] } ∧ k ≤ l.length ∧ W.ownsRow w.heap.size 3 1 (.slice A k c) k (flatV enI (natI (l.take k))) ∧ Below w.heap.size w W) (fun a _ => l.length - slLen (a.tmps[5]!)) rfl ?_ ?_
  · by_cases hlt : 0 < l.length
    · obtain ⟨x, hx⟩ : ∃ x, l[0]? = some x := ⟨_, List.getElem?_eq_getElem hlt⟩
      obtain ⟨q1, q2⟩ := HDR.out 0 x hx
      rw [List.drop_zero] at q1 q2
      have hf := HFI.out
      rw [q1, q2] at hf
      have HF := Lib.hid hf
      have hne := HNE.out 0 x hx
      have htk := HTK.out 0 x hx
      have hnx := fun W (hb : Below w.heap.size w W) => HNX.out (x : Int) W hb
      rw [hne] at hnx
      have HT := Lib.hid htk
      generalize hzz : z1 (hdI (l.drop (0 + 1))) = zz at hnx
      generalize hbb : (hdI (l.drop (0 + 1)) != -1) = bb at hnx
      have HN := Lib.hid hnx
      have HZ := Lib.hid hzz
      have HBB := Lib.hid hbb
      clear hzz hbb
      have HO := World.ownsRow_nil w w.heap.size 3 1
      have HB := Below.refl w.heap.size w
      clear hnx q1 q2 hne htk hx hf
      go_wp2_with (go_at_call 16; refine HF.out.mono ?_; rintro e _ ⟨rfl, rfl⟩)
      go_step3
      go_wp2_with (first
        | (at_builtin; refine wpList_append_one enI_len (by omega) enI_one rfl _ _ 22 rfl w.heap.size 3 i0 _ 8 Try.underlying22 hi hz0 hz1 hz2 rfl _ 0 (natI (l.take 0)) rfl HO (x : Int) #[.int .i64 (x : Int)] rfl 3 _ rfl (by simp) (by unfold maxLen; omega) (by omega) HB (Nat.le_refl _) ?_; intro v' w2 hown2 HB2 hk2; rw [← HT.out] at hown2; obtain ⟨A2, c2, rfl, _, _, _⟩ := SR.own (ok := fun _ => True) enI_len (by omega) hown2 (fun _ _ => trivial))
        | (go_at_call 29; refine (HN.out _ HB2).mono ?_; rintro e _ ⟨rfl, rfl⟩))
      go_step3
      obtain rfl := HZ.out
      obtain rfl := HBB.out
      exact ⟨rfl, 1, A2, c2, _, _, _, _, _, _, _, _, _, _, _, _, _, _, _, _, _, _, _, _, _, _, rfl, hlt, hown2, HB2⟩
    · have h0 : l = [] := List.eq_nil_of_length_eq_zero (by omega)
      subst h0
      have hf := HFI.out
      rw [show z1 (hdI ([] : List Nat)) = 0 from rfl, show (hdI ([] : List Nat) != -1) = false from rfl] at hf
      have HF := Lib.hid hf
      have HR := Lib.hid (HRET.out (.slice none 0 0) w (World.ownsRow_nil _ _ _ _) (Below.refl _ _))
      clear hf
      go_wp2_with (go_at_call 16; refine HF.out.mono ?_; rintro e _ ⟨rfl, rfl⟩)
      go_step3
      go_wp2
      simp only [Exit.jump]
      go_ret
      exact HR.out
  · rintro a W ⟨k, A, c, u2, u3, u4, u8, u9, u10, u11, u12, u13, u14, u15, u16, u17, u18, u19, u20, u21, u22, u23, u24, u25, u26, rfl, hk, ho, hB⟩
    by_cases hlt : k < l.length
    · obtain ⟨x, hx⟩ : ∃ x, l[k]? = some x := ⟨_, List.getElem?_eq_getElem hlt⟩
      obtain ⟨q1, q2⟩ := HDR.out k x hx
      have hne := HNE.out k x hx
      have htk := HTK.out k x hx
      rw [q1, q2]
      have hnx := fun W (hb : Below w.heap.size w W) => HNX.out (x : Int) W hb
      rw [hne] at hnx
      have HN := Lib.hid hnx
      have HT := Lib.hid htk
      clear hnx q1 q2 hne htk hx
      go_wp2_with (first
        | (at_builtin; refine wpList_append_one enI_len (by omega) enI_one rfl _ _ 22 rfl w.heap.size 3 i0 _ 8 Try.underlying22 hi hz0 hz1 hz2 rfl _ k _ rfl ho (x : Int) #[.int .i64 (x : Int)] rfl 3 _ rfl (by simp) (by unfold maxLen; omega) (by omega) hB (by have := hB.size; omega) ?_; intro v' w2 hown2 HB2 hk2; rw [← HT.out] at hown2; obtain ⟨A2, c2, rfl, _, _, _⟩ := SR.own (ok := fun _ => True) enI_len (by omega) hown2 (fun _ _ => trivial))
        | (go_at_call 29; refine (HN.out _ HB2).mono ?_; rintro e _ ⟨rfl, rfl⟩))
      go_step3
      exact ⟨rfl, ⟨k + 1, A2, c2, _, _, _, _, _, _, _, _, _, _, _, _, _, _, _, _, _, _, _, _, _, _, rfl, by omega, hown2, HB2⟩, (by show l.length - (k + 1) < l.length - k; omega)⟩
    · obtain rfl : k = l.length := by omega
      obtain ⟨q1, q2⟩ := HEN.out
      rw [q1, q2]
      rw [List.take_length] at ho
      have HR := Lib.hid (HRET.out _ _ ho hB)
      clear ho hB q1 q2
      go_wp2
      simp only [Exit.jump]
      go_ret
      exact HR.out
end Go.Proofs.Ythkjkmjcnphjgaa
