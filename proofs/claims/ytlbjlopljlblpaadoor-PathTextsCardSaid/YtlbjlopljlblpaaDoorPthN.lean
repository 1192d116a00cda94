/- Nodes: a node is found again by its text; two nodes have two texts and two keys; the program and the reference read texts alike. Plain. No condition. -/
import Derived.Test.YtlbjlopljlblpaaDoorPthQ
import Derived.Test.YtlbjlopljlblpaaDoorPthL
set_option linter.unusedVariables false
set_option linter.unusedSimpArgs false
namespace Go.Proofs.YtlbjlopljlblpaaDoor
theorem dg_toNat (d : Nat) (h : d < 10) : (UInt8.ofNat (48 + d)).toNat = 48 + d := by
  rw [UInt8.toNat_ofNat']
  exact Nat.mod_eq_of_lt (by omega)
theorem dg_is (d : Nat) (h : d < 10) : isDig (UInt8.ofNat (48 + d)) = true := by
  unfold isDig
  rw [dg_toNat d h]
  simp; omega
theorem dec_three (n : Nat) (h : n < 1000) (h2 : 100 ≤ n) : Lib.decDigits n = [UInt8.ofNat (48 + n / 100), UInt8.ofNat (48 + n / 10 % 10), UInt8.ofNat (48 + n % 10)] := by
  rw [dec_big n (by omega), Lib.decDigits_two (by omega) (by omega), show n / 10 / 10 = n / 100 by omega]
  rfl
theorem scanP_num (n : Nat) (h : n < 1000) (rest : List UInt8) (acc : List Nat) : ∃ dg, 1 ≤ dg ∧ dg ≤ 3 ∧ scanP (Lib.decDigits n ++ rest) 0 0 acc = scanP rest n dg acc := by
  by_cases h1 : n < 10
  · refine ⟨1, by omega, by omega, ?_⟩
    rw [Lib.decDigits_one h1, List.singleton_append, scanP_dig _ _ _ _ _ (dg_is n h1) (by omega), dg_toNat n h1]
    congr 1; omega
  · by_cases h2 : n < 100
    · refine ⟨2, by omega, by omega, ?_⟩
      rw [Lib.decDigits_two h1 h2, List.cons_append, List.singleton_append, scanP_dig _ _ _ _ _ (dg_is _ (by omega)) (by omega), scanP_dig _ _ _ _ _ (dg_is _ (by omega)) (by omega), dg_toNat _ (by omega), dg_toNat _ (by omega)]
      congr 1; omega
    · refine ⟨3, by omega, by omega, ?_⟩
      rw [dec_three n h (by omega), List.cons_append, List.cons_append, List.singleton_append, scanP_dig _ _ _ _ _ (dg_is _ (by omega)) (by omega), scanP_dig _ _ _ _ _ (dg_is _ (by omega)) (by omega), scanP_dig _ _ _ _ _ (dg_is _ (by omega)) (by omega), dg_toNat _ (by omega), dg_toNat _ (by omega), dg_toNat _ (by omega)]
      congr 1; omega
theorem scanR_num (n : Nat) (h : n < 1000) (rest : List UInt8) (acc : List Nat) : scanR (Lib.decDigits n ++ rest) 0 acc = scanR rest n acc := by
  by_cases h1 : n < 10
  · rw [Lib.decDigits_one h1, List.singleton_append, scanR_dig _ _ _ _ (by rw [dg_toNat n h1]; omega) (dg_is n h1) (by omega), dg_toNat n h1]
    congr 1; omega
  · by_cases h2 : n < 100
    · rw [Lib.decDigits_two h1 h2, List.cons_append, List.singleton_append, scanR_dig _ _ _ _ (by rw [dg_toNat _ (by omega)]; omega) (dg_is _ (by omega)) (by omega), dg_toNat (n / 10) (by omega), scanR_dig _ _ _ _ (by rw [dg_toNat _ (by omega)]; omega) (dg_is _ (by omega)) (by omega), dg_toNat (n % 10) (by omega)]
      congr 1; omega
    · rw [dec_three n h (by omega), List.cons_append, List.cons_append, List.singleton_append, scanR_dig _ _ _ _ (by rw [dg_toNat _ (by omega)]; omega) (dg_is _ (by omega)) (by omega), dg_toNat (n / 100) (by omega), scanR_dig _ _ _ _ (by rw [dg_toNat _ (by omega)]; omega) (dg_is _ (by omega)) (by omega), dg_toNat (n / 10 % 10) (by omega), scanR_dig _ _ _ _ (by rw [dg_toNat _ (by omega)]; omega) (dg_is _ (by omega)) (by omega), dg_toNat (n % 10) (by omega)]
      congr 1; omega
theorem tail_cons (y : List UInt8) (r : List (List UInt8)) : Lib.joinTail [46] (y :: r) = 46 :: (y ++ Lib.joinTail [46] r) := by simp [Lib.joinTail]
theorem scanP_list : ∀ (ds : List Nat) (n : Nat) (acc : List Nat), (∀ x ∈ n :: ds, x < 1000) → acc.length + (n :: ds).length ≤ 4 → scanP (Lib.decDigits n ++ Lib.joinTail [46] (ds.map Lib.decDigits)) 0 0 acc = some (acc ++ n :: ds)
  | [], n, acc, h, hl => by
    obtain ⟨dg, h1, h3, he⟩ := scanP_num n (h n (by simp)) [] acc
    simp only [List.length_cons, List.length_nil] at hl
    rw [show Lib.joinTail [46] (([] : List Nat).map Lib.decDigits) = [] from rfl, he, scanP_end [] n dg acc (fun c hc => by cases hc) (by omega) (fun c hc => by cases hc)]
  | m :: ds, n, acc, h, hl => by
    simp only [List.length_cons] at hl
    obtain ⟨dg, h1, h3, he⟩ := scanP_num n (h n (by simp)) (Lib.joinTail [46] ((m :: ds).map Lib.decDigits)) acc
    rw [he, List.map_cons, tail_cons, scanP_dot 46 _ n dg acc (by omega) rfl, scanP_list ds m (acc ++ [n]) (fun x hx => h x (List.mem_cons_of_mem _ hx)) (by simp; omega)]
    simp
theorem scanR_list : ∀ (ds : List Nat) (n : Nat) (acc : List Nat), (∀ x ∈ n :: ds, x < 1000) → acc.length + (n :: ds).length ≤ 4 → scanR (Lib.decDigits n ++ Lib.joinTail [46] (ds.map Lib.decDigits)) 0 acc = some (acc ++ n :: ds)
  | [], n, acc, h, hl => by
    simp only [List.length_cons, List.length_nil] at hl
    rw [show Lib.joinTail [46] (([] : List Nat).map Lib.decDigits) = [] from rfl, scanR_num n (h n (by simp)), scanR_end n acc (by omega)]
  | m :: ds, n, acc, h, hl => by
    simp only [List.length_cons] at hl
    rw [scanR_num n (h n (by simp)), List.map_cons, tail_cons, scanR_dot 46 _ n acc rfl (by omega), scanR_list ds m (acc ++ [n]) (fun x hx => h x (List.mem_cons_of_mem _ hx)) (by simp; omega)]
    simp
def nums (p : Pt) : List Nat := (List.range (depN p)).map (fun i => (num p i).toNat)
theorem nums_cons (p : Pt) (D : Nat) (hD : depN p = D + 1) : nums p = p.n0.toNat :: (List.range D).map (fun i => (num p (i + 1)).toNat) := by
  unfold nums
  rw [hD, List.range_succ_eq_map, List.map_cons, List.map_map]
  rfl
theorem text_nums (p : Pt) (h : mayP p = true) (D : Nat) (hD : depN p = D + 1) : textP p = Lib.decDigits p.n0.toNat ++ Lib.joinTail [46] (((List.range D).map (fun i => (num p (i + 1)).toNat)).map Lib.decDigits) := by
  unfold textP
  rw [if_pos h, hD, preT_cons, List.map_map]
  rfl
theorem nums_lt (p : Pt) (h : mayP p = true) : ∀ x ∈ nums p, x < 1000 := by
  intro x hx
  unfold nums at hx
  obtain ⟨i, hi, rfl⟩ := List.mem_map.1 hx
  have h4 := (mayP_iff p).1 h
  have := List.mem_range.1 hi
  have hn := mayP_num p h i (by unfold depN at this; omega)
  omega
theorem ptOf_nums (p : Pt) (h : mayP p = true) : ptOf (nums p) = p := by
  have hp := (mayP_iff p).1 h
  obtain ⟨D, hD, hD1, hD4⟩ := mayP_dep p h
  have e : depN p = D := by unfold depN; omega
  unfold nums ptOf
  rw [e]
  obtain ⟨x0, x1, x2, x3, x4⟩ := p
  dsimp only at *
  subst hD
  obtain rfl | rfl | rfl | rfl : D = 1 ∨ D = 2 ∨ D = 3 ∨ D = 4 := by omega
  all_goals
    simp [List.range_succ, num]
    omega
theorem text_ne (p : Pt) (h : mayP p = true) : textP p ≠ [] := by
  obtain ⟨D, hD, hD1, hD4⟩ := mayP_dep p h
  rw [text_nums p h (D - 1) (by unfold depN; omega)]
  intro hh
  have := congrArg List.length hh
  rw [List.length_append, Lib.decDigits_length] at this
  have := Lib.nDigits_pos p.n0.toNat
  simp at *
  omega
theorem scan_text (p : Pt) (h : mayP p = true) : scanP (textP p) 0 0 [] = some (nums p) ∧ scanR (textP p) 0 [] = some (nums p) := by
  obtain ⟨D, hD, hD1, hD4⟩ := mayP_dep p h
  have e : depN p = (D - 1) + 1 := by unfold depN; omega
  have hl := nums_lt p h
  have hln : (nums p).length ≤ 4 := by unfold nums; rw [List.length_map, List.length_range, e]; omega
  rw [text_nums p h (D - 1) e]
  rw [nums_cons p (D - 1) e] at hl hln ⊢
  exact ⟨(scanP_list _ _ [] hl (by simpa using hln)).trans (by simp), (scanR_list _ _ [] hl (by simpa using hln)).trans (by simp)⟩
theorem parse_text (p : Pt) (h : mayP p = true) : parseP (textP p) = some p := by
  unfold parseP
  rw [(scan_text p h).1]
  unfold finP
  dsimp only
  rw [ptOf_nums p h, if_pos rfl]
theorem rparse_text (p : Pt) (h : mayP p = true) : rparseP (textP p) = some p := by
  unfold rparseP
  rw [if_neg (text_ne p h), (scan_text p h).2]
  unfold finP
  dsimp only
  rw [ptOf_nums p h, if_pos rfl]
theorem fin_some {s : List UInt8} {o : Option (List Nat)} {q : Pt} (hs : s ≠ []) (h : finP s o = some q) : mayP q = true ∧ textP q = s := by
  cases o with
  | none => cases h
  | some l =>
    unfold finP at h
    dsimp only at h
    split at h
    · rename_i ht
      obtain rfl : ptOf l = q := by injection h
      refine ⟨?_, ht⟩
      cases hm : mayP (ptOf l) with
      | true => rfl
      | false =>
        unfold textP at ht
        rw [hm] at ht
        exact absurd ht.symm hs
    · cases h
theorem parse_eq (s : List UInt8) : parseP s = rparseP s := by
  by_cases hs : s = []
  · subst hs; rfl
  have e1 : parseP s = finP s (scanP s 0 0 []) := rfl
  have e2 : rparseP s = finP s (scanR s 0 []) := by unfold rparseP; rw [if_neg hs]
  cases h : parseP s with
  | some q =>
    obtain ⟨hm, ht⟩ := fin_some hs (e1.symm.trans h)
    have := rparse_text q hm
    rw [ht] at this
    exact this.symm
  | none =>
    cases k : rparseP s with
    | none => rfl
    | some q =>
      obtain ⟨hm, ht⟩ := fin_some hs (e2.symm.trans k)
      have := parse_text q hm
      rw [ht, h] at this
      cases this
theorem text_inj {p q : Pt} (hp : mayP p = true) (hq : mayP q = true) (h : textP p = textP q) : p = q := by
  have a := parse_text p hp
  rw [h, parse_text q hq] at a
  injection a with a
  exact a.symm
theorem key_inj {p q : Pt} (hp : mayP p = true) (hq : mayP q = true) (h : keyP p = keyP q) : p = q := by
  have a := (mayP_iff p).1 hp
  have b := (mayP_iff q).1 hq
  obtain ⟨D, hD, hD1, hD4⟩ := mayP_dep p hp
  obtain ⟨E, hE, hE1, hE4⟩ := mayP_dep q hq
  unfold keyP at h
  rw [if_pos hp, if_pos hq] at h
  have e1 : depN p = D := by unfold depN; omega
  have e2 : depN q = E := by unfold depN; omega
  rw [e1, e2] at h
  rw [pt_eq]
  obtain ⟨x0, x1, x2, x3, x4⟩ := p
  obtain ⟨y0, y1, y2, y3, y4⟩ := q
  dsimp only at *
  subst hD hE
  obtain rfl | rfl | rfl | rfl : D = 1 ∨ D = 2 ∨ D = 3 ∨ D = 4 := by omega
  all_goals
    obtain rfl | rfl | rfl | rfl : E = 1 ∨ E = 2 ∨ E = 3 ∨ E = 4 := by omega
    all_goals
      simp only [keyR, num] at h
      omega
theorem key_pos {p : Pt} (hp : mayP p = true) : 0 < keyP p := by
  obtain ⟨D, hD, hD1, hD4⟩ := mayP_dep p hp
  unfold keyP
  rw [if_pos hp, show depN p = (D - 1) + 1 by unfold depN; omega, keyR]
  have := keyR_range p hp (D - 1) (by omega)
  have := mayP_num p hp (D - 1) (by omega)
  omega
theorem text_len (p : Pt) : (textP p).length ≤ 16 := by
  unfold textP
  split
  · rename_i h
    obtain ⟨D, hD, hD1, hD4⟩ := mayP_dep p h
    have := preT_len p h (depN p) (by unfold depN; omega)
    unfold depN at *
    omega
  · simp
end Go.Proofs.YtlbjlopljlblpaaDoor
