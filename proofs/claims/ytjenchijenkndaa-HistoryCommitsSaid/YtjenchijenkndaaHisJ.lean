/- The statement HistoryCommits: its walk. No condition. -/
import Derived.Test.YtjenchijenkndaaHisI
set_option linter.unusedVariables false
set_option linter.unusedSimpArgs false
namespace Go.Proofs.Ytjenchijenkndaa
open Go.RowKit (wrap32 wrap64)
open Go.RowKit
abbrev atE (L : List Ev) (tx : Int) : Int := endI Ev.tx cmE edE L tx
def tidy1 (L : List Ev) (k : Nat) : Prop := ∀ (j : Nat) (y : Ev), j < k → L[j]? = some y → ¬ (0 ≤ atE L y.tx ∧ atE L y.tx < j)
def tidyAt (L : List Ev) (i k : Nat) : Prop := ∀ (x y : Ev), L[i]? = some x → L[k]? = some y → y.kind = 7 → (x.kind = 6 ∨ x.kind = 8) → clashE x y = true → atE L x.tx > i ∧ atE L x.tx < k
theorem tidy_all {L : List Ev} (h1 : tidy1 L L.length) (h2 : ∀ k, k < L.length → ∀ i, i < k → tidyAt L i k) : tidyE L :=
  ⟨fun k y hy => h1 k y (List.getElem?_eq_some_iff.1 hy).1 hy, fun i k x y hik hx hy => h2 k (List.getElem?_eq_some_iff.1 hy).1 i hik x y hx hy⟩
theorem tidy1_step {L : List Ev} {k : Nat} {y : Ev} (h : tidy1 L k) (hy : L[k]? = some y) (hn : ¬ (0 ≤ atE L y.tx ∧ atE L y.tx < k)) : tidy1 L (k + 1) := fun j z hj hz => by
  by_cases e : j = k
  · subst e; rw [hy] at hz; cases hz; exact hn
  · exact h j z (by omega) hz
theorem tidyAt_of {L : List Ev} {i k : Nat} {x y : Ev} (hx : L[i]? = some x) (hy : L[k]? = some y) (h : y.kind = 7 → (x.kind = 6 ∨ x.kind = 8) → clashE x y = true → atE L x.tx > i ∧ atE L x.tx < k) : tidyAt L i k := fun x' y' hx' hy' => by
  rw [hx] at hx'; cases hx'
  rw [hy] at hy'; cases hy'
  exact h
/-- Where one stands in an order, of the first j: -1: not yet. -/
def posJ (C : List Int) (j : Nat) (x f : Int) : Prop := (f = -1 ∧ ∀ i, i < j → C[i]? ≠ some x) ∨ ∃ p : Nat, f = p ∧ C[p]? = some x
theorem posJ_zero (C : List Int) (x : Int) : posJ C 0 x (-1) := .inl ⟨rfl, fun i h => by omega⟩
theorem posJ_yes {C : List Int} {j : Nat} {x f : Int} (hy : C[j]? = some x) : posJ C (j + 1) x j := .inr ⟨j, rfl, hy⟩
theorem posJ_no {C : List Int} {j : Nat} {x f y : Int} (h : posJ C j x f) (hy : C[j]? = some y) (hn : y ≠ x) : posJ C (j + 1) x f := by
  rcases h with ⟨h1, h2⟩ | h
  · refine .inl ⟨h1, fun i hi e => ?_⟩
    by_cases e2 : i = j
    · subst e2; rw [hy] at e; cases e; exact hn rfl
    · exact h2 i (by omega) e
  · exact .inr h
theorem posJ_end {C : List Int} {x f : Int} (h : posJ C C.length x f) (hm : x ∈ C) : ∃ p : Nat, f = p ∧ C[p]? = some x := by
  rcases h with ⟨_, h2⟩ | h
  · obtain ⟨i, hi, e⟩ := List.getElem_of_mem hm
    exact absurd (by rw [List.getElem?_eq_getElem hi, e]) (h2 i hi)
  · exact h
set_option maxRecDepth 100000 in
set_option maxHeartbeats 16000000 in
theorem histCommits_walk (a : Option Addr) (len cap : Nat) (L : List Ev) (w : World) (hl : Evs w a len L) (hlc : len ≤ cap) (hcm : cap ≤ maxLen) (hnil : a = none → len = 0 ∧ cap = 0) :
    Calls Try.prog 3 #[.slice a len cap] w fun e w' => e = .returned (.bool true) ∧ Below w.heap.size w w' := by
  have hlm : len ≤ 9223372036854775807 := by have := hl.max; unfold maxLen at this; exact this
  have hcm' : cap ≤ 9223372036854775807 := by unfold maxLen at hcm; exact hcm
  have HF := Lib.hid (fun W (hb : Below w.heap.size w W) => few_any a len cap L W (hl.below hb))
  cases hfw : fewL L with
  | false =>
    rw [hfw] at HF
    clear hl
    go_enter Try.func3, Try.ntmps3
    go_wp2_with (first
      | (go_at_call 5; refine (awake23 _).mono ?_; rintro e w1 ⟨rfl, hb1⟩)
      | (go_at_call 6; refine (HF.out _ hb1).mono ?_; rintro e w2 ⟨rfl, hb2⟩))
    go_ret
    exact ⟨rfl, bl_then hb1 (Nat.le_refl _) hb2⟩
  | true =>
  rw [hfw] at HF
  have hll := hl.len
  have hn : len ≤ 30 := by
    unfold fewL at hfw
    simp only [Bool.and_eq_true, decide_eq_true_eq] at hfw
    omega
  have HS := Lib.hid (fun W (hb : Below w.heap.size w W) => pstrict_any a len cap L W (hl.below hb) (by omega))
  cases hst : strictE L with
  | false =>
    rw [hst] at HS
    clear hl hll
    go_enter Try.func3, Try.ntmps3
    go_wp2_with (first
      | (go_at_call 5; refine (awake23 _).mono ?_; rintro e w1 ⟨rfl, hb1⟩)
      | (go_at_call 6; refine (HF.out _ hb1).mono ?_; rintro e w2 ⟨rfl, hb2⟩; have hb12 := bl_then hb1 (Nat.le_refl _) hb2)
      | (go_at_call 7; refine (HS.out _ hb12).mono ?_; rintro e w3 ⟨rfl, hb3⟩))
    go_ret
    exact ⟨rfl, bl_then hb12 (Nat.le_refl _) hb3⟩
  | true =>
  rw [hst] at HS
  have HST := Lib.hid hst
  have HLN := Lib.hid hll
  have HL := Lib.hid hl
  have HE := Lib.hid (fun W (hb : Below w.heap.size w W) tx => ends_any a len cap L tx W (hl.below hb))
  have HCM := Lib.hid (fun W (hb : Below w.heap.size w W) => comm_any a len cap L W (hl.below hb) (by omega))
  have HED := Lib.hid (fun W (hb : Below w.heap.size w W) => pedges_any a len cap L W (hl.below hb) hlc hcm hn)
  have HAC := Lib.hid (fun W (hb : Below w.heap.size w W) => pacy_any a len cap L W (hl.below hb) hlc hcm hn)
  have HGL := Lib.hid (edges_len L (by rw [hll]; exact hn))
  have HGK := Lib.hid (edges_ok L hl.all)
  have hcl30 : (comE L).length ≤ len := Nat.le_trans (commTo_len L L.length) (Nat.le_of_eq hll)
  have HCK := Lib.hid (fun (x : Int) (_ : x ∈ comE L) => True.intro)
  clear hl hll hfw hst hcm
  go_enter Try.func3, Try.ntmps3
  go_wp2_with (first
    | (go_at_call 5; refine (awake23 _).mono ?_; rintro e w1 ⟨rfl, hb1⟩)
    | (go_at_call 6; refine (HF.out _ hb1).mono ?_; rintro e w2 ⟨rfl, hb2⟩; have hb12 := bl_then hb1 (Nat.le_refl _) hb2)
    | (go_at_call 7; refine (HS.out _ hb12).mono ?_; rintro e w3 ⟨rfl, hb3⟩; have hB3 := bl_then hb12 (Nat.le_refl _) hb3))
  clear hb1 hb2 hb12 hb3 HF HS
  go_loopw [30] (fun c wr => ∃ k : Nat, k ≤ len ∧ c = .int .i64 k ∧ Hid (tidy1 L k) ∧ Hid (∀ k', k' < k → ∀ i, i < k' → tidyAt L i k') ∧ Below w.heap.size w wr) (fun c _ => len - (intOf c).toNat)
  case atStart => exact ⟨0, by omega, rfl, Lib.hid (fun j y h => by omega), Lib.hid (fun j h => by omega), hB3⟩
  case round =>
    clear hB3
    obtain ⟨k, hk, rfl, HT1, HT2, HB⟩ := hrel
    by_cases hlt : k < len
    · obtain ⟨b, off, y, rfl, hb, hy, hoky, d0, d1, d2, d3, d4, d5, d6, d7, d8, d9, d10⟩ := Ev_at (HL.out.below HB) hlt
      obtain ⟨al, hBY⟩ := ev_box y wr
      have HBA := Lib.hid (bl_then HB (Nat.le_refl _) al)
      have HEY := Lib.hid (HE.out _ HBA.out y.tx)
      have HTS := Lib.hid (fun hn => tidy1_step HT1.out hy hn)
      have HTA := Lib.hid (fun i x hx => @tidyAt_of L i k x y hx hy)
      have HCY := Lib.hid (fun x W => pclash_any x y W)
      have hy1 := hBY.cell 1
      have HBY := Lib.hid hBY
      change Hid (Calls _ _ _ _ fun e w' => e = .returned (.tuple #[.int .i64 (atE L y.tx), .int .i64 (howE L y.tx)]) ∧ _) at HEY
      generalize atE L y.tx = at' at HEY HTS
      generalize howE L y.tx = hw at HEY
      clear HB al hBY hy hoky
      by_cases h0 : 0 ≤ at'
      · have d0 : decide (at' ≥ 0) = true := decide_eq_true h0
        by_cases h1 : at' < (k : Int)
        · have d1 : decide (at' < (k : Int)) = true := decide_eq_true h1
          go_wp2_with (go_at_call 8; refine HEY.out.mono ?_; rintro e w5 ⟨rfl, hb5⟩)
          go_ret
          exact ⟨rfl, bl_then HBA.out (Nat.le_refl _) hb5⟩
        · have d1 : decide (at' < (k : Int)) = false := decide_eq_false h1
          have HT1' := Lib.hid (HTS.out (fun h => h1 h.2))
          go_wp2_with (go_at_call 8; refine HEY.out.mono ?_; rintro e w5 ⟨rfl, hb5⟩)
          clear HEY HTS d0 d1 hy1
          have HBY5 := Lib.hid (HBY.out.below hb5)
          have HB5 := Lib.hid (bl_then HBA.out (Nat.le_refl _) hb5)
          clear HBY HBA hb5
          generalize wr.heap.size = Y at HBY5 ⊢
          go_loopw [53] (fun c wr => ∃ i : Nat, i ≤ k ∧ c = .int .i64 i ∧ Hid (∀ i', i' < i → tidyAt L i' k) ∧ Below w5.heap.size w5 wr) (fun c _ => k - (intOf c).toNat)
          case atStart => exact ⟨0, by omega, rfl, Lib.hid (fun i h => by omega), Below.refl _ _⟩
          case round =>
            obtain ⟨i, hi, rfl, HTI, HB6⟩ := hrel
            by_cases hli : i < k
            · exact (by
                have HB6' := Lib.hid (bl_then HB5.out (Nat.le_refl _) HB6)
                obtain ⟨b9, off9, x, he9, hb9, hx, hokx, e0, e1, e2, e3, e4, e5, e6, e7, e8, e9, e10⟩ := Ev_at (HL.out.below HB6'.out) (show i < len by omega)
                obtain ⟨rfl, rfl⟩ : b = b9 ∧ off = off9 := by cases he9; exact ⟨rfl, rfl⟩
                obtain ⟨al, hBX⟩ := ev_box x wr
                have HBA := Lib.hid (bl_then HB6'.out (Nat.le_refl _) al)
                have HEX := Lib.hid (HE.out _ HBA.out x.tx)
                have HCX := Lib.hid (fun W => HCY.out x W)
                have HOF := Lib.hid (HTA.out i x hx)
                have hBY := (HBY5.out.below HB6).below al
                have HGO := Lib.hid (bl_then HB6 (Nat.le_refl _) al)
                change Hid (Calls _ _ _ _ fun e w' => e = .returned (.tuple #[.int .i64 (atE L x.tx), .int .i64 (howE L x.tx)]) ∧ _) at HEX
                generalize atE L x.tx = at2 at HEX HOF
                generalize howE L x.tx = hw2 at HEX
                have hx1 := hBX.cell 1
                have XC := Lib.hid (fun W h => hBX.below (w' := W) h)
                have YC := Lib.hid (fun W h => hBY.below (w' := W) h)
                clear HB6 al he9 hb9 hx hokx hBX hBY
                go_upto_region 15 with (go_at_call 8; refine HEX.out.mono ?_; rintro e w7 ⟨rfl, hb7⟩)
                have hX7 := XC.out _ hb7
                have hY7 := YC.out _ hb7
                have HG7 := Lib.hid (bl_then HGO.out (Nat.le_refl _) hb7)
                have HB7 := Lib.hid (bl_then HBA.out (Nat.le_refl _) hb7)
                clear XC YC hb7 HEX HGO HBA hx1
                generalize wr.heap.size = X at hX7 ⊢
                have xq0 := hX7.cell 0
                have xq1 := hX7.cell 1
                have xq2 := hX7.cell 2
                have xq3 := hX7.cell 3
                have xq4 := hX7.cell 4
                have xq5 := hX7.cell 5
                have xq6 := hX7.cell 6
                have xq7 := hX7.cell 7
                have xq8 := hX7.cell 8
                have xq9 := hX7.cell 9
                have xq10 := hX7.cell 10
                have yq0 := hY7.cell 0
                have yq1 := hY7.cell 1
                have yq2 := hY7.cell 2
                have yq3 := hY7.cell 3
                have yq4 := hY7.cell 4
                have yq5 := hY7.cell 5
                have yq6 := hY7.cell 6
                have yq7 := hY7.cell 7
                have yq8 := hY7.cell 8
                have yq9 := hY7.cell 9
                have yq10 := hY7.cell 10
                clear hX7 hY7
                cases k7 : (y.kind == 7) with
                | false =>
                  have HN : Hid (∀ i', i' < i + 1 → tidyAt L i' k) := Lib.hid (fun i' hi' => by
                    by_cases e : i' = i
                    · subst e; exact HOF.out (fun h => by rw [h] at k7; cases k7)
                    · exact HTI.out i' (by omega))
                  go_wp2_with fail
                  go_roundw
                  case rel => exact ⟨i + 1, by omega, by go_num, HN, HG7.out⟩
                  case measure => simp [intOf]; omega
                | true =>
                  cases k6 : (x.kind == 6) with
                  | true =>
                    generalize clashE x y = bc at HCX HOF
                    cases bc with
                    | false =>
                      have HN : Hid (∀ i', i' < i + 1 → tidyAt L i' k) := Lib.hid (fun i' hi' => by
                        by_cases e : i' = i
                        · subst e; exact HOF.out (fun _ _ h => by cases h)
                        · exact HTI.out i' (by omega))
                      go_wp2_with (go_at_call 9; refine (HCX.out _).mono ?_; rintro e w8 ⟨rfl, hb8⟩)
                      go_roundw
                      case rel => exact ⟨i + 1, by omega, by go_num, HN, bl_then HG7.out (Nat.le_refl _) hb8⟩
                      case measure => simp [intOf]; omega
                    | true =>
                      by_cases g1 : at2 ≤ (i : Int)
                      · have gd1 : decide (at2 ≤ (i : Int)) = true := decide_eq_true g1
                        go_wp2_with (go_at_call 9; refine (HCX.out _).mono ?_; rintro e w8 ⟨rfl, hb8⟩)
                        go_ret
                        exact ⟨rfl, bl_then HB7.out (Nat.le_refl _) hb8⟩
                      · have gd1 : decide (at2 ≤ (i : Int)) = false := decide_eq_false g1
                        by_cases g2 : at2 ≥ (k : Int)
                        · have gd2 : decide (at2 ≥ (k : Int)) = true := decide_eq_true g2
                          go_wp2_with (go_at_call 9; refine (HCX.out _).mono ?_; rintro e w8 ⟨rfl, hb8⟩)
                          go_ret
                          exact ⟨rfl, bl_then HB7.out (Nat.le_refl _) hb8⟩
                        · have gd2 : decide (at2 ≥ (k : Int)) = false := decide_eq_false g2
                          have HN : Hid (∀ i', i' < i + 1 → tidyAt L i' k) := Lib.hid (fun i' hi' => by
                            by_cases e : i' = i
                            · subst e; exact HOF.out (fun _ _ _ => ⟨by omega, by omega⟩)
                            · exact HTI.out i' (by omega))
                          go_wp2_with (go_at_call 9; refine (HCX.out _).mono ?_; rintro e w8 ⟨rfl, hb8⟩)
                          go_roundw
                          case rel => exact ⟨i + 1, by omega, by go_num, HN, bl_then HG7.out (Nat.le_refl _) hb8⟩
                          case measure => simp [intOf]; omega
                  | false =>
                    cases k8 : (x.kind == 8) with
                    | true =>
                      generalize clashE x y = bc at HCX HOF
                      cases bc with
                      | false =>
                        have HN : Hid (∀ i', i' < i + 1 → tidyAt L i' k) := Lib.hid (fun i' hi' => by
                          by_cases e : i' = i
                          · subst e; exact HOF.out (fun _ _ h => by cases h)
                          · exact HTI.out i' (by omega))
                        go_wp2_with (go_at_call 9; refine (HCX.out _).mono ?_; rintro e w8 ⟨rfl, hb8⟩)
                        go_roundw
                        case rel => exact ⟨i + 1, by omega, by go_num, HN, bl_then HG7.out (Nat.le_refl _) hb8⟩
                        case measure => simp [intOf]; omega
                      | true =>
                        by_cases g1 : at2 ≤ (i : Int)
                        · have gd1 : decide (at2 ≤ (i : Int)) = true := decide_eq_true g1
                          go_wp2_with (go_at_call 9; refine (HCX.out _).mono ?_; rintro e w8 ⟨rfl, hb8⟩)
                          go_ret
                          exact ⟨rfl, bl_then HB7.out (Nat.le_refl _) hb8⟩
                        · have gd1 : decide (at2 ≤ (i : Int)) = false := decide_eq_false g1
                          by_cases g2 : at2 ≥ (k : Int)
                          · have gd2 : decide (at2 ≥ (k : Int)) = true := decide_eq_true g2
                            go_wp2_with (go_at_call 9; refine (HCX.out _).mono ?_; rintro e w8 ⟨rfl, hb8⟩)
                            go_ret
                            exact ⟨rfl, bl_then HB7.out (Nat.le_refl _) hb8⟩
                          · have gd2 : decide (at2 ≥ (k : Int)) = false := decide_eq_false g2
                            have HN : Hid (∀ i', i' < i + 1 → tidyAt L i' k) := Lib.hid (fun i' hi' => by
                              by_cases e : i' = i
                              · subst e; exact HOF.out (fun _ _ _ => ⟨by omega, by omega⟩)
                              · exact HTI.out i' (by omega))
                            go_wp2_with (go_at_call 9; refine (HCX.out _).mono ?_; rintro e w8 ⟨rfl, hb8⟩)
                            go_roundw
                            case rel => exact ⟨i + 1, by omega, by go_num, HN, bl_then HG7.out (Nat.le_refl _) hb8⟩
                            case measure => simp [intOf]; omega
                    | false =>
                      have HN : Hid (∀ i', i' < i + 1 → tidyAt L i' k) := Lib.hid (fun i' hi' => by
                        by_cases e : i' = i
                        · subst e; exact HOF.out (fun _ h => h.elim (fun h => by rw [h] at k6; cases k6) (fun h => by rw [h] at k8; cases k8))
                        · exact HTI.out i' (by omega))
                      go_wp2_with fail
                      go_roundw
                      case rel => exact ⟨i + 1, by omega, by go_num, HN, HG7.out⟩
                      case measure => simp [intOf]; omega)
            · obtain rfl : i = k := by omega
              have HT2' : Hid (∀ k', k' < i + 1 → ∀ i', i' < k' → tidyAt L i' k') := Lib.hid (fun k' hk' => by
                by_cases e : k' = i
                · subst e; exact HTI.out
                · exact HT2.out k' (by omega))
              go_wp2_with fail
              go_roundw
              case rel => exact ⟨i + 1, by omega, by go_num, HT1', HT2', bl_then HB5.out (Nat.le_refl _) HB6⟩
              case measure => simp [intOf]; omega
      · have d0 : decide (at' ≥ 0) = false := decide_eq_false h0
        have HT1' := Lib.hid (HTS.out (fun h => h0 h.1))
        go_wp2_with (go_at_call 8; refine HEY.out.mono ?_; rintro e w5 ⟨rfl, hb5⟩)
        clear HEY HTS d0 hy1
        have HBY5 := Lib.hid (HBY.out.below hb5)
        have HB5 := Lib.hid (bl_then HBA.out (Nat.le_refl _) hb5)
        clear HBY HBA hb5
        generalize wr.heap.size = Y at HBY5 ⊢
        go_loopw [53] (fun c wr => ∃ i : Nat, i ≤ k ∧ c = .int .i64 i ∧ Hid (∀ i', i' < i → tidyAt L i' k) ∧ Below w5.heap.size w5 wr) (fun c _ => k - (intOf c).toNat)
        case atStart => exact ⟨0, by omega, rfl, Lib.hid (fun i h => by omega), Below.refl _ _⟩
        case round =>
          obtain ⟨i, hi, rfl, HTI, HB6⟩ := hrel
          by_cases hli : i < k
          · exact (by
              have HB6' := Lib.hid (bl_then HB5.out (Nat.le_refl _) HB6)
              obtain ⟨b9, off9, x, he9, hb9, hx, hokx, e0, e1, e2, e3, e4, e5, e6, e7, e8, e9, e10⟩ := Ev_at (HL.out.below HB6'.out) (show i < len by omega)
              obtain ⟨rfl, rfl⟩ : b = b9 ∧ off = off9 := by cases he9; exact ⟨rfl, rfl⟩
              obtain ⟨al, hBX⟩ := ev_box x wr
              have HBA := Lib.hid (bl_then HB6'.out (Nat.le_refl _) al)
              have HEX := Lib.hid (HE.out _ HBA.out x.tx)
              have HCX := Lib.hid (fun W => HCY.out x W)
              have HOF := Lib.hid (HTA.out i x hx)
              have hBY := (HBY5.out.below HB6).below al
              have HGO := Lib.hid (bl_then HB6 (Nat.le_refl _) al)
              change Hid (Calls _ _ _ _ fun e w' => e = .returned (.tuple #[.int .i64 (atE L x.tx), .int .i64 (howE L x.tx)]) ∧ _) at HEX
              generalize atE L x.tx = at2 at HEX HOF
              generalize howE L x.tx = hw2 at HEX
              have hx1 := hBX.cell 1
              have XC := Lib.hid (fun W h => hBX.below (w' := W) h)
              have YC := Lib.hid (fun W h => hBY.below (w' := W) h)
              clear HB6 al he9 hb9 hx hokx hBX hBY
              go_upto_region 15 with (go_at_call 8; refine HEX.out.mono ?_; rintro e w7 ⟨rfl, hb7⟩)
              have hX7 := XC.out _ hb7
              have hY7 := YC.out _ hb7
              have HG7 := Lib.hid (bl_then HGO.out (Nat.le_refl _) hb7)
              have HB7 := Lib.hid (bl_then HBA.out (Nat.le_refl _) hb7)
              clear XC YC hb7 HEX HGO HBA hx1
              generalize wr.heap.size = X at hX7 ⊢
              have xq0 := hX7.cell 0
              have xq1 := hX7.cell 1
              have xq2 := hX7.cell 2
              have xq3 := hX7.cell 3
              have xq4 := hX7.cell 4
              have xq5 := hX7.cell 5
              have xq6 := hX7.cell 6
              have xq7 := hX7.cell 7
              have xq8 := hX7.cell 8
              have xq9 := hX7.cell 9
              have xq10 := hX7.cell 10
              have yq0 := hY7.cell 0
              have yq1 := hY7.cell 1
              have yq2 := hY7.cell 2
              have yq3 := hY7.cell 3
              have yq4 := hY7.cell 4
              have yq5 := hY7.cell 5
              have yq6 := hY7.cell 6
              have yq7 := hY7.cell 7
              have yq8 := hY7.cell 8
              have yq9 := hY7.cell 9
              have yq10 := hY7.cell 10
              clear hX7 hY7
              cases k7 : (y.kind == 7) with
              | false =>
                have HN : Hid (∀ i', i' < i + 1 → tidyAt L i' k) := Lib.hid (fun i' hi' => by
                  by_cases e : i' = i
                  · subst e; exact HOF.out (fun h => by rw [h] at k7; cases k7)
                  · exact HTI.out i' (by omega))
                go_wp2_with fail
                go_roundw
                case rel => exact ⟨i + 1, by omega, by go_num, HN, HG7.out⟩
                case measure => simp [intOf]; omega
              | true =>
                cases k6 : (x.kind == 6) with
                | true =>
                  generalize clashE x y = bc at HCX HOF
                  cases bc with
                  | false =>
                    have HN : Hid (∀ i', i' < i + 1 → tidyAt L i' k) := Lib.hid (fun i' hi' => by
                      by_cases e : i' = i
                      · subst e; exact HOF.out (fun _ _ h => by cases h)
                      · exact HTI.out i' (by omega))
                    go_wp2_with (go_at_call 9; refine (HCX.out _).mono ?_; rintro e w8 ⟨rfl, hb8⟩)
                    go_roundw
                    case rel => exact ⟨i + 1, by omega, by go_num, HN, bl_then HG7.out (Nat.le_refl _) hb8⟩
                    case measure => simp [intOf]; omega
                  | true =>
                    by_cases g1 : at2 ≤ (i : Int)
                    · have gd1 : decide (at2 ≤ (i : Int)) = true := decide_eq_true g1
                      go_wp2_with (go_at_call 9; refine (HCX.out _).mono ?_; rintro e w8 ⟨rfl, hb8⟩)
                      go_ret
                      exact ⟨rfl, bl_then HB7.out (Nat.le_refl _) hb8⟩
                    · have gd1 : decide (at2 ≤ (i : Int)) = false := decide_eq_false g1
                      by_cases g2 : at2 ≥ (k : Int)
                      · have gd2 : decide (at2 ≥ (k : Int)) = true := decide_eq_true g2
                        go_wp2_with (go_at_call 9; refine (HCX.out _).mono ?_; rintro e w8 ⟨rfl, hb8⟩)
                        go_ret
                        exact ⟨rfl, bl_then HB7.out (Nat.le_refl _) hb8⟩
                      · have gd2 : decide (at2 ≥ (k : Int)) = false := decide_eq_false g2
                        have HN : Hid (∀ i', i' < i + 1 → tidyAt L i' k) := Lib.hid (fun i' hi' => by
                          by_cases e : i' = i
                          · subst e; exact HOF.out (fun _ _ _ => ⟨by omega, by omega⟩)
                          · exact HTI.out i' (by omega))
                        go_wp2_with (go_at_call 9; refine (HCX.out _).mono ?_; rintro e w8 ⟨rfl, hb8⟩)
                        go_roundw
                        case rel => exact ⟨i + 1, by omega, by go_num, HN, bl_then HG7.out (Nat.le_refl _) hb8⟩
                        case measure => simp [intOf]; omega
                | false =>
                  cases k8 : (x.kind == 8) with
                  | true =>
                    generalize clashE x y = bc at HCX HOF
                    cases bc with
                    | false =>
                      have HN : Hid (∀ i', i' < i + 1 → tidyAt L i' k) := Lib.hid (fun i' hi' => by
                        by_cases e : i' = i
                        · subst e; exact HOF.out (fun _ _ h => by cases h)
                        · exact HTI.out i' (by omega))
                      go_wp2_with (go_at_call 9; refine (HCX.out _).mono ?_; rintro e w8 ⟨rfl, hb8⟩)
                      go_roundw
                      case rel => exact ⟨i + 1, by omega, by go_num, HN, bl_then HG7.out (Nat.le_refl _) hb8⟩
                      case measure => simp [intOf]; omega
                    | true =>
                      by_cases g1 : at2 ≤ (i : Int)
                      · have gd1 : decide (at2 ≤ (i : Int)) = true := decide_eq_true g1
                        go_wp2_with (go_at_call 9; refine (HCX.out _).mono ?_; rintro e w8 ⟨rfl, hb8⟩)
                        go_ret
                        exact ⟨rfl, bl_then HB7.out (Nat.le_refl _) hb8⟩
                      · have gd1 : decide (at2 ≤ (i : Int)) = false := decide_eq_false g1
                        by_cases g2 : at2 ≥ (k : Int)
                        · have gd2 : decide (at2 ≥ (k : Int)) = true := decide_eq_true g2
                          go_wp2_with (go_at_call 9; refine (HCX.out _).mono ?_; rintro e w8 ⟨rfl, hb8⟩)
                          go_ret
                          exact ⟨rfl, bl_then HB7.out (Nat.le_refl _) hb8⟩
                        · have gd2 : decide (at2 ≥ (k : Int)) = false := decide_eq_false g2
                          have HN : Hid (∀ i', i' < i + 1 → tidyAt L i' k) := Lib.hid (fun i' hi' => by
                            by_cases e : i' = i
                            · subst e; exact HOF.out (fun _ _ _ => ⟨by omega, by omega⟩)
                            · exact HTI.out i' (by omega))
                          go_wp2_with (go_at_call 9; refine (HCX.out _).mono ?_; rintro e w8 ⟨rfl, hb8⟩)
                          go_roundw
                          case rel => exact ⟨i + 1, by omega, by go_num, HN, bl_then HG7.out (Nat.le_refl _) hb8⟩
                          case measure => simp [intOf]; omega
                  | false =>
                    have HN : Hid (∀ i', i' < i + 1 → tidyAt L i' k) := Lib.hid (fun i' hi' => by
                      by_cases e : i' = i
                      · subst e; exact HOF.out (fun _ h => h.elim (fun h => by rw [h] at k6; cases k6) (fun h => by rw [h] at k8; cases k8))
                      · exact HTI.out i' (by omega))
                    go_wp2_with fail
                    go_roundw
                    case rel => exact ⟨i + 1, by omega, by go_num, HN, HG7.out⟩
                    case measure => simp [intOf]; omega)
          · obtain rfl : i = k := by omega
            have HT2' : Hid (∀ k', k' < i + 1 → ∀ i', i' < k' → tidyAt L i' k') := Lib.hid (fun k' hk' => by
              by_cases e : k' = i
              · subst e; exact HTI.out
              · exact HT2.out k' (by omega))
            go_wp2_with fail
            go_roundw
            case rel => exact ⟨i + 1, by omega, by go_num, HT1', HT2', bl_then HB5.out (Nat.le_refl _) HB6⟩
            case measure => simp [intOf]; omega
    · obtain rfl : k = len := by omega
      have HTD := Lib.hid (tidy_all (L := L) (by rw [HLN.out]; exact HT1.out) (by rw [HLN.out]; exact HT2.out))
      have HUP := Lib.hid (edges_up HST.out HTD.out)
      have hac : acyE (edgesE L) = true := edges_acy HST.out HTD.out
      rw [hac] at HAC
      have HORD := Lib.hid (fun f t x y => @order_lt L f t x y)
      generalize edgesE L = G at HED HUP HGL HGK
      change Hid (∀ W, Below w.heap.size w W → Calls _ _ _ W (OwnRet enI 3 1 W (comE L))) at HCM
      change Hid (∀ (f t : Nat) (x y : Int), _ → (comE L)[f]? = some x → (comE L)[t]? = some y → f < t) at HORD
      generalize comE L = C at HCM HUP hcl30 HORD
      generalize hcl : C.length = m at hcl30
      generalize hgl : G.length = g at HGL
      have HCL := Lib.hid hcl
      have HGN := Lib.hid hgl
      have HG9 := HGL.out
      have HB0 := Lib.hid HB
      clear hac hcl hgl HCK HTD HT1 HT2 HGL
      go_wp2_with (first
        | (go_at_call 10; refine (HCM.out _ HB).mono ?_; rintro e w4 ⟨v4, rfl, hown4, hb4⟩; rw [HCL.out] at hown4; obtain ⟨A4, c4, rfl, _, _, _⟩ := SR.own (ok := fun _ => True) enI_len (by omega) hown4 (fun _ _ => trivial); have HB4 := bl_then HB (Nat.le_refl _) hb4)
        | (go_at_call 11; refine (HED.out _ HB4).mono ?_; rintro e w5 ⟨v5, rfl, hown5, hb5⟩; rw [HGN.out] at hown5; obtain ⟨A5, c5, rfl⟩ := own_slice hown5))
      have ho4 := own_below hown4 hb5
      have HB5 := bl_then HB4 (Nat.le_refl _) hb5
      obtain ⟨A5', c5', e5, hs5, _, _⟩ := SR.own (ok := okEg) enEg_len (by omega) hown5 HGK.out
      obtain ⟨rfl, rfl⟩ : A5 = A5' ∧ c5 = c5' := by injection e5 with e1 _ e2; exact ⟨e1, e2⟩
      obtain ⟨A4', c4', e4, hi4⟩ := ints_own ho4
      obtain ⟨rfl, rfl⟩ : A4 = A4' ∧ c4 = c4' := by injection e4 with e1 _ e2; exact ⟨e1, e2⟩
      clear hown4 hown5 hb4 hb5 HB HB4 e5 e4 ho4
      have HI4 := Lib.hid hi4
      have HS5 := Lib.hid hs5
      clear hi4 hs5
      go_loopw [100] (fun c wr => ∃ q : Nat, q ≤ g ∧ c = .int .i64 q ∧ Below w5.heap.size w5 wr) (fun c _ => g - (intOf c).toNat)
      case atStart => exact ⟨0, by omega, rfl, Below.refl _ _⟩
      case round =>
        obtain ⟨q, hq, rfl, HB6⟩ := hrel
        by_cases hlq : q < g
        · obtain ⟨b6, off6, ed, rfl, hb6, hed, hoked, f0, f1⟩ := Eg_at (HS5.out.below HB6) hlq
          obtain ⟨al, hBE⟩ := eg_box ed wr
          obtain ⟨hsrc, hdst, hup⟩ := HUP.out ed (List.mem_of_getElem? hed)
          have HOL := Lib.hid (fun f t => HORD.out f t ed.src ed.dst hup)
          have HSR := Lib.hid hsrc
          have HDS := Lib.hid hdst
          have HB7 := Lib.hid (bl_then HB6 (Nat.le_refl _) al)
          clear hed hoked hup hsrc hdst HB6 al
          go_wp2_with fail
          generalize wr.alloc (.cells #[.int .i64 ed.src, .int .i64 ed.dst] 40) = w6 at hBE HB7 ⊢
          generalize wr.heap.size = E6 at hBE ⊢
          go_loopw [14, 15, 106] (fun p14 p15 c wr1 => ∃ (j : Nat) (f t : Int), j ≤ m ∧ c = .int .i64 j ∧ p14 = .int .i64 f ∧ p15 = .int .i64 t ∧ Hid (posJ C j ed.src f) ∧ Hid (posJ C j ed.dst t) ∧ wr1 = w6) (fun _ _ c _ => m - (intOf c).toNat)
          case atStart => exact ⟨0, -1, -1, by omega, rfl, rfl, rfl, Lib.hid (posJ_zero _ _), Lib.hid (posJ_zero _ _), rfl⟩
          case round =>
            obtain ⟨j, f, t, hj, rfl, rfl, rfl, HF, HT, rfl⟩ := hrel
            by_cases hlj : j < m
            · obtain ⟨y, hy⟩ : ∃ y, C[j]? = some y := ⟨_, List.getElem?_eq_getElem (by rw [HCL.out]; exact hlj)⟩
              obtain ⟨b4, off4, rfl, d0⟩ := (HI4.out.below HB7.out).get hlj
              rw [show C.getD j 0 = y by rw [List.getD_eq_getElem?_getD, hy]; rfl] at d0
              have q0 := hBE.cell 0
              have q1 := hBE.cell 1
              have HYY := Lib.hid hy
              clear hy
              by_cases h1 : y = ed.src
              · have HF2 : Hid (posJ C (j + 1) ed.src j) := Lib.hid (posJ_yes (f := 0) (by rw [← h1]; exact HYY.out))
                have t1 : (y == ed.src) = true := beq_iff_eq.2 h1
                by_cases h2 : y = ed.dst
                · have HT2 : Hid (posJ C (j + 1) ed.dst j) := Lib.hid (posJ_yes (f := 0) (by rw [← h2]; exact HYY.out))
                  have t2 : (y == ed.dst) = true := beq_iff_eq.2 h2
                  clear h1 h2
                  go_wp2_with fail
                  go_roundw
                  case rel => exact ⟨j + 1, j, j, by omega, by go_num, rfl, rfl, HF2, HT2, by first | trivial | rfl⟩
                  case measure => simp [intOf]; omega
                · have HT2 : Hid (posJ C (j + 1) ed.dst t) := Lib.hid (posJ_no HT.out HYY.out h2)
                  have t2 : (y == ed.dst) = false := beq_eq_false_iff_ne.2 h2
                  clear h1 h2
                  go_wp2_with fail
                  go_roundw
                  case rel => exact ⟨j + 1, j, t, by omega, by go_num, rfl, rfl, HF2, HT2, by first | trivial | rfl⟩
                  case measure => simp [intOf]; omega
              · have HF2 : Hid (posJ C (j + 1) ed.src f) := Lib.hid (posJ_no HF.out HYY.out h1)
                have t1 : (y == ed.src) = false := beq_eq_false_iff_ne.2 h1
                by_cases h2 : y = ed.dst
                · have HT2 : Hid (posJ C (j + 1) ed.dst j) := Lib.hid (posJ_yes (f := 0) (by rw [← h2]; exact HYY.out))
                  have t2 : (y == ed.dst) = true := beq_iff_eq.2 h2
                  clear h1 h2
                  go_wp2_with fail
                  go_roundw
                  case rel => exact ⟨j + 1, f, j, by omega, by go_num, rfl, rfl, HF2, HT2, by first | trivial | rfl⟩
                  case measure => simp [intOf]; omega
                · have HT2 : Hid (posJ C (j + 1) ed.dst t) := Lib.hid (posJ_no HT.out HYY.out h2)
                  have t2 : (y == ed.dst) = false := beq_eq_false_iff_ne.2 h2
                  clear h1 h2
                  go_wp2_with fail
                  go_roundw
                  case rel => exact ⟨j + 1, f, t, by omega, by go_num, rfl, rfl, HF2, HT2, by first | trivial | rfl⟩
                  case measure => simp [intOf]; omega
            · obtain rfl : j = m := by omega
              obtain ⟨p, rfl, hp⟩ := posJ_end (by rw [HCL.out]; exact HF.out) HSR.out
              obtain ⟨p2, rfl, hp2⟩ := posJ_end (by rw [HCL.out]; exact HT.out) HDS.out
              have hpp := HOL.out p p2 hp hp2
              have g1 : ¬ ((p : Int) < 0) := by omega
              have g2 : ¬ ((p2 : Int) < 0) := by omega
              have g3 : ¬ ((p : Int) ≥ (p2 : Int)) := by omega
              have g4 : ¬ p ≥ p2 := by omega
              have g5 : ¬ p2 ≤ p := by omega
              clear hp hp2 HF HT HOL
              go_wp2_with fail
              go_roundw
              case rel => exact ⟨q + 1, by omega, by go_num, HB7.out⟩
              case measure => simp [intOf]; omega
        · obtain rfl : q = g := by omega
          have HB8 := bl_then HB5 (Nat.le_refl _) HB6
          go_wp2_with (go_at_call 12; refine (HAC.out _ HB8).mono ?_; rintro e w9 ⟨rfl, hb9⟩)
          go_ret
          exact ⟨rfl, bl_then HB8 (Nat.le_refl _) hb9⟩
end Go.Proofs.Ytjenchijenkndaa
