/- The contracts of the reference's Fair and Gap. No condition. -/
import Derived.Test.YtgpkidffhglngaaGap
set_option linter.unusedVariables false
set_option linter.unusedSimpArgs false
namespace Go.Proofs.Ytgpkidffhglngaa
open Go.RowKit (wrap32 wrap64)
open Go.RowKit Plain
def hasX (l : List Int) (x : Int) (f j : Nat) : Prop := ∃ i, f ≤ i ∧ i < f + j ∧ l.getD i 0 = x
theorem hasX_zero (l : List Int) (x : Int) (f : Nat) : ¬ hasX l x f 0 := fun ⟨i, h1, h2, _⟩ => by omega
theorem hasX_succ (l : List Int) (x : Int) (f j : Nat) : hasX l x f (j + 1) ↔ hasX l x f j ∨ l.getD (f + j) 0 = x := by
  constructor
  · rintro ⟨i, h1, h2, h3⟩
    by_cases e : i = f + j
    · right; rw [← e]; exact h3
    · exact .inl ⟨i, h1, by omega, h3⟩
  · rintro (⟨i, h1, h2, h3⟩ | h)
    · exact ⟨i, h1, by omega, h3⟩
    · exact ⟨f + j, by omega, by omega, h⟩
set_option maxHeartbeats 1000000 in
theorem rfair_any (a : Option Addr) (len cap : Nat) (xs : List Int) (n win : Int) (w : World) (hl : Ints w a len xs) (hlen : len ≤ 900) (hcap : len ≤ cap) (hcm : cap ≤ maxLen) : Calls Try.prog 48 #[.slice a len cap, .int .i64 n, .int .i64 win] w (FairRet xs n win w) := by
  have hx := hl.len
  unfold maxLen at hcm
  by_cases hn : n < 1
  · have hs : (false = true ↔ 1 ≤ n ∧ n ≤ win ∧ fairW xs n.toNat win.toNat) := ⟨fun h => (by cases h), fun h => (by omega)⟩
    have HS := Lib.hid hs
    clear hs
    go_enter Try.func48, Try.ntmps48
    go_wp2_with fail
    go_ret
    exact ⟨false, rfl, HS.out, rfl⟩
  by_cases hw : win < n
  · have hs : (false = true ↔ 1 ≤ n ∧ n ≤ win ∧ fairW xs n.toNat win.toNat) := ⟨fun h => (by cases h), fun h => (by omega)⟩
    have HS := Lib.hid hs
    clear hs
    go_enter Try.func48, Try.ntmps48
    go_wp2_with fail
    go_ret
    exact ⟨false, rfl, HS.out, rfl⟩
  by_cases hlong : (len : Int) < win
  · have hs : (True ↔ 1 ≤ n ∧ n ≤ win ∧ fairW xs n.toNat win.toNat) := ⟨fun _ => ⟨by omega, by omega, fair_long _ _ _ (by omega)⟩, fun _ => trivial⟩
    have HS := Lib.hid hs
    clear hs
    go_enter Try.func48, Try.ntmps48
    go_wp2_with fail
    refine wp_loop_rounds 1 ?_
    rw [rounds_succ]
    by_cases h0 : len = 0
    · subst h0
      go_wp2
      go_ret
      exact ⟨true, rfl, by simpa using HS.out, rfl⟩
    · go_wp2
      go_ret
      exact ⟨true, rfl, by simpa using HS.out, rfl⟩
  obtain ⟨n, rfl⟩ := Int.eq_ofNat_of_zero_le (show 0 ≤ n by omega)
  obtain ⟨win, rfl⟩ := Int.eq_ofNat_of_zero_le (show 0 ≤ win by omega)
  go_enter Try.func48, Try.ntmps48
  go_wp2_with fail
  go_loop [7] (fun c => ∃ f : Nat, f ≤ len ∧ c = .int .i64 f ∧ Hid (∀ f', f' < f → ∀ x : Nat, x < n → hasX xs x f' win) ∧ f + win ≤ len + 1) (fun c => len - (intOf c).toNat)
  case atStart => exact ⟨0, by omega, rfl, fun f' h => by omega, by omega⟩
  case round =>
    obtain ⟨f, hf, rfl, hall, hfw⟩ := hrel
    by_cases hlt : f + win ≤ len
    · go_wp2
      go_loop [8] (fun c => ∃ x : Nat, x ≤ n ∧ c = .int .i64 x ∧ Hid (∀ y : Nat, y < x → hasX xs y f win)) (fun c => n - (intOf c).toNat)
      case atStart => exact ⟨0, by omega, rfl, fun y h => by omega⟩
      case round =>
        obtain ⟨x, hk, rfl, hy⟩ := hrel
        by_cases hxn : x < n
        · obtain ⟨b, off, rfl, hc⟩ := hl.get (i := f) (by omega)
          go_wp2
          go_loop [9, 45] (fun sm c => ∃ (j : Nat) (bb : Bool), j ≤ win ∧ sm = .bool bb ∧ c = .int .i64 j ∧ Hid (bb = true ↔ hasX xs x f j)) (fun _ c => win - (intOf c).toNat)
          case atStart => exact ⟨0, false, by omega, rfl, rfl, ⟨fun h => (by cases h), fun h => absurd h (hasX_zero _ _ _)⟩⟩
          case round =>
            obtain ⟨j, bb, hj, rfl, rfl, hbb⟩ := hrel
            by_cases hjw : j < win
            · have hc2 : w.cell? ⟨b, off + f + j, none⟩ = some (.int .i64 (xs.getD (f + j) 0)) := by
                obtain ⟨b', off', he, hc'⟩ := hl.get (i := f + j) (by omega)
                injection he with he
                injection he with h1 h2
                subst h1 h2
                rw [Nat.add_assoc]; exact hc'
              have hs := hasX_succ xs x f j
              cases bb
              · by_cases hxe : xs.getD (f + j) 0 = x
                · have hr : (true = true ↔ hasX xs x f (j + 1)) := ⟨fun _ => hs.2 (.inr hxe), fun _ => rfl⟩
                  have HR := Lib.hid hr
                  have hxb : ((x : Int) == xs.getD (f + j) 0) = true := by rw [hxe]; simp
                  clear hr hs hbb hxe
                  generalize xs.getD (f + j) 0 = y at hc2 hxb
                  go_wp2
                  go_round
                  case rel => exact ⟨j + 1, true, by omega, rfl, by go_num, HR⟩
                  case measure => simp [intOf]; omega
                · have hr : (false = true ↔ hasX xs x f (j + 1)) := ⟨fun h => (by cases h), fun h => (hs.1 h).elim (fun h => hbb.out.2 h) (fun h => absurd h hxe)⟩
                  have HR := Lib.hid hr
                  have hxb : ((x : Int) == xs.getD (f + j) 0) = false := beq_eq_false_iff_ne.2 (fun e => hxe e.symm)
                  clear hr hs hbb hxe
                  generalize xs.getD (f + j) 0 = y at hc2 hxb
                  go_wp2
                  go_round
                  case rel => exact ⟨j + 1, false, by omega, rfl, by go_num, HR⟩
                  case measure => simp [intOf]; omega
              · have hr : (true = true ↔ hasX xs x f (j + 1)) := ⟨fun _ => hs.2 (.inl (hbb.out.1 rfl)), fun _ => rfl⟩
                have HR := Lib.hid hr
                clear hr hs hbb
                go_wp2
                go_round
                case rel => exact ⟨j + 1, true, by omega, rfl, by go_num, HR⟩
                case measure => simp [intOf]; omega
            · obtain rfl : j = win := by omega
              cases bb
              · have hs : (false = true ↔ 1 ≤ (n : Int) ∧ (n : Int) ≤ (j : Int) ∧ fairW xs (n : Int).toNat (j : Int).toNat) := by
                  refine ⟨fun h => (by cases h), fun h => ?_⟩
                  have h2 := h.2.2 x (by omega) f (by omega)
                  rw [Int.toNat_natCast] at h2
                  exact hbb.out.2 h2
                have HS := Lib.hid hs
                clear hs hbb
                go_wp2
                go_ret
                exact ⟨false, rfl, HS.out, rfl⟩
              · have h1 := hbb.out.1 rfl
                have hn2 : ∀ y : Nat, y < x + 1 → hasX xs y f j := fun y hy2 => by
                  by_cases e : y = x
                  · rw [e]; exact h1
                  · exact hy.out y (by omega)
                have HN := Lib.hid hn2
                clear h1 hn2 hbb hy
                go_wp2
                exact ⟨⟨x + 1, by omega, by go_num, HN⟩, by simp [intOf]; omega⟩
        · obtain rfl : x = n := by omega
          have hn2 : ∀ f', f' < f + 1 → ∀ y : Nat, y < x → hasX xs y f' win := fun f' hf' => by
            by_cases e : f' = f
            · rw [e]; exact hy.out
            · exact hall.out f' (by omega)
          have HN := Lib.hid hn2
          clear hn2 hall hy
          go_wp2
          exact ⟨⟨f + 1, by omega, by go_num, HN, by omega⟩, by simp [intOf]; omega⟩
    · have hs : (True ↔ 1 ≤ (n : Int) ∧ (n : Int) ≤ (win : Int) ∧ fairW xs (n : Int).toNat (win : Int).toNat) := by
        refine ⟨fun _ => ⟨by omega, by omega, fun x hx2 f' hf' => ?_⟩, fun _ => trivial⟩
        rw [Int.toNat_natCast] at hf' hx2
        rw [Int.toNat_natCast]
        exact hall.out f' (by omega) x hx2
      have HS := Lib.hid hs
      clear hs hall
      go_wp2
      all_goals go_ret
      all_goals exact ⟨true, rfl, by simpa using HS.out, rfl⟩
theorem winX_mono (l : List Int) (x : Int) (v u : Nat) (h : v ≤ u) (hv : winX l x v) : winX l x u := fun f hf => by
  obtain ⟨i, h1, h2, h3⟩ := hv f (by omega)
  exact ⟨i, h1, by omega, h3⟩
theorem IsGap.first {l : List Int} {n v : Nat} (hn : n ≤ v) (h : ∀ u, n ≤ u → u < v → ¬ fairW l n u) (hv : fairW l n v) : IsGap l n v :=
  ⟨hn, fun u hu => ⟨fun hvu x hx => winX_mono l x v u hvu (hv x hx), fun hf => by
    rcases Nat.lt_or_ge u v with hlt | hge
    · exact absurd hf (h u hu hlt)
    · exact hge⟩⟩
theorem rgap_zero (a : Option Addr) (len cap : Nat) (n : Int) (hn : n < 1) (w : World) : Calls Try.prog 49 #[.slice a len cap, .int .i64 n] w fun e w' => e = .returned (.int .i64 0) ∧ w = w' := by
  go_enter Try.func49, Try.ntmps49
  go_wp2
  go_ret
  exact ⟨rfl, rfl⟩
set_option maxHeartbeats 1000000 in
theorem rgap_any (a : Option Addr) (len cap : Nat) (xs : List Int) (n : Nat) (hn : 1 ≤ n) (w : World) (hl : Ints w a len xs) (hlen : len ≤ 900) (hcap : len ≤ cap) (hcm : cap ≤ maxLen) (hn2 : (n : Int) ≤ 9223372036854775807) : Calls Try.prog 49 #[.slice a len cap, .int .i64 n] w (GapRet xs n w) := by
  have hx := hl.len
  have hh := Lib.hid hl
  have hhc := Lib.hid hcm
  clear hcm
  by_cases hnl : len < n
  · have hg := Lib.hid (IsGap.short (l := xs) (n := n) (by omega))
    go_enter Try.func49, Try.ntmps49
    go_wp2
    go_ret
    exact ⟨n, rfl, hg.out, by omega, rfl⟩
  · go_enter Try.func49, Try.ntmps49
    go_wp2_with fail
    go_loop [5] (fun c => ∃ v : Nat, n ≤ v ∧ v ≤ len + 1 ∧ c = .int .i64 v ∧ Hid (∀ u, n ≤ u → u < v → ¬ fairW xs n u)) (fun c => len + 1 - (intOf c).toNat)
    case atStart => exact ⟨n, by omega, by omega, rfl, fun u h1 h2 => by omega⟩
    case round =>
      obtain ⟨v, hv1, hv2, rfl, hno⟩ := hrel
      by_cases hlt : v ≤ len
      · go_wp2_with fail
        refine (rfair_any _ _ _ xs n v _ hh.out hlen hcap hhc.out).mono ?_
        rintro e w1 ⟨bb, rfl, hb, rfl⟩
        rw [Int.toNat_natCast, Int.toNat_natCast] at hb
        cases bb
        · have hN : ∀ u, n ≤ u → u < v + 1 → ¬ fairW xs n u := fun u h1 h2 => by
            by_cases e : u = v
            · rw [e]; exact fun hf => absurd (hb.2 ⟨by omega, by omega, hf⟩) (by decide)
            · exact hno.out u h1 (by omega)
          have HN := Lib.hid hN
          clear hb hN hno
          go_wp2
          go_round
          case rel => exact ⟨v + 1, by omega, by omega, by go_num, HN⟩
          case measure => simp [intOf]; omega
        · have hg := Lib.hid (IsGap.first hv1 hno.out (hb.1 rfl).2.2)
          clear hb hno
          go_wp2
          go_ret
          exact ⟨v, rfl, hg.out, by omega, rfl⟩
      · obtain rfl : v = len + 1 := by omega
        have hg := Lib.hid (IsGap.first hv1 hno.out (fair_long _ _ _ (by omega)))
        clear hno
        go_wp2
        go_ret
        exact ⟨len + 1, rfl, hg.out, by omega, rfl⟩
end Go.Proofs.Ytgpkidffhglngaa
