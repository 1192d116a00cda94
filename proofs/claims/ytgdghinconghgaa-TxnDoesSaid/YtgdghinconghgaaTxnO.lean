/- The walk of TxnOnce. No condition. -/
import Derived.Test.YtgdghinconghgaaTxnL
set_option linter.unusedVariables false
set_option linter.unusedSimpArgs false
namespace Go.Proofs.Ytgdghinconghgaa
open Go.RowKit (wrap32 wrap64)
open Go.RowKit
/-! ### No book -/
set_option maxHeartbeats 400000 in
theorem tget_nil (id : Int) (w : World) : Calls Try.prog 38 #[.pointer none, .int .i64 id] w (GetRet txZero false w) := by
  by_cases hi : id < 1
  · go_enter Try.func38, Try.ntmps38
    go_wp2
    exact bodyPost_ret (v := .tuple #[.agg #[.int .i64 0, .int .i64 0, .int .i64 0, .int .i64 0], .bool false]) (by simp [results, Try.results38, go_sem]) rfl ⟨rfl, (Below.refl _ _).alloc (Nat.le_refl _) _⟩
  · have hp : 0 < id := by omega
    go_enter Try.func38, Try.ntmps38
    go_wp2_with (first | (go_at_call 34; refine (tlen_nil _).mono ?_; rintro e w' ⟨rfl, rfl⟩))
    exact bodyPost_ret (v := .tuple #[.agg #[.int .i64 0, .int .i64 0, .int .i64 0, .int .i64 0], .bool false]) (by simp [results, Try.results38, go_sem]) rfl ⟨rfl, (Below.refl _ _).alloc (Nat.le_refl _) _⟩
set_option maxHeartbeats 400000 in
set_option maxRecDepth 100000 in
theorem tbegin_nil (s : Int) (w : World) : Calls Try.prog 35 #[.pointer none, .int .i64 s] w fun e w' => e = .returned (.int .i64 0) ∧ w = w' := by
  go_enter Try.func35, Try.ntmps35
  go_wp2_with (first | (go_at_call 70; refine (tok_nil _).mono ?_; rintro e w' ⟨rfl, rfl⟩))
  go_ret
  exact ⟨rfl, rfl⟩
set_option maxHeartbeats 400000 in
theorem tturn_nil (id st why : Int) (w : World) : Calls Try.prog 36 #[.pointer none, .int .i64 id, .int .i64 st, .int .i64 why] w fun e w' => e = .returned (.int .i64 70) ∧ w = w' := by
  go_enter Try.func36, Try.ntmps36
  go_wp2_with (first | (go_at_call 70; refine (tok_nil _).mono ?_; rintro e w' ⟨rfl, rfl⟩))
  go_ret
  exact ⟨rfl, rfl⟩
set_option maxHeartbeats 400000 in
theorem tlive_nil (w : World) : Calls Try.prog 37 #[.pointer none] w fun e w' => e = .returned (.slice none 0 0) ∧ w = w' := by
  go_enter Try.func37, Try.ntmps37
  go_wp2
  go_loop [3, 4] (fun o c => o = .slice none 0 0 ∧ c = .int .i64 1) (fun _ _ => 0)
  case atStart => exact ⟨rfl, rfl⟩
  case round =>
    obtain ⟨rfl, rfl⟩ := hrel
    go_wp2_with (first | (go_at_call 34; refine (tlen_nil _).mono ?_; rintro e w' ⟨rfl, rfl⟩))
    go_ret
    exact ⟨rfl, rfl⟩
set_option maxHeartbeats 400000 in
theorem tstamps_nil (w : World) : Calls Try.prog 61 #[.pointer none] w fun e w' => e = .returned (.slice none 0 0) ∧ w = w' := by
  go_enter Try.func61, Try.ntmps61
  go_wp2_with (first | (go_at_call 70; refine (tok_nil _).mono ?_; rintro e w' ⟨rfl, rfl⟩))
  go_ret
  exact ⟨rfl, rfl⟩
/-! ### How a state goes on -/
def stO (L : List Tx) (id : Int) : Int := ((txAt L id).getD txZero).state
def okL (L : List Tx) : Prop := ∀ k x, 1 ≤ k → L[k]? = some x → 1 ≤ x.state ∧ x.state ≤ 6
theorem stO_some (L : List Tx) (id : Int) (h : okL L) : ((txAt L id).isSome = true ∧ 1 ≤ stO L id ∧ stO L id ≤ 6) ∨ ((txAt L id).isSome = false ∧ stO L id = 0) := by
  unfold stO txAt
  by_cases hi : 1 ≤ id ∧ id < L.length
  · rw [if_pos hi]
    have hk : id.toNat < L.length := by omega
    rw [List.getElem?_eq_getElem hk]
    exact .inl ⟨rfl, h id.toNat _ (by omega) (List.getElem?_eq_getElem hk)⟩
  · rw [if_neg hi]
    exact .inr ⟨rfl, rfl⟩
theorem mayT_range (a b : Int) (h : mayT a b = true) : 1 ≤ a ∧ a ≤ 4 ∧ 2 ≤ b ∧ b ≤ 6 ∧ a ≠ b := by
  unfold mayT at h
  simp only [Bool.or_eq_true, Bool.and_eq_true, beq_iff_eq] at h
  omega
/-- Of one that stays, begins, or turns. -/
def stepT (s t : Int) : Prop := t = s ∨ (s = 0 ∧ t = 1) ∨ mayT s t = true
theorem okL_begin (L : List Tx) (s : Int) (h : okL L) : okL (L ++ [⟨L.length, s, 1, 0⟩]) := by
  intro k x hk hx
  by_cases hl : k < L.length
  · rw [List.getElem?_append_left hl] at hx; exact h k x hk hx
  · rw [List.getElem?_append_right (by omega)] at hx
    match hj : k - L.length with
    | 0 => rw [hj] at hx; simp at hx; subst hx; dsimp only; omega
    | j + 1 => rw [hj] at hx; simp at hx
theorem step_begin (L : List Tx) (s id : Int) : stepT (stO L id) (stO (L ++ [⟨L.length, s, 1, 0⟩]) id) := by
  unfold stO txAt
  by_cases hi : 1 ≤ id ∧ id < L.length
  · rw [if_pos hi, if_pos (by simp; omega), List.getElem?_append_left (by omega)]
    exact .inl rfl
  · rw [if_neg hi]
    by_cases he : 1 ≤ id ∧ id = L.length
    · rw [if_pos (by simp; omega)]
      have : id.toNat = L.length := by omega
      rw [this]
      right; left
      simp [txZero]
    · rw [if_neg (by simp; omega)]
      exact .inl rfl
theorem okL_turn (L : List Tx) (tid st why : Int) (h : okL L) : okL (trnL L tid st why) := by
  unfold trnL txAt
  by_cases hi : 1 ≤ tid ∧ tid < L.length
  · rw [if_pos hi]
    have hk : tid.toNat < L.length := by omega
    rw [List.getElem?_eq_getElem hk]
    dsimp only
    split
    · exact h
    · split
      · exact h
      · rename_i hm _
        have hm' : mayT L[tid.toNat].state st = true := by simpa using hm
        have := mayT_range _ _ hm'
        intro k x hk1 hx
        by_cases he : k = tid.toNat
        · subst he
          rw [List.getElem?_set_self hk] at hx
          simp at hx; subst hx
          unfold nextT
          dsimp only
          omega
        · rw [List.getElem?_set_ne (fun e => he e.symm)] at hx
          exact h k x hk1 hx
  · rw [if_neg hi]; exact h
theorem step_turn (L : List Tx) (tid st why id : Int) : stepT (stO L id) (stO (trnL L tid st why) id) := by
  have hlen := trnL_len L tid st why
  by_cases hid : 1 ≤ id ∧ id < L.length
  · have e : ∀ M : List Tx, M.length = L.length → stO M id = ((M[id.toNat]?).getD txZero).state := by
      intro M hM
      unfold stO txAt
      rw [if_pos (by omega)]
    rw [e _ rfl, e _ hlen]
    unfold trnL txAt
    by_cases hi : 1 ≤ tid ∧ tid < L.length
    · rw [if_pos hi]
      have hk : tid.toNat < L.length := by omega
      rw [List.getElem?_eq_getElem hk]
      dsimp only
      split
      · exact .inl rfl
      · split
        · exact .inl rfl
        · rename_i hm _
          have hm' : mayT L[tid.toNat].state st = true := by simpa using hm
          by_cases he : id.toNat = tid.toNat
          · rw [he, List.getElem?_set_self hk, List.getElem?_eq_getElem hk]
            exact .inr (.inr hm')
          · rw [List.getElem?_set_ne (fun e => he e.symm)]
            exact .inl rfl
    · rw [if_neg hi]; exact .inl rfl
  · left
    unfold stO txAt
    rw [if_neg hid, if_neg (by omega)]
set_option maxRecDepth 100000 in
set_option maxHeartbeats 8000000 in
theorem once_any (a : Option Addr) (len cap : Nat) (css : List (List Value)) (id : Int) (w : World) (hl : FlatRow w ksD a len cap css) :
    Calls Try.prog 14 #[.slice a len cap, .int .i64 id] w fun e w' => e = .returned (.bool true) ∧ Below w.heap.size w w' := by
  have hlc := hl.2.1
  have hcm : cap ≤ 9223372036854775807 := hl.2.2.1
  by_cases h1 : 60 < len
  · go_enter Try.func14, Try.ntmps14
    go_wp2_with fail
    refine (awake22 _).mono ?_
    rintro e w1 ⟨rfl, hb1⟩
    go_wp2
    go_ret
    exact ⟨rfl, hb1⟩
  go_enter Try.func14, Try.ntmps14
  go_wp2_with fail
  refine (awake22 _).mono ?_
  rintro e w1 ⟨rfl, hb1⟩
  go_wp2_with fail
  refine (tnew_any _).mono ?_
  rintro e w2 ⟨g, h, rfl, hB, hg, hh, bel⟩
  have hb2 := bl_then hb1 (Nat.le_refl _) bel
  have hs1 := hb1.size
  have hg0 : w.heap.size ≤ g := by omega
  have hh0 : w.heap.size ≤ h := by omega
  clear bel hb1 hg hh hs1
  go_wp2_with fail
  go_loopw [6, 22] (fun la c wr => ∃ (k h cap : Nat) (L : List Tx), k ≤ len ∧ c = .int .i64 k ∧ la = .int .i64 (stO L id) ∧ Book wr g h cap L ∧ Hid (okL L) ∧ 1 ≤ L.length ∧ L.length ≤ k + 1 ∧ w.heap.size ≤ h ∧ Below w.heap.size w wr) (fun _ c _ => len - (intOf c).toNat)
  case atStart =>
    refine ⟨0, h, 1, [⟨0, 0, 0, 0⟩], by omega, rfl, ?_, hB, Lib.hid ?_, Nat.le_refl _, Nat.le_refl _, hh0, hb2⟩
    · have : stO [⟨0, 0, 0, 0⟩] id = 0 := by
        unfold stO txAt
        rw [if_neg (by simp)]
        rfl
      rw [this]
    · intro k x hk hx
      match k, hk, hx with
      | k + 1, _, hx => simp at hx
  case round =>
    clear hB hb2 hh0
    obtain ⟨k, h, cp, L, hk, rfl, rfl, hB, hok, hL1, hL2, hh0, HB⟩ := hrel
    by_cases hlt : k < len
    · obtain ⟨b, off, d, rfl, _, d0, d1, d2, d3, d4⟩ := deed_at (hl.below HB) hlt
      clear hl
      have hBa : Book (wr.alloc (.cells #[.int .i64 d.kind, .int .i64 d.id, .int .i64 d.st, .int .i64 d.why, .int .i64 d.stamp] 52)) g h cp L := hB.below ((Below.refl _ _).alloc (Nat.le_refl _) _)
      have HBa : Below w.heap.size w (wr.alloc (.cells #[.int .i64 d.kind, .int .i64 d.id, .int .i64 d.st, .int .i64 d.why, .int .i64 d.stamp] 52)) := HB.alloc HB.size _
      have hgB := hB.lt
      clear hB HB
      have hok0 := hok
      by_cases hk0 : d.kind = 0
      · rw [hk0] at d0 hBa HBa
        clear hk0
        go_wp2_with fail
        refine (tbegin_any _ _ _ _ _ _ hBa hL1 (by omega)).mono ?_
        rintro e w3 ⟨h3, cap3, rfl, hB3, k3, hh3'⟩
        have hb3 := bl_keep HBa k3 (fun i hi => by rcases hi with rfl | rfl <;> omega)
        have hsz := HBa.size
        have hh3 : w.heap.size ≤ h3 := by omega
        have hok3 := Lib.hid (okL_begin L d.stamp hok.out)
        have hstep := Lib.hid (step_begin L d.stamp id)
        have hl3 : (L ++ [(⟨L.length, d.stamp, 1, 0⟩ : Tx)]).length = L.length + 1 := by simp
        generalize L ++ [(⟨L.length, d.stamp, 1, 0⟩ : Tx)] = L3 at hB3 hok3 hstep hl3
        clear k3 hBa HBa hh3'
        generalize hS : stO L id = sa at hstep ⊢
        have HS := Lib.hid hS
        clear hS hok
        have hso := stO_some L3 id hok3.out
        have hsv : ((txAt L3 id).getD txZero).state = stO L3 id := rfl
        go_wp2_with fail
        refine (tget_any _ _ _ _ _ _ hB3 (by omega) (by omega)).mono ?_
        rintro e w4 ⟨rfl, hb4⟩
        have hB4 := hB3.below hb4
        have hb5 := bl_then hb3 (Nat.le_refl _) hb4
        clear hB3 hb3 hb4
        generalize (txAt L3 id).getD txZero = x at hsv ⊢
        generalize (txAt L3 id).isSome = yes at hso ⊢
        obtain ⟨xi, xs, xt, xw⟩ := x
        dsimp only at hsv
        subst hsv
        unfold aggT
        dsimp only
        generalize hT : stO L3 id = ta at hstep hso ⊢
        have HT := Lib.hid hT
        clear hT
        have hB6 := hB4.below ((Below.refl _ _).alloc (Nat.le_refl _) (.cells #[.int .i64 xi, .int .i64 xs, .int .i64 ta, .int .i64 xw] 57))
        have hb6 := hb5.alloc hb5.size (.cells #[.int .i64 xi, .int .i64 xs, .int .i64 ta, .int .i64 xw] 57)
        clear hB4 hb5
        have hcs : (sa = 0 ∧ ta = 0 ∧ yes = false) ∨ (sa = 0 ∧ ta = 1 ∧ yes = true) ∨ (1 ≤ sa ∧ sa ≤ 4 ∧ ta = sa ∧ yes = true) ∨ (5 ≤ sa ∧ ta = sa ∧ yes = true) ∨ (1 ≤ sa ∧ sa ≤ 4 ∧ ta ≠ sa ∧ ta ≠ 0 ∧ mayT sa ta = true ∧ yes = true) := by
          have hso2 := stO_some L id hok0.out
          rw [HS.out] at hso2
          rcases hstep.out with e | ⟨e0, e1⟩ | hm
          · rcases hso with ⟨hy, h1, h2⟩ | ⟨hy, h1⟩
            · by_cases h5 : 5 ≤ sa
              · exact .inr (.inr (.inr (.inl ⟨h5, e, hy⟩)))
              · exact .inr (.inr (.inl ⟨by omega, by omega, e, hy⟩))
            · exact .inl ⟨by omega, h1, hy⟩
          · rcases hso with ⟨hy, h1, h2⟩ | ⟨hy, h1⟩
            · exact .inr (.inl ⟨e0, e1, hy⟩)
            · omega
          · have hr := mayT_range _ _ hm
            rcases hso with ⟨hy, h1, h2⟩ | ⟨hy, h1⟩
            · exact .inr (.inr (.inr (.inr ⟨by omega, by omega, by omega, by omega, hm, hy⟩)))
            · omega
        clear hstep hso hok0
        rcases hcs with ⟨rfl, rfl, rfl⟩ | ⟨rfl, rfl, rfl⟩ | ⟨q1, q2, rfl, rfl⟩ | ⟨q1, rfl, rfl⟩ | ⟨q1, q2, q3, q4, hm, rfl⟩
        · go_wp2
          go_roundw
          case rel => exact ⟨k + 1, h3, cap3, L3, by omega, by go_num, by rw [HT.out], hB6, hok3, by omega, by omega, hh3, hb6⟩
          case measure => simp [intOf]; omega
        · go_wp2
          go_roundw
          case rel => exact ⟨k + 1, h3, cap3, L3, by omega, by go_num, by rw [HT.out], hB6, hok3, by omega, by omega, hh3, hb6⟩
          case measure => simp [intOf]; omega
        · have q0 : (ta == 0) = false := beq_eq_false_iff_ne.2 (by omega)
          go_wp2
          go_roundw
          case rel => exact ⟨k + 1, h3, cap3, L3, by omega, by go_num, by rw [HT.out], hB6, hok3, by omega, by omega, hh3, hb6⟩
          case measure => simp [intOf]; omega
        · have q0 : (ta == 0) = false := beq_eq_false_iff_ne.2 (by omega)
          go_wp2
          go_roundw
          case rel => exact ⟨k + 1, h3, cap3, L3, by omega, by go_num, by rw [HT.out], hB6, hok3, by omega, by omega, hh3, hb6⟩
          case measure => simp [intOf]; omega
        · have q0 : (sa == 0) = false := beq_eq_false_iff_ne.2 (by omega)
          have q5 : (ta == sa) = false := beq_eq_false_iff_ne.2 q3
          have HQ := Lib.hid q3
          have HQ4 := Lib.hid q4
          clear q3 q4
          go_wp2_with fail
          refine (tmay_any _ _ _).mono ?_
          rintro e w7 ⟨rfl, hb7⟩
          have hB7 := hB6.below hb7
          have hb8 := bl_then hb6 (Nat.le_refl _) hb7
          have hX : Bk w7 w4.heap.size 57 #[.int .i64 xi, .int .i64 xs, .int .i64 ta, .int .i64 xw] := (Bk.new w4 57 _).below hb7
          have x2 := hX.cell 2
          rw [hm]
          go_wp2
          go_roundw
          case rel => exact ⟨k + 1, h3, cap3, L3, by omega, by go_num, by rw [HT.out], hB7, hok3, by omega, by omega, hh3, hb8⟩
          case measure => simp [intOf]; omega
      · have hk1 : (d.kind == 0) = false := beq_eq_false_iff_ne.2 hk0
        clear hk0
        go_wp2_with fail
        refine (tturn_any _ _ _ _ _ _ _ _ hBa hL1 (by omega)).mono ?_
        rintro e w3 ⟨rfl, hB3, k3⟩
        have hb3 := bl_keep HBa k3 (fun i hi => by subst hi; omega)
        have hh3 : w.heap.size ≤ h := hh0
        have hok3 := Lib.hid (okL_turn L d.id d.st d.why hok.out)
        have hstep := Lib.hid (step_turn L d.id d.st d.why id)
        have hl3 := trnL_len L d.id d.st d.why
        generalize trnL L d.id d.st d.why = L3 at hB3 hok3 hstep hl3
        obtain ⟨h3, rfl⟩ : ∃ x, x = h := ⟨_, rfl⟩
        obtain ⟨cap3, rfl⟩ : ∃ x, x = cp := ⟨_, rfl⟩
        clear k3 hBa HBa
        generalize hS : stO L id = sa at hstep ⊢
        have HS := Lib.hid hS
        clear hS hok
        have hso := stO_some L3 id hok3.out
        have hsv : ((txAt L3 id).getD txZero).state = stO L3 id := rfl
        go_wp2_with fail
        refine (tget_any _ _ _ _ _ _ hB3 (by omega) (by omega)).mono ?_
        rintro e w4 ⟨rfl, hb4⟩
        have hB4 := hB3.below hb4
        have hb5 := bl_then hb3 (Nat.le_refl _) hb4
        clear hB3 hb3 hb4
        generalize (txAt L3 id).getD txZero = x at hsv ⊢
        generalize (txAt L3 id).isSome = yes at hso ⊢
        obtain ⟨xi, xs, xt, xw⟩ := x
        dsimp only at hsv
        subst hsv
        unfold aggT
        dsimp only
        generalize hT : stO L3 id = ta at hstep hso ⊢
        have HT := Lib.hid hT
        clear hT
        have hB6 := hB4.below ((Below.refl _ _).alloc (Nat.le_refl _) (.cells #[.int .i64 xi, .int .i64 xs, .int .i64 ta, .int .i64 xw] 57))
        have hb6 := hb5.alloc hb5.size (.cells #[.int .i64 xi, .int .i64 xs, .int .i64 ta, .int .i64 xw] 57)
        clear hB4 hb5
        have hcs : (sa = 0 ∧ ta = 0 ∧ yes = false) ∨ (sa = 0 ∧ ta = 1 ∧ yes = true) ∨ (1 ≤ sa ∧ sa ≤ 4 ∧ ta = sa ∧ yes = true) ∨ (5 ≤ sa ∧ ta = sa ∧ yes = true) ∨ (1 ≤ sa ∧ sa ≤ 4 ∧ ta ≠ sa ∧ ta ≠ 0 ∧ mayT sa ta = true ∧ yes = true) := by
          have hso2 := stO_some L id hok0.out
          rw [HS.out] at hso2
          rcases hstep.out with e | ⟨e0, e1⟩ | hm
          · rcases hso with ⟨hy, h1, h2⟩ | ⟨hy, h1⟩
            · by_cases h5 : 5 ≤ sa
              · exact .inr (.inr (.inr (.inl ⟨h5, e, hy⟩)))
              · exact .inr (.inr (.inl ⟨by omega, by omega, e, hy⟩))
            · exact .inl ⟨by omega, h1, hy⟩
          · rcases hso with ⟨hy, h1, h2⟩ | ⟨hy, h1⟩
            · exact .inr (.inl ⟨e0, e1, hy⟩)
            · omega
          · have hr := mayT_range _ _ hm
            rcases hso with ⟨hy, h1, h2⟩ | ⟨hy, h1⟩
            · exact .inr (.inr (.inr (.inr ⟨by omega, by omega, by omega, by omega, hm, hy⟩)))
            · omega
        clear hstep hso hok0
        rcases hcs with ⟨rfl, rfl, rfl⟩ | ⟨rfl, rfl, rfl⟩ | ⟨q1, q2, rfl, rfl⟩ | ⟨q1, rfl, rfl⟩ | ⟨q1, q2, q3, q4, hm, rfl⟩
        · go_wp2
          go_roundw
          case rel => exact ⟨k + 1, h3, cap3, L3, by omega, by go_num, by rw [HT.out], hB6, hok3, by omega, by omega, hh3, hb6⟩
          case measure => simp [intOf]; omega
        · go_wp2
          go_roundw
          case rel => exact ⟨k + 1, h3, cap3, L3, by omega, by go_num, by rw [HT.out], hB6, hok3, by omega, by omega, hh3, hb6⟩
          case measure => simp [intOf]; omega
        · have q0 : (ta == 0) = false := beq_eq_false_iff_ne.2 (by omega)
          go_wp2
          go_roundw
          case rel => exact ⟨k + 1, h3, cap3, L3, by omega, by go_num, by rw [HT.out], hB6, hok3, by omega, by omega, hh3, hb6⟩
          case measure => simp [intOf]; omega
        · have q0 : (ta == 0) = false := beq_eq_false_iff_ne.2 (by omega)
          go_wp2
          go_roundw
          case rel => exact ⟨k + 1, h3, cap3, L3, by omega, by go_num, by rw [HT.out], hB6, hok3, by omega, by omega, hh3, hb6⟩
          case measure => simp [intOf]; omega
        · have q0 : (sa == 0) = false := beq_eq_false_iff_ne.2 (by omega)
          have q5 : (ta == sa) = false := beq_eq_false_iff_ne.2 q3
          have HQ := Lib.hid q3
          have HQ4 := Lib.hid q4
          clear q3 q4
          go_wp2_with fail
          refine (tmay_any _ _ _).mono ?_
          rintro e w7 ⟨rfl, hb7⟩
          have hB7 := hB6.below hb7
          have hb8 := bl_then hb6 (Nat.le_refl _) hb7
          have hX : Bk w7 w4.heap.size 57 #[.int .i64 xi, .int .i64 xs, .int .i64 ta, .int .i64 xw] := (Bk.new w4 57 _).below hb7
          have x2 := hX.cell 2
          rw [hm]
          go_wp2
          go_roundw
          case rel => exact ⟨k + 1, h3, cap3, L3, by omega, by go_num, by rw [HT.out], hB7, hok3, by omega, by omega, hh3, hb8⟩
          case measure => simp [intOf]; omega
    · obtain rfl : k = len := by omega
      clear hl
      go_wp2_with fail
      refine (tget_nil _ _).mono ?_
      rintro e w3 ⟨rfl, hb3⟩
      have hb4 := bl_then HB (Nat.le_refl _) hb3
      unfold aggT txZero
      go_wp2_with (first
        | (go_at_call 35; refine (tbegin_nil _ _).mono ?_; rintro e w' ⟨rfl, rfl⟩)
        | (go_at_call 36; refine (tturn_nil _ _ _ _).mono ?_; rintro e w' ⟨rfl, rfl⟩)
        | (go_at_call 34; refine (tlen_nil _).mono ?_; rintro e w' ⟨rfl, rfl⟩)
        | (go_at_call 37; refine (tlive_nil _).mono ?_; rintro e w' ⟨rfl, rfl⟩)
        | (go_at_call 61; refine (tstamps_nil _).mono ?_; rintro e w' ⟨rfl, rfl⟩))
      go_ret
      exact ⟨rfl, hb4.alloc hb4.size _⟩
end Go.Proofs.Ytgdghinconghgaa
