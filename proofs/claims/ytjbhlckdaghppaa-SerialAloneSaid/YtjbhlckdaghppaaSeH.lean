/- The statement SerialAlone: its walk. No condition. -/
import Derived.Test.YtjbhlckdaghppaaSeF
set_option linter.unusedVariables false
set_option linter.unusedSimpArgs false
namespace Go.Proofs.Ytjbhlckdaghppaa
open Go.RowKit (wrap32 wrap64)
open Go.RowKit Go.Shelf Go.Sort Go.Lib
def wrEv (tx : Int) (y : Rw) : Ev := ⟨7, tx, y.n0, y.n1, y.n2, y.n3, y.dep, 0, y.val, (none, 0, 0), 0⟩
def cmEv (tx : Int) : Ev := ⟨9, tx, 0, 0, 0, 0, 0, 0, 0, (none, 0, 0), 0⟩
abbrev R0 : Ev → List Rw := fun _ => []
theorem fin_writes (tx : Int) (M : List Rw) (s : Sx) : (M.map (wrEv tx)).foldl finT s.E = ((M.map (wrEv tx)).foldl (oneT R0) s).E := by
  induction M generalizing s with
  | nil => rfl
  | cons y M ih =>
    rw [List.map_cons, List.foldl_cons, List.foldl_cons]
    have e1 : finT s.E (wrEv tx y) = (oneT R0 s (wrEv tx y)).E := by unfold finT oneT; rfl
    rw [e1]
    exact ih _
theorem ends_none (tx : Int) (M : List Rw) (x : Int) : ∀ y ∈ M.map (wrEv tx), stopE x y = false := by
  intro y hy
  obtain ⟨z, _, rfl⟩ := List.mem_map.1 hy
  unfold stopE cmE edE wrEv
  simp
theorem comm_none (L : List Ev) (n : Nat) (h : ∀ k x, k < n → L[k]? = some x → cmE x = false) : commTo Ev.tx cmE edE L n = [] := by
  induction n with
  | zero => rfl
  | succ n ih =>
    unfold commTo
    have ih := ih (fun k x hk => h k x (by omega))
    cases hx : L[n]? with
    | none => exact ih
    | some x =>
      dsimp only
      rw [if_neg (fun e => by rw [h n x (by omega) hx] at e; cases e.2)]
      exact ih
theorem comm_writes (tx : Int) (M : List Rw) : commTo Ev.tx cmE edE (M.map (wrEv tx)) (M.map (wrEv tx)).length = [] :=
  comm_none _ _ (fun k x _ hx => by
    obtain ⟨y, _, rfl⟩ := List.mem_map.1 (List.mem_of_getElem? hx)
    rfl)
theorem comm_alone (tx : Int) (M : List Rw) : commTo Ev.tx cmE edE (M.map (wrEv tx) ++ [cmEv tx]) (M.map (wrEv tx) ++ [cmEv tx]).length = [tx] := by
  have hlen : (M.map (wrEv tx) ++ [cmEv tx]).length = (M.map (wrEv tx)).length + 1 := by simp
  rw [hlen]
  have hx : (M.map (wrEv tx) ++ [cmEv tx])[(M.map (wrEv tx)).length]? = some (cmEv tx) := by simp
  have hend : endI Ev.tx cmE edE (M.map (wrEv tx) ++ [cmEv tx]) tx = (M.map (wrEv tx)).length := (endI_hit hx (by unfold stopE cmE cmEv; simp) (by rw [List.take_left' rfl]; exact ends_none tx M tx)).1
  unfold commTo
  rw [hx]
  dsimp only
  rw [if_pos ⟨hend, rfl⟩, comm_none _ _ (fun k x hk h => by
    rw [List.getElem?_append_left hk] at h
    obtain ⟨y, _, rfl⟩ := List.mem_map.1 (List.mem_of_getElem? h)
    rfl)]
  rfl
theorem of_alone (tx : Int) (M : List Rw) : ofL (M.map (wrEv tx) ++ [cmEv tx]) tx = M.map (wrEv tx) ++ [cmEv tx] := by
  unfold ofL
  rw [List.filter_eq_self]
  intro y hy
  rcases List.mem_append.1 hy with hy | hy
  · obtain ⟨z, _, rfl⟩ := List.mem_map.1 hy
    simp [isOf, wrEv]
  · rw [List.mem_singleton.1 hy]
    simp [isOf, cmEv]
theorem one_commit (tx : Int) (s : Sx) : oneT R0 s (cmEv tx) = s := by unfold oneT cmEv; rfl
theorem run_writes (tx : Int) (M : List Rw) : runL R0 (M.map (wrEv tx)) = ⟨[], true⟩ := by unfold runL; rw [comm_writes]; rfl
theorem run_alone (tx : Int) (M : List Rw) : runL R0 (M.map (wrEv tx) ++ [cmEv tx]) = oneL R0 [] (M.map (wrEv tx)) := by
  unfold runL
  rw [comm_alone, List.foldl_cons, List.foldl_nil]
  unfold runT
  rw [of_alone]
  have : oneL R0 [] (M.map (wrEv tx) ++ [cmEv tx]) = oneL R0 [] (M.map (wrEv tx)) := by
    unfold oneL
    rw [List.foldl_append, List.foldl_cons, List.foldl_nil, one_commit]
  dsimp only
  rw [this]
  rfl
theorem fin_alone (tx : Int) (M : List Rw) : finL (M.map (wrEv tx) ++ [cmEv tx]) = (oneL R0 [] (M.map (wrEv tx))).E := by
  unfold finL
  rw [List.foldl_append, List.foldl_cons, List.foldl_nil]
  have h1 := fin_writes tx M ⟨[], true⟩
  dsimp only at h1
  rw [h1]
  rfl
theorem okEv_wr {tx : Int} (ht : (Lit.int .i64 tx).wf = true) {y : Rw} (h : okRw y) : okEv (wrEv tx y) := ⟨rfl, ht, h.1, h.2.1, h.2.2.1, h.2.2.2.1, h.2.2.2.2.1, rfl, h.2.2.2.2.2, Nat.zero_le _, rfl⟩
theorem okEv_cm {tx : Int} (ht : (Lit.int .i64 tx).wf = true) : okEv (cmEv tx) := ⟨rfl, ht, rfl, rfl, rfl, rfl, rfl, rfl, rfl, Nat.zero_le _, rfl⟩
/-- Evs of a row of one's own. -/
theorem evs_ownS {w : World} {base n : Nat} {v : Value} {M : List Ev} (h : w.ownsRow base 56 11 v n (flatV enEv M)) (hx : ∀ x ∈ M, okEv x) : ∃ A c, v = .slice A n c ∧ Evs w A n M ∧ (A = none → n = 0 ∧ c = 0) := by
  obtain ⟨A', c', he, hs, hn, _⟩ := SR.own (ok := okEv) enEv_len (by omega) h hx
  exact ⟨A', c', he, hs, hn⟩
set_option maxRecDepth 100000 in
set_option maxHeartbeats 8000000 in
theorem serialAlone_walk (a : Option Addr) (len cap : Nat) (zss : List (List Value)) (tx : Int) (w : World) (hz : FlatRow w ksRw a len cap zss) (ht : (Lit.int .i64 tx).wf = true) :
    Calls Try.prog 8 #[.slice a len cap, .int .i64 tx] w fun e w' => e = .returned (.bool true) ∧ Below w.heap.size w w' := by
  obtain ⟨F, hl, hcap, hcm, hnil⟩ := SR.flat (ks := ksRw) (enc := enRw) (ok := okRw) (s := 6) rfl (by omega) enRw_len decRw hz
  clear hz hnil
  have hcm' : cap ≤ 9223372036854775807 := by unfold maxLen at hcm; exact hcm
  have HL := Lib.hid hl
  by_cases hmany : (25 : Int) < len
  · clear hl hcm
    go_enter Try.func8, Try.ntmps8
    go_wp2_with (go_at_call 25; refine (awake24 _).mono ?_; rintro e w1 ⟨rfl, hb1⟩)
    go_ret
    exact ⟨rfl, hb1⟩
  have hfew : ¬ ((len : Int) > 25) := hmany
  have hle : len ≤ 25 := by omega
  obtain ⟨i0, hi, hz0, hz1, hz2⟩ := info_parts Try.infoEv
  have HT := Lib.hid ht
  have HLN := Lib.hid hl.len
  clear hmany hcm hl
  go_enter Try.func8, Try.ntmps8
  go_wp2_with (first
    | (go_at_call 25; refine (awake24 _).mono ?_; rintro e w1 ⟨rfl, hb1⟩)
    | (go_at_call 10; refine (stnew_any _).mono ?_; rintro e w2 ⟨s, b, rfl, hO, hs, hb, hsb, hb2⟩))
  have hB2 := bl_then hb1 (Nat.le_refl _) hb2
  have hbb : w.heap.size ≤ b := Nat.le_trans hb1.size hb
  have hsl := hO.bk.lt
  have hbl := hO.mp.lt
  have hw2 := hB2.size
  clear hb1 hb2 hs hb
  go_loopw [5, 23] (fun v5 c wr => ∃ (k : Nat) (E : List Cl), k ≤ len ∧ c = .int .i64 k ∧ Hid (oneL R0 [] ((F.take k).map (wrEv tx)) = ⟨E, true⟩) ∧ StO wr s b E ∧ OkE E k ∧ wr.ownsRow w2.heap.size 56 11 v5 k (flatV enEv ((F.take k).map (wrEv tx))) ∧ Hid (∀ x ∈ (F.take k).map (wrEv tx), okEv x) ∧ Below w.heap.size w wr ∧ w2.heap.size ≤ wr.heap.size) (fun _ c _ => len - (intOf c).toNat)
  case atStart => exact ⟨0, [], by omega, rfl, Lib.hid rfl, hO, ok0, World.ownsRow_nil _ _ _ _, Lib.hid (by simp), hB2, Nat.le_refl _⟩
  case round =>
    clear hO hB2
    obtain ⟨k, E, hk, rfl, HO1, hO, hE, hown, HOKE, HB, hsz⟩ := hrel
    by_cases hlt : k < len
    · obtain ⟨b0, off, y, rfl, _, hy, hoky, d0, d1, d2, d3, d4, d5⟩ := Rw_at (HL.out.below HB) hlt
      have al := (Below.refl wr.heap.size wr).alloc (Nat.le_refl _) (.cells #[.int .i64 y.n0, .int .i64 y.n1, .int .i64 y.n2, .int .i64 y.n3, .int .i64 y.dep, .int .i64 y.val] 30)
      have hby := Bk.new wr 30 #[.int .i64 y.n0, .int .i64 y.n1, .int .i64 y.n2, .int .i64 y.n3, .int .i64 y.dep, .int .i64 y.val]
      have hokp : okPt (rwP y) := ⟨hoky.1, hoky.2.1, hoky.2.2.1, hoky.2.2.2.1, hoky.2.2.2.2.1⟩
      have HW := Lib.hid (stset_any s b E k (rwP y) y.val hokp _ (hO.below al) hE (by omega) hsb)
      have hpk := putT_ok hE hokp y.val
      have hst : (F.take (k + 1)).map (wrEv tx) = (F.take k).map (wrEv tx) ++ [wrEv tx y] := by rw [take_snocG F k y hy, List.map_append]; rfl
      have hone : oneL R0 [] ((F.take (k + 1)).map (wrEv tx)) = ⟨(putT E (rwP y) y.val).E, (putT E (rwP y) y.val).e == 0⟩ := by
        have h1 : oneL R0 [] ((F.take (k + 1)).map (wrEv tx)) = oneT R0 (oneL R0 [] ((F.take k).map (wrEv tx))) (wrEv tx y) := by unfold oneL; rw [hst, List.foldl_append]; rfl
        rw [h1, HO1.out]
        unfold oneT wrEv evP rwP
        rfl
      have hpe : (putT E (rwP y) y.val).e = 0 ∨ (putT E (rwP y) y.val).e = 1 := by unfold putT; split <;> simp
      have HOK2 : Hid (∀ x ∈ (F.take (k + 1)).map (wrEv tx), okEv x) := Lib.hid (fun x hx => by
        rw [hst] at hx
        rcases List.mem_append.1 hx with hx | hx
        · exact HOKE.out x hx
        · rw [List.mem_singleton.1 hx]; exact okEv_wr HT.out hoky)
      have HOWN := Lib.hid (hown.alloc (.cells #[.int .i64 y.n0, .int .i64 y.n1, .int .i64 y.n2, .int .i64 y.n3, .int .i64 y.dep, .int .i64 y.val] 30))
      have HBY := Lib.hid hby
      have HB1 := Lib.hid (bl_then HB (Nat.le_refl _) al)
      have HST := Lib.hid hst
      have hbr : b < wr.heap.size := hO.mp.lt
      have q0 := hby.cell 0
      have q1 := hby.cell 1
      have q2 := hby.cell 2
      have q3 := hby.cell 3
      have q4 := hby.cell 4
      have q5 := hby.cell 5
      generalize putT E (rwP y) y.val = RR at HW hpk hone hpe
      obtain ⟨ra, re, rE⟩ := RR
      dsimp only at HW hpk hone hpe
      have HPK := Lib.hid hpk
      have HONE := Lib.hid hone
      clear al hby hy hoky hO hE HB hpk hokp hst hown hone
      go_wp2_with fail
      refine HW.out.mono ?_
      rintro e w4 ⟨rfl, hO4, k4⟩
      have hy4 := k4.bk HBY.out (show ¬ wr.heap.size = b by omega)
      have z0 := hy4.cell 0
      have z1 := hy4.cell 1
      have z2 := hy4.cell 2
      have z3 := hy4.cell 3
      have z4 := hy4.cell 4
      have z5 := hy4.cell 5
      have HB4 := Lib.hid (bl_keep HB1.out k4 (fun i hi => by rw [hi]; exact hbb))
      have HO4 := Lib.hid hO4
      have HOW4 := Lib.hid (own_keepS HOWN.out k4 (fun i hi => by rw [hi]; exact hbl))
      have HSZ : Hid (w2.heap.size ≤ w4.heap.size) := Lib.hid (by have := k4.size; rw [World.size_alloc] at this; omega)
      clear hO4 k4 hy4 q0 q1 q2 q3 q4 q5 d0 d1 d2 d3 d4 d5 HW
      rcases hpe with rfl | rfl
      · go_wp2_with (at_builtin; go_loud (refine wpList_append_one enEv_len (by omega) enEv_one rfl _ _ 47 rfl w2.heap.size 56 i0 _ 104 Try.underlying47 hi hz0 hz1 hz2 rfl _ k _ rfl HOW4.out (wrEv tx y) #[.int .i64 7, .int .i64 tx, .int .i64 y.n0, .int .i64 y.n1, .int .i64 y.n2, .int .i64 y.n3, .int .i64 y.dep, .int .i64 0, .int .i64 y.val, .slice none 0 0, .int .i64 0] rfl 56 _ rfl (by simp) (by unfold maxLen; omega) (by omega) (Below.refl _ w4) HSZ.out ?_; intro v' w9 hown9 HB9 hk9; rw [← HST.out] at hown9))
        go_roundw
        case rel => exact ⟨k + 1, rE, by omega, by go_num, by rw [HONE.out]; exact Lib.hid rfl, HO4.out.keep hk9 (fun e => by have := (HOW4.out.lt _ e).1; omega) (fun e => by have := (HOW4.out.lt _ e).1; omega), HPK.out, hown9, HOK2, bl_keep HB4.out hk9 (fun i e => by have := (HOW4.out.lt i e).1; omega), Nat.le_trans HSZ.out hk9.size⟩
        case measure => simp [intOf]; omega
      · go_wp2
        go_ret
        exact ⟨rfl, HB4.out⟩
    · obtain rfl : k = len := by omega
      have hF : F.take k = F := List.take_of_length_le (by rw [HLN.out]; exact Nat.le_refl _)
      rw [hF] at HO1 hown HOKE
      have hok2 : ∀ x ∈ F.map (wrEv tx) ++ [cmEv tx], okEv x := fun x hx => by
        rcases List.mem_append.1 hx with hx | hx
        · exact HOKE.out x hx
        · rw [List.mem_singleton.1 hx]; exact okEv_cm HT.out
      have HOK2 := Lib.hid hok2
      obtain ⟨A5, c5, rfl, hs5, hn5⟩ := evs_ownS hown HOKE.out
      have hr1 := run_writes tx F
      have hr2 := run_alone tx F
      have hf2 := fin_alone tx F
      rw [HO1.out] at hr2 hf2
      have he2 : eqlL R0 (F.map (wrEv tx) ++ [cmEv tx]) = true := by unfold eqlL; rw [hr2, hf2]; simp
      have hrw : ∀ x ∈ F.map (wrEv tx), x.rows = (none, 0, 0) := fun x hx => by obtain ⟨z, _, rfl⟩ := List.mem_map.1 hx; rfl
      have hrw2 : ∀ x ∈ F.map (wrEv tx) ++ [cmEv tx], x.rows = (none, 0, 0) := fun x hx => by
        rcases List.mem_append.1 hx with hx | hx
        · exact hrw x hx
        · rw [List.mem_singleton.1 hx]; rfl
      have hS1 := srun_any A5 k c5 (F.map (wrEv tx)) R0 wr hs5 (evs_none hrw) hn5 (by omega)
      rw [hr1] at hS1
      have hS2 : ∀ A c W1, Evs W1 A (k + 1) (F.map (wrEv tx) ++ [cmEv tx]) → (A = none → k + 1 = 0 ∧ c = 0) → Calls Try.prog 27 #[.slice A (k + 1) c] W1 (RunRet W1 ⟨E, true⟩) := fun A c W1 h hn => by
        have := srun_any A (k + 1) c (F.map (wrEv tx) ++ [cmEv tx]) R0 W1 h (evs_none hrw2) hn (by omega)
        rw [hr2] at this; exact this
      have hQ2 : ∀ A c W1, Evs W1 A (k + 1) (F.map (wrEv tx) ++ [cmEv tx]) → (A = none → k + 1 = 0 ∧ c = 0) → Calls Try.prog 31 #[.slice A (k + 1) c] W1 fun e w' => e = .returned (.bool true) ∧ Below W1.heap.size W1 w' := fun A c W1 h hn => by
        have := equal_any A (k + 1) c (F.map (wrEv tx) ++ [cmEv tx]) R0 W1 h (evs_none hrw2) hn (by omega)
        rw [he2] at this; exact this
      have HS1 := Lib.hid hS1
      have HS2 := Lib.hid hS2
      have HQ2 := Lib.hid hQ2
      have HO := Lib.hid hO
      have HE := Lib.hid hE
      have HOWN := Lib.hid hown
      have HBB := Lib.hid HB
      have HOK := Lib.hid (goods_ok hE mayP)
      clear hS1 hS2 hQ2 hO hE hown HB hr1 hr2 hf2 he2 hrw hrw2 hok2 hs5 hn5 hF
      go_wp2_with fail
      refine HS1.out.mono ?_
      rintro e w6 ⟨v6, rfl, hown6, hb6⟩
      obtain ⟨A6, c6, rfl⟩ := own_slice hown6
      have hz6 : (goodsE [] mayP).length = 0 := rfl
      rw [hz6]
      have HOW6 := Lib.hid (own_below HOWN.out hb6)
      have HB6 := Lib.hid (bl_then HBB.out (Nat.le_refl _) hb6)
      have HO6 := Lib.hid (HO.out.below hb6)
      have HSZ6 : Hid (w2.heap.size ≤ w6.heap.size) := Lib.hid (Nat.le_trans hsz hb6.size)
      clear hown6
      go_wp2_with (at_builtin; go_loud (refine wpList_append_one enEv_len (by omega) enEv_one rfl _ _ 47 rfl w2.heap.size 56 i0 _ 104 Try.underlying47 hi hz0 hz1 hz2 rfl _ k _ rfl HOW6.out (cmEv tx) #[.int .i64 9, .int .i64 tx, .int .i64 0, .int .i64 0, .int .i64 0, .int .i64 0, .int .i64 0, .int .i64 0, .int .i64 0, .slice none 0 0, .int .i64 0] rfl 56 _ rfl (by simp) (by unfold maxLen; omega) (by omega) (Below.refl _ w6) HSZ6.out ?_; intro v' w9 hown9 HB9 hk9; obtain ⟨A9, c9, rfl, hs9, hn9⟩ := evs_ownS hown9 HOK2.out; have HO9 := Lib.hid (HO6.out.keep hk9 (fun e => by have := (HOW6.out.lt _ e).1; omega) (fun e => by have := (HOW6.out.lt _ e).1; omega)); have HB9 := Lib.hid (bl_keep HB6.out hk9 (fun i e => by have := (HOW6.out.lt i e).1; omega)); have HS9 := Lib.hid hs9; have HN9 := Lib.hid hn9; clear hs9 hn9 hown9 hk9))
      refine (HS2.out _ _ _ HS9.out HN9.out).mono ?_
      rintro e w10 ⟨v10, rfl, hown10, hb10⟩
      obtain ⟨A10, c10, rfl, hs10, _, _⟩ := SR.own (ok := okRw) enRw_len (by omega) hown10 HOK.out
      clear hown10
      have HO10 := Lib.hid (HO9.out.below hb10)
      have HE10 := Lib.hid (HS9.out.below hb10)
      go_wp2_with (first
        | (go_at_call 20; refine (strows_any s b E k _ HO10.out HE.out (by omega)).mono ?_; rintro e w11 ⟨v11, rfl, hown11, hb11⟩; obtain ⟨A11, c11, rfl, hs11, _, _⟩ := SR.own (ok := okRw) enRw_len (by omega) hown11 HOK.out; clear hown11; have hs10b := hs10.below hb11)
        | (go_at_call 17; refine (sameRw_yes _ _ _ _ _ _ _ _ hs10b hs11).mono ?_; rintro e w12 ⟨rfl, hb12⟩; have HE12 := Lib.hid ((HE10.out.below hb11).below hb12))
        | (go_at_call 31; refine (HQ2.out _ _ _ HE12.out HN9.out).mono ?_; rintro e w13 ⟨rfl, hb13⟩))
      go_ret
      exact ⟨rfl, bl_then HB9.out (Nat.le_refl _) (bl_then hb10 (Nat.le_refl _) (bl_then hb11 (Nat.le_refl _) (bl_then hb12 (Nat.le_refl _) hb13)))⟩
end Go.Proofs.Ytjbhlckdaghppaa
