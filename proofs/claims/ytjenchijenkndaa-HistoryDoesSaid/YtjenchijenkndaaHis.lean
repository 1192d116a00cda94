/- history: Few, Ends, Commits. No condition. -/
import Derived.Test.YtjenchijenkndaaRecEv
import Derived.Test.YtjenchijenkndaaHisL
set_option linter.unusedVariables false
set_option linter.unusedSimpArgs false
namespace Go.Proofs.Ytjenchijenkndaa
open Go.RowKit (wrap32 wrap64)
open Go.RowKit
def fewL (L : List Ev) : Bool := L.all (fun x => decide (x.rows.2.1 ≤ 20)) && decide (L.length ≤ 30)
set_option maxHeartbeats 1000000 in
theorem few_any (a : Option Addr) (len cap : Nat) (L : List Ev) (w : World) (hl : Evs w a len L) :
    Calls Try.prog 6 #[.slice a len cap] w fun e w' => e = .returned (.bool (fewL L)) ∧ Below w.heap.size w w' := by
  have hlm : len ≤ 9223372036854775807 := hl.max
  have hll := hl.len
  go_enter Try.func6, Try.ntmps6
  go_wp2_with fail
  go_loopw [7] (fun c wr => ∃ k : Nat, k ≤ len ∧ c = .int .i64 k ∧ (∀ i x, i < k → L[i]? = some x → x.rows.2.1 ≤ 20) ∧ Below w.heap.size w wr) (fun c _ => len - (intOf c).toNat)
  case atStart => exact ⟨0, by omega, rfl, fun i x h => by omega, Below.refl _ _⟩
  case round =>
    obtain ⟨k, hk, rfl, hall, HB⟩ := hrel
    by_cases hlt : k < len
    · obtain ⟨b, off, x, rfl, hb, hx, hok, d0, d1, d2, d3, d4, d5, d6, d7, d8, d9, d10⟩ := Ev_at (hl.below HB) hlt
      have HX := Lib.hid hx
      have HALL := Lib.hid hall
      have hrl' : x.rows.2.1 ≤ 9223372036854775807 := hok.2.2.2.2.2.2.2.2.2.1
      clear hl hx hall hok
      obtain ⟨kd, tx, n0, n1, n2, n3, dp, mo, va, ⟨ra, rl, rc⟩, er⟩ := x
      dsimp only at d0 d1 d2 d3 d4 d5 d6 d7 d8 d9 d10 hrl'
      by_cases h20 : rl ≤ 20
      · go_wp2
        go_roundw
        case rel =>
          refine ⟨k + 1, by omega, by go_num, ?_, HB.alloc HB.size _⟩
          intro i y hi hy
          by_cases e : i = k
          · subst e; rw [HX.out] at hy; injection hy with hy; subst hy; exact h20
          · exact HALL.out i y (by omega) hy
        case measure => simp [intOf]; omega
      · have hf : fewL L = false := by
          unfold fewL
          have : (L.all fun x => decide (x.rows.2.1 ≤ 20)) = false := by
            rw [List.all_eq_false]
            exact ⟨_, List.mem_of_getElem? HX.out, by simp; omega⟩
          rw [this]; rfl
        have HF := Lib.hid hf
        have h21 : (20 : Int) < rl := by omega
        clear hf
        go_wp2
        go_ret
        exact ⟨by rw [HF.out]; rfl, HB.alloc HB.size _⟩
    · obtain rfl : k = len := by omega
      have hf : fewL L = decide (L.length ≤ 30) := by
        unfold fewL
        have : (L.all fun x => decide (x.rows.2.1 ≤ 20)) = true := by
          rw [List.all_eq_true]
          intro x hx
          obtain ⟨i, hi, e⟩ := List.getElem_of_mem hx
          have := hall i x (by omega) (by rw [List.getElem?_eq_getElem hi, e])
          simp [this]
        rw [this, Bool.true_and]
      rw [hll] at hf
      have HF := Lib.hid hf
      clear hf hl hall hll
      by_cases h30 : k ≤ 30
      · have h31 : (k : Int) ≤ 30 := by omega
        go_wp2
        go_ret
        exact ⟨by rw [HF.out, decide_eq_true h30]; rfl, HB⟩
      · have h31 : ¬ ((k : Int) ≤ 30) := by omega
        go_wp2
        go_ret
        exact ⟨by rw [HF.out, decide_eq_false h30]; rfl, HB⟩
def cmE (x : Ev) : Bool := x.kind == 9
def edE (x : Ev) : Bool := x.kind == 12
/-- How one ends: 1 commit, 2 end, 0 not. -/
def howE (L : List Ev) (tx : Int) : Int := if endI Ev.tx cmE edE L tx = -1 then 0 else match L[(endI Ev.tx cmE edE L tx).toNat]? with
  | some e => if e.kind = 9 then 1 else 2
  | none => 0
def stopE (tx : Int) (e : Ev) : Bool := e.tx == tx && (cmE e || edE e)
theorem endI_hit {L : List Ev} {tx : Int} {k : Nat} {x : Ev} (hx : L[k]? = some x) (hs : stopE tx x = true) (h : ∀ y ∈ L.take k, stopE tx y = false) : endI Ev.tx cmE edE L tx = k ∧ howE L tx = if x.kind = 9 then 1 else 2 := by
  have e : endI Ev.tx cmE edE L tx = k := idxB_hit _ _ k x hx hs h
  refine ⟨e, ?_⟩
  unfold howE
  rw [e, if_neg (by omega), show (k : Int).toNat = k by omega, hx]
theorem endI_miss {L : List Ev} {tx : Int} (h : ∀ y ∈ L, stopE tx y = false) : endI Ev.tx cmE edE L tx = -1 ∧ howE L tx = 0 := by
  have e : endI Ev.tx cmE edE L tx = -1 := idxB_miss _ _ h
  exact ⟨e, by unfold howE; rw [if_pos e]⟩
set_option maxRecDepth 100000 in
set_option maxHeartbeats 2000000 in
theorem ends_any (a : Option Addr) (len cap : Nat) (L : List Ev) (tx : Int) (w : World) (hl : Evs w a len L) :
    Calls Try.prog 8 #[.slice a len cap, .int .i64 tx] w fun e w' => e = .returned (.tuple #[.int .i64 (endI Ev.tx cmE edE L tx), .int .i64 (howE L tx)]) ∧ Below w.heap.size w w' := by
  have hlm : len ≤ 9223372036854775807 := hl.max
  have HLL := Lib.hid hl.len
  go_enter Try.func8, Try.ntmps8
  go_wp2_with fail
  go_loopw [10] (fun c wr => ∃ k : Nat, k ≤ len ∧ c = .int .i64 k ∧ (∀ y ∈ L.take k, stopE tx y = false) ∧ Below w.heap.size w wr) (fun c _ => len - (intOf c).toNat)
  case atStart => exact ⟨0, by omega, rfl, by simp, Below.refl _ _⟩
  case round =>
    obtain ⟨k, hk, rfl, hno, HB⟩ := hrel
    have HNO := Lib.hid hno
    clear hno
    by_cases hlt : k < len
    · obtain ⟨b, off, x, rfl, hb, hx, hok, d0, d1, d2, d3, d4, d5, d6, d7, d8, d9, d10⟩ := Ev_at (hl.below HB) hlt
      have HX := Lib.hid hx
      have HTK := Lib.hid (take_snocG L k x hx)
      clear hl hx hok
      have HST : Hid (stopE tx x = (x.tx == tx && (x.kind == 9 || x.kind == 12))) := Lib.hid rfl
      have HREL : Hid (stopE tx x = false → ∀ y ∈ L.take (k + 1), stopE tx y = false) := Lib.hid (fun h y hy => by
        rw [HTK.out] at hy
        rcases List.mem_append.1 hy with h' | h'
        · exact HNO.out y h'
        · rw [List.mem_singleton.1 h']; exact h)
      have HHIT : Hid (stopE tx x = true → endI Ev.tx cmE edE L tx = k ∧ howE L tx = if x.kind = 9 then 1 else 2) := Lib.hid (fun h => endI_hit HX.out h HNO.out)
      obtain ⟨kd, tx', n0, n1, n2, n3, dp, mo, va, ⟨ra, rl, rc⟩, er⟩ := x
      dsimp only at d0 d1 d2 d3 d4 d5 d6 d7 d8 d9 d10 HST HHIT
      clear HX HTK
      by_cases h1 : tx' = tx
      · subst h1
        by_cases h2 : kd = 9
        · subst h2
          have HH := Lib.hid (HHIT.out (by rw [HST.out]; simp))
          clear HHIT HREL HST
          go_wp2
          go_ret2
          exact ⟨by rw [HH.out.1, HH.out.2]; rfl, HB.alloc HB.size _⟩
        · by_cases h3 : kd = 12
          · subst h3
            have HH := Lib.hid (HHIT.out (by rw [HST.out]; simp))
            clear HHIT HREL HST
            go_wp2
            go_ret2
            exact ⟨by rw [HH.out.1, HH.out.2]; rfl, HB.alloc HB.size _⟩
          · have h2' : (kd == 9) = false := beq_eq_false_iff_ne.2 h2
            have h3' : (kd == 12) = false := beq_eq_false_iff_ne.2 h3
            have HR := Lib.hid (HREL.out (by rw [HST.out, h2', h3']; simp))
            clear HHIT HREL HST
            go_wp2
            go_roundw
            case rel => exact ⟨k + 1, by omega, by go_num, HR.out, HB.alloc HB.size _⟩
            case measure => simp [intOf]; omega
      · have h1' : (tx' == tx) = false := beq_eq_false_iff_ne.2 h1
        have h1'' : (tx' != tx) = true := bne_iff_ne.2 h1
        have HR := Lib.hid (HREL.out (by rw [HST.out, h1']; rfl))
        clear HHIT HREL HST
        go_wp2
        go_roundw
        case rel => exact ⟨k + 1, by omega, by go_num, HR.out, HB.alloc HB.size _⟩
        case measure => simp [intOf]; omega
    · obtain rfl : k = len := by omega
      have HM := Lib.hid (endI_miss (L := L) (tx := tx) (by have := HNO.out; rw [List.take_of_length_le (by rw [HLL.out]; exact Nat.le_refl _)] at this; exact this))
      clear hl
      go_wp2
      go_ret2
      exact ⟨by rw [HM.out.1, HM.out.2]; rfl, HB⟩
def enI (n : Int) : List Value := [.int .i64 n]
theorem enI_len (n : Int) : (enI n).length = 1 := rfl
theorem enI_one : ∀ x, ∀ u ∈ enI x, u.oneCell' = true := by intro x u hu; unfold enI at hu; rw [List.mem_singleton.1 hu]; rfl
theorem flatI (L : List Int) : flatV enI L = L.map (Value.int .i64) := by induction L with | nil => rfl | cons x l ih => rw [flatV_cons, ih]; rfl
theorem ints_own {w : World} {base n : Nat} {e : TypeId} {v : Value} {L : List Int} (h : w.ownsRow base e 1 v n (flatV enI L)) : ∃ A c, v = .slice A n c ∧ Ints w A n L := by rw [flatI] at h; exact own_ints h
theorem Try.infoI : (Try.prog.info? 3).map (fun i => (i.zero, i.size, i.bytes)) = some (some (.int .i64 0), 1, 8) := by kernel_rfl
def isOf (tx : Int) (x : Ev) : Bool := x.tx != tx
theorem of1_pred (tx : Int) (B : Nat) (w : World) (S : Nat → Prop) (hB : ¬ S B) (hc : w.cell? ⟨B, 0, none⟩ = some (.int .i64 tx)) :
    PredS Try.prog 44 #[.pointer (some ⟨B, 0, none⟩)] enEv (isOf tx) S w := fun W x k => by
  have hW := Keep.cellS k hc hB
  have hlt := World.block_lt_of_cell? W ⟨B, 0, none⟩ hW
  have hne : B ≠ W.heap.size := Nat.ne_of_lt hlt
  obtain ⟨x0, x1, x2, x3, x4, x5, x6, x7, x8, ⟨ra, rl, rc⟩, x10⟩ := x
  show Calls Try.prog 44 #[.agg #[.int .i64 x0, .int .i64 x1, .int .i64 x2, .int .i64 x3, .int .i64 x4, .int .i64 x5, .int .i64 x6, .int .i64 x7, .int .i64 x8, .slice ra rl rc, .int .i64 x10], .pointer (some ⟨B, 0, none⟩)] W _
  have hW2 := cell_new_a (.cells #[.int .i64 x0, .int .i64 x1, .int .i64 x2, .int .i64 x3, .int .i64 x4, .int .i64 x5, .int .i64 x6, .int .i64 x7, .int .i64 x8, .slice ra rl rc, .int .i64 x10] 31) hW
  clear k hc hlt
  go_enter Try.func44, Try.ntmps44
  go_wp2
  go_ret
  exact ⟨rfl, (Below.refl _ _).alloc (Nat.le_refl _) _⟩
set_option maxHeartbeats 1000000 in
theorem of_any (a : Option Addr) (len cap : Nat) (L : List Ev) (tx : Int) (w : World) (hl : Evs w a len L) (hnil : a = none → len = 0 ∧ cap = 0) (hn : len ≤ 1000) :
    Calls Try.prog 23 #[.slice a len cap, .int .i64 tx] w (OwnRet enEv 31 11 w (L.filter fun x => !isOf tx x)) := by
  have hO : Below w.heap.size w (w.alloc (.cells #[.int .i64 tx] 3)) := (Below.refl _ _).alloc (Nat.le_refl _) _
  have hB := Bk.new w 3 #[.int .i64 tx]
  have hcl := cloneEv_any a len cap L _ (hl.below hO) hnil hn
  have HCL := Lib.hid hcl
  have hall := hl.all
  have hll := hl.len
  clear hl hnil hcl
  go_enter Try.func23, Try.ntmps23
  go_wp2_with (go_at_call 43; refine HCL.out.mono ?_; rintro e w1 ⟨v, rfl, hown, hb1⟩)
  have hB1 := bl_then hO (Nat.le_refl _) hb1
  have hBk := hB.below hb1
  have hc0 := hBk.cell 0
  rcases hown.2 with ⟨rfl, hz⟩ | ⟨h, cap', cur, rfl, hbh, hrow⟩
  · have hL : L = [] := List.eq_nil_of_length_eq_zero hz
    subst hL
    have hix := delEv_nil (isOf tx) 44 #[.pointer (some ⟨w.heap.size, 0, none⟩)] (enters_of Try.func44 (by kernel_rfl) rfl) 0 w1 (of1_pred tx _ _ (fun _ => False) (fun h => h) hc0)
    have HI := Lib.hid hix
    clear hix hown hz
    go_wp2_with (go_at_call 42; refine HI.out.mono ?_; rintro e w2 ⟨rfl, hb2⟩)
    go_ret
    exact ⟨_, rfl, World.ownsRow_nil _ _ _ _, bl_then hB1 (Nat.le_refl _) hb2⟩
  · obtain ⟨hrw, _⟩ := RowAt.of hown rfl
    have hne : w.heap.size ≠ h := by simp at hbh; omega
    have hwh : w.heap.size ≤ h := by simp at hbh; omega
    have hix := delEv_any (isOf tx) 44 #[.pointer (some ⟨w.heap.size, 0, none⟩)] (enters_of Try.func44 (by kernel_rfl) rfl) h cap' L w1 hrw hall (by omega) (of1_pred tx _ _ _ hne hc0)
    have HI := Lib.hid hix
    clear hix hown hrw hall
    go_wp2_with (go_at_call 42; refine HI.out.mono ?_; rintro e w2 ⟨rfl, hr2, k2⟩)
    go_ret
    exact ⟨_, rfl, hr2.own enEv_len hwh, bl_keep hB1 k2 (fun i hi => by rw [hi]; exact hwh)⟩
theorem how_iff {L : List Ev} {k : Nat} {x : Ev} (hx : L[k]? = some x) : (endI Ev.tx cmE edE L x.tx = k ∧ howE L x.tx = 1) ↔ (endI Ev.tx cmE edE L x.tx = k ∧ cmE x = true) := by
  constructor
  · rintro ⟨h1, h2⟩
    refine ⟨h1, ?_⟩
    unfold howE at h2
    rw [h1, if_neg (by omega), show (k : Int).toNat = k by omega, hx] at h2
    dsimp only at h2
    split at h2
    · rename_i h; unfold cmE; simp [h]
    · omega
  · rintro ⟨h1, h2⟩
    refine ⟨h1, ?_⟩
    unfold howE
    rw [h1, if_neg (by omega), show (k : Int).toNat = k by omega, hx]
    exact if_pos (by simpa [cmE] using h2)
theorem commTo_at {L : List Ev} {k : Nat} {x : Ev} (hx : L[k]? = some x) : commTo Ev.tx cmE edE L (k + 1) = if endI Ev.tx cmE edE L x.tx = k ∧ cmE x = true then commTo Ev.tx cmE edE L k ++ [x.tx] else commTo Ev.tx cmE edE L k := by
  rw [commTo, hx]
theorem commTo_len (L : List Ev) (n : Nat) : (commTo Ev.tx cmE edE L n).length ≤ n := by
  induction n with
  | zero => exact Nat.le_refl _
  | succ n ih =>
    unfold commTo
    split
    · split
      · rw [List.length_append]; simp; omega
      · omega
    · omega
set_option maxRecDepth 100000 in
set_option maxHeartbeats 2000000 in
theorem comm_any (a : Option Addr) (len cap : Nat) (L : List Ev) (w : World) (hl : Evs w a len L) (hn : len ≤ 1000) :
    Calls Try.prog 10 #[.slice a len cap] w (OwnRet enI 3 1 w (commTo Ev.tx cmE edE L L.length)) := by
  have hll := hl.len
  obtain ⟨i0, hi0, hz0, hz1, hz2⟩ := info_parts Try.infoI
  go_enter Try.func10, Try.ntmps10
  go_wp2_with fail
  go_loopw [3, 10] (fun s3 c wr => ∃ (k : Nat) (D : List Int) (nD : Nat), k ≤ len ∧ c = .int .i64 k ∧ commTo Ev.tx cmE edE L k = D ∧ D.length = nD ∧ nD ≤ k ∧ wr.ownsRow w.heap.size 3 1 s3 nD (flatV enI D) ∧ Below w.heap.size w wr) (fun _ c _ => len - (intOf c).toNat)
  case atStart => exact ⟨0, [], 0, by omega, rfl, rfl, rfl, Nat.le_refl _, World.ownsRow_nil _ _ _ _, Below.refl _ _⟩
  case round =>
    obtain ⟨k, D, nD, hk, rfl, hD, hnD, hnk, ho, HB⟩ := hrel
    have HD := Lib.hid hD
    have HND := Lib.hid hnD
    clear hD hnD
    by_cases hlt : k < len
    · obtain ⟨b, off, x, rfl, hb, hx, hok, d0, d1, d2, d3, d4, d5, d6, d7, d8, d9, d10⟩ := Ev_at (hl.below HB) hlt
      have HE := Lib.hid (fun W (hb : Below w.heap.size w W) => ends_any (some ⟨b, off, none⟩) len cap L x.tx W (hl.below hb))
      have HIFF := Lib.hid (how_iff hx)
      have HSTEP : Hid (commTo Ev.tx cmE edE L (k + 1) = if endI Ev.tx cmE edE L x.tx = k ∧ cmE x = true then D ++ [x.tx] else D) := Lib.hid (by
        rw [commTo_at hx, HD.out])
      clear hl hx hok
      generalize hw9 : cmE x = cm at HIFF HSTEP
      clear hw9
      obtain ⟨kd, tx, n0, n1, n2, n3, dp, mo, va, ⟨ra, rl, rc⟩, er⟩ := x
      dsimp only at d0 d1 d2 d3 d4 d5 d6 d7 d8 d9 d10 HE HIFF HSTEP
      generalize endI Ev.tx cmE edE L tx = at' at HE HIFF HSTEP
      generalize howE L tx = hw at HE HIFF
      have d1x := (Bk.new wr 31 #[.int .i64 kd, .int .i64 tx, .int .i64 n0, .int .i64 n1, .int .i64 n2, .int .i64 n3, .int .i64 dp, .int .i64 mo, .int .i64 va, .slice ra rl rc, .int .i64 er])
      have HBX := Lib.hid d1x
      have hba : Below w.heap.size w (wr.alloc (.cells #[.int .i64 kd, .int .i64 tx, .int .i64 n0, .int .i64 n1, .int .i64 n2, .int .i64 n3, .int .i64 dp, .int .i64 mo, .int .i64 va, .slice ra rl rc, .int .i64 er] 31)) := HB.alloc HB.size _
      have hoa := own_below ho ((Below.refl _ _).alloc (Nat.le_refl _) (.cells #[.int .i64 kd, .int .i64 tx, .int .i64 n0, .int .i64 n1, .int .i64 n2, .int .i64 n3, .int .i64 dp, .int .i64 mo, .int .i64 va, .slice ra rl rc, .int .i64 er] 31))
      clear d1x
      by_cases hy : at' = k ∧ hw = 1
      · obtain ⟨rfl, rfl⟩ := hy
        have HN : Hid (commTo Ev.tx cmE edE L (k + 1) = D ++ [tx]) := Lib.hid (by rw [HSTEP.out, if_pos (HIFF.out.1 ⟨rfl, rfl⟩)])
        clear HSTEP HIFF
        go_wp2_with (first
          | (go_at_call 8; refine (HE.out _ hba).mono ?_; rintro e w2 ⟨rfl, hb2⟩; have y1 := (HBX.out.below hb2).cell 1; have hb12 := bl_then hba (Nat.le_refl _) hb2; have ho2 := own_below hoa hb2)
          | (at_builtin; refine wpList_append_one enI_len (by omega) enI_one rfl _ _ 35 rfl w.heap.size 3 i0 _ 8 Try.underlying35 hi0 hz0 hz1 hz2 rfl _ nD D rfl ho2 tx #[.int .i64 tx] rfl 3 _ rfl rfl (by unfold maxLen; omega) (by omega) hb12 hb12.size ?_; intro v' w7 ho' hb7 k7))
        go_roundw
        case rel => exact ⟨k + 1, D ++ [tx], nD + 1, by omega, by go_num, HN.out, by simp [HND.out], by omega, ho', hb7⟩
        case measure => simp [intOf]; omega
      · have HN : Hid (commTo Ev.tx cmE edE L (k + 1) = D) := Lib.hid (by rw [HSTEP.out, if_neg (fun h => hy (HIFF.out.2 h))])
        clear HSTEP HIFF
        by_cases ha : at' = k
        · subst ha
          have hh : (hw == 1) = false := beq_eq_false_iff_ne.2 (fun e => hy ⟨rfl, e⟩)
          clear hy
          go_wp2_with (go_at_call 8; refine (HE.out _ hba).mono ?_; rintro e w2 ⟨rfl, hb2⟩; have y1 := (HBX.out.below hb2).cell 1; have hb12 := bl_then hba (Nat.le_refl _) hb2; have ho2 := own_below hoa hb2)
          go_roundw
          case rel => exact ⟨k + 1, D, nD, by omega, by go_num, HN.out, HND.out, by omega, ho2, hb12⟩
          case measure => simp [intOf]; omega
        · have hh : (at' == (k : Int)) = false := beq_eq_false_iff_ne.2 ha
          clear hy ha
          go_wp2_with (go_at_call 8; refine (HE.out _ hba).mono ?_; rintro e w2 ⟨rfl, hb2⟩; have y1 := (HBX.out.below hb2).cell 1; have hb12 := bl_then hba (Nat.le_refl _) hb2; have ho2 := own_below hoa hb2)
          go_roundw
          case rel => exact ⟨k + 1, D, nD, by omega, by go_num, HN.out, HND.out, by omega, ho2, hb12⟩
          case measure => simp [intOf]; omega
    · obtain rfl : k = len := by omega
      have HRET : Hid (∀ v, wr.ownsRow w.heap.size 3 1 v nD (flatV enI D) → OwnRet enI 3 1 w (commTo Ev.tx cmE edE L L.length) (.returned v) wr) := Lib.hid (fun v h => by
        rw [hll, HD.out]
        exact ⟨_, rfl, by rw [HND.out]; exact h, HB⟩)
      have HR2 := Lib.hid (HRET.out _ ho)
      clear hl ho
      go_wp2
      go_ret
      exact HR2.out
end Go.Proofs.Ytjenchijenkndaa
