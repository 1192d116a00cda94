/- group: the reference's functions; counts. No condition. -/
import Derived.Test.YtdkbfmffnamdbaaGrpD
set_option linter.unusedVariables false
set_option linter.unusedSimpArgs false
namespace Go.Proofs.Ytdkbfmffnamdbaa
open Go.RowKit (wrap32 wrap64)
open Go.RowKit Go.Shelf Go.Sort
set_option maxHeartbeats 1000000 in
theorem rmode_any (a : Option Addr) (len cap : Nat) (L : List Hd) (tx : Int) (w : World) (hl : Hds w a len L) :
    Calls Try.prog 26 #[.slice a len cap, .int .i64 tx] w fun e w' => e = .returned (.int .i64 (ofT L tx)) ∧ Below w.heap.size w w' := by
  have hll := hl.len
  have HLL := Lib.hid hll
  have hmx : len ≤ 9223372036854775807 := by have := hl.max; unfold maxLen at this; exact this
  clear hll
  go_enter Try.func26, Try.ntmps26
  go_wp2
  go_loopw [9] (fun c wr => ∃ k : Nat, k ≤ len ∧ c = .int .i64 k ∧ Hid (∀ y ∈ L.take k, isTx tx y = false) ∧ Below w.heap.size w wr) (fun c _ => len - (intOf c).toNat)
  case atStart => exact ⟨0, by omega, rfl, Lib.hid (by simp), Below.refl _ _⟩
  case round =>
    obtain ⟨k, hk, rfl, HN, HB⟩ := hrel
    by_cases hlt : k < len
    · obtain ⟨b, off, x, rfl, _, hx, _, d0, d1⟩ := Hd_at (hl.below HB) hlt
      have hO : Below wr.heap.size wr (wr.alloc (.cells #[.int .i64 x.tx, .int .i64 x.mode] 82)) := (Below.refl _ _).alloc (Nat.le_refl _) _
      have HB1 := bl_then HB (Nat.le_refl _) hO
      have hBx := Bk.new wr 82 #[.int .i64 x.tx, .int .i64 x.mode]
      have q0 := hBx.cell 0
      have q1 := hBx.cell 1
      have HX := Lib.hid hx
      clear hx hO hBx hl
      cases ht : (x.tx == tx) with
      | true =>
        have hres := ofT_hit tx L k x HX.out ht HN.out
        have HR := Lib.hid hres
        clear hres
        go_wp2
        go_ret
        exact ⟨by rw [HR.out]; rfl, HB1⟩
      | false =>
        have HT := Lib.hid ht
        go_wp2
        go_roundw
        case rel =>
          refine ⟨k + 1, by omega, by go_num, Lib.hid ?_, HB1⟩
          rw [take_snocG L k x HX.out]
          intro y hy
          rcases List.mem_append.1 hy with hy | hy
          · exact HN.out y hy
          · rw [List.mem_singleton.1 hy]; exact HT.out
        case measure => simp [intOf]; omega
    · obtain rfl : k = len := by omega
      have hres := ofT_miss tx L (by have := HN.out; rw [List.take_of_length_le (by rw [HLL.out]; exact Nat.le_refl _)] at this; exact this)
      have HR := Lib.hid hres
      clear hres hl
      go_wp2
      go_ret
      exact ⟨by rw [HR.out]; rfl, HB⟩
theorem goesT_bad (L : List Hd) (tx m : Int) (k : Nat) (x : Hd) (hx : L[k]? = some x) (h : hits tx m x = true) : goesT L tx m = false := by
  unfold goesT
  rw [List.any_eq_true.2 ⟨x, List.mem_of_getElem? hx, h⟩]; rfl
theorem goesT_all (L : List Hd) (tx m : Int) (h : ∀ y ∈ L, hits tx m y = false) : goesT L tx m = true := by
  unfold goesT
  rw [List.any_eq_false.2 (fun x hx => by rw [h x hx]; simp)]; rfl
set_option maxHeartbeats 1000000 in
theorem rgoes_any (a : Option Addr) (len cap : Nat) (L : List Hd) (tx m : Int) (w : World) (hl : Hds w a len L) :
    Calls Try.prog 46 #[.slice a len cap, .int .i64 tx, .int .i64 m] w fun e w' => e = .returned (.bool (goesT L tx m)) ∧ Below w.heap.size w w' := by
  have hll := hl.len
  have HLL := Lib.hid hll
  have hmx : len ≤ 9223372036854775807 := by have := hl.max; unfold maxLen at this; exact this
  clear hll
  go_enter Try.func46, Try.ntmps46
  go_wp2
  go_loopw [11] (fun c wr => ∃ k : Nat, k ≤ len ∧ c = .int .i64 k ∧ Hid (∀ y ∈ L.take k, hits tx m y = false) ∧ Below w.heap.size w wr) (fun c _ => len - (intOf c).toNat)
  case atStart => exact ⟨0, by omega, rfl, Lib.hid (by simp), Below.refl _ _⟩
  case round =>
    obtain ⟨k, hk, rfl, HN, HB⟩ := hrel
    by_cases hlt : k < len
    · obtain ⟨b, off, x, rfl, _, hx, _, d0, d1⟩ := Hd_at (hl.below HB) hlt
      have hO : Below wr.heap.size wr (wr.alloc (.cells #[.int .i64 x.tx, .int .i64 x.mode] 82)) := (Below.refl _ _).alloc (Nat.le_refl _) _
      have HB1 := bl_then HB (Nat.le_refl _) hO
      have hBx := Bk.new wr 82 #[.int .i64 x.tx, .int .i64 x.mode]
      have q0 := hBx.cell 0
      have q1 := hBx.cell 1
      have HX := Lib.hid hx
      have hstep : ∀ (hh : hits tx m x = false), Hid (∀ y ∈ L.take (k + 1), hits tx m y = false) := fun hh => Lib.hid (by
        rw [take_snocG L k x HX.out]
        intro y hy
        rcases List.mem_append.1 hy with hy | hy
        · exact HN.out y hy
        · rw [List.mem_singleton.1 hy]; exact hh)
      have HST := Lib.hid hstep
      clear hx hO hBx hl hstep
      cases ht : (x.tx != tx) with
      | false =>
        have hh : hits tx m x = false := by unfold hits; rw [ht]; rfl
        have HH := HST.out hh
        clear hh
        go_wp2
        go_roundw
        case rel => exact ⟨k + 1, by omega, by go_num, HH, HB1⟩
        case measure => simp [intOf]; omega
      | true =>
        have hc := fun W => rcompat_any x.mode m W
        cases hv : comT x.mode m with
        | true =>
          have hh : hits tx m x = false := by unfold hits; rw [hv]; simp
          have HH := HST.out hh
          rw [hv] at hc
          have HC := Lib.hid hc
          clear hh hc hv
          go_wp2_with (go_at_call 70; refine (HC.out _).mono ?_; rintro e _ ⟨rfl, rfl⟩)
          go_roundw
          case rel => exact ⟨k + 1, by omega, by go_num, HH, HB1⟩
          case measure => simp [intOf]; omega
        | false =>
          have hres := goesT_bad L tx m k x HX.out (by unfold hits; rw [hv, ht]; rfl)
          have HR := Lib.hid hres
          rw [hv] at hc
          have HC := Lib.hid hc
          clear hc hv hres
          go_wp2_with (go_at_call 70; refine (HC.out _).mono ?_; rintro e _ ⟨rfl, rfl⟩)
          go_ret
          exact ⟨by rw [HR.out]; rfl, HB1⟩
    · obtain rfl : k = len := by omega
      have hres := goesT_all L tx m (by have := HN.out; rw [List.take_of_length_le (by rw [HLL.out]; exact Nat.le_refl _)] at this; exact this)
      have HR := Lib.hid hres
      clear hres hl
      go_wp2
      go_ret
      exact ⟨by rw [HR.out]; rfl, HB⟩
theorem dropT_snoc (L : List Hd) (tx : Int) (k : Nat) (x : Hd) (hx : L[k]? = some x) : dropT (L.take (k + 1)) tx = dropT (L.take k) tx ++ (if isTx tx x then [] else [x]) := by
  unfold dropT
  rw [take_snocG L k x hx, List.filter_append]
  cases h : isTx tx x <;> simp [h]
set_option maxHeartbeats 1000000 in
theorem rdrop_any (a : Option Addr) (len cap : Nat) (L : List Hd) (tx : Int) (w : World) (hl : Hds w a len L) (hn : len ≤ 1000) :
    Calls Try.prog 49 #[.slice a len cap, .int .i64 tx] w (OwnRet enHd 82 2 w (dropT L tx)) := by
  have hll := hl.len
  have HLL := Lib.hid hll
  obtain ⟨i0, hi, hz0, hz1, hz2⟩ := info_parts Try.infoHd
  clear hll
  go_enter Try.func49, Try.ntmps49
  go_wp2
  go_loopw [5, 10] (fun v c wr => ∃ (k n : Nat), k ≤ len ∧ c = .int .i64 k ∧ n ≤ k ∧ Hid (n = (dropT (L.take k) tx).length) ∧ wr.ownsRow w.heap.size 82 2 v n (flatV enHd (dropT (L.take k) tx)) ∧ Below w.heap.size w wr) (fun _ c _ => len - (intOf c).toNat)
  case atStart => exact ⟨0, 0, by omega, rfl, by omega, Lib.hid rfl, World.ownsRow_nil _ _ _ _, Below.refl _ _⟩
  case round =>
    obtain ⟨k, n, hk, rfl, hnk, HN, hown, HB⟩ := hrel
    by_cases hlt : k < len
    · obtain ⟨b, off, x, rfl, _, hx, _, d0, d1⟩ := Hd_at (hl.below HB) hlt
      have hO : Below wr.heap.size wr (wr.alloc (.cells #[.int .i64 x.tx, .int .i64 x.mode] 82)) := (Below.refl _ _).alloc (Nat.le_refl _) _
      have HB1 := bl_then HB (Nat.le_refl _) hO
      have hBx := Bk.new wr 82 #[.int .i64 x.tx, .int .i64 x.mode]
      have q0 := hBx.cell 0
      have q1 := hBx.cell 1
      have hs := dropT_snoc L tx k x hx
      have hown1 := hown.alloc (.cells #[.int .i64 x.tx, .int .i64 x.mode] 82)
      clear hx hO hBx hl hown
      cases ht : (x.tx != tx) with
      | false =>
        have hi : isTx tx x = true := by unfold isTx; unfold bne at ht; simpa using ht
        rw [hi, if_pos rfl, List.append_nil] at hs
        rw [← hs] at hown1
        have HN' : Hid (n = (dropT (L.take (k + 1)) tx).length) := Lib.hid (by rw [hs]; exact HN.out)
        clear hs hi HN
        go_wp2
        go_roundw
        case rel => exact ⟨k + 1, n, by omega, by go_num, by omega, HN', hown1, HB1⟩
        case measure => simp [intOf]; omega
      | true =>
        have hi' : isTx tx x = false := by unfold isTx; unfold bne at ht; simpa using ht
        rw [hi', if_neg (by simp)] at hs
        have HS := Lib.hid hs
        have HN' : Hid (n + 1 = (dropT (L.take (k + 1)) tx).length) := Lib.hid (by rw [hs, List.length_append, ← HN.out]; rfl)
        clear hs hi' HN
        go_wp2_with (at_builtin; refine wpList_append_one enHd_len (by omega) enHd_one rfl _ _ 26 rfl w.heap.size 82 i0 _ 16 Try.underlying26 hi hz0 hz1 hz2 rfl _ n _ rfl hown1 x #[.int .i64 x.tx, .int .i64 x.mode] rfl 82 _ rfl (by simp) (by unfold maxLen; omega) (by omega) HB1 (by have := HB1.size; omega) ?_; intro v' w3 hown3 HB3 hk3; rw [← HS.out] at hown3)
        go_roundw
        case rel => exact ⟨k + 1, n + 1, by omega, by go_num, by omega, HN', hown3, HB3⟩
        case measure => simp [intOf]; omega
    · obtain rfl : k = len := by omega
      have hfull : L.take k = L := List.take_of_length_le (by rw [HLL.out]; exact Nat.le_refl _)
      rw [hfull] at hown HN
      have hret : ∀ v W, W.ownsRow w.heap.size 82 2 v n (flatV enHd (dropT L tx)) → Below w.heap.size w W → OwnRet enHd 82 2 w (dropT L tx) (.returned v) W := fun v W h hb => ⟨v, rfl, by rw [← HN.out]; exact h, hb⟩
      clear hl hfull
      go_wp2
      go_ret
      exact hret _ _ hown HB
/-- Set, as the reference does it: one by one. -/
def stS (tx m : Int) (s : Bool × List Hd) (h : Hd) : Bool × List Hd := if isTx tx h && !s.1 then (true, s.2 ++ [⟨h.tx, m⟩]) else (s.1, s.2 ++ [h])
def stF (tx m : Int) (L : List Hd) : Bool × List Hd := L.foldl (stS tx m) (false, [])
theorem stS_fold (tx m : Int) (L : List Hd) : ∀ acc, L.foldl (stS tx m) (true, acc) = (true, acc ++ L) := by
  induction L with
  | nil => intro acc; simp
  | cons x l ih =>
    intro acc
    rw [List.foldl_cons]
    have : stS tx m (true, acc) x = (true, acc ++ [x]) := by unfold stS; simp
    rw [this, ih]; simp
theorem stF_set (tx m : Int) (L : List Hd) : (if (stF tx m L).1 then (stF tx m L).2 else (stF tx m L).2 ++ [⟨tx, m⟩]) = setT tx m L := by
  have : ∀ (L acc : List Hd), (if (L.foldl (stS tx m) (false, acc)).1 then (L.foldl (stS tx m) (false, acc)).2 else (L.foldl (stS tx m) (false, acc)).2 ++ [⟨tx, m⟩]) = acc ++ setT tx m L := by
    intro L
    induction L with
    | nil => intro acc; simp [setT]
    | cons x l ih =>
      intro acc
      rw [List.foldl_cons]
      cases hx : isTx tx x with
      | true =>
        have e : stS tx m (false, acc) x = (true, acc ++ [⟨x.tx, m⟩]) := by unfold stS; simp [hx]
        rw [e, stS_fold]
        unfold setT
        rw [hx]; simp
      | false =>
        have e : stS tx m (false, acc) x = (false, acc ++ [x]) := by unfold stS; simp [hx]
        rw [e, ih]
        conv => rhs; unfold setT
        rw [hx]; simp
  exact this L []
theorem stF_snoc (tx m : Int) (L : List Hd) (k : Nat) (x : Hd) (hx : L[k]? = some x) : stF tx m (L.take (k + 1)) = stS tx m (stF tx m (L.take k)) x := by
  unfold stF
  rw [take_snocG L k x hx, List.foldl_append]; rfl
theorem stF_len (tx m : Int) (L : List Hd) : (stF tx m L).2.length = L.length := by
  have : ∀ (L : List Hd) s, (L.foldl (stS tx m) s).2.length = s.2.length + L.length := by
    intro L
    induction L with
    | nil => intro s; simp
    | cons x l ih =>
      intro s
      rw [List.foldl_cons, ih]
      unfold stS
      split <;> simp <;> omega
  have := this L (false, [])
  simpa [stF] using this
set_option maxRecDepth 100000 in
set_option maxHeartbeats 2000000 in
theorem rset_any (a : Option Addr) (len cap : Nat) (L : List Hd) (tx m : Int) (w : World) (hl : Hds w a len L) (hn : len ≤ 1000) :
    Calls Try.prog 47 #[.slice a len cap, .int .i64 tx, .int .i64 m] w (OwnRet enHd 82 2 w (setT tx m L)) := by
  have hll := hl.len
  have HLL := Lib.hid hll
  obtain ⟨i0, hi, hz0, hz1, hz2⟩ := info_parts Try.infoHd
  clear hll
  go_enter Try.func47, Try.ntmps47
  go_wp2
  go_loopw [7, 8, 13] (fun v d c wr => ∃ (k : Nat) (fl : Bool) (M : List Hd), k ≤ len ∧ c = .int .i64 k ∧ d = .bool fl ∧ Hid (stF tx m (L.take k) = (fl, M)) ∧ wr.ownsRow w.heap.size 82 2 v k (flatV enHd M) ∧ Below w.heap.size w wr) (fun _ _ c _ => len - (intOf c).toNat)
  case atStart => exact ⟨0, false, [], by omega, rfl, rfl, Lib.hid rfl, World.ownsRow_nil _ _ _ _, Below.refl _ _⟩
  case round =>
    obtain ⟨k, fl, M, hk, rfl, rfl, HM, hown, HB⟩ := hrel
    by_cases hlt : k < len
    · obtain ⟨b, off, x, rfl, _, hx, _, d0, d1⟩ := Hd_at (hl.below HB) hlt
      have hO : Below wr.heap.size wr (wr.alloc (.cells #[.int .i64 x.tx, .int .i64 x.mode] 82)) := (Below.refl _ _).alloc (Nat.le_refl _) _
      have HB1 := bl_then HB (Nat.le_refl _) hO
      have hBx := Bk.new wr 82 #[.int .i64 x.tx, .int .i64 x.mode]
      have q0 := hBx.cell 0
      have q1 := hBx.cell 1
      have g1 := hBx.frozen 1
      have hs := stF_snoc tx m L k x hx
      rw [HM.out] at hs
      clear hx hl HM
      by_cases hb : (x.tx == tx) = true ∧ fl = false
      · obtain ⟨ht, rfl⟩ := hb
        have hs' : stF tx m (L.take (k + 1)) = (true, M ++ [⟨x.tx, m⟩]) := by rw [hs]; unfold stS isTx; rw [ht]; rfl
        have HS := Lib.hid hs'
        have hO2 : Below wr.heap.size wr (wr.alloc (.cells #[.int .i64 x.tx, .int .i64 m] 82)) := (Below.refl _ _).alloc (Nat.le_refl _) _
        have hBy := Bk.new wr 82 #[.int .i64 x.tx, .int .i64 m]
        have p0 := hBy.cell 0
        have p1 := hBy.cell 1
        have HB2 := bl_then HB (Nat.le_refl _) hO2
        have hown2 := own_below hown hO2
        clear hs hs' hBx hBy hO hO2 HB1 hown
        go_wp2_with (at_builtin; refine wpList_append_one enHd_len (by omega) enHd_one rfl _ _ 26 rfl w.heap.size 82 i0 _ 16 Try.underlying26 hi hz0 hz1 hz2 rfl _ k _ rfl hown2 ⟨x.tx, m⟩ #[.int .i64 x.tx, .int .i64 m] rfl 82 _ rfl (by simp) (by unfold maxLen; omega) (by omega) HB2 (by have := HB2.size; omega) ?_; intro v' w3 hown3 HB3 hk3)
        go_roundw
        case rel => exact ⟨k + 1, true, _, by omega, by go_num, rfl, HS, hown3, HB3⟩
        case measure => simp [intOf]; omega
      · have hs' : stF tx m (L.take (k + 1)) = (fl, M ++ [x]) := by
          rw [hs]
          unfold stS isTx
          cases ht : (x.tx == tx) with
          | false => rfl
          | true =>
            cases fl with
            | true => rfl
            | false => exact absurd ⟨ht, rfl⟩ hb
        have HS := Lib.hid hs'
        have hown1 := own_below hown hO
        have hgd : (x.tx == tx) = false ∨ ((x.tx == tx) = true ∧ fl = true) := by
          cases ht : (x.tx == tx) with
          | false => exact .inl rfl
          | true =>
            cases fl with
            | true => exact .inr ⟨rfl, rfl⟩
            | false => exact absurd ⟨ht, rfl⟩ hb
        clear hs hs' hBx hO hown hb
        rcases hgd with ht | ⟨ht, rfl⟩
        · go_wp2_with (at_builtin; refine wpList_append_one enHd_len (by omega) enHd_one rfl _ _ 26 rfl w.heap.size 82 i0 _ 16 Try.underlying26 hi hz0 hz1 hz2 rfl _ k _ rfl hown1 x #[.int .i64 x.tx, .int .i64 x.mode] rfl 82 _ rfl (by simp) (by unfold maxLen; omega) (by omega) HB1 (by have := HB1.size; omega) ?_; intro v' w3 hown3 HB3 hk3)
          go_roundw
          case rel => exact ⟨k + 1, fl, _, by omega, by go_num, rfl, HS, hown3, HB3⟩
          case measure => simp [intOf]; omega
        · go_wp2_with (at_builtin; refine wpList_append_one enHd_len (by omega) enHd_one rfl _ _ 26 rfl w.heap.size 82 i0 _ 16 Try.underlying26 hi hz0 hz1 hz2 rfl _ k _ rfl hown1 x #[.int .i64 x.tx, .int .i64 x.mode] rfl 82 _ rfl (by simp) (by unfold maxLen; omega) (by omega) HB1 (by have := HB1.size; omega) ?_; intro v' w3 hown3 HB3 hk3)
          go_roundw
          case rel => exact ⟨k + 1, true, _, by omega, by go_num, rfl, HS, hown3, HB3⟩
          case measure => simp [intOf]; omega
    · obtain rfl : k = len := by omega
      have hfull : L.take k = L := List.take_of_length_le (by rw [HLL.out]; exact Nat.le_refl _)
      rw [hfull] at HM
      have hfin := stF_set tx m L
      have hfl := stF_len tx m L
      rw [HM.out] at hfin hfl
      dsimp only at hfin hfl
      rw [HLL.out] at hfl
      have HFL := Lib.hid hfl
      clear hl hfull hfl
      cases fl with
      | true =>
        rw [if_pos rfl] at hfin
        have hret : ∀ v W, W.ownsRow w.heap.size 82 2 v k (flatV enHd M) → Below w.heap.size w W → OwnRet enHd 82 2 w (setT tx m L) (.returned v) W := fun v W h hb => ⟨v, rfl, by rw [← hfin, HFL.out]; exact h, hb⟩
        have HRT := Lib.hid hret
        clear hfin hret
        go_wp2
        go_ret
        exact HRT.out _ _ hown HB
      | false =>
        rw [if_neg (by simp)] at hfin
        have hret : ∀ v W, W.ownsRow w.heap.size 82 2 v (k + 1) (flatV enHd (M ++ [⟨tx, m⟩])) → Below w.heap.size w W → OwnRet enHd 82 2 w (setT tx m L) (.returned v) W := fun v W h hb => ⟨v, rfl, by rw [← hfin, List.length_append, HFL.out]; exact h, hb⟩
        have HRT := Lib.hid hret
        clear hfin hret
        go_wp2_with (at_builtin; refine wpList_append_one enHd_len (by omega) enHd_one rfl _ _ 26 rfl w.heap.size 82 i0 _ 16 Try.underlying26 hi hz0 hz1 hz2 rfl _ k _ rfl hown ⟨tx, m⟩ #[.int .i64 tx, .int .i64 m] rfl 82 _ rfl rfl (by unfold maxLen; omega) (by omega) HB HB.size ?_; intro v' w3 hown3 HB3 hk3)
        go_ret
        exact HRT.out _ _ hown3 HB3
end Go.Proofs.Ytdkbfmffnamdbaa
