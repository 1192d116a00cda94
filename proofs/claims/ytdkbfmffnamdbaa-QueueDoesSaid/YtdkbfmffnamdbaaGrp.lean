/- group: what its functions come to. No condition. -/
import Derived.Test.YtdkbfmffnamdbaaRecHd
import Derived.Test.YtdkbfmffnamdbaaSamHd
import Derived.Test.YtdkbfmffnamdbaaModeG
set_option linter.unusedVariables false
set_option linter.unusedSimpArgs false
namespace Go.Proofs.Ytdkbfmffnamdbaa
open Go.RowKit (wrap32 wrap64)
open Go.RowKit
def isTx (tx : Int) (h : Hd) : Bool := h.tx == tx
def ofT (L : List Hd) (tx : Int) : Int := match L.find? (isTx tx) with
  | some h => h.mode
  | none => 0
def hits (tx m : Int) (h : Hd) : Bool := h.tx != tx && !comT h.mode m
def goesT (L : List Hd) (tx m : Int) : Bool := !(L.any (hits tx m))
def setT (tx m : Int) : List Hd → List Hd
  | [] => [⟨tx, m⟩]
  | h :: l => if isTx tx h then ⟨h.tx, m⟩ :: l else h :: setT tx m l
def dropT (L : List Hd) (tx : Int) : List Hd := L.filter fun h => !isTx tx h
theorem setT_miss (tx m : Int) (L : List Hd) (h : ∀ x ∈ L, isTx tx x = false) : setT tx m L = L ++ [⟨tx, m⟩] := by
  induction L with
  | nil => rfl
  | cons x l ih => unfold setT; rw [h x (by simp), ih (fun y hy => h y (by simp [hy]))]; rfl
theorem setT_hit (tx m : Int) (L : List Hd) (k : Nat) (x : Hd) (hx : L[k]? = some x) (hp : isTx tx x = true) (h : ∀ y ∈ L.take k, isTx tx y = false) : setT tx m L = L.set k ⟨x.tx, m⟩ := by
  induction L generalizing k with
  | nil => simp at hx
  | cons y l ih =>
    cases k with
    | zero => simp at hx; subst hx; unfold setT; rw [hp]; rfl
    | succ k =>
      unfold setT
      rw [h y (by simp), ih k (by simpa using hx) (fun z hz => h z (by simp [hz]))]; rfl
theorem ofT_hit (tx : Int) (L : List Hd) (k : Nat) (x : Hd) (hx : L[k]? = some x) (hp : isTx tx x = true) (h : ∀ y ∈ L.take k, isTx tx y = false) : ofT L tx = x.mode := by
  have := idxB_find (isTx tx) L
  unfold ofT
  rw [idxB_hit (isTx tx) L k x hx hp h] at this
  cases hf : L.find? (isTx tx) with
  | none => rw [hf] at this; simp at this
  | some y =>
    rw [hf] at this
    obtain ⟨k', h1, h2⟩ := this
    obtain rfl : k = k' := by omega
    rw [hx] at h2; cases h2; rfl
theorem ofT_miss (tx : Int) (L : List Hd) (h : ∀ x ∈ L, isTx tx x = false) : ofT L tx = 0 := by
  unfold ofT
  rw [List.find?_eq_none.2 (fun x hx => by rw [h x hx]; simp)]
theorem find1_pred (tx : Int) (B : Nat) (w : World) (S : Nat → Prop) (hB : ¬ S B) (hc : w.cell? ⟨B, 0, none⟩ = some (.int .i64 tx)) :
    PredS Try.prog 73 #[.pointer (some ⟨B, 0, none⟩)] enHd (isTx tx) S w := fun W x k => by
  have hW := Keep.cellS k hc hB
  have hlt := World.block_lt_of_cell? W ⟨B, 0, none⟩ hW
  have hne : B ≠ W.heap.size := Nat.ne_of_lt hlt
  obtain ⟨x0, x1⟩ := x
  show Calls Try.prog 73 #[.agg #[.int .i64 x0, .int .i64 x1], .pointer (some ⟨B, 0, none⟩)] W _
  have hW2 := cell_new_a (.cells #[.int .i64 x0, .int .i64 x1] 82) hW
  clear k hc hlt
  go_enter Try.func73, Try.ntmps73
  go_wp2
  go_ret
  exact ⟨rfl, (Below.refl _ _).alloc (Nat.le_refl _) _⟩
theorem drop1_pred (tx : Int) (B : Nat) (w : World) (S : Nat → Prop) (hB : ¬ S B) (hc : w.cell? ⟨B, 0, none⟩ = some (.int .i64 tx)) :
    PredS Try.prog 65 #[.pointer (some ⟨B, 0, none⟩)] enHd (isTx tx) S w := fun W x k => by
  have hW := Keep.cellS k hc hB
  have hlt := World.block_lt_of_cell? W ⟨B, 0, none⟩ hW
  have hne : B ≠ W.heap.size := Nat.ne_of_lt hlt
  obtain ⟨x0, x1⟩ := x
  show Calls Try.prog 65 #[.agg #[.int .i64 x0, .int .i64 x1], .pointer (some ⟨B, 0, none⟩)] W _
  have hW2 := cell_new_a (.cells #[.int .i64 x0, .int .i64 x1] 82) hW
  clear k hc hlt
  go_enter Try.func65, Try.ntmps65
  go_wp2
  go_ret
  exact ⟨rfl, (Below.refl _ _).alloc (Nat.le_refl _) _⟩
theorem goes1_pred (tx m : Int) (B C : Nat) (w : World) (S : Nat → Prop) (hB : ¬ S B) (hC : ¬ S C) (hc : w.cell? ⟨B, 0, none⟩ = some (.int .i64 tx)) (hd : w.cell? ⟨C, 0, none⟩ = some (.int .i64 m)) :
    PredS Try.prog 56 #[.pointer (some ⟨B, 0, none⟩), .pointer (some ⟨C, 0, none⟩)] enHd (hits tx m) S w := fun W x k => by
  have hW := Keep.cellS k hc hB
  have hV := Keep.cellS k hd hC
  have hlt := World.block_lt_of_cell? W ⟨B, 0, none⟩ hW
  have hlu := World.block_lt_of_cell? W ⟨C, 0, none⟩ hV
  have hne : B ≠ W.heap.size := Nat.ne_of_lt hlt
  have hnf : C ≠ W.heap.size := Nat.ne_of_lt hlu
  obtain ⟨x0, x1⟩ := x
  show Calls Try.prog 56 #[.agg #[.int .i64 x0, .int .i64 x1], .pointer (some ⟨B, 0, none⟩), .pointer (some ⟨C, 0, none⟩)] W _
  have hO : Below W.heap.size W (W.alloc (.cells #[.int .i64 x0, .int .i64 x1] 82)) := (Below.refl _ _).alloc (Nat.le_refl _) _
  have hW2 := cell_new_a (.cells #[.int .i64 x0, .int .i64 x1] 82) hW
  have hV2 := cell_new_a (.cells #[.int .i64 x0, .int .i64 x1] 82) hV
  clear k hc hd hlt hlu
  cases ht : (x0 != tx) with
  | true =>
    have hh : hits tx m ⟨x0, x1⟩ = !comT x1 m := by unfold hits; simp only [ht, Bool.true_and]
    rw [hh]
    clear hh
    go_enter Try.func56, Try.ntmps56
    go_wp2_with (go_at_call 57; refine (compat_any _ _ _).mono ?_; rintro e w1 ⟨rfl, hb1⟩)
    go_ret
    exact ⟨rfl, bl_then hO (Nat.le_refl _) hb1⟩
  | false =>
    have hh : hits tx m ⟨x0, x1⟩ = false := by unfold hits; simp only [ht, Bool.false_and]
    rw [hh]
    clear hh
    go_enter Try.func56, Try.ntmps56
    go_wp2
    go_ret
    exact ⟨rfl, hO⟩
set_option maxHeartbeats 1000000 in
theorem gfind_any (a : Option Addr) (len cap : Nat) (L : List Hd) (tx : Int) (w : World) (hl : Hds w a len L) (hn : len ≤ 1000) :
    Calls Try.prog 58 #[.slice a len cap, .int .i64 tx] w fun e w' => e = .returned (.int .i64 (idxB (isTx tx) L)) ∧ Below w.heap.size w w' := by
  have hO : Below w.heap.size w (w.alloc (.cells #[.int .i64 tx] 3)) := (Below.refl _ _).alloc (Nat.le_refl _) _
  have hB := (Bk.new w 3 #[.int .i64 tx]).cell 0
  have hcon := idxHd_any (isTx tx) 73 #[.pointer (some ⟨w.heap.size, 0, none⟩)] (enters_of Try.func73 (by kernel_rfl) rfl) (fun _ => False) a len cap L (w.alloc (.cells #[.int .i64 tx] 3)) (hl.below hO) hn (find1_pred tx _ _ _ (fun h => h) hB)
  have HC := Lib.hid hcon
  clear hcon hl hB
  go_enter Try.func58, Try.ntmps58
  go_wp2_with (go_at_call 71; refine HC.out.mono ?_; rintro e w1 ⟨rfl, hb1⟩)
  go_ret
  exact ⟨rfl, bl_then hO (Nat.le_refl _) hb1⟩
set_option maxHeartbeats 1000000 in
theorem gof_any (a : Option Addr) (len cap : Nat) (L : List Hd) (tx : Int) (w : World) (hl : Hds w a len L) (hn : len ≤ 1000) :
    Calls Try.prog 30 #[.slice a len cap, .int .i64 tx] w fun e w' => e = .returned (.int .i64 (ofT L tx)) ∧ Below w.heap.size w w' := by
  have hf := gfind_any a len cap L tx w hl hn
  rcases idxB_spec (isTx tx) L with ⟨h1, h2⟩ | ⟨k, x, h1, h2, h3, h4⟩
  · rw [h1] at hf
    rw [ofT_miss tx L h2]
    have HF := Lib.hid hf
    clear hf hl h1 h2
    go_enter Try.func30, Try.ntmps30
    go_wp2_with (go_at_call 58; refine HF.out.mono ?_; rintro e w1 ⟨rfl, hb1⟩)
    go_ret
    exact ⟨rfl, hb1⟩
  · rw [h1] at hf
    rw [ofT_hit tx L k x h2 h3 h4]
    have hk : k < len := by rw [← hl.len]; exact (List.getElem?_eq_some_iff.1 h2).1
    have hlx := fun W (hb : Below w.heap.size w W) => Hd_at (hl.below hb) hk
    have HLX := Lib.hid hlx
    have HX := Lib.hid h2
    have HF := Lib.hid hf
    clear hf hl h1 h2 h3 h4 hlx
    go_enter Try.func30, Try.ntmps30
    go_wp2_with (go_at_call 58; refine HF.out.mono ?_; rintro e w1 ⟨rfl, hb1⟩; obtain ⟨b, off, x', rfl, _, hx', _, d0, d1⟩ := HLX.out _ hb1; rw [HX.out] at hx'; obtain rfl := Option.some.inj hx'; clear hx')
    go_ret
    exact ⟨rfl, hb1⟩
set_option maxHeartbeats 1000000 in
theorem ggoes_any (a : Option Addr) (len cap : Nat) (L : List Hd) (tx m : Int) (w : World) (hl : Hds w a len L) (hn : len ≤ 1000) :
    Calls Try.prog 29 #[.slice a len cap, .int .i64 tx, .int .i64 m] w fun e w' => e = .returned (.bool (goesT L tx m)) ∧ Below w.heap.size w w' := by
  have hO : Below w.heap.size w ((w.alloc (.cells #[.int .i64 tx] 3)).alloc (.cells #[.int .i64 m] 3)) := ((Below.refl _ _).alloc (Nat.le_refl _) _).alloc (by simp) _
  have hB := ((Bk.new w 3 #[.int .i64 tx]).below ((Below.refl _ _).alloc (Nat.le_refl _) (.cells #[.int .i64 m] 3))).cell 0
  have hD := (Bk.new (w.alloc (.cells #[.int .i64 tx] 3)) 3 #[.int .i64 m]).cell 0
  rw [World.size_alloc] at hD
  have hcon := hasHd_any (hits tx m) 56 #[.pointer (some ⟨w.heap.size, 0, none⟩), .pointer (some ⟨w.heap.size + 1, 0, none⟩)] (enters_of Try.func56 (by kernel_rfl) rfl) (fun _ => False) a len cap L ((w.alloc (.cells #[.int .i64 tx] 3)).alloc (.cells #[.int .i64 m] 3)) (hl.below hO) hn (goes1_pred tx m _ _ _ _ (fun h => h) (fun h => h) hB hD)
  have HC := Lib.hid hcon
  have hg : goesT L tx m = !(L.any (hits tx m)) := rfl
  rw [hg]
  generalize L.any (hits tx m) = r at HC ⊢
  clear hcon hl hB hD hg
  go_enter Try.func29, Try.ntmps29
  go_wp2_with (go_at_call 55; refine HC.out.mono ?_; rintro e w1 ⟨rfl, hb1⟩)
  go_ret
  exact ⟨rfl, bl_then hO (Nat.le_refl _) hb1⟩
set_option maxHeartbeats 1000000 in
theorem gdrop_any (a : Option Addr) (len cap : Nat) (L : List Hd) (tx : Int) (w : World) (hl : Hds w a len L) (hnil : a = none → len = 0 ∧ cap = 0) (hn : len ≤ 1000) :
    Calls Try.prog 39 #[.slice a len cap, .int .i64 tx] w (OwnRet enHd 82 2 w (dropT L tx)) := by
  have hO : Below w.heap.size w (w.alloc (.cells #[.int .i64 tx] 3)) := (Below.refl _ _).alloc (Nat.le_refl _) _
  have hB := Bk.new w 3 #[.int .i64 tx]
  have hcl := cloneHd_any a len cap L _ (hl.below hO) hnil hn
  have HCL := Lib.hid hcl
  have hall := hl.all
  have hll := hl.len
  clear hl hnil hcl
  go_enter Try.func39, Try.ntmps39
  go_wp2_with (go_at_call 52; refine HCL.out.mono ?_; rintro e w1 ⟨v, rfl, hown, hb1⟩)
  have hB1 := bl_then hO (Nat.le_refl _) hb1
  have hBk := hB.below hb1
  have hc0 := hBk.cell 0
  rcases hown.2 with ⟨rfl, hz⟩ | ⟨h, cap', cur, rfl, hbh, hrow⟩
  · have hL : L = [] := List.eq_nil_of_length_eq_zero hz
    subst hL
    have hsr : Hds w1 none 0 [] := ⟨rfl, Nat.zero_le _, by simp, fun h => absurd h (by omega)⟩
    have hix := delHd_nil (isTx tx) 65 #[.pointer (some ⟨w.heap.size, 0, none⟩)] (enters_of Try.func65 (by kernel_rfl) rfl) 0 w1 (drop1_pred tx _ _ (fun _ => False) (fun h => h) hc0)
    have HI := Lib.hid hix
    clear hix hsr hown hz
    go_wp2_with (go_at_call 64; refine HI.out.mono ?_; rintro e w2 ⟨rfl, hb2⟩)
    go_ret
    exact ⟨_, rfl, World.ownsRow_nil _ _ _ _, bl_then hB1 (Nat.le_refl _) hb2⟩
  · obtain ⟨hrw, _⟩ := RowAt.of hown rfl
    have hne : w.heap.size ≠ h := by simp at hbh; omega
    have hwh : w.heap.size ≤ h := by simp at hbh; omega
    have hix := delHd_any (isTx tx) 65 #[.pointer (some ⟨w.heap.size, 0, none⟩)] (enters_of Try.func65 (by kernel_rfl) rfl) h cap' L w1 hrw hall (by omega) (drop1_pred tx _ _ _ hne hc0)
    have HI := Lib.hid hix
    clear hix hown hrw hall
    go_wp2_with (go_at_call 64; refine HI.out.mono ?_; rintro e w2 ⟨rfl, hr2, k2⟩)
    go_ret
    exact ⟨_, rfl, hr2.own enHd_len hwh, bl_keep hB1 k2 (fun i hi => by rw [hi]; exact hwh)⟩
end Go.Proofs.Ytdkbfmffnamdbaa
