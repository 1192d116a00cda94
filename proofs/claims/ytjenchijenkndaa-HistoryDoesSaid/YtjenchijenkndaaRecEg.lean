/- Records of type api.Edge: their cells, slices of them, and the library's functions over such slices. No condition. -/
import Derived.Test.YtjenchijenkndaaRecF
import Derived.WalkSpells
import Derived.Lib.SliceRun
set_option linter.unusedVariables false
set_option linter.unusedSimpArgs false
namespace Go.Proofs.Ytjenchijenkndaa
open Go.RowKit (wrap32 wrap64)
open Go.RowKit
structure Eg where
  src : Int
  dst : Int
  deriving DecidableEq, Inhabited
def enEg (x : Eg) : List Value := [.int .i64 x.src, .int .i64 x.dst]
def ksEg : List CK := [.int .i64, .int .i64]
def okEg (x : Eg) : Prop := (Lit.int .i64 x.src).wf = true ∧ (Lit.int .i64 x.dst).wf = true
instance (x : Eg) : Decidable (okEg x) := by unfold okEg; infer_instance
theorem enEg_len (x : Eg) : (enEg x).length = 2 := rfl
theorem enEg_one : ∀ x, ∀ u ∈ enEg x, u.oneCell' = true := by
  intro x u hu
  unfold enEg at hu
  simp only [List.mem_cons, List.not_mem_nil, or_false] at hu
  rcases hu with rfl | rfl <;> rfl
theorem decEg (c : List Value) (hl : c.length = ksEg.length) (h : PW ksEg c) : ∃ x : Eg, c = enEg x ∧ okEg x := by
  match c, hl with
  | [v0, v1], _ =>
    obtain ⟨n0, rfl, w0⟩ := h 0 _ v0 rfl rfl
    obtain ⟨n1, rfl, w1⟩ := h 1 _ v1 rfl rfl
    exact ⟨⟨n0, n1⟩, rfl, w0, w1⟩
abbrev Egs (w : World) (a : Option Addr) (n : Nat) (L : List Eg) : Prop := SR enEg okEg 2 w a n L
theorem Eg_at {w : World} {a : Option Addr} {n : Nat} {L : List Eg} (h : Egs w a n L) {i : Nat} (hi : i < n) : ∃ b off, ∃ x : Eg, a = some ⟨b, off, none⟩ ∧ b < w.heap.size ∧ L[i]? = some x ∧ okEg x ∧ w.cell? ⟨b, off + i * 2, none⟩ = some (.int .i64 x.src) ∧ w.cell? ⟨b, off + i * 2 + 1, none⟩ = some (.int .i64 x.dst) := by
  obtain ⟨b, off, x, ha, hb, hx, hk, hc⟩ := h.get enEg_len hi
  exact ⟨b, off, x, ha, hb, hx, hk, hc 0 (by omega), hc 1 (by omega)⟩
theorem Eg_row {w : World} {E h cap : Nat} {D : List Eg} (r : RowAt enEg E 2 w h cap D) {i : Nat} {x : Eg} (hx : D[i]? = some x) : w.cell? ⟨h, i * 2, none⟩ = some (.int .i64 x.src) ∧ w.cell? ⟨h, i * 2 + 1, none⟩ = some (.int .i64 x.dst) := by
  have hc := fun j hj => r.cell enEg_len hx j hj
  exact ⟨hc 0 (by omega), hc 1 (by omega)⟩
theorem Try.infoEg : (Try.prog.info? 40).map (fun i => (i.zero, i.size, i.bytes)) = some (some (.agg #[.int .i64 0, .int .i64 0]), 2, 16) := by kernel_rfl
set_option maxRecDepth 100000 in
set_option maxHeartbeats 1000000 in
theorem cloneEg_any (a : Option Addr) (len cap : Nat) (L : List Eg) (w : World) (hl : Egs w a len L) (hnil : a = none → len = 0 ∧ cap = 0) (hn : len ≤ 1000) :
    Calls Try.prog 32 #[.slice a len cap] w (OwnRet enEg 40 2 w L) := by
  have hll := hl.len
  obtain ⟨i0, hi, hz0, hz1, hz2⟩ := info_parts Try.infoEg
  have q22 := fun (w : World) (a : Option Addr) (n c n' c' : Nat) => Lib.run_eql_slice_nil (P := Try.prog) w 37 40 a n c n' c' Try.underlying37
  cases a with
  | none =>
    obtain ⟨rfl, rfl⟩ := hnil rfl
    obtain rfl : L = [] := List.eq_nil_of_length_eq_zero hll
    have hret : ∀ W, W = w → OwnRet enEg 40 2 w [] (.returned (.slice none 0 0)) W := fun W h => by subst h; exact ⟨_, rfl, World.ownsRow_nil _ _ _ _, Below.refl _ _⟩
    clear hl hnil hll
    go_enter Try.func32, Try.ntmps32
    go_wp2
    go_ret
    exact hret _ rfl
  | some ad =>
    have hE := own_empty (enc := enEg) (s := 2) w w.heap.size 40 (Nat.le_refl _)
    have hB0 : Below w.heap.size w (w.alloc (.cells #[] 40)) := (Below.refl _ _).alloc (Nat.le_refl _) _
    have hl1 := hl.below hB0
    have hret : ∀ v W, W.ownsRow w.heap.size 40 2 v len (flatV enEg L) → Below w.heap.size w W → OwnRet enEg 40 2 w L (.returned v) W := fun v W h hb => ⟨v, rfl, by rw [hll]; exact h, hb⟩
    have HL := Lib.hid hll
    clear hl hnil hll
    go_enter Try.func32, Try.ntmps32
    go_wp2_with (at_builtin; refine wpList_append_sr enEg_len (by omega) enEg_one rfl _ _ 37 rfl w.heap.size 40 i0 _ 16 Try.underlying37 hi hz0 hz1 hz2 rfl _ 0 [] rfl hE _ len cap L rfl hl1 (by intro h; cases h) (by unfold maxLen; omega) (by omega) (by simp) ?_; intro v' w2 hown' hgr'; rw [Nat.zero_add, List.nil_append] at hown'; have HB2 := hB0.grown hgr' (by simp) (fun k h => (hE.lt k h).1))
    go_ret
    exact hret _ _ hown' HB2
set_option maxHeartbeats 1000000 in
theorem idxEg_any (p : Eg → Bool) (g : Nat) (lb : Array Value) (eg : ∀ args w, (callFunc g args).run Try.prog w = .ok (.enter g args) w) (S : Nat → Prop) (a : Option Addr) (len cap : Nat) (L : List Eg) (w : World) (hl : Egs w a len L) (hn : len ≤ 1000) (hp : PredS Try.prog g lb enEg p S w) :
    Calls Try.prog 50 #[.slice a len cap, .func (.func g) #[] lb] w fun e w' => e = .returned (.int .i64 (idxB p L)) ∧ Below w.heap.size w w' := by
  have hll := hl.len
  have HLL := Lib.hid hll
  have HP := Lib.hid hp
  clear hll hp
  go_enter Try.func50, Try.ntmps50
  go_wp2
  go_loopw [5, 8] (fun _ c wr => ∃ k : Nat, k ≤ len ∧ c = .int .i64 k ∧ Below w.heap.size w wr ∧ Hid (∀ y ∈ L.take k, p y = false)) (fun _ c _ => len - (intOf c).toNat)
  case atStart => exact ⟨0, by omega, rfl, Below.refl _ _, Lib.hid (by simp)⟩
  case round =>
    obtain ⟨k, hk, rfl, HB, HN⟩ := hrel
    by_cases hlt : k < len
    · obtain ⟨b, off, x, rfl, _, hx, _, d0, d1⟩ := Eg_at (hl.below HB) hlt
      have hc := HP.out wr x (Keep.of_below HB S)
      have HX := Lib.hid hx
      clear hx hl
      cases hq : p x with
      | true =>
        rw [hq] at hc
        have HC := Lib.hid hc
        have HQ := Lib.hid hq
        clear hc hq
        go_wp2_with (go_at_fn g; refine HC.out.mono ?_; rintro e w' ⟨rfl, hb'⟩)
        go_ret
        exact ⟨by rw [idxB_hit p L k x HX.out HQ.out HN.out]; rfl, bl_then HB (Nat.le_refl _) hb'⟩
      | false =>
        rw [hq] at hc
        have HC := Lib.hid hc
        have HQ := Lib.hid hq
        clear hc hq
        go_wp2_with (go_at_fn g; refine HC.out.mono ?_; rintro e w' ⟨rfl, hb'⟩)
        go_roundw
        case rel =>
          refine ⟨k + 1, by omega, by go_num, bl_then HB (Nat.le_refl _) hb', Lib.hid ?_⟩
          rw [take_snocG L k x HX.out]
          intro y hy
          rcases List.mem_append.1 hy with hy | hy
          · exact HN.out y hy
          · rw [List.mem_singleton.1 hy]; exact HQ.out
        case measure => simp [intOf]; omega
    · obtain rfl : k = len := by omega
      go_wp2
      go_ret
      exact ⟨by rw [idxB_miss p L (by have := HN.out; rw [List.take_of_length_le (by rw [HLL.out]; exact Nat.le_refl _)] at this; exact this)]; rfl, HB⟩
set_option maxHeartbeats 1000000 in
theorem hasEg_any (p : Eg → Bool) (g : Nat) (lb : Array Value) (eg : ∀ args w, (callFunc g args).run Try.prog w = .ok (.enter g args) w) (S : Nat → Prop) (a : Option Addr) (len cap : Nat) (L : List Eg) (w : World) (hl : Egs w a len L) (hn : len ≤ 1000) (hp : PredS Try.prog g lb enEg p S w) :
    Calls Try.prog 34 #[.slice a len cap, .func (.func g) #[] lb] w fun e w' => e = .returned (.bool (L.any p)) ∧ Below w.heap.size w w' := by
  have hc := idxEg_any p g lb eg S a len cap L w hl hn hp
  have he : decide (0 ≤ idxB p L) = L.any p := by
    rcases idxB_spec p L with ⟨h1, h2⟩ | ⟨k, x, h1, h2, h3, h4⟩
    · rw [h1, show L.any p = false from List.any_eq_false.2 (fun x hx => by rw [h2 x hx]; simp)]; rfl
    · rw [h1, show L.any p = true from List.any_eq_true.2 ⟨x, List.mem_of_getElem? h2, h3⟩]; simp
  have HC := Lib.hid hc
  have HE := Lib.hid he
  have hge := idxB_ge p L
  clear hc he hl hp
  generalize idxB p L = z at HC HE hge
  go_enter Try.func34, Try.ntmps34
  go_wp2_with (go_at_call 50; refine HC.out.mono ?_; rintro e w' ⟨rfl, hb'⟩)
  go_ret
  exact ⟨by rw [← HE.out]; rfl, hb'⟩
set_option maxHeartbeats 1000000 in
theorem delEg_nil (p : Eg → Bool) (g : Nat) (lb : Array Value) (eg : ∀ args w, (callFunc g args).run Try.prog w = .ok (.enter g args) w) (cap : Nat) (w : World) (hp : PredS Try.prog g lb enEg p (fun _ => False) w) :
    Calls Try.prog 31 #[.slice none 0 cap, .func (.func g) #[] lb] w fun e w' => e = .returned (.slice none 0 cap) ∧ Below w.heap.size w w' := by
  have hsr : Egs w none 0 [] := ⟨rfl, Nat.zero_le _, by simp, fun h => absurd h (by omega)⟩
  have hix := idxEg_any p g lb eg (fun _ => False) none 0 cap [] w hsr (by omega) hp
  have HI := Lib.hid hix
  clear hix hsr hp
  go_enter Try.func31, Try.ntmps31
  go_wp2_with (go_at_call 50; refine HI.out.mono ?_; rintro e w' ⟨rfl, hb'⟩)
  go_ret
  exact ⟨rfl, hb'⟩
set_option maxHeartbeats 4000000 in
theorem delEg_any (p : Eg → Bool) (g : Nat) (lb : Array Value) (eg : ∀ args w, (callFunc g args).run Try.prog w = .ok (.enter g args) w) (h cap : Nat) (L : List Eg) (w : World) (hr : RowAt enEg 40 2 w h cap L) (hok : ∀ x ∈ L, okEg x) (hn : L.length ≤ 1000) (hp : PredS Try.prog g lb enEg p (fun i => i = h) w) :
    Calls Try.prog 31 #[.slice (some ⟨h, 0, none⟩) L.length cap, .func (.func g) #[] lb] w fun e w' => e = .returned (.slice (some ⟨h, 0, none⟩) (L.filter fun x => !p x).length cap) ∧ RowAt enEg 40 2 w' h cap (L.filter fun x => !p x) ∧ Keep (fun i => i = h) w w' := by
  have hSR : Egs w (some ⟨h, 0, none⟩) L.length L := by
    obtain ⟨A, c, he, hs, _⟩ := SR.own (ok := okEg) enEg_len (by omega) (hr.own (base := 0) enEg_len (Nat.zero_le _)) hok
    injection he with h1 _ _
    subst h1
    exact hs
  have hix := idxEg_any p g lb eg (fun i => i = h) _ L.length cap L w hSR hn hp
  have hcl : L.length ≤ cap ∧ cap ≤ maxLen := by obtain ⟨_, _, h2, h3, _⟩ := hr; exact ⟨h2, h3⟩
  have hcm : cap ≤ 9223372036854775807 := by have := hcl.2; unfold maxLen at this; exact this
  have hlc := hcl.1
  clear hSR hcl
  rcases idxB_spec p L with ⟨e1, hall⟩ | ⟨k0, x0, e1, hx0, hq0, hall⟩
  · rw [e1] at hix
    have HI := Lib.hid hix
    have hf : L.filter (fun x => !p x) = L := List.filter_eq_self.2 (fun x hx => by rw [hall x hx]; rfl)
    rw [hf]
    have HR := Lib.hid hr
    clear hix e1 hall hf hr hp
    go_enter Try.func31, Try.ntmps31
    go_wp2_with (go_at_call 50; refine HI.out.mono ?_; rintro e w' ⟨rfl, hb'⟩)
    go_ret
    exact ⟨rfl, HR.out.keep (Keep.of_below hb' (fun _ => False)) (fun h => h), Keep.of_below hb' _⟩
  · rw [e1] at hix
    have HI := Lib.hid hix
    have hk0 : k0 < L.length := (List.getElem?_eq_some_iff.1 hx0).1
    have hne : ((k0 : Int) == -1) = false := beq_eq_false_iff_ne.2 (by omega)
    obtain ⟨q, HQ⟩ : ∃ q : Eg → Bool, Hid (q = fun x => !p x) := ⟨_, Lib.hid rfl⟩
    have hI0 : DelInv q L L k0 (k0 + 1) := DelInv.start hx0 (by rw [HQ.out]; show (!p x0) = false; rw [hq0]; rfl) (fun y hy => by rw [HQ.out]; show (!p y) = true; rw [hall y hy]; rfl)
    have hfin : (L.filter fun x => !p x) = L.filter q := by rw [HQ.out]
    rw [hfin]
    have HR := Lib.hid hr
    have HP := Lib.hid hp
    have HI0 := Lib.hid hI0
    clear hix e1 hall hfin hr hp hx0 hq0 hI0
    go_enter Try.func31, Try.ntmps31
    go_wp2_with (go_at_call 50; refine HI.out.mono ?_; rintro e w1 ⟨rfl, hb1⟩)
    have hR1 := HR.out.keep (Keep.of_below hb1 (fun _ => False)) (fun h => h)
    have hK1 := Keep.of_below hb1 (fun i => i = h)
    clear HR HI
    go_loopw [5, 6, 7] (fun s5 s6 _ wr => ∃ (i j : Nat) (D : List Eg), s5 = .int .i64 i ∧ s6 = .int .i64 j ∧ DelInv q L D i j ∧ RowAt enEg 40 2 wr h cap D ∧ Keep (fun i => i = h) w wr) (fun _ s6 _ _ => L.length - (intOf s6).toNat)
    case atStart => exact ⟨k0, k0 + 1, L, rfl, by go_num, HI0.out, hR1, hK1⟩
    case round =>
      clear hR1 hK1 HI0
      obtain ⟨i, j, D, rfl, rfl, hI, hR, hK⟩ := hrel
      have hij := hI.lt
      have hjl := hI.le
      by_cases hlt : j < L.length
      · have hx : L[j]? = some L[j] := List.getElem?_eq_getElem hlt
        generalize L[j] = x at hx
        have hxD : D[j]? = some x := by rw [hI.at]; exact hx
        obtain ⟨d0, d1⟩ := Eg_row hR hxD
        have hhb := hR.lt
        have hO : Below wr.heap.size wr (wr.alloc (.cells #[.int .i64 x.src, .int .i64 x.dst] 40)) := (Below.refl _ _).alloc (Nat.le_refl _) _
        have hBx := Bk.new wr 40 #[.int .i64 x.src, .int .i64 x.dst]
        have hc := HP.out (wr.alloc (.cells #[.int .i64 x.src, .int .i64 x.dst] 40)) x (Keep.trans hK (Keep.of_below hO _))
        have hRa := hR.keep (Keep.of_below hO (fun _ => False)) (fun h => h)
        have hKa := Keep.trans hK (Keep.of_below hO _)
        have HX := Lib.hid hx
        clear hx hxD hR hK hO
        cases hq : p x with
        | true =>
          rw [hq] at hc
          have HC := Lib.hid hc
          have HQ2 : Hid (q x = false) := Lib.hid (by rw [HQ.out]; show (!p x) = false; rw [hq]; rfl)
          clear hc hq
          have b0 := hBx.cell 0
          have b1 := hBx.cell 1
          go_wp2_with (go_at_fn g; refine HC.out.mono ?_; rintro e w' ⟨rfl, hb'⟩)
          go_roundw
          case rel => exact ⟨i, j + 1, D, rfl, by go_num, hI.skip HX.out HQ2.out, hRa.keep (Keep.of_below hb' (fun _ => False)) (fun h => h), Keep.trans hKa (Keep.of_below hb' _)⟩
          case measure => simp [intOf]; omega
        | false =>
          rw [hq] at hc
          have HC := Lib.hid hc
          have HQ2 : Hid (q x = true) := Lib.hid (by rw [HQ.out]; show (!p x) = true; rw [hq]; rfl)
          have hDl := hI.len
          have hi : i < D.length := by omega
          have hy : D[i]? = some D[i] := List.getElem?_eq_getElem hi
          generalize D[i] = y at hy
          have HY := Lib.hid hy
          have HIL := Lib.hid hDl
          clear hc hq hy hDl
          have b0 := hBx.cell 0
          have b1 := hBx.cell 1
          go_wp2_with (go_at_fn g; refine HC.out.mono ?_; rintro e w' ⟨rfl, hb'⟩; have hRb := hRa.keep (Keep.of_below hb' (fun _ => False)) (fun h => h); have hKb := Keep.trans hKa (Keep.of_below hb' _); have hBb := hBx.below hb'; obtain ⟨e0, e1⟩ := Eg_row hRb HY.out; have f0 := hRb.frozen (i * 2); have f1 := hRb.frozen (i * 2 + 1); have g0 := hBb.cell 0; have g1 := hBb.cell 1; clear hRa hKa hBx)
          have hRc := hRb.stored enEg_len hi x
          have hKc : Keep (fun i => i = h) w (setsFrom w' h (i * 2) (enEg x)) := Keep.trans hKb (Keep.trans (Keep.set _ _ _ _ _ rfl) (Keep.set _ _ _ _ _ rfl))
          go_roundw
          case rel => exact ⟨i + 1, j + 1, D.set i x, by go_num, by go_num, hI.keep HX.out HQ2.out, hRc, hKc⟩
          case measure => simp [intOf]; omega
      · obtain rfl : j = L.length := by omega
        have hDl := hI.len
        have hil : i < L.length := hij
        obtain ⟨vs, hvl, hrun⟩ := run_clear_rec (P := Try.prog) wr 37 40 0 (.agg #[.int .i64 0, .int .i64 0]) 2 Try.underlying37 (Try.zeroValue40) rfl (by simp [Value.cells, Value.oneCell']) h (i * 2) (L.length - i) (cap - i) (by omega) (by omega)
          (fun t ht => by
            obtain ⟨cur, h1, h2, h3, h4, h5⟩ := hR
            rw [cell_of_row wr h _ cur 40 (0, 0) h1]
            have : i * 2 + t < cur.size := by rw [h4]; omega
            rw [Array.getElem?_eq_getElem this]; rfl)
          (fun t ht => hR.frozen _)
        have hRc := hR.cut enEg_len i (by omega) (i * 2) (Nat.le_refl _) vs (by rw [hvl]; omega)
        have hKc : Keep (fun i => i = h) w (wr.setCells h (i * 2) vs) := Keep.trans hK (Keep.setCells (S := fun i => i = h) h rfl _ _ _)
        have hfl := hI.done rfl
        have hfn : (L.filter q).length = i := by rw [← hfl, List.length_take]; omega
        rw [hfl] at hRc
        have HRC := Lib.hid hRc
        have HFN := Lib.hid hfn
        clear hRc hvl hDl hR hI hK hfl hfn
        go_wp2
        go_ret
        exact ⟨by rw [HFN.out]; rfl, HRC.out, hKc⟩
end Go.Proofs.Ytjenchijenkndaa
