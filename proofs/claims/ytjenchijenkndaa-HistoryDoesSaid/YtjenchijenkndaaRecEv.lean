/- Records of type api.Event: their cells, slices of them, and the library's functions over such slices. No condition. -/
import Derived.Test.YtjenchijenkndaaRecF
import Derived.WalkSpells
import Derived.Lib.SliceRun
set_option linter.unusedVariables false
set_option linter.unusedSimpArgs false
namespace Go.Proofs.Ytjenchijenkndaa
open Go.RowKit (wrap32 wrap64)
open Go.RowKit
structure Ev where
  kind : Int
  tx : Int
  n0 : Int
  n1 : Int
  n2 : Int
  n3 : Int
  dep : Int
  mode : Int
  val : Int
  rows : Option Addr × Nat × Nat
  err : Int
  deriving DecidableEq, Inhabited
def enEv (x : Ev) : List Value := [.int .i64 x.kind, .int .i64 x.tx, .int .i64 x.n0, .int .i64 x.n1, .int .i64 x.n2, .int .i64 x.n3, .int .i64 x.dep, .int .i64 x.mode, .int .i64 x.val, .slice x.rows.1 x.rows.2.1 x.rows.2.2, .int .i64 x.err]
def ksEv : List CK := [.int .i64, .int .i64, .int .i64, .int .i64, .int .i64, .int .i64, .int .i64, .int .i64, .int .i64, .slice, .int .i64]
def okEv (x : Ev) : Prop := (Lit.int .i64 x.kind).wf = true ∧ (Lit.int .i64 x.tx).wf = true ∧ (Lit.int .i64 x.n0).wf = true ∧ (Lit.int .i64 x.n1).wf = true ∧ (Lit.int .i64 x.n2).wf = true ∧ (Lit.int .i64 x.n3).wf = true ∧ (Lit.int .i64 x.dep).wf = true ∧ (Lit.int .i64 x.mode).wf = true ∧ (Lit.int .i64 x.val).wf = true ∧ x.rows.2.1 ≤ maxLen ∧ (Lit.int .i64 x.err).wf = true
instance (x : Ev) : Decidable (okEv x) := by unfold okEv; infer_instance
theorem enEv_len (x : Ev) : (enEv x).length = 11 := rfl
theorem enEv_one : ∀ x, ∀ u ∈ enEv x, u.oneCell' = true := by
  intro x u hu
  unfold enEv at hu
  simp only [List.mem_cons, List.not_mem_nil, or_false] at hu
  rcases hu with rfl | rfl | rfl | rfl | rfl | rfl | rfl | rfl | rfl | rfl | rfl <;> rfl
theorem decEv (c : List Value) (hl : c.length = ksEv.length) (h : PW ksEv c) : ∃ x : Ev, c = enEv x ∧ okEv x := by
  match c, hl with
  | [v0, v1, v2, v3, v4, v5, v6, v7, v8, v9, v10], _ =>
    obtain ⟨n0, rfl, w0⟩ := h 0 _ v0 rfl rfl
    obtain ⟨n1, rfl, w1⟩ := h 1 _ v1 rfl rfl
    obtain ⟨n2, rfl, w2⟩ := h 2 _ v2 rfl rfl
    obtain ⟨n3, rfl, w3⟩ := h 3 _ v3 rfl rfl
    obtain ⟨n4, rfl, w4⟩ := h 4 _ v4 rfl rfl
    obtain ⟨n5, rfl, w5⟩ := h 5 _ v5 rfl rfl
    obtain ⟨n6, rfl, w6⟩ := h 6 _ v6 rfl rfl
    obtain ⟨n7, rfl, w7⟩ := h 7 _ v7 rfl rfl
    obtain ⟨n8, rfl, w8⟩ := h 8 _ v8 rfl rfl
    obtain ⟨a9, l9, c9, rfl, w9, w9m⟩ := h 9 _ v9 rfl rfl
    obtain ⟨n10, rfl, w10⟩ := h 10 _ v10 rfl rfl
    exact ⟨⟨n0, n1, n2, n3, n4, n5, n6, n7, n8, (a9, l9, c9), n10⟩, rfl, w0, w1, w2, w3, w4, w5, w6, w7, w8, Nat.le_trans w9 w9m, w10⟩
abbrev Evs (w : World) (a : Option Addr) (n : Nat) (L : List Ev) : Prop := SR enEv okEv 11 w a n L
theorem Ev_at {w : World} {a : Option Addr} {n : Nat} {L : List Ev} (h : Evs w a n L) {i : Nat} (hi : i < n) : ∃ b off, ∃ x : Ev, a = some ⟨b, off, none⟩ ∧ b < w.heap.size ∧ L[i]? = some x ∧ okEv x ∧ w.cell? ⟨b, off + i * 11, none⟩ = some (.int .i64 x.kind) ∧ w.cell? ⟨b, off + i * 11 + 1, none⟩ = some (.int .i64 x.tx) ∧ w.cell? ⟨b, off + i * 11 + 2, none⟩ = some (.int .i64 x.n0) ∧ w.cell? ⟨b, off + i * 11 + 3, none⟩ = some (.int .i64 x.n1) ∧ w.cell? ⟨b, off + i * 11 + 4, none⟩ = some (.int .i64 x.n2) ∧ w.cell? ⟨b, off + i * 11 + 5, none⟩ = some (.int .i64 x.n3) ∧ w.cell? ⟨b, off + i * 11 + 6, none⟩ = some (.int .i64 x.dep) ∧ w.cell? ⟨b, off + i * 11 + 7, none⟩ = some (.int .i64 x.mode) ∧ w.cell? ⟨b, off + i * 11 + 8, none⟩ = some (.int .i64 x.val) ∧ w.cell? ⟨b, off + i * 11 + 9, none⟩ = some (.slice x.rows.1 x.rows.2.1 x.rows.2.2) ∧ w.cell? ⟨b, off + i * 11 + 10, none⟩ = some (.int .i64 x.err) := by
  obtain ⟨b, off, x, ha, hb, hx, hk, hc⟩ := h.get enEv_len hi
  exact ⟨b, off, x, ha, hb, hx, hk, hc 0 (by omega), hc 1 (by omega), hc 2 (by omega), hc 3 (by omega), hc 4 (by omega), hc 5 (by omega), hc 6 (by omega), hc 7 (by omega), hc 8 (by omega), hc 9 (by omega), hc 10 (by omega)⟩
theorem Ev_row {w : World} {E h cap : Nat} {D : List Ev} (r : RowAt enEv E 11 w h cap D) {i : Nat} {x : Ev} (hx : D[i]? = some x) : w.cell? ⟨h, i * 11, none⟩ = some (.int .i64 x.kind) ∧ w.cell? ⟨h, i * 11 + 1, none⟩ = some (.int .i64 x.tx) ∧ w.cell? ⟨h, i * 11 + 2, none⟩ = some (.int .i64 x.n0) ∧ w.cell? ⟨h, i * 11 + 3, none⟩ = some (.int .i64 x.n1) ∧ w.cell? ⟨h, i * 11 + 4, none⟩ = some (.int .i64 x.n2) ∧ w.cell? ⟨h, i * 11 + 5, none⟩ = some (.int .i64 x.n3) ∧ w.cell? ⟨h, i * 11 + 6, none⟩ = some (.int .i64 x.dep) ∧ w.cell? ⟨h, i * 11 + 7, none⟩ = some (.int .i64 x.mode) ∧ w.cell? ⟨h, i * 11 + 8, none⟩ = some (.int .i64 x.val) ∧ w.cell? ⟨h, i * 11 + 9, none⟩ = some (.slice x.rows.1 x.rows.2.1 x.rows.2.2) ∧ w.cell? ⟨h, i * 11 + 10, none⟩ = some (.int .i64 x.err) := by
  have hc := fun j hj => r.cell enEv_len hx j hj
  exact ⟨hc 0 (by omega), hc 1 (by omega), hc 2 (by omega), hc 3 (by omega), hc 4 (by omega), hc 5 (by omega), hc 6 (by omega), hc 7 (by omega), hc 8 (by omega), hc 9 (by omega), hc 10 (by omega)⟩
theorem Try.infoEv : (Try.prog.info? 31).map (fun i => (i.zero, i.size, i.bytes)) = some (some (.agg #[.int .i64 0, .int .i64 0, .int .i64 0, .int .i64 0, .int .i64 0, .int .i64 0, .int .i64 0, .int .i64 0, .int .i64 0, .slice none 0 0, .int .i64 0]), 11, 104) := by kernel_rfl
set_option maxRecDepth 100000 in
set_option maxHeartbeats 1000000 in
theorem cloneEv_any (a : Option Addr) (len cap : Nat) (L : List Ev) (w : World) (hl : Evs w a len L) (hnil : a = none → len = 0 ∧ cap = 0) (hn : len ≤ 1000) :
    Calls Try.prog 43 #[.slice a len cap] w (OwnRet enEv 31 11 w L) := by
  have hll := hl.len
  obtain ⟨i0, hi, hz0, hz1, hz2⟩ := info_parts Try.infoEv
  have q22 := fun (w : World) (a : Option Addr) (n c n' c' : Nat) => Lib.run_eql_slice_nil (P := Try.prog) w 22 31 a n c n' c' Try.underlying22
  cases a with
  | none =>
    obtain ⟨rfl, rfl⟩ := hnil rfl
    obtain rfl : L = [] := List.eq_nil_of_length_eq_zero hll
    have hret : ∀ W, W = w → OwnRet enEv 31 11 w [] (.returned (.slice none 0 0)) W := fun W h => by subst h; exact ⟨_, rfl, World.ownsRow_nil _ _ _ _, Below.refl _ _⟩
    clear hl hnil hll
    go_enter Try.func43, Try.ntmps43
    go_wp2
    go_ret
    exact hret _ rfl
  | some ad =>
    have hE := own_empty (enc := enEv) (s := 11) w w.heap.size 31 (Nat.le_refl _)
    have hB0 : Below w.heap.size w (w.alloc (.cells #[] 31)) := (Below.refl _ _).alloc (Nat.le_refl _) _
    have hl1 := hl.below hB0
    have hret : ∀ v W, W.ownsRow w.heap.size 31 11 v len (flatV enEv L) → Below w.heap.size w W → OwnRet enEv 31 11 w L (.returned v) W := fun v W h hb => ⟨v, rfl, by rw [hll]; exact h, hb⟩
    have HL := Lib.hid hll
    clear hl hnil hll
    go_enter Try.func43, Try.ntmps43
    go_wp2_with (at_builtin; refine wpList_append_sr enEv_len (by omega) enEv_one rfl _ _ 22 rfl w.heap.size 31 i0 _ 104 Try.underlying22 hi hz0 hz1 hz2 rfl _ 0 [] rfl hE _ len cap L rfl hl1 (by intro h; cases h) (by unfold maxLen; omega) (by omega) (by simp) ?_; intro v' w2 hown' hgr'; rw [Nat.zero_add, List.nil_append] at hown'; have HB2 := hB0.grown hgr' (by simp) (fun k h => (hE.lt k h).1))
    go_ret
    exact hret _ _ hown' HB2
set_option maxHeartbeats 1000000 in
theorem idxEv_any (p : Ev → Bool) (g : Nat) (lb : Array Value) (eg : ∀ args w, (callFunc g args).run Try.prog w = .ok (.enter g args) w) (S : Nat → Prop) (a : Option Addr) (len cap : Nat) (L : List Ev) (w : World) (hl : Evs w a len L) (hn : len ≤ 1000) (hp : PredS Try.prog g lb enEv p S w) :
    Calls Try.prog 52 #[.slice a len cap, .func (.func g) #[] lb] w fun e w' => e = .returned (.int .i64 (idxB p L)) ∧ Below w.heap.size w w' := by
  have hll := hl.len
  have HLL := Lib.hid hll
  have HP := Lib.hid hp
  clear hll hp
  go_enter Try.func52, Try.ntmps52
  go_wp2
  go_loopw [5, 8] (fun _ c wr => ∃ k : Nat, k ≤ len ∧ c = .int .i64 k ∧ Below w.heap.size w wr ∧ Hid (∀ y ∈ L.take k, p y = false)) (fun _ c _ => len - (intOf c).toNat)
  case atStart => exact ⟨0, by omega, rfl, Below.refl _ _, Lib.hid (by simp)⟩
  case round =>
    obtain ⟨k, hk, rfl, HB, HN⟩ := hrel
    by_cases hlt : k < len
    · obtain ⟨b, off, x, rfl, _, hx, _, d0, d1, d2, d3, d4, d5, d6, d7, d8, d9, d10⟩ := Ev_at (hl.below HB) hlt
      have hc := HP.out wr x (Keep.of_below HB S)
      have HX := Lib.hid hx
      clear hx hl
      cases hq : p x with
      | true =>
        rw [hq] at hc
        have HC := Lib.hid hc
        have HQ := Lib.hid hq
        clear hc hq
        go_wp2_with (go_at_fn g; refine HC.out.mono ?_; rintro e w' ⟨rfl, hb'⟩)
        go_ret
        exact ⟨by rw [idxB_hit p L k x HX.out HQ.out HN.out]; rfl, bl_then HB (Nat.le_refl _) hb'⟩
      | false =>
        rw [hq] at hc
        have HC := Lib.hid hc
        have HQ := Lib.hid hq
        clear hc hq
        go_wp2_with (go_at_fn g; refine HC.out.mono ?_; rintro e w' ⟨rfl, hb'⟩)
        go_roundw
        case rel =>
          refine ⟨k + 1, by omega, by go_num, bl_then HB (Nat.le_refl _) hb', Lib.hid ?_⟩
          rw [take_snocG L k x HX.out]
          intro y hy
          rcases List.mem_append.1 hy with hy | hy
          · exact HN.out y hy
          · rw [List.mem_singleton.1 hy]; exact HQ.out
        case measure => simp [intOf]; omega
    · obtain rfl : k = len := by omega
      go_wp2
      go_ret
      exact ⟨by rw [idxB_miss p L (by have := HN.out; rw [List.take_of_length_le (by rw [HLL.out]; exact Nat.le_refl _)] at this; exact this)]; rfl, HB⟩
set_option maxHeartbeats 1000000 in
theorem delEv_nil (p : Ev → Bool) (g : Nat) (lb : Array Value) (eg : ∀ args w, (callFunc g args).run Try.prog w = .ok (.enter g args) w) (cap : Nat) (w : World) (hp : PredS Try.prog g lb enEv p (fun _ => False) w) :
    Calls Try.prog 42 #[.slice none 0 cap, .func (.func g) #[] lb] w fun e w' => e = .returned (.slice none 0 cap) ∧ Below w.heap.size w w' := by
  have hsr : Evs w none 0 [] := ⟨rfl, Nat.zero_le _, by simp, fun h => absurd h (by omega)⟩
  have hix := idxEv_any p g lb eg (fun _ => False) none 0 cap [] w hsr (by omega) hp
  have HI := Lib.hid hix
  clear hix hsr hp
  go_enter Try.func42, Try.ntmps42
  go_wp2_with (go_at_call 52; refine HI.out.mono ?_; rintro e w' ⟨rfl, hb'⟩)
  go_ret
  exact ⟨rfl, hb'⟩
set_option maxHeartbeats 4000000 in
theorem delEv_any (p : Ev → Bool) (g : Nat) (lb : Array Value) (eg : ∀ args w, (callFunc g args).run Try.prog w = .ok (.enter g args) w) (h cap : Nat) (L : List Ev) (w : World) (hr : RowAt enEv 31 11 w h cap L) (hok : ∀ x ∈ L, okEv x) (hn : L.length ≤ 1000) (hp : PredS Try.prog g lb enEv p (fun i => i = h) w) :
    Calls Try.prog 42 #[.slice (some ⟨h, 0, none⟩) L.length cap, .func (.func g) #[] lb] w fun e w' => e = .returned (.slice (some ⟨h, 0, none⟩) (L.filter fun x => !p x).length cap) ∧ RowAt enEv 31 11 w' h cap (L.filter fun x => !p x) ∧ Keep (fun i => i = h) w w' := by
  have hSR : Evs w (some ⟨h, 0, none⟩) L.length L := by
    obtain ⟨A, c, he, hs, _⟩ := SR.own (ok := okEv) enEv_len (by omega) (hr.own (base := 0) enEv_len (Nat.zero_le _)) hok
    injection he with h1 _ _
    subst h1
    exact hs
  have hix := idxEv_any p g lb eg (fun i => i = h) _ L.length cap L w hSR hn hp
  have hcl : L.length ≤ cap ∧ cap ≤ maxLen := by obtain ⟨_, _, h2, h3, _⟩ := hr; exact ⟨h2, h3⟩
  have hcm : cap ≤ 9223372036854775807 := by have := hcl.2; unfold maxLen at this; exact this
  have hlc := hcl.1
  clear hSR hcl
  rcases idxB_spec p L with ⟨e1, hall⟩ | ⟨k0, x0, e1, hx0, hq0, hall⟩
  · rw [e1] at hix
    have HI := Lib.hid hix
    have hf : L.filter (fun x => !p x) = L := List.filter_eq_self.2 (fun x hx => by rw [hall x hx]; rfl)
    rw [hf]
    have HR := Lib.hid hr
    clear hix e1 hall hf hr hp
    go_enter Try.func42, Try.ntmps42
    go_wp2_with (go_at_call 52; refine HI.out.mono ?_; rintro e w' ⟨rfl, hb'⟩)
    go_ret
    exact ⟨rfl, HR.out.keep (Keep.of_below hb' (fun _ => False)) (fun h => h), Keep.of_below hb' _⟩
  · rw [e1] at hix
    have HI := Lib.hid hix
    have hk0 : k0 < L.length := (List.getElem?_eq_some_iff.1 hx0).1
    have hne : ((k0 : Int) == -1) = false := beq_eq_false_iff_ne.2 (by omega)
    obtain ⟨q, HQ⟩ : ∃ q : Ev → Bool, Hid (q = fun x => !p x) := ⟨_, Lib.hid rfl⟩
    have hI0 : DelInv q L L k0 (k0 + 1) := DelInv.start hx0 (by rw [HQ.out]; show (!p x0) = false; rw [hq0]; rfl) (fun y hy => by rw [HQ.out]; show (!p y) = true; rw [hall y hy]; rfl)
    have hfin : (L.filter fun x => !p x) = L.filter q := by rw [HQ.out]
    rw [hfin]
    have HR := Lib.hid hr
    have HP := Lib.hid hp
    have HI0 := Lib.hid hI0
    clear hix e1 hall hfin hr hp hx0 hq0 hI0
    go_enter Try.func42, Try.ntmps42
    go_wp2_with (go_at_call 52; refine HI.out.mono ?_; rintro e w1 ⟨rfl, hb1⟩)
    have hR1 := HR.out.keep (Keep.of_below hb1 (fun _ => False)) (fun h => h)
    have hK1 := Keep.of_below hb1 (fun i => i = h)
    clear HR HI
    go_loopw [5, 6, 7] (fun s5 s6 _ wr => ∃ (i j : Nat) (D : List Ev), s5 = .int .i64 i ∧ s6 = .int .i64 j ∧ DelInv q L D i j ∧ RowAt enEv 31 11 wr h cap D ∧ Keep (fun i => i = h) w wr) (fun _ s6 _ _ => L.length - (intOf s6).toNat)
    case atStart => exact ⟨k0, k0 + 1, L, rfl, by go_num, HI0.out, hR1, hK1⟩
    case round =>
      clear hR1 hK1 HI0
      obtain ⟨i, j, D, rfl, rfl, hI, hR, hK⟩ := hrel
      have hij := hI.lt
      have hjl := hI.le
      by_cases hlt : j < L.length
      · have hx : L[j]? = some L[j] := List.getElem?_eq_getElem hlt
        generalize L[j] = x at hx
        have hxD : D[j]? = some x := by rw [hI.at]; exact hx
        obtain ⟨d0, d1, d2, d3, d4, d5, d6, d7, d8, d9, d10⟩ := Ev_row hR hxD
        have hhb := hR.lt
        have hO : Below wr.heap.size wr (wr.alloc (.cells #[.int .i64 x.kind, .int .i64 x.tx, .int .i64 x.n0, .int .i64 x.n1, .int .i64 x.n2, .int .i64 x.n3, .int .i64 x.dep, .int .i64 x.mode, .int .i64 x.val, .slice x.rows.1 x.rows.2.1 x.rows.2.2, .int .i64 x.err] 31)) := (Below.refl _ _).alloc (Nat.le_refl _) _
        have hBx := Bk.new wr 31 #[.int .i64 x.kind, .int .i64 x.tx, .int .i64 x.n0, .int .i64 x.n1, .int .i64 x.n2, .int .i64 x.n3, .int .i64 x.dep, .int .i64 x.mode, .int .i64 x.val, .slice x.rows.1 x.rows.2.1 x.rows.2.2, .int .i64 x.err]
        have hc := HP.out (wr.alloc (.cells #[.int .i64 x.kind, .int .i64 x.tx, .int .i64 x.n0, .int .i64 x.n1, .int .i64 x.n2, .int .i64 x.n3, .int .i64 x.dep, .int .i64 x.mode, .int .i64 x.val, .slice x.rows.1 x.rows.2.1 x.rows.2.2, .int .i64 x.err] 31)) x (Keep.trans hK (Keep.of_below hO _))
        have hRa := hR.keep (Keep.of_below hO (fun _ => False)) (fun h => h)
        have hKa := Keep.trans hK (Keep.of_below hO _)
        have HX := Lib.hid hx
        clear hx hxD hR hK hO
        cases hq : p x with
        | true =>
          rw [hq] at hc
          have HC := Lib.hid hc
          have HQ2 : Hid (q x = false) := Lib.hid (by rw [HQ.out]; show (!p x) = false; rw [hq]; rfl)
          clear hc hq
          have b0 := hBx.cell 0
          have b1 := hBx.cell 1
          have b2 := hBx.cell 2
          have b3 := hBx.cell 3
          have b4 := hBx.cell 4
          have b5 := hBx.cell 5
          have b6 := hBx.cell 6
          have b7 := hBx.cell 7
          have b8 := hBx.cell 8
          have b9 := hBx.cell 9
          have b10 := hBx.cell 10
          go_wp2_with (go_at_fn g; refine HC.out.mono ?_; rintro e w' ⟨rfl, hb'⟩)
          go_roundw
          case rel => exact ⟨i, j + 1, D, rfl, by go_num, hI.skip HX.out HQ2.out, hRa.keep (Keep.of_below hb' (fun _ => False)) (fun h => h), Keep.trans hKa (Keep.of_below hb' _)⟩
          case measure => simp [intOf]; omega
        | false =>
          rw [hq] at hc
          have HC := Lib.hid hc
          have HQ2 : Hid (q x = true) := Lib.hid (by rw [HQ.out]; show (!p x) = true; rw [hq]; rfl)
          have hDl := hI.len
          have hi : i < D.length := by omega
          have hy : D[i]? = some D[i] := List.getElem?_eq_getElem hi
          generalize D[i] = y at hy
          have HY := Lib.hid hy
          have HIL := Lib.hid hDl
          clear hc hq hy hDl
          have b0 := hBx.cell 0
          have b1 := hBx.cell 1
          have b2 := hBx.cell 2
          have b3 := hBx.cell 3
          have b4 := hBx.cell 4
          have b5 := hBx.cell 5
          have b6 := hBx.cell 6
          have b7 := hBx.cell 7
          have b8 := hBx.cell 8
          have b9 := hBx.cell 9
          have b10 := hBx.cell 10
          go_wp2_with (go_at_fn g; refine HC.out.mono ?_; rintro e w' ⟨rfl, hb'⟩; have hRb := hRa.keep (Keep.of_below hb' (fun _ => False)) (fun h => h); have hKb := Keep.trans hKa (Keep.of_below hb' _); have hBb := hBx.below hb'; obtain ⟨e0, e1, e2, e3, e4, e5, e6, e7, e8, e9, e10⟩ := Ev_row hRb HY.out; have f0 := hRb.frozen (i * 11); have f1 := hRb.frozen (i * 11 + 1); have f2 := hRb.frozen (i * 11 + 2); have f3 := hRb.frozen (i * 11 + 3); have f4 := hRb.frozen (i * 11 + 4); have f5 := hRb.frozen (i * 11 + 5); have f6 := hRb.frozen (i * 11 + 6); have f7 := hRb.frozen (i * 11 + 7); have f8 := hRb.frozen (i * 11 + 8); have f9 := hRb.frozen (i * 11 + 9); have f10 := hRb.frozen (i * 11 + 10); have g0 := hBb.cell 0; have g1 := hBb.cell 1; have g2 := hBb.cell 2; have g3 := hBb.cell 3; have g4 := hBb.cell 4; have g5 := hBb.cell 5; have g6 := hBb.cell 6; have g7 := hBb.cell 7; have g8 := hBb.cell 8; have g9 := hBb.cell 9; have g10 := hBb.cell 10; clear hRa hKa hBx)
          have hRc := hRb.stored enEv_len hi x
          have hKc : Keep (fun i => i = h) w (setsFrom w' h (i * 11) (enEv x)) := Keep.trans hKb (Keep.trans (Keep.trans (Keep.trans (Keep.trans (Keep.trans (Keep.trans (Keep.trans (Keep.trans (Keep.trans (Keep.trans (Keep.set _ _ _ _ _ rfl) (Keep.set _ _ _ _ _ rfl)) (Keep.set _ _ _ _ _ rfl)) (Keep.set _ _ _ _ _ rfl)) (Keep.set _ _ _ _ _ rfl)) (Keep.set _ _ _ _ _ rfl)) (Keep.set _ _ _ _ _ rfl)) (Keep.set _ _ _ _ _ rfl)) (Keep.set _ _ _ _ _ rfl)) (Keep.set _ _ _ _ _ rfl)) (Keep.set _ _ _ _ _ rfl))
          go_roundw
          case rel => exact ⟨i + 1, j + 1, D.set i x, by go_num, by go_num, hI.keep HX.out HQ2.out, hRc, hKc⟩
          case measure => simp [intOf]; omega
      · obtain rfl : j = L.length := by omega
        have hDl := hI.len
        have hil : i < L.length := hij
        obtain ⟨vs, hvl, hrun⟩ := run_clear_rec (P := Try.prog) wr 22 31 0 (.agg #[.int .i64 0, .int .i64 0, .int .i64 0, .int .i64 0, .int .i64 0, .int .i64 0, .int .i64 0, .int .i64 0, .int .i64 0, .slice none 0 0, .int .i64 0]) 11 Try.underlying22 (Try.zeroValue31) rfl (by simp [Value.cells, Value.oneCell']) h (i * 11) (L.length - i) (cap - i) (by omega) (by omega)
          (fun t ht => by
            obtain ⟨cur, h1, h2, h3, h4, h5⟩ := hR
            rw [cell_of_row wr h _ cur 31 (0, 0) h1]
            have : i * 11 + t < cur.size := by rw [h4]; omega
            rw [Array.getElem?_eq_getElem this]; rfl)
          (fun t ht => hR.frozen _)
        have hRc := hR.cut enEv_len i (by omega) (i * 11) (Nat.le_refl _) vs (by rw [hvl]; omega)
        have hKc : Keep (fun i => i = h) w (wr.setCells h (i * 11) vs) := Keep.trans hK (Keep.setCells (S := fun i => i = h) h rfl _ _ _)
        have hfl := hI.done rfl
        have hfn : (L.filter q).length = i := by rw [← hfl, List.length_take]; omega
        rw [hfl] at hRc
        have HRC := Lib.hid hRc
        have HFN := Lib.hid hfn
        clear hRc hvl hDl hR hI hK hfl hfn
        go_wp2
        go_ret
        exact ⟨by rw [HFN.out]; rfl, HRC.out, hKc⟩
end Go.Proofs.Ytjenchijenkndaa
