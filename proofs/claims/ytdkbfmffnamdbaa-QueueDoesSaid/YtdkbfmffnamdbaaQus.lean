/- queue: sweep. No condition. -/
import Derived.Test.YtdkbfmffnamdbaaQur
import Derived.Test.YtdkbfmffnamdbaaApp
import Derived.Deep.RegionWith
import Derived.BigQuiet
set_option linter.unusedVariables false
set_option linter.unusedSimpArgs false
namespace Go.Proofs.Ytdkbfmffnamdbaa
open Go.RowKit (wrap32 wrap64)
open Go.RowKit Go.Shelf Go.Sort
theorem wp_scope_jumps2 {P : Program} {a : Act} {w : World} {Q : Exit → Act → World → Prop} {c rest : Code} (l : Nat) (J : Act → World → Prop) (μ : Act → World → Nat) (hf : findLabel c l = some (Code.skip.seq rest))
    (pass : ∀ a w, J a w → rest.wp P (Exit.jump l (fun a' w' => J a' w' ∧ μ a' w' < μ a w) Q) a w)
    (first : (∀ a w, J a w → rest.wp P (Exit.jump l J Q) a w) → c.wp P (Exit.jump l J Q) a w) : (Code.scope c).wp P Q a w :=
  wp_scope_jumps l J μ hf (first fun a w h => Code.wp_mono (fun e a' w' he => by
    cases e with
    | goto l' => exact ⟨he.1, he.2.1⟩
    | _ => exact he) (pass a w h)) (fun a w h => wp_seq (wp_skip (pass a w h)))
def slLen : Value → Nat
  | .slice _ n _ => n
  | _ => 0
abbrev sfr (q : Nat) (A : Option Addr) (k c : Nat) (u : Nat → Value) : Array Value := #[.pointer (some ⟨q, 0, none⟩), u 1, u 2, .slice A k c, u 4, u 5, u 6, u 7, u 8, u 9, u 10, u 11, u 12, u 13, u 14, u 15, u 16, u 17, u 18, u 19, u 20, u 21, u 22, u 23, u 24, u 25, u 26, u 27, u 28, u 29, u 30, u 31, u 32, u 33, u 34, u 35, u 36, u 37, u 38, u 39, u 40, u 41, u 42, u 43, u 44, u 45, u 46, u 47, u 48, u 49, u 50, u 51, u 52, u 53, u 54, u 55, u 56]
/-- A queue with its two slices named. -/
def QB (w : World) (q : Nat) (vH vW : Value) (H : List Hd) (W : List Wt) : Prop := Bk w q 29 #[vH, vW] ∧ SF enHd okHd 2 82 w vH H ∧ SF enWt okWt 4 37 w vW W
theorem QB.qa {w : World} {q : Nat} {vH vW : Value} {H : List Hd} {W : List Wt} (h : QB w q vH vW H W) : QA w q H W := ⟨vH, vW, h⟩
theorem SF.keepB {α : Type} {enc : α → List Value} {ok : α → Prop} {s : Nat} {E : TypeId} {S : Nat → Prop} {w w1 : World} {v : Value} {L : List α} (h : SF enc ok s E w v L) (k : Keep S w w1) (hS : ∀ i, S i → v.ownBlock ≠ some i) : SF enc ok s E w1 v L := by
  obtain ⟨a, n, c, rfl, hs, hc, ht⟩ := h
  have hn : ∀ x, a = some x → ¬ S x.block := fun x hx hSx => hS _ hSx (by rw [hx]; rfl)
  exact ⟨a, n, c, rfl, hs.keep k hn, hc, fun x hx => (ht x hx).imp fun cs hb => k.bk hb (hn x hx)⟩
theorem QB.below {w w1 : World} {q : Nat} {vH vW : Value} {H : List Hd} {W : List Wt} (h : QB w q vH vW H W) (b : Below w.heap.size w w1) : QB w1 q vH vW H W := ⟨h.1.below b, h.2.1.below b, h.2.2.below b⟩
theorem SF.blk {α : Type} {enc : α → List Value} {ok : α → Prop} {s : Nat} {E : TypeId} {w : World} {v : Value} {L : List α} (h : SF enc ok s E w v L) : ∀ b, v.ownBlock = some b → ∃ cs, Bk w b E cs := by
  obtain ⟨a, n, c, rfl, hs, hc, ht⟩ := h
  intro b hb
  cases a with
  | none => cases hb
  | some x => injection hb with hb; subst hb; exact ht x rfl
/-- What the sweep has done so far: o is granted, H and W are left. -/
structure SwI (R : Told) (q : Nat) (w : World) (n : Nat) (W : World) (o : List Wt) (A : Option Addr) (c : Nat) (vH vW : Value) (H : List Hd) (Wl : List Wt) : Prop where
  own : W.ownsRow w.heap.size 37 4 (.slice A o.length c) o.length (flatV enWt o)
  qb : QB W q vH vW H Wl
  dis : ∀ b, (Value.slice A o.length c).ownBlock = some b → vW.ownBlock ≠ some b
  kp : Keep (fun i => i = q) w W
  lq : q < w.heap.size
  len : o.length + Wl.length = n
  bd : H.length + Wl.length ≤ 900
  n9 : n ≤ 900
  e1 : R.o = o ++ (sweepT H Wl).o
  e2 : R.H = (sweepT H Wl).H
  e3 : R.W = (sweepT H Wl).W
def SJ (R : Told) (q : Nat) (w : World) (n : Nat) (a : Act) (W : World) : Prop := ∃ o A c vH vW H Wl u, a = { tmps := sfr q A o.length c u, defers := [] } ∧ SwI R q w n W o A c vH vW H Wl
theorem SJ.mk {R : Told} {q : Nat} {w W : World} {n k c : Nat} {A : Option Addr} {o : List Wt} {vH vW : Value} {H : List Hd} {Wl : List Wt} {T : Array Value} (hk : k = o.length) (h : T = sfr q A k c (fun k => T.getD k undef)) (hI : SwI R q w n W o A c vH vW H Wl) : SJ R q w n { tmps := T, defers := [] } W := ⟨o, A, c, vH, vW, H, Wl, _, by rw [← hk, ← h], hI⟩
def SweepRet (q : Nat) (w : World) (r : Told) (e : Ending) (w' : World) : Prop := ∃ v, e = .returned v ∧ w'.ownsRow w.heap.size 37 4 v r.o.length (flatV enWt r.o) ∧ QA w' q r.H r.W ∧ Keep (fun i => i = q) w w'
/-- One more is granted: the row of those that are left is new, the queue's cell holds it. -/
theorem SwI.next {R : Told} {q : Nat} {w W W1 W2 : World} {n c h cap : Nat} {o : List Wt} {A : Option Addr} {vH vW : Value} {H : List Hd} {x : Wt} {Wl : List Wt} (I : SwI R q w n W o A c vH vW H (x :: Wl)) (b : Below W.heap.size W W1) (r : RowAt enWt 37 4 W2 h cap Wl) (hh : W.heap.size ≤ h) (k : Keep (fun i => i = h) W1 W2) :
    QB (W2.setCell ⟨q, 1, none⟩ (.slice (some ⟨h, 0, none⟩) Wl.length cap)) q vH (.slice (some ⟨h, 0, none⟩) Wl.length cap) H Wl ∧ (W2.setCell ⟨q, 1, none⟩ (.slice (some ⟨h, 0, none⟩) Wl.length cap)).ownsRow w.heap.size 37 4 (.slice A o.length c) o.length (flatV enWt o) ∧ Keep (fun i => i = q) w (W2.setCell ⟨q, 1, none⟩ (.slice (some ⟨h, 0, none⟩) Wl.length cap)) ∧ (∀ b, (Value.slice A o.length c).ownBlock = some b → b ≠ h) := by
  have hbo : Below W.heap.size W W2 := bl_keep b k (fun i hi => by subst hi; exact hh)
  have hqb := I.qb.below hbo
  have hall : ∀ y ∈ Wl, okWt y := fun y hy => I.qb.qa.okW y (by simp [hy])
  have hs : SF enWt okWt 4 37 W2 (.slice (some ⟨h, 0, none⟩) Wl.length cap) Wl := SF.own enWt_len (by omega) (r.own (base := 0) enWt_len (Nat.zero_le _)) hall
  have hkq := keep_set W2 q 1 (.slice (some ⟨h, 0, none⟩) Wl.length cap)
  refine ⟨⟨hqb.1.set 1 _, hqb.2.1.keep hkq (fun i hi => by subst hi; exact ⟨_, _, hqb.1, by decide⟩), hs.keep hkq (fun i hi => by subst hi; exact ⟨_, _, hqb.1, by decide⟩)⟩, ?_, ?_, ?_⟩
  · exact own_keepS (own_below I.own hbo) hkq (fun i hi => by subst hi; exact I.lq)
  · exact (I.kp.trans (Keep.of_below hbo _)).trans hkq
  · intro b hb e
    have := (own_block I.own b hb).2
    omega
theorem gset_sf {a : Option Addr} {n c : Nat} {H : List Hd} (w : World) (tx m : Int) (s : SF enHd okHd 2 82 w (.slice a n c) H) (hn : H.length ≤ 900) : Calls Try.prog 34 #[.slice a n c, .int .i64 tx, .int .i64 m] w (OwnRet enHd 82 2 w (setT tx m H)) := by
  obtain ⟨a', n', c', hv, hs, hc, _⟩ := s
  injection hv with e1 e2 e3
  subst e1; subst e2; subst e3
  exact gset_any a n c H tx m w hs hc.2.2 (by have := hs.len; omega)
theorem own_row {α : Type} {enc : α → List Value} {s : Nat} {w : World} {base n : Nat} {E : TypeId} {v : Value} {L : List α} (h : w.ownsRow base E s v n (flatV enc L)) (hn : n = L.length) (hp : 0 < n) : ∃ h cap, v = .slice (some ⟨h, 0, none⟩) n cap ∧ RowAt enc E s w h cap L ∧ base ≤ h := by
  rcases h.2 with ⟨_, h0⟩ | ⟨g, cap, cur, rfl, hb, _⟩
  · omega
  · exact ⟨g, cap, rfl, (RowAt.of h hn).1, hb⟩
theorem own_bk {w : World} {base n s : Nat} {E : TypeId} {v : Value} {xs : List Value} (h : w.ownsRow base E s v n xs) : ∀ b, v.ownBlock = some b → ∃ cs, Bk w b E cs := by
  intro b hb
  rcases h.2 with ⟨rfl, _⟩ | ⟨g, cap, cur, rfl, _, h1, _⟩
  · cases hb
  · injection hb with hb; subst hb; exact ⟨cur, h1⟩
/-- Between the taking away of the first one and its being told. -/
structure Mid (q : Nat) (w W : World) (o : List Wt) (A : Option Addr) (c : Nat) (vH vW : Value) (H : List Hd) (Wl : List Wt) (h : Nat) : Prop where
  qb : QB W q vH vW H Wl
  own : W.ownsRow w.heap.size 37 4 (.slice A o.length c) o.length (flatV enWt o)
  kp : Keep (fun i => i = q) w W
  hw : vW.ownBlock = some h
  dis : ∀ b, (Value.slice A o.length c).ownBlock = some b → b ≠ h
theorem SwI.mid {R : Told} {q : Nat} {w W W1 W2 : World} {n c h cap : Nat} {o : List Wt} {A : Option Addr} {vH vW : Value} {H : List Hd} {x : Wt} {Wl : List Wt} (I : SwI R q w n W o A c vH vW H (x :: Wl)) (b : Below W.heap.size W W1) (r : RowAt enWt 37 4 W2 h cap Wl) (hh : W.heap.size ≤ h) (k : Keep (fun i => i = h) W1 W2) :
    Mid q w (W2.setCell ⟨q, 1, none⟩ (.slice (some ⟨h, 0, none⟩) Wl.length cap)) o A c vH (.slice (some ⟨h, 0, none⟩) Wl.length cap) H Wl h :=
  have N := I.next b r hh k
  ⟨N.1, N.2.1, N.2.2.1, rfl, N.2.2.2⟩
theorem Mid.below {q : Nat} {w W W1 : World} {o : List Wt} {A : Option Addr} {c : Nat} {vH vW : Value} {H : List Hd} {Wl : List Wt} {h : Nat} (M : Mid q w W o A c vH vW H Wl h) (b : Below W.heap.size W W1) : Mid q w W1 o A c vH vW H Wl h :=
  ⟨M.qb.below b, own_below M.own b, M.kp.trans (Keep.of_below b _), M.hw, M.dis⟩
theorem Mid.setH {q : Nat} {w W : World} {o : List Wt} {A : Option Addr} {c : Nat} {vH vW v : Value} {H H2 : List Hd} {Wl : List Wt} {h : Nat} (M : Mid q w W o A c vH vW H Wl h) (lq : q < w.heap.size) (s : SF enHd okHd 2 82 W v H2) : Mid q w (W.setCell ⟨q, 0, none⟩ v) o A c v vW H2 Wl h := by
  have hk := keep_set W q 0 v
  refine ⟨⟨M.qb.1.set 0 v, s.keep hk (fun i hi => by subst hi; exact ⟨_, _, M.qb.1, by decide⟩), M.qb.2.2.keep hk (fun i hi => by subst hi; exact ⟨_, _, M.qb.1, by decide⟩)⟩, own_keepS M.own hk (fun i hi => by subst hi; exact lq), M.kp.trans hk, M.hw, M.dis⟩
theorem Mid.push {R : Told} {q : Nat} {w W W1 : World} {n c c2 : Nat} {o : List Wt} {A A2 : Option Addr} {vH vW : Value} {H : List Hd} {x : Wt} {Wl : List Wt} {h : Nat} (M : Mid q w W o A c vH vW H Wl h) (lq : q < w.heap.size) (hlw : w.heap.size ≤ W.heap.size)
    (ho : W1.ownsRow w.heap.size 37 4 (.slice A2 (o.length + 1) c2) (o.length + 1) (flatV enWt (o ++ [x]))) (k : Keep (fun i => (Value.slice A o.length c).ownBlock = some i) W W1)
    (d : (Value.slice A2 (o.length + 1) c2).ownBlock = (Value.slice A o.length c).ownBlock ∨ ∀ b, (Value.slice A2 (o.length + 1) c2).ownBlock = some b → W.heap.size ≤ b)
    (hl : o.length + 1 + Wl.length = n) (hbd : H.length + Wl.length ≤ 900) (n9 : n ≤ 900) (e1 : R.o = o ++ (x :: (sweepT H Wl).o)) (e2 : R.H = (sweepT H Wl).H) (e3 : R.W = (sweepT H Wl).W) :
    SwI R q w n W1 (o ++ [x]) A2 c2 vH vW H Wl := by
  have hL : (o ++ [x]).length = o.length + 1 := by simp
  have hob := own_block M.own
  have hh : h < W.heap.size := by obtain ⟨cs, hb⟩ := M.qb.2.2.blk h M.hw; exact hb.lt
  refine ⟨by rw [hL]; exact ho, ⟨k.bk M.qb.1 (fun e => by have := (hob q e).1; omega), M.qb.2.1.keep k (fun i hi => by obtain ⟨cs, hb⟩ := own_bk M.own i hi; exact ⟨_, cs, hb, by decide⟩), M.qb.2.2.keepB k (fun i hi => by rw [M.hw]; intro e; injection e with e; exact M.dis i hi e.symm)⟩, ?_, M.kp.fresh k (fun i hi => .inr (hob i hi).1), lq, by rw [hL]; exact hl, hbd, n9, by rw [e1]; simp, e2, e3⟩
  intro b hb
  rw [hL] at hb
  rw [M.hw]
  intro e
  injection e with e
  subst e
  rcases d with d | d
  · rw [d] at hb; exact M.dis _ hb rfl
  · have := d _ hb; omega
set_option maxRecDepth 100000 in
set_option maxHeartbeats 8000000 in
theorem qsweep_any (q : Nat) (H : List Hd) (L : List Wt) (w : World) (h : QA w q H L) (hn : H.length + L.length ≤ 900) : Calls Try.prog 41 #[.pointer (some ⟨q, 0, none⟩)] w (SweepRet q w (sweepT H L)) := by
  obtain ⟨vH, vW, hQ⟩ := h
  obtain ⟨i0, hi, hz0, hz1, hz2⟩ := info_parts Try.infoWt
  have HAP := Lib.hid (And.intro hi (And.intro hz0 (And.intro hz1 hz2)))
  have HI : Hid (SwI (sweepT H L) q w L.length w [] none 0 vH vW H L) := Lib.hid ⟨World.ownsRow_nil _ _ _ _, hQ, (by intro b hb; cases hb), Keep.refl _ _, hQ.1.lt, by simp, hn, by omega, rfl, rfl, rfl⟩
  clear hQ hi hz0 hz1 hz2
  generalize hR : sweepT H L = R at HI ⊢
  generalize hN : L.length = N at HI
  clear hR hN hn
  go_enter Try.func41, Try.ntmps41
  go_wp2
  refine wp_scope_jumps2 0 (SJ R q w N) (fun a _ => N - slLen (a.tmps[3]!)) rfl ?pass ?first
  case first =>
    intro hpass
    go_wp2
    go_step3
    rename_i hk
    exact hk _ _ (hpass _ _ (SJ.mk (o := []) rfl rfl HI.out))
  case pass =>
    rintro a W ⟨o, A, c, vH, vW, H', Wl, u, rfl, hI⟩
    obtain ⟨hb, hsH, hsW⟩ := hI.qb
    obtain ⟨aH, nH, cH, rfl, hs, hcH, htH⟩ := hsH
    obtain ⟨aW, nW, cW, rfl, hs2, hcW, htW⟩ := hsW
    have c0 := hb.cell 0
    have c1 := hb.cell 1
    have hnW := hs2.len
    cases Wl with
    | nil =>
      obtain rfl : nW = 0 := by simpa using hnW.symm
      have HR : Hid (SweepRet q w R (.returned (.slice A o.length c)) W) := Lib.hid ⟨_, rfl, by rw [hI.e1]; simp only [sweepT, List.append_nil]; exact hI.own, by rw [hI.e2, hI.e3]; exact hI.qb.qa, hI.kp⟩
      clear hI hb hs hs2 hcH hcW htH htW hnW HI HAP
      go_wp2
      simp only [Exit.jump]
      go_ret
      exact HR.out
    | cons x Wl =>
      obtain ⟨b, off, x', rfl, hblt, hx', hokx, d0, d1, d2, d3⟩ := Wt_at hs2 (i := 0) (by rw [← hnW]; simp)
      obtain rfl : x' = x := by simpa using hx'.symm
      obtain ⟨m, rfl⟩ : ∃ m, nW = m + 1 := ⟨nW - 1, by rw [← hnW]; simp⟩
      have hm : Wl.length = m := by simpa using hnW
      have g0 : ((m : Int) + 1 == 0) = false := by simp; omega
      have q1 : (0 : Int) < (m : Int) + 1 := by omega
      simp only [Nat.zero_mul, Nat.add_zero] at d0 d1 d2 d3
      have al := (Below.refl W.heap.size W).alloc (Nat.le_refl _) (.cells #[.int .i64 x'.tx, .int .i64 x'.mode, .bool x'.conv, .bool x'.inst] 37)
      have hbx := Bk.new W 37 #[.int .i64 x'.tx, .int .i64 x'.mode, .bool x'.conv, .bool x'.inst]
      have hb2 := hb.below al
      have hle : H'.length ≤ 900 ∧ Wl.length ≤ 900 ∧ o.length ≤ 900 := by have h1 := hI.bd; have h2 := hI.len; have h3 := hI.n9; simp only [List.length_cons] at h1 h2; omega
      have HGO := Lib.hid (fun W1 (hb1 : Below W.heap.size W W1) => ggoes_any aH nH cH H' x'.tx x'.mode W1 (hs.below hb1) (by have := hs.len; omega))
      have HCL := Lib.hid (fun W1 (hb1 : Below W.heap.size W W1) => cloneWt_any (some ⟨b, off, none⟩) (m + 1) cW (x' :: Wl) W1 (hs2.below hb1) hcW.2.2 (by omega))
      have HAL := Lib.hid al
      have HBX := Lib.hid hbx
      have HIW := Lib.hid hI
      have HM := Lib.hid hm
      have HLE := Lib.hid hle
      obtain ⟨oo, hoo⟩ : ∃ oo, oo = o.length := ⟨_, rfl⟩
      rw [← hoo]
      have HOO := Lib.hid hoo
      clear hI hb hs hs2 hcH hcW htH htW hnW HI hblt hx' hokx hle hm hoo
      cases hg : goesT H' x'.tx x'.mode with
      | false =>
        rw [hg] at HGO
        have HG := Lib.hid hg
        clear hg HCL HAP
        go_wp2_with fail
        generalize W.alloc (.cells #[.int .i64 x'.tx, .int .i64 x'.mode, .bool x'.conv, .bool x'.inst] 37) = wz at al hbx HAL hb2 ⊢
        generalize W.heap.size = Bz at hbx ⊢
        have x0 := fun dq osq => cell_regrown (v := .int .i64 x'.tx) (hbx.cell 0) dq osq
        have x1 := fun dq osq => cell_regrown (v := .int .i64 x'.mode) (hbx.cell 1) dq osq
        have q0 := fun dq osq => cell_regrown (v := .slice aH nH cH) (hb2.cell 0) dq osq
        have HG5 := Lib.hid (fun dq osq => HGO.out (grow (redrawn wz dq) osq) (bl_then al (Nat.le_refl _) (below_regrown _ _ _)))
        clear al hbx hb2 HGO c0 c1 d0 d1 d2 d3
        refine wp_region_quiet_below (by kernel_rfl) (by kernel_rfl) ?_
        repeat (go_big_quiet_step (first
          | (go_at_call 29; exact Calls.regrown_of (HG5.out _ _))))
        refine wpQuiet_nil ?_
        intro _ hw'
        obtain ⟨⟨dq, osq⟩, hw''⟩ := hw'
        subst hw''
        go_wp2
        simp only [Exit.jump]
        go_ret
        have hI := HIW.out
        have hE := bl_then HAL.out (Nat.le_refl _) (below_regrown _ dq osq)
        have hsw : sweepT H' (x' :: Wl) = ⟨[], 0, H', x' :: Wl⟩ := by unfold sweepT; rw [if_neg (by rw [HG.out]; simp)]
        refine ⟨_, rfl, ?_, ?_, ?_⟩
        · rw [hI.e1, hsw, List.append_nil, HOO.out]; exact own_below hI.own hE
        · rw [hI.e2, hI.e3, hsw]; exact (hI.qb.below hE).qa
        · exact hI.kp.trans (Keep.of_below hE _)
      | true =>
        rw [hg] at HGO
        have HG := Lib.hid hg
        clear hg
        have HDE := Lib.hid (fun h cap (W1 : World) (hr : RowAt enWt 37 4 W1 h cap (x' :: Wl)) => del0Wt_any h cap x' Wl W1 hr (by have := HLE.out; omega))
        rw [HM.out] at HDE
        go_wp2_with fail
        have HBL : Hid (W.heap.size = W.heap.size) := Lib.hid rfl
        obtain ⟨Bz, hBz⟩ : ∃ Bz, Bz = W.heap.size := ⟨_, rfl⟩
        rw [← hBz] at hbx HBX ⊢
        generalize W.alloc (.cells #[.int .i64 x'.tx, .int .i64 x'.mode, .bool x'.conv, .bool x'.inst] 37) = wz at al hbx HAL HBX hb2 ⊢
        have HBZ := Lib.hid hBz
        clear HBL hBz
        have x0 := fun dq osq => cell_regrown (v := .int .i64 x'.tx) (hbx.cell 0) dq osq
        have x1 := fun dq osq => cell_regrown (v := .int .i64 x'.mode) (hbx.cell 1) dq osq
        have q0 := fun dq osq => cell_regrown (v := .slice aH nH cH) (hb2.cell 0) dq osq
        have HG5 := Lib.hid (fun dq osq => HGO.out (grow (redrawn wz dq) osq) (bl_then al (Nat.le_refl _) (below_regrown _ _ _)))
        clear al hbx hb2 HGO c0 c1 d0 d1 d2 d3
        refine wp_region_quiet_below (by kernel_rfl) (by kernel_rfl) ?_
        repeat (go_big_quiet_step (first
          | (go_at_call 29; exact Calls.regrown_of (HG5.out _ _))))
        refine wpQuiet_nil ?_
        intro _ hw'
        obtain ⟨⟨dq, osq⟩, hw''⟩ := hw'
        subst hw''
        have hy := bl_then HAL.out (Nat.le_refl _) (below_regrown _ dq osq)
        have hby := HBX.out.below (below_regrown wz dq osq)
        generalize grow (redrawn wz dq) osq = wy at hy hby ⊢
        have hqy := (HIW.out.qb.below hy).1
        have cy1 := hqy.cell 1
        have HBY := Lib.hid hby
        have HQY := Lib.hid hqy
        have HY := Lib.hid hy
        have hsw : sweepT H' (x' :: Wl) = ⟨x' :: (sweepT (if x'.inst then H' else setT x'.tx x'.mode H') Wl).o, 0, (sweepT (if x'.inst then H' else setT x'.tx x'.mode H') Wl).H, (sweepT (if x'.inst then H' else setT x'.tx x'.mode H') Wl).W⟩ := by conv => lhs; unfold sweepT; rw [if_pos HG.out]
        have HSW := Lib.hid hsw
        clear hy hby hqy hsw HG HG5 HAL HBX
        cases hin : x'.inst with
        | true =>
          have HIN := Lib.hid hin
          clear hin
          go_wp2_with (first
            | (go_at_call 36; refine (HCL.out _ HY.out).mono ?_; rintro e w1 ⟨v, rfl, hown, hb1⟩; obtain ⟨h, cap, rfl, hrow, hhb⟩ := own_row hown rfl (Nat.succ_pos _); have hlenr : (x' :: Wl).length = m + 1 := (by rw [List.length_cons, HM.out]); rw [hlenr]; have HROW := Lib.hid hrow; have HB1 := Lib.hid hb1; have HHB := Lib.hid hhb; clear hown hrow hb1 hhb hlenr)
            | (go_at_call 67; refine (HDE.out h cap w1 HROW.out).mono ?_; rintro e w2 ⟨rfl, hr2, k2⟩; have hne : Bz ≠ h := (by have h1 := HBY.out.lt; have h2 := HHB.out; omega); have hbz2 := k2.bk (HBY.out.below HB1.out) hne; have hM := HIW.out.mid (bl_then HY.out (Nat.le_refl _) HB1.out) hr2 (Nat.le_trans HY.out.size HHB.out) k2; have hqh : q ≠ h := (by have h1 := HQY.out.lt; have h2 := HHB.out; omega); have hq2 := k2.bk (HQY.out.below HB1.out) hqh; have hbq : Bz ≠ q := Bk.ne hbz2 hq2 (by decide); have hbz3 := (keep_set w2 q 1 (.slice (some ⟨h, 0, none⟩) m cap)).bk hbz2 hbq; have f1 := hq2.frozen 1; have g1 := hq2.cell 1; rw [HM.out] at hM; obtain ⟨w3, hw3⟩ : ∃ w3, w2.setCell ⟨q, 1, none⟩ (.slice (some ⟨h, 0, none⟩) m cap) = w3 := ⟨_, rfl⟩; rw [hw3] at hM hbz3; have HW3 := Lib.hid hw3; have z0 := hbz3.cell 0; have z1 := hbz3.cell 1; have z2 := hbz3.cell 2; have z3 := hbz3.cell 3; rw [HIN.out] at z3; have cq0 := hM.qb.1.cell 0; have HMI := Lib.hid hM; have HBZ3 := Lib.hid hbz3; clear hw3 hM hbz3 hbz2 hq2 hr2 k2 HROW HB1 HDE cy1 hne hqh hbq)
            | (rw [HW3.out]; clear HW3 f1 g1)
            | (at_builtin; go_loud (obtain ⟨hi, hz0, hz1, hz2⟩ := HAP.out; have hO9 := HMI.out.own; rw [← HOO.out] at hO9; refine wpList_append_two enWt_len (by omega) enWt_one rfl _ _ 27 rfl w.heap.size 37 i0 _ 24 Try.underlying27 hi hz0 hz1 hz2 rfl _ oo o rfl hO9 x' #[.int .i64 x'.tx, .int .i64 x'.mode, .bool x'.conv, .bool true] (by unfold enWt; rw [HIN.out]) 37 _ rfl rfl (by have := HLE.out; have := HOO.out; unfold maxLen; omega) (by have := HLE.out; have := HOO.out; omega) HMI.out.kp.size ?_; intro v' w4 hown4 hk4 hd4; obtain ⟨A2, c2, rfl, _, _, _⟩ := SR.own (ok := fun _ => True) enWt_len (by omega) hown4 (fun _ _ => trivial))))
          have hM := HMI.out
          rw [HOO.out] at hown4 hk4 hd4
          go_step3
          exact ⟨rfl, SJ.mk (o := o ++ [x']) (by rw [HOO.out]; simp) rfl (hM.push HIW.out.lq hM.kp.size hown4 hk4 hd4 (by have := HIW.out.len; simp only [List.length_cons] at this; omega) (by have := HIW.out.bd; simp only [List.length_cons] at this; omega) HIW.out.n9 (by rw [HIW.out.e1, HSW.out, if_pos HIN.out]) (by rw [HIW.out.e2, HSW.out, if_pos HIN.out]) (by rw [HIW.out.e3, HSW.out, if_pos HIN.out])), by have := HIW.out.len; simp only [List.length_cons] at this; have := HOO.out; show N - (oo + 1) < N - oo; omega⟩
        | false =>
          have HIN := Lib.hid hin
          clear hin
          go_wp2_with (first
            | (go_at_call 36; refine (HCL.out _ HY.out).mono ?_; rintro e w1 ⟨v, rfl, hown, hb1⟩; obtain ⟨h, cap, rfl, hrow, hhb⟩ := own_row hown rfl (Nat.succ_pos _); have hlenr : (x' :: Wl).length = m + 1 := (by rw [List.length_cons, HM.out]); rw [hlenr]; have HROW := Lib.hid hrow; have HB1 := Lib.hid hb1; have HHB := Lib.hid hhb; clear hown hrow hb1 hhb hlenr)
            | (go_at_call 67; refine (HDE.out h cap w1 HROW.out).mono ?_; rintro e w2 ⟨rfl, hr2, k2⟩; have hne : Bz ≠ h := (by have h1 := HBY.out.lt; have h2 := HHB.out; omega); have hbz2 := k2.bk (HBY.out.below HB1.out) hne; have hM := HIW.out.mid (bl_then HY.out (Nat.le_refl _) HB1.out) hr2 (Nat.le_trans HY.out.size HHB.out) k2; have hqh : q ≠ h := (by have h1 := HQY.out.lt; have h2 := HHB.out; omega); have hq2 := k2.bk (HQY.out.below HB1.out) hqh; have hbq : Bz ≠ q := Bk.ne hbz2 hq2 (by decide); have hbz3 := (keep_set w2 q 1 (.slice (some ⟨h, 0, none⟩) m cap)).bk hbz2 hbq; have f1 := hq2.frozen 1; have g1 := hq2.cell 1; rw [HM.out] at hM; obtain ⟨w3, hw3⟩ : ∃ w3, w2.setCell ⟨q, 1, none⟩ (.slice (some ⟨h, 0, none⟩) m cap) = w3 := ⟨_, rfl⟩; rw [hw3] at hM hbz3; have HW3 := Lib.hid hw3; have z0 := hbz3.cell 0; have z1 := hbz3.cell 1; have z2 := hbz3.cell 2; have z3 := hbz3.cell 3; rw [HIN.out] at z3; have cq0 := hM.qb.1.cell 0; have HMI := Lib.hid hM; have HBZ3 := Lib.hid hbz3; clear hw3 hM hbz3 hbz2 hq2 hr2 k2 HROW HB1 HDE cy1 hne hqh hbq)
            | (rw [HW3.out]; clear HW3 f1 g1))
          have HSET := Lib.hid (gset_sf w3.drew x'.tx x'.mode (HMI.out.below (below_drew w3)).qb.2.1 (by have := HLE.out; omega))
          have HOKS := Lib.hid (setT_ok x'.tx x'.mode H' HIW.out.qb.qa.okH (HIW.out.qb.qa.okW x' (by simp)).1 (HIW.out.qb.qa.okW x' (by simp)).2)
          go_region_with (first
            | (go_at_call 34; refine HSET.out.mono ?_; rintro e w5 ⟨v5, rfl, hown5, hb5⟩; have hs5 := SF.own (ok := okHd) enHd_len (by omega) hown5 HOKS.out; obtain ⟨a5, n5, p5, rfl, _⟩ := id hs5; have hM5 := (HMI.out.below (below_drew w3)).below hb5; have f0 := hM5.qb.1.frozen 0; have e0 := hM5.qb.1.cell 0; have hM6 := hM5.setH HIW.out.lq hs5; have hb5z := (HBZ3.out.below (below_drew w3)).below hb5; have hbz6 := (keep_set w5 q 0 (.slice a5 n5 p5)).bk hb5z (Bk.ne hb5z hM5.qb.1 (by decide)); obtain ⟨w6, hw6⟩ : ∃ w6, w5.setCell ⟨q, 0, none⟩ (.slice a5 n5 p5) = w6 := ⟨_, rfl⟩; rw [hw6] at hM6 hbz6; have HW6 := Lib.hid hw6; have y0 := hbz6.cell 0; have y1 := hbz6.cell 1; have y2 := hbz6.cell 2; have y3 := hbz6.cell 3; rw [HIN.out] at y3; have HM6 := Lib.hid hM6; clear hown5 hs5 hb5 hM5 hM6 hw6 hb5z hbz6))
          all_goals
            rw [HW6.out]
            clear HW6 f0 e0 z0 z1 z2 z3 cq0
            go_wp2_with (at_builtin; go_loud (obtain ⟨hi, hz0, hz1, hz2⟩ := HAP.out; have hO9 := HM6.out.own; rw [← HOO.out] at hO9; refine wpList_append_two enWt_len (by omega) enWt_one rfl _ _ 27 rfl w.heap.size 37 i0 _ 24 Try.underlying27 hi hz0 hz1 hz2 rfl _ oo o rfl hO9 x' #[.int .i64 x'.tx, .int .i64 x'.mode, .bool x'.conv, .bool false] (by unfold enWt; rw [HIN.out]) 37 _ rfl rfl (by have := HLE.out; have := HOO.out; unfold maxLen; omega) (by have := HLE.out; have := HOO.out; omega) HM6.out.kp.size ?_; intro v' w4 hown4 hk4 hd4; obtain ⟨A2, c2, rfl, _, _, _⟩ := SR.own (ok := fun _ => True) enWt_len (by omega) hown4 (fun _ _ => trivial)))
            have hM := HM6.out
            rw [HOO.out] at hown4 hk4 hd4
            go_step3
            exact ⟨rfl, SJ.mk (o := o ++ [x']) (by rw [HOO.out]; simp) rfl (hM.push HIW.out.lq hM.kp.size hown4 hk4 hd4 (by have := HIW.out.len; simp only [List.length_cons] at this; omega) (by have := HIW.out.bd; have := setT_len x'.tx x'.mode H'; simp only [List.length_cons] at *; omega) HIW.out.n9 (by rw [HIW.out.e1, HSW.out, if_neg (by rw [HIN.out]; simp)]) (by rw [HIW.out.e2, HSW.out, if_neg (by rw [HIN.out]; simp)]) (by rw [HIW.out.e3, HSW.out, if_neg (by rw [HIN.out]; simp)])), by have := HIW.out.len; simp only [List.length_cons] at this; have := HOO.out; show N - (oo + 1) < N - oo; omega⟩
end Go.Proofs.Ytdkbfmffnamdbaa
