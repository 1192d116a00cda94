/- queue: the reference's sweep. No condition. -/
import Derived.Test.YtdkbfmffnamdbaaQvc
import Derived.Test.YtdkbfmffnamdbaaQut
set_option linter.unusedVariables false
set_option linter.unusedSimpArgs false
namespace Go.Proofs.Ytdkbfmffnamdbaa
open Go.RowKit (wrap32 wrap64)
open Go.RowKit Go.Shelf Go.Sort
theorem RF.keepB {α : Type} {enc : α → List Value} {ok : α → Prop} {s : Nat} {E : TypeId} {S : Nat → Prop} {w w1 : World} {v : Value} {L : List α} (h : RF enc ok s E w v L) (k : Keep S w w1) (hS : ∀ i, S i → v.ownBlock ≠ some i) : RF enc ok s E w1 v L := by
  obtain ⟨a, n, c, rfl, hs, h1, h2, hf⟩ := h
  have hn : ∀ y, a = some y → ¬ S y.block := fun y hy hSy => hS _ hSy (by rw [hy]; rfl)
  rcases hf with ⟨rfl, rfl, rfl⟩ | ⟨b, off, cs, rfl, hb⟩
  · exact ⟨none, 0, 0, rfl, hs.keep k hn, h1, h2, .inl ⟨rfl, rfl, rfl⟩⟩
  · exact ⟨_, n, c, rfl, hs.keep k hn, h1, h2, .inr ⟨b, off, cs, rfl, k.bk hb (hn ⟨b, off, none⟩ rfl)⟩⟩
/-- While the sweep goes: what is told, the queue, its slices. -/
structure RMid (x : Nat) (w W : World) (o : List Wt) (v3 vH vW : Value) (H : List Hd) (Wl : List Wt) : Prop where
  own : W.ownsRow w.heap.size 37 4 v3 o.length (flatV enWt o)
  bk : Bk W x 51 #[.int .i64 0, .int .i64 0, .int .i64 0, .int .i64 0, .int .i64 0, vH, vW]
  sH : RF enHd okHd 2 82 W vH H
  sW : RF enWt okWt 4 37 W vW Wl
  old : ∀ b, vW.ownBlock = some b → b < w.heap.size
  kp : Keep (fun i => i = x) w W
  lq : x < w.heap.size
theorem RMid.rq {x : Nat} {w W : World} {o : List Wt} {v3 vH vW : Value} {H : List Hd} {Wl : List Wt} (M : RMid x w W o v3 vH vW H Wl) : RQ W x H Wl := ⟨_, _, M.bk, M.sH, M.sW⟩
theorem RMid.below {x : Nat} {w W W1 : World} {o : List Wt} {v3 vH vW : Value} {H : List Hd} {Wl : List Wt} (M : RMid x w W o v3 vH vW H Wl) (b : Below W.heap.size W W1) : RMid x w W1 o v3 vH vW H Wl :=
  ⟨own_below M.own b, M.bk.below b, M.sH.below b, M.sW.below b, M.old, M.kp.trans (Keep.of_below b _), M.lq⟩
theorem RMid.setH {x : Nat} {w W : World} {o : List Wt} {v3 vH vW v : Value} {H H2 : List Hd} {Wl : List Wt} (M : RMid x w W o v3 vH vW H Wl) (s : RF enHd okHd 2 82 W v H2) : RMid x w (W.setCell ⟨x, 5, none⟩ v) o v3 v vW H2 Wl := by
  have hk := keep_set W x 5 v
  exact ⟨own_keepS M.own hk (fun i hi => by subst hi; exact M.lq), M.bk.set 5 v, s.keep hk (fun i hi => by subst hi; exact ⟨_, _, M.bk, by decide⟩), M.sW.keep hk (fun i hi => by subst hi; exact ⟨_, _, M.bk, by decide⟩), M.old, M.kp.trans hk, M.lq⟩
theorem RMid.setW {x : Nat} {w W : World} {o : List Wt} {v3 vH vW v : Value} {H : List Hd} {Wl Wl2 : List Wt} (M : RMid x w W o v3 vH vW H Wl) (s : RF enWt okWt 4 37 W v Wl2) (hold : ∀ b, v.ownBlock = some b → b < w.heap.size) : RMid x w (W.setCell ⟨x, 6, none⟩ v) o v3 vH v H Wl2 := by
  have hk := keep_set W x 6 v
  exact ⟨own_keepS M.own hk (fun i hi => by subst hi; exact M.lq), M.bk.set 6 v, M.sH.keep hk (fun i hi => by subst hi; exact ⟨_, _, M.bk, by decide⟩), s.keep hk (fun i hi => by subst hi; exact ⟨_, _, M.bk, by decide⟩), hold, M.kp.trans hk, M.lq⟩
theorem RMid.push {x : Nat} {w W W1 : World} {o : List Wt} {v3 v4 vH vW : Value} {H : List Hd} {Wl : List Wt} {y : Wt} (M : RMid x w W o v3 vH vW H Wl) (ho : W1.ownsRow w.heap.size 37 4 v4 (o.length + 1) (flatV enWt (o ++ [y]))) (k : Keep (fun i => v3.ownBlock = some i) W W1) : RMid x w W1 (o ++ [y]) v4 vH vW H Wl := by
  have hob := own_block M.own
  have hL : (o ++ [y]).length = o.length + 1 := by simp
  have hl := M.lq
  refine ⟨by rw [hL]; exact ho, k.bk M.bk (fun e => by have := (hob x e).1; omega), M.sH.keep k (fun i hi => by obtain ⟨cs, hb⟩ := own_bk M.own i hi; exact ⟨_, cs, hb, by decide⟩), M.sW.keepB k (fun i hi e => by have h1 := M.old i e; have h2 := (hob i hi).1; omega), M.old, M.kp.fresh k (fun i hi => .inr (hob i hi).1), hl⟩
structure RwI (R : Told) (x : Nat) (w : World) (n : Nat) (W : World) (i : Nat) (v3 : Value) (o : List Wt) (vH vW : Value) (H : List Hd) (Wl : List Wt) : Prop where
  mid : RMid x w W o v3 vH vW H Wl
  io : i = o.length
  len : o.length + Wl.length = n
  bd : H.length + Wl.length ≤ 900
  n9 : n ≤ 900
  e1 : R.o = o ++ (sweepT H Wl).o
  e2 : R.H = (sweepT H Wl).H
  e3 : R.W = (sweepT H Wl).W
def RSweepRet (x : Nat) (w : World) (r : Told) (e : Ending) (w' : World) : Prop := ∃ v, e = .returned v ∧ w'.ownsRow w.heap.size 37 4 v r.o.length (flatV enWt r.o) ∧ RQ w' x r.H r.W ∧ Keep (fun i => i = x) w w'
theorem rset_rf {a : Option Addr} {n c : Nat} {H : List Hd} (w : World) (tx m : Int) (s : RF enHd okHd 2 82 w (.slice a n c) H) (hn : H.length ≤ 900) : Calls Try.prog 47 #[.slice a n c, .int .i64 tx, .int .i64 m] w (OwnRet enHd 82 2 w (setT tx m H)) := by
  obtain ⟨a', n', c', hv, hs, _⟩ := s
  injection hv with e1 e2 e3
  subst e1; subst e2; subst e3
  exact rset_any a n c H tx m w hs (by have := hs.len; omega)
set_option maxRecDepth 100000 in
set_option maxHeartbeats 8000000 in
theorem rqsweep_any (x : Nat) (H : List Hd) (L : List Wt) (w : World) (h : RQ w x H L) (hn : H.length + L.length ≤ 900) : Calls Try.prog 51 #[.pointer (some ⟨x, 0, none⟩)] w (RSweepRet x w (sweepT H L)) := by
  obtain ⟨vH, vW, hb, hsH, hsW⟩ := h
  obtain ⟨i0, hi, hz0, hz1, hz2⟩ := info_parts Try.infoWt
  have HI : Hid (RwI (sweepT H L) x w L.length w 0 (.slice none 0 0) [] vH vW H L) := Lib.hid ⟨⟨World.ownsRow_nil _ _ _ _, hb, hsH, hsW, (by
    intro b hbb
    obtain ⟨a, n, c, rfl, _, _, _, hf⟩ := hsW
    rcases hf with ⟨rfl, _⟩ | ⟨b', off, cs, rfl, hb'⟩
    · cases hbb
    · injection hbb with hbb; subst hbb; exact hb'.lt), Keep.refl _ _, hb.lt⟩, rfl, by simp, hn, by omega, rfl, rfl, rfl⟩
  clear hb hsH hsW
  generalize hR : sweepT H L = R at HI ⊢
  generalize hN : L.length = N at HI
  clear hR hN hn
  go_enter Try.func51, Try.ntmps51
  go_wp2
  go_loopw [3, 4] (fun v3 c wr => ∃ (i : Nat) (o : List Wt) (vH vW : Value) (H' : List Hd) (Wl : List Wt), c = .int .i64 i ∧ RwI R x w N wr i v3 o vH vW H' Wl) (fun _ c _ => N - (intOf c).toNat)
  case atStart => exact ⟨0, [], vH, vW, H, L, rfl, HI.out⟩
  case round =>
    clear HI
    obtain ⟨i, o, vH, vW, H', Wl, rfl, hI⟩ := hrel
    generalize wr = W at hI ⊢
    have hb := hI.mid.bk
    obtain ⟨aH, nH, cH, rfl, hs, _⟩ := id hI.mid.sH
    obtain ⟨aW, nW, cW, rfl, hs2, _⟩ := id hI.mid.sW
    have c5 := hb.cell 5
    have c6 := hb.cell 6
    have hnW := hs2.len
    cases Wl with
    | nil =>
      obtain rfl : nW = 0 := by simpa using hnW.symm
      have HR := Lib.hid (fun v (hv : v = u3) => (show RSweepRet x w R (.returned v) W from ⟨_, rfl, by rw [hI.e1, hv]; simp only [sweepT, List.append_nil]; exact hI.mid.own, by rw [hI.e2, hI.e3]; exact hI.mid.rq, hI.mid.kp⟩))
      clear hI hb hs hs2 hnW
      go_wp2
      go_ret
      exact HR.out _ rfl
    | cons x' Wl =>
      obtain ⟨b, off, m, rfl, rfl, hm, hmc, hcm, hsx, htl⟩ := RF.tail enWt_len hI.mid.sW
      obtain ⟨b', off', x'', hA, hblt, hx', hokx, d0, d1, d2, d3⟩ := Wt_at hsx (i := 0) (by omega)
      obtain ⟨rfl, rfl⟩ : b = b' ∧ off = off' := by simpa using hA
      obtain rfl : x'' = x' := by simpa using hx'.symm
      have g0 : (0 : Int) < (m : Int) + 1 := by omega
      have hiN := hI.io
      have hiN2 := hI.len
      have hiN3 := hI.n9
      simp only [List.length_cons] at hiN2
      have g1 : (i : Int) < 10000 := by omega
      have g2 : (1 : Int) ≤ (m : Int) + 1 := by omega
      have hin1 : i < N := by omega
      simp only [Nat.zero_mul, Nat.add_zero] at d0 d1 d2 d3
      have al := (Below.refl W.heap.size W).alloc (Nat.le_refl _) (.cells #[.int .i64 x''.tx, .int .i64 x''.mode, .bool x''.conv, .bool x''.inst] 37)
      have hbx := Bk.new W 37 #[.int .i64 x''.tx, .int .i64 x''.mode, .bool x''.conv, .bool x''.inst]
      have hb2 := hb.below al
      have hle : H'.length ≤ 900 ∧ Wl.length ≤ 900 ∧ o.length ≤ 900 := by have h1 := hI.bd; simp only [List.length_cons] at h1; omega
      have HGO := Lib.hid (fun W1 (hb1 : Below W.heap.size W W1) => rgoes_any aH nH cH H' x''.tx x''.mode W1 (hs.below hb1))
      have HAL := Lib.hid al
      have HBX := Lib.hid hbx
      have HIW := Lib.hid hI
      have HM := Lib.hid hm
      have HLE := Lib.hid hle
      have HTL := Lib.hid htl
      clear hI hb hs hs2 hsx hnW hblt hx' hokx hle hm hA htl hiN hiN2 hiN3
      cases hg : goesT H' x''.tx x''.mode with
      | false =>
        rw [hg] at HGO
        have HG := Lib.hid hg
        clear hg
        go_wp2_with fail
        generalize W.alloc (.cells #[.int .i64 x''.tx, .int .i64 x''.mode, .bool x''.conv, .bool x''.inst] 37) = wz at al hbx HAL hb2 ⊢
        generalize W.heap.size = Bz at hbx ⊢
        have x0 := fun dq osq => cell_regrown (v := .int .i64 x''.tx) (hbx.cell 0) dq osq
        have x1 := fun dq osq => cell_regrown (v := .int .i64 x''.mode) (hbx.cell 1) dq osq
        have q0 := fun dq osq => cell_regrown (v := .slice aH nH cH) (hb2.cell 5) dq osq
        have HG5 := Lib.hid (fun dq osq => HGO.out (grow (redrawn wz dq) osq) (bl_then al (Nat.le_refl _) (below_regrown _ _ _)))
        clear al hbx hb2 HGO c5 c6 d0 d1 d2 d3
        refine wp_region_quiet_below (by kernel_rfl) (by kernel_rfl) ?_
        repeat (go_big_quiet_step (first
          | (go_at_call 46; exact Calls.regrown_of (HG5.out _ _))))
        refine wpQuiet_nil ?_
        intro _ hw'
        obtain ⟨⟨dq, osq⟩, hw''⟩ := hw'
        subst hw''
        go_wp2
        go_ret
        have hI := HIW.out
        have hE := bl_then HAL.out (Nat.le_refl _) (below_regrown _ dq osq)
        have hsw : sweepT H' (x'' :: Wl) = ⟨[], 0, H', x'' :: Wl⟩ := by unfold sweepT; rw [if_neg (by rw [HG.out]; simp)]
        refine ⟨_, rfl, ?_, ?_, ?_⟩
        · rw [hI.e1, hsw, List.append_nil]; exact own_below hI.mid.own hE
        · rw [hI.e2, hI.e3, hsw]; exact (hI.mid.below hE).rq
        · exact hI.mid.kp.trans (Keep.of_below hE _)
      | true =>
        rw [hg] at HGO
        have HG := Lib.hid hg
        clear hg
        go_wp2_with fail
        obtain ⟨Bz, hBz⟩ : ∃ Bz, Bz = W.heap.size := ⟨_, rfl⟩
        rw [← hBz] at hbx HBX ⊢
        generalize W.alloc (.cells #[.int .i64 x''.tx, .int .i64 x''.mode, .bool x''.conv, .bool x''.inst] 37) = wz at al hbx HAL HBX hb2 ⊢
        have HBZ := Lib.hid hBz
        clear hBz
        have x0 := fun dq osq => cell_regrown (v := .int .i64 x''.tx) (hbx.cell 0) dq osq
        have x1 := fun dq osq => cell_regrown (v := .int .i64 x''.mode) (hbx.cell 1) dq osq
        have q0 := fun dq osq => cell_regrown (v := .slice aH nH cH) (hb2.cell 5) dq osq
        have HG5 := Lib.hid (fun dq osq => HGO.out (grow (redrawn wz dq) osq) (bl_then al (Nat.le_refl _) (below_regrown _ _ _)))
        clear al hbx hb2 HGO c5 c6 d0 d1 d2 d3
        refine wp_region_quiet_below (by kernel_rfl) (by kernel_rfl) ?_
        repeat (go_big_quiet_step (first
          | (go_at_call 46; exact Calls.regrown_of (HG5.out _ _))))
        refine wpQuiet_nil ?_
        intro _ hw'
        obtain ⟨⟨dq, osq⟩, hw''⟩ := hw'
        subst hw''
        have hy := bl_then HAL.out (Nat.le_refl _) (below_regrown _ dq osq)
        have hby := HBX.out.below (below_regrown wz dq osq)
        generalize grow (redrawn wz dq) osq = wy at hy hby ⊢
        have hMy := HIW.out.mid.below hy
        obtain ⟨aT, haT⟩ : ∃ aT : Option Addr, (if cW = 1 then (some ⟨b, off, none⟩ : Option Addr) else some ⟨b, off + 4, none⟩) = aT := ⟨_, rfl⟩
        have htl := HTL.out.below hy
        rw [haT] at htl
        have hM3 := hMy.setW htl (fun bb hbb => by
          have hold := HIW.out.mid.old b rfl
          rw [← haT] at hbb
          split at hbb <;> (injection hbb with hbb; subst hbb; exact hold))
        have cy6 := hMy.bk.cell 6
        have fy6 := hMy.bk.frozen 6
        have hbne : Bz ≠ x := Bk.ne hby hMy.bk (by decide)
        have hbz3 := (keep_set wy x 6 (.slice aT m (cW - 1))).bk hby hbne
        obtain ⟨w3, hw3⟩ : ∃ w3, wy.setCell ⟨x, 6, none⟩ (.slice aT m (cW - 1)) = w3 := ⟨_, rfl⟩
        rw [hw3] at hM3 hbz3
        have HW3 := Lib.hid hw3
        have z0 := hbz3.cell 0
        have z1 := hbz3.cell 1
        have z2 := hbz3.cell 2
        have z3 := hbz3.cell 3
        have c5 := hM3.bk.cell 5
        have HM3 := Lib.hid hM3
        have HBZ3 := Lib.hid hbz3
        have HLO : Hid (w.heap.size ≤ w3.heap.size) := Lib.hid hM3.kp.size
        have hsw : sweepT H' (x'' :: Wl) = ⟨x'' :: (sweepT (if x''.inst then H' else setT x''.tx x''.mode H') Wl).o, 0, (sweepT (if x''.inst then H' else setT x''.tx x''.mode H') Wl).H, (sweepT (if x''.inst then H' else setT x''.tx x''.mode H') Wl).W⟩ := by conv => lhs; unfold sweepT; rw [if_pos HG.out]
        have HSW := Lib.hid hsw
        have HIO := Lib.hid HIW.out.io
        clear hy hby hMy htl hw3 hM3 hbz3 hbne hsw HG HG5 HAL HBX HTL HBZ
        cases hin : x''.inst with
        | true =>
          have HIN := Lib.hid hin
          rw [hin] at z3
          clear hin
          go_wp2_with (first
            | (rw [HW3.out]; clear HW3 fy6 cy6)
            | (at_builtin; go_loud (have hO9 := HM3.out.own; rw [← HIO.out] at hO9; refine wpList_append_one enWt_len (by omega) enWt_one rfl _ _ 27 rfl w.heap.size 37 i0 _ 24 Try.underlying27 hi hz0 hz1 hz2 rfl _ i o rfl hO9 x'' #[.int .i64 x''.tx, .int .i64 x''.mode, .bool x''.conv, .bool true] (by unfold enWt; rw [HIN.out]) 37 _ rfl rfl (by have := HLE.out; have := HIO.out; unfold maxLen; omega) (by have := HLE.out; have := HIO.out; omega) (Below.refl _ w3) HLO.out ?_; intro v4 w4 hown4 hb4 hk4)))
          rw [HIO.out] at hown4
          go_roundw
          case rel => exact ⟨i + 1, o ++ [x''], _, _, H', Wl, by go_num, HM3.out.push hown4 hk4, by rw [HIO.out]; simp, by have := HIW.out.len; simp only [List.length_cons, List.length_append] at *; simp; omega, by have := HIW.out.bd; simp only [List.length_cons] at this; omega, HIW.out.n9, by rw [HIW.out.e1, HSW.out, if_pos HIN.out]; simp, by rw [HIW.out.e2, HSW.out, if_pos HIN.out], by rw [HIW.out.e3, HSW.out, if_pos HIN.out]⟩
          case measure => simp [intOf]; omega
        | false =>
          have HIN := Lib.hid hin
          rw [hin] at z3
          clear hin
          go_wp2_with (first
            | (rw [HW3.out]; clear HW3 fy6 cy6))
          have HSET := Lib.hid (rset_rf w3.drew x''.tx x''.mode (HM3.out.below (below_drew w3)).sH (by have := HLE.out; omega))
          have HOKS := Lib.hid (setT_ok x''.tx x''.mode H' HIW.out.mid.rq.okH (HIW.out.mid.rq.okW x'' (by simp)).1 (HIW.out.mid.rq.okW x'' (by simp)).2)
          go_region_with (first
            | (go_at_call 47; refine HSET.out.mono ?_; rintro e w5 ⟨v5, rfl, hown5, hb5⟩; have hs5 := RF.own (ok := okHd) enHd_len (by omega) hown5 HOKS.out; obtain ⟨a5, n5, p5, rfl, _⟩ := id hs5; have hM5 := (HM3.out.below (below_drew w3)).below hb5; have f5 := hM5.bk.frozen 5; have e5 := hM5.bk.cell 5; have hM6 := hM5.setH hs5; have hb5z := (HBZ3.out.below (below_drew w3)).below hb5; have hbz6 := (keep_set w5 x 5 (.slice a5 n5 p5)).bk hb5z (Bk.ne hb5z hM5.bk (by decide)); obtain ⟨w6, hw6⟩ : ∃ w6, w5.setCell ⟨x, 5, none⟩ (.slice a5 n5 p5) = w6 := ⟨_, rfl⟩; rw [hw6] at hM6 hbz6; have HW6 := Lib.hid hw6; have y0 := hbz6.cell 0; have y1 := hbz6.cell 1; have y2 := hbz6.cell 2; have y3 := hbz6.cell 3; rw [HIN.out] at y3; have HM6 := Lib.hid hM6; clear hown5 hs5 hb5 hM5 hM6 hw6 hb5z hbz6))
          all_goals
            rw [HW6.out]
            clear HW6 f5 e5 z0 z1 z2 z3 c5
            go_wp2_with (at_builtin; go_loud (have hO9 := HM6.out.own; rw [← HIO.out] at hO9; refine wpList_append_one enWt_len (by omega) enWt_one rfl _ _ 27 rfl w.heap.size 37 i0 _ 24 Try.underlying27 hi hz0 hz1 hz2 rfl _ i o rfl hO9 x'' #[.int .i64 x''.tx, .int .i64 x''.mode, .bool x''.conv, .bool false] (by unfold enWt; rw [HIN.out]) 37 _ rfl rfl (by have := HLE.out; have := HIO.out; unfold maxLen; omega) (by have := HLE.out; have := HIO.out; omega) (Below.refl _ w6) HM6.out.kp.size ?_; intro v4 w4 hown4 hb4 hk4))
            rw [HIO.out] at hown4
            go_roundw
            case rel => exact ⟨i + 1, o ++ [x''], _, _, setT x''.tx x''.mode H', Wl, by go_num, HM6.out.push hown4 hk4, by rw [HIO.out]; simp, by have := HIW.out.len; simp only [List.length_cons, List.length_append] at *; simp; omega, by have := HIW.out.bd; have := setT_len x''.tx x''.mode H'; simp only [List.length_cons] at *; omega, HIW.out.n9, by rw [HIW.out.e1, HSW.out, if_neg (by rw [HIN.out]; simp)]; simp, by rw [HIW.out.e2, HSW.out, if_neg (by rw [HIN.out]; simp)], by rw [HIW.out.e3, HSW.out, if_neg (by rw [HIN.out]; simp)]⟩
            case measure => simp [intOf]; omega
end Go.Proofs.Ytdkbfmffnamdbaa
