/- mix: the operations that are drawn. No condition. -/
import Derived.Test.YtbdefhekkafihaaMixP
import Derived.Test.YtbdefhekkafihaaSls
import Derived.Deep.RegionLawGrows
import Derived.Deep.AppendLies
import Derived.Shelf.RegionOpenPlain
set_option linter.unusedVariables false
set_option linter.unusedSimpArgs false
namespace Go.Proofs.Ytbdefhekkafihaa
open Go.RowKit (wrap32 wrap64)
open Go.RowKit Go.Shelf
theorem Try.infoHr : (Try.prog.info? 35).map (fun i => (i.zero, i.size, i.bytes)) = some (some (.slice none 0 0), 1, 24) := by kernel_rfl
theorem make_hr (M : Nat) (hM : M ≤ 1000) (W : World) : ∃ W', (Instr.makeSlice 29 (.int .i64 (M : Int)) (.int .i64 (M : Int))).run Try.prog W = .ok (.slice (some ⟨W.heap.size, 0, none⟩) M M) W' ∧ RowAt enHr 35 1 W' W.heap.size M (List.replicate M nilHr) ∧ Below W.heap.size W W' := by
  obtain ⟨i0, hi, hz0, hz1, hz2⟩ := info_parts Try.infoHr
  obtain ⟨W', e, ho, hg⟩ := run_make_full (P := Try.prog) W W.heap.size 29 35 i0 _ 1 Try.underlying29 hi hz0 hz1 .i64 .i64 M (by rw [hz2]; omega) (by unfold maxLen; omega) (Nat.le_refl _)
  rw [made_flat (enc := enHr) (s := 1) (Value.slice none 0 0).cells nilHr rfl rfl (by omega) enHr_len] at ho
  exact ⟨W', e, (RowAt.of ho (by simp)).1, (grown_keep hg (fun _ => False) (fun k h => by cases h)).below (Nat.le_refl _) (fun k h => h.elim)⟩
/-- What Ops hands back: rows that read as the lists. -/
def OpsRet (w : World) (LL : List (List Ac)) (e : Ending) (w' : World) : Prop := ∃ (A : Option Addr) (c : Nat) (hs : List Hr), e = .returned (.slice A LL.length c) ∧ SR enHr okHr 1 w' A LL.length hs ∧ RowsR enAc okAc 7 w' hs LL ∧ (A = none → LL.length = 0 ∧ c = 0) ∧ (LL.length ≤ c ∧ c ≤ maxLen) ∧ Below w.heap.size w w'
/-- One client's operations under way. -/
structure Cli (w0 wr : World) (RA GA OA nc i : Nat) (AR : Array Value) (hs : List Hr) (h : Hr) (D : List Ac) (s : Int) : Prop where
  rcp : Bk wr RA 24 AR
  src : Bk wr GA 61 #[.int .u64 s]
  hdr : RowAt enHr 35 1 wr OA nc (hs.set i h)
  own : wr.ownsRow w0.heap.size 52 7 (.slice h.a h.len h.cap) h.len (flatV enAc D)
  len : hs.length = nc
  keep : Keep (fun j => j = OA ∨ j = GA) w0 wr
section
variable {w0 wr : World} {RA GA OA nc i : Nat} {AR : Array Value} {hs : List Hr} {h : Hr} {D : List Ac} {s : Int}
theorem Cli.cell (c : Cli w0 wr RA GA OA nc i AR hs h D s) (hi : i < nc) : wr.cell? ⟨OA, i, none⟩ = some (.slice h.a h.len h.cap) := by
  have := c.hdr.cell enHr_len (i := i) (x := h) (by rw [List.getElem?_set_self (by rw [c.len]; exact hi)]) 0 (by omega)
  rw [Nat.mul_one, Nat.add_zero] at this
  exact this
theorem Cli.frz (c : Cli w0 wr RA GA OA nc i AR hs h D s) (k : Nat) : wr.frozen? ⟨OA, k, none⟩ = false := by
  obtain ⟨cur, h1, _⟩ := c.hdr
  exact frozen_of_row wr OA k cur _ h1
theorem Cli.below {w1 : World} (c : Cli w0 wr RA GA OA nc i AR hs h D s) (b : Below wr.heap.size wr w1) : Cli w0 w1 RA GA OA nc i AR hs h D s :=
  ⟨c.rcp.below b, c.src.below b, c.hdr.keep (Keep.of_below b (fun _ => False)) (fun h => h), own_below c.own b, c.len, c.keep.trans (Keep.of_below b _)⟩
theorem Cli.one {w1 : World} {s1 : Int} (c : Cli w0 wr RA GA OA nc i AR hs h D s) (h1 : GA < w0.heap.size) (hR : ¬ RA = GA) (hO : ¬ OA = GA) (b : Bk w1 GA 61 #[.int .u64 s1]) (k : Keep (fun j => j = GA) wr w1) : Cli w0 w1 RA GA OA nc i AR hs h D s1 :=
  ⟨k.bk c.rcp hR, b, c.hdr.keep k hO, own_keepS c.own k (fun i hi => by rw [hi]; exact h1), c.len, c.keep.trans (k.mono (fun j e => .inr e))⟩
theorem Cli.hcell {w1 : World} (c : Cli w0 wr RA GA OA nc i AR hs h D s) (hO : OA < w0.heap.size) (k : Keep (fun k => (Value.slice h.a h.len h.cap).ownBlock = some k) wr w1) (hi : i < nc) : w1.cell? ⟨OA, i, none⟩ = some (.slice h.a h.len h.cap) := by
  have hg := c.hdr.keep k (fun e => by have := (c.own.lt _ e).1; omega)
  have := hg.cell enHr_len (i := i) (x := h) (by rw [List.getElem?_set_self (by rw [c.len]; exact hi)]) 0 (by omega)
  rw [Nat.mul_one, Nat.add_zero] at this
  exact this
theorem Cli.hfrz {w1 : World} (c : Cli w0 wr RA GA OA nc i AR hs h D s) (hO : OA < w0.heap.size) (k : Keep (fun k => (Value.slice h.a h.len h.cap).ownBlock = some k) wr w1) (j : Nat) : w1.frozen? ⟨OA, j, none⟩ = false := by
  obtain ⟨cur, h1, _⟩ := c.hdr.keep k (fun e => by have := (c.own.lt _ e).1; omega)
  exact frozen_of_row w1 OA j cur _ h1
theorem hsz7 {a b : World} (h : a.heap.size ≤ b.heap.size) : Below a.heap.size b b := ⟨rfl, rfl, rfl, Nat.le_refl _, fun _ _ => rfl⟩
/-- What stands at the row's place once the row has grown. -/
theorem Cli.grown {w1 : World} (c : Cli w0 wr RA GA OA nc i AR hs h D s) (hO : OA < w0.heap.size) (k : Keep (fun k => (Value.slice h.a h.len h.cap).ownBlock = some k) wr w1) : RowAt enHr 35 1 w1 OA nc (hs.set i h) :=
  c.hdr.keep k (fun e => by have := (c.own.lt _ e).1; omega)
theorem Cli.app {w1 : World} {r : Hr} {y : Ac} (c : Cli w0 wr RA GA OA nc i AR hs h D s) (h1 : GA < w0.heap.size) (h2 : RA < w0.heap.size) (h3 : OA < w0.heap.size) (hR : ¬ RA = OA) (hG : ¬ GA = OA) (hi : i < nc) (k : Keep (fun k => (Value.slice h.a h.len h.cap).ownBlock = some k) wr w1)
    (ho : w1.ownsRow w0.heap.size 52 7 (.slice r.a r.len r.cap) r.len (flatV enAc (D ++ [y]))) : Cli w0 (w1.setCell ⟨OA, i, none⟩ (.slice r.a r.len r.cap)) RA GA OA nc i AR hs r (D ++ [y]) s := by
  have kS := Keep.set w1 OA i (.slice r.a r.len r.cap) (fun j => j = OA) rfl
  have hg := c.grown h3 k
  refine ⟨kS.bk (k.bk c.rcp (fun e => by have := (c.own.lt _ e).1; omega)) hR, kS.bk (k.bk c.src (fun e => by have := (c.own.lt _ e).1; omega)) hG, ?_, own_keepS ho kS (fun j hj => by rw [hj]; exact h3), c.len, ?_⟩
  · have hx : (hs.set i h)[i]? = some h := by rw [List.getElem?_set_self (by rw [c.len]; exact hi)]
    have := hg.put1 enHr_len hx r 0 (by omega) (.slice r.a r.len r.cap) rfl
    rw [Nat.mul_one, Nat.add_zero, List.set_set] at this
    exact this
  · exact (c.keep.fresh k (fun j e => .inr (c.own.lt _ e).1)).trans (kS.mono (fun j e => .inl e))
end
set_option maxRecDepth 100000 in
set_option maxHeartbeats 16000000 in
theorem mops_any (cl tx op rw wq sc sd : Int) (hsd : okS sd) (w : World) : Calls Try.prog 7 #[.agg #[.int .i64 cl, .int .i64 tx, .int .i64 op, .int .i64 rw, .int .i64 wq, .int .i64 sc, .int .u64 sd]] w (OpsRet w (opsL cl tx op rw wq sc sd)) := by
  have hO : Below w.heap.size w (w.alloc (.cells #[.int .i64 cl, .int .i64 tx, .int .i64 op, .int .i64 rw, .int .i64 wq, .int .i64 sc, .int .u64 sd] 24)) := (Below.refl _ _).alloc (Nat.le_refl _) _
  have hR := Bk.new w 24 #[.int .i64 cl, .int .i64 tx, .int .i64 op, .int .i64 rw, .int .i64 wq, .int .i64 sc, .int .u64 sd]
  have HM := Lib.hid (fun W => mmay_any cl tx op rw wq sc sd W)
  cases hm : mayR cl tx op rw wq sc with
  | false =>
    have e : opsL cl tx op rw wq sc sd = [] := if_neg (by rw [hm]; simp)
    rw [hm] at HM
    rw [e]
    have q0 := hR.cell 0
    have q1 := hR.cell 1
    have q2 := hR.cell 2
    have q3 := hR.cell 3
    have q4 := hR.cell 4
    have q5 := hR.cell 5
    have q6 := hR.cell 6
    clear hR hm e
    go_enter Try.func7, Try.ntmps7
    go_wp2_with (go_at_call 9; refine (HM.out _).mono ?_; rintro e w1 ⟨rfl, hb1⟩)
    have HR : Hid (OpsRet w [] (.returned (.slice none 0 0)) w1) := Lib.hid ⟨none, 0, [], rfl, ⟨rfl, Nat.zero_le _, (by intro x h; cases h), fun h => absurd h (Nat.lt_irrefl 0)⟩, RowsR.nil _, fun _ => ⟨rfl, rfl⟩, ⟨Nat.le_refl _, Nat.zero_le _⟩, bl_then hO (Nat.le_refl _) hb1⟩
    go_ret
    exact HR.out
  | true =>
    have hb := (mayR_iff cl tx op rw wq sc).1 hm
    obtain ⟨⟨c1, c2⟩, ⟨t1, t2⟩, ⟨o1, o2⟩, ⟨r1, r2⟩, hww⟩ := hb
    have e : opsL cl tx op rw wq sc sd = (clN rw wq sc op.toNat tx.toNat cl.toNat sd).1 := if_pos hm
    rw [hm] at HM
    rw [e]
    obtain ⟨nc, rfl⟩ : ∃ n : Nat, cl = n := ⟨cl.toNat, by omega⟩
    obtain ⟨nt, rfl⟩ : ∃ n : Nat, tx = n := ⟨tx.toNat, by omega⟩
    obtain ⟨no, rfl⟩ : ∃ n : Nat, op = n := ⟨op.toNat, by omega⟩
    rw [show ((nc : Nat) : Int).toNat = nc by omega, show ((nt : Nat) : Int).toNat = nt by omega, show ((no : Nat) : Int).toNat = no by omega]
    have HONE := Lib.hid (fun (s : Int) (h : okS s) (g : Nat) W hg => one_any (nc : Int) (nt : Int) (no : Int) rw wq sc sd g s r1 r2 hww h.1 h.2 W hg)
    have HOK := Lib.hid (fun t s => txN_ok rw wq sc r1 r2 no t s)
    have HOKD := Lib.hid (fun n s => drawN_ok rw wq sc r1 r2 n s)
    have HOKO := Lib.hid (fun s => oneP_ok rw wq sc s r1 r2)
    have HRW := Lib.hid hww
    obtain ⟨i0, hi0, hz0, hz1, hz2⟩ := info_parts Try.infoAc
    have hnc : nc ≤ 8 := by omega
    have hnt : nt ≤ 8 := by omega
    have hno : no ≤ 6 := by omega
    have q0 := hR.cell 0
    have q1 := hR.cell 1
    have q2 := hR.cell 2
    have q3 := hR.cell 3
    have q4 := hR.cell 4
    have q5 := hR.cell 5
    have q6 := hR.cell 6
    have HR1 := Lib.hid hR
    have HSD := Lib.hid hsd
    clear hm e c1 c2 t1 t2 o1 o2 hww hR hsd r1 r2
    go_enter Try.func7, Try.ntmps7
    go_upto_region 3 with (go_at_call 9; refine (HM.out _).mono ?_; rintro e w1 ⟨rfl, hb1⟩)
    have hR1 := HR1.out.below hb1
    have hB1 := bl_then hO (Nat.le_refl _) hb1
    clear q0 q1 q2 q3 q4 q5 q6 hb1 HM HR1 hO
    obtain ⟨RA, hRA⟩ : ∃ b, b = w.heap.size := ⟨_, rfl⟩
    rw [← hRA] at hR1 ⊢
    have HRA := Lib.hid hRA
    clear hRA
    have q0 := hR1.cell 0
    have q6 := hR1.cell 6
    have al := (Below.refl w1.heap.size w1).alloc (Nat.le_refl _) (.cells #[.int .u64 sd] 61)
    have hR2 := hR1.below al
    have hG2 := Bk.new w1 61 #[.int .u64 sd]
    have hB2 := bl_then hB1 (Nat.le_refl _) al
    have hRG : RA < w1.heap.size := hR1.lt
    go_upto_region 5 with fail
    generalize w1.alloc (.cells #[.int .u64 sd] 61) = w2 at hR2 hG2 hB2 ⊢
    generalize w1.heap.size = GA at hG2 hRG ⊢
    clear hR1 al q0 q6 hB1
    obtain ⟨w3, hmk, hrow, hb3⟩ := make_hr nc (by omega) w2
    have q0 := hR2.cell 0
    have hR3 := hR2.below hb3
    have hG3 := hG2.below hb3
    have hB3 := bl_then hB2 (Nat.le_refl _) hb3
    have hGO : GA < w2.heap.size := hG2.lt
    clear hR2 hG2 hB2
    go_wp2_with fail
    obtain ⟨OA, hOA⟩ : ∃ b, b = w2.heap.size := ⟨_, rfl⟩
    rw [← hOA] at hrow hGO ⊢
    have HWR : Hid (w.heap.size ≤ RA) := Lib.hid (by rw [HRA.out]; exact Nat.le_refl _)
    have hRGn : ¬ RA = GA := by omega
    have hROn : ¬ RA = OA := by omega
    have hGOn : ¬ GA = OA := by omega
    have hOGn : ¬ OA = GA := by omega
    clear hOA hmk hb3 q0 HRA
    go_loopw [21] (fun c wr1 => ∃ (i : Nat) (hs : List Hr) (s : Int) (LL : List (List Ac)), i ≤ nc ∧ c = .int .i64 i ∧ Hid (clN rw wq sc no nt i sd = (LL, s)) ∧ okS s ∧ Hid (RowsR enAc okAc 7 wr1 hs (LL ++ List.replicate (nc - i) [])) ∧ Hid (∀ j, i ≤ j → j < nc → hs[j]? = some nilHr) ∧ Hid (hs.length = nc) ∧ Hid (∀ h ∈ hs, ∀ x, h.a = some x → 0 < h.len → x.block ≠ OA ∧ x.block ≠ GA) ∧ Bk wr1 RA 24 #[.int .i64 (nc : Int), .int .i64 (nt : Int), .int .i64 (no : Int), .int .i64 rw, .int .i64 wq, .int .i64 sc, .int .u64 sd] ∧ Bk wr1 GA 61 #[.int .u64 s] ∧ RowAt enHr 35 1 wr1 OA nc hs ∧ Below w.heap.size w wr1) (fun c _ => nc - (intOf c).toNat)
    case atStart => exact ⟨0, List.replicate nc nilHr, sd, [], by omega, rfl, Lib.hid rfl, HSD.out, Lib.hid (RowsR.nils w3 nc), Lib.hid (fun j _ hj => List.getElem?_replicate_of_lt hj), Lib.hid (by simp), Lib.hid (fun h hh x hx => by rw [List.eq_of_mem_replicate hh] at hx; cases hx), hR3, hG3, hrow, hB3⟩
    case round =>
      clear hR3 hG3 hrow hB3
      obtain ⟨i, hs, s, LL, hi, rfl, HCL, hos, HRR, HNIL, HLEN, HNE, hR, hG, hrow, HB⟩ := hrel
      by_cases hlt : i < nc
      · have hnil := HNIL.out i (Nat.le_refl _) hlt
        have hset : hs.set i nilHr = hs := by
          apply List.ext_getElem?
          intro j
          by_cases e : j = i
          · subst e; rw [List.getElem?_set_self (by rw [HLEN.out]; exact hlt), hnil]
          · rw [List.getElem?_set_ne (fun h => e h.symm)]
        have hC0 : Cli wr wr RA GA OA nc i #[.int .i64 (nc : Int), .int .i64 (nt : Int), .int .i64 (no : Int), .int .i64 rw, .int .i64 wq, .int .i64 sc, .int .u64 sd] hs nilHr [] s := ⟨hR, hG, by rw [hset]; exact hrow, World.ownsRow_nil _ _ _ _, HLEN.out, Keep.refl _ _⟩
        have q1 := hR.cell 1
        have hRo := hR.lt
        have hGo := hG.lt
        have hOo := hrow.lt
        have HB' := Lib.hid HB
        clear hnil hset hR hG hrow HB
        go_wp2_with fail
        obtain ⟨wo, hwo⟩ : ∃ wo : World, wo = wr := ⟨_, rfl⟩
        rw [← hwo] at hC0 hRo hGo hOo HB' HRR ⊢
        clear hwo q1
        have HNN : Hid (nilHr.len = 0) := Lib.hid rfl
        go_loopw [26] (fun c wr => ∃ (t : Nat) (h : Hr) (D : List Ac) (s2 : Int), t ≤ nt ∧ c = .int .i64 t ∧ Hid (txN rw wq sc no t s = (D, s2)) ∧ okS s2 ∧ Cli wo wr RA GA OA nc i #[.int .i64 (nc : Int), .int .i64 (nt : Int), .int .i64 (no : Int), .int .i64 rw, .int .i64 wq, .int .i64 sc, .int .u64 sd] hs h D s2) (fun c _ => nt - (intOf c).toNat)
        case atStart => exact ⟨0, nilHr, [], s, by omega, rfl, Lib.hid rfl, hos, hC0⟩
        case round =>
          clear hC0
          obtain ⟨t, h, D, s2, ht, rfl, HTX, hos2, HC⟩ := hrel
          have hlen : h.len = t * (no + 2) := by
            have h1 := txN_len rw wq sc no t s
            rw [HTX.out] at h1
            rw [← h1]
            have h2 := HC.own.1
            rw [flatV_len enAc_len] at h2
            exact (Nat.eq_of_mul_eq_mul_right (by omega) h2).symm
          by_cases hlt2 : t < nt
          · have hl64 : h.len ≤ 64 := by
              rw [hlen]
              exact Nat.le_trans (Nat.mul_le_mul (show t ≤ 8 by omega) (show no + 2 ≤ 8 by omega)) (by omega)
            clear hlen
            have c0 := HC.cell hlt
            have hsz := HC.keep.size
            have HHO := Lib.hid HC.own
            have HCC := Lib.hid HC
            have HOKT := Lib.hid (HOK.out t s)
            rw [HTX.out] at HOKT
            clear HC
            go_wp2_with (first
              | (at_builtin; go_loud (refine wpList_append_one enAc_len (by omega) enAc_one rfl _ _ 35 rfl wo.heap.size 52 i0 _ 56 Try.underlying35 hi0 hz0 hz1 hz2 rfl _ h.len D rfl HHO.out bgnA #[.int .i64 1, .int .i64 0, .int .i64 0, .int .i64 0, .int .i64 0, .int .i64 0, .int .i64 0] rfl 52 _ rfl rfl (by unfold maxLen; omega) (by omega) (hsz7 hsz) hsz ?_); intro v' w7 ho7 hb7 k7; obtain ⟨r7, rfl, hl7, _, _, _⟩ := own_hr (ok := okAc) enAc_len (by omega) ho7 (fun x hx => (List.mem_append.1 hx).elim (HOKT.out x) (fun hx => by rw [List.mem_singleton.1 hx]; exact okBgn)); rw [← hl7] at ho7; have cc7 := HCC.out.hcell hOo k7 hlt; have ff7 := HCC.out.hfrz hOo k7 i; have HC7 := Lib.hid (HCC.out.app hGo hRo hOo hROn hGOn hlt k7 ho7); have q2 := HC7.out.rcp.cell 2; clear ho7 hb7 k7 hl7))
            clear c0 cc7 ff7 q2
            go_loopw [40] (fun c wr => ∃ (k : Nat) (h : Hr) (E : List Ac) (s3 : Int), k ≤ no ∧ c = .int .i64 k ∧ Hid (drawN rw wq sc k s2 = (E, s3)) ∧ okS s3 ∧ Cli wo wr RA GA OA nc i #[.int .i64 (nc : Int), .int .i64 (nt : Int), .int .i64 (no : Int), .int .i64 rw, .int .i64 wq, .int .i64 sc, .int .u64 sd] hs h (D ++ [bgnA] ++ E) s3) (fun c _ => no - (intOf c).toNat)
            case atStart => exact ⟨0, r7, [], s2, by omega, rfl, Lib.hid rfl, hos2, by rw [List.append_nil]; exact HC7.out⟩
            case round =>
              clear HC7 HCC HHO
              obtain ⟨k, h, E, s3, hk, rfl, HDR, hos3, HC⟩ := hrel
              have hlenE : E.length = k := by have h1 := drawN_len rw wq sc k s2; rw [HDR.out] at h1; exact h1
              have hlenD : D.length ≤ 64 := by
                have h1 := txN_len rw wq sc no t s
                rw [HTX.out] at h1
                dsimp only at h1
                rw [h1]
                exact Nat.le_trans (Nat.mul_le_mul (show t ≤ 8 by omega) (show no + 2 ≤ 8 by omega)) (by omega)
              have hl80 : h.len ≤ 80 := by
                have h2 := HC.own.1
                rw [flatV_len enAc_len] at h2
                have h3 := Nat.eq_of_mul_eq_mul_right (by omega) h2
                rw [List.length_append, List.length_append, hlenE] at h3
                simp at h3
                omega
              have HOKE := Lib.hid (HOKD.out k s2)
              rw [HDR.out] at HOKE
              clear hlenE hlenD
              have c0 := HC.cell hlt
              have hsz := HC.keep.size
              by_cases hlt3 : k < no
              · have HS3 := Lib.hid hos3
                have HD := Lib.hid (below_drew wr)
                have HCD := Lib.hid (HC.below HD.out)
                have HC0 := Lib.hid HC
                have d0 := HCD.out.cell hlt
                have p0 := HC.rcp.cell 0
                have p1 := HC.rcp.cell 1
                have p2 := HC.rcp.cell 2
                have p3 := HC.rcp.cell 3
                have p4 := HC.rcp.cell 4
                have p5 := HC.rcp.cell 5
                have p6 := HC.rcp.cell 6
                have q0 := HCD.out.rcp.cell 0
                have q1 := HCD.out.rcp.cell 1
                have q2 := HCD.out.rcp.cell 2
                have q3 := HCD.out.rcp.cell 3
                have q4 := HCD.out.rcp.cell 4
                have q5 := HCD.out.rcp.cell 5
                have q6 := HCD.out.rcp.cell 6
                have HON := Lib.hid (fun W hg => HONE.out s3 HS3.out GA W hg)
                have HOO := Lib.hid (HOKO.out s3)
                have HNX : Hid (drawN rw wq sc (k + 1) s2 = (E ++ [(oneP rw wq sc s3).1], (oneP rw wq sc s3).2)) := Lib.hid (by rw [drawN, HDR.out])
                have HS4 : Hid (okS (oneP rw wq sc s3).2) := Lib.hid (oneP_seed _ _ _ _)
                generalize oneP rw wq sc s3 = oo at HON HOO HNX HS4
                obtain ⟨⟨o0, o1, o2, o3, o4, o5, o6⟩, s4⟩ := oo
                dsimp only at HON HOO HNX HS4
                have HON2 : Hid (∀ W, Bk W GA 61 #[.int .u64 s3] → Calls Try.prog 23 #[.agg #[.int .i64 (nc : Int), .int .i64 (nt : Int), .int .i64 (no : Int), .int .i64 rw, .int .i64 wq, .int .i64 sc, .int .u64 sd], .func (.func 22) #[.pointer (some ⟨GA, 0, none⟩)] #[]] W fun e w' => e = .returned (.agg #[.int .i64 o0, .int .i64 o1, .int .i64 o2, .int .i64 o3, .int .i64 o4, .int .i64 o5, .int .i64 o6]) ∧ Bk w' GA 61 #[.int .u64 s4] ∧ Keep (fun i => i = GA) W w') := Lib.hid (fun W hg => (HON.out W hg).mono fun e w' h => h)
                clear HON
                have M1 : True := trivial
                clear HC
                go_wp2_with fail
                go_region_law (first
                  | ((have m_ := M1; clear M1 m_); go_simp; refine (HON2.out _ HCD.out.src).mono ?_; rintro e w4 ⟨rfl, hg4, k4⟩; have HC4 := Lib.hid (HCD.out.one hGo hRGn hOGn hg4 k4); have c04 := HC4.out.cell hlt; have c05 := (HC4.out.below ((Below.refl w4.heap.size w4).alloc (Nat.le_refl _) (.cells #[.int .i64 o0, .int .i64 o1, .int .i64 o2, .int .i64 o3, .int .i64 o4, .int .i64 o5, .int .i64 o6] 52))).cell hlt; clear hg4 k4)
                  | (go_loud (refine step_append_lies _ (by rfl) _ _ 35 (by rfl) wo.heap.size 52 i0 _ 7 56 Try.underlying35 hi0 hz0 hz1 hz2 rfl (by omega) (.slice h.a h.len h.cap) h.len (flatV enAc (D ++ [bgnA] ++ E)) (by simp [Act.eval, Act.put]) (HC4.out.own.alloc _) ⟨w4.heap.size, 0, none⟩ 1 1 (enAc ⟨o0, o1, o2, o3, o4, o5, o6⟩) (by simp [Act.eval, Act.put]) (by rfl) (World.news_of_block (cs := #[.int .i64 o0, .int .i64 o1, .int .i64 o2, .int .i64 o3, .int .i64 o4, .int .i64 o5, .int .i64 o6]) (t := 52) (fr := (0, 0)) (heap_alloc_new w4 _)) (enAc_one ⟨o0, o1, o2, o3, o4, o5, o6⟩) (by omega) (by unfold maxLen; omega) (by omega) (by have := HC4.out.keep.size; simp; omega) (w4.heap.size + 1) (by simp) ?_)
                     intro g7 cap7 w7 hown7 hgrow7 hat7 hlt7
                     have k7 : Keep (fun k => (Value.slice h.a h.len h.cap).ownBlock = some k) w4 w7 := Keep.trans (Keep.alloc _ _ _) (grown_keep hgrow7 _ (fun k e => e))
                     have cc7 := HC4.out.hcell hOo k7 hlt
                     have ff7 := HC4.out.hfrz hOo k7 i
                     rw [← flatV_snoc] at hown7
                     have HC7 := Lib.hid (HC4.out.app (r := ⟨some ⟨g7, 0, none⟩, h.len + 1, cap7⟩) hGo hRo hOo hROn hGOn hlt k7 hown7)
                     clear hown7 hgrow7 hat7 hlt7 k7))
                all_goals
                  have hl81 : h.len + 1 ≤ 81 := by omega
                  have HC8 : Hid (Cli wo (w7.setCell ⟨OA, i, none⟩ (.slice (some ⟨g7, 0, none⟩) (h.len + 1) cap7)) RA GA OA nc i #[.int .i64 (nc : Int), .int .i64 (nt : Int), .int .i64 (no : Int), .int .i64 rw, .int .i64 wq, .int .i64 sc, .int .u64 sd] hs ⟨some ⟨g7, 0, none⟩, h.len + 1, cap7⟩ (D ++ [bgnA] ++ (E ++ [⟨o0, o1, o2, o3, o4, o5, o6⟩])) s4) := Lib.hid (by rw [← List.append_assoc]; exact HC7.out)
                  clear HC7 cc7 ff7 c04 c05 c0 d0 p0 p1 p2 p3 p4 p5 p6 q0 q1 q2 q3 q4 q5 q6
                  go_wp2_with fail
                  go_roundw
                  case rel => exact ⟨k + 1, ⟨some ⟨g7, 0, none⟩, h.len + 1, cap7⟩, E ++ [⟨o0, o1, o2, o3, o4, o5, o6⟩], s4, by omega, by go_num, HNX, HS4.out, HC8.out⟩
                  case measure => simp [intOf]; omega
              · obtain rfl : k = no := by omega
                have HHO := Lib.hid HC.own
                have HCC := Lib.hid HC
                clear HC
                go_wp2_with (first
                  | (at_builtin; go_loud (refine wpList_append_one enAc_len (by omega) enAc_one rfl _ _ 35 rfl wo.heap.size 52 i0 _ 56 Try.underlying35 hi0 hz0 hz1 hz2 rfl _ h.len (D ++ [bgnA] ++ E) rfl HHO.out cmtA #[.int .i64 6, .int .i64 0, .int .i64 0, .int .i64 0, .int .i64 0, .int .i64 0, .int .i64 0] rfl 52 _ rfl rfl (by unfold maxLen; omega) (by omega) (hsz7 hsz) hsz ?_); intro v' w7 ho7 hb7 k7; obtain ⟨r7, rfl, hl7, _, _, _⟩ := own_hr (ok := okAc) enAc_len (by omega) ho7 (fun x hx => (List.mem_append.1 hx).elim (fun hx => (List.mem_append.1 hx).elim (fun hx => (List.mem_append.1 hx).elim (HOKT.out x) (fun hx => by rw [List.mem_singleton.1 hx]; exact okBgn)) (HOKE.out x)) (fun hx => by rw [List.mem_singleton.1 hx]; exact okCmt)); rw [← hl7] at ho7; have cc7 := HCC.out.hcell hOo k7 hlt; have ff7 := HCC.out.hfrz hOo k7 i; have HC7 := Lib.hid (HCC.out.app hGo hRo hOo hROn hGOn hlt k7 ho7); have q2 := HC7.out.rcp.cell 2; clear ho7 hb7 k7 hl7))
                have HN : Hid (txN rw wq sc k (t + 1) s = (D ++ [bgnA] ++ E ++ [cmtA], s3)) := Lib.hid (by rw [txN, HTX.out]; dsimp only; rw [HDR.out])
                go_roundw
                case rel => exact ⟨t + 1, r7, D ++ [bgnA] ++ E ++ [cmtA], s3, by omega, by go_num, HN, hos3, HC7.out⟩
                case measure => simp [intOf]; omega
          · obtain rfl : t = nt := by omega
            have hLL : LL.length = i := by have h1 := clN_len rw wq sc no t i sd; rw [HCL.out] at h1; exact h1
            obtain ⟨r, er, hrl, hrs, hro, hrb⟩ := own_hr (ok := okAc) enAc_len (by omega) HC.own (fun x hx => by
              have h1 := HOK.out t s
              rw [HTX.out] at h1
              exact h1 x hx)
            obtain rfl : h = r := by injection er with e1 e2 e3; cases h; cases r; simp at e1 e2 e3; simp [e1, e2, e3]
            have HN : Hid (clN rw wq sc no t (i + 1) sd = (LL ++ [D], s2)) := Lib.hid (by rw [clN, HCL.out]; dsimp only; rw [HTX.out])
            have HRR2 : Hid (RowsR enAc okAc 7 wr (hs.set i h) ((LL ++ [D]) ++ List.replicate (nc - (i + 1)) [])) := Lib.hid (by
              have h1 := HRR.out.keepB HC.keep (fun j hj h hm x hx h0 => by
                have := HNE.out h hm x hx h0
                rcases hj with e | e
                · rw [e]; exact this.1
                · rw [e]; exact this.2)
              have h2 := h1.set i h D hrs hro
              have e : (LL ++ List.replicate (nc - i) []).set i D = (LL ++ [D]) ++ List.replicate (nc - (i + 1)) [] := by
                rw [show nc - i = (nc - (i + 1)) + 1 by omega, List.replicate_succ, ← hLL, List.set_append_right _ _ (Nat.le_refl _), Nat.sub_self, List.set_cons_zero, List.append_assoc]
                rfl
              rw [e] at h2
              exact h2)
            have HNIL2 : Hid (∀ j, i + 1 ≤ j → j < nc → (hs.set i h)[j]? = some nilHr) := Lib.hid (fun j h1 h2 => by
              rw [List.getElem?_set_ne (by omega)]
              exact HNIL.out j (by omega) h2)
            have HLEN2 : Hid ((hs.set i h).length = nc) := Lib.hid (by rw [List.length_set]; exact HLEN.out)
            have HNE2 : Hid (∀ h' ∈ hs.set i h, ∀ x, h'.a = some x → 0 < h'.len → x.block ≠ OA ∧ x.block ≠ GA) := Lib.hid (fun h' hm x hx h0 => by
              rcases List.mem_or_eq_of_mem_set hm with hm | rfl
              · exact HNE.out h' hm x hx h0
              · have := hrb x hx
                exact ⟨by omega, by omega⟩)
            have HB2 := Lib.hid (bl_keep HB'.out HC.keep (fun j hj => by have := HWR.out; rcases hj with e | e <;> omega))
            have HCC := Lib.hid HC
            clear HC hrs hro hrb er hrl HRR HNIL HNE hLL
            go_wp2_with fail
            go_roundw
            case rel => exact ⟨i + 1, hs.set i h, s2, LL ++ [D], by omega, by go_num, HN, hos2, HRR2, HNIL2, HLEN2, HNE2, HCC.out.rcp, HCC.out.src, HCC.out.hdr, HB2.out⟩
            case measure => simp [intOf]; omega
      · obtain rfl : i = nc := by omega
        have HRET : Hid (OpsRet w (clN rw wq sc no nt i sd).1 (.returned (.slice (some ⟨OA, 0, none⟩) i i)) wr) := Lib.hid (by
          have hLL : LL.length = i := by have h1 := clN_len rw wq sc no nt i sd; rw [HCL.out] at h1; exact h1
          rw [HCL.out]
          have h1 := HRR.out
          rw [Nat.sub_self, List.replicate_zero, List.append_nil] at h1
          have h2 := hrow.own (base := 0) enHr_len (Nat.zero_le _)
          rw [HLEN.out] at h2
          obtain ⟨A', c', e', hs', _, _⟩ := SR.own (ok := okHr) enHr_len (by omega) h2 (fun x hx => by
            obtain ⟨j, hj, e⟩ := List.getElem_of_mem hx
            have hj2 : j < LL.length := by rw [← h1.len]; exact hj
            exact (h1.row j x _ (by rw [List.getElem?_eq_getElem hj, e]) (List.getElem?_eq_getElem hj2)).2)
          injection e' with e1 _ _
          subst e1
          exact ⟨_, i, hs, by rw [hLL], by rw [hLL]; exact hs', h1, (fun h => by cases h), ⟨by rw [hLL]; exact Nat.le_refl _, by unfold maxLen; omega⟩, HB⟩)
        clear HRR HNE HNIL hrow
        go_wp2_with fail
        go_ret
        exact HRET.out
end Go.Proofs.Ytbdefhekkafihaa
