/- mix: Rows: the nodes of depth four that operations touch. No condition. -/
import Derived.Test.YtbdefhekkafihaaSrtP
import Derived.Test.YtbdefhekkafihaaStA
import Derived.Test.YtbdefhekkafihaaMapP
import Derived.Test.YtbdefhekkafihaaConAc
import Derived.Deep.Cut
set_option linter.unusedVariables false
set_option linter.unusedSimpArgs false
namespace Go.Proofs.Ytbdefhekkafihaa
open Go.RowKit (wrap32 wrap64)
open Go.RowKit Go.Shelf
theorem mixcmp_any (p q : Pt) (W : World) : Calls Try.prog 33 #[.agg (ptA p), .agg (ptA q)] W fun e w' => e = .returned (.int .i64 (cfP p q)) ∧ BP W w' := by
  obtain ⟨hO, hP, hQ⟩ := two_boxP p q W
  have hL := fun W1 => plessD_any p q W1
  have p0 := hP.cell 0
  have p1 := hP.cell 1
  have p2 := hP.cell 2
  have p3 := hP.cell 3
  have p4 := hP.cell 4
  have q0 := hQ.cell 0
  have q1 := hQ.cell 1
  have q2 := hQ.cell 2
  have q3 := hQ.cell 3
  have q4 := hQ.cell 4
  clear hP hQ
  cases hl : lessP p q with
  | true =>
    have HV : Hid (cfP p q = -1) := Lib.hid (if_pos hl)
    rw [hl] at hL
    have HL := Lib.hid hL
    clear hL hl
    go_enter Try.func33, Try.ntmps33
    go_wp2_with (go_at_call 34; refine (HL.out _).mono ?_; rintro e w1 ⟨rfl, hb1⟩)
    go_ret
    exact ⟨by rw [HV.out]; rfl, hO.trans hb1⟩
  | false =>
    have HV : Hid (cfP p q = 1) := Lib.hid (if_neg (by rw [hl]; simp))
    rw [hl] at hL
    have HL := Lib.hid hL
    clear hL hl
    go_enter Try.func33, Try.ntmps33
    go_wp2_with (go_at_call 34; refine (HL.out _).mono ?_; rintro e w1 ⟨rfl, hb1⟩)
    go_ret
    exact ⟨by rw [HV.out]; rfl, hO.trans hb1⟩
theorem cmpMix (blk off size : Nat) (w : World) : CmpLays Try.prog 33 #[] enVP 5 cfVP blk off size w :=
  fun m os dk _ x y => (mixcmp_any x.1 y.1 _).mono fun e w' ⟨he, hb⟩ => ⟨he, bd_growP hb⟩
def acP (x : Ac) : Pt := ⟨x.n0, x.n1, x.n2, x.n3, x.dep⟩
def rowsB (x : Ac) : Bool := mayP (acP x) && (x.dep == 4)
def leaves (L : List Ac) : List Pt := (L.filter rowsB).map acP
def rowsP (L : List Ac) : List Pt := sortG lessP (leaves L)
theorem leaves_may (L : List Ac) : ∀ p ∈ leaves L, mayP p = true := by
  intro p hp
  unfold leaves at hp
  obtain ⟨x, hx, rfl⟩ := List.mem_map.1 hp
  have := (List.mem_filter.1 hx).2
  unfold rowsB at this
  simp only [Bool.and_eq_true] at this
  exact this.1
theorem rowsP_srt (L : List Ac) : SrtP (rowsP L) := sortP_srt _ (leaves_may L)
theorem rowsP_mem (L : List Ac) (p : Pt) : p ∈ rowsP L ↔ p ∈ leaves L := sortG_mem lessP _ p
theorem leaves_take (L : List Ac) (k : Nat) (x : Ac) (h : L[k]? = some x) : leaves (L.take (k + 1)) = leaves (L.take k) ++ (if rowsB x = true then [acP x] else []) := by
  unfold leaves
  rw [take_snocG L k x h, List.filter_append, List.map_append]
  congr 1
  rw [List.filter_cons, List.filter_nil]
  split <;> rfl
/-- What is met of the first k operations. -/
structure MetR (L : List Ac) (k : Nat) (O : List Pt) : Prop where
  nd : O.Nodup
  mem : ∀ p, p ∈ O ↔ p ∈ leaves (L.take k)
  len : O.length ≤ k
theorem MetR.start (L : List Ac) : MetR L 0 [] := ⟨List.nodup_nil, fun p => by simp [leaves], Nat.le_refl _⟩
theorem MetR.no {L : List Ac} {k : Nat} {O : List Pt} {x : Ac} (h : MetR L k O) (hx : L[k]? = some x) (hb : rowsB x = false) : MetR L (k + 1) O := ⟨h.nd, fun p => by rw [leaves_take L k x hx, if_neg (by rw [hb]; simp), List.append_nil]; exact h.mem p, by have := h.len; omega⟩
theorem MetR.had {L : List Ac} {k : Nat} {O : List Pt} {x : Ac} (h : MetR L k O) (hx : L[k]? = some x) (hb : rowsB x = true) (hm : acP x ∈ O) : MetR L (k + 1) O := ⟨h.nd, fun p => by
  rw [leaves_take L k x hx, if_pos hb, List.mem_append, List.mem_singleton, ← h.mem p]
  exact ⟨fun h => .inl h, fun h => h.elim id (fun e => by rw [e]; exact hm)⟩, by have := h.len; omega⟩
theorem MetR.new {L : List Ac} {k : Nat} {O : List Pt} {x : Ac} (h : MetR L k O) (hx : L[k]? = some x) (hb : rowsB x = true) (hm : ¬ acP x ∈ O) : MetR L (k + 1) (O ++ [acP x]) := by
  refine ⟨?_, fun p => ?_, by rw [List.length_append]; have := h.len; simp; omega⟩
  · rw [List.nodup_append]
    exact ⟨h.nd, by simp, fun a ha b hb e => hm (by rw [← List.mem_singleton.1 hb, ← e]; exact ha)⟩
  · rw [leaves_take L k x hx, if_pos hb, List.mem_append, List.mem_append, h.mem p]
theorem MetR.perm {L : List Ac} {O : List Pt} (h : MetR L L.length O) : O.Perm (rowsP L) :=
  (List.perm_ext_iff_of_nodup h.nd (srtP_nodup (rowsP_srt L))).2 (fun p => by rw [h.mem p, List.take_length, rowsP_mem])
theorem memP_nil : (fun e => decide (e ∈ ([] : List Pt))) = fun _ => false := by funext e; simp
theorem memP_snoc (O : List Pt) (y : Pt) : (fun z => decide (z = y) || decide (z ∈ O)) = fun z => decide (z ∈ O ++ [y]) := by
  funext z
  rw [Bool.eq_iff_iff]
  simp [or_comm]
theorem okAc_pt {x : Ac} (h : okAc x) : okPt (acP x) := ⟨h.2.1, h.2.2.1, h.2.2.2.1, h.2.2.2.2.1, h.2.2.2.2.2.1⟩
abbrev acA (x : Ac) : Array Value := #[.int .i64 x.kind, .int .i64 x.n0, .int .i64 x.n1, .int .i64 x.n2, .int .i64 x.n3, .int .i64 x.dep, .int .i64 x.val]
theorem ac_box (x : Ac) (w : World) : Below w.heap.size w (w.alloc (.cells (acA x) 52)) ∧ Bk (w.alloc (.cells (acA x) 52)) w.heap.size 52 (acA x) := ⟨(Below.refl _ _).alloc (Nat.le_refl _) _, Bk.new w _ _⟩
theorem hszQ {a b : World} (h : a.heap.size ≤ b.heap.size) : Below a.heap.size b b := ⟨rfl, rfl, rfl, Nat.le_refl _, fun _ _ => rfl⟩
set_option maxRecDepth 100000 in
set_option maxHeartbeats 8000000 in
theorem mrows_any (a : Option Addr) (len cap : Nat) (hs : List Hr) (LL : List (List Ac)) (w : World) (hl : SR enHr okHr 1 w a len hs) (hr : RowsR enAc okAc 7 w hs LL) (hn : LL.flatten.length ≤ 10000) :
    Calls Try.prog 16 #[.slice a len cap] w (OwnRet enPt 50 5 w (rowsP LL.flatten)) := by
  obtain ⟨i0, hi0, hz0, hz1, hz2⟩ := info_parts Try.infoPt
  have al := (Below.refl w.heap.size w).alloc (Nat.le_refl _) (.map #[] 0)
  have HCON := Lib.hid (conAc_any a len cap hs LL _ (hl.below al) (hr.below al) (by omega))
  have hok : ∀ x ∈ LL.flatten, okAc x := by
    intro x hx
    obtain ⟨l, hl1, hxl⟩ := List.mem_flatten.1 hx
    obtain ⟨i, hi, e⟩ := List.getElem_of_mem hl1
    have hi2 : i < hs.length := by rw [hr.len]; exact hi
    exact (hr.row i hs[i] l (List.getElem?_eq_getElem hi2) (by rw [List.getElem?_eq_getElem hi, e])).1.all x hxl
  generalize LL.flatten = L at HCON hok hn ⊢
  generalize hm : L.length = m at hn
  have HM := Lib.hid hm
  have HOK := Lib.hid hok
  have hM0 := MapP.made w
  rw [← memP_nil] at hM0
  have hmk := fun W => run_makeMap (P := Try.prog) 71 W
  have HSZ : Hid ((w.alloc (.map #[] 0)).heap.size = w.heap.size + 1) := Lib.hid (World.size_alloc _ _)
  clear hl hr hok hm
  go_enter Try.func16, Try.ntmps16
  go_wp2_with (go_at_call 30; refine HCON.out.mono ?_; rintro e w2 ⟨v2, rfl, ho2, hb2⟩; rw [HM.out] at ho2; obtain ⟨A2, c2, rfl, hs2, _, hA2⟩ := SR.own (ok := okAc) enAc_len (by omega) ho2 HOK.out; rw [HSZ.out] at hA2; clear ho2)
  have hM2 := hM0.below hb2
  have hB2 := bl_then al (Nat.le_refl _) hb2
  have HS := Lib.hid hs2
  have hbs : w.heap.size < w2.heap.size := by have := hb2.size; have := HSZ.out; omega
  have HW0 : Hid (∃ z, z = w.heap.size) := Lib.hid ⟨_, rfl⟩
  obtain ⟨bm, hbm⟩ : ∃ b, b = w.heap.size := ⟨_, rfl⟩
  rw [← hbm] at hM2 hbs hA2 ⊢
  have HAB : Hid (∀ x, A2 = some x → ¬ x.block = bm) := Lib.hid (fun x hx => by have := hA2 x hx; omega)
  have HB2 := Lib.hid hB2
  have HBM := Lib.hid hbm
  clear hM0 al hb2 hs2 HCON HSZ hbm HW0 hA2 hB2
  go_loopw [4, 11] (fun s4 c wr => ∃ (k n : Nat) (O : List Pt), k ≤ m ∧ c = .int .i64 k ∧ Hid (MetR L k O) ∧ Hid (O.length = n) ∧ n ≤ k ∧ wr.ownsRow w2.heap.size 50 5 s4 n (flatV enPt O) ∧ MapP wr bm n (fun e => decide (e ∈ O)) ∧ Keep (fun i => i = bm) w2 wr) (fun _ c _ => m - (intOf c).toNat)
  case atStart => exact ⟨0, 0, [], by omega, rfl, Lib.hid (MetR.start L), Lib.hid rfl, Nat.le_refl _, World.ownsRow_nil _ _ _ _, hM2, Keep.refl _ _⟩
  case round =>
    clear hM2
    obtain ⟨k, n, O, hk, rfl, HMET, HON, hnk, ho, hMP, HB⟩ := hrel
    by_cases hlt : k < m
    · obtain ⟨b, off, x, rfl, hb, hx, hokx, d0, d1, d2, d3, d4, d5, d6⟩ := Ac_at (HS.out.keep HB HAB.out) hlt
      have HSW := Lib.hid HB.size
      obtain ⟨al, hBX⟩ := ac_box x wr
      have hMPa := hMP.below al
      have hBa := HB.trans (Keep.of_below al _)
      have hoa := own_below ho al
      have HMAY := Lib.hid (fun W => pmay_any (acP x) W)
      have HOKP := Lib.hid (okAc_pt hokx)
      have HNO := Lib.hid (fun h => HMET.out.no hx h)
      have HHAD := Lib.hid (fun h1 h2 => HMET.out.had hx h1 h2)
      have HNEW := Lib.hid (fun h1 h2 => HMET.out.new hx h1 h2)
      have q1 := hBX.cell 1
      have q2 := hBX.cell 2
      have q3 := hBX.cell 3
      have q4 := hBX.cell 4
      have q5 := hBX.cell 5
      have XC := Lib.hid (fun W (h : Below (wr.alloc (.cells (acA x) 52)).heap.size (wr.alloc (.cells (acA x) 52)) W) => hBX.below h)
      clear hx hokx hBX hMP HB ho al hb
      cases hmx : mayP (acP x) with
      | false =>
        have HM2 := Lib.hid (HNO.out (by unfold rowsB; rw [hmx]; rfl))
        rw [hmx] at HMAY
        clear hmx
        go_wp2_with (go_at_call 31; refine (HMAY.out _).mono ?_; rintro e w5 ⟨rfl, hb5⟩)
        go_roundw
        case rel => exact ⟨k + 1, n, O, by omega, by go_num, HM2, HON, by omega, own_below hoa hb5, hMPa.below hb5, hBa.trans (Keep.of_below hb5 _)⟩
        case measure => simp [intOf]; omega
      | true =>
        rw [hmx] at HMAY
        cases hd4 : (x.dep == 4) with
        | false =>
          have HM2 := Lib.hid (HNO.out (by unfold rowsB; rw [hmx, hd4]; rfl))
          clear hmx
          go_wp2_with (go_at_call 31; refine (HMAY.out _).mono ?_; rintro e w5 ⟨rfl, hb5⟩; have z5 := (XC.out _ hb5).cell 5)
          go_roundw
          case rel => exact ⟨k + 1, n, O, by omega, by go_num, HM2, HON, by omega, own_below hoa hb5, hMPa.below hb5, hBa.trans (Keep.of_below hb5 _)⟩
          case measure => simp [intOf]; omega
        | true =>
          have HRB : Hid (rowsB x = true) := Lib.hid (by unfold rowsB; rw [hmx, hd4]; rfl)
          clear hmx
          by_cases hmem : acP x ∈ O
          · have HM2 := Lib.hid (HHAD.out HRB.out hmem)
            have hdm : decide (acP x ∈ O) = true := decide_eq_true hmem
            have HDM := Lib.hid hdm
            clear hmem hdm
            go_wp2_with (go_at_call 31; refine (HMAY.out _).mono ?_; rintro e w5 ⟨rfl, hb5⟩; have z1 := (XC.out _ hb5).cell 1; have z2 := (XC.out _ hb5).cell 2; have z3 := (XC.out _ hb5).cell 3; have z4 := (XC.out _ hb5).cell 4; have z5 := (XC.out _ hb5).cell 5; have hlk : (Instr.lookup 71 (.map (some bm)) (.agg #[.int .i64 x.n0, .int .i64 x.n1, .int .i64 x.n2, .int .i64 x.n3, .int .i64 x.dep]) false).run Try.prog w5 = .ok (.bool (decide (acP x ∈ O))) w5 := (hMPa.below hb5).look (acP x) HOKP.out; rw [HDM.out] at hlk)
            go_roundw
            case rel => exact ⟨k + 1, n, O, by omega, by go_num, HM2, HON, by omega, own_below hoa hb5, hMPa.below hb5, hBa.trans (Keep.of_below hb5 _)⟩
            case measure => simp [intOf]; omega
          · have HM2 := Lib.hid (HNEW.out HRB.out hmem)
            have hdm : decide (acP x ∈ O) = false := decide_eq_false hmem
            have HDM := Lib.hid hdm
            have HMS := Lib.hid (memP_snoc O (acP x))
            have HON2 : Hid ((O ++ [acP x]).length = n + 1) := Lib.hid (by rw [List.length_append, HON.out]; rfl)
            have hws : w2.heap.size ≤ wr.heap.size := Nat.le_of_lt_succ (by have := hBa.size; rw [World.size_alloc] at this; have := HSW.out; omega)
            have hbX : bm < wr.heap.size := by omega
            clear hmem hdm
            go_upto_region 7 with (go_at_call 31; refine (HMAY.out _).mono ?_; rintro e w5 ⟨rfl, hb5⟩; have z1 := (XC.out _ hb5).cell 1; have z2 := (XC.out _ hb5).cell 2; have z3 := (XC.out _ hb5).cell 3; have z4 := (XC.out _ hb5).cell 4; have z5 := (XC.out _ hb5).cell 5; have hlk : (Instr.lookup 71 (.map (some bm)) (.agg #[.int .i64 x.n0, .int .i64 x.n1, .int .i64 x.n2, .int .i64 x.n3, .int .i64 x.dep]) false).run Try.prog w5 = .ok (.bool (decide (acP x ∈ O))) w5 := (hMPa.below hb5).look (acP x) HOKP.out; rw [HDM.out] at hlk)
            have hX5 := XC.out _ hb5
            have hM5 := hMPa.below hb5
            have hB5 := hBa.trans (Keep.of_below hb5 _)
            have ho5 := own_below hoa hb5
            clear q1 q2 q3 q4 q5 hlk XC hb5 hMPa hBa hoa
            generalize wr.heap.size = X at hX5 hbX z1 z2 z3 z4 z5 ⊢
            have HX5 := Lib.hid hX5
            have HO5 := Lib.hid ho5
            have HB5 := Lib.hid hB5
            have hXb : ¬ X = bm := by omega
            clear hX5 ho5 hB5
            go_upto_region 8 with (refine wpList_putP rfl (.tmp 31) (.tmp 33) (.const (.bool true)) rfl rfl hM5 (by unfold maxLen; omega) (acP x) rfl HOKP.out rfl ?_; intro w6 hM6 hk6; rw [HMS.out] at hM6; have HK6 := Lib.hid hk6; have HM6 := Lib.hid hM6; clear hk6 hM6)
            have hX6 := HK6.out.bk HX5.out hXb
            have HO6 := Lib.hid (own_keepS HO5.out HK6.out (fun i e => by rw [e]; exact hbs))
            have HB6 := Lib.hid (HB5.out.trans HK6.out)
            have HSZ6 : Hid (w2.heap.size ≤ w6.heap.size) := Lib.hid HB6.out.size
            have y1 := hX6.cell 1
            have y2 := hX6.cell 2
            have y3 := hX6.cell 3
            have y4 := hX6.cell 4
            have y5 := hX6.cell 5
            clear z1 z2 z3 z4 z5 hM5 HK6 hX6
            go_wp2_with (at_builtin; go_loud (refine wpList_append_one enPt_len (by omega) enPt_one rfl _ _ 46 rfl w2.heap.size 50 i0 _ 40 Try.underlying46 hi0 hz0 hz1 hz2 rfl _ n O rfl HO6.out (acP x) #[.int .i64 x.n0, .int .i64 x.n1, .int .i64 x.n2, .int .i64 x.n3, .int .i64 x.dep] rfl 50 _ rfl rfl (by unfold maxLen; omega) (by omega) (hszQ HSZ6.out) HSZ6.out ?_); intro v' w7 ho7 hb7 hk7; have HM7 := Lib.hid (HM6.out.keep hk7 (fun e => by have := (HO6.out.lt _ e).1; omega)); have HB7 := Lib.hid (HB6.out.fresh hk7 (fun i e => .inr (HO6.out.lt i e).1)); have HO7 := Lib.hid ho7; clear ho7 hb7 hk7)
            go_roundw
            case rel => exact ⟨k + 1, n + 1, O ++ [acP x], by omega, by go_num, HM2, HON2, by omega, HO7.out, HM7.out, HB7.out⟩
            case measure => simp [intOf]; omega
    · obtain rfl : k = m := by omega
      have HPM : Hid (O.Perm (rowsP L)) := Lib.hid (MetR.perm (by rw [HM.out]; exact HMET.out))
      have HSORT := Lib.hid (pathsort_any 33 (enters_of Try.func33 (by kernel_rfl) rfl) cmpMix w2.heap.size u4 n O (rowsP L) wr ho HPM.out (rowsP_srt L) (fun p hp => leaves_may L p ((rowsP_mem L p).1 hp)) (by omega))
      have HBW := Lib.hid (fun i e => (ho.lt i e).1)
      have HKK := Lib.hid HB
      clear ho hMP HB
      go_wp2_with (go_at_call 32; refine HSORT.out.mono ?_; rintro e w9 ⟨rfl, ho9, k9⟩)
      have HRET : Hid (OwnRet enPt 50 5 w (rowsP L) (.returned u4) w9) := Lib.hid ⟨u4, rfl, by rw [← HPM.out.length_eq, HON.out]; exact own_weaken ho9 (by have := HBM.out; omega), bl_keep (bl_keep HB2.out HKK.out (fun i e => by rw [e, HBM.out]; exact Nat.le_refl _)) k9 (fun i e => by have := HBW.out i e; have := HBM.out; omega)⟩
      go_ret
      exact HRET.out
end Go.Proofs.Ytbdefhekkafihaa
