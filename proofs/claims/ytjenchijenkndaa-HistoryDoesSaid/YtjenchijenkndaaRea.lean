/- Who reaches itself: the reference's From, Nodes, Has, Reach, On. No condition. -/
import Derived.Test.YtjenchijenkndaaEgS
set_option linter.unusedVariables false
set_option linter.unusedSimpArgs false
namespace Go.Proofs.Ytjenchijenkndaa
open Go.RowKit (wrap32 wrap64)
open Go.RowKit Go.Shelf Go.Sort
theorem wpList_append_lit {α : Type} {enc : α → List Value} {s : Nat} (he : ∀ a, (enc a).length = s) (hs0 : 0 < s) (h1 : ∀ x, ∀ u ∈ enc x, u.oneCell' = true) {P : Program} {w0 wi : World} {ops : Array Oper} {rest : List Oper} {o : Oper} {a : Act} {Q : Exit → Act → World → Prop} (hgd : o.guard = none) (sl x : Operand) (t : TypeId)
    (ho : o.op = .call { callee := .builtin .append, args := #[sl, x], argTypes := #[t, t] })
    (base : Nat) (e : TypeId) (i : TypeInfo) (z : Value) (bytes : Nat) (ht : P.underlying t = some (.slice e)) (hi : P.info? e = some i) (hz : i.zero = some z) (hsize : i.size = s) (hby : i.bytes = bytes) (hzs : z.cells.size = s)
    (v : Value) (n : Nat) (L : List α) (hs : a.eval sl = v) (hown : w0.ownsRow base e s v n (flatV enc L))
    (ys : List α) (m : Nat) (hm : ys.length = m) (cs : Array Value) (hcs : cs.toList = flatV enc ys) (t' : TypeId) (g : Nat) (hx : a.eval x = .slice (some ⟨g, 0, none⟩) m m) (hg : g = w0.heap.size)
    (h63 : n + m ≤ maxLen) (hbytes : (n + m) * bytes ≤ 140737488355328) (HB : Below base wi w0) (hbase : base ≤ w0.heap.size)
    (h : ∀ v' w', w'.ownsRow base e s v' (n + m) (flatV enc (L ++ ys)) → Below base wi w' → Keep (fun k => v.ownBlock = some k) w0 w' → wpList P ops Q rest (a.put o.dst v') w') : wpList P ops Q (o :: rest) a (w0.alloc (.cells cs t')) := by
  subst hg
  refine wpList_append_own _ hgd sl x t ho base e i z s bytes ht hi hz hsize hby hzs hs0 v n _ hs (hown.alloc _) ⟨w0.heap.size, 0, none⟩ m m (flatV enc ys) hx (by rw [flatV_len he, hm]) ?_ (flatV_one h1 _) h63 hbytes (by simp; omega) ?_
  · intro j u hu
    have hadd : (⟨w0.heap.size, 0, none⟩ : Addr).add j = ⟨w0.heap.size, j, none⟩ := by unfold Addr.add; split <;> simp_all
    rw [hadd, (Bk.new w0 t' cs).cell j]
    rw [← hcs] at hu
    simpa using hu
  · intro v' w' h2 h3 _
    rw [← flatV_append] at h2
    have hB1 : Below base wi (w0.alloc (.cells cs t')) := HB.alloc hbase _
    refine h v' w' h2 (hB1.grown h3 (by simp; omega) (fun k hk => ?_)) (Keep.trans (Keep.alloc _ _ _) (grown_keep h3 _ (fun k hk => hk)))
    rcases hown.2 with ⟨rfl, _⟩ | ⟨g, cap, cur, rfl, hb, _⟩
    · cases hk
    · cases hk; exact hb
def toE (E : List Eg) (x : Int) : List Int := (E.filter fun e => e.src == x).map Eg.dst
def fromE (E : List Eg) (x : Int) : List Int := numI (toE E x)
def endE (E : List Eg) : List Int := E.flatMap fun e => [e.src, e.dst]
def nodesE (E : List Eg) : List Int := numI (endE E)
def moreE (E : List Eg) (D : List Int) : List Int := D.flatMap (fromE E)
def reachF (E : List Eg) (x : Int) : Nat → List Int
  | 0 => fromE E x
  | t + 1 => numI (reachF E x t ++ moreE E (reachF E x t))
def reachE (E : List Eg) (x : Int) : List Int := reachF E x E.length
def onE (E : List Eg) : List Int := (nodesE E).filter fun x => (reachE E x).any fun y => y == x
theorem toE_mem {E : List Eg} {x y : Int} : y ∈ toE E x ↔ (⟨x, y⟩ : Eg) ∈ E := by
  unfold toE
  rw [List.mem_map]
  constructor
  · rintro ⟨e, he, rfl⟩
    rw [List.mem_filter, beq_iff_eq] at he
    obtain ⟨h1, rfl⟩ := he
    exact h1
  · intro h
    exact ⟨_, List.mem_filter.2 ⟨h, by simp⟩, rfl⟩
theorem fromE_mem {E : List Eg} {x y : Int} : y ∈ fromE E x ↔ (⟨x, y⟩ : Eg) ∈ E := by unfold fromE; rw [numI_mem, toE_mem]
theorem reachF_mem (E : List Eg) (x y : Int) (t : Nat) : y ∈ reachF E x t ↔ ∃ n, n ≤ t ∧ walkE E n x y := by
  induction t generalizing y with
  | zero =>
    unfold reachF
    rw [fromE_mem]
    constructor
    · intro h; exact ⟨0, by omega, h⟩
    · rintro ⟨n, hn, h⟩
      obtain rfl : n = 0 := by omega
      exact h
  | succ t ih =>
    unfold reachF moreE
    rw [numI_mem, List.mem_append, List.mem_flatMap, ih]
    constructor
    · rintro (⟨n, h1, h2⟩ | ⟨z, h1, h2⟩)
      · exact ⟨n, by omega, h2⟩
      · obtain ⟨n, h3, h4⟩ := (ih z).1 h1
        exact ⟨n + 1, by omega, z, h4, fromE_mem.1 h2⟩
    · rintro ⟨n, h1, h2⟩
      by_cases e : n ≤ t
      · exact .inl ⟨n, e, h2⟩
      · obtain rfl : n = t + 1 := by omega
        obtain ⟨z, h3, h4⟩ := h2
        exact .inr ⟨z, (ih z).2 ⟨t, by omega, h3⟩, fromE_mem.2 h4⟩
theorem walkE_src {E : List Eg} {n : Nat} {x y : Int} (h : walkE E n x y) : ∃ e ∈ E, e.src = x := by
  induction n generalizing y with
  | zero => exact ⟨⟨x, y⟩, h, rfl⟩
  | succ n ih => obtain ⟨z, h1, _⟩ := h; exact ih h1
theorem onE_nil (E : List Eg) : decide ((onE E).length = 0) = acyE E := by
  rw [Bool.eq_iff_iff, decide_eq_true_iff]
  constructor
  · intro h
    cases ha : acyE E with
    | true => rfl
    | false =>
      exfalso
      obtain ⟨x, n, hn, hw⟩ := (acy_ring E).1 ha
      have hm : x ∈ onE E := by
        unfold onE
        rw [List.mem_filter, List.any_eq_true]
        refine ⟨?_, x, ?_, by simp⟩
        · unfold nodesE endE
          rw [numI_mem, List.mem_flatMap]
          obtain ⟨e, he, hs⟩ := walkE_src hw
          exact ⟨e, he, by simp [hs]⟩
        · unfold reachE
          rw [reachF_mem]
          exact ⟨n, by omega, hw⟩
      rw [List.length_eq_zero_iff] at h
      rw [h] at hm
      cases hm
  · intro ha
    rw [List.length_eq_zero_iff, List.eq_nil_iff_forall_not_mem]
    intro x hx
    unfold onE at hx
    rw [List.mem_filter, List.any_eq_true] at hx
    obtain ⟨_, y, hy, e⟩ := hx
    rw [beq_iff_eq] at e
    subst e
    unfold reachE at hy
    rw [reachF_mem] at hy
    obtain ⟨n, _, hw⟩ := hy
    obtain ⟨C, hC⟩ := ring_onW hw
    have := (acyE_iff E).2 ⟨C, hC⟩
    rw [ha] at this; cases this
theorem toE_take (E : List Eg) (k : Nat) (x : Int) (e : Eg) (h : E[k]? = some e) : toE (E.take (k + 1)) x = toE (E.take k) x ++ (if e.src = x then [e.dst] else []) := by
  unfold toE
  rw [take_snocG E k e h, List.filter_append, List.map_append]
  congr 1
  by_cases hx : e.src = x
  · simp [hx]
  · simp [hx]
theorem toE_len (E : List Eg) (x : Int) : (toE E x).length ≤ E.length := by unfold toE; rw [List.length_map]; exact List.length_filter_le _ _
theorem endE_take (E : List Eg) (k : Nat) (e : Eg) (h : E[k]? = some e) : endE (E.take (k + 1)) = endE (E.take k) ++ [e.src, e.dst] := by
  unfold endE
  rw [take_snocG E k e h, List.flatMap_append]
  simp
theorem endE_len (E : List Eg) : (endE E).length = 2 * E.length := by
  unfold endE
  induction E with
  | nil => rfl
  | cons e E ih => rw [List.flatMap_cons, List.length_append, ih, List.length_cons]; simp; omega
theorem nodup_len {D M : List Int} (h : D.Nodup) (hs : ∀ x ∈ D, x ∈ M) : D.length ≤ M.length := h.length_le_of_subset hs
theorem fromE_len (E : List Eg) (x : Int) : (fromE E x).length ≤ E.length := by
  have := nodup_len (D := fromE E x) (M := toE E x) (numI_nodup _) (fun y hy => (numI_mem _ _).1 hy)
  exact Nat.le_trans this (toE_len E x)
theorem reachF_dst (E : List Eg) (x y : Int) (t : Nat) (h : y ∈ reachF E x t) : y ∈ E.map Eg.dst := by
  obtain ⟨n, _, hw⟩ := (reachF_mem E x y t).1 h
  cases n with
  | zero => exact List.mem_map.2 ⟨_, hw, rfl⟩
  | succ n => obtain ⟨z, _, h2⟩ := hw; exact List.mem_map.2 ⟨_, h2, rfl⟩
theorem reachF_len (E : List Eg) (x : Int) (t : Nat) : (reachF E x t).length ≤ E.length := by
  have hnd : (reachF E x t).Nodup := by cases t <;> exact numI_nodup _
  have := nodup_len hnd (fun y hy => reachF_dst E x y t hy)
  simpa using this
theorem moreE_len (E : List Eg) (D : List Int) : (moreE E D).length ≤ D.length * E.length := by
  unfold moreE
  induction D with
  | nil => simp
  | cons d D ih =>
    rw [List.flatMap_cons, List.length_append, List.length_cons, Nat.add_mul]
    have := fromE_len E d
    omega
theorem moreE_take (E : List Eg) (D : List Int) (k : Nat) (d : Int) (h : D[k]? = some d) : moreE E (D.take (k + 1)) = moreE E (D.take k) ++ fromE E d := by
  unfold moreE
  rw [take_snocG D k d h, List.flatMap_append]
  simp
set_option maxRecDepth 100000 in
set_option maxHeartbeats 4000000 in
theorem rfrom_any (a : Option Addr) (len cap : Nat) (L : List Eg) (x : Int) (w : World) (hl : Egs w a len L) (hn : len ≤ 1000) :
    Calls Try.prog 69 #[.slice a len cap, .int .i64 x] w (OwnRet enI 3 1 w (fromE L x)) := by
  obtain ⟨i0, hi0, hz0, hz1, hz2⟩ := info_parts Try.infoI
  have HLN := Lib.hid hl.len
  have HL := Lib.hid hl
  clear hl
  go_enter Try.func69, Try.ntmps69
  go_wp2_with fail
  go_loopw [5, 10] (fun s5 c wr => ∃ (k n : Nat) (D : List Int), k ≤ len ∧ c = .int .i64 k ∧ Hid (toE (L.take k) x = D) ∧ Hid (D.length = n) ∧ n ≤ k ∧ wr.ownsRow w.heap.size 3 1 s5 n (flatV enI D) ∧ Below w.heap.size w wr) (fun _ c _ => len - (intOf c).toNat)
  case atStart => exact ⟨0, 0, [], by omega, rfl, Lib.hid rfl, Lib.hid rfl, Nat.le_refl _, World.ownsRow_nil _ _ _ _, Below.refl _ _⟩
  case round =>
    obtain ⟨k, n, D, hk, rfl, HD, HDN, hnk, ho, HB⟩ := hrel
    by_cases hlt : k < len
    · obtain ⟨b, off, e, rfl, hb, he, hoke, d0, d1⟩ := Eg_at (HL.out.below HB) hlt
      obtain ⟨al, hbe⟩ := eg_boxN e wr
      have hB1 := bl_then HB (Nat.le_refl _) al
      have ho1 := own_below ho al
      have q0 := hbe.cell 0
      have q1 := hbe.cell 1
      have HTK := Lib.hid (toE_take L k x e he)
      clear he hoke hb HB ho al hbe
      by_cases hx : e.src = x
      · have hxb : (e.src == x) = true := beq_iff_eq.2 hx
        have HN : Hid (toE (L.take (k + 1)) x = D ++ [e.dst]) := Lib.hid (by rw [HTK.out, HD.out, if_pos hx])
        have HN2 : Hid ((D ++ [e.dst]).length = n + 1) := Lib.hid (by rw [List.length_append, HDN.out]; rfl)
        clear hx
        go_upto_region 6 with fail
        generalize wr.alloc (.cells (egA e) 40) = w5 at hB1 ho1 q0 q1 ⊢
        go_wp2_with (at_builtin; go_loud (refine wpList_append_one enI_len (by omega) enI_one rfl _ _ 35 rfl w.heap.size 3 i0 _ 8 Try.underlying35 hi0 hz0 hz1 hz2 rfl _ n D rfl ho1 e.dst #[.int .i64 e.dst] rfl 3 _ rfl rfl (by unfold maxLen; omega) (by omega) hB1 hB1.size ?_; intro v' w7 ho' hb7 k7))
        go_roundw
        case rel => exact ⟨k + 1, n + 1, D ++ [e.dst], by omega, by go_num, HN, HN2, by omega, ho', hb7⟩
        case measure => simp [intOf]; omega
      · have hxb : (e.src == x) = false := beq_eq_false_iff_ne.2 hx
        have HN : Hid (toE (L.take (k + 1)) x = D) := Lib.hid (by rw [HTK.out, HD.out, if_neg hx, List.append_nil])
        clear hx
        go_wp2_with fail
        go_roundw
        case rel => exact ⟨k + 1, n, D, by omega, by go_num, HN, HDN, by omega, ho1, hB1⟩
        case measure => simp [intOf]; omega
    · obtain rfl : k = len := by omega
      obtain ⟨A5, c5, rfl, hi5⟩ := ints_own ho
      have HT : Hid (toE L x = D) := Lib.hid (by have := HD.out; rw [List.take_of_length_le (by rw [HLN.out]; exact Nat.le_refl _)] at this; exact this)
      have HNM := Lib.hid (nums_any A5 n c5 D wr hi5 (by omega))
      clear ho hi5
      go_wp2_with (go_at_call 68; refine HNM.out.mono ?_; rintro e w2 ⟨v2, rfl, ho2, hb2⟩; obtain ⟨A2, c2, rfl⟩ := own_slice ho2)
      have HR : Hid (OwnRet enI 3 1 w (fromE L x) (.returned (.slice A2 (numI D).length c2)) w2) := Lib.hid (by
        unfold fromE
        rw [HT.out]
        exact ⟨_, rfl, own_weaken ho2 HB.size, bl_then HB (Nat.le_refl _) hb2⟩)
      go_ret
      exact HR.out
set_option maxRecDepth 100000 in
set_option maxHeartbeats 4000000 in
theorem rnodes_any (a : Option Addr) (len cap : Nat) (L : List Eg) (w : World) (hl : Egs w a len L) (hn : len ≤ 1000) :
    Calls Try.prog 53 #[.slice a len cap] w (OwnRet enI 3 1 w (nodesE L)) := by
  obtain ⟨i0, hi0, hz0, hz1, hz2⟩ := info_parts Try.infoI
  have HLN := Lib.hid hl.len
  have HL := Lib.hid hl
  clear hl
  go_enter Try.func53, Try.ntmps53
  go_wp2_with fail
  go_loopw [3, 8] (fun s5 c wr => ∃ (k n : Nat) (D : List Int), k ≤ len ∧ c = .int .i64 k ∧ Hid (endE (L.take k) = D) ∧ Hid (D.length = n) ∧ n ≤ 2 * k ∧ wr.ownsRow w.heap.size 3 1 s5 n (flatV enI D) ∧ Below w.heap.size w wr) (fun _ c _ => len - (intOf c).toNat)
  case atStart => exact ⟨0, 0, [], by omega, rfl, Lib.hid rfl, Lib.hid rfl, Nat.le_refl _, World.ownsRow_nil _ _ _ _, Below.refl _ _⟩
  case round =>
    obtain ⟨k, n, D, hk, rfl, HD, HDN, hnk, ho, HB⟩ := hrel
    by_cases hlt : k < len
    · obtain ⟨b, off, e, rfl, hb, he, hoke, d0, d1⟩ := Eg_at (HL.out.below HB) hlt
      obtain ⟨al, hbe⟩ := eg_boxN e wr
      have hB1 := bl_then HB (Nat.le_refl _) al
      have ho1 := own_below ho al
      have q0 := hbe.cell 0
      have q1 := hbe.cell 1
      have HN : Hid (endE (L.take (k + 1)) = D ++ [e.src, e.dst]) := Lib.hid (by rw [endE_take L k e he, HD.out])
      have HN2 : Hid ((D ++ [e.src, e.dst]).length = n + 2) := Lib.hid (by rw [List.length_append, HDN.out]; rfl)
      clear he hoke hb HB ho al hbe
      go_upto_region 5 with fail
      generalize wr.alloc (.cells (egA e) 40) = w5 at hB1 ho1 q0 q1 ⊢
      go_wp2_with (at_builtin; go_loud (refine wpList_append_lit enI_len (by omega) enI_one rfl _ _ 35 rfl w.heap.size 3 i0 _ 8 Try.underlying35 hi0 hz0 hz1 hz2 rfl _ n D rfl ho1 [e.src, e.dst] 2 rfl #[.int .i64 e.src, .int .i64 e.dst] rfl 3 _ rfl rfl (by unfold maxLen; omega) (by omega) hB1 hB1.size ?_; intro v' w7 ho' hb7 k7))
      go_roundw
      case rel => exact ⟨k + 1, n + 2, D ++ [e.src, e.dst], by omega, by go_num, HN, HN2, by omega, ho', hb7⟩
      case measure => simp [intOf]; omega
    · obtain rfl : k = len := by omega
      obtain ⟨A5, c5, rfl, hi5⟩ := ints_own ho
      have HT : Hid (endE L = D) := Lib.hid (by have := HD.out; rw [List.take_of_length_le (by rw [HLN.out]; exact Nat.le_refl _)] at this; exact this)
      have HNM := Lib.hid (nums_any A5 n c5 D wr hi5 (by omega))
      clear ho hi5
      go_wp2_with (go_at_call 68; refine HNM.out.mono ?_; rintro e w2 ⟨v2, rfl, ho2, hb2⟩; obtain ⟨A2, c2, rfl⟩ := own_slice ho2)
      have HR : Hid (OwnRet enI 3 1 w (nodesE L) (.returned (.slice A2 (numI D).length c2)) w2) := Lib.hid (by
        unfold nodesE
        rw [HT.out]
        exact ⟨_, rfl, own_weaken ho2 HB.size, bl_then HB (Nat.le_refl _) hb2⟩)
      go_ret
      exact HR.out
def hasT (L : List Int) (x : Int) : Bool := L.any fun y => y == x
set_option maxHeartbeats 2000000 in
theorem rhas_any (a : Option Addr) (len cap : Nat) (L : List Int) (x : Int) (w : World) (hl : Ints w a len L) :
    Calls Try.prog 54 #[.slice a len cap, .int .i64 x] w fun e w' => e = .returned (.bool (hasT L x)) ∧ Below w.heap.size w w' := by
  have hlm := hl.le
  have HLN := Lib.hid hl.len
  have HYES : Hid (∀ k y, L[k]? = some y → y = x → hasT L x = true) := Lib.hid (fun k y hy e => List.any_eq_true.2 ⟨y, List.mem_of_getElem? hy, by simp [e]⟩)
  have HNO : Hid ((∀ k y, L[k]? = some y → y ≠ x) → hasT L x = false) := Lib.hid (fun h => List.any_eq_false.2 (fun y hy => by
    obtain ⟨k, hk, e⟩ := List.getElem_of_mem hy
    simpa using h k y (by rw [List.getElem?_eq_getElem hk, e])))
  generalize hasT L x = r at HYES HNO ⊢
  go_enter Try.func54, Try.ntmps54
  go_wp2_with fail
  go_loop [9] (fun c => ∃ k : Nat, k ≤ len ∧ c = .int .i64 k ∧ Hid (∀ j y, j < k → L[j]? = some y → y ≠ x)) (fun c => len - (intOf c).toNat)
  case atStart => exact ⟨0, by omega, rfl, Lib.hid (fun j y h => by omega)⟩
  case round =>
    obtain ⟨k, hk, rfl, HN⟩ := hrel
    by_cases hlt : k < len
    · obtain ⟨b, off, rfl, d0⟩ := hl.get hlt
      obtain ⟨y, hy⟩ : ∃ y, L[k]? = some y := ⟨_, List.getElem?_eq_getElem (by rw [HLN.out]; exact hlt)⟩
      rw [show L.getD k 0 = y by rw [List.getD_eq_getElem?_getD, hy]; rfl] at d0
      by_cases e : y = x
      · have HV := Lib.hid (HYES.out k y hy e)
        have hb : (y == x) = true := beq_iff_eq.2 e
        clear hy e hl
        go_wp2_with fail
        go_ret
        exact ⟨by rw [HV.out]; rfl, Below.refl _ _⟩
      · have HN2 : Hid (∀ j z, j < k + 1 → L[j]? = some z → z ≠ x) := Lib.hid (fun j z hj hz => by
          by_cases e2 : j = k
          · subst e2; rw [hy] at hz; cases hz; exact e
          · exact HN.out j z (by omega) hz)
        have hb : (y == x) = false := beq_eq_false_iff_ne.2 e
        clear hy e
        go_wp2_with fail
        go_round
        case rel => exact ⟨k + 1, by omega, by go_num, HN2⟩
        case measure => simp [intOf]; omega
    · obtain rfl : k = len := by omega
      have HV := Lib.hid (HNO.out (fun j y hy => HN.out j y (by have := (List.getElem?_eq_some_iff.1 hy).1; have := HLN.out; omega) hy))
      clear hl
      go_wp2_with fail
      go_ret
      exact ⟨by rw [HV.out]; rfl, Below.refl _ _⟩
end Go.Proofs.Ytjenchijenkndaa
