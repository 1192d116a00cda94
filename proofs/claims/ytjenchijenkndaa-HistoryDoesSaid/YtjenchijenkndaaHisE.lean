/- history: Strict of any events, by the program and by the reference. No condition. -/
import Derived.Test.YtjenchijenkndaaHisC
import Derived.Test.YtjenchijenkndaaSeA
import Derived.Lib.QuietBelow
import Derived.ScopeJumps
import Derived.Deep.Cut
import Derived.Deep.RegionWith
import Derived.Deep.RegionHeld3
set_option linter.unusedVariables false
set_option linter.unusedSimpArgs false
namespace Go.Proofs.Ytjenchijenkndaa
open Go.RowKit (wrap32 wrap64)
open Go.RowKit
theorem okEv_pt {x : Ev} (h : okEv x) : okPt (evP x) := ⟨h.2.2.1, h.2.2.2.1, h.2.2.2.2.1, h.2.2.2.2.2.1, h.2.2.2.2.2.2.1⟩
/-- Whether the two at i and k break it. -/
def badS (L : List Ev) (i k : Nat) : Bool :=
  match L[i]?, L[k]? with
  | some x, some y => wrE x && (clashE x y && (decide (endI Ev.tx cmE edE L x.tx ≤ i) || decide (endI Ev.tx cmE edE L x.tx ≥ k)))
  | _, _ => false
def strictE (L : List Ev) : Bool := (List.range L.length).all fun k => (List.range k).all fun i => !badS L i k
theorem strict_iff (L : List Ev) : strictE L = true ↔ ∀ i k, i < k → k < L.length → badS L i k = false := by
  unfold strictE
  simp only [List.all_eq_true, List.mem_range, Bool.not_eq_true']
  exact ⟨fun h i k a b => h k b i a, fun h k b i a => h i k a b⟩
theorem strict_no {L : List Ev} {i k : Nat} (h1 : i < k) (h2 : k < L.length) (h : badS L i k = true) : strictE L = false := by
  cases hs : strictE L with
  | false => rfl
  | true => rw [(strict_iff L).1 hs i k h1 h2] at h; cases h
theorem bad_at {L : List Ev} {i k : Nat} {x y : Ev} (hx : L[i]? = some x) (hy : L[k]? = some y) : badS L i k = (wrE x && (clashE x y && (decide (endI Ev.tx cmE edE L x.tx ≤ i) || decide (endI Ev.tx cmE edE L x.tx ≥ k)))) := by
  unfold badS; rw [hx, hy]
theorem bad_wr {L : List Ev} {i : Nat} {x : Ev} (hx : L[i]? = some x) (hw : wrE x = false) (k : Nat) : badS L i k = false := by
  unfold badS; rw [hx]
  cases L[k]? with
  | none => rfl
  | some y => show (wrE x && _) = false; rw [hw]; rfl
theorem strict_step {L : List Ev} {n k : Nat} (h : ∀ i j, i < k → i < j → j < n → badS L i j = false) (h2 : ∀ j, k < j → j < n → badS L k j = false) : ∀ i j, i < k + 1 → i < j → j < n → badS L i j = false := fun i j a b c => by
  by_cases e : i = k
  · subst e; exact h2 j b c
  · exact h i j (by omega) b c
theorem in_step {p : Nat → Bool} {k j : Nat} (h : ∀ i, k < i → i < j → p i = false) (hj : p j = false) : ∀ i, k < i → i < j + 1 → p i = false := fun i a b => by
  by_cases e : i = j
  · subst e; exact hj
  · exact h i a (by omega)
theorem lo_step {p : Nat → Bool} {j : Nat} (h : ∀ i, i < j → p i = false) (hj : p j = false) : ∀ i, i < j + 1 → p i = false := fun i b => by
  by_cases e : i = j
  · subst e; exact hj
  · exact h i (by omega)
set_option maxRecDepth 100000 in
set_option maxHeartbeats 8000000 in
theorem pstrict_any (a : Option Addr) (len cap : Nat) (L : List Ev) (w : World) (hl : Evs w a len L) (hn : len ≤ 1000) :
    Calls Try.prog 7 #[.slice a len cap] w fun e w' => e = .returned (.bool (strictE L)) ∧ Below w.heap.size w w' := by
  have HLN := Lib.hid hl.len
  have HL := Lib.hid hl
  have HE := Lib.hid (fun W (hb : Below w.heap.size w W) tx => ends_any a len cap L tx W (hl.below hb))
  have HSN := Lib.hid (fun i k => @strict_no L i k)
  have HSY := Lib.hid (strict_iff L).2
  generalize strictE L = r at HSN HSY ⊢
  clear hl
  go_enter Try.func7, Try.ntmps7
  go_wp2
  go_loopw [10] (fun c wr => ∃ k : Nat, k ≤ len ∧ c = .int .i64 k ∧ Hid (∀ i j, i < k → i < j → j < len → badS L i j = false) ∧ Below w.heap.size w wr) (fun c _ => len - (intOf c).toNat)
  case atStart => exact ⟨0, by omega, rfl, Lib.hid (fun i j h => by omega), Below.refl _ _⟩
  case round =>
    obtain ⟨k, hk, rfl, HI, HB⟩ := hrel
    by_cases hlt : k < len
    · obtain ⟨b, off, x, rfl, hb, hx, hok, d0, d1, d2, d3, d4, d5, d6, d7, d8, d9, d10⟩ := Ev_at (HL.out.below HB) hlt
      have hbx := Bk.new wr 31 (evA x)
      have hba : Below w.heap.size w (wr.alloc (.cells (evA x) 31)) := HB.alloc HB.size _
      have HWR := Lib.hid (fun W => pwrites_any x W)
      have HCL := Lib.hid (fun y W => pclash_any x y W)
      have HBW := Lib.hid (fun hw k => @bad_wr L _ x hx hw k)
      have HBA := Lib.hid (fun k y => @bad_at L _ k x y hx)
      have HEX := Lib.hid (fun W (hb : Below w.heap.size w W) => HE.out W hb x.tx)
      have HBX := Lib.hid hbx
      have HAB := Lib.hid hba
      clear hx hok hbx hba
      cases hwr : wrE x with
      | false =>
        rw [hwr] at HWR
        have HN : Hid (∀ i j, i < k + 1 → i < j → j < len → badS L i j = false) := Lib.hid (strict_step HI.out (fun j _ _ => HBW.out hwr j))
        clear hwr HBW HBA
        go_wp2
        refine wp_scope_jumps 0 (fun _ _ => False) (fun _ _ => 0) rfl ?_ (fun _ _ h => h.elim)
        go_wp2_with (go_at_call 26; refine (HWR.out _).mono ?_; rintro e w3 ⟨rfl, hb3⟩)
        have hB3 := bl_then HAB.out (Nat.le_refl _) hb3
        clear HAB hb3 HB
        simp only [Exit.jump]
        go_wp2
        go_roundw
        case rel => exact ⟨k + 1, by omega, by go_num, HN, hB3⟩
        case measure => simp [intOf]; omega
      | true =>
        rw [hwr] at HWR HBA
        have HBB : Hid (∀ (j : Nat) (y : Ev), L[j]? = some y → badS L k j = (clashE x y && (decide (endI Ev.tx cmE edE L x.tx ≤ k) || decide (endI Ev.tx cmE edE L x.tx ≥ j)))) := Lib.hid (fun j y hy => by rw [HBA.out _ _ hy]; rfl)
        clear hwr HBW HBA
        generalize endI Ev.tx cmE edE L x.tx = at' at HEX HBB
        generalize howE L x.tx = hw at HEX
        go_wp2
        refine wp_scope_jumps 0 (fun _ _ => False) (fun _ _ => 0) rfl ?_ (fun _ _ h => h.elim)
        go_wp2_with (first
          | (go_at_call 26; refine (HWR.out _).mono ?_; rintro e w3 ⟨rfl, hb3⟩; have y1 := (HBX.out.below hb3).cell 1)
          | (go_at_call 8; refine (HEX.out _ (bl_then HAB.out (Nat.le_refl _) hb3)).mono ?_; rintro e w4 ⟨rfl, hb4⟩))
        have hb34 := bl_then hb3 (Nat.le_refl _) hb4
        have hD4 := Lib.hid (HBX.out.below hb34)
        have hB4 := Lib.hid (bl_then HAB.out (Nat.le_refl _) hb34)
        clear HBX HAB hb3 hb4 hb34 y1 d0 d1 d2 d3 d4 d5 d6 d7 d8 d9 d10 HB HWR HEX
        generalize wr.heap.size = X at hD4 ⊢
        go_step3
        go_wp2
        go_loopw [7] (fun c wr => ∃ j : Nat, k < j ∧ j ≤ len ∧ c = .int .i64 j ∧ Hid (∀ i, k < i → i < j → badS L k i = false) ∧ Below w4.heap.size w4 wr) (fun c _ => len - (intOf c).toNat)
        case atStart => exact ⟨k + 1, by omega, by omega, by go_num, Lib.hid (fun i h1 h2 => by omega), Below.refl _ _⟩
        case round =>
          obtain ⟨j, hkj, hj, rfl, HIJ, HB5⟩ := hrel
          have HB5' := Lib.hid (bl_then hB4.out (Nat.le_refl _) HB5)
          by_cases hlj : j < len
          · obtain ⟨b9, off9, y, he9, hb9, hy, hoky, e0, e1, e2, e3, e4, e5, e6, e7, e8, e9, e10⟩ := Ev_at (HL.out.below HB5'.out) hlj
            obtain ⟨rfl, rfl⟩ : b = b9 ∧ off = off9 := by cases he9; exact ⟨rfl, rfl⟩
            have hDr := hD4.out.below HB5
            have x0 := hDr.cell 0
            have x1 := hDr.cell 1
            have x2 := hDr.cell 2
            have x3 := hDr.cell 3
            have x4 := hDr.cell 4
            have x5 := hDr.cell 5
            have x6 := hDr.cell 6
            have x7 := hDr.cell 7
            have x8 := hDr.cell 8
            have x9 := hDr.cell 9
            have x10 := hDr.cell 10
            have HCY := Lib.hid (fun W => HCL.out y W)
            have hbd := HBB.out j y hy
            have HJL : Hid (j < L.length) := Lib.hid (by rw [HLN.out]; exact hlj)
            clear hDr he9 hb9 hy hoky HBB
            generalize clashE x y = cl at HCY hbd
            cases cl with
            | false =>
              have HN : Hid (∀ i, k < i → i < j + 1 → badS L k i = false) := Lib.hid (in_step HIJ.out (by rw [hbd]; rfl))
              clear hbd
              go_wp2
              go_region_with (first | (go_at_call 9; refine (HCY.out _).mono ?_; rintro e w6 ⟨rfl, hb6⟩))
              all_goals
                have HBE := Lib.hid (bl_then (bl_then HB5 (Nat.le_refl _) (below_drew _)) (Nat.le_refl _) hb6)
                clear hb6
                go_wp2
                go_roundw
                case rel => exact ⟨j + 1, by omega, by omega, by go_num, HN, HBE.out⟩
                case measure => simp [intOf]; omega
            | true =>
              by_cases h1 : at' ≤ (k : Int)
              · have hv : badS L k j = true := by rw [hbd, decide_eq_true h1]; rfl
                have HV := Lib.hid (HSN.out _ _ hkj HJL.out hv)
                clear hbd hv
                have h1d : decide (at' ≤ (k : Int)) = true := decide_eq_true h1
                go_wp2
                go_region_with (first | (go_at_call 9; refine (HCY.out _).mono ?_; rintro e w6 ⟨rfl, hb6⟩))
                all_goals
                  go_wp2
                  simp +zetaDelta only [Exit.jump, Exit.inBlock, Exit.then]
                  go_ret
                  exact ⟨by rw [HV.out]; rfl, bl_then (bl_then HB5'.out (Nat.le_refl _) (below_drew _)) (Nat.le_refl _) hb6⟩
              · have h1d : decide (at' ≤ (k : Int)) = false := decide_eq_false h1
                by_cases h2 : at' ≥ (j : Int)
                · have hv : badS L k j = true := by rw [hbd, decide_eq_true h2, Bool.or_true]; rfl
                  have HV := Lib.hid (HSN.out _ _ hkj HJL.out hv)
                  clear hbd hv
                  have h2d : decide (at' ≥ (j : Int)) = true := decide_eq_true h2
                  go_wp2
                  go_region_with (first | (go_at_call 9; refine (HCY.out _).mono ?_; rintro e w6 ⟨rfl, hb6⟩))
                  all_goals
                    go_wp2
                    simp +zetaDelta only [Exit.jump, Exit.inBlock, Exit.then]
                    go_ret
                    exact ⟨by rw [HV.out]; rfl, bl_then (bl_then HB5'.out (Nat.le_refl _) (below_drew _)) (Nat.le_refl _) hb6⟩
                · have h2d : decide (at' ≥ (j : Int)) = false := decide_eq_false h2
                  have HN : Hid (∀ i, k < i → i < j + 1 → badS L k i = false) := Lib.hid (in_step HIJ.out (by rw [hbd, h1d, h2d]; rfl))
                  clear hbd
                  go_wp2
                  go_region_with (first | (go_at_call 9; refine (HCY.out _).mono ?_; rintro e w6 ⟨rfl, hb6⟩))
                  all_goals
                    have HBE := Lib.hid (bl_then (bl_then HB5 (Nat.le_refl _) (below_drew _)) (Nat.le_refl _) hb6)
                    clear hb6
                    go_wp2
                    go_roundw
                    case rel => exact ⟨j + 1, by omega, by omega, by go_num, HN, HBE.out⟩
                    case measure => simp [intOf]; omega
          · obtain rfl : j = len := by omega
            have HN : Hid (∀ i j', i < k + 1 → i < j' → j' < j → badS L i j' = false) := Lib.hid (strict_step HI.out HIJ.out)
            clear HB5
            go_wp2
            simp only [Exit.jump]
            go_wp2
            go_roundw
            case rel => exact ⟨k + 1, by omega, by go_num, HN, HB5'.out⟩
            case measure => simp [intOf]; omega
    · obtain rfl : k = len := by omega
      have HV := Lib.hid (HSY.out (fun i j a c => HI.out i j (by have := HLN.out; omega) a (by have := HLN.out; omega)))
      go_wp2
      go_ret
      exact ⟨by rw [HV.out]; rfl, HB⟩
set_option maxRecDepth 100000 in
set_option maxHeartbeats 8000000 in
theorem rstrict_any (a : Option Addr) (len cap : Nat) (L : List Ev) (w : World) (hl : Evs w a len L) (hn : len ≤ 1000) :
    Calls Try.prog 16 #[.slice a len cap] w fun e w' => e = .returned (.bool (strictE L)) ∧ Below w.heap.size w w' := by
  have HLN := Lib.hid hl.len
  have HL := Lib.hid hl
  have HE := Lib.hid (fun W (hb : Below w.heap.size w W) tx => rends_any a len cap L tx W (hl.below hb))
  have HSN := Lib.hid (fun i k => @strict_no L i k)
  have HSY := Lib.hid (strict_iff L).2
  generalize strictE L = r at HSN HSY ⊢
  clear hl
  go_enter Try.func16, Try.ntmps16
  go_wp2
  go_loopw [10] (fun c wr => ∃ k : Nat, k ≤ len ∧ c = .int .i64 k ∧ Hid (∀ j, j < k → ∀ i, i < j → badS L i j = false) ∧ Below w.heap.size w wr) (fun c _ => len - (intOf c).toNat)
  case atStart => exact ⟨0, by omega, rfl, Lib.hid (fun j h => by omega), Below.refl _ _⟩
  case round =>
    obtain ⟨k, hk, rfl, HI, HB⟩ := hrel
    by_cases hlt : k < len
    · obtain ⟨b, off, y, rfl, hb, hy, hoky, d0, d1, d2, d3, d4, d5, d6, d7, d8, d9, d10⟩ := Ev_at (HL.out.below HB) hlt
      have hbx := Bk.new wr 31 (evA y)
      have hba : Below w.heap.size w (wr.alloc (.cells (evA y) 31)) := HB.alloc HB.size _
      have hkl : k < L.length := by rw [HLN.out]; exact hlt
      have HBA := Lib.hid (fun i x hx => @bad_at L i k x y hx hy)
      have HCL := Lib.hid (fun x (ox : okEv x) W => rclash_any x y (okEv_pt ox) (okEv_pt hoky) W)
      have HBX := Lib.hid hbx
      have HAB := Lib.hid hba
      have HKL := Lib.hid hkl
      clear hy hoky hbx hba HB hkl
      go_wp2
      generalize hX : wr.heap.size = X at HBX ⊢
      generalize wr.alloc (.cells (evA y) 31) = w1 at HBX HAB ⊢
      clear hX d0 d1 d2 d3 d4 d5 d6 d7 d8 d9 d10
      go_loopw [5] (fun c wr => ∃ i : Nat, i ≤ k ∧ c = .int .i64 i ∧ Hid (∀ i', i' < i → badS L i' k = false) ∧ Below w1.heap.size w1 wr) (fun c _ => k - (intOf c).toNat)
      case atStart => exact ⟨0, by omega, rfl, Lib.hid (fun i h => by omega), Below.refl _ _⟩
      case round =>
        obtain ⟨i, hi, rfl, HJ, HB2⟩ := hrel
        have HB2' := Lib.hid (bl_then HAB.out (Nat.le_refl _) HB2)
        by_cases hli : i < k
        · obtain ⟨b9, off9, x, he9, hb9, hx, hokx, e0, e1, e2, e3, e4, e5, e6, e7, e8, e9, e10⟩ := Ev_at (HL.out.below HB2'.out) (show i < len by omega)
          obtain ⟨rfl, rfl⟩ : b = b9 ∧ off = off9 := by cases he9; exact ⟨rfl, rfl⟩
          have HWX := Lib.hid (fun W => rwrites_any x W)
          have HCX := Lib.hid (fun W => HCL.out x hokx W)
          have hbd := HBA.out i x hx
          have HEX := Lib.hid (HE.out _ HB2'.out x.tx)
          have HX2 := Lib.hid (HBX.out.below HB2)
          generalize endI Ev.tx cmE edE L x.tx = at' at hbd HEX
          generalize howE L x.tx = hw at HEX
          have HB2H := Lib.hid HB2
          clear he9 hb9 hx hokx HB2
          have HCE : Hid (∀ W, Below wr.heap.size wr W → (W.cell? ⟨b, off + i * 11, none⟩ = some (.int .i64 x.kind) ∧ W.cell? ⟨b, off + i * 11 + 1, none⟩ = some (.int .i64 x.tx) ∧ W.cell? ⟨b, off + i * 11 + 2, none⟩ = some (.int .i64 x.n0) ∧ W.cell? ⟨b, off + i * 11 + 3, none⟩ = some (.int .i64 x.n1) ∧ W.cell? ⟨b, off + i * 11 + 4, none⟩ = some (.int .i64 x.n2) ∧ W.cell? ⟨b, off + i * 11 + 5, none⟩ = some (.int .i64 x.n3) ∧ W.cell? ⟨b, off + i * 11 + 6, none⟩ = some (.int .i64 x.dep) ∧ W.cell? ⟨b, off + i * 11 + 7, none⟩ = some (.int .i64 x.mode) ∧ W.cell? ⟨b, off + i * 11 + 8, none⟩ = some (.int .i64 x.val) ∧ W.cell? ⟨b, off + i * 11 + 9, none⟩ = some (.slice x.rows.1 x.rows.2.1 x.rows.2.2) ∧ W.cell? ⟨b, off + i * 11 + 10, none⟩ = some (.int .i64 x.err) ∧ W.cell? ⟨X, 0, none⟩ = some (.int .i64 y.kind) ∧ W.cell? ⟨X, 1, none⟩ = some (.int .i64 y.tx) ∧ W.cell? ⟨X, 2, none⟩ = some (.int .i64 y.n0) ∧ W.cell? ⟨X, 3, none⟩ = some (.int .i64 y.n1) ∧ W.cell? ⟨X, 4, none⟩ = some (.int .i64 y.n2) ∧ W.cell? ⟨X, 5, none⟩ = some (.int .i64 y.n3) ∧ W.cell? ⟨X, 6, none⟩ = some (.int .i64 y.dep) ∧ W.cell? ⟨X, 7, none⟩ = some (.int .i64 y.mode) ∧ W.cell? ⟨X, 8, none⟩ = some (.int .i64 y.val) ∧ W.cell? ⟨X, 9, none⟩ = some (.slice y.rows.1 y.rows.2.1 y.rows.2.2) ∧ W.cell? ⟨X, 10, none⟩ = some (.int .i64 y.err))) := Lib.hid (fun W h => ⟨(h.cell (block_lt_of_cell e0)).trans e0, (h.cell (block_lt_of_cell e1)).trans e1, (h.cell (block_lt_of_cell e2)).trans e2, (h.cell (block_lt_of_cell e3)).trans e3, (h.cell (block_lt_of_cell e4)).trans e4, (h.cell (block_lt_of_cell e5)).trans e5, (h.cell (block_lt_of_cell e6)).trans e6, (h.cell (block_lt_of_cell e7)).trans e7, (h.cell (block_lt_of_cell e8)).trans e8, (h.cell (block_lt_of_cell e9)).trans e9, (h.cell (block_lt_of_cell e10)).trans e10, (HX2.out.below h).cell 0, (HX2.out.below h).cell 1, (HX2.out.below h).cell 2, (HX2.out.below h).cell 3, (HX2.out.below h).cell 4, (HX2.out.below h).cell 5, (HX2.out.below h).cell 6, (HX2.out.below h).cell 7, (HX2.out.below h).cell 8, (HX2.out.below h).cell 9, (HX2.out.below h).cell 10⟩)
          go_wp2_with (go_at_call 13; refine HEX.out.mono ?_; rintro e w5 ⟨rfl, hb5⟩)
          obtain ⟨x0, x1, x2, x3, x4, x5, x6, x7, x8, x9, x10, z0, z1, z2, z3, z4, z5, z6, z7, z8, z9, z10⟩ := HCE.out _ hb5
          have HB5 := Lib.hid (bl_then (HB2H.out) (Nat.le_refl _) hb5)
          clear HCE hb5 e0 e1 e2 e3 e4 e5 e6 e7 e8 e9 e10 HX2 HB2' HEX
          have rx0 := fun dq osq => cell_regrown (v := .int .i64 x.kind) x0 dq osq
          have rx1 := fun dq osq => cell_regrown (v := .int .i64 x.tx) x1 dq osq
          have rx2 := fun dq osq => cell_regrown (v := .int .i64 x.n0) x2 dq osq
          have rx3 := fun dq osq => cell_regrown (v := .int .i64 x.n1) x3 dq osq
          have rx4 := fun dq osq => cell_regrown (v := .int .i64 x.n2) x4 dq osq
          have rx5 := fun dq osq => cell_regrown (v := .int .i64 x.n3) x5 dq osq
          have rx6 := fun dq osq => cell_regrown (v := .int .i64 x.dep) x6 dq osq
          have rx7 := fun dq osq => cell_regrown (v := .int .i64 x.mode) x7 dq osq
          have rx8 := fun dq osq => cell_regrown (v := .int .i64 x.val) x8 dq osq
          have rx9 := fun dq osq => cell_regrown (v := .slice x.rows.1 x.rows.2.1 x.rows.2.2) x9 dq osq
          have rx10 := fun dq osq => cell_regrown (v := .int .i64 x.err) x10 dq osq
          have rz0 := fun dq osq => cell_regrown (v := .int .i64 y.kind) z0 dq osq
          have rz1 := fun dq osq => cell_regrown (v := .int .i64 y.tx) z1 dq osq
          have rz2 := fun dq osq => cell_regrown (v := .int .i64 y.n0) z2 dq osq
          have rz3 := fun dq osq => cell_regrown (v := .int .i64 y.n1) z3 dq osq
          have rz4 := fun dq osq => cell_regrown (v := .int .i64 y.n2) z4 dq osq
          have rz5 := fun dq osq => cell_regrown (v := .int .i64 y.n3) z5 dq osq
          have rz6 := fun dq osq => cell_regrown (v := .int .i64 y.dep) z6 dq osq
          have rz7 := fun dq osq => cell_regrown (v := .int .i64 y.mode) z7 dq osq
          have rz8 := fun dq osq => cell_regrown (v := .int .i64 y.val) z8 dq osq
          have rz9 := fun dq osq => cell_regrown (v := .slice y.rows.1 y.rows.2.1 y.rows.2.2) z9 dq osq
          have rz10 := fun dq osq => cell_regrown (v := .int .i64 y.err) z10 dq osq
          generalize wrE x = bw at HWX hbd
          generalize clashE x y = bc at HCX hbd
          cases bw with
          | false =>
            have HN : Hid (∀ i', i' < i + 1 → badS L i' k = false) := Lib.hid (lo_step HJ.out (by rw [hbd]; rfl))
            clear hbd
            go_wp2_with fail
            refine wp_region_quiet_below (by kernel_rfl) (by kernel_rfl) ?_
            repeat (go_big_quiet_step (first | (go_at_call 36; exact Calls.regrown_of (HWX.out _)) | (go_at_call 19; exact Calls.regrown_of (HCX.out _))))
            refine wpQuiet_nil ?_
            intro _ hw'
            obtain ⟨⟨dq, osq⟩, hw''⟩ := hw'
            subst hw''
            go_wp2
            go_roundw
            case rel => exact ⟨i + 1, by omega, by go_num, HN, HB5.out.trans ((below_regrown _ _ _).mono HB5.out.size)⟩
            case measure => simp [intOf]; omega
          | true =>
            cases bc with
            | false =>
              have HN : Hid (∀ i', i' < i + 1 → badS L i' k = false) := Lib.hid (lo_step HJ.out (by rw [hbd]; rfl))
              clear hbd
              go_wp2_with fail
              refine wp_region_quiet_below (by kernel_rfl) (by kernel_rfl) ?_
              repeat (go_big_quiet_step (first | (go_at_call 36; exact Calls.regrown_of (HWX.out _)) | (go_at_call 19; exact Calls.regrown_of (HCX.out _))))
              refine wpQuiet_nil ?_
              intro _ hw'
              obtain ⟨⟨dq, osq⟩, hw''⟩ := hw'
              subst hw''
              go_wp2
              go_roundw
              case rel => exact ⟨i + 1, by omega, by go_num, HN, HB5.out.trans ((below_regrown _ _ _).mono HB5.out.size)⟩
              case measure => simp [intOf]; omega
            | true =>
              by_cases h1 : at' ≤ (i : Int)
              · have h1d : decide (at' ≤ (i : Int)) = true := decide_eq_true h1
                have hv : badS L i k = true := by rw [hbd, h1d]; rfl
                have HV := Lib.hid (HSN.out _ _ hli HKL.out hv)
                clear hbd hv
                go_wp2_with fail
                refine wp_region_quiet_below (by kernel_rfl) (by kernel_rfl) ?_
                repeat (go_big_quiet_step (first | (go_at_call 36; exact Calls.regrown_of (HWX.out _)) | (go_at_call 19; exact Calls.regrown_of (HCX.out _))))
                refine wpQuiet_nil ?_
                intro _ hw'
                obtain ⟨⟨dq, osq⟩, hw''⟩ := hw'
                subst hw''
                go_wp2
                go_ret
                exact ⟨by rw [HV.out]; rfl, HAB.out.trans ((HB5.out.trans ((below_regrown _ _ _).mono HB5.out.size)).mono HAB.out.size)⟩
              · have h1d : decide (at' ≤ (i : Int)) = false := decide_eq_false h1
                by_cases h2 : at' ≥ (k : Int)
                · have h2d : decide (at' ≥ (k : Int)) = true := decide_eq_true h2
                  have hv : badS L i k = true := by rw [hbd, h1d, h2d]; rfl
                  have HV := Lib.hid (HSN.out _ _ hli HKL.out hv)
                  clear hbd hv
                  go_wp2_with fail
                  refine wp_region_quiet_below (by kernel_rfl) (by kernel_rfl) ?_
                  repeat (go_big_quiet_step (first | (go_at_call 36; exact Calls.regrown_of (HWX.out _)) | (go_at_call 19; exact Calls.regrown_of (HCX.out _))))
                  refine wpQuiet_nil ?_
                  intro _ hw'
                  obtain ⟨⟨dq, osq⟩, hw''⟩ := hw'
                  subst hw''
                  go_wp2
                  go_ret
                  exact ⟨by rw [HV.out]; rfl, HAB.out.trans ((HB5.out.trans ((below_regrown _ _ _).mono HB5.out.size)).mono HAB.out.size)⟩
                · have h2d : decide (at' ≥ (k : Int)) = false := decide_eq_false h2
                  have HN : Hid (∀ i', i' < i + 1 → badS L i' k = false) := Lib.hid (lo_step HJ.out (by rw [hbd, h1d, h2d]; rfl))
                  clear hbd
                  go_wp2_with fail
                  refine wp_region_quiet_below (by kernel_rfl) (by kernel_rfl) ?_
                  repeat (go_big_quiet_step (first | (go_at_call 36; exact Calls.regrown_of (HWX.out _)) | (go_at_call 19; exact Calls.regrown_of (HCX.out _))))
                  refine wpQuiet_nil ?_
                  intro _ hw'
                  obtain ⟨⟨dq, osq⟩, hw''⟩ := hw'
                  subst hw''
                  go_wp2
                  go_roundw
                  case rel => exact ⟨i + 1, by omega, by go_num, HN, HB5.out.trans ((below_regrown _ _ _).mono HB5.out.size)⟩
                  case measure => simp [intOf]; omega
        · obtain rfl : i = k := by omega
          have HN : Hid (∀ j, j < i + 1 → ∀ i', i' < j → badS L i' j = false) := Lib.hid (fun j hj => by
            by_cases e : j = i
            · subst e; exact HJ.out
            · exact HI.out j (by omega))
          clear HB2
          go_wp2
          go_roundw
          case rel => exact ⟨i + 1, by omega, by go_num, HN, HB2'.out⟩
          case measure => simp [intOf]; omega
    · obtain rfl : k = len := by omega
      have HV := Lib.hid (HSY.out (fun i j a c => HI.out j (by have := HLN.out; omega) i a))
      go_wp2
      go_ret
      exact ⟨by rw [HV.out]; rfl, HB⟩
end Go.Proofs.Ytjenchijenkndaa
