/- history: Acyclic of any events. No condition. -/
import Derived.Test.YtjenchijenkndaaHisH
set_option linter.unusedVariables false
set_option linter.unusedSimpArgs false
namespace Go.Proofs.Ytjenchijenkndaa
open Go.RowKit (wrap32 wrap64)
open Go.RowKit
def leadsTo (d : Int) (f : Eg) : Bool := f.src == d
theorem acy11_pred (s d : Int) (B : Nat) (w : World) (S : Nat → Prop) (hB : ¬ S B) (hc : w.cell? ⟨B, 1, none⟩ = some (.int .i64 d)) :
    PredS Try.prog 35 #[.pointer (some ⟨B, 0, none⟩)] enEg (leadsTo d) S w := fun W x k => by
  have hW := Keep.cellS k hc hB
  have hlt := World.block_lt_of_cell? W ⟨B, 1, none⟩ hW
  have hne : B ≠ W.heap.size := Nat.ne_of_lt hlt
  obtain ⟨x0, x1⟩ := x
  show Calls Try.prog 35 #[.agg #[.int .i64 x0, .int .i64 x1], .pointer (some ⟨B, 0, none⟩)] W _
  have hW2 := cell_new_a (.cells #[.int .i64 x0, .int .i64 x1] 40) hW
  clear k hc hlt
  go_enter Try.func35, Try.ntmps35
  go_wp2
  go_ret
  exact ⟨rfl, (Below.refl _ _).alloc (Nat.le_refl _) _⟩
def endsE (E : List Eg) (e : Eg) : Bool := !(E.any (leadsTo e.dst))
theorem peel_ends (E : List Eg) : (E.filter fun x => !endsE E x) = peelE E := by
  unfold peelE endsE
  apply List.filter_congr
  intro x _
  rw [Bool.not_not]
  rfl
set_option maxRecDepth 100000 in
theorem acy1_pred (E : List Eg) (EB : Nat) (A : Option Addr) (n c : Nat) (w : World) (S : Nat → Prop) (hB : ¬ S EB) (hc : w.cell? ⟨EB, 0, none⟩ = some (.slice A n c)) (hl : Egs w A n E) (hS : ∀ x, A = some x → ¬ S x.block) (hn : n ≤ 1000) :
    PredS Try.prog 33 #[.pointer (some ⟨EB, 0, none⟩)] enEg (endsE E) S w := fun W x k => by
  have hW := Keep.cellS k hc hB
  have hlW := hl.keep k hS
  obtain ⟨x0, x1⟩ := x
  show Calls Try.prog 33 #[.agg #[.int .i64 x0, .int .i64 x1], .pointer (some ⟨EB, 0, none⟩)] W fun e w' => e = .returned (.bool (endsE E ⟨x0, x1⟩)) ∧ Below W.heap.size W w'
  obtain ⟨al, hbk⟩ := eg_box ⟨x0, x1⟩ W
  have hW2 := cell_new_a (.cells #[.int .i64 x0, .int .i64 x1] 40) hW
  have hp := acy11_pred x0 x1 W.heap.size (W.alloc (.cells #[.int .i64 x0, .int .i64 x1] 40)) (fun _ => False) (fun h => h) (hbk.cell 1)
  have hh := hasEg_any (leadsTo x1) 35 #[.pointer (some ⟨W.heap.size, 0, none⟩)] (enters_of Try.func35 (by kernel_rfl) rfl) (fun _ => False) A n c E _ (hlW.below al) hn hp
  have HH := Lib.hid hh
  have HV : Hid (endsE E ⟨x0, x1⟩ = !(E.any (leadsTo x1))) := Lib.hid rfl
  generalize endsE E ⟨x0, x1⟩ = r at HV ⊢
  generalize E.any (leadsTo x1) = q at HH HV
  clear hh hp hl hlW k hc hbk
  go_enter Try.func33, Try.ntmps33
  go_wp2_with (go_at_call 34; refine HH.out.mono ?_; rintro e w1 ⟨rfl, hb1⟩)
  go_ret
  exact ⟨by rw [HV.out]; rfl, bl_then al (Nat.le_refl _) hb1⟩
set_option maxRecDepth 100000 in
set_option maxHeartbeats 8000000 in
theorem pacy_any (a : Option Addr) (len cap : Nat) (L : List Ev) (w : World) (hl : Evs w a len L) (hlc : len ≤ cap) (hcm : cap ≤ maxLen) (hn : len ≤ 30) :
    Calls Try.prog 12 #[.slice a len cap] w fun e w' => e = .returned (.bool (acyE (edgesE L))) ∧ Below w.heap.size w w' := by
  have HED := Lib.hid (pedges_any a len cap L w hl hlc hcm hn)
  have hok := edges_ok L hl.all
  have hgl := edges_len L (by rw [hl.len]; exact hn)
  generalize edgesE L = G at HED hok hgl ⊢
  have HOKG := Lib.hid hok
  generalize hgn : G.length = ng at hgl
  have HGN := Lib.hid hgn
  clear hl hlc hcm hok hgn
  go_enter Try.func12, Try.ntmps12
  go_wp2_with (go_at_call 11; refine HED.out.mono ?_; rintro e w1 ⟨v, rfl, hown, hb1⟩; rw [HGN.out] at hown; obtain ⟨A1, c1, rfl⟩ := own_slice hown)
  have al := (Below.refl w1.heap.size w1).alloc (Nat.le_refl _) (.cells #[.slice A1 ng c1] 37)
  have hEB := Bk.new w1 37 #[.slice A1 ng c1]
  have hown2 := own_below hown al
  have hB2 := bl_then hb1 (Nat.le_refl _) al
  have hEBw : w.heap.size ≤ w1.heap.size := hb1.size
  clear hown al hb1
  generalize w1.alloc (.cells #[.slice A1 ng c1] 37) = w2 at hEB hown2 hB2 ⊢
  generalize w1.heap.size = EB at hEB hEBw ⊢
  go_loopw [4] (fun _ wr => ∃ (v : Value) (n : Nat) (E : List Eg), Hid (E.length = n) ∧ n ≤ 900 ∧ Hid (acyE E = acyE G) ∧ Hid (∀ e ∈ E, okEg e) ∧ wr.ownsRow w.heap.size 40 2 v n (flatV enEg E) ∧ Bk wr EB 37 #[v] ∧ Below w.heap.size w wr) (fun _ wr => match wr.cell? ⟨EB, 0, none⟩ with | some (.slice _ n _) => n | _ => 0)
  case atStart => exact ⟨_, ng, G, HGN, hgl, Lib.hid rfl, HOKG, hown2, hEB, hB2⟩
  case round =>
    clear hown2 hEB hB2
    obtain ⟨v, n, E, HEN, hn9, HACY, HOK, ho, hEB, HB⟩ := hrel
    obtain ⟨A, c, rfl, hs, _⟩ := SR.own (ok := okEg) enEg_len (by omega) ho HOK.out
    have hcap := own_caps ho
    have e0 := hEB.cell 0
    by_cases h0 : n = 0
    · subst h0
      have hE : E = [] := List.eq_nil_of_length_eq_zero HEN.out
      have HV : Hid (acyE G = true) := Lib.hid (by rw [← HACY.out, hE]; rfl)
      clear hE hs ho hcap
      go_wp2
      go_ret
      exact ⟨by rw [HV.out]; rfl, HB⟩
    · have hpos : 0 < n := by omega
      obtain ⟨x, rfl⟩ : ∃ x, A = some x := by
        cases A with
        | none => exact absurd (hcap.2.2 rfl).1 h0
        | some x => exact ⟨x, rfl⟩
      have hxb : ¬ x.block = EB := fun e => row_ne ho hEB (by decide) (by rw [← e]; rfl)
      have HCL := Lib.hid (cloneEg_any (some x) n c E wr hs (fun e => by cases e) (by omega))
      have HS := Lib.hid hs
      have HEB := Lib.hid hEB
      have HB' := Lib.hid HB
      have hEBlt := hEB.lt
      have hxlt : x.block < wr.heap.size := by
        obtain ⟨b9, o9, y9, he9, hb9, _⟩ := Eg_at hs hpos
        cases he9; exact hb9
      clear hs ho hcap hEB HB
      go_wp2_with (go_at_call 32; refine HCL.out.mono ?_; rintro e w3 ⟨v3, rfl, hown3, hb3⟩)
      rcases hown3.2 with ⟨rfl, hz⟩ | ⟨h, cap', cur, rfl, hbh, hrow⟩
      · exact absurd (HEN.out.symm.trans hz) h0
      · obtain ⟨hrw, _⟩ := RowAt.of hown3 rfl
        have hB3 := Lib.hid (bl_then HB'.out (Nat.le_refl _) hb3)
        have hEB3 := HEB.out.below hb3
        have f0 := hEB3.cell 0
        have hhEB : ¬ EB = h := by omega
        have hhx : ¬ x.block = h := by omega
        have hws : w.heap.size ≤ wr.heap.size := HB'.out.size
        have hwh : w.heap.size ≤ h := by omega
        have hd := delEg_any (endsE E) 33 #[.pointer (some ⟨EB, 0, none⟩)] (enters_of Try.func33 (by kernel_rfl) rfl) h cap' E w3 hrw HOK.out (by rw [HEN.out]; omega) (acy1_pred E EB (some x) n c w3 (fun i => i = h) hhEB f0 (HS.out.below hb3) (fun y hy => by cases hy; exact hhx) (by omega))
        rw [peel_ends, HEN.out] at hd
        rw [HEN.out]
        have HD := Lib.hid hd
        have HPL := Lib.hid (peel_len E)
        have HST := Lib.hid (fun h1 h2 => acy_stuck (E := E) h1 h2)
        have HON := Lib.hid (fun h1 => acy_on (E := E) h1)
        have HPM : Hid (∀ e ∈ peelE E, okEg e) := Lib.hid (fun e he => HOK.out e (peel_mem.1 he).1)
        have hEne : E ≠ [] := fun e => h0 (by rw [← HEN.out, e]; rfl)
        have HNE := Lib.hid hEne
        have HEB3 := Lib.hid hEB3
        rw [HEN.out] at HPL HST HON
        generalize peelE E = E2 at HD HPL HST HON HPM
        generalize hm : E2.length = m at HD HPL HST HON
        have HM := Lib.hid hm
        have hmn := HPL.out
        clear hd hrw hown3 hrow hm HPL hEne hb3 hEB3
        by_cases hmn2 : m = n
        · subst hmn2
          have HV : Hid (acyE G = false) := Lib.hid (by rw [← HACY.out]; exact HST.out HNE.out rfl)
          go_wp2_with (go_at_call 31; refine HD.out.mono ?_; rintro e w4 ⟨rfl, hr4, k4⟩; have g0 := (k4.bk HEB3.out hhEB).cell 0)
          go_ret
          exact ⟨by rw [HV.out]; rfl, bl_keep hB3.out k4 (fun i hi => by rw [hi]; exact hwh)⟩
        · have hne : (m == n) = false := beq_eq_false_iff_ne.2 hmn2
          have hnei : ((m : Int) == (n : Int)) = false := beq_eq_false_iff_ne.2 (by omega)
          have HV : Hid (acyE E2 = acyE G) := Lib.hid (by rw [← HACY.out]; exact (HON.out hmn2).symm)
          go_wp2_with (go_at_call 31; refine HD.out.mono ?_; rintro e w4 ⟨rfl, hr4, k4⟩; have hEB4 := k4.bk HEB3.out hhEB; have g0 := hEB4.cell 0; have g1 := hEB4.frozen 0)
          have hB4 := bl_keep hB3.out k4 (fun i hi => by rw [hi]; exact hwh)
          have hkS := Keep.set w4 EB 0 (.slice (some ⟨h, 0, none⟩) m cap') (fun i => i = EB) rfl
          have hB5 := bl_keep hB4 hkS (fun i hi => by rw [hi]; exact hEBw)
          have hEB5 := hEB4.set 0 (.slice (some ⟨h, 0, none⟩) m cap')
          have hr5 := hr4.keep hkS (show ¬ h = EB by omega)
          have hc5 := hEB5.cell 0
          have ho5 := hr5.own enEg_len hwh
          rw [HM.out] at ho5
          go_roundw
          case rel => exact ⟨_, m, E2, HM, by omega, HV, HPM, ho5, hEB5, hB5⟩
          case measure => simp at hc5; simp [e0, hc5]; trace_state; omega
end Go.Proofs.Ytjenchijenkndaa
