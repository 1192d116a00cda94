/- The walk of ArenaDoes. No condition. -/
import Derived.Test.YtgdghinconghgaaArenaD
import Derived.Test.YtgdghinconghgaaArenaF
import Derived.Deep.RegionHeld3
import Derived.Deep.DeepCutAuto
import Derived.Deep.CutBlock
import Derived.Test.YtgdghinconghgaaArenaX
set_option linter.unusedVariables false
set_option linter.unusedSimpArgs false
namespace Go.Proofs.Ytgdghinconghgaa
open Go.RowKit (wrap32 wrap64)
open Go.RowKit Go.Shelf Go.Sort
attribute [local go_sem] Oper.semAt_some
/-- The law of a range over a function, its assign code over a frame that is a variable. -/
theorem rangeF_fr {F : Fence} {n : Nat} {P : Program} {α : Type} {g : Operand} {ps : Array Tmp} {assign body : Code} {Q : Exit → Act → World → Prop} {a : Act} {w : World}
    (hro : F.round = none) (h1 : 1 ≤ n) {gf : Nat} {lb : Array Value} (hg : a.eval g = .func (.func gf) #[] lb) (hFg : F.fn gf) (eg : ∀ args w, (callFunc gf args).run P w = .ok (.enter gf args) w)
    {encs : α → Array Value} {Kp : World → World → Prop} {S Sp : List α → Prop} {N : Nat} {w0 : World} (hseq : SeqStopsK F (n - 1) P gf lb encs Kp S Sp N w0)
    (hKt : ∀ {A B C : World}, Kp A B → Kp B C → Kp A C) (hKb : ∀ (W : World) (l : Nat) (o o' : Obj), w.heap.size ≤ l → W.heap[l]? = some o → o.isCells = false → o.isWalk = false → Kp W (W.putObj l o')) (hb0 : Below w0.heap.size w0 w) (hps : ∀ x, (encs x).size = ps.size)
    (I : List α → World → Prop) (Ix : Code → List α → World → Prop) (hI : OwnFrom w.heap.size I) (hIx : ∀ c, OwnFrom w.heap.size (Ix c)) (h0 : I [] w) (asg : Array Value → α → Array Value)
    (hassign : ∀ (fr : Array Value), fr.size = a.tmps.size → ∀ (l : Nat) (x : α) (W : World) (K : Act → World → Prop), K ⟨asg fr x, []⟩ W →
      assign.wpIn (F.inRound l) (n - 1 - 1) P (Exit.then K (fun _ _ _ => False)) { tmps := (ps.zip (encs x)).foldl (fun t (p, v) => t.setIfInBounds p v) fr, defers := [] } W)
    (hbody : ∀ (l : Nat) (pre : List α) (x : α) (W : World), I pre W → pre.length < N → body.wpIn (F.inRound l) (n - 1 - 1) P (ownPostK Kp I Ix (pre ++ [x]) W) ⟨asg a.tmps x, []⟩ W)
    (hdone : ∀ (D : Nat) (xs : List α) (W : World), w.heap.size ≤ D → S xs → I xs W → W.heap[D]? = some (.deferred (some [])) → Q .normal { a with defers := { target := .collected D, args := #[] } :: a.defers } W)
    (hstop : ∀ (D : Nat) (c : Code) (pre : List α) (W : World), w.heap.size ≤ D → Sp pre → Ix c pre W → W.heap[D]? = some (.deferred (some [])) → c.wpIn F n P Q { a with defers := { target := .collected D, args := #[] } :: a.defers } W) :
    (Code.rangeFunc g ps assign body).wpIn F n P Q a w :=
  wpIn_rangeFunc_ownF hro h1 hg hFg eg hseq hKt hKb hb0 hps I Ix hI hIx h0 (fun x => ⟨asg a.tmps x, []⟩) (fun l x W K hK => hassign a.tmps rfl l x W K hK) hbody hdone hstop
theorem Both.facts {w : World} {g h gx ca cb m cc : Nat} {A B C : Option Addr} {L : List Pl} {f u : Int} {F : List Nat} (b : Both w g h gx A B C ca cb m cc L f u F) (hL : L.length ≤ 1000) : (0 ≤ u ∧ u ≤ L.length) ∧ (m : Int) = L.length - u ∧ m ≤ L.length := by
  have h1 := b.inv.sum
  have h2 := b.inv.cnt
  have h3 := b.ra.flen
  omega
set_option maxRecDepth 100000 in
set_option maxHeartbeats 16000000 in
theorem adoes_any (n : Int) (a : Option Addr) (len cap : Nat) (css : List (List Value)) (w : World) (hl : FlatRow w ksD a len cap css) :
    Calls Try.prog 8 #[.int .i64 n, .slice a len cap] w fun e w' => e = .returned (.bool true) ∧ Below w.heap.size w w' := by
  have hlc := hl.2.1
  have hcm : cap ≤ 9223372036854775807 := hl.2.2.1
  have hB0 : Below w.heap.size w (w.alloc (.cells #[.bool false] 4)) := (Below.refl _ _).alloc (Nat.le_refl _) _
  have hR0 : Bk (w.alloc (.cells #[.bool false] 4)) w.heap.size 4 #[.bool false] := Bk.new _ _ _
  refine (callsIn_wide (n := 3)).1 ?_
  refine callsIn_of_wp_marks Try.func8 rfl trivial ?_ rfl
  simp only [Try.ntmps8, List.size_toArray, List.length_cons, List.length_nil, Nat.reduceAdd, Nat.reduceSub, Array.replicate_succ, Array.replicate_zero, List.push_toArray, List.append_toArray, List.nil_append, List.cons_append]
  refine wpIn_wide.2 ?_
  by_cases h1 : 40 < len
  · go_wp2_with fail
    refine (awake05 _).mono ?_
    rintro e w1 ⟨rfl, hb1⟩
    have r1 := hR0.below hb1
    have c1 := r1.cell 0
    have f1 := r1.frozen 0
    have y := (r1.set 0 (.bool true)).cell 0
    have hbb := bl_then hB0 (Nat.le_refl _) hb1
    go_wp2
    exact ⟨.bool true, by simp [results, Try.results8, go_sem, y], rfl, hbb.setCell (p := ⟨w.heap.size, 0, none⟩) (Nat.le_refl _) _⟩
  by_cases h2 : 100 < n
  · go_wp2_with fail
    refine (awake05 _).mono ?_
    rintro e w1 ⟨rfl, hb1⟩
    have r1 := hR0.below hb1
    have c1 := r1.cell 0
    have f1 := r1.frozen 0
    have y := (r1.set 0 (.bool true)).cell 0
    have hbb := bl_then hB0 (Nat.le_refl _) hb1
    go_wp2
    exact ⟨.bool true, by simp [results, Try.results8, go_sem, y], rfl, hbb.setCell (p := ⟨w.heap.size, 0, none⟩) (Nat.le_refl _) _⟩
  obtain ⟨M, hM⟩ : ∃ M : Nat, (n < 0 ∧ M = 0) ∨ n = M := ⟨n.toNat, by omega⟩
  have hM1 : M ≤ 100 := by omega
  go_wp2_with fail
  refine (awake05 _).mono ?_
  rintro e w1 ⟨rfl, hb1⟩
  replace hR0 := hR0.below hb1
  replace hB0 := bl_then hB0 (Nat.le_refl _) hb1
  have hw1 : w.heap.size < w1.heap.size := hR0.lt
  go_wp2_with fail
  refine (anew_any M n hM (by omega) _).mono ?_
  rintro e w2 ⟨g, h, rfl, hA, hg, hh, hb2⟩
  replace hR0 := hR0.below hb2
  replace hB0 := bl_then hB0 (Nat.le_refl _) hb2
  have hs2 := hb2.size
  go_wp2_with fail
  refine (rnewA_any M n hM (by omega) _).mono ?_
  rintro e w3 ⟨gx, A, B, C, ca, cb, cc, rfl, hRA, hgx, hAx, hBx, hCx, hb3⟩
  replace hA := hA.below hb3
  have hO : Below w3.heap.size w3 (w3.alloc (.cells #[.pointer (some ⟨gx, 0, none⟩)] 62)) := (Below.refl _ _).alloc (Nat.le_refl _) _
  have hBo : Both (w3.alloc (.cells #[.pointer (some ⟨gx, 0, none⟩)] 62)) g h gx A B C ca cb M cc (freshTo M M) 0 0 (List.range M) := ⟨hA.below hO, hRA.below hO, AInv.fresh M⟩
  have hP : Bk (w3.alloc (.cells #[.pointer (some ⟨gx, 0, none⟩)] 62)) w3.heap.size 62 #[.pointer (some ⟨gx, 0, none⟩)] := Bk.new _ _ _
  replace hR0 := (hR0.below hb3).below hO
  replace hB0 := bl_then (bl_then hB0 (Nat.le_refl _) hb3) (Nat.le_refl _) hO
  have hg0 : w.heap.size ≤ g := by omega
  have hh0 : w.heap.size ≤ h := by omega
  have hgx0 : w.heap.size ≤ gx := by omega
  have hA0 : ∀ x, A = some x → w.heap.size ≤ x.block := fun x e => by have := hAx x e; omega
  have hBq : ∀ x, B = some x → w.heap.size < x.block := fun x e => by have := hBx x e; omega
  have hSK : ∀ i, SK gx A B i → w.heap.size ≤ i := fun i hi => by
    rcases hi with rfl | ⟨x, e, rfl⟩ | ⟨x, e, rfl⟩
    · exact hgx0
    · exact hA0 x e
    · have := hBq x e; omega
  have hRB : ∀ x, B = some x → w.heap.size ≠ x.block := fun x e => by have := hBq x e; omega
  have hlen0 : (freshTo M M).length = M := freshTo_len M M
  clear hA hRA hO hg hh hgx hAx hBx hCx hb1 hb2 hb3 hw1 hs2 hA0 hBq hM
  go_wp2_with fail
  generalize w3.alloc (.cells #[.pointer (some ⟨gx, 0, none⟩)] 62) = w4 at hBo hP hR0 hB0 ⊢
  generalize w3.heap.size = Bx at hP ⊢
  go_loopw [34] (fun c wr => ∃ (k : Nat) (L : List Pl) (f u : Int) (F : List Nat) (C : Option Addr) (m cc : Nat), k ≤ len ∧ c = .int .i64 k ∧ Both wr g h gx A B C ca cb m cc L f u F ∧ L.length = M ∧ Bk wr Bx 62 #[.pointer (some ⟨gx, 0, none⟩)] ∧ Bk wr w.heap.size 4 #[.bool false] ∧ Below w.heap.size w wr) (fun c _ => len - (intOf c).toNat)
  case atStart => exact ⟨0, _, _, _, _, _, _, _, by omega, rfl, hBo, hlen0, hP, hR0, hB0⟩
  case round =>
    clear hBo hP hR0 hB0 hlen0
    obtain ⟨k, L, f, u, F, C, m, cc, hk, rfl, hBo, hLM, hP, hR0, HB⟩ := hrel
    by_cases hlt : k < len
    · obtain ⟨b, off, ⟨kd, di, dx⟩, rfl, d0, d1, d2⟩ := deed_at (hl.below HB) hlt
      dsimp only at d0 d1 d2
      clear hl
      have hO : Below wr.heap.size wr (wr.alloc (.cells #[.int .i64 kd, .int .i64 di, .int .i64 dx] 65)) := (Below.refl _ _).alloc (Nat.le_refl _) _
      replace hBo := hBo.below hO
      replace hP := hP.below hO
      replace hR0 := hR0.below hO
      replace HB := bl_then HB (Nat.le_refl _) hO
      have hD : Bk (wr.alloc (.cells #[.int .i64 kd, .int .i64 di, .int .i64 dx] 65)) wr.heap.size 65 #[.int .i64 kd, .int .i64 di, .int .i64 dx] := Bk.new _ _ _
      clear hO
      have aP := hBo.apart hP (by decide) (by decide) (by decide) (by decide) (hBo.notB hP (by decide))
      have aD := hBo.apart hD (by decide) (by decide) (by decide) (by decide) (hBo.notB hD (by decide))
      have aR := hBo.apart hR0 (by decide) (by decide) (by decide) (by decide) hRB
      have hL1 : L.length ≤ 1000 := by omega
      have HMM : Hid (L.length = M) := Lib.hid hLM
      clear hLM
      go_upto_block 2 with fail
      generalize wr.alloc (.cells #[.int .i64 kd, .int .i64 di, .int .i64 dx] 65) = w5 at hBo hP hR0 HB hD ⊢
      generalize wr.heap.size = D at hD aD ⊢
      go_cut [9, 10, 11, 12, 13] from 40 to 98 (fun s9 _ _ _ _ wx => s9 = .bool true ∧ ∃ (L9 : List Pl) (f9 u9 : Int) (F9 : List Nat) (C9 : Option Addr) (m9 cc9 : Nat), Both wx g h gx A B C9 ca cb m9 cc9 L9 f9 u9 F9 ∧ L9.length = M ∧ Bk wx Bx 62 #[.pointer (some ⟨gx, 0, none⟩)] ∧ Bk wx D 65 #[.int .i64 kd, .int .i64 di, .int .i64 dx] ∧ Bk wx w.heap.size 4 #[.bool false] ∧ Below w.heap.size w wx)
      case first =>
        by_cases hk0 : kd = 0
        · as_aux_lemma =>
            subst hk0
            obtain ⟨v, ok, L9, f9, u9, F9, hTA, hTR, hI9, hl9⟩ := take_both g h gx A B ca cb L f u F dx hBo.inv hL1
            have HTA := Lib.hid hTA
            have HTR := Lib.hid hTR
            clear hTA hTR
            have q2 := hD.cell 2
            go_wp2_with fail
            refine (HTA.out _ hBo.ar).mono ?_
            rintro e w6 ⟨rfl, hA6, k6⟩
            have hR6 := RA.off hBo.ar hBo.ra k6
            have hP6 := k6.bk hP aP.1
            have hD6 := k6.bk hD aD.1
            have hR06 := k6.bk hR0 aR.1
            have HB6 := bl_keep HB k6 (fun i hi => by rcases hi with rfl | rfl <;> assumption)
            have x0 := hP6.cell 0
            have y2 := hD6.cell 2
            clear hBo hP hD hR0 HB k6
            go_wp2_with fail
            refine (HTR.out _ _ _ _ hR6).mono ?_
            rintro e w9 ⟨rfl, ⟨C9, m9, cc9, hR9⟩, k9⟩
            have hBo9 : Both w9 g h gx A B C9 ca cb m9 cc9 L9 f9 u9 F9 := ⟨Ar.off hA6 hR6 k9, hR9, hI9⟩
            have hP9 := k9.bk hP6 aP.2
            have hD9 := k9.bk hD6 aD.2
            have hR09 := k9.bk hR06 aR.2
            have HB9 := bl_keep HB6 k9 hSK
            clear hA6 hR6 hP6 hD6 hR06 HB6 x0 y2 k9 hR9 HTA HTR hI9
            have HL9 := Lib.hid hl9
            clear hl9
            go_wp2_with fail
            go_meet
            exact ⟨rfl, L9, f9, u9, F9, C9, m9, cc9, hBo9, by rw [HL9.out]; exact HMM.out, hP9, hD9, hR09, HB9⟩
        by_cases hk1 : kd = 1
        · as_aux_lemma =>
            subst hk1
            clear hk0
            obtain ⟨ok, L9, f9, u9, F9, hTA, hTR, hI9, hl9⟩ := free_both g h gx A B ca cb L f u F di hBo.inv hL1
            have HTA := Lib.hid hTA
            have HTR := Lib.hid hTR
            clear hTA hTR
            go_wp2_with fail
            have e1 : w5.drew.cell? ⟨D, 1, none⟩ = some (.int .i64 di) := hD.cell 1
            have xP : w5.drew.cell? ⟨Bx, 0, none⟩ = some (.pointer (some ⟨gx, 0, none⟩)) := hP.cell 0
            first | go_region_held3 (fun w' => w'.cell? ⟨D, 1, none⟩ = some (.int .i64 di) ∧ w'.cell? ⟨Bx, 0, none⟩ = some (.pointer (some ⟨gx, 0, none⟩)))
              (first
                | exact ⟨e1, xP⟩
                | exact ⟨Keep.cellS k6 e1 aD.1, Keep.cellS k6 xP aP.1⟩
                | exact ⟨Keep.cellS k9 (Keep.cellS k6 e1 aD.1) aD.2, Keep.cellS k9 (Keep.cellS k6 xP aP.1) aP.2⟩)
              (first
                | (go_at_call 29; refine (HTA.out _ (by exact hBo.ar)).mono ?_; rintro e w6 ⟨rfl, hA6, k6⟩)
                | (go_at_call 41; refine (HTR.out _ _ _ _ (by exact RA.off hBo.ar hBo.ra (Keep.trans (Keep.drew _ _) k6))).mono ?_; rintro e w8 ⟨rfl, ⟨C9, m9, cc9, hR9⟩, k9⟩)) | fail
            obtain ⟨w9, hw9⟩ : ∃ y, y = w8 := ⟨_, rfl⟩
            rw [← hw9] at hR9 k9 ⊢
            clear hw9
            have kk6 := Keep.trans (Keep.drew w5 (fun i => i = g ∨ i = h)) k6
            have hR6 := RA.off hBo.ar hBo.ra kk6
            have hBo9 : Both w9 g h gx A B C9 ca cb m9 cc9 L9 f9 u9 F9 := ⟨Ar.off hA6 hR6 k9, hR9, hI9⟩
            have hP9 := k9.bk (kk6.bk hP aP.1) aP.2
            have hD9 := k9.bk (kk6.bk hD aD.1) aD.2
            have hR09 := k9.bk (kk6.bk hR0 aR.1) aR.2
            have HB9 := bl_keep (bl_keep HB kk6 (fun i hi => by rcases hi with rfl | rfl <;> assumption)) k9 hSK
            clear hA6 hR6 k6 kk6 k9 hR9 HTA HTR hI9 hBo hP hD hR0 HB e1 xP
            have HL9 := Lib.hid hl9
            clear hl9
            try simp only [beq_self_eq_true]
            go_wp2_with fail
            go_meet
            exact ⟨rfl, L9, f9, u9, F9, C9, m9, cc9, hBo9, by rw [HL9.out]; exact HMM.out, hP9, hD9, hR09, HB9⟩
        · as_aux_lemma =>
            have n0 : (kd == 0) = false := beq_eq_false_iff_ne.2 hk0
            have n1 : (kd == 1) = false := beq_eq_false_iff_ne.2 hk1
            clear hk0 hk1
            have hset := fun (W : World) (hW : Ar W g h L f u) => aset_any g h L f u di dx W hW hL1
            have hhas0 := fun (W : World) (hW : RA W gx A B C ca cb m cc L F) => rhasA_any gx A B C ca cb m cc L F di W hW hL1
            have hI9 := hBo.inv.setx di dx
            have hl9 : (setA L di dx).length = L.length := by unfold setA; split <;> simp
            obtain ⟨⟨xa, _, _⟩, _⟩ := hBo.ra.cells
            go_wp2_with fail
            have e1 : w5.drew.cell? ⟨D, 1, none⟩ = some (.int .i64 di) := hD.cell 1
            have e2 : w5.drew.cell? ⟨D, 2, none⟩ = some (.int .i64 dx) := hD.cell 2
            have xP : w5.drew.cell? ⟨Bx, 0, none⟩ = some (.pointer (some ⟨gx, 0, none⟩)) := hP.cell 0
            cases hu0 : usA L di with
            | none =>
              have hs : setA L di dx = L := by unfold setA; rw [hu0]
              rw [hu0] at hset hhas0
              dsimp only [Option.isSome_none] at hset hhas0
              rw [hs] at hset hI9
              have HSE := Lib.hid hset
              have HHA := Lib.hid hhas0
              clear hset hhas0 hs hl9 hu0 xa
              first | go_region_held3 (fun w' => w'.cell? ⟨D, 1, none⟩ = some (.int .i64 di) ∧ w'.cell? ⟨D, 2, none⟩ = some (.int .i64 dx) ∧ w'.cell? ⟨Bx, 0, none⟩ = some (.pointer (some ⟨gx, 0, none⟩)))
                (first
                  | exact ⟨e1, e2, xP⟩
                  | exact ⟨Keep.cellS k6 e1 aD.1, Keep.cellS k6 e2 aD.1, Keep.cellS k6 xP aP.1⟩)
                (first
                  | (go_at_call 42; refine (HSE.out _ (by exact hBo.ar)).mono ?_; rintro e w6 ⟨rfl, hA6, k6⟩)
                  | (go_at_call 43; refine (HHA.out _ (by exact RA.off hBo.ar hBo.ra (Keep.trans (Keep.drew _ _) k6))).mono ?_; rintro e _ ⟨rfl, rfl⟩)) | fail
              have kk6 := Keep.trans (Keep.drew w5 (fun i => i = g ∨ i = h)) k6
              have hR6 := RA.off hBo.ar hBo.ra kk6
              have HB9 := bl_keep HB kk6 (fun i hi => by rcases hi with rfl | rfl <;> assumption)
              have hP9 := kk6.bk hP aP.1
              have hD9 := kk6.bk hD aD.1
              have hR09 := kk6.bk hR0 aR.1
              have x0 := hP9.cell 0
              have y1 := hD9.cell 1
              clear e1 e2 xP k6 kk6
              go_wp2_with fail
              refine (HHA.out _ hR6).mono ?_
              rintro e _ ⟨rfl, rfl⟩
              obtain ⟨w9, hw9⟩ : ∃ y, y = w6 := ⟨_, rfl⟩
              rw [← hw9] at hA6 hR6 HB9 hP9 hD9 hR09 ⊢
              have hBo9 : Both w9 g h gx A B C ca cb m cc L f u F := ⟨hA6, hR6, hI9⟩
              obtain ⟨L9, hL9e⟩ : ∃ y, y = L := ⟨_, rfl⟩
              obtain ⟨f9, hf9e⟩ : ∃ y, y = f := ⟨_, rfl⟩
              obtain ⟨u9, hu9e⟩ : ∃ y, y = u := ⟨_, rfl⟩
              obtain ⟨F9, hF9e⟩ : ∃ y, y = F := ⟨_, rfl⟩
              obtain ⟨C9, hC9e⟩ : ∃ y, y = C := ⟨_, rfl⟩
              obtain ⟨m9, hm9e⟩ : ∃ y, y = m := ⟨_, rfl⟩
              obtain ⟨cc9, hcc9e⟩ : ∃ y, y = cc := ⟨_, rfl⟩
              have hl9 : L9.length = L.length := by rw [hL9e]
              rw [← hL9e, ← hf9e, ← hu9e, ← hF9e, ← hC9e, ← hm9e, ← hcc9e] at hBo9
              clear hL9e hf9e hu9e hF9e hC9e hm9e hcc9e hw9 hA6 hR6 x0 y1 HSE HHA hI9 hBo hP hD hR0 HB
              have HL9 := Lib.hid hl9
              clear hl9
              go_wp2_with fail
              go_meet
              exact ⟨rfl, L9, f9, u9, F9, C9, m9, cc9, hBo9, by rw [HL9.out]; exact HMM.out, hP9, hD9, hR09, HB9⟩
            | some p =>
              obtain ⟨j, hj, hp, hpu⟩ := usA_some L di p hu0
              have hjl : j < L.length := (List.getElem?_eq_some_iff.1 hp).1
              have hs : setA L di dx = L.set j ⟨dx, p.used, p.next⟩ := by
                unfold setA
                rw [hu0, hj, Int.toNat_natCast]
              rw [hu0] at hset hhas0
              dsimp only [Option.isSome_some] at hset hhas0
              rw [hs] at hset hI9 hl9
              have HSE := Lib.hid hset
              have HHA := Lib.hid hhas0
              have HJ := Lib.hid hj
              have HP := Lib.hid hp
              clear hset hhas0 hs hu0 xa hj hp hpu
              first | go_region_held3 (fun w' => w'.cell? ⟨D, 1, none⟩ = some (.int .i64 di) ∧ w'.cell? ⟨D, 2, none⟩ = some (.int .i64 dx) ∧ w'.cell? ⟨Bx, 0, none⟩ = some (.pointer (some ⟨gx, 0, none⟩)))
                (first
                  | exact ⟨e1, e2, xP⟩
                  | exact ⟨Keep.cellS k6 e1 aD.1, Keep.cellS k6 e2 aD.1, Keep.cellS k6 xP aP.1⟩)
                (first
                  | (go_at_call 42; refine (HSE.out _ (by exact hBo.ar)).mono ?_; rintro e w6 ⟨rfl, hA6, k6⟩)
                  | (go_at_call 43; refine (HHA.out _ (by exact RA.off hBo.ar hBo.ra (Keep.trans (Keep.drew _ _) k6))).mono ?_; rintro e _ ⟨rfl, rfl⟩)) | fail
              have kk6 := Keep.trans (Keep.drew w5 (fun i => i = g ∨ i = h)) k6
              have hR6 := RA.off hBo.ar hBo.ra kk6
              have HB6 := bl_keep HB kk6 (fun i hi => by rcases hi with rfl | rfl <;> assumption)
              have hP6 := kk6.bk hP aP.1
              have hD6 := kk6.bk hD aD.1
              have hR06 := kk6.bk hR0 aR.1
              have x0 := hP6.cell 0
              have y1 := hD6.cell 1
              have y2 := hD6.cell 2
              clear e1 e2 xP k6 kk6 hBo hP hD hR0 HB HSE
              go_wp2_with fail
              refine (HHA.out _ hR6).mono ?_
              rintro e _ ⟨rfl, rfl⟩
              go_wp2_with fail
              have htn : di.toNat = j := by rw [HJ.out]; exact Int.toNat_natCast j
              obtain ⟨⟨g0, g1, g2⟩, _⟩ := hR6.cells
              obtain ⟨ax, bx, hAe, hBe, p0, p1, q0, q1, _, _, _, _⟩ := hR6.place j _ HP.out
              have hRx : RA w6 gx (some ⟨ax, 0, none⟩) B C ca cb m cc L F := by rw [← hAe]; exact hR6
              have r7 := (hRx.below (below_drew _)).storedX j p HP.out dx
              have k7 : Keep (SK gx A B) w6 (w6.drew.setCell ⟨ax, j, none⟩ (.int .i64 dx)) := Keep.trans (Keep.drew _ _) (Keep.set _ _ _ _ _ (.inr (.inl ⟨_, hAe, rfl⟩)))
              rw [hAe] at g0
              rw [← hAe] at r7
              have hA7 := Ar.off hA6 hR6 k7
              have R7 := Lib.hid r7
              have K7 := Lib.hid k7
              have A7 := Lib.hid hA7
              have hj0 : (0 : Int) ≤ di := by rw [HJ.out]; omega
              have hj1 : di < (L.length : Int) := by rw [HJ.out]; omega
              clear r7 k7 hA7 hRx HHA g1 g2 p1 q1 hAe hBe
              go_region
              have w9e : ∃ y, y = (w6.setCell ⟨ax, j, none⟩ (.int .i64 dx)).drew := ⟨_, rfl⟩
              obtain ⟨w9, hw9⟩ := w9e
              have hR9 : RA w9 gx A B C ca cb m cc (L.set j ⟨dx, p.used, p.next⟩) F := by rw [hw9]; exact R7.out
              have k9 : Keep (SK gx A B) w6 w9 := by rw [hw9]; exact K7.out
              have hA9 : Ar w9 g h (L.set j ⟨dx, p.used, p.next⟩) f u := by rw [hw9]; exact A7.out
              rw [← hw9]
              clear hw9 R7 K7 A7
              have hP9 := k9.bk hP6 aP.2
              have hD9 := k9.bk hD6 aD.2
              have hR09 := k9.bk hR06 aR.2
              have HB9 := bl_keep HB6 k9 hSK
              have hBo9 : Both w9 g h gx A B C ca cb m cc (L.set j ⟨dx, p.used, p.next⟩) f u F := ⟨hA9, hR9, hI9⟩
              obtain ⟨L9, hL9e⟩ : ∃ y, y = L.set j ⟨dx, p.used, p.next⟩ := ⟨_, rfl⟩
              obtain ⟨f9, hf9e⟩ : ∃ y, y = f := ⟨_, rfl⟩
              obtain ⟨u9, hu9e⟩ : ∃ y, y = u := ⟨_, rfl⟩
              obtain ⟨F9, hF9e⟩ : ∃ y, y = F := ⟨_, rfl⟩
              obtain ⟨C9, hC9e⟩ : ∃ y, y = C := ⟨_, rfl⟩
              obtain ⟨m9, hm9e⟩ : ∃ y, y = m := ⟨_, rfl⟩
              obtain ⟨cc9, hcc9e⟩ : ∃ y, y = cc := ⟨_, rfl⟩
              rw [← hL9e, ← hf9e, ← hu9e, ← hF9e, ← hC9e, ← hm9e, ← hcc9e] at hBo9
              rw [← hL9e] at hl9
              clear hL9e hf9e hu9e hF9e hC9e hm9e hcc9e hA9 hR9 k9 hA6 hR6 hP6 hD6 hR06 HB6 x0 y1 y2 htn g0 p0 q0 hI9 hj0 hj1 hjl HP HJ
              have HL9 := Lib.hid hl9
              clear hl9
              go_wp2_with fail
              go_meet
              exact ⟨rfl, L9, f9, u9, F9, C9, m9, cc9, hBo9, by rw [HL9.out]; exact HMM.out, hP9, hD9, hR09, HB9⟩
      case rest =>
        as_aux_lemma =>
          obtain ⟨rfl, L9, f9, u9, F9, C9, m9, cc9, hBo9, hLM9, hP9, hD9, hR09, HB9⟩ := hcut
          clear hBo hP hR0 HB hD aP aR hL1
          have hL9 : L9.length ≤ 1000 := by omega
          obtain ⟨hu9, hm9, hmm9⟩ := hBo9.facts hL9
          have y1 := hD9.cell 1
          obtain ⟨⟨g0, g1, g2⟩, _⟩ := hBo9.ra.cells
          have hget := aget_any g h L9 f9 u9 di wc hBo9.ar hL9
          have hhas := fun dq osq => rhasA_any gx A B C9 ca cb m9 cc9 L9 F9 di (grow (redrawn wc dq) osq) (hBo9.ra.below (below_regrown _ _ _)) hL9
          have hleft := fun dq osq => aleft_any g h L9 f9 u9 (grow (redrawn wc dq) osq) (hBo9.ar.below (below_regrown _ _ _)) hu9 hL9
          have hlenA := fun dq osq => alen_any g h L9 f9 u9 (grow (redrawn wc dq) osq) (hBo9.ar.below (below_regrown _ _ _)) hL9
          rw [← hm9] at hleft
          rw [hBo9.inv.len] at hlenA
          have z0 := fun dq osq => cell_regrown (hP9.cell 0) dq osq
          have z1 := fun dq osq => cell_regrown y1 dq osq
          have z2 := fun dq osq => cell_regrown g0 dq osq
          have z3 := fun dq osq => cell_regrown g2 dq osq
          have t9 : IntKind.i64.wrap ((L9.length : Int) - (m9 : Int)) = u9 := by rw [IntKind.wrap_i64]; omega
          have HL9 := Lib.hid hLM9
          clear hm9 hLM9
          cases hu : usA L9 di with
          | none =>
            rw [hu] at hget hhas
            unfold xOf at hget
            dsimp only [Option.isSome_none] at hget hhas
            have HG := Lib.hid hget
            have HH := Lib.hid hhas
            have HLe := Lib.hid hleft
            have HLn := Lib.hid hlenA
            have HBo := Lib.hid hBo9
            clear hget hhas hleft hlenA hBo9
            generalize hN9 : L9.length = N9 at g0 z2 t9
            have HN9 := Lib.hid hN9
            clear hN9
            go_wp2_with fail
            refine HG.out.mono ?_
            rintro e _ ⟨rfl, rfl⟩
            go_wp2_with fail
            refine wp_region_quiet_below (by kernel_rfl) (by kernel_rfl) ?_
            repeat (go_big_quiet_step (first
              | (go_at_call 43; exact Calls.regrown_of ((HH.out _ _).mono fun _ _ h => ⟨h.1, by rw [← h.2]; exact Below.refl _ _⟩))
              | (go_at_call 28; exact Calls.regrown_of ((HLe.out _ _).mono fun _ _ h => ⟨h.1, by obtain ⟨_, m, h2⟩ := h; rw [h2]; exact below_drewN _ _⟩))
              | (go_at_call 31; exact Calls.regrown_of (HLn.out _ _))))
            refine wpQuiet_nil ?_
            intro _ hw'
            obtain ⟨⟨dq, osq⟩, hw''⟩ := hw'
            subst hw''
            go_wp2
            go_roundw
            case rel => exact ⟨k + 1, L9, f9, u9, F9, C9, m9, cc9, by omega, by go_num, HBo.out.below (below_regrown _ _ _), HL9.out, hP9.below (below_regrown _ _ _), hR09.below (below_regrown _ _ _), bl_then HB9 (Nat.le_refl _) (below_regrown _ _ _)⟩
            case measure => simp [intOf]; omega
          | some p =>
            obtain ⟨j, hj, hp, hpu⟩ := usA_some L9 di p hu
            have hjl : j < L9.length := (List.getElem?_eq_some_iff.1 hp).1
            obtain ⟨ax, bx, rfl, rfl, p0, p1, _, _, _, _, _, _⟩ := hBo9.ra.place j _ hp
            have z4 := fun dq osq => cell_regrown p0 dq osq
            rw [hu] at hget hhas
            rw [hj] at z1 y1 hget
            unfold xOf at hget
            dsimp only [Option.isSome_some] at hget hhas
            rw [hj] at hhas
            have HG := Lib.hid hget
            have HH := Lib.hid hhas
            have HLe := Lib.hid hleft
            have HLn := Lib.hid hlenA
            have HBo := Lib.hid hBo9
            clear hget hhas hleft hlenA hBo9
            generalize hN9 : L9.length = N9 at g0 z2 t9 hjl
            have HN9 := Lib.hid hN9
            clear hN9
            obtain ⟨px, pu, pn⟩ := p
            dsimp only at z4 HG
            clear hj p0 p1 hp hpu hu
            have hj0 : (0 : Int) ≤ (j : Int) := by omega
            have hj1 : (j : Int) < (N9 : Int) := by omega
            go_wp2_with fail
            refine HG.out.mono ?_
            rintro e _ ⟨rfl, rfl⟩
            clear y1
            go_wp2_with fail
            refine wp_region_quiet_below (by kernel_rfl) (by kernel_rfl) ?_
            repeat (go_big_quiet_step (first
              | (go_at_call 43; exact Calls.regrown_of ((HH.out _ _).mono fun _ _ h => ⟨h.1, by rw [← h.2]; exact Below.refl _ _⟩))
              | (go_at_call 28; exact Calls.regrown_of ((HLe.out _ _).mono fun _ _ h => ⟨h.1, by obtain ⟨_, m, h2⟩ := h; rw [h2]; exact below_drewN _ _⟩))
              | (go_at_call 31; exact Calls.regrown_of (HLn.out _ _))))
            refine wpQuiet_nil ?_
            intro _ hw'
            obtain ⟨⟨dq, osq⟩, hw''⟩ := hw'
            subst hw''
            go_wp2
            go_roundw
            case rel => exact ⟨k + 1, L9, f9, u9, F9, C9, m9, cc9, by omega, by go_num, HBo.out.below (below_regrown _ _ _), HL9.out, hP9.below (below_regrown _ _ _), hR09.below (below_regrown _ _ _), bl_then HB9 (Nat.le_refl _) (below_regrown _ _ _)⟩
            case measure => simp [intOf]; omega
    · as_aux_lemma =>
        obtain rfl : k = len := by omega
        clear hl hlt
        have hL1 : L.length ≤ 1000 := by omega
        have hgl := hBo.ar.lt
        have hO : Below wr.heap.size wr ((wr.alloc (.cells #[.int .i64 (-1)] 3)).alloc (.cells #[.pointer (some ⟨g, 0, none⟩)] 41)) := ((Below.refl _ _).alloc (Nat.le_refl _) _).alloc (by simp) _
        have hLst : Bk ((wr.alloc (.cells #[.int .i64 (-1)] 3)).alloc (.cells #[.pointer (some ⟨g, 0, none⟩)] 41)) wr.heap.size 3 #[.int .i64 (-1)] := (Bk.new wr 3 #[.int .i64 (-1)]).below ((Below.refl _ _).alloc (Nat.le_refl _) _)
        have hbq : ((wr.alloc (.cells #[.int .i64 (-1)] 3)).alloc (.cells #[.pointer (some ⟨g, 0, none⟩)] 41)).cell? ⟨wr.heap.size + 1, 0, none⟩ = some (.pointer (some ⟨g, 0, none⟩)) := by
          have := (Bk.new (wr.alloc (.cells #[.int .i64 (-1)] 3)) 41 #[.pointer (some ⟨g, 0, none⟩)]).cell 0
          rw [World.size_alloc] at this
          exact this
        have hsz5 : ((wr.alloc (.cells #[.int .i64 (-1)] 3)).alloc (.cells #[.pointer (some ⟨g, 0, none⟩)] 41)).heap.size = wr.heap.size + 2 := by simp
        go_wp2_with fail
        refine (callsIn_wide.1 (used_in 3 (some ⟨g, 0, none⟩) _)).mono ?_
        rintro e _ ⟨rfl, rfl⟩
        simp only [World.size_alloc]
        go_wp2_with fail
        refine (wpIn_wide (n := 3)).1 ?_
        have hst := used_stops 2 (by omega) (wr.heap.size + 1) wr.heap.size g h L f u hL1 ((wr.alloc (.cells #[.int .i64 (-1)] 3)).alloc (.cells #[.pointer (some ⟨g, 0, none⟩)] 41)) (by rw [hsz5]; omega) hgl.1 hgl.2 hbq (hBo.ar.below hO)
        refine' rangeF_fr rfl (by omega) (gf := 71) (lb := #[.pointer (some ⟨wr.heap.size + 1, 0, none⟩)]) rfl trivial (enters_of Try.func71 (by kernel_rfl) rfl)
          hst Keep.trans
          (fun W l o o' hl ho h1 h2 => grown_keep (grownBy_putObj' W l o') _ (fun k e => by cases e; rw [hsz5] at hl; constructor <;> omega)) (Below.refl _ _) (fun _ => rfl)
          (fun pre W => (W.cell? ⟨wr.heap.size, 0, none⟩ = some (.int .i64 (lastP pre)) ∧ W.frozen? ⟨wr.heap.size, 0, none⟩ = false) ∧ Keep (fun i => i = wr.heap.size) ((wr.alloc (.cells #[.int .i64 (-1)] 3)).alloc (.cells #[.pointer (some ⟨g, 0, none⟩)] 41)) W)
          (fun c pre W => c = .ret ∧ ∃ p x, pre = p ++ [x] ∧ ¬ (lastP p < x.1 ∧ ∃ q, usA L x.1 = some q ∧ q.x = x.2))
          (OwnFrom.and (Own.from (fun s A B row hs hg hr => ⟨cell_kept hs.1 hg hr, (frozen_kept hs.1 hg hr).trans hs.2⟩) _) (fun s W W' row hs hg hr => Keep.fresh hs (grown_keep hg (fun k => row = some k) (fun k e => e)) (fun i hi => .inr (hr i hi).1)))
          (fun _ _ _ _ _ hs _ _ => hs)
          ⟨⟨hLst.cell 0, hLst.frozen 0⟩, Keep.refl _ _⟩
          (fun fr x => (((fr.setIfInBounds 168 (.int .i64 (x.1 : Int))).setIfInBounds 169 (.int .i64 x.2)).setIfInBounds 17 (.int .i64 (x.1 : Int))).setIfInBounds 18 (.int .i64 x.2)) ?assign ?body ?done ?stop
        case assign =>
          intro fr hfr l x W K hK
          replace hfr : fr.size = 191 := hfr
          have h0 : (((#[168, 169] : Array Tmp).zip #[Value.int .i64 (x.1 : Int), .int .i64 x.2]).foldl (fun t (p, v) => t.setIfInBounds p v) fr) = (fr.setIfInBounds 168 (.int .i64 (x.1 : Int))).setIfInBounds 169 (.int .i64 x.2) := by simp
          rw [h0]
          have HK := Lib.hid hK
          clear hK
          gi_wp2
          exact HK.out
        case body =>
          rintro l pre x W ⟨⟨hc, hf⟩, kW⟩ hpre
          simp only [List.setIfInBounds_toArray, List.set_cons_succ, List.set_cons_zero]
          have hbel : Below wr.heap.size wr W := hO.trans (kW.below (by rw [hsz5]; omega) (fun i hi => by omega))
          have hRW := hBo.ra.below hbel
          have x0 := (hP.below hbel).cell 0
          have hR0W := hR0.below hbel
          have hR1 := hR0W.cell 0
          have hR2 := hR0W.frozen 0
          obtain ⟨⟨g0, g1, g2⟩, _⟩ := hRW.cells
          have hhas := rhasA_any gx A B C ca cb m cc L F (x.1 : Int) W hRW hL1
          by_cases ha : lastP pre < x.1
          · have t1 : decide ((x.1 : Int) ≤ lastP pre) = false := by simp; omega
            cases hu : usA L x.1 with
            | none =>
              have hno : Hid (¬ (lastP pre < x.1 ∧ ∃ q, usA L x.1 = some q ∧ q.x = x.2)) := Lib.hid (fun hh => by obtain ⟨_, q, hq, _⟩ := hh; rw [hu] at hq; cases hq)
              rw [hu] at hhas
              dsimp only [Option.isSome_none] at hhas
              have HH := Lib.hid hhas
              clear hhas hu ha
              gi_wp2_with (first | (refine ⟨trivial, ?_⟩; gi_at_call 43; refine (CallsIn.inRound l (callsIn_wide.2 HH.out)).mono ?_; rintro e w' ⟨rfl, rfl⟩))
              exact ⟨KeepsOthers.setCell _ _ _, rfl, pre, x, rfl, hno.out⟩
            | some q =>
              obtain ⟨j, hj, hp, hpu⟩ := usA_some L x.1 q hu
              obtain rfl : x.1 = j := by omega
              have hjl := (List.getElem?_eq_some_iff.1 hp).1
              obtain ⟨ax, bx, rfl, rfl, p0, p1, _, _, _, _, _, _⟩ := hRW.place x.1 _ hp
              have HU := Lib.hid hu
              rw [hu] at hhas
              dsimp only [Option.isSome_some] at hhas
              have hlt' : (x.1 : Int) < (L.length : Int) := by omega
              have HH := Lib.hid hhas
              by_cases hqx : q.x = x.2
              · rw [hqx] at p0
                clear hhas hu hqx hp hpu hj ha HU
                gi_wp2_with (first | (refine ⟨trivial, ?_⟩; gi_at_call 43; refine (CallsIn.inRound l (callsIn_wide.2 HH.out)).mono ?_; rintro e w' ⟨rfl, rfl⟩))
                exact ⟨KeepsOthers.setCell _ _ _, Keep.set W wr.heap.size 0 _ _ ⟨Nat.le_refl _, by omega⟩, ⟨by rw [lastP_snoc]; exact World.cell?_setCell_same' _ _ _ (by rw [hc]; rfl), by rw [World.frozen?_setCell]; exact hf⟩, Keep.trans kW (Keep.set _ _ _ _ _ rfl)⟩
              · have hno : Hid (¬ (lastP pre < x.1 ∧ ∃ q, usA L x.1 = some q ∧ q.x = x.2)) := Lib.hid (fun hh => by obtain ⟨_, q', hq, hqq⟩ := hh; rw [HU.out] at hq; cases hq; exact hqx hqq)
                have t2 : (x.2 != q.x) = true := by rw [bne_iff_ne]; exact fun e => hqx e.symm
                clear hhas hu hqx hp hpu hj ha HU
                gi_wp2_with (first | (refine ⟨trivial, ?_⟩; gi_at_call 43; refine (CallsIn.inRound l (callsIn_wide.2 HH.out)).mono ?_; rintro e w' ⟨rfl, rfl⟩))
                exact ⟨KeepsOthers.setCell _ _ _, rfl, pre, x, rfl, hno.out⟩
          · have hno : Hid (¬ (lastP pre < x.1 ∧ ∃ q, usA L x.1 = some q ∧ q.x = x.2)) := Lib.hid (fun hh => ha hh.1)
            have t1 : decide ((x.1 : Int) ≤ lastP pre) = true := by simp; omega
            clear ha hhas
            gi_wp2
            refine ⟨trivial, ?_⟩
            gi_wp2
            exact ⟨KeepsOthers.setCell _ _ _, rfl, pre, x, rfl, hno.out⟩
        case done =>
          rintro D ys W hD rfl ⟨⟨hc, hf⟩, kW⟩ hK
          have hRr := kW.bk (hR0.below hO) (by have := hR0.lt; omega)
          have hR1 := hRr.cell 0
          have hR2 := hRr.frozen 0
          have hbel : Below wr.heap.size wr W := hO.trans (kW.below (by rw [hsz5]; omega) (fun i hi => by omega))
          have HBW := HB.trans (hbel.mono HB.size)
          have y := (hRr.set 0 (.bool true)).cell 0
          go_wp2
          refine ⟨by simp, .inl ⟨_, _, rfl, run_takeDeferred (by first | exact hK | exact (KeepsOthers.setCell _ _ _).same D _ hK rfl), ?_⟩⟩
          have y' := cell_kept y (grownBy_putObj' _ D (.deferred none)) (fun r e => by cases e; exact ⟨_, (KeepsOthers.setCell _ _ _).same D _ hK rfl, rfl⟩)
          exact ⟨_, by simp [results, Try.results8, go_sem, y'], rfl, (HBW.setCell (p := ⟨w.heap.size, 0, none⟩) (Nat.le_refl _) _).trans (belowK_b (w := w) (Nat.le_refl _) _ D _ _ (by rw [hsz5] at hD; have := HB.size; omega) ((KeepsOthers.setCell _ _ _).same D _ hK rfl) rfl rfl)⟩
        case stop =>
          rintro D c pre W hD hpre ⟨rfl, p, x, rfl, hno⟩ hK
          exact absurd (usedTo_step L L.length (Nat.le_refl _) p x hpre) hno
end Go.Proofs.Ytgdghinconghgaa
