/- queue: the reference's queue: Size, Copy, Ask. No condition. -/
import Derived.Test.YtdkbfmffnamdbaaQvb
import Derived.Test.YtdkbfmffnamdbaaQuq
set_option linter.unusedVariables false
set_option linter.unusedSimpArgs false
namespace Go.Proofs.Ytdkbfmffnamdbaa
open Go.RowKit (wrap32 wrap64)
open Go.RowKit
/-- A cell's slice reads as a list of records; its block, if it has one, is of its own type, and whole. -/
def RF {α : Type} (enc : α → List Value) (ok : α → Prop) (s : Nat) (E : TypeId) (w : World) (v : Value) (L : List α) : Prop :=
  ∃ a n c, v = .slice a n c ∧ SR enc ok s w a n L ∧ n ≤ c ∧ c ≤ 9223372036854775807 ∧ ((a = none ∧ n = 0 ∧ c = 0) ∨ ∃ b off cs, a = some ⟨b, off, none⟩ ∧ Bk w b E cs)
section
variable {α : Type} {enc : α → List Value} {ok : α → Prop} {s : Nat} {E : TypeId}
theorem RF.keep {S : Nat → Prop} {w w1 : World} {v : Value} {L : List α} (h : RF enc ok s E w v L) (k : Keep S w w1) (hS : ∀ i, S i → ∃ t cs, Bk w i t cs ∧ t ≠ E) : RF enc ok s E w1 v L := by
  obtain ⟨a, n, c, rfl, hs, h1, h2, hf⟩ := h
  rcases hf with ⟨rfl, rfl, rfl⟩ | ⟨b, off, cs, rfl, hb⟩
  · exact ⟨none, 0, 0, rfl, hs.keep k (by intro x hx; cases hx), h1, h2, .inl ⟨rfl, rfl, rfl⟩⟩
  · have hn : ¬ S b := fun hSb => by
      obtain ⟨t, ds, hb2, hne⟩ := hS _ hSb
      exact (Bk.ne hb2 hb hne) rfl
    exact ⟨_, n, c, rfl, hs.keep k (by intro x hx; cases hx; exact hn), h1, h2, .inr ⟨b, off, cs, rfl, k.bk hb hn⟩⟩
theorem RF.below {w w1 : World} {v : Value} {L : List α} (h : RF enc ok s E w v L) (b : Below w.heap.size w w1) : RF enc ok s E w1 v L :=
  h.keep (Keep.of_below b (fun _ => False)) (fun _ h => h.elim)
theorem RF.own (he : ∀ a, (enc a).length = s) (hs : 0 < s) {w : World} {base : Nat} {v : Value} {L : List α} (h : w.ownsRow base E s v L.length (flatV enc L)) (hR : ∀ x ∈ L, ok x) : RF enc ok s E w v L := by
  have h2 := h
  obtain ⟨A, c, rfl, hs, hn, _⟩ := SR.own he hs h hR
  have hc := own_caps h2
  refine ⟨A, _, c, rfl, hs, hc.1, by have := hc.2.1; unfold maxLen at this; exact this, ?_⟩
  rcases h2.2 with ⟨hv, h0⟩ | ⟨g, cap', cur, hv, _, h1, _⟩
  · injection hv with e1 _ e3; exact .inl ⟨e1, h0, e3⟩
  · injection hv with e1 _ _; exact .inr ⟨g, 0, cur, e1, h1⟩
theorem RF.nil (w : World) : RF enc ok s E w (.slice none 0 0) [] :=
  ⟨none, 0, 0, rfl, SR.zero _, Nat.le_refl _, Nat.zero_le _, .inl ⟨rfl, rfl, rfl⟩⟩
theorem RF.all {w : World} {v : Value} {L : List α} (h : RF enc ok s E w v L) : ∀ x ∈ L, ok x := by
  obtain ⟨_, _, _, _, hs, _⟩ := h
  exact hs.all
/-- Behind the first one. -/
theorem RF.tail (he : ∀ a, (enc a).length = s) {w : World} {a : Option Addr} {n c : Nat} {x : α} {L : List α} (h : RF enc ok s E w (.slice a n c) (x :: L)) :
    ∃ b off m, a = some ⟨b, off, none⟩ ∧ n = m + 1 ∧ m = L.length ∧ m + 1 ≤ c ∧ c ≤ 9223372036854775807 ∧ SR enc ok s w (some ⟨b, off, none⟩) (m + 1) (x :: L) ∧ RF enc ok s E w (.slice (if c = 1 then some ⟨b, off, none⟩ else some ⟨b, off + s, none⟩) m (c - 1)) L := by
  obtain ⟨a', n', c', hv, hs, h1, h2, hf⟩ := h
  injection hv with e1 e2 e3
  subst e1; subst e2; subst e3
  have hl := hs.len
  rw [List.length_cons] at hl
  rcases hf with ⟨rfl, rfl, rfl⟩ | ⟨b, off, cs, rfl, hb⟩
  · omega
  · have hd := hs.drop he (p := 1) (by omega)
    rw [List.drop_one, List.tail_cons, Nat.one_mul] at hd
    obtain ⟨m, rfl⟩ : ∃ m, n = m + 1 := ⟨n - 1, by omega⟩
    rw [Nat.add_sub_cancel] at hd
    refine ⟨b, off, m, rfl, rfl, by omega, h1, h2, hs, _, m, c - 1, rfl, ?_, by omega, by omega, ?_⟩
    · split
      · have hm : m = 0 := by omega
        subst hm
        have : L = [] := List.eq_nil_of_length_eq_zero (by omega)
        subst this
        exact SR.zero _
      · exact hd
    · right
      split
      · exact ⟨b, off, cs, rfl, hb⟩
      · exact ⟨b, off + s, cs, rfl, hb⟩
end
/-- The reference's queue. -/
def RQ (w : World) (x : Nat) (H : List Hd) (W : List Wt) : Prop :=
  ∃ vH vW, Bk w x 51 #[.int .i64 0, .int .i64 0, .int .i64 0, .int .i64 0, .int .i64 0, vH, vW] ∧ RF enHd okHd 2 82 w vH H ∧ RF enWt okWt 4 37 w vW W
theorem RQ.below {w w1 : World} {x : Nat} {H : List Hd} {W : List Wt} (h : RQ w x H W) (b : Below w.heap.size w w1) : RQ w1 x H W := by
  obtain ⟨vH, vW, h1, h2, h3⟩ := h
  exact ⟨vH, vW, h1.below b, h2.below b, h3.below b⟩
theorem RQ.lt {w : World} {x : Nat} {H : List Hd} {W : List Wt} (h : RQ w x H W) : x < w.heap.size := by
  obtain ⟨vH, vW, h1, _⟩ := h
  exact h1.lt
theorem RQ.keep {w w1 : World} {x r : Nat} {H : List Hd} {W : List Wt} {t : TypeId} {cs : Array Value} (h : RQ w x H W) (k : Keep (fun i => i = r) w w1) (hne : x ≠ r) (hr : Bk w r t cs) (h1 : t ≠ 82) (h2 : t ≠ 37) : RQ w1 x H W := by
  obtain ⟨vH, vW, b, s1, s2⟩ := h
  exact ⟨vH, vW, k.bk b hne, s1.keep k (fun i hi => by subst hi; exact ⟨t, cs, hr, h1⟩), s2.keep k (fun i hi => by subst hi; exact ⟨t, cs, hr, h2⟩)⟩
theorem RQ.setH {w : World} {x : Nat} {H H2 : List Hd} {W : List Wt} {v : Value} (h : RQ w x H W) (s : RF enHd okHd 2 82 w v H2) : RQ (w.setCell ⟨x, 5, none⟩ v) x H2 W := by
  obtain ⟨vH, vW, b, s1, s2⟩ := h
  exact ⟨v, vW, b.set 5 v, s.keep (keep_set w x 5 v) (fun i hi => by subst hi; exact ⟨_, _, b, by decide⟩), s2.keep (keep_set w x 5 v) (fun i hi => by subst hi; exact ⟨_, _, b, by decide⟩)⟩
theorem RQ.setW {w : World} {x : Nat} {H : List Hd} {W W2 : List Wt} {v : Value} (h : RQ w x H W) (s : RF enWt okWt 4 37 w v W2) : RQ (w.setCell ⟨x, 6, none⟩ v) x H W2 := by
  obtain ⟨vH, vW, b, s1, s2⟩ := h
  exact ⟨vH, v, b.set 6 v, s1.keep (keep_set w x 6 v) (fun i hi => by subst hi; exact ⟨_, _, b, by decide⟩), s.keep (keep_set w x 6 v) (fun i hi => by subst hi; exact ⟨_, _, b, by decide⟩)⟩
theorem RQ.okH {w : World} {x : Nat} {H : List Hd} {W : List Wt} (h : RQ w x H W) : ∀ y ∈ H, okHd y := by
  obtain ⟨_, _, _, h1, _⟩ := h
  exact h1.all
theorem RQ.okW {w : World} {x : Nat} {H : List Hd} {W : List Wt} (h : RQ w x H W) : ∀ y ∈ W, okWt y := by
  obtain ⟨_, _, _, _, h1⟩ := h
  exact h1.all
theorem RQ.new (w : World) : RQ (w.alloc (.cells #[.int .i64 0, .int .i64 0, .int .i64 0, .int .i64 0, .int .i64 0, .slice none 0 0, .slice none 0 0] 51)) w.heap.size [] [] :=
  ⟨_, _, Bk.new w _ _, RF.nil _, RF.nil _⟩
theorem rqsize_any (x : Nat) (H : List Hd) (W : List Wt) (w : World) (h : RQ w x H W) (hn : H.length + W.length ≤ 1000) : Calls Try.prog 18 #[.pointer (some ⟨x, 0, none⟩)] w fun e w' => e = .returned (.int .i64 ((H.length + W.length : Nat) : Int)) ∧ Below w.heap.size w w' := by
  obtain ⟨vH, vW, hb, ⟨a, n, c, rfl, hs, _⟩, ⟨a2, n2, c2, rfl, hs2, _⟩⟩ := h
  have e1 := hs.len
  have e2 := hs2.len
  have c5 := hb.cell 5
  have c6 := hb.cell 6
  rw [e1, e2] at hn ⊢
  have t1 : IntKind.i64.wrap ((n : Int) + n2) = ((n + n2 : Nat) : Int) := by rw [IntKind.wrap_i64] <;> omega
  clear hb hs hs2 e1 e2
  go_enter Try.func18, Try.ntmps18
  go_wp2
  go_quiet (fail)
  go_wp2
  go_ret
  exact ⟨rfl, by first | exact Below.refl _ _ | exact below_drew _ | exact below_drewN _ _⟩
def RCopyRet (w : World) (H : List Hd) (W : List Wt) (e : Ending) (w' : World) : Prop := ∃ r, e = .returned (.pointer (some ⟨r, 0, none⟩)) ∧ w.heap.size ≤ r ∧ RQ w' r H W ∧ Below w.heap.size w w'
theorem own_grown {w w' : World} {base E s n : Nat} {v : Value} {xs : List Value} (h : w.ownsRow base E s v n xs) (hg : w.grownBy w' none) : w'.ownsRow base E s v n xs := own_below h (grown_below hg (Below.refl _ _))
theorem RF.of_own {α : Type} {enc : α → List Value} {ok : α → Prop} {s : Nat} {E : TypeId} (he : ∀ a, (enc a).length = s) (hs : 0 < s) {w : World} {base n : Nat} {v : Value} {L : List α} (h : w.ownsRow base E s v n (flatV enc ([] ++ L))) (hR : ∀ x ∈ L, ok x) : RF enc ok s E w v L := by
  rw [List.nil_append] at h
  have h1 := h.1
  rw [flatV_len he] at h1
  obtain rfl : L.length = n := Nat.eq_of_mul_eq_mul_right hs h1
  exact RF.own he hs h hR
theorem rcopy_end {w wl : World} {vH vW : Value} {H : List Hd} {W : List Wt} {n m : Nat} (hb : Below w.heap.size w wl) (hH : wl.ownsRow w.heap.size 82 2 vH n (flatV enHd ([] ++ H))) (hW : wl.ownsRow w.heap.size 37 4 vW m (flatV enWt ([] ++ W))) (okH : ∀ x ∈ H, okHd x) (okW : ∀ x ∈ W, okWt x) :
    RCopyRet w H W (.returned (.pointer (some ⟨wl.heap.size, 0, none⟩))) (wl.alloc (.cells #[.int .i64 0, .int .i64 0, .int .i64 0, .int .i64 0, .int .i64 0, vH, vW] 51)) := by
  have al := (Below.refl wl.heap.size wl).alloc (Nat.le_refl _) (.cells #[.int .i64 0, .int .i64 0, .int .i64 0, .int .i64 0, .int .i64 0, vH, vW] 51)
  exact ⟨_, rfl, hb.size, ⟨_, _, Bk.new wl _ _, (RF.of_own enHd_len (by omega) hH okH).below al, (RF.of_own enWt_len (by omega) hW okW).below al⟩, bl_then hb (Nat.le_refl _) al⟩
end Go.Proofs.Ytdkbfmffnamdbaa
