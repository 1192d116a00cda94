/- The two books side by side: their blocks apart, Turn alike, numbers in order. No condition. -/
import Derived.Test.YtgdghinconghgaaTxnW
import Derived.Test.YtgdghinconghgaaTxnL
set_option linter.unusedVariables false
set_option linter.unusedSimpArgs false
namespace Go.Proofs.Ytgdghinconghgaa
open Go.RowKit (wrap32 wrap64)
open Go.RowKit
theorem blk_ne {w : World} {g h : Nat} {t u : TypeId} {cs ds : Array Value} {f f' : Nat × Nat} (a : w.heap[g]? = some (.cells cs t f)) (b : w.heap[h]? = some (.cells ds u f')) (hne : t ≠ u) : g ≠ h := by
  rintro rfl
  rw [a] at b
  injection b with b
  injection b with _ b
  exact hne b
theorem own_blk {w : World} {base : Nat} {e : TypeId} {size n c : Nat} {x : Addr} {xs : List Value} (ho : w.ownsRow base e size (.slice (some x) n c) n xs) : ∃ cur f, w.heap[x.block]? = some (.cells cur e f) := by
  rcases ho.2 with ⟨hv, _⟩ | ⟨h, cap, cur, hv, hb, hg, _⟩
  · cases hv
  · injection hv with e1 _ _
    injection e1 with e1
    subst e1
    exact ⟨_, _, hg⟩
theorem books_apart {w : World} {g h cap gx c : Nat} {A : Option Addr} {L M : List Tx} (hb : Book w g h cap L) (hx : XBook w gx A c M) : g ≠ gx ∧ h ≠ gx ∧ ∀ x, A = some x → x.block ≠ g ∧ x.block ≠ h := by
  obtain ⟨cu, f, hh⟩ := own_blk hb.2.1
  refine ⟨Bk.ne hb.1 hx.1 (by decide), fun e => ?_, ?_⟩
  · subst e
    exact blk_ne hh hx.1 (by decide) rfl
  · rintro x rfl
    obtain ⟨cx, f2, hxx⟩ := own_blk hx.2.1
    exact ⟨blk_ne hxx hb.1 (by decide), blk_ne hxx hh (by decide)⟩
def trnX (L : List Tx) (id st why : Int) : List Tx := match txAt (txZero :: L) id with
  | none => L
  | some x => if mayT x.state st = false then L else if st = 2 ∧ why = 0 then L else L.set (id - 1).toNat (nextT x st why)
theorem trnL_cons (L : List Tx) (id st why : Int) : trnL (txZero :: L) id st why = txZero :: trnX L id st why := by
  unfold trnL trnX
  cases h : txAt (txZero :: L) id with
  | none => rfl
  | some x =>
    have hi : 1 ≤ id := by
      unfold txAt at h
      by_cases hq : 1 ≤ id ∧ id < (txZero :: L).length
      · exact hq.1
      · rw [if_neg hq] at h; cases h
    have e : id.toNat = (id - 1).toNat + 1 := by omega
    dsimp only
    split
    · rfl
    · split
      · rfl
      · rw [e]; rfl
theorem trnX_len (L : List Tx) (id st why : Int) : (trnX L id st why).length = L.length := by
  have := trnL_len (txZero :: L) id st why
  rw [trnL_cons] at this
  simpa using this
theorem xturn_any (g c : Nat) (A : Option Addr) (L : List Tx) (id st why : Int) (w : World) (hb : XBook w g A c L) (hL : L.length ≤ 1000) :
    Calls Try.prog 59 #[.pointer (some ⟨g, 0, none⟩), .int .i64 id, .int .i64 st, .int .i64 why] w (XTurn g c A (trnE (txZero :: L) id st why) (trnX L id st why) w) := by
  by_cases hi : 1 ≤ id ∧ id ≤ L.length
  · obtain ⟨k, rfl⟩ : ∃ k : Nat, id = (k : Int) + 1 := ⟨(id - 1).toNat, by omega⟩
    have hk : k < L.length := by omega
    have ht : txAt (txZero :: L) ((k : Int) + 1) = some L[k] := by
      have := txAt_yes (txZero :: L) (k + 1) (by omega) (by simp; omega)
      simpa using this
    have e : ((k : Int) + 1 - 1).toNat = k := by omega
    rcases hb.form with ⟨_, e, _⟩ | ⟨h, rfl, _⟩
    · rw [e] at hk; simp at hk
    · unfold trnE trnX
      rw [ht]
      dsimp only
      rw [e]
      exact xturn_some g c h L k L[k] st why w hb (List.getElem?_eq_getElem hk) hL
  · have ht : txAt (txZero :: L) id = none := txAt_no _ _ (by simp; omega)
    unfold trnE trnX
    rw [ht]
    exact xturn_none g c A L id st why w hb hi hL
/-- Each stands at its number. -/
def idL (L : List Tx) : Prop := ∀ (k : Nat) (x : Tx), L[k]? = some x → x.id = k
theorem idL_begin (L : List Tx) (s : Int) (h : idL L) : idL (L ++ [⟨L.length, s, 1, 0⟩]) := by
  intro k x hx
  by_cases hl : k < L.length
  · rw [List.getElem?_append_left hl] at hx; exact h k x hx
  · rw [List.getElem?_append_right (by omega)] at hx
    by_cases e : k = L.length
    · subst e; simp at hx; rw [← hx]
    · rw [List.getElem?_eq_none (by simp; omega)] at hx; cases hx
theorem idL_turn (L : List Tx) (id st why : Int) (h : idL L) : idL (trnL L id st why) := by
  unfold trnL
  cases ht : txAt L id with
  | none => exact h
  | some x =>
    dsimp only
    split
    · exact h
    · split
      · exact h
      · unfold txAt at ht
        by_cases hq : 1 ≤ id ∧ id < L.length
        · rw [if_pos hq] at ht
          intro k y hy
          by_cases e : k = id.toNat
          · subst e
            have hl : id.toNat < L.length := by omega
            rw [List.getElem?_set_self hl] at hy
            simp at hy
            rw [← hy]
            exact h id.toNat x ht
          · rw [List.getElem?_set_ne (fun q => e q.symm)] at hy
            exact h k y hy
        · rw [if_neg hq] at ht; cases ht
theorem xbook_new (w : World) : XBook (w.alloc (.cells #[.slice none 0 0] 94)) w.heap.size none 0 [] := ⟨Bk.new _ _ _, World.ownsRow_nil _ _ _ _, fun x h => by cases h⟩
theorem XBook.frozen {w : World} {g c : Nat} {A : Option Addr} {L : List Tx} (b : XBook w g A c L) : w.frozen? ⟨g, 0, none⟩ = false := b.1.frozen 0
theorem wordB_none (a : Int) (h : a < 1 ∨ 6 < a) : wordB a = ⟨#[]⟩ := by
  unfold wordB
  repeat' rw [if_neg (by omega)]
end Go.Proofs.Ytgdghinconghgaa
