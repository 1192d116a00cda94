/- append to a row of the call's own: where the new row lies. No condition. -/
import Derived.Test.YtdkbfmffnamdbaaRecF
import Derived.OwnWalk
import Derived.ArgAppend
import Derived.ScopeJumps
set_option linter.unusedVariables false
set_option linter.unusedSimpArgs false
namespace Go.Proofs.Ytdkbfmffnamdbaa
open Go.RowKit (wrap32 wrap64)
open Go.RowKit
theorem grown_none {w w' : World} (h : w.grownBy w' none) (r : Option Nat) : w.grownBy w' r := ⟨h.os, h.tape, h.output, h.size, fun k hk _ => h.block k hk (by simp)⟩
theorem own_block {w : World} {base n s : Nat} {e : TypeId} {v : Value} {xs : List Value} (h : w.ownsRow base e s v n xs) : ∀ b, v.ownBlock = some b → base ≤ b ∧ b < w.heap.size := by
  intro b hb
  rcases h.2 with ⟨rfl, _⟩ | ⟨g, cap, cur, rfl, hg, h1, _⟩
  · cases hb
  · injection hb with hb
    subst hb
    exact ⟨hg, (Array.getElem?_eq_some_iff.1 h1).1⟩
/-- append: the value stays in its row, or lies in a new one. -/
theorem run_append_two {P : Program} {w : World} (base : Nat) (t ty e : TypeId) (i : TypeInfo) (z : Value) (size bytes : Nat) (ht : P.underlying t = some (.slice e)) (hi : P.info? e = some i) (hz : i.zero = some z)
    (hsize : i.size = size) (hby : i.bytes = bytes) (hzs : z.cells.size = size) (hsz : 0 < size)
    (v : Value) (n : Nat) (xs : List Value) (hown : w.ownsRow base e size v n xs)
    (a : Addr) (m c : Nat) (news : List Value) (hl : news.length = m * size) (hnews : ∀ j u, news[j]? = some u → w.cell? (a.add j) = some u) (h1 : ∀ u ∈ news, u.oneCell' = true)
    (h63 : n + m ≤ maxLen) (hbytes : (n + m) * bytes ≤ 140737488355328) (hbase : base ≤ w.heap.size) :
    ∃ v' w', (Builtin.append_ #[t, t] ty #[v, .slice (some a) m c]).run P w = .ok v' w' ∧ w'.ownsRow base e size v' (n + m) (xs ++ news) ∧ w.grownBy w' v.ownBlock ∧
      (v'.ownBlock = v.ownBlock ∨ ∀ b, v'.ownBlock = some b → w.heap.size ≤ b) := by
  have hown0 := hown
  rcases hown.2 with ⟨rfl, rfl⟩ | ⟨g, cap, cur, rfl, hbg, hg, hnc, hcm, hcs, htake⟩
  · have hx : xs = [] := List.eq_nil_of_length_eq_zero (by simpa using hown.1)
    subst hx
    obtain ⟨v', w', hr, h2, h3, _⟩ := run_append_own (P := P) w w.heap.size t ty e i z size bytes ht hi hz hsize hby hzs hsz _ 0 [] (World.ownsRow_nil w w.heap.size e size) a m c news hl hnews h1 h63 hbytes (Nat.le_refl _)
    exact ⟨v', w', hr, own_weaken h2 hbase, h3, .inr fun b hb => (own_block h2 b hb).1⟩
  · by_cases hroom : n + m ≤ cap
    · obtain ⟨w', hr, h2, h3⟩ := run_append_fits (P := P) w base t ty e i size ht hi hsize g n cap xs hown0 a m c news hl hnews h1 hroom
      exact ⟨_, w', hr, h2, h3, .inl rfl⟩
    · obtain ⟨v', w', hr, h2, h3⟩ := run_append_arg_grows (P := P) w t ty e i z size bytes ht hi hz hsize hby hzs hsz ⟨g, 0, none⟩ n cap xs (by rw [hown.1]) (hown.cells (g := g) rfl) a m c news hl hnews (by omega) h63 hbytes
      exact ⟨v', w', hr, own_weaken h2 hbase, grown_none h3 _, .inr fun b hb => (own_block h2 b hb).1⟩
section
variable {α : Type} {enc : α → List Value} {s : Nat}
/-- One record more behind a row of the call's own, the record in the newest block. -/
theorem wpList_append_two (he : ∀ a, (enc a).length = s) (hs0 : 0 < s) (h1 : ∀ x, ∀ u ∈ enc x, u.oneCell' = true) {P : Program} {w0 : World} {ops : Array Oper} {rest : List Oper} {o : Oper} {a : Act} {Q : Exit → Act → World → Prop} (hgd : o.guard = none) (sl x : Operand) (t : TypeId)
    (ho : o.op = .call { callee := .builtin .append, args := #[sl, x], argTypes := #[t, t] })
    (base : Nat) (e : TypeId) (i : TypeInfo) (z : Value) (bytes : Nat) (ht : P.underlying t = some (.slice e)) (hi : P.info? e = some i) (hz : i.zero = some z) (hsize : i.size = s) (hby : i.bytes = bytes) (hzs : z.cells.size = s)
    (v : Value) (n : Nat) (L : List α) (hs : a.eval sl = v) (hown : w0.ownsRow base e s v n (flatV enc L))
    (y : α) (cs : Array Value) (hcs : cs.toList = enc y) (t' : TypeId) (g : Nat) (hx : a.eval x = .slice (some ⟨g, 0, none⟩) 1 1) (hg : g = w0.heap.size)
    (h63 : n + 1 ≤ maxLen) (hbytes : (n + 1) * bytes ≤ 140737488355328) (hbase : base ≤ w0.heap.size)
    (h : ∀ v' w', w'.ownsRow base e s v' (n + 1) (flatV enc (L ++ [y])) → Keep (fun k => v.ownBlock = some k) w0 w' → (v'.ownBlock = v.ownBlock ∨ ∀ b, v'.ownBlock = some b → w0.heap.size ≤ b) → wpList P ops Q rest (a.put o.dst v') w') : wpList P ops Q (o :: rest) a (w0.alloc (.cells cs t')) := by
  subst hg
  have hnews : ∀ j u, (enc y)[j]? = some u → (w0.alloc (.cells cs t')).cell? ((⟨w0.heap.size, 0, none⟩ : Addr).add j) = some u := by
    intro j u hu
    have hadd : (⟨w0.heap.size, 0, none⟩ : Addr).add j = ⟨w0.heap.size, j, none⟩ := by unfold Addr.add; split <;> simp_all
    rw [hadd, (Bk.new w0 t' cs).cell j]
    rw [← hcs] at hu
    simpa using hu
  obtain ⟨v', w', hr, h2, h3, h4⟩ := run_append_two (P := P) (w := w0.alloc (.cells cs t')) base t o.type e i z s bytes ht hi hz hsize hby hzs hs0 v n _ (hown.alloc _) ⟨w0.heap.size, 0, none⟩ 1 1 (enc y) (by rw [he]; omega) hnews (h1 y) h63 hbytes (by simp; omega)
  refine wpList_plain hgd fun K hK' => ?_
  unfold Oper.wp
  simp [execOp, ho, resolve, invoke, builtin, hs, hx, hr, Result.andThen]
  refine hK' _ _ (h v' w' ?_ ?_ ?_)
  · rw [flatV_append]
    have e1 : flatV enc [y] = enc y := by rw [flatV_cons]; simp [flatV]
    rw [e1]; exact h2
  · exact (Keep.alloc w0 _ _).trans ⟨h3.os, h3.tape, h3.output, h3.size, fun k hk hn => h3.block k hk (fun e => hn e.symm)⟩
  · exact h4.imp id fun hh b hb => by have := hh b hb; simp at this; omega
end
end Go.Proofs.Ytdkbfmffnamdbaa
