/- queue: the example; what the statements share. No condition. -/
import Derived.Test.YtdkbfmffnamdbaaQut
import Derived.Test.YtdkbfmffnamdbaaRecQd
set_option linter.unusedVariables false
set_option linter.unusedSimpArgs false
namespace Go.Proofs.Ytdkbfmffnamdbaa
open Go.RowKit (wrap32 wrap64)
open Go.RowKit Go.Shelf Go.Sort
theorem QA.new (w : World) : QA (w.alloc (.cells #[.slice none 0 0, .slice none 0 0] 29)) w.heap.size [] [] :=
  ⟨_, _, Bk.new w _ _, SF.nil _, SF.nil _⟩
theorem qask_to {H H2 : List Hd} {W W2 : List Wt} {tx m fl a e : Int} (q : Nat) (w : World) (h : QA w q H W) (htx : (Lit.int .i64 tx).wf = true) (hn : H.length + W.length ≤ 900) (he : askT H W tx m fl = ⟨a, e, H2, W2⟩) :
    Calls Try.prog 8 #[.pointer (some ⟨q, 0, none⟩), .int .i64 tx, .int .i64 m, .int .i64 fl] w fun en w' => en = .returned (.tuple #[.int .i64 a, .int .i64 e]) ∧ QA w' q H2 W2 ∧ Keep (fun i => i = q) w w' := by
  have h2 := qask_any q H W tx m fl htx w h (by omega) (by omega)
  rw [he] at h2
  exact h2
theorem ex12a : askT [] [] 1 3 0 = ⟨1, 0, [⟨1, 3⟩], []⟩ := by rfl
theorem ex12b : askT [⟨1, 3⟩] [] 2 6 0 = ⟨2, 0, [⟨1, 3⟩], [⟨2, 6, false, false⟩]⟩ := by rfl
theorem ex12c : askT [⟨1, 3⟩] [⟨2, 6, false, false⟩] 3 3 0 = ⟨2, 0, [⟨1, 3⟩], [⟨2, 6, false, false⟩, ⟨3, 3, false, false⟩]⟩ := by rfl
theorem awake12 (w : World) : Calls Try.prog 7 #[] w fun e w' => e = .returned (.bool true) ∧ Below w.heap.size w w' := by
  have HQ := Lib.hid (QA.new w)
  have HO := Lib.hid ((Below.refl w.heap.size w).alloc (Nat.le_refl _) (.cells #[.slice none 0 0, .slice none 0 0] 29))
  go_enter Try.func7, Try.ntmps7
  go_wp2_with fail
  refine (qask_to _ _ HQ.out (by decide) (by decide) ex12a).mono ?_
  rintro e w1 ⟨rfl, hq1, k1⟩
  go_wp2_with fail
  refine (qask_to _ _ hq1 (by decide) (by decide) ex12b).mono ?_
  rintro e w2 ⟨rfl, hq2, k2⟩
  go_wp2_with fail
  refine (qask_to _ _ hq2 (by decide) (by decide) ex12c).mono ?_
  rintro e w3 ⟨rfl, hq3, k3⟩
  clear hq1 hq2 hq3
  go_wp2
  go_ret
  exact ⟨rfl, bl_keep HO.out ((k1.trans k2).trans k3) (fun i hi => by rw [hi]; exact Nat.le_refl _)⟩
theorem qright_yes (a : Option Addr) (len cap : Nat) (L : List Wt) (w : World) (hl : Wts w a len L) (hn : len ≤ 1000) (h : RightW L) : Calls Try.prog 28 #[.slice a len cap] w fun e w' => e = .returned (.bool true) ∧ Below w.heap.size w w' :=
  (qright_any a len cap L w hl hn).mono fun e w' ⟨b, he, hb, hw⟩ => ⟨by rw [he, hb.2 h], hw⟩
end Go.Proofs.Ytdkbfmffnamdbaa
