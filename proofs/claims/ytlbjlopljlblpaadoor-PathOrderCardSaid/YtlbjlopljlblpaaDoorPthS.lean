/- Scanning a text for a node's numbers: as the program does, as the reference does; both find the node whose text it is. Plain. No condition. -/
import Derived.Test.YtlbjlopljlblpaaDoorPthU
import Derived.Test.YtlbjlopljlblpaaDoorPthI
set_option linter.unusedVariables false
set_option linter.unusedSimpArgs false
namespace Go.Proofs.YtlbjlopljlblpaaDoor
def isDig (b : UInt8) : Bool := decide (48 ≤ b.toNat) && decide (b.toNat ≤ 57)
def ptOf (l : List Nat) : Pt := ⟨l.getD 0 0, l.getD 1 0, l.getD 2 0, l.getD 3 0, l.length⟩
def scanP : List UInt8 → Nat → Nat → List Nat → Option (List Nat)
  | [], n, dg, acc => if dg = 0 ∨ acc.length = 4 then none else some (acc ++ [n])
  | c :: r, n, dg, acc =>
    if isDig c = true ∧ dg < 3 then scanP r (n * 10 + (c.toNat - 48)) (dg + 1) acc
    else if dg = 0 ∨ acc.length = 4 then none
    else if c.toNat = 46 then scanP r 0 0 (acc ++ [n]) else some (acc ++ [n])
def scanR : List UInt8 → Nat → List Nat → Option (List Nat)
  | [], n, acc => if acc.length = 4 then none else some (acc ++ [n])
  | c :: r, n, acc =>
    if c.toNat = 46 then (if acc.length = 4 then none else scanR r 0 (acc ++ [n]))
    else if isDig c = false ∨ 99 < n then none else scanR r (n * 10 + (c.toNat - 48)) acc
def finP (s : List UInt8) : Option (List Nat) → Option Pt
  | none => none
  | some l => if textP (ptOf l) = s then some (ptOf l) else none
def parseP (s : List UInt8) : Option Pt := finP s (scanP s 0 0 [])
def rparseP (s : List UInt8) : Option Pt := if s = [] then none else finP s (scanR s 0 [])
def parseV (o : Option Pt) : Value := .tuple #[.agg (ptA (o.getD zeroP)), .int .i64 (if o.isSome then 0 else 4)]
theorem scanP_dig (c : UInt8) (r : List UInt8) (n dg : Nat) (acc : List Nat) (h : isDig c = true) (hd : dg < 3) : scanP (c :: r) n dg acc = scanP r (n * 10 + (c.toNat - 48)) (dg + 1) acc := by
  rw [scanP, if_pos ⟨h, hd⟩]
theorem scanP_bad (l : List UInt8) (n dg : Nat) (acc : List Nat) (hs : ∀ c, l.head? = some c → ¬ (isDig c = true ∧ dg < 3)) (h : dg = 0 ∨ acc.length = 4) : scanP l n dg acc = none := by
  cases l with
  | nil => rw [scanP, if_pos h]
  | cons c r => rw [scanP, if_neg (hs c rfl), if_pos h]
theorem scanP_dot (c : UInt8) (r : List UInt8) (n dg : Nat) (acc : List Nat) (h : ¬ (dg = 0 ∨ acc.length = 4)) (hc : c.toNat = 46) : scanP (c :: r) n dg acc = scanP r 0 0 (acc ++ [n]) := by
  rw [scanP, if_neg (by unfold isDig; simp; omega), if_neg h, if_pos hc]
theorem scanP_end (l : List UInt8) (n dg : Nat) (acc : List Nat) (hs : ∀ c, l.head? = some c → ¬ (isDig c = true ∧ dg < 3)) (h : ¬ (dg = 0 ∨ acc.length = 4)) (hc : ∀ c, l.head? = some c → c.toNat ≠ 46) : scanP l n dg acc = some (acc ++ [n]) := by
  cases l with
  | nil => rw [scanP, if_neg h]
  | cons c r => rw [scanP, if_neg (hs c rfl), if_neg h, if_neg (hc c rfl)]
theorem ptOf_dep4 (acc : List Nat) (h : acc.length < 4) (v : Value) : ((ptA (ptOf acc)).setIfInBounds acc.length v)[4]? = some (.int .i64 (acc.length : Int)) := by
  match acc, h with
  | [], _ => rfl
  | [a], _ => rfl
  | [a, b], _ => rfl
  | [a, b, c], _ => rfl
theorem ptOf_old (acc : List Nat) (h : acc.length < 4) : (ptA (ptOf acc))[acc.length]? = some (.int .i64 0) := by
  match acc, h with
  | [], _ => rfl
  | [a], _ => rfl
  | [a, b], _ => rfl
  | [a, b, c], _ => rfl
theorem ptOf_put (acc : List Nat) (n : Nat) (h : acc.length < 4) : ((ptA (ptOf acc)).setIfInBounds acc.length (.int .i64 (n : Int))).setIfInBounds 4 (.int .i64 ((acc.length : Int) + 1)) = ptA (ptOf (acc ++ [n])) := by
  match acc, h with
  | [], _ => rfl
  | [a], _ => rfl
  | [a, b], _ => rfl
  | [a, b, c], _ => rfl
end Go.Proofs.YtlbjlopljlblpaaDoor
