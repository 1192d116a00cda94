/- The draws of chapter 8: three shifts, each put to its number; no two draws are alike. No condition. -/
import GoSem.Core.View
import Derived.RowKit
import Derived.WalkKit
set_option linter.unusedVariables false
set_option linter.unusedSimpArgs false
namespace Go.Proofs.Ytbdefhekkafihaa.Plain
open Go

theorem xs_l (x : BitVec 64) (n m : Nat) (h : m = n + n) : (x ^^^ x <<< n) ^^^ (x ^^^ x <<< n) <<< n = x ^^^ x <<< m := by
  subst h
  apply BitVec.eq_of_getLsbD_eq
  intro i hi
  simp only [BitVec.getLsbD_xor, BitVec.getLsbD_shiftLeft]
  by_cases h1 : i < n
  · have : i < n + n := by omega
    simp [h1, this, hi]
  · by_cases h2 : i < n + n
    · have h3 : i - n < n := by omega
      simp [h1, h2, h3, hi]
    · have h3 : ¬ i - n < n := by omega
      have h4 : i - n < 64 := by omega
      have e : i - n - n = i - (n + n) := by omega
      simp [h1, h2, h3, h4, hi, e]

theorem xs_r (x : BitVec 64) (n m : Nat) (h : m = n + n) : (x ^^^ x >>> n) ^^^ (x ^^^ x >>> n) >>> n = x ^^^ x >>> m := by
  subst h
  apply BitVec.eq_of_getLsbD_eq
  intro i hi
  simp only [BitVec.getLsbD_xor, BitVec.getLsbD_ushiftRight]
  rw [show n + (n + i) = n + n + i by omega]
  cases x.getLsbD i <;> cases x.getLsbD (n + i) <;> cases x.getLsbD (n + n + i) <;> rfl

theorem inj_l (n : Nat) (x y : BitVec 64) (h : x ^^^ x <<< n = y ^^^ y <<< n) : x ^^^ x <<< (n + n) = y ^^^ y <<< (n + n) := by
  rw [← xs_l x n _ rfl, ← xs_l y n _ rfl, h]
theorem inj_r (n : Nat) (x y : BitVec 64) (h : x ^^^ x >>> n = y ^^^ y >>> n) : x ^^^ x >>> (n + n) = y ^^^ y >>> (n + n) := by
  rw [← xs_r x n _ rfl, ← xs_r y n _ rfl, h]
theorem end_l (n : Nat) (hn : 64 ≤ n) (x : BitVec 64) : x ^^^ x <<< n = x := by
  rw [BitVec.shiftLeft_eq_zero (by omega)]; simp
theorem end_r (n : Nat) (hn : 64 ≤ n) (x : BitVec 64) : x ^^^ x >>> n = x := by
  rw [BitVec.ushiftRight_eq_zero (by omega)]; simp

theorem inj13 (x y : BitVec 64) (h : x ^^^ x <<< 13 = y ^^^ y <<< 13) : x = y := by
  have h := inj_l _ _ _ (inj_l _ _ _ (inj_l _ _ _ h))
  rwa [end_l _ (by omega), end_l _ (by omega)] at h
theorem inj17 (x y : BitVec 64) (h : x ^^^ x <<< 17 = y ^^^ y <<< 17) : x = y := by
  have h := inj_l _ _ _ (inj_l _ _ _ h)
  rwa [end_l _ (by omega), end_l _ (by omega)] at h
theorem inj7 (x y : BitVec 64) (h : x ^^^ x >>> 7 = y ^^^ y >>> 7) : x = y := by
  have h := inj_r _ _ _ (inj_r _ _ _ (inj_r _ _ _ (inj_r _ _ _ h)))
  rwa [end_r _ (by omega), end_r _ (by omega)] at h

def nx (b : BitVec 64) : BitVec 64 :=
  ((b ^^^ b <<< 13) ^^^ (b ^^^ b <<< 13) >>> 7) ^^^ ((b ^^^ b <<< 13) ^^^ (b ^^^ b <<< 13) >>> 7) <<< 17
theorem nx_inj (x y : BitVec 64) (h : nx x = nx y) : x = y := inj13 _ _ (inj7 _ _ (inj17 _ _ h))
theorem nx_zero : nx 0#64 = 0#64 := by decide


theorem wrap_u64 (n : Int) : IntKind.u64.wrap n = n % 18446744073709551616 := by
  simp [IntKind.wrap, IntKind.signed, IntKind.bits]
theorem wrap_nat (b : BitVec 64) : IntKind.u64.wrap (b.toNat : Int) = b.toNat := by
  rw [wrap_u64]; have := b.isLt; omega
theorem bits_xor (x y : Int) : Go.bits .xor .u64 x y = ((BitVec.ofInt 64 x ^^^ BitVec.ofInt 64 y).toNat : Int) := by
  unfold Go.bits
  exact wrap_nat _
theorem ofInt_nat (b : BitVec 64) : BitVec.ofInt 64 (b.toNat : Int) = b := by simp
theorem ofInt_mul (b : BitVec 64) (n : Nat) (c : Int) (hc : c = 2 ^ n) : BitVec.ofInt 64 (IntKind.u64.wrap ((b.toNat : Int) * c)) = b <<< n := by
  subst hc
  rw [wrap_u64]
  apply BitVec.eq_of_toNat_eq
  rw [BitVec.toNat_ofInt, BitVec.toNat_shiftLeft, Nat.shiftLeft_eq]
  have e : ((b.toNat : Int) * 2 ^ n) = ((b.toNat * 2 ^ n : Nat) : Int) := by push_cast; rfl
  rw [e]; generalize b.toNat * 2 ^ n = m; omega
theorem ofInt_div (b : BitVec 64) (n : Nat) (c : Int) (hc : c = 2 ^ n) : BitVec.ofInt 64 ((b.toNat : Int) / c) = b >>> n := by
  subst hc
  apply BitVec.eq_of_toNat_eq
  rw [BitVec.toNat_ofInt, BitVec.toNat_ushiftRight, Nat.shiftRight_eq_div_pow]
  have e : ((b.toNat : Int) / 2 ^ n) = ((b.toNat / 2 ^ n : Nat) : Int) := by push_cast; rfl
  rw [e]
  have h : b.toNat / 2 ^ n ≤ b.toNat := Nat.div_le_self _ _
  have := b.isLt
  generalize b.toNat / 2 ^ n = m at *; omega
/-- What the Go text reckons of a seed that isn't 0. -/
def nextZ (x : Int) : Int := (nx (BitVec.ofInt 64 x)).toNat
theorem next_is (x : Int) (h0 : 0 ≤ x) (h1 : x < 18446744073709551616) :
    (Go.bits .xor .u64 (Go.bits .xor .u64 (Go.bits .xor .u64 x (IntKind.u64.wrap (x * 8192))) ((Go.bits .xor .u64 x (IntKind.u64.wrap (x * 8192))) / 128)) (IntKind.u64.wrap ((Go.bits .xor .u64 (Go.bits .xor .u64 x (IntKind.u64.wrap (x * 8192))) ((Go.bits .xor .u64 x (IntKind.u64.wrap (x * 8192))) / 128)) * 131072))) = nextZ x := by
  have hx : x = ((BitVec.ofInt 64 x).toNat : Int) := by rw [BitVec.toNat_ofInt]; omega
  generalize hb : BitVec.ofInt 64 x = b at hx
  unfold nextZ
  rw [hb]
  subst hx
  simp only [bits_xor, ofInt_nat, ofInt_mul _ 13 8192 (by decide), ofInt_div _ 7 128 (by decide), ofInt_mul _ 17 131072 (by decide)]
  rfl
theorem nextZ_inj (x y : Int) (hx0 : 0 ≤ x) (hx : x < 18446744073709551616) (hy0 : 0 ≤ y) (hy : y < 18446744073709551616) (h : nextZ x = nextZ y) : x = y := by
  unfold nextZ at h
  have h2 := nx_inj _ _ (BitVec.eq_of_toNat_eq (Int.ofNat.inj h))
  have h3 := congrArg BitVec.toNat h2
  rw [BitVec.toNat_ofInt, BitVec.toNat_ofInt] at h3
  omega
theorem nextZ_zero : nextZ 0 = 0 := by decide
theorem nextZ_pos (x : Int) (hx0 : 0 < x) (hx : x < 18446744073709551616) : nextZ x ≠ 0 := fun h => by
  have := nextZ_inj x 0 (by omega) hx (by omega) (by omega) (h.trans nextZ_zero.symm)
  omega
theorem nextZ_range (x : Int) : 0 ≤ nextZ x ∧ nextZ x < 18446744073709551616 := by
  unfold nextZ; have := (nx (BitVec.ofInt 64 x)).isLt; omega
theorem bits_range (x y : Int) : 0 ≤ Go.bits .xor .u64 x y ∧ Go.bits .xor .u64 x y < 18446744073709551616 := by
  rw [bits_xor]; have := (BitVec.ofInt 64 x ^^^ BitVec.ofInt 64 y).isLt; omega
theorem wrap_tdiv (x y : Int) : IntKind.u64.wrap ((Go.bits .xor .u64 x y).tdiv 128) = Go.bits .xor .u64 x y / 128 := by
  have h := bits_range x y
  generalize Go.bits .xor .u64 x y = b at h
  rw [Int.tdiv_eq_ediv_of_nonneg h.1, wrap_u64]
  omega
theorem next_isd (x : Int) (h0 : 0 ≤ x) (h1 : x < 18446744073709551616) :
    (Go.bits .xor .u64 (Go.bits .xor .u64 (Go.bits .xor .u64 x (IntKind.u64.wrap (x * 8192))) (IntKind.u64.wrap ((Go.bits .xor .u64 x (IntKind.u64.wrap (x * 8192))).tdiv 128))) (IntKind.u64.wrap ((Go.bits .xor .u64 (Go.bits .xor .u64 x (IntKind.u64.wrap (x * 8192))) (IntKind.u64.wrap ((Go.bits .xor .u64 x (IntKind.u64.wrap (x * 8192))).tdiv 128))) * 131072))) = nextZ x := by
  rw [wrap_tdiv]; exact next_is x h0 h1
end Go.Proofs.Ytbdefhekkafihaa.Plain
