/- What the functions of package integer, and of its reference, answer: sums and differences of absolute values. -/
import Derived.Test.YtbodjgljjaafaaaLawA
namespace Go.AM
open Go.Proofs.Try

theorem wu32 (n : Int) : IntKind.u32.wrap n = n % 4294967296 := rfl
theorem wu64 {n : Int} (h : 0 ≤ n) (h' : n < 18446744073709551616) : IntKind.u64.wrap n = n := by
  show n % 18446744073709551616 = n
  omega
theorem wu64' (n : Int) : IntKind.u64.wrap n = n % 18446744073709551616 := rfl

theorem sh32 {n : Int} : n.fdiv (2 ^ (min (32 : Int).toNat IntKind.u64.bits)) = n / 4294967296 := by
  have : (2 : Int) ^ (min (32 : Int).toNat IntKind.u64.bits) = 4294967296 := by decide
  rw [this, Int.fdiv_eq_ediv_of_nonneg _ (by decide)]

def vu (n : Int) : V := .e (.sc (.dat (.int .u32 n)))
def vu2 (a b : Int) : V := .tup [.sc (.dat (.int .u32 a)), .sc (.dat (.int .u32 b))]

theorem outu2 {a a' b b' : Int} (h1 : a = a') (h2 : b = b') : Out (vu2 a' b') (V.tup [E.sc (S.dat (D.int .u32 a)), E.sc (S.dat (D.int .u32 b))]) [] := by subst h1; subst h2; exact ⟨rfl, rfl⟩

theorem add32_ok (x y c : Nat) (hx : x < 4294967296) (hy : y < 4294967296) (hc : c ≤ 1) :
    FnD prog 155 [vu x, vu y, vu c] (vu2 (((x + y + c) % 4294967296 : Nat) : Int) (((x + y + c) / 4294967296 : Nat) : Int)) [] := by
  refine vc155_ok x y c (R := Out _) ?_
  unfold vc155
  have e1 : IntKind.u64.wrap (x : Int) = x := wu64 (by omega) (by omega)
  have e2 : IntKind.u64.wrap (y : Int) = y := wu64 (by omega) (by omega)
  have e3 : IntKind.u64.wrap (c : Int) = c := wu64 (by omega) (by omega)
  have e4 : IntKind.u64.wrap ((x : Int) + y) = x + y := wu64 (by omega) (by omega)
  have e5 : IntKind.u64.wrap ((x : Int) + y + c) = x + y + c := wu64 (by omega) (by omega)
  rw [e1, e2, e3, e4, e5, sh32, wu32, wu32]
  exact ⟨by decide, outu2 (by omega) (by omega)⟩

theorem bits_top (w : BitVec 32) : ((IntKind.u32.wrap (w.toNat : Int)).fdiv (2 ^ (min (31 : Int).toNat IntKind.u32.bits))) = if w.msb then 1 else 0 := by
  have h1 : (2 : Int) ^ (min (31 : Int).toNat IntKind.u32.bits) = 2147483648 := by decide
  rw [h1, Int.fdiv_eq_ediv_of_nonneg _ (by decide), wu32, BitVec.msb_eq_decide]
  have := w.isLt
  simp only [decide_eq_true_eq]
  split <;> omega

theorem ofInt_nat (x : Nat) : BitVec.ofInt 32 (x : Int) = BitVec.ofNat 32 x := by
  apply BitVec.eq_of_toNat_eq
  simp [BitVec.toNat_ofNat]

theorem msb_nat {x : Nat} (h : x < 4294967296) : (BitVec.ofNat 32 x).msb = decide (2147483648 ≤ x) := by
  rw [BitVec.msb_eq_decide, BitVec.toNat_ofNat, Nat.mod_eq_of_lt h]

/-- A word of bits, out of 'bitsI'. -/
theorem bits_of (f : BitVec 32 → BitVec 32 → BitVec 32) (x y : Int) : BitVec.ofInt 32 (bitsI .u32 f x y) = f (BitVec.ofInt 32 x) (BitVec.ofInt 32 y) := by
  have h : bitsI .u32 f x y = ((f (BitVec.ofInt 32 x) (BitVec.ofInt 32 y)).toNat : Int) := by
    have hlt := (f (BitVec.ofInt 32 x) (BitVec.ofInt 32 y)).isLt
    show IntKind.u32.wrap (((f (BitVec.ofInt 32 x) (BitVec.ofInt 32 y)).toNat : Nat) : Int) = _
    rw [wu32]
    have hlt' : (f (BitVec.ofInt 32 x) (BitVec.ofInt 32 y)).toNat < 4294967296 := hlt
    generalize (f (BitVec.ofInt 32 x) (BitVec.ofInt 32 y)).toNat = q at hlt'
    show (q : Int) % 4294967296 = q
    omega
  rw [h, ofInt_nat]
  simp

theorem sub32_ok (x y c : Nat) (hx : x < 4294967296) (hy : y < 4294967296) (hc : c ≤ 1) :
    FnD prog 158 [vu x, vu y, vu c] (vu2 (((x : Int) - y - c) % 4294967296) (if x < y + c then 1 else 0)) [] := by
  refine vc158_ok x y c (R := Out _) ?_
  unfold vc158
  have hd : IntKind.u32.wrap (IntKind.u32.wrap ((x : Int) - y) - c) = ((x : Int) - y - c) % 4294967296 := by
    rw [wu32, wu32]; omega
  rw [hd]
  obtain ⟨d, hdd⟩ : ∃ d : Nat, ((x : Int) - y - c) % 4294967296 = (d : Int) := ⟨(((x : Int) - y - c) % 4294967296).toNat, by omega⟩
  have hdl : d < 4294967296 := by omega
  refine ⟨by decide, outu2 rfl ?_⟩
  rw [hdd]
  have hm : (if IntKind.u32.signed then (-1 : Int) else IntKind.u32.max) = 4294967295 := by decide
  rw [hm]
  have hnot : ∀ w : BitVec 32, (BitVec.ofInt 32 4294967295 ^^^ w) = ~~~ w := fun w => by
    have : BitVec.ofInt 32 4294967295 = BitVec.allOnes 32 := by decide
    rw [this, BitVec.allOnes_xor]
  let an : BitVec 32 → BitVec 32 → BitVec 32 := fun a b => a &&& b
  let xo : BitVec 32 → BitVec 32 → BitVec 32 := fun a b => a ^^^ b
  show ((IntKind.u32.wrap ((((BitVec.ofInt 32 (bitsI .u32 an (bitsI .u32 xo 4294967295 x) y)) ||| (BitVec.ofInt 32 (bitsI .u32 an (bitsI .u32 xo 4294967295 (bitsI .u32 xo x y)) d)) : BitVec 32).toNat : Nat) : Int)).fdiv (2 ^ (min (31 : Int).toNat IntKind.u32.bits))) = _
  rw [bits_top]
  rw [bits_of an, bits_of xo, bits_of an, bits_of xo, bits_of xo]
  simp only [an, xo, hnot, BitVec.msb_or, BitVec.msb_and, BitVec.msb_xor, BitVec.msb_not, ofInt_nat, msb_nat hx, msb_nat hy, msb_nat hdl]
  by_cases a1 : 2147483648 ≤ x <;> by_cases a2 : 2147483648 ≤ y <;> by_cases a3 : 2147483648 ≤ d <;> simp [a1, a2, a3] <;> omega
end Go.AM
