/- Package wicketref02's turn of a block: the same register as the program's. -/
import Derived.Test.YtpdhgijeanbmcaaDoorTabs
import Derived.Test.YtpdhgijeanbmcaaDoorAcc
import Derived.Deep.RegionWith
namespace Go.Proofs.YtpdhgijeanbmcaaDoor
open Go.RowKit

section
variable (t : TypeId) (a b : BitVec 32) (n : Int)
theorem mul_mod_mod (x y M : Int) : x * (y % M) % M = x * y % M := by
  rw [Int.mul_emod, Int.emod_emod_of_dvd _ (Int.dvd_refl M), ← Int.mul_emod]
@[go_sem] theorem mul_V32 : binOp .mul t (V32 a) (.int .u32 n) = pure (V32 (a * BitVec.ofInt 32 n)) := by
  simp only [V32, binOp_mul, Op.intArith]
  have h : IntKind.u32.wrap ((a.toNat : Int) * n) = ((a * BitVec.ofInt 32 n : BitVec 32).toNat : Int) := by
    rw [IntKind.wrap_u32, BitVec.toNat_mul, BitVec.toNat_ofInt]
    have h2 : (((n % ((2 ^ 32 : Nat) : Int)).toNat : Nat) : Int) = n % 4294967296 := by
      rw [Int.toNat_of_nonneg (Int.emod_nonneg _ (by decide))]
      rfl
    rw [Int.natCast_emod, Int.natCast_mul, h2]
    exact (mul_mod_mod _ _ _).symm
  rw [h]
end

theorem rround_any (x : BitVec 32) (n : Int) (w : World) (hn : 1 ≤ n) (hn' : n ≤ 31) :
    Calls Tryd.prog 78 #[V32 x, .int .i64 n] w fun e w' => e = .returned (V32 (Sha.rot x n.toNat)) ∧ w' = w := by
  have h0 : 0 ≤ n := by omega
  have h1 : n ≤ 32 := by omega
  have h2 : 0 ≤ 32 - n := by omega
  have h3 : 32 - n ≤ 32 := by omega
  go_enter Tryd.func78, Tryd.ntmps78
  go_wp2
  go_ret
  refine ⟨?_, rfl⟩
  simp only [Sha.rot]
  rw [show (32 - n).toNat = 32 - n.toNat from by omega]
  rfl

/-- A word made byte by byte. -/
def part (b : Nat → UInt8) : Nat → BitVec 32
  | 0 => 0
  | k + 1 => part b k * 256#32 + (b k).toBitVec.setWidth 32
theorem or4 (a b c d : Nat) (hb : b < 256) (hc : c < 256) (hd : d < 256) : a <<< 24 ||| b <<< 16 ||| c <<< 8 ||| d = a * 16777216 + b * 65536 + c * 256 + d := by
  rw [Nat.or_assoc, Nat.or_assoc]
  rw [← Nat.shiftLeft_add_eq_or_of_lt (show d < 2 ^ 8 by omega) c]
  rw [← Nat.shiftLeft_add_eq_or_of_lt (show c <<< 8 + d < 2 ^ 16 by simp only [Nat.shiftLeft_eq]; omega) b]
  rw [← Nat.shiftLeft_add_eq_or_of_lt (show b <<< 16 + (c <<< 8 + d) < 2 ^ 24 by simp only [Nat.shiftLeft_eq]; omega) a]
  simp only [Nat.shiftLeft_eq]
  omega
theorem part_word (b : Nat → UInt8) : part b 4 = Sha.word (b 0) (b 1) (b 2) (b 3) := by
  apply BitVec.eq_of_toNat_eq
  have h0 := (b 0).toNat_lt
  have h1 := (b 1).toNat_lt
  have h2 := (b 2).toNat_lt
  have h3 := (b 3).toNat_lt
  have hs : ∀ (x : UInt8) (i : Nat), x.toNat * 2 ^ i < 2 ^ 32 → (x.toBitVec.setWidth 32 <<< i).toNat = x.toNat <<< i := by
    intro x i hx
    have := x.toNat_lt
    rw [BitVec.toNat_shiftLeft, BitVec.toNat_setWidth, UInt8.toNat_toBitVec, Nat.mod_eq_of_lt (show x.toNat < 2 ^ 32 by omega), Nat.mod_eq_of_lt (by rw [Nat.shiftLeft_eq]; exact hx)]
  have hw : ∀ (x : UInt8), (x.toBitVec.setWidth 32 : BitVec 32).toNat = x.toNat := by
    intro x
    have := x.toNat_lt
    rw [BitVec.toNat_setWidth, UInt8.toNat_toBitVec, Nat.mod_eq_of_lt (by omega)]
  have e256 : (256#32 : BitVec 32).toNat = 256 := by decide
  unfold Sha.word
  rw [BitVec.toNat_or, BitVec.toNat_or, BitVec.toNat_or, hs _ 24 (by omega), hs _ 16 (by omega), hs _ 8 (by omega), hw, or4 _ _ _ _ h1 h2 h3]
  simp only [part, BitVec.toNat_add, BitVec.toNat_mul, e256, hw]
  simp
  omega
end Go.Proofs.YtpdhgijeanbmcaaDoor
