/- HMAC with SHA-256 and PBKDF2, as plain functions. -/
import Derived.Test.YtpdhgijeanbmcaaDoorShb
namespace Go.Proofs.YtpdhgijeanbmcaaDoor
namespace Sha
theorem sum_length (l : List UInt8) : (sum l).length = 32 := rfl
def key (k : List UInt8) : List UInt8 := if 64 < k.length then sum k else k
theorem key_le (k : List UInt8) : (key k).length ≤ 64 := by
  unfold key
  split
  · rw [sum_length]; decide
  · omega
def kpad (k : List UInt8) : List UInt8 := key k ++ List.replicate (64 - (key k).length) 0
theorem kpad_len (k : List UInt8) : (kpad k).length = 64 := by
  have := key_le k
  simp [kpad]; omega
def xin (k : List UInt8) : List UInt8 := (kpad k).map (· ^^^ 0x36)
def xout (k : List UInt8) : List UInt8 := (kpad k).map (· ^^^ 0x5c)
def mac (k m : List UInt8) : List UInt8 := sum (xout k ++ sum (xin k ++ m))
theorem mac_len (k m : List UInt8) : (mac k m).length = 32 := rfl
def xors (a b : List UInt8) : List UInt8 := List.zipWith (· ^^^ ·) a b
theorem xors_len (a b : List UInt8) (ha : a.length = 32) (hb : b.length = 32) : (xors a b).length = 32 := by simp [xors, ha, hb]
def numb (i : Nat) : List UInt8 := [0, 0, UInt8.ofNat (i / 256), UInt8.ofNat (i % 256)]
/-- The r-th u, and the sum of those up to it. -/
def pu (p s : List UInt8) (i : Nat) : Nat → List UInt8
  | 0 => mac p (s ++ numb i)
  | r + 1 => mac p (pu p s i r)
def pt (p s : List UInt8) (i : Nat) : Nat → List UInt8
  | 0 => pu p s i 0
  | r + 1 => xors (pt p s i r) (pu p s i (r + 1))
theorem pu_len (p s : List UInt8) (i : Nat) : ∀ r, (pu p s i r).length = 32
  | 0 => rfl
  | _ + 1 => rfl
theorem pt_len (p s : List UInt8) (i : Nat) : ∀ r, (pt p s i r).length = 32
  | 0 => rfl
  | r + 1 => xors_len _ _ (pt_len p s i r) (pu_len p s i (r + 1))
/-- The first j parts. -/
def derived (p s : List UInt8) (rounds : Nat) : Nat → List UInt8
  | 0 => []
  | j + 1 => derived p s rounds j ++ pt p s (j + 1) (rounds - 1)
theorem derived_len (p s : List UInt8) (rounds : Nat) : ∀ j, (derived p s rounds j).length = 32 * j
  | 0 => rfl
  | j + 1 => by rw [derived, List.length_append, derived_len p s rounds j, pt_len]; omega
theorem derived_take (p s : List UInt8) (N : Nat) (j : Nat) : ∀ k n, j ≤ k → n ≤ 32 * j → (derived p s N j).take n = (derived p s N k).take n
  | 0, n, h, hn => by obtain rfl : j = 0 := by omega
                      rfl
  | k + 1, n, h, hn => by
    by_cases e : j = k + 1
    · rw [e]
    · rw [derived_take p s N j k n (by omega) hn, derived, List.take_append_of_le_length (by rw [derived_len]; omega)]
end Sha
end Go.Proofs.YtpdhgijeanbmcaaDoor
