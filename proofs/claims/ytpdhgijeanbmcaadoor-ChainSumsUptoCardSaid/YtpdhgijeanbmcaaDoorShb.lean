/- SHA-256 of a text, as a plain function: blocks, filling up, sums, keyed sums. -/
import Derived.Test.YtpdhgijeanbmcaaDoorSha
namespace Go.Proofs.YtpdhgijeanbmcaaDoor
namespace Sha

/-- The register that a sum begins with. -/
def init : Reg := ⟨0x6a09e667, 0xbb67ae85, 0x3c6ef372, 0xa54ff53a, 0x510e527f, 0x9b05688c, 0x1f83d9ab, 0x5be0cd19⟩

/-- The register behind the whole blocks of l. -/
def blocks (r : Reg) (l : List UInt8) : Reg := if _h : l.length < 64 then r else blocks (turn r (fun j => l.getD j 0)) (l.drop 64)
termination_by l.length
decreasing_by simp only [List.length_drop]; omega

/-- A number as eight bytes, the highest first. -/
def eight (n : Nat) : List UInt8 := (List.range 8).map fun i => UInt8.ofNat (n / 2 ^ (8 * (7 - i)))

/-- What a text is filled up with: 0x80, zeros up to 56 of a block, its length in bits. -/
def pad (n : Nat) : List UInt8 := 0x80 :: (List.replicate ((119 - n % 64) % 64) 0 ++ eight (8 * n))

def wbytes (x : BitVec 32) : List UInt8 := [⟨(x >>> 24).setWidth 8⟩, ⟨(x >>> 16).setWidth 8⟩, ⟨(x >>> 8).setWidth 8⟩, ⟨x.setWidth 8⟩]
def bytes (r : Reg) : List UInt8 := r.list.flatMap wbytes

/-- The sum of a text. -/
def sum (l : List UInt8) : List UInt8 := bytes (blocks init (l ++ pad l.length))
theorem blocks_short (r : Reg) (l : List UInt8) (h : l.length < 64) : blocks r l = r := by
  rw [blocks, dif_pos h]
theorem blocks_step (r : Reg) (l : List UInt8) (h : 64 ≤ l.length) : blocks r l = blocks (turn r fun j => l.getD j 0) (l.drop 64) := by
  rw [blocks, dif_neg (by omega)]
theorem sched_lt (p : Nat → UInt8) (t : Nat) (h : t < 16) : sched p t = word (p (4 * t)) (p (4 * t + 1)) (p (4 * t + 2)) (p (4 * t + 3)) := by rw [sched, dif_pos h]
theorem sched_ge (p : Nat → UInt8) (t : Nat) (h : ¬ t < 16) : sched p t = sched p (t - 16) + s0 (sched p (t - 15)) + sched p (t - 7) + s1 (sched p (t - 2)) := by
  conv => lhs; rw [sched, dif_neg h]
theorem sched_congr (p q : Nat → UInt8) (h : ∀ j, j < 64 → p j = q j) : ∀ n t, t ≤ n → t < 64 → sched p t = sched q t := by
  intro n
  induction n with
  | zero =>
    intro t h0 _
    obtain rfl : t = 0 := by omega
    rw [sched_lt _ _ (by omega), sched_lt _ _ (by omega), h _ (by omega), h _ (by omega), h _ (by omega), h _ (by omega)]
  | succ n ih =>
    intro t h0 h1
    by_cases hlt : t < 16
    · rw [sched_lt _ _ hlt, sched_lt _ _ hlt, h _ (by omega), h _ (by omega), h _ (by omega), h _ (by omega)]
    · rw [sched_ge p t hlt, sched_ge q t hlt, ih (t - 16) (by omega) (by omega), ih (t - 15) (by omega) (by omega), ih (t - 7) (by omega) (by omega), ih (t - 2) (by omega) (by omega)]
theorem rounds_congr (p q : Nat → UInt8) (h : ∀ j, j < 64 → p j = q j) (r : Reg) : ∀ t, t ≤ 64 → rounds p r t = rounds q r t := by
  intro t
  induction t with
  | zero => intro _; rfl
  | succ t ih => intro ht; rw [rounds, rounds, ih (by omega), sched_congr p q h t t (Nat.le_refl _) (by omega)]
theorem turn_congr (r : Reg) (p q : Nat → UInt8) (h : ∀ j, j < 64 → p j = q j) : turn r p = turn r q := by
  rw [turn, turn, rounds_congr p q h r 64 (Nat.le_refl _)]
theorem blocks_append (n : Nat) : ∀ (r : Reg) (A B : List UInt8), A.length = 64 * n → blocks r (A ++ B) = blocks (blocks r A) B := by
  induction n with
  | zero =>
    intro r A B h
    obtain rfl : A = [] := List.eq_nil_of_length_eq_zero (by omega)
    rw [blocks_short r [] (by simp)]
    rfl
  | succ n ih =>
    intro r A B h
    rw [blocks_step r (A ++ B) (by simp; omega), blocks_step r A (by omega), List.drop_append_of_le_length (by omega), ih _ _ _ (by simp; omega)]
    rw [turn_congr r (fun j => (A ++ B).getD j 0) (fun j => A.getD j 0) fun j hj => by simp [List.getD, List.getElem?_append_left (show j < A.length by omega)]]
theorem blocks_rest (r : Reg) (A q : List UInt8) (h : A.length % 64 = 0) (hq : q.length < 64) : blocks r (A ++ q) = blocks r A := by
  rw [blocks_append (A.length / 64) r A q (by omega), blocks_short _ q hq]
theorem blocks_last (r : Reg) (A q : List UInt8) (h : A.length % 64 = 0) (hq : q.length = 64) : blocks r (A ++ q) = turn (blocks r A) fun j => q.getD j 0 := by
  rw [blocks_append (A.length / 64) r A q (by omega), blocks_step _ q (by omega), blocks_short _ _ (by simp; omega)]
end Sha
end Go.Proofs.YtpdhgijeanbmcaaDoor
