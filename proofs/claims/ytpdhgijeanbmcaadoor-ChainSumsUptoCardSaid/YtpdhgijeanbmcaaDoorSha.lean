/- SHA-256 as a plain function on bytes: what both texts compute. No program is in sight here. -/
namespace Go.Proofs.YtpdhgijeanbmcaaDoor
namespace Sha

/-- A turn of a word to the right. -/
def rot (x : BitVec 32) (n : Nat) : BitVec 32 := x >>> n ||| x <<< (32 - n)
def s0 (x : BitVec 32) : BitVec 32 := rot x 7 ^^^ rot x 18 ^^^ x >>> 3
def s1 (x : BitVec 32) : BitVec 32 := rot x 17 ^^^ rot x 19 ^^^ x >>> 10
def e0 (x : BitVec 32) : BitVec 32 := rot x 2 ^^^ rot x 13 ^^^ rot x 22
def e1 (x : BitVec 32) : BitVec 32 := rot x 6 ^^^ rot x 11 ^^^ rot x 25
def ch (e f g : BitVec 32) : BitVec 32 := e &&& f ^^^ ~~~e &&& g
def maj (a b c : BitVec 32) : BitVec 32 := a &&& b ^^^ a &&& c ^^^ b &&& c

structure Reg where
  (a b c d e f g h : BitVec 32)
  deriving DecidableEq

def Reg.list (r : Reg) : List (BitVec 32) := [r.a, r.b, r.c, r.d, r.e, r.f, r.g, r.h]

def roots : List Nat := [0x428a2f98, 0x71374491, 0xb5c0fbcf, 0xe9b5dba5, 0x3956c25b, 0x59f111f1, 0x923f82a4, 0xab1c5ed5,
  0xd807aa98, 0x12835b01, 0x243185be, 0x550c7dc3, 0x72be5d74, 0x80deb1fe, 0x9bdc06a7, 0xc19bf174,
  0xe49b69c1, 0xefbe4786, 0x0fc19dc6, 0x240ca1cc, 0x2de92c6f, 0x4a7484aa, 0x5cb0a9dc, 0x76f988da,
  0x983e5152, 0xa831c66d, 0xb00327c8, 0xbf597fc7, 0xc6e00bf3, 0xd5a79147, 0x06ca6351, 0x14292967,
  0x27b70a85, 0x2e1b2138, 0x4d2c6dfc, 0x53380d13, 0x650a7354, 0x766a0abb, 0x81c2c92e, 0x92722c85,
  0xa2bfe8a1, 0xa81a664b, 0xc24b8b70, 0xc76c51a3, 0xd192e819, 0xd6990624, 0xf40e3585, 0x106aa070,
  0x19a4c116, 0x1e376c08, 0x2748774c, 0x34b0bcb5, 0x391c0cb3, 0x4ed8aa4a, 0x5b9cca4f, 0x682e6ff3,
  0x748f82ee, 0x78a5636f, 0x84c87814, 0x8cc70208, 0x90befffa, 0xa4506ceb, 0xbef9a3f7, 0xc67178f2]
def root (t : Nat) : BitVec 32 := BitVec.ofNat 32 (roots.getD t 0)

def word (a b c d : UInt8) : BitVec 32 :=
  a.toBitVec.setWidth 32 <<< 24 ||| b.toBitVec.setWidth 32 <<< 16 ||| c.toBitVec.setWidth 32 <<< 8 ||| d.toBitVec.setWidth 32

/-- The t-th word of the schedule of a block whose bytes are p 0 .. p 63. -/
def sched (p : Nat → UInt8) (t : Nat) : BitVec 32 :=
  if _h : t < 16 then word (p (4 * t)) (p (4 * t + 1)) (p (4 * t + 2)) (p (4 * t + 3))
  else sched p (t - 16) + s0 (sched p (t - 15)) + sched p (t - 7) + s1 (sched p (t - 2))
termination_by t

def step (r : Reg) (k w : BitVec 32) : Reg :=
  let u := r.h + e1 r.e + ch r.e r.f r.g + k + w
  let v := e0 r.a + maj r.a r.b r.c
  ⟨u + v, r.a, r.b, r.c, r.d + u, r.e, r.f, r.g⟩

def rounds (p : Nat → UInt8) (r : Reg) : Nat → Reg
  | 0 => r
  | t + 1 => step (rounds p r t) (root t) (sched p t)

def Reg.add (r q : Reg) : Reg := ⟨r.a + q.a, r.b + q.b, r.c + q.c, r.d + q.d, r.e + q.e, r.f + q.f, r.g + q.g, r.h + q.h⟩

def turn (r : Reg) (p : Nat → UInt8) : Reg := r.add (rounds p r 64)
end Sha
end Go.Proofs.YtpdhgijeanbmcaaDoor
