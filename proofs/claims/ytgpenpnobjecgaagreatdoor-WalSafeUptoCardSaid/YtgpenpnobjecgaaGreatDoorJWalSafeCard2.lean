/- The package-level tables as they lie in memory; a slice of bytes that is read; what a call leaves alone. -/
import Derived.WalkKit
import Derived.KernelRfl
import Derived.Test.YtgpenpnobjecgaaGreatDoorProg
import Derived.Deep.QuietTactic
import Derived.BigQuiet
import Derived.Lib.Hide
import Derived.StillTailTactics
/- Base -/
namespace Go.Proofs.YtgpenpnobjecgaaGreatDoor
set_option maxRecDepth 100000
open Go.RowKit

/-- A 32-bit word as a value. -/
def V32 (x : BitVec 32) : Value := .int .u32 (x.toNat : Int)
/-- A byte as a value. -/
def V8 (x : UInt8) : Value := .int .u8 (x.toNat : Int)

section
variable (P : Program) (t t' : TypeId) (op : BinOp) (X Y : Operand) (a b : BitVec 32) (c d : UInt8)
theorem ofInt_toNat (x : BitVec 32) : BitVec.ofInt 32 (x.toNat : Int) = x := by simp [BitVec.ofInt_natCast]
theorem wrap32u (x : BitVec 32) : IntKind.u32.wrap (x.toNat : Int) = x.toNat := by
  have := x.isLt
  simp only [IntKind.wrap_u32]
  omega

@[go_sem high] theorem oneCell'_V32 : (V32 a).oneCell' = true := rfl
@[go_sem high] theorem oneCell'_V8 : (V8 c).oneCell' = true := rfl
@[go_sem high] theorem cells_V32 : (V32 a).cells = #[V32 a] := rfl
@[go_sem high] theorem cells_V8 : (V8 c).cells = #[V8 c] := rfl
@[go_sem] theorem match_V32 : Value.cells.match_1 (fun _ => Array Value) (V32 a) (fun cs => cs) (fun v => #[v]) = #[V32 a] := rfl
@[go_sem] theorem match_V8 : Value.cells.match_1 (fun _ => Array Value) (V8 c) (fun cs => cs) (fun v => #[v]) = #[V8 c] := rfl
@[go_sem] theorem eqGuard_at_V32 (v : Value) : eqGuard op t X Y (V32 a) v = pure () := by cases op <;> rfl
@[go_sem] theorem eqGuard_at_V8 (v : Value) : eqGuard op t X Y (V8 c) v = pure () := by cases op <;> rfl

@[go_sem] theorem xor_V32 : binOp .xor t (V32 a) (V32 b) = pure (V32 (a ^^^ b)) := by
  simp only [V32, binOp_xor, Op.intBits, IntKind.bits, ofInt_toNat, wrap32u]; rfl
@[go_sem] theorem and_V32 : binOp .and t (V32 a) (V32 b) = pure (V32 (a &&& b)) := by
  simp only [V32, binOp_and, Op.intBits, IntKind.bits, ofInt_toNat, wrap32u]; rfl
@[go_sem] theorem or_V32 : binOp .or t (V32 a) (V32 b) = pure (V32 (a ||| b)) := by
  simp only [V32, binOp_or, Op.intBits, IntKind.bits, ofInt_toNat, wrap32u]; rfl
@[go_sem] theorem add_V32 : binOp .add t (V32 a) (V32 b) = pure (V32 (a + b)) := by
  simp only [V32, binOp_add, Op.intArith, BitVec.toNat_add]
  rw [show IntKind.u32.wrap ((a.toNat : Int) + b.toNat) = (((a.toNat + b.toNat) % 2 ^ 32 : Nat) : Int) from by simp only [IntKind.wrap_u32]; omega]
@[go_sem] theorem shr_V32 (n : Int) (h0 : 0 ≤ n) (h1 : n ≤ 32) : binOp .shr t (V32 a) (.int .u64 n) = pure (V32 (a >>> n.toNat)) := by
  simp only [V32, binOp_shr, shift_shr_u32 _ _ _ h0 h1, BitVec.toNat_ushiftRight, Nat.shiftRight_eq_div_pow]
  simp
@[go_sem] theorem shl_V32 (n : Int) (h0 : 0 ≤ n) (h1 : n ≤ 32) : binOp .shl t (V32 a) (.int .u64 n) = pure (V32 (a <<< n.toNat)) := by
  simp only [V32, binOp_shl, shift_shl_u32 _ _ _ h0 h1, BitVec.toNat_shiftLeft, Nat.shiftLeft_eq]
  rw [show IntKind.u32.wrap ((a.toNat : Int) * 2 ^ n.toNat) = ((a.toNat * 2 ^ n.toNat % 2 ^ 32 : Nat) : Int) from by simp only [IntKind.wrap_u32]; simp]
theorem allOnes_xor (x : BitVec 32) : BitVec.allOnes 32 ^^^ x = ~~~x := by rw [BitVec.xor_comm]; exact BitVec.xor_allOnes
@[go_sem] theorem not_V32 : Op.unary .xor (V32 a) = pure (V32 (~~~a)) := by
  have h : Op.unary .xor (V32 a) = pure (Value.int .u32 (IntKind.u32.wrap ((BitVec.allOnes 32 ^^^ BitVec.ofInt 32 (a.toNat : Int) : BitVec 32).toNat : Int))) := rfl
  rw [h, ofInt_toNat, allOnes_xor, wrap32u]
  rfl
end
section
variable {P : Program} (w : World) (ad : Addr) (m : Mode)
@[go_sem] theorem run_store_V32 (x : BitVec 32) : (store ad (V32 x) m).run P w = stored P w ad (V32 x) m := run_store P w ad _ m rfl
@[go_sem] theorem run_store_V8 (x : UInt8) : (store ad (V8 x) m).run P w = stored P w ad (V8 x) m := run_store P w ad _ m rfl
@[go_sem] theorem run_convert_V8_V32 (src dst : TypeId) (x : UInt8) (hs : (P.underlying src).isSome = true) (hd : P.underlying dst = some (.int .u32)) :
    (convert src dst (V8 x)).run P w = .ok (V32 (x.toBitVec.setWidth 32)) w := by
  have hk : P.intKind dst = .u32 := by simp [Program.intKind, hd]
  have := run_convert_int w src dst .u8 x.toNat hs (by rw [hk]; exact hd)
  rw [hk] at this
  rw [V8, this, V32]
  have hx := x.toNat_lt
  rw [show IntKind.u32.wrap (x.toNat : Int) = ((x.toBitVec.setWidth 32).toNat : Int) from by simp only [IntKind.wrap_u32, BitVec.toNat_setWidth, UInt8.toNat_toBitVec]; omega]
@[go_sem] theorem run_convert_V32_V8 (src dst : TypeId) (x : BitVec 32) (hs : (P.underlying src).isSome = true) (hd : P.underlying dst = some (.int .u8)) :
    (convert src dst (V32 x)).run P w = .ok (V8 ⟨x.setWidth 8⟩) w := by
  have hk : P.intKind dst = .u8 := by simp [Program.intKind, hd]
  have := run_convert_int w src dst .u32 x.toNat hs (by rw [hk]; exact hd)
  rw [hk] at this
  rw [V32, this, V8]
  rw [show IntKind.u8.wrap (x.toNat : Int) = (((⟨x.setWidth 8⟩ : UInt8)).toNat : Int) from by simp only [IntKind.wrap_u8, ← UInt8.toNat_toBitVec, BitVec.toNat_setWidth]; omega]
end
end Go.Proofs.YtgpenpnobjecgaaGreatDoor

/- Sha -/
namespace Go.Proofs.YtgpenpnobjecgaaGreatDoor
set_option maxRecDepth 100000
namespace Sha

/-- A turn of a word to the right. -/
def rot (x : BitVec 32) (n : Nat) : BitVec 32 := x >>> n ||| x <<< (32 - n)
def s0 (x : BitVec 32) : BitVec 32 := rot x 7 ^^^ rot x 18 ^^^ x >>> 3
def s1 (x : BitVec 32) : BitVec 32 := rot x 17 ^^^ rot x 19 ^^^ x >>> 10
def e0 (x : BitVec 32) : BitVec 32 := rot x 2 ^^^ rot x 13 ^^^ rot x 22
def e1 (x : BitVec 32) : BitVec 32 := rot x 6 ^^^ rot x 11 ^^^ rot x 25
def ch (e f g : BitVec 32) : BitVec 32 := e &&& f ^^^ ~~~e &&& g
def maj (a b c : BitVec 32) : BitVec 32 := a &&& b ^^^ a &&& c ^^^ b &&& c

structure Reg where
  (a b c d e f g h : BitVec 32)
  deriving DecidableEq

def Reg.list (r : Reg) : List (BitVec 32) := [r.a, r.b, r.c, r.d, r.e, r.f, r.g, r.h]

def roots : List Nat := [0x428a2f98, 0x71374491, 0xb5c0fbcf, 0xe9b5dba5, 0x3956c25b, 0x59f111f1, 0x923f82a4, 0xab1c5ed5,
  0xd807aa98, 0x12835b01, 0x243185be, 0x550c7dc3, 0x72be5d74, 0x80deb1fe, 0x9bdc06a7, 0xc19bf174,
  0xe49b69c1, 0xefbe4786, 0x0fc19dc6, 0x240ca1cc, 0x2de92c6f, 0x4a7484aa, 0x5cb0a9dc, 0x76f988da,
  0x983e5152, 0xa831c66d, 0xb00327c8, 0xbf597fc7, 0xc6e00bf3, 0xd5a79147, 0x06ca6351, 0x14292967,
  0x27b70a85, 0x2e1b2138, 0x4d2c6dfc, 0x53380d13, 0x650a7354, 0x766a0abb, 0x81c2c92e, 0x92722c85,
  0xa2bfe8a1, 0xa81a664b, 0xc24b8b70, 0xc76c51a3, 0xd192e819, 0xd6990624, 0xf40e3585, 0x106aa070,
  0x19a4c116, 0x1e376c08, 0x2748774c, 0x34b0bcb5, 0x391c0cb3, 0x4ed8aa4a, 0x5b9cca4f, 0x682e6ff3,
  0x748f82ee, 0x78a5636f, 0x84c87814, 0x8cc70208, 0x90befffa, 0xa4506ceb, 0xbef9a3f7, 0xc67178f2]
def root (t : Nat) : BitVec 32 := BitVec.ofNat 32 (roots.getD t 0)

def word (a b c d : UInt8) : BitVec 32 :=
  a.toBitVec.setWidth 32 <<< 24 ||| b.toBitVec.setWidth 32 <<< 16 ||| c.toBitVec.setWidth 32 <<< 8 ||| d.toBitVec.setWidth 32

/-- The t-th word of the schedule of a block whose bytes are p 0 .. p 63. -/
def sched (p : Nat → UInt8) (t : Nat) : BitVec 32 :=
  if _h : t < 16 then word (p (4 * t)) (p (4 * t + 1)) (p (4 * t + 2)) (p (4 * t + 3))
  else sched p (t - 16) + s0 (sched p (t - 15)) + sched p (t - 7) + s1 (sched p (t - 2))
termination_by t

def step (r : Reg) (k w : BitVec 32) : Reg :=
  let u := r.h + e1 r.e + ch r.e r.f r.g + k + w
  let v := e0 r.a + maj r.a r.b r.c
  ⟨u + v, r.a, r.b, r.c, r.d + u, r.e, r.f, r.g⟩

def rounds (p : Nat → UInt8) (r : Reg) : Nat → Reg
  | 0 => r
  | t + 1 => step (rounds p r t) (root t) (sched p t)

def Reg.add (r q : Reg) : Reg := ⟨r.a + q.a, r.b + q.b, r.c + q.c, r.d + q.d, r.e + q.e, r.f + q.f, r.g + q.g, r.h + q.h⟩

def turn (r : Reg) (p : Nat → UInt8) : Reg := r.add (rounds p r 64)
end Sha
end Go.Proofs.YtgpenpnobjecgaaGreatDoor

/- Turn -/
namespace Go.Proofs.YtgpenpnobjecgaaGreatDoor
set_option maxRecDepth 100000
open Go.RowKit
/-- Block b is n cells, not frozen, whose j-th holds f j. -/
def Arr (w : World) (b n : Nat) (f : Nat → Value) : Prop :=
  ∃ cs t, w.heap[b]? = some (.cells cs t (0, 0)) ∧ cs.size = n ∧ ∀ j, j < n → cs[j]? = some (f j)
theorem Arr.cell {w : World} {b n : Nat} {f : Nat → Value} (h : Arr w b n f) (j : Nat) (hj : j < n) : w.cell? ⟨b, j, none⟩ = some (f j) := by
  obtain ⟨cs, t, hb, _, hc⟩ := h
  simp [World.cell?, hb, hc j hj]
theorem Arr.frozen {w : World} {b n : Nat} {f : Nat → Value} (h : Arr w b n f) (j : Nat) : w.frozen? ⟨b, j, none⟩ = false := by
  obtain ⟨cs, t, hb, _, hc⟩ := h
  simp [World.frozen?, hb]
theorem Arr.size {w : World} {b n : Nat} {f : Nat → Value} (h : Arr w b n f) : b < w.heap.size := by
  obtain ⟨cs, t, hb, _, hc⟩ := h
  exact (Array.getElem?_eq_some_iff.1 hb).1
theorem Arr.ext {w : World} {b n : Nat} {f g : Nat → Value} (h : Arr w b n f) (hg : ∀ j, j < n → f j = g j) : Arr w b n g := by
  obtain ⟨cs, t, hb, hs, hc⟩ := h
  exact ⟨cs, t, hb, hs, fun j hj => by rw [hc j hj, hg j hj]⟩
theorem Arr.set {w : World} {b n : Nat} {f : Nat → Value} (h : Arr w b n f) (i : Nat) (v : Value) (hi : i < n) : Arr (w.setCell ⟨b, i, none⟩ v) b n (fun j => if j = i then v else f j) := by
  obtain ⟨cs, t, hb, hs, hc⟩ := h
  refine ⟨cs.setIfInBounds i v, t, ?_, by simpa using hs, fun j hj => ?_⟩
  · simp [World.setCell, Array.getElem?_modify, hb]
  · rw [Array.getElem?_setIfInBounds]
    by_cases e : i = j
    · subst e; simp [hs, hi]
    · rw [if_neg e, hc j hj]; simp [Ne.symm e]
theorem Arr.other {w : World} {b n : Nat} {f : Nat → Value} (h : Arr w b n f) (a : Addr) (v : Value) (hb : a.block ≠ b) : Arr (w.setCell a v) b n f := by
  obtain ⟨cs, t, hh, r⟩ := h
  exact ⟨cs, t, by rw [Below.heap_setCell _ _ _ _ (by omega)]; exact hh, r⟩
theorem Arr.drew {w : World} {b n : Nat} {f : Nat → Value} (h : Arr w b n f) : Arr w.drew b n f := h
theorem Arr.below {w w' : World} {b n B : Nat} {f : Nat → Value} (h : Arr w b n f) (hw : Below B w w') (hb : b < B) : Arr w' b n f := by
  obtain ⟨cs, t, hh, r⟩ := h
  exact ⟨cs, t, by rw [hw.block b hb]; exact hh, r⟩

abbrev regV (q : Sha.Reg) : Value := .agg #[V32 q.a, V32 q.b, V32 q.c, V32 q.d, V32 q.e, V32 q.f, V32 q.g, V32 q.h]
theorem below_setRow {B : Nat} {a w : World} (h : Below B a w) {g : Nat} (hp : B ≤ g) (cs : Array Value) : Below B a (w.setRow g cs) :=
  h.trans ⟨rfl, rfl, rfl, by simp, fun k hk => setRow_other _ _ _ _ (by omega)⟩
def regF (r : Sha.Reg) (j : Nat) : Value := V32 (r.list.getD j 0)
def wF (p : Nat → UInt8) (k j : Nat) : Value := V32 (if j < k then Sha.sched p j else 0)

theorem arr_new {w : World} {cs : Array Value} {t : TypeId} {f : Nat → Value} {n : Nat} (hn : cs.size = n) (hf : ∀ j, j < n → cs[j]? = some (f j)) : Arr (w.alloc (.cells cs t)) w.heap.size n f :=
  ⟨cs, t, heap_alloc_new _ _, hn, hf⟩
theorem arr_old {w : World} {o : Obj} {b n : Nat} {f : Nat → Value} (h : Arr w b n f) : Arr (w.alloc o) b n f := by
  have hs := h.size
  obtain ⟨cs, t, hh, r⟩ := h
  exact ⟨cs, t, by rw [heap_alloc_old _ _ hs]; exact hh, r⟩

/-- What the three arrays hold while the schedule is made. -/
structure Sched (w wr : World) (r : Sha.Reg) (p : Nat → UInt8) (k : Nat) : Prop where
  reg : Arr wr w.heap.size 8 (regF r)
  out : Arr wr (w.heap.size + 1) 8 (fun _ => V32 0)
  arr : Arr wr (w.heap.size + 1 + 1) 64 (wF p k)
  low : Below w.heap.size w wr

theorem Sched.next {w wr : World} {r : Sha.Reg} {p : Nat → UInt8} {k : Nat} (h : Sched w wr r p k) (hk : k < 64) (x : BitVec 32) (hx : x = Sha.sched p k) :
    Sched w (wr.setCell ⟨w.heap.size + 1 + 1, k, none⟩ (V32 x)) r p (k + 1) := by
  subst hx
  refine ⟨h.reg.other _ _ (by show w.heap.size + 1 + 1 ≠ _; omega), h.out.other _ _ (by show w.heap.size + 1 + 1 ≠ _; omega), (h.arr.set k _ hk).ext fun j hj => ?_, h.low.setCell (by simp; omega) _⟩
  unfold wF
  by_cases e : j = k
  · subst e; simp
  · rw [if_neg e]
    by_cases e2 : j < k
    · rw [if_pos e2, if_pos (by omega)]
    · rw [if_neg e2, if_neg (by omega)]
theorem Sched.drew {w wr : World} {r : Sha.Reg} {p : Nat → UInt8} {k : Nat} (h : Sched w wr r p k) : Sched w wr.drew r p k := ⟨h.reg, h.out, h.arr, h.low.drew⟩
theorem Sched.drewN {w wr : World} {r : Sha.Reg} {p : Nat → UInt8} {k n : Nat} (h : Sched w wr r p k) : Sched w (wr.drewN n) r p k :=
  ⟨h.reg, h.out, h.arr, ⟨h.low.os, h.low.tape, h.low.output, h.low.size, h.low.block⟩⟩

def zeros (n : Nat) : Array Value := (List.replicate n (V32 0)).toArray
def At1 (w : World) (r : Sha.Reg) (p : Nat → UInt8) (m : Nat) (i : Value) (wr : World) : Prop := ∃ k : Nat, k ≤ m ∧ i = .int .i64 k ∧ Sched w wr r p k
def At2 (w : World) (r : Sha.Reg) (p : Nat → UInt8) (i : Value) (wr : World) : Prop := ∃ k : Nat, 16 ≤ k ∧ k ≤ 64 ∧ i = .int .i64 k ∧ Sched w wr r p k

theorem sched_lo (p : Nat → UInt8) (k : Nat) (h : k < 16) : Sha.word (p (4 * k)) (p (4 * k + 1)) (p (4 * k + 2)) (p (4 * k + 3)) = Sha.sched p k := by
  rw [Sha.sched, dif_pos h]
theorem sched_hi (p : Nat → UInt8) (k : Nat) (h : 16 ≤ k) :
    Sha.sched p (k - 16) + (Sha.rot (Sha.sched p (k - 15)) 7 ^^^ Sha.rot (Sha.sched p (k - 15)) 18 ^^^ Sha.sched p (k - 15) >>> 3) + Sha.sched p (k - 7) +
      (Sha.rot (Sha.sched p (k - 2)) 17 ^^^ Sha.rot (Sha.sched p (k - 2)) 19 ^^^ Sha.sched p (k - 2) >>> 10) = Sha.sched p k := by
  conv => rhs; rw [Sha.sched, dif_neg (by omega)]
  rfl
structure RegIs (q : Sha.Reg) (a b c d e f g h : Value) : Prop where
  a : a = V32 q.a
  b : b = V32 q.b
  c : c = V32 q.c
  d : d = V32 q.d
  e : e = V32 q.e
  f : f = V32 q.f
  g : g = V32 q.g
  h : h = V32 q.h
def At3 (w : World) (r : Sha.Reg) (p : Nat → UInt8) (a b c d e f g h i : Value) (wr : World) : Prop :=
  ∃ k : Nat, k ≤ 64 ∧ i = .int .i64 k ∧ RegIs (Sha.rounds p r k) a b c d e f g h ∧ Sched w wr r p 64
theorem wF_at (p : Nat → UInt8) (k j : Nat) (h : j < k) : wF p k j = V32 (Sha.sched p j) := by unfold wF; rw [if_pos h]

end Go.Proofs.YtgpenpnobjecgaaGreatDoor

/- Sums -/
namespace Go.Proofs.YtgpenpnobjecgaaGreatDoor
set_option maxRecDepth 100000
open Go.RowKit

/-- A sum as a value. -/
def sumV (l : List UInt8) : Value := .agg (l.map V8).toArray
def byteF (l : List UInt8) (j : Nat) : Value := V8 (l.getD j 0)

theorem oneCells (l : List UInt8) : (l.map V8).toArray.all (·.oneCell') = true := by
  simp [V8, Value.oneCell']
section
variable {P : Program} {ops : Array Oper} {rest : List Oper} {o : Oper} {a : Act} {w : World} {Q : Exit → Act → World → Prop}
theorem wpList_load_sum (hgd : o.guard = none) (ty : TypeId) (x : Operand) (ho : o.op = .load ty x) (g : Nat) (hx : a.eval x = .pointer (some ⟨g, 0, none⟩))
    (t : TypeId) (l : List UInt8) (n : Nat) (fr : Nat × Nat) (e : TypeId) (hg : w.heap[g]? = some (.cells (l.map V8).toArray t fr)) (hu : P.underlying ty = some (.array n e))
    (hi : (P.info? ty).map (·.size) = some n) (hl : l.length = n) (h : wpList P ops Q rest (a.put o.dst (sumV l)) w) : wpList P ops Q (o :: rest) a w :=
  wpList_load_row hgd ty x ho g hx t _ fr _ hg hu rfl (by rw [hi]; simp [hl]) h
theorem wpList_store_sum (hgd : o.guard = none) (ty : TypeId) (x y : Operand) (ho : o.op = .store ty x y) (g : Nat) (l : List UInt8) (n : Nat)
    (hx : a.eval x = .pointer (some ⟨g, 0, none⟩)) (hy : a.eval y = sumV l) (t : TypeId) (old : Array Value) (hg : w.heap[g]? = some (.cells old t (0, 0))) (hi : (P.info? ty).map (·.size) = some n)
    (hl : l.length = n) (hold : old.size = n) (h : wpList P ops Q rest (a.put o.dst undef) (w.setRow g (l.map V8).toArray)) : wpList P ops Q (o :: rest) a w :=
  wpList_store_row hgd ty x y ho g _ hx hy t old hg (by rw [hi]; simp [hl]) (by simp [hl, hold]) (oneCells l) h
theorem results_sum {fn : Func} {p : Tmp} {ty : TypeId} (h : fn.results = #[.cell p ty]) (tmps : Array Value) (w : World) (g : Nat) (t : TypeId) (l : List UInt8) (n : Nat) (fr : Nat × Nat) (e : TypeId)
    (hp : tmps.getD p undef = .pointer (some ⟨g, 0, none⟩)) (hg : w.heap[g]? = some (.cells (l.map V8).toArray t fr))
    (hu : P.underlying ty = some (.array n e)) (hi : (P.info? ty).map (·.size) = some n) (hl : l.length = n) : (results fn tmps).run P w = .ok (sumV l) w :=
  results_cell_row h tmps w g t _ fr _ hp hg hu rfl (by rw [hi]; simp [hl])
end

theorem Arr.row {w : World} {b n : Nat} {f : Nat → Value} (h : Arr w b n f) (l : List Value) (hl : l.length = n) (hf : ∀ j, j < n → l[j]? = some (f j)) : ∃ t, w.heap[b]? = some (.cells l.toArray t (0, 0)) := by
  obtain ⟨cs, t, hb, hs, hc⟩ := h
  refine ⟨t, ?_⟩
  rw [hb]
  congr 2
  apply Array.ext_getElem?
  intro j
  by_cases hj : j < n
  · rw [hc j hj, List.getElem?_toArray, hf j hj]
  · rw [Array.getElem?_eq_none (by omega), List.getElem?_toArray, List.getElem?_eq_none (by omega)]
/-- An array whose cells are the bytes of l. -/
theorem Arr.sum {w : World} {b n : Nat} {l : List UInt8} (h : Arr w b n (byteF l)) (hl : l.length = n) : ∃ t, w.heap[b]? = some (.cells (l.map V8).toArray t (0, 0)) :=
  h.row _ (by simpa using hl) fun j hj => by simp [byteF, List.getD, List.getElem?_eq_getElem (show j < l.length by omega)]
def zeros8 (n : Nat) : Array Value := (List.replicate n (V8 0)).toArray
theorem zeros8_at (n j : Nat) (h : j < n) : (zeros8 n)[j]? = some (V8 0) := by simp [zeros8, h]
theorem zeros8_size (n : Nat) : (zeros8 n).size = n := by simp [zeros8]
theorem V8_ofNat (x : Nat) : V8 (UInt8.ofNat x) = .int .u8 ((x : Int) % 256) := by simp [V8]
end Go.Proofs.YtgpenpnobjecgaaGreatDoor

/- Shb -/
namespace Go.Proofs.YtgpenpnobjecgaaGreatDoor
set_option maxRecDepth 100000
namespace Sha

/-- The register that a sum begins with. -/
def init : Reg := ⟨0x6a09e667, 0xbb67ae85, 0x3c6ef372, 0xa54ff53a, 0x510e527f, 0x9b05688c, 0x1f83d9ab, 0x5be0cd19⟩

/-- The register behind the whole blocks of l. -/
def blocks (r : Reg) (l : List UInt8) : Reg := if _h : l.length < 64 then r else blocks (turn r (fun j => l.getD j 0)) (l.drop 64)
termination_by l.length
decreasing_by simp only [List.length_drop]; omega

/-- A number as eight bytes, the highest first. -/
def eight (n : Nat) : List UInt8 := (List.range 8).map fun i => UInt8.ofNat (n / 2 ^ (8 * (7 - i)))

/-- What a text is filled up with: 0x80, zeros up to 56 of a block, its length in bits. -/
def pad (n : Nat) : List UInt8 := 0x80 :: (List.replicate ((119 - n % 64) % 64) 0 ++ eight (8 * n))

def wbytes (x : BitVec 32) : List UInt8 := [⟨(x >>> 24).setWidth 8⟩, ⟨(x >>> 16).setWidth 8⟩, ⟨(x >>> 8).setWidth 8⟩, ⟨x.setWidth 8⟩]
def bytes (r : Reg) : List UInt8 := r.list.flatMap wbytes

/-- The sum of a text. -/
def sum (l : List UInt8) : List UInt8 := bytes (blocks init (l ++ pad l.length))
theorem blocks_short (r : Reg) (l : List UInt8) (h : l.length < 64) : blocks r l = r := by
  rw [blocks, dif_pos h]
theorem blocks_step (r : Reg) (l : List UInt8) (h : 64 ≤ l.length) : blocks r l = blocks (turn r fun j => l.getD j 0) (l.drop 64) := by
  rw [blocks, dif_neg (by omega)]
theorem sched_lt (p : Nat → UInt8) (t : Nat) (h : t < 16) : sched p t = word (p (4 * t)) (p (4 * t + 1)) (p (4 * t + 2)) (p (4 * t + 3)) := by rw [sched, dif_pos h]
theorem sched_ge (p : Nat → UInt8) (t : Nat) (h : ¬ t < 16) : sched p t = sched p (t - 16) + s0 (sched p (t - 15)) + sched p (t - 7) + s1 (sched p (t - 2)) := by
  conv => lhs; rw [sched, dif_neg h]
theorem sched_congr (p q : Nat → UInt8) (h : ∀ j, j < 64 → p j = q j) : ∀ n t, t ≤ n → t < 64 → sched p t = sched q t := by
  intro n
  induction n with
  | zero =>
    intro t h0 _
    obtain rfl : t = 0 := by omega
    rw [sched_lt _ _ (by omega), sched_lt _ _ (by omega), h _ (by omega), h _ (by omega), h _ (by omega), h _ (by omega)]
  | succ n ih =>
    intro t h0 h1
    by_cases hlt : t < 16
    · rw [sched_lt _ _ hlt, sched_lt _ _ hlt, h _ (by omega), h _ (by omega), h _ (by omega), h _ (by omega)]
    · rw [sched_ge p t hlt, sched_ge q t hlt, ih (t - 16) (by omega) (by omega), ih (t - 15) (by omega) (by omega), ih (t - 7) (by omega) (by omega), ih (t - 2) (by omega) (by omega)]
theorem rounds_congr (p q : Nat → UInt8) (h : ∀ j, j < 64 → p j = q j) (r : Reg) : ∀ t, t ≤ 64 → rounds p r t = rounds q r t := by
  intro t
  induction t with
  | zero => intro _; rfl
  | succ t ih => intro ht; rw [rounds, rounds, ih (by omega), sched_congr p q h t t (Nat.le_refl _) (by omega)]
theorem turn_congr (r : Reg) (p q : Nat → UInt8) (h : ∀ j, j < 64 → p j = q j) : turn r p = turn r q := by
  rw [turn, turn, rounds_congr p q h r 64 (Nat.le_refl _)]
theorem blocks_append (n : Nat) : ∀ (r : Reg) (A B : List UInt8), A.length = 64 * n → blocks r (A ++ B) = blocks (blocks r A) B := by
  induction n with
  | zero =>
    intro r A B h
    obtain rfl : A = [] := List.eq_nil_of_length_eq_zero (by omega)
    rw [blocks_short r [] (by simp)]
    rfl
  | succ n ih =>
    intro r A B h
    rw [blocks_step r (A ++ B) (by simp; omega), blocks_step r A (by omega), List.drop_append_of_le_length (by omega), ih _ _ _ (by simp; omega)]
    rw [turn_congr r (fun j => (A ++ B).getD j 0) (fun j => A.getD j 0) fun j hj => by simp [List.getD, List.getElem?_append_left (show j < A.length by omega)]]
theorem blocks_rest (r : Reg) (A q : List UInt8) (h : A.length % 64 = 0) (hq : q.length < 64) : blocks r (A ++ q) = blocks r A := by
  rw [blocks_append (A.length / 64) r A q (by omega), blocks_short _ q hq]
theorem blocks_last (r : Reg) (A q : List UInt8) (h : A.length % 64 = 0) (hq : q.length = 64) : blocks r (A ++ q) = turn (blocks r A) fun j => q.getD j 0 := by
  rw [blocks_append (A.length / 64) r A q (by omega), blocks_step _ q (by omega), blocks_short _ _ (by simp; omega)]
end Sha
end Go.Proofs.YtgpenpnobjecgaaGreatDoor

/- Tabs -/
namespace Go.Proofs.YtgpenpnobjecgaaGreatDoor
set_option maxRecDepth 100000
open Go.RowKit

def rootsCells : Array Value := ((List.range 64).map fun t => V32 (Sha.root t)).toArray
/-- A slice of n bytes at a reads as l. -/
structure BytesAt (w : World) (a : Option Addr) (l : List UInt8) : Prop where
  at_ : 0 < l.length → ∃ b o, a = some ⟨b, o, none⟩ ∧ ∀ j, j < l.length → w.cell? ⟨b, o + j, none⟩ = some (byteF l j)
theorem BytesAt.nil (w : World) (a : Option Addr) : BytesAt w a [] := ⟨fun h => absurd h (by simp)⟩
theorem BytesAt.below {w w' : World} {a : Option Addr} {l : List UInt8} (h : BytesAt w a l) (hb : Below w.heap.size w w') : BytesAt w' a l :=
  ⟨fun h0 => by
    obtain ⟨b, o, ha, hc⟩ := h.at_ h0
    exact ⟨b, o, ha, fun j hj => (hb.cell (p := ⟨b, o + j, none⟩) (World.block_lt_of_cell? w _ (hc j hj))).trans (hc j hj)⟩⟩
theorem BytesAt.grown {w w' : World} {a : Option Addr} {l : List UInt8} {k : Nat} (h : BytesAt w a l) (hg : w.grownBy w' (some k)) (hk : ∀ ad, a = some ad → ad.block ≠ k) : BytesAt w' a l :=
  ⟨fun h0 => by
    obtain ⟨b, o, ha, hc⟩ := h.at_ h0
    refine ⟨b, o, ha, fun j hj => ?_⟩
    have hlt := World.block_lt_of_cell? w _ (hc j hj)
    have hne : some b ≠ some k := fun e => hk _ ha (Option.some.inj e)
    rw [World.cell?_of_block (w := w) (hg.block b hlt hne)]
    exact hc j hj⟩
/-- The same slice without its first k bytes, as Go cuts it. -/
theorem BytesAt.drop {w : World} {a : Option Addr} {l : List UInt8} {C : Nat} (h : BytesAt w a l) (hC : l.length ≤ C) (k : Nat) (hk : k ≤ l.length) :
    BytesAt w (if C = k then a else a.map (·.add k)) (l.drop k) :=
  ⟨fun h0 => by
    simp only [List.length_drop] at h0
    obtain ⟨b, o, ha, hc⟩ := h.at_ (by omega)
    refine ⟨b, o + k, ?_, fun j hj => ?_⟩
    · rw [if_neg (by omega), ha]
      simp [Addr.add_lit]
    · simp only [List.length_drop] at hj
      rw [Nat.add_assoc, hc (k + j) (by omega)]
      simp [byteF, List.getD, List.getElem?_drop]⟩
theorem cell_block {w : World} {b j : Nat} {cs : Array Value} {t : TypeId} {fr : Nat × Nat} {v : Value} (h : w.heap[b]? = some (.cells cs t fr)) (hv : cs[j]? = some v) : w.cell? ⟨b, j, none⟩ = some v := by
  rw [cell_of_row _ _ _ _ _ _ h, hv]
theorem Arr.grown {w w' : World} {b n k : Nat} {f : Nat → Value} (h : Arr w b n f) (hg : w.grownBy w' (some k)) (hb : b ≠ k) : Arr w' b n f := by
  have hs := h.size
  obtain ⟨cs, t, hh, r⟩ := h
  exact ⟨cs, t, by rw [hg.block b hs (fun e => hb (Option.some.inj e))]; exact hh, r⟩
theorem grownBy_below {w w1 : World} (h : Below w.heap.size w w1) (row : Option Nat) : w.grownBy w1 row := ⟨h.os, h.tape, h.output, h.size, fun i hi _ => h.block i hi⟩
theorem grownBy_trans {a b c : World} {k : Nat} (h : a.grownBy b (some k)) (h' : b.grownBy c (some k)) : a.grownBy c (some k) :=
  ⟨h'.os.trans h.os, h'.tape.trans h.tape, h'.output.trans h.output, Nat.le_trans h.size h'.size, fun i hi hne => (h'.block i (Nat.lt_of_lt_of_le hi h.size) hne).trans (h.block i hi hne)⟩
theorem grownBy_setCell (w : World) (b i : Nat) (v : Value) : w.grownBy (w.setCell ⟨b, i, none⟩ v) (some b) :=
  ⟨rfl, rfl, rfl, by simp, fun k _ hne => Below.heap_setCell _ _ _ _ fun e => hne (congrArg some e)⟩
theorem grownBy_drew (w : World) (row : Option Nat) : w.grownBy w.drew row := ⟨rfl, rfl, rfl, Nat.le_refl _, fun _ _ _ => rfl⟩
theorem grownBy_setRow (w : World) (b : Nat) (cs : Array Value) : w.grownBy (w.setRow b cs) (some b) :=
  ⟨rfl, rfl, rfl, by simp, fun k _ hne => setRow_other _ _ _ _ fun e => hne (congrArg some e)⟩
end Go.Proofs.YtgpenpnobjecgaaGreatDoor
