/- THE CARD of ChainBytes: the law answers true and the arguments read as they did. -/
import Derived.WalkMore
import Derived.Lib.SmallJoins
import Derived.Test.YtpdhgijeanbmcaaDoorJCbCard4
/- Fast -/
namespace Go.Proofs.YtpdhgijeanbmcaaDoor
namespace Nsha
def rot (x n : Nat) : Nat := x >>> n ||| (x <<< (32 - n)) % 4294967296
def s0 (x : Nat) : Nat := (rot x 7 ^^^ rot x 18) ^^^ x >>> 3
def s1 (x : Nat) : Nat := (rot x 17 ^^^ rot x 19) ^^^ x >>> 10
def e0 (x : Nat) : Nat := (rot x 2 ^^^ rot x 13) ^^^ rot x 22
def e1 (x : Nat) : Nat := (rot x 6 ^^^ rot x 11) ^^^ rot x 25
def ch (e f g : Nat) : Nat := (e &&& f) ^^^ ((4294967296 - 1 - e) &&& g)
def maj (a b c : Nat) : Nat := ((a &&& b) ^^^ (a &&& c)) ^^^ (b &&& c)
def nxt (l : List Nat) : Nat := (((l.getD 15 0 + s0 (l.getD 14 0)) % 4294967296 + l.getD 6 0) % 4294967296 + s1 (l.getD 1 0)) % 4294967296
def sched : Nat → List Nat → List Nat
  | 0, l => l
  | n + 1, l => sched n (nxt l :: l)
structure Reg where
  (a b c d e f g h : Nat)
def step (r : Reg) (k w : Nat) : Reg :=
  let u := ((((r.h + e1 r.e) % 4294967296 + ch r.e r.f r.g) % 4294967296 + k) % 4294967296 + w) % 4294967296
  let v := (e0 r.a + maj r.a r.b r.c) % 4294967296
  ⟨(u + v) % 4294967296, r.a, r.b, r.c, (r.d + u) % 4294967296, r.e, r.f, r.g⟩
def rounds : List Nat → List Nat → Reg → Reg
  | k :: ks, w :: ws, r => rounds ks ws (step r k w)
  | _, _, r => r
def word (a b c d : Nat) : Nat := ((a <<< 24 ||| b <<< 16) ||| c <<< 8) ||| d
def words : Nat → List Nat → List Nat
  | 0, _ => []
  | n + 1, l => word (l.getD 0 0) (l.getD 1 0) (l.getD 2 0) (l.getD 3 0) :: words n (l.drop 4)
def add (r q : Reg) : Reg :=
  ⟨(r.a + q.a) % 4294967296, (r.b + q.b) % 4294967296, (r.c + q.c) % 4294967296, (r.d + q.d) % 4294967296, (r.e + q.e) % 4294967296, (r.f + q.f) % 4294967296, (r.g + q.g) % 4294967296, (r.h + q.h) % 4294967296⟩
def turn (r : Reg) (l : List Nat) : Reg := add r (rounds Sha.roots (sched 48 (words 16 l).reverse).reverse r)
def blocks : Nat → Reg → List Nat → Reg
  | 0, r, _ => r
  | n + 1, r, l => blocks n (turn r l) (l.drop 64)
def init : Reg := ⟨0x6a09e667, 0xbb67ae85, 0x3c6ef372, 0xa54ff53a, 0x510e527f, 0x9b05688c, 0x1f83d9ab, 0x5be0cd19⟩
def wbytes (x : Nat) : List Nat := [x >>> 24 % 256, x >>> 16 % 256, x >>> 8 % 256, x % 256]
def bytes (r : Reg) : List Nat := [r.a, r.b, r.c, r.d, r.e, r.f, r.g, r.h].flatMap wbytes
def eight (n : Nat) : List Nat := (List.range 8).map fun i => n / 2 ^ (8 * (7 - i)) % 256
def pad (n : Nat) : List Nat := 128 :: (List.replicate ((119 - n % 64) % 64) 0 ++ eight (8 * n))
def sum (l : List Nat) : List Nat := bytes (blocks ((l.length + 72) / 64) init (l ++ pad l.length))
end Nsha

def Sha.Reg.nat (r : Sha.Reg) : Nsha.Reg := ⟨r.a.toNat, r.b.toNat, r.c.toNat, r.d.toNat, r.e.toNat, r.f.toNat, r.g.toNat, r.h.toNat⟩
namespace Nsha
theorem rot_eq (x : BitVec 32) (n : Nat) : (Sha.rot x n).toNat = rot x.toNat n := by
  simp [Sha.rot, rot, BitVec.toNat_or]
theorem s0_eq (x : BitVec 32) : (Sha.s0 x).toNat = s0 x.toNat := by simp [Sha.s0, s0, rot_eq, BitVec.toNat_xor]
theorem s1_eq (x : BitVec 32) : (Sha.s1 x).toNat = s1 x.toNat := by simp [Sha.s1, s1, rot_eq, BitVec.toNat_xor]
theorem e0_eq (x : BitVec 32) : (Sha.e0 x).toNat = e0 x.toNat := by simp [Sha.e0, e0, rot_eq, BitVec.toNat_xor]
theorem e1_eq (x : BitVec 32) : (Sha.e1 x).toNat = e1 x.toNat := by simp [Sha.e1, e1, rot_eq, BitVec.toNat_xor]
theorem ch_eq (x y z : BitVec 32) : (Sha.ch x y z).toNat = ch x.toNat y.toNat z.toNat := by
  simp [Sha.ch, ch, BitVec.toNat_xor, BitVec.toNat_and, BitVec.toNat_not]
theorem maj_eq (x y z : BitVec 32) : (Sha.maj x y z).toNat = maj x.toNat y.toNat z.toNat := by
  simp [Sha.maj, maj, BitVec.toNat_xor, BitVec.toNat_and]
theorem step_eq (r : Sha.Reg) (k w : BitVec 32) : (Sha.step r k w).nat = step r.nat k.toNat w.toNat := by
  simp only [Sha.step, step, Sha.Reg.nat, BitVec.toNat_add, e1_eq, ch_eq, e0_eq, maj_eq, show (2 : Nat) ^ 32 = 4294967296 from rfl]
theorem rounds_eq (p : Nat → UInt8) (r : Sha.Reg) : ∀ n t, rounds ((List.range' t n).map fun i => (Sha.root i).toNat) ((List.range' t n).map fun i => (Sha.sched p i).toNat) (Sha.rounds p r t).nat = (Sha.rounds p r (t + n)).nat
  | 0, t => rfl
  | n + 1, t => by
    rw [List.range'_succ, List.map_cons, List.map_cons, rounds, ← step_eq, show Sha.step (Sha.rounds p r t) (Sha.root t) (Sha.sched p t) = Sha.rounds p r (t + 1) from rfl, rounds_eq p r n (t + 1)]
    congr 2
    omega
def back (p : Nat → UInt8) : Nat → List Nat
  | 0 => []
  | k + 1 => (Sha.sched p k).toNat :: back p k
theorem back_get (p : Nat → UInt8) : ∀ k i, i < k → (back p k).getD i 0 = (Sha.sched p (k - 1 - i)).toNat
  | 0, i, h => by omega
  | k + 1, 0, _ => by simp [back]
  | k + 1, i + 1, h => by
    have := back_get p k i (by omega)
    rw [back, List.getD_cons_succ, this]
    congr 2
    omega
theorem nxt_eq (p : Nat → UInt8) (k : Nat) (h : 16 ≤ k) : nxt (back p k) = (Sha.sched p k).toNat := by
  rw [nxt, back_get p k 15 (by omega), back_get p k 14 (by omega), back_get p k 6 (by omega), back_get p k 1 (by omega), Sha.sched_ge p k (by omega), BitVec.toNat_add, BitVec.toNat_add, BitVec.toNat_add, s0_eq, s1_eq,
    show k - 1 - 15 = k - 16 by omega, show k - 1 - 14 = k - 15 by omega, show k - 1 - 6 = k - 7 by omega, show k - 1 - 1 = k - 2 by omega]
theorem sched_eq (p : Nat → UInt8) : ∀ n k, 16 ≤ k → sched n (back p k) = back p (k + n)
  | 0, k, _ => rfl
  | n + 1, k, h => by
    rw [sched, nxt_eq p k h, show (Sha.sched p k).toNat :: back p k = back p (k + 1) from rfl, sched_eq p n (k + 1) (by omega)]
    congr 1
    omega
theorem back_rev (p : Nat → UInt8) : ∀ k, (back p k).reverse = (List.range' 0 k).map fun i => (Sha.sched p i).toNat
  | 0 => rfl
  | k + 1 => by
    rw [back, List.reverse_cons, back_rev p k, show List.range' 0 (k + 1) = List.range' 0 k ++ [k] by rw [List.range'_concat]; simp]
    simp
theorem word_eq (a b c d : UInt8) : (Sha.word a b c d).toNat = word a.toNat b.toNat c.toNat d.toNat := by
  have ha := a.toNat_lt
  have hb := b.toNat_lt
  have hc := c.toNat_lt
  have hd := d.toNat_lt
  have e1 : (a.toNat % 4294967296) <<< 24 % 4294967296 = a.toNat <<< 24 := by rw [Nat.shiftLeft_eq, Nat.shiftLeft_eq]; omega
  have e2 : (b.toNat % 4294967296) <<< 16 % 4294967296 = b.toNat <<< 16 := by rw [Nat.shiftLeft_eq, Nat.shiftLeft_eq]; omega
  have e3 : (c.toNat % 4294967296) <<< 8 % 4294967296 = c.toNat <<< 8 := by rw [Nat.shiftLeft_eq, Nat.shiftLeft_eq]; omega
  have e4 : d.toNat % 4294967296 = d.toNat := by omega
  rw [Sha.word, word, BitVec.toNat_or, BitVec.toNat_or, BitVec.toNat_or, BitVec.toNat_shiftLeft, BitVec.toNat_shiftLeft, BitVec.toNat_shiftLeft, BitVec.toNat_setWidth, BitVec.toNat_setWidth, BitVec.toNat_setWidth, BitVec.toNat_setWidth]
  show ((((a.toNat % 4294967296) <<< 24 % 4294967296) ||| ((b.toNat % 4294967296) <<< 16 % 4294967296)) ||| ((c.toNat % 4294967296) <<< 8 % 4294967296)) ||| (d.toNat % 4294967296) = _
  rw [e1, e2, e3, e4]
theorem getD_nat (l : List UInt8) (i : Nat) : (l.map UInt8.toNat).getD i 0 = (l.getD i 0).toNat := by
  simp only [List.getD, List.getElem?_map]
  cases l[i]? <;> rfl
theorem words_eq (l : List UInt8) : ∀ n t, t + n ≤ 16 → words n ((l.map UInt8.toNat).drop (4 * t)) = (List.range' t n).map fun i => (Sha.sched (fun j => l.getD j 0) i).toNat
  | 0, t, _ => rfl
  | n + 1, t, h => by
    rw [List.range'_succ, List.map_cons, words, Sha.sched_lt _ t (by omega), word_eq, List.drop_drop, show 4 * t + 4 = 4 * (t + 1) by omega, words_eq l n (t + 1) (by omega), List.getD_eq_getElem?_getD, List.getD_eq_getElem?_getD, List.getD_eq_getElem?_getD, List.getD_eq_getElem?_getD,
      List.getElem?_drop, List.getElem?_drop, List.getElem?_drop, List.getElem?_drop, ← List.getD_eq_getElem?_getD, ← List.getD_eq_getElem?_getD, ← List.getD_eq_getElem?_getD, ← List.getD_eq_getElem?_getD, getD_nat, getD_nat, getD_nat, getD_nat]
    rfl
theorem roots_eq : Sha.roots = (List.range' 0 64).map fun i => (Sha.root i).toNat := by decide +kernel
theorem add_eq (r q : Sha.Reg) : (r.add q).nat = add r.nat q.nat := by
  simp only [Sha.Reg.add, add, Sha.Reg.nat, BitVec.toNat_add, show (2 : Nat) ^ 32 = 4294967296 from rfl]
theorem turn_eq (r : Sha.Reg) (l : List UInt8) : (Sha.turn r fun j => l.getD j 0).nat = turn r.nat (l.map UInt8.toNat) := by
  have h := words_eq l 16 0 (by omega)
  rw [Nat.mul_zero, List.drop_zero] at h
  have hr := rounds_eq (fun j => l.getD j 0) r 64 0
  rw [Nat.zero_add, ← roots_eq, show Sha.rounds (fun j => l.getD j 0) r 0 = r from rfl] at hr
  rw [turn, h, ← back_rev, List.reverse_reverse, sched_eq _ 48 16 (by omega), back_rev, Sha.turn, add_eq, hr]
theorem blocks_eq : ∀ n (r : Sha.Reg) (l : List UInt8), l.length / 64 = n → (Sha.blocks r l).nat = blocks n r.nat (l.map UInt8.toNat)
  | 0, r, l, h => by rw [Sha.blocks_short _ _ (by omega)]; rfl
  | n + 1, r, l, h => by
    rw [Sha.blocks_step _ _ (by omega), blocks, ← turn_eq, ← List.map_drop]
    exact blocks_eq n _ _ (by rw [List.length_drop]; omega)
theorem wbytes_eq (x : BitVec 32) : (Sha.wbytes x).map UInt8.toNat = wbytes x.toNat := by
  simp only [Sha.wbytes, wbytes, List.map_cons, List.map_nil, UInt8.toNat, BitVec.toNat_setWidth, BitVec.toNat_ushiftRight]
  try rfl
theorem bytes_eq (r : Sha.Reg) : (Sha.bytes r).map UInt8.toNat = bytes r.nat := by
  simp only [Sha.bytes, bytes, Sha.Reg.list, Sha.Reg.nat, List.flatMap_cons, List.flatMap_nil, List.map_append, wbytes_eq, List.map_nil]
theorem eight_eq (n : Nat) : (Sha.eight n).map UInt8.toNat = eight n := by
  simp [Sha.eight, eight]
theorem pad_eq (n : Nat) : (Sha.pad n).map UInt8.toNat = pad n := by
  simp [Sha.pad, pad, eight_eq]
theorem sum_eq (l : List UInt8) : (Sha.sum l).map UInt8.toNat = sum (l.map UInt8.toNat) := by
  have hp : (Sha.pad l.length).length = 1 + (119 - l.length % 64) % 64 + 8 := by simp [Sha.pad, Sha.eight]; omega
  rw [Sha.sum, sum, bytes_eq, blocks_eq ((l.length + 72) / 64) _ _ (by rw [List.length_append, hp]; omega), List.map_append, pad_eq, List.length_map]
  rfl
end Nsha
end Go.Proofs.YtpdhgijeanbmcaaDoor

/- LiveP -/
namespace Go.Proofs.YtpdhgijeanbmcaaDoor
namespace Nsha
def leaf (p : List Nat) : List Nat := sum (0 :: p)
def node (x y : List Nat) : List Nat := sum (1 :: (x ++ y))
theorem live_one : node (node (leaf [97]) (leaf [98])) (leaf [98]) ≠ node (node (leaf [97]) (leaf [98])) (leaf [99]) := by decide +kernel
theorem live_two : node (node (node (leaf [97]) (leaf [98])) (leaf [99])) (leaf [99]) ≠ node (node (leaf [97]) (leaf [98])) (leaf [99]) := by decide +kernel
end Nsha
namespace LiveP
def leaf (p : List UInt8) : List UInt8 := Sha.sum (0 :: p)
def node (x y : List UInt8) : List UInt8 := Sha.sum (1 :: (x ++ y))
theorem leaf_nat (p : List UInt8) : (leaf p).map UInt8.toNat = Nsha.leaf (p.map UInt8.toNat) := by
  rw [leaf, Nsha.sum_eq]; rfl
theorem node_nat (x y : List UInt8) : (node x y).map UInt8.toNat = Nsha.node (x.map UInt8.toNat) (y.map UInt8.toNat) := by
  rw [node, Nsha.sum_eq, List.map_cons, List.map_append]; rfl
theorem one : node (node (leaf [97]) (leaf [98])) (leaf [98]) ≠ node (node (leaf [97]) (leaf [98])) (leaf [99]) := fun h => by
  have h2 := congrArg (List.map UInt8.toNat) h
  simp only [node_nat, leaf_nat] at h2
  exact Nsha.live_one h2
theorem two : node (node (node (leaf [97]) (leaf [98])) (leaf [99])) (leaf [99]) ≠ node (node (leaf [97]) (leaf [98])) (leaf [99]) := fun h => by
  have h2 := congrArg (List.map UInt8.toNat) h
  simp only [node_nat, leaf_nat] at h2
  exact Nsha.live_two h2
end LiveP
end Go.Proofs.YtpdhgijeanbmcaaDoor

/- LiveQ -/
namespace Go.Proofs.YtpdhgijeanbmcaaDoor
namespace Tree
theorem split3 : split 3 = 2 := by
  unfold split
  rw [splitFrom_step (by omega) (by omega), splitFrom_stop (by omega)]
theorem split2 : split 2 = 1 := by
  unfold split
  rw [splitFrom_stop (by omega)]
theorem root2 (a b : List UInt8) : root [a, b] = node a b := by
  rw [root_many (by simp)]
  simp only [List.length_cons, List.length_nil]
  rw [show split (0 + 1 + 1) = 1 from split2]
  simp [root_one]
theorem root3 (a b c : List UInt8) : root [a, b, c] = node (node a b) c := by
  rw [root_many (by simp)]
  simp only [List.length_cons, List.length_nil]
  rw [show split (0 + 1 + 1 + 1) = 2 from split3]
  simp [root_one, root2]
theorem path3 (a b c : List UInt8) : path [a, b, c] 2 = [node a b] := by
  rw [path_right (by simp) (by simp only [List.length_cons, List.length_nil]; rw [show split (0 + 1 + 1 + 1) = 2 from split3]; omega)]
  simp only [List.length_cons, List.length_nil]
  rw [show split (0 + 1 + 1 + 1) = 2 from split3, path_stop (by simp)]
  simp [root2]
theorem sub3 (a b c : List UInt8) : sub 2 [a, b, c] true = [c] := by
  rw [sub_left (by simp) (by omega) (by simp only [List.length_cons, List.length_nil]; rw [show split (0 + 1 + 1 + 1) = 2 from split3]; omega)]
  simp only [List.length_cons, List.length_nil]
  rw [show split (0 + 1 + 1 + 1) = 2 from split3, sub_all (by simp)]
  simp [root_one]
theorem holds3 (r x p : List UInt8) : holds r 3 2 x [p] = (node p x == r) := by
  unfold holds
  have h := made_right 3 2 x [p] 0 (by simp) (by omega) (by rw [split3]; omega)
  simp only [Nat.zero_add, List.take_succ_cons, List.take_zero, List.getElem_cons_zero] at h
  rw [split3, made_one (3 - 2) _ _ _ (by decide)] at h
  rw [h]
  rfl
theorem ext3 (old r x : List UInt8) : extends_ 2 old 3 r [x] = (node old x == r) := by
  unfold extends_
  have h := both_left old 2 3 true [x] 0 (by simp) (by omega) (by omega) (by rw [split3]; omega)
  simp only [Nat.zero_add, List.take_succ_cons, List.take_zero, List.getElem_cons_zero] at h
  rw [split3, both_whole] at h
  rw [h]
  simp
end Tree
theorem live_ne1 : Tree.node (Tree.node (Tree.leaf [97]) (Tree.leaf [98])) (Tree.leaf [98]) ≠ Tree.node (Tree.node (Tree.leaf [97]) (Tree.leaf [98])) (Tree.leaf [99]) := LiveP.one
theorem live_ne2 : Tree.node (Tree.node (Tree.node (Tree.leaf [97]) (Tree.leaf [98])) (Tree.leaf [99])) (Tree.leaf [99]) ≠ Tree.node (Tree.node (Tree.leaf [97]) (Tree.leaf [98])) (Tree.leaf [99]) := LiveP.two
end Go.Proofs.YtpdhgijeanbmcaaDoor

/- Ext -/
namespace Go.Proofs.YtpdhgijeanbmcaaDoor
open Go.RowKit Go.Great

def extFn (ob pb g : Nat) : Value := .func (.func 53) #[] #[.pointer (some ⟨ob, 0, none⟩), .pointer (some ⟨pb, 0, none⟩), .pointer (some ⟨g, 0, none⟩)]
structure ExtEnv (w : World) (ob pb g : Nat) (old : List UInt8) (a : Option Addr) (np c : Nat) (p : List (List UInt8)) : Prop where
  tabs : Tabs w
  oldAt : ∃ t fr, w.heap[ob]? = some (.cells (old.map V8).toArray t fr)
  pathAt : w.cell? ⟨pb, 0, none⟩ = some (.slice a np c)
  fn : w.cell? ⟨g, 0, none⟩ = some (extFn ob pb g)
  len : old.length = 32
  sums : Sums w a np c p
theorem ExtEnv.low {w w' : World} {ob pb g : Nat} {old : List UInt8} {a : Option Addr} {np c : Nat} {p : List (List UInt8)} (h : ExtEnv w ob pb g old a np c p) (hl : Low w w') : ExtEnv w' ob pb g old a np c p := by
  obtain ⟨t, fr, h1⟩ := h.oldAt
  exact ⟨h.tabs.low hl, ⟨t, fr, bblk hl h1⟩, (hl.cell (p := ⟨pb, 0, none⟩) (World.block_lt_of_cell? w _ h.pathAt)).trans h.pathAt, (hl.cell (p := ⟨g, 0, none⟩) (World.block_lt_of_cell? w _ h.fn)).trans h.fn, h.len, h.sums.low hl⟩

/-- Two boxes of sums are written, each once and for good; all else that was there stays. -/
structure Wr (b1 b2 : Nat) (c1 c2 : Array Value) (t : TypeId) (w w' : World) : Prop where
  os : w'.os = w.os
  tape : w'.tape = w.tape
  output : w'.output = w.output
  size : w.heap.size ≤ w'.heap.size
  keep : ∀ i, i < w.heap.size → i ≠ b1 → i ≠ b2 → w'.heap[i]? = w.heap[i]?
  k1 : (∃ cs, w.heap[b1]? = some (.cells cs t (0, 0)) ∧ cs.size = 32) → ∃ cs, w'.heap[b1]? = some (.cells cs t (0, 0)) ∧ cs.size = 32
  f1 : w.heap[b1]? = some (.cells c1 t (0, 0)) → w'.heap[b1]? = some (.cells c1 t (0, 0))
  k2 : (∃ cs, w.heap[b2]? = some (.cells cs t (0, 0)) ∧ cs.size = 32) → ∃ cs, w'.heap[b2]? = some (.cells cs t (0, 0)) ∧ cs.size = 32
  f2 : w.heap[b2]? = some (.cells c2 t (0, 0)) → w'.heap[b2]? = some (.cells c2 t (0, 0))
section
variable {b1 b2 : Nat} {c1 c2 : Array Value} {t : TypeId}
theorem Wr.refl (w : World) : Wr b1 b2 c1 c2 t w w := ⟨rfl, rfl, rfl, Nat.le_refl _, fun _ _ _ _ => rfl, fun h => h, fun h => h, fun h => h, fun h => h⟩
theorem Wr.trans (w w' w'' : World) (h : Wr b1 b2 c1 c2 t w w') (h' : Wr b1 b2 c1 c2 t w' w'') : Wr b1 b2 c1 c2 t w w'' :=
  ⟨h'.os.trans h.os, h'.tape.trans h.tape, h'.output.trans h.output, Nat.le_trans h.size h'.size, fun i hi n1 n2 => (h'.keep i (Nat.lt_of_lt_of_le hi h.size) n1 n2).trans (h.keep i hi n1 n2), fun x => h'.k1 (h.k1 x), fun x => h'.f1 (h.f1 x), fun x => h'.k2 (h.k2 x), fun x => h'.f2 (h.f2 x)⟩
theorem Wr.of_low {w w' : World} (h : Low w w') : Wr b1 b2 c1 c2 t w w' :=
  ⟨h.os, h.tape, h.output, h.size, fun i hi _ _ => h.block i hi, fun ⟨cs, h1, h2⟩ => ⟨cs, bblk h h1, h2⟩, fun h1 => bblk h h1, fun ⟨cs, h1, h2⟩ => ⟨cs, bblk h h1, h2⟩, fun h1 => bblk h h1⟩
theorem Wr.one {w w' : World} (hne : b1 ≠ b2) (hg : w.grownBy w' (some b1)) (h1 : w'.heap[b1]? = some (.cells c1 t (0, 0))) (hs : c1.size = 32) : Wr b1 b2 c1 c2 t w w' :=
  ⟨hg.os, hg.tape, hg.output, hg.size, fun i hi n1 _ => hg.block i hi (fun e => n1 (Option.some.inj e)), fun _ => ⟨c1, h1, hs⟩, fun _ => h1, fun ⟨cs, h2, h3⟩ => ⟨cs, (hg.block _ (in_heap h2) (fun e => hne (Option.some.inj e).symm)).trans h2, h3⟩, fun h2 => (hg.block _ (in_heap h2) (fun e => hne (Option.some.inj e).symm)).trans h2⟩
theorem Wr.two {w w' : World} (hne : b1 ≠ b2) (hg : w.grownBy w' (some b2)) (h1 : w'.heap[b2]? = some (.cells c2 t (0, 0))) (hs : c2.size = 32) : Wr b1 b2 c1 c2 t w w' :=
  ⟨hg.os, hg.tape, hg.output, hg.size, fun i hi _ n2 => hg.block i hi (fun e => n2 (Option.some.inj e)), fun ⟨cs, h2, h3⟩ => ⟨cs, (hg.block _ (in_heap h2) (fun e => hne (Option.some.inj e))).trans h2, h3⟩, fun h2 => (hg.block _ (in_heap h2) (fun e => hne (Option.some.inj e))).trans h2, fun _ => ⟨c2, h1, hs⟩, fun _ => h1⟩
def pFin1 : Post (Wr b1 b2 c1 c2 t) := ⟨fun _ w => w.heap[b1]? = some (.cells c1 t (0, 0)), fun _ _ _ h hw => hw.f1 h⟩
def pFin2 : Post (Wr b1 b2 c1 c2 t) := ⟨fun _ w => w.heap[b2]? = some (.cells c2 t (0, 0)), fun _ _ _ h hw => hw.f2 h⟩
/-- What lies below both boxes is as it was. -/
theorem Wr.below {w w0 w' : World} (h0 : Below w.heap.size w w0) (h : Wr b1 b2 c1 c2 t w0 w') (n1 : w.heap.size ≤ b1) (n2 : w.heap.size ≤ b2) : Below w.heap.size w w' :=
  ⟨h.os.trans h0.os, h.tape.trans h0.tape, h.output.trans h0.output, Nat.le_trans h0.size h.size, fun i hi => (h.keep i (Nat.lt_of_lt_of_le hi h0.size) (by omega) (by omega)).trans (h0.block i hi)⟩
end
abbrev WrS (b1 b2 : Nat) (r s : List UInt8) : World → World → Prop := Wr b1 b2 (r.map V8).toArray (s.map V8).toArray 29

set_option maxRecDepth 100000 in
set_option maxHeartbeats 1000000 in
theorem extin_whole (m u : Nat) (ob pb g : Nat) (old : List UInt8) (a : Option Addr) (np c : Nat) (p : List (List UInt8)) (w : World) (E : ExtEnv w ob pb g old a np c p) (hu : u ≤ np) :
    Calls Tryd.prog 53 #[.int .i64 m, .int .i64 m, .int .i64 u, .bool true, .pointer (some ⟨ob, 0, none⟩), .pointer (some ⟨pb, 0, none⟩), .pointer (some ⟨g, 0, none⟩)] w (RetBoth (Tree.both old m m true (p.take u)) w) := by
  have E' := Lib.hid E
  have Hl := Lib.hid E.len
  obtain ⟨t, fr, hlf⟩ := E.oldAt
  have HLF := Lib.hid hlf
  clear E hlf
  go_enter Tryd.func53, Tryd.ntmps53
  go_wp2_with fail
  have hb := blk2 w (.cells (zeros8 32) 29) (.cells (zeros8 32) 29)
  have HBk := Lib.hid hb
  have hne : w.heap.size ≠ w.heap.size + 1 := by omega
  clear hb
  refine wp_region_rel2 6 (WrS w.heap.size (w.heap.size + 1) old old) (by kernel_rfl) (by kernel_rfl) Wr.refl Wr.trans [.is (sumV old), .is (sumV old), .is (.int .i64 u), .is (.bool ((u : Int) == 0)), pFin1, pFin2] rfl ?_
  have hold : ∀ wr, WrS w.heap.size (w.heap.size + 1) old old ((w.alloc (.cells (zeros8 32) 29)).alloc (.cells (zeros8 32) 29)).drew wr → wr.heap[ob]? = some (.cells (old.map V8).toArray t fr) := fun wr hR =>
    (hR.keep ob (by have := in_heap HLF.out; show ob < ((w.alloc _).alloc _).heap.size; simp; omega) (Nat.ne_of_lt (in_heap HLF.out)) (by have := in_heap HLF.out; omega)).trans (at_old _ (at_old _ HLF.out))
  have Hold := Lib.hid hold
  clear hold
  refine RelHead2.cons ?_ ?_
  · intro wr hR h
    unfold relOp
    refine wpList_load_sum rfl 29 _ rfl ob (by kernel_rfl) t old 32 fr _ (Hold.out wr hR) Tryd.underlying29 (by kernel_rfl) Hl.out ?_
    go_wp2
    exact ⟨Wr.refl _, rfl⟩
  intro v26
  refine RelHead2.cons ?_ ?_
  · intro wr hR h
    unfold relOp
    refine wpList_load_sum rfl 29 _ rfl ob (by kernel_rfl) t old 32 fr _ (Hold.out wr hR) Tryd.underlying29 (by kernel_rfl) Hl.out ?_
    go_wp2
    exact ⟨Wr.refl _, rfl⟩
  intro v27
  refine RelHead2.cons ?_ ?_
  · intro wr hR h
    unfold relOp
    go_wp2
    exact ⟨Wr.refl _, rfl⟩
  intro v28
  refine RelHead2.cons ?_ ?_
  · intro wr hR h
    have e28 : v28 = (.int .i64 u : Value) := allOf_iff.1 h 2 (by decide)
    subst e28
    unfold relOp
    clear h
    go_wp2
    exact ⟨Wr.refl _, rfl⟩
  intro v29
  refine RelHead2.cons ?_ ?_
  · intro wr hR h
    have e26 : v26 = sumV old := allOf_iff.1 h 0 (by decide)
    subst e26
    obtain ⟨cs, hcs, hs⟩ := hR.k1 ⟨_, HBk.out.1, rfl⟩
    unfold relOp
    refine wpList_store_row' rfl 29 _ _ rfl w.heap.size (old.map V8).toArray (by kernel_rfl) (by kernel_rfl) _ _ hcs (size_sum old Hl.out) (by simp [hs, Hl.out]) (oneCells old) ?_
    intro w' h1 g1 s1
    go_wp2
    exact ⟨Wr.one hne g1 h1 (by simp [Hl.out]), undef, h1⟩
  intro v30
  refine RelHead2.cons ?_ ?_
  · intro wr hR h
    have e27 : v27 = sumV old := allOf_iff.1 h 1 (by decide)
    subst e27
    obtain ⟨cs, hcs, hs⟩ := hR.k2 ⟨_, HBk.out.2, rfl⟩
    unfold relOp
    refine wpList_store_row' rfl 29 _ _ rfl (w.heap.size + 1) (old.map V8).toArray (by kernel_rfl) (by kernel_rfl) _ _ hcs (size_sum old Hl.out) (by simp [hs, Hl.out]) (oneCells old) ?_
    intro w' h1 g1 s1
    go_wp2
    exact ⟨Wr.two hne g1 h1 (by simp [Hl.out]), undef, h1⟩
  intro v31
  refine RelHead2.nil fun wr hR h => ?_
  have e29 : v29 = (.bool ((u : Int) == 0) : Value) := allOf_iff.1 h 3 (by decide)
  have e30 : wr.heap[w.heap.size]? = some (.cells (old.map V8).toArray 29 (0, 0)) := allOf_iff.1 h 4 (by decide)
  have e31 : wr.heap[w.heap.size + 1]? = some (.cells (old.map V8).toArray 29 (0, 0)) := allOf_iff.1 h 5 (by decide)
  subst e29
  have hBl : Below w.heap.size w wr := Wr.below (low2 w (.cells (zeros8 32) 29) (.cells (zeros8 32) 29)).drew hR (Nat.le_refl _) (by omega)
  clear h hR
  go_wp2
  refine bodyPost_ret (results_sum2_tmp rfl _ _ w.heap.size (w.heap.size + 1) _ _ old old 32 (0, 0) (0, 0) _ rfl rfl e30 e31 Tryd.underlying29 (by kernel_rfl) Hl.out Hl.out) rfl ⟨old, old, _, rfl, Hl.out, Hl.out, ?_, hBl⟩
  rw [Tree.both_whole]
  have hp := E'.out.sums.len
  by_cases h : u = 0
  · subst h; simp
  · have h2 : p.take u ≠ [] := by simp; exact ⟨h, fun e => by rw [e] at hp; simp at hp; omega⟩
    rw [if_neg h2]
    have : ((u : Int) == 0) = false := by simp; exact h
    simp [this]
end Go.Proofs.YtpdhgijeanbmcaaDoor

/- Ext2 -/
namespace Go.Proofs.YtpdhgijeanbmcaaDoor
open Go.RowKit Go.Great

theorem at_4 {w3 w4 : World} {o o' : Obj} {x : Obj} (_h : w4.heap[w3.heap.size]? = some x) (hg : ((w3.alloc o).alloc o').grownBy w4 (some w3.heap.size)) : w4.heap[w3.heap.size + 1]? = some o' :=
  (hg.block _ (by simp) (fun e => by have := Option.some.inj e; omega)).trans (blk2 _ _ _).2
theorem Wr.at_ {b1 b2 b : Nat} {c1 c2 : Array Value} {t : TypeId} {w w' : World} {o : Obj} (h : Wr b1 b2 c1 c2 t w w') (hb : w.heap[b]? = some o) (n1 : b ≠ b1) (n2 : b ≠ b2) : w'.heap[b]? = some o := (h.keep b (in_heap hb) n1 n2).trans hb

set_option maxRecDepth 100000 in
set_option maxHeartbeats 2000000 in
theorem extin_left (m n u ob pb g : Nat) (whole : Bool) (old : List UInt8) (a : Option Addr) (np c : Nat) (p : List (List UInt8)) (w : World) (hup : u < np) (hnp : np < 4611686018427387904) (hm : 0 < m) (hmn : m < n) (hn63 : n < 9223372036854775808) (hmk : m ≤ split n) (E : ExtEnv w ob pb g old a np c p)
    (ih : ∀ w', ExtEnv w' ob pb g old a np c p → Calls Tryd.prog 53 #[.int .i64 m, .int .i64 (split n), .int .i64 u, .bool whole, .pointer (some ⟨ob, 0, none⟩), .pointer (some ⟨pb, 0, none⟩), .pointer (some ⟨g, 0, none⟩)] w' (RetBoth (Tree.both old m (split n) whole (p.take u)) w')) :
    Calls Tryd.prog 53 #[.int .i64 m, .int .i64 n, .int .i64 (u + 1 : Nat), .bool whole, .pointer (some ⟨ob, 0, none⟩), .pointer (some ⟨pb, 0, none⟩), .pointer (some ⟨g, 0, none⟩)] w (RetBoth (Tree.both old m n whole (p.take (u + 1))) w) := by
  have E' := Lib.hid E
  have hup' : u < p.length := by have := E.sums.len; omega
  have hkp := split_pos n
  have hkl := split_lt (show 1 < n by omega)
  have Hb := Lib.hid (Tree.both_left old m n whole p u hup' hmn hm hmk)
  have Hhalf := half_any n (by omega)
  obtain ⟨b, o, ha, hget⟩ := E.sums.get
  obtain rfl := ha (by omega)
  have hx := hget u hup'
  have hxl := E.sums.each p[u] (by simp)
  obtain ⟨x, hxe⟩ : ∃ x, x = p[u] := ⟨_, rfl⟩
  rw [← hxe] at hx hxl Hb
  have Ih := Lib.hid ih
  clear ih
  generalize split n = k at *
  have HX := Lib.hid hx
  have HXL := Lib.hid hxl
  have hcap := E.sums.cap
  have e1 : ((u + 1 : Nat) : Int) - 1 = (u : Int) := by omega
  have hn1 : ((m : Int) == (n : Int)) = false := by simp; omega
  have hn2 : ¬ (m : Int) = (n : Int) := by omega
  have hunp : (u : Int) < (np : Int) := by omega
  have hmk2 : (m : Int) ≤ (k : Int) := by omega
  clear hx hxl hget ha E hxe hup'
  go_enter Tryd.func53, Tryd.ntmps53
  go_wp2_with fail
  have HBk := Lib.hid (blk2 w (.cells (zeros8 32) 29) (.cells (zeros8 32) 29))
  have HLk := Lib.hid (low2 w (.cells (zeros8 32) 29) (.cells (zeros8 32) 29)).drew
  refine wp_region_rel2 9 Low (by kernel_rfl) (by kernel_rfl) Low.refl Low.trans [.is (.int .i64 n), .is (.int .i64 k), .is (.slice (some ⟨b, o, none⟩) np c), .is (.int .i64 (u + 1 : Nat)), .is (.int .i64 u), .is (.pointer (some ⟨b, o + u * 32, none⟩)), pSum x, pBox (w.heap.size + 1 + 1) (zeros8 32) 29, .is (.int .i64 k)] rfl ?_
  refine RelHead2.cons ?_ ?_
  · intro wr hR h
    unfold relOp
    go_wp2
    exact ⟨Low.refl _, rfl⟩
  intro v44
  refine RelHead2.cons ?_ ?_
  · intro wr hR h
    have ev44 : v44 = (.int .i64 n : Value) := allOf_iff.1 h 0 (by decide)
    subst ev44
    unfold relOp
    go_wp2_with (go_at_call 45; refine (Hhalf _).mono ?_; rintro e w2 ⟨rfl, rfl⟩)
    exact ⟨Low.refl _, rfl⟩
  intro v45
  refine RelHead2.cons ?_ ?_
  · intro wr hR h
    have hc := (E'.out.low (bthen HLk.out hR)).pathAt
    unfold relOp
    go_wp2
    exact ⟨Low.refl _, rfl⟩
  intro v46
  refine RelHead2.cons ?_ ?_
  · intro wr hR h
    unfold relOp
    go_wp2
    exact ⟨Low.refl _, rfl⟩
  intro v47
  refine RelHead2.cons ?_ ?_
  · intro wr hR h
    have ev47 : v47 = (.int .i64 (u + 1 : Nat) : Value) := allOf_iff.1 h 3 (by decide)
    subst ev47
    unfold relOp
    go_wp2
    exact ⟨Low.refl _, rfl⟩
  intro v48
  refine RelHead2.cons ?_ ?_
  · intro wr hR h
    have ev46 : v46 = (.slice (some ⟨b, o, none⟩) np c : Value) := allOf_iff.1 h 2 (by decide)
    subst ev46
    have ev48 : v48 = (.int .i64 u : Value) := allOf_iff.1 h 4 (by decide)
    subst ev48
    unfold relOp
    go_wp2
    exact ⟨Low.refl _, rfl⟩
  intro v49
  refine RelHead2.cons ?_ ?_
  · intro wr hR h
    have ev49 : v49 = (.pointer (some ⟨b, o + u * 32, none⟩) : Value) := allOf_iff.1 h 5 (by decide)
    subst ev49
    unfold relOp
    refine wpList_load_mid_sum rfl 29 _ rfl b (o + u * 32) (by kernel_rfl) x 32 _ (range_low HX.out (bthen HLk.out hR)) Tryd.underlying29 (by kernel_rfl) HXL.out ?_
    go_wp2
    exact ⟨Low.refl _, rfl⟩
  intro v50
  refine RelHead2.cons ?_ ?_
  · intro wr hR h
    unfold relOp
    go_wp2
    exact ⟨low1 _ _, _, rfl, by have := hR.size; simp at this; exact this, blk1 _ _⟩
  intro v15
  refine RelHead2.cons ?_ ?_
  · intro wr hR h
    have ev45 : v45 = (.int .i64 k : Value) := allOf_iff.1 h 1 (by decide)
    subst ev45
    unfold relOp
    go_wp2
    exact ⟨Low.refl _, rfl⟩
  intro v14
  refine RelHead2.nil fun w1 hR h => ?_
  have e50 : v50 = sumV x := allOf_iff.1 h 6 (by decide)
  have e14 : v14 = (.int .i64 k : Value) := allOf_iff.1 h 8 (by decide)
  have e15 : ∃ b, v15 = .pointer (some ⟨b, 0, none⟩) ∧ w.heap.size + 1 + 1 ≤ b ∧ w1.heap[b]? = some (.cells (zeros8 32) 29 (0, 0)) := allOf_iff.1 h 7 (by decide)
  subst e50 e14
  obtain ⟨b15, rfl, hb15, hbx⟩ := e15
  have hL : Low w w1 := bthen HLk.out hR
  have hz1 := bblk hR (show ((w.alloc _).alloc _).drew.heap[w.heap.size]? = _ from HBk.out.1)
  have hz2 := bblk hR (show ((w.alloc _).alloc _).drew.heap[w.heap.size + 1]? = _ from HBk.out.2)
  clear h
  refine wpList_store_row' rfl 29 _ _ rfl b15 (x.map V8).toArray (by kernel_rfl) (by kernel_rfl) _ _ hbx (size_sum x HXL.out) (by simp [HXL.out, zeros8]) (oneCells x) ?_
  intro w2 hx2 hg2 hs2
  have hL2 : Below w.heap.size w w2 := hL.grown hg2 hL.size (fun k' hk' => by obtain rfl := Option.some.inj hk'; omega)
  have hy1 : w2.heap[w.heap.size]? = some (.cells (zeros8 32) 29 (0, 0)) := (hg2.block _ (in_heap hz1) (fun e => by have := Option.some.inj e; omega)).trans hz1
  have hy2 : w2.heap[w.heap.size + 1]? = some (.cells (zeros8 32) 29 (0, 0)) := (hg2.block _ (in_heap hz2) (fun e => by have := Option.some.inj e; omega)).trans hz2
  have E2 := E'.out.low hL2
  have HE2 := Lib.hid E2
  have HL2 := Lib.hid hL2
  have HY1 := Lib.hid hy1
  have HY2 := Lib.hid hy2
  have HX2 := Lib.hid hx2
  have hc := E2.fn
  unfold extFn at hc
  have H15 := Lib.hid hb15
  clear hR hL hz1 hz2 hbx hg2 hs2 hL2 hy1 hy2 hx2 E2 Hhalf HLk HBk hb15
  have hcall := Lib.hid (Ih.out w2 HE2.out)
  clear Ih
  go_wp2_with (first | (go_at_call 53; refine hcall.out.mono ?_; rintro e w3 ⟨r, s, bb, rfl, hrl, hsl, hmd, hB⟩; have HRL := Lib.hid hrl; have HSL := Lib.hid hsl; have HMD := Lib.hid hmd; have HB3 := Lib.hid hB; clear hrl hsl hmd hB) | (refine wpList_store_row' rfl 29 _ _ rfl (w3.heap.size + 1) (s.map V8).toArray rfl rfl _ _ (at_4 H4.out G4.out) (size_sum s HSL.out) (by simp [HSL.out]) (oneCells s) ?_; intro w5 h5 g5 s5; have H5 := Lib.hid h5; have G5 := Lib.hid g5; clear h5 g5 s5) | (refine wpList_store_row' rfl 29 _ _ rfl w3.heap.size (r.map V8).toArray rfl rfl _ _ (blk2 _ _ _).1 (size_sum r HRL.out) (by simp [HRL.out]) (oneCells r) ?_; intro w4 h4 g4 s4; have H4 := Lib.hid h4; have G4 := Lib.hid g4; clear h4 g4 s4))
  have i3 := HB3.out.size
  have i2 := HL2.out.size
  have q1 := in_heap HY2.out
  have q2 := in_heap HX2.out
  have i4 := G4.out.size
  rw [size_alloc, size_alloc] at i4
  have hl3 : Below w.heap.size w w3 := bthen HL2.out HB3.out
  have hl5 : Below w.heap.size w w5 := (((hl3.alloc hl3.size _).alloc (by rw [size_alloc]; omega) _).grown G4.out (by rw [size_alloc, size_alloc]; omega) (fun k hk => by obtain rfl := Option.some.inj hk; omega)).grown G5.out (by omega) (fun k hk => by obtain rfl := Option.some.inj hk; omega)
  have k5 : ∀ b' o', b' < w3.heap.size → w3.heap[b']? = some o' → w5.heap[b']? = some o' := fun b' o' hlt hx => (G5.out.block _ (by omega) (fun e => by have := Option.some.inj e; omega)).trans ((G4.out.block _ (by rw [size_alloc, size_alloc]; omega) (fun e => by have := Option.some.inj e; omega)).trans (at_old _ (at_old _ hx)))
  have h16 : w5.heap[w3.heap.size]? = some (.cells (r.map V8).toArray 29 (0, 0)) := (G5.out.block _ (by omega) (fun e => by have := Option.some.inj e; omega)).trans H4.out
  have HZ1 := Lib.hid (k5 _ _ (by omega) (bblk HB3.out HY1.out))
  have HZ2 := Lib.hid (k5 _ _ (by omega) (bblk HB3.out HY2.out))
  have HZ15 := Lib.hid (k5 _ _ (by omega) (bblk HB3.out HX2.out))
  have HZ16 := Lib.hid h16
  have HZ17 := Lib.hid H5.out
  have HL5 := Lib.hid hl5
  have hb15 := H15.out
  have n1 : b15 ≠ w.heap.size := by omega
  have n2 : b15 ≠ w.heap.size + 1 := by omega
  have n3 : w3.heap.size ≠ w.heap.size := by omega
  have n4 : w3.heap.size ≠ w.heap.size + 1 := by omega
  have n5 : w3.heap.size + 1 ≠ w.heap.size := by omega
  have n6 : w3.heap.size + 1 ≠ w.heap.size + 1 := by omega
  have hne : w.heap.size ≠ w.heap.size + 1 := by omega
  obtain ⟨g16, hg16⟩ : ∃ g, g = w3.heap.size := ⟨_, rfl⟩
  rw [← hg16] at n3 n4 n5 n6 HZ16 HZ17 ⊢
  obtain ⟨nd, hnd, hndl⟩ : ∃ nd, nd = Tree.node s x ∧ nd.length = 32 := ⟨_, rfl, rfl⟩
  have HND := Lib.hid hnd
  have HNDL := Lib.hid hndl
  have hnode := Lib.hid fun W hT => node_any s x W hT HSL.out HXL.out
  clear hl3 hl5 k5 h16 i2 i3 i4 q1 q2 hnd hndl H4 H5 G4 G5 HY1 HY2 HX2 hb15 H15 hg16 hc hcall
  refine wp_region_rel2 7 (WrS w.heap.size (w.heap.size + 1) r nd) (by kernel_rfl) (by kernel_rfl) Wr.refl Wr.trans [.is (sumV r), .is (sumV s), .is (sumV x), .is (sumV nd), .is (.bool bb), pFin1, pFin2] rfl ?_
  refine RelHead2.cons ?_ ?_
  · intro wr hR h
    unfold relOp
    refine wpList_load_sum rfl 29 _ rfl g16 (by kernel_rfl) _ r 32 _ _ (hR.at_ (show w5.drew.heap[_]? = _ from HZ16.out) n3 n4) Tryd.underlying29 (by kernel_rfl) HRL.out ?_
    go_wp2
    exact ⟨Wr.refl _, rfl⟩
  intro v65
  refine RelHead2.cons ?_ ?_
  · intro wr hR h
    unfold relOp
    refine wpList_load_sum rfl 29 _ rfl (g16 + 1) (by kernel_rfl) _ s 32 _ _ (hR.at_ (show w5.drew.heap[_]? = _ from HZ17.out) n5 n6) Tryd.underlying29 (by kernel_rfl) HSL.out ?_
    go_wp2
    exact ⟨Wr.refl _, rfl⟩
  intro v66
  refine RelHead2.cons ?_ ?_
  · intro wr hR h
    unfold relOp
    refine wpList_load_sum rfl 29 _ rfl b15 (by kernel_rfl) _ x 32 _ _ (hR.at_ (show w5.drew.heap[_]? = _ from HZ15.out) n1 n2) Tryd.underlying29 (by kernel_rfl) HXL.out ?_
    go_wp2
    exact ⟨Wr.refl _, rfl⟩
  intro v67
  refine RelHead2.cons ?_ ?_
  · intro wr hR h
    have ev66 : v66 = (sumV s : Value) := allOf_iff.1 h 1 (by decide)
    subst ev66
    have ev67 : v67 = (sumV x : Value) := allOf_iff.1 h 2 (by decide)
    subst ev67
    have hTr := E'.out.tabs.below (Wr.below HL5.out.drew hR (Nat.le_refl _) (by omega))
    unfold relOp
    go_wp2_with (go_at_call 19; refine (hnode.out wr hTr).mono ?_; rintro e w6 ⟨rfl, hB6⟩)
    exact ⟨Wr.of_low hB6, congrArg sumV HND.out.symm⟩
  intro v68
  refine RelHead2.cons ?_ ?_
  · intro wr hR h
    unfold relOp
    go_wp2
    exact ⟨Wr.refl _, rfl⟩
  intro v69
  refine RelHead2.cons ?_ ?_
  · intro wr hR h
    have ev65 : v65 = (sumV r : Value) := allOf_iff.1 h 0 (by decide)
    subst ev65
    obtain ⟨cs, hcs, hs⟩ := hR.k1 ⟨_, HZ1.out, rfl⟩
    unfold relOp
    refine wpList_store_row' rfl 29 _ _ rfl w.heap.size (r.map V8).toArray (by kernel_rfl) (by kernel_rfl) _ _ hcs (size_sum r HRL.out) (by simp [hs, HRL.out]) (oneCells r) ?_
    intro w' h1 g1 s1
    go_wp2
    exact ⟨Wr.one hne g1 h1 (by simp [HRL.out]), undef, h1⟩
  intro v70
  refine RelHead2.cons ?_ ?_
  · intro wr hR h
    have ev68 : v68 = (sumV nd : Value) := allOf_iff.1 h 3 (by decide)
    subst ev68
    obtain ⟨cs, hcs, hs⟩ := hR.k2 ⟨_, HZ2.out, rfl⟩
    unfold relOp
    refine wpList_store_row' rfl 29 _ _ rfl (w.heap.size + 1) (nd.map V8).toArray (by kernel_rfl) (by kernel_rfl) _ _ hcs (size_sum nd HNDL.out) (by simp [hs, HNDL.out]) (oneCells nd) ?_
    intro w' h1 g1 s1
    go_wp2
    exact ⟨Wr.two hne g1 h1 (by simp [HNDL.out]), undef, h1⟩
  intro v71
  refine RelHead2.nil fun wr hR h => ?_
  have e69 : v69 = (.bool bb : Value) := allOf_iff.1 h 4 (by decide)
  have e70 : wr.heap[w.heap.size]? = some (.cells (r.map V8).toArray 29 (0, 0)) := allOf_iff.1 h 5 (by decide)
  have e71 : wr.heap[w.heap.size + 1]? = some (.cells (nd.map V8).toArray 29 (0, 0)) := allOf_iff.1 h 6 (by decide)
  subst e69
  have hBl : Below w.heap.size w wr := Wr.below HL5.out.drew hR (Nat.le_refl _) (by omega)
  clear h hR
  go_wp2
  refine bodyPost_ret (results_sum2_tmp rfl _ _ w.heap.size (w.heap.size + 1) _ _ r nd 32 (0, 0) (0, 0) _ rfl rfl e70 e71 Tryd.underlying29 (by kernel_rfl) HRL.out HNDL.out) rfl ⟨r, nd, bb, rfl, HRL.out, HNDL.out, ?_, hBl⟩
  rw [Hb.out, HMD.out, HND.out]
  cases bb <;> rfl
end Go.Proofs.YtpdhgijeanbmcaaDoor

/- Extc -/
namespace Go.Proofs.YtpdhgijeanbmcaaDoor
open Go.RowKit Go.Great

theorem ext_env {w w0 : World} {root old : List UInt8} {a : Option Addr} {np c : Nat} {p : List (List UInt8)} {t1 t2 t3 : TypeId} {t : TypeId} {o : Obj} (hT : Tabs w) (S : Sums w a np c p) (hl : old.length = 32)
    (hf : w0.heap[w.heap.size + 1 + 1 + 1]? = some (.cells #[extFn w.heap.size (w.heap.size + 1 + 1) (w.heap.size + 1 + 1 + 1)] t (0, 0)))
    (hg : ((((w.alloc (.cells (sumRow old) t1)).alloc (.cells (sumRow root) t2)).alloc (.cells #[.slice a np c] t3)).alloc o).grownBy w0 (some (w.heap.size + 1 + 1 + 1))) :
    ExtEnv w0 w.heap.size (w.heap.size + 1 + 1) (w.heap.size + 1 + 1 + 1) old a np c p ∧ Below w.heap.size w w0 ∧ w0.heap[w.heap.size]? = some (.cells (old.map V8).toArray t1 (0, 0)) ∧ w0.heap[w.heap.size + 1]? = some (.cells (root.map V8).toArray t2 (0, 0)) := by
  have hL : Below w.heap.size w w0 := (low4 _ _ _ _ _).grown hg (by simp; omega) (fun k hk => by obtain rfl := Option.some.inj hk; omega)
  have hb := blk4 w (.cells (sumRow old) t1) (.cells (sumRow root) t2) (.cells #[.slice a np c] t3) o
  have hk : ∀ b x, b < w.heap.size + 1 + 1 + 1 → ((((w.alloc (.cells (sumRow old) t1)).alloc (.cells (sumRow root) t2)).alloc (.cells #[.slice a np c] t3)).alloc o).heap[b]? = some x → w0.heap[b]? = some x :=
    fun b x hlt hx => (hg.block b (in_heap hx) (fun e => absurd (Option.some.inj e) (Nat.ne_of_lt hlt))).trans hx
  exact ⟨⟨hT.below hL, ⟨t1, (0, 0), hk _ _ (by omega) hb.1⟩, cell_block (hk _ _ (by omega) hb.2.2.1) rfl, cell_block hf rfl, hl, S.below hL⟩, hL, hk _ _ (by omega) hb.1, hk _ _ (by omega) hb.2.1⟩

theorem keep54 {w4 w5 : World} {b : Nat} {x : Obj} (g5 : w4.grownBy w5 (some (b + 1))) (h : w4.heap[b]? = some x) : w5.heap[b]? = some x :=
  (g5.block _ (in_heap h) (fun e => by have := Option.some.inj e; omega)).trans h
theorem keep5 {w3 w4 w5 : World} {o o' : Obj} (g4 : ((w3.alloc o).alloc o').grownBy w4 (some w3.heap.size)) (g5 : w4.grownBy w5 (some (w3.heap.size + 1))) : ∀ b' x, b' < w3.heap.size → w3.heap[b']? = some x → w5.heap[b']? = some x := fun b' x hlt hx => by
  have s4 := g4.size
  rw [size_alloc, size_alloc] at s4
  exact (g5.block _ (by omega) (fun e => by have := Option.some.inj e; omega)).trans ((g4.block _ (by rw [size_alloc, size_alloc]; omega) (fun e => by have := Option.some.inj e; omega)).trans (at_old _ (at_old _ hx)))
theorem low5' {w w0 w3 w4 w5 : World} {o o' : Obj} (h0 : Below w.heap.size w w0) (h3 : Below w0.heap.size w0 w3) (g4 : ((w3.alloc o).alloc o').grownBy w4 (some w3.heap.size)) (g5 : w4.grownBy w5 (some (w3.heap.size + 1))) : Below w.heap.size w w5 := by
  have s4 := g4.size
  rw [size_alloc, size_alloc] at s4
  have hl3 := bthen h0 h3
  have i := hl3.size
  exact (((hl3.alloc i _).alloc (by rw [size_alloc]; omega) _).grown g4 (by rw [size_alloc, size_alloc]; omega) (fun k hk => by obtain rfl := Option.some.inj hk; omega)).grown g5 (by omega) (fun k hk => by obtain rfl := Option.some.inj hk; omega)

set_option maxRecDepth 100000 in
set_option maxHeartbeats 2000000 in
theorem extends_of (root old : List UInt8) (m n : Nat) (a : Option Addr) (np c : Nat) (p : List (List UInt8)) (w : World) (hm : 0 < m) (hmn : m ≤ n) (hr : root.length = 32) (ho : old.length = 32) (hT : Tabs w) (S : Sums w a np c p)
    (hin : ∀ ob pb g w', ExtEnv w' ob pb g old a np c p → Calls Tryd.prog 53 #[.int .i64 m, .int .i64 n, .int .i64 np, .bool true, .pointer (some ⟨ob, 0, none⟩), .pointer (some ⟨pb, 0, none⟩), .pointer (some ⟨g, 0, none⟩)] w' (RetBoth (Tree.both old m n true p) w')) :
    Calls Tryd.prog 32 #[.int .i64 m, sumV old, .int .i64 n, sumV root, .slice a np c] w fun e w' => e = .returned (.bool (Tree.extends_ m old n root p)) ∧ Below w.heap.size w w' := by
  have Hin := Lib.hid hin
  have S' := Lib.hid S
  have HOO := Lib.hid ho
  have HRR := Lib.hid hr
  have hi1 : ¬ (m : Int) < 1 := by omega
  have hi2 : ¬ (n : Int) < (m : Int) := by omega
  clear S ho hr hin
  go_enter Tryd.func32, Tryd.ntmps32
  have HB4 := Lib.hid (blk4 w (.cells (sumRow old) 29) (.cells (sumRow root) 29) (.cells #[.slice a np c] 31) (.cells #[.nilFunc] 72)).2.2.2
  go_upto_region 5 with (refine wpList_store_one' rfl 72 _ _ rfl rfl (w.heap.size + 1 + 1 + 1) (.func (.func 53) #[] #[.pointer (some ⟨w.heap.size, 0, none⟩), .pointer (some ⟨w.heap.size + 1 + 1, 0, none⟩), .pointer (some ⟨w.heap.size + 1 + 1 + 1, 0, none⟩)]) rfl rfl rfl _ _ HB4.out (by kernel_rfl) ?_; intro w0 hf hgr; have hf' := Lib.hid hf; have hgr' := Lib.hid hgr; clear hf hgr)
  obtain ⟨E, hB, hold, hroot⟩ := ext_env (p := p) hT S'.out HOO.out hf'.out hgr'.out
  have hc := E.fn
  have hcp := E.pathAt
  unfold extFn at hc
  have HE := Lib.hid E
  have HB0 := Lib.hid hB
  have HOld := Lib.hid hold
  have HRoot := Lib.hid hroot
  have Hel1 := Lib.hid (show ∀ (r : List UInt8), r.length = 32 → ∀ W, (binOp .eql 29 (sumV r) (sumV old)).run Tryd.prog W = .ok (.bool (r == old)) W from fun r h W => eql_sumV r old W h HOO.out)
  have Hel2 := Lib.hid (show ∀ (r : List UInt8), r.length = 32 → ∀ W, (binOp .eql 29 (sumV r) (sumV root)).run Tryd.prog W = .ok (.bool (r == root)) W from fun r h W => eql_sumV r root W h HRR.out)
  clear hf' hgr' E hB hold hroot
  go_wp2_with (first | (go_at_call 53; refine (Hin.out _ _ _ _ HE.out).mono ?_; rintro e w3 ⟨r, s, bb, rfl, hrl, hsl, hmd, hB⟩; have HRL := Lib.hid hrl; have HSL := Lib.hid hsl; have HMD := Lib.hid hmd; have HB3 := Lib.hid hB; clear hrl hsl hmd hB; cases bb <;> cases hq : (r == old)) | (refine wpList_store_row' rfl 29 _ _ rfl (w3.heap.size + 1) (s.map V8).toArray rfl rfl _ _ (at_4 H4.out G4.out) (size_sum s HSL.out) (by simp [HSL.out]) (oneCells s) ?_; intro w5 h5 g5 s5; have h54 := keep54 g5 H4.out; have hk5 := keep5 G4.out g5; have H5 := Lib.hid h5; have G5 := Lib.hid g5; have H54 := Lib.hid h54; have hel1 := Hel1.out r HRL.out; have hel2 := Hel2.out s HSL.out; have HK5 := Lib.hid hk5; clear h5 g5 s5 h54 hk5) | (refine wpList_store_row' rfl 29 _ _ rfl w3.heap.size (r.map V8).toArray rfl rfl _ _ (blk2 _ _ _).1 (size_sum r HRL.out) (by simp [HRL.out]) (oneCells r) ?_; intro w4 h4 g4 s4; have H4 := Lib.hid h4; have G4 := Lib.hid g4; clear h4 g4 s4) | (refine wpList_guarded rfl ?_; refine wpList_load_sum rfl 29 _ rfl w3.heap.size rfl _ r 32 _ _ H54.out Tryd.underlying29 (by kernel_rfl) HRL.out ?_) | (refine wpList_guarded rfl ?_; refine wpList_load_sum rfl 29 _ rfl w.heap.size rfl _ old 32 _ _ (HK5.out _ _ (in_heap (bblk HB3.out HOld.out)) (bblk HB3.out HOld.out)) Tryd.underlying29 (by kernel_rfl) HOO.out ?_) | (refine wpList_guarded rfl ?_; refine wpList_load_sum rfl 29 _ rfl (w3.heap.size + 1) rfl _ s 32 _ _ H5.out Tryd.underlying29 (by kernel_rfl) HSL.out ?_) | (refine wpList_guarded rfl ?_; refine wpList_load_sum rfl 29 _ rfl (w.heap.size + 1) rfl _ root 32 _ _ (HK5.out _ _ (in_heap (bblk HB3.out HRoot.out)) (bblk HB3.out HRoot.out)) Tryd.underlying29 (by kernel_rfl) HRR.out ?_))
  · go_ret
    have : Tree.extends_ m old n root p = false := by unfold Tree.extends_; rw [HMD.out]; rfl
    exact ⟨by rw [this]; try rfl, low5' HB0.out HB3.out G4.out G5.out⟩
  · go_ret
    have : Tree.extends_ m old n root p = false := by unfold Tree.extends_; rw [HMD.out]; rfl
    exact ⟨by rw [this]; try rfl, low5' HB0.out HB3.out G4.out G5.out⟩
  · go_ret
    have : Tree.extends_ m old n root p = false := by unfold Tree.extends_; rw [HMD.out]; simp [hq]
    exact ⟨by rw [this]; try rfl, low5' HB0.out HB3.out G4.out G5.out⟩
  · go_ret
    have : Tree.extends_ m old n root p = (s == root) := by unfold Tree.extends_; rw [HMD.out]; simp [hq]
    exact ⟨by rw [this]; try rfl, low5' HB0.out HB3.out G4.out G5.out⟩

/-- A proof of one sum that two leaves of three have become three. -/
theorem extends_three (root old x : List UInt8) (a : Option Addr) (c : Nat) (w : World) (hr : root.length = 32) (ho : old.length = 32) (hT : Tabs w) (S : Sums w a 1 c [x]) (hs3 : split 3 = 2) :
    Calls Tryd.prog 32 #[.int .i64 2, sumV old, .int .i64 3, sumV root, .slice a 1 c] w fun e w' => e = .returned (.bool (Tree.extends_ 2 old 3 root [x])) ∧ Below w.heap.size w w' := by
  refine extends_of root old 2 3 a 1 c [x] w (by omega) (by omega) hr ho hT S fun ob pb g w' E => ?_
  have h := extin_left 2 3 0 ob pb g true old a 1 c [x] w' (by omega) (by omega) (by omega) (by omega) (by omega) (by rw [hs3]; omega) E fun w2 E2 => by
    rw [hs3]
    exact extin_whole 2 0 ob pb g old a 1 c [x] w2 E2 (by omega)
  simpa using h
end Go.Proofs.YtpdhgijeanbmcaaDoor

/- Rev -/
namespace Go.Proofs.YtpdhgijeanbmcaaDoor
open Go.RowKit Go.Great

/-- The first k and the last k have changed places. -/
def RevAt (M N : List (List UInt8)) (k : Nat) : Prop := N.length = M.length ∧ ∀ i, i < M.length → N[i]? = if i < k ∨ M.length ≤ i + k then M[M.length - 1 - i]? else M[i]?
theorem RevAt.start (M : List (List UInt8)) : RevAt M M 0 := ⟨rfl, fun i hi => by rw [if_neg (by omega)]⟩
theorem RevAt.next {M N : List (List UInt8)} {k m : Nat} (h : RevAt M N k) (hm : k + m + 1 = M.length) (hkm : k < m) {x y : List UInt8} (hx : N[m]? = some x) (hy : N[k]? = some y) : RevAt M ((N.set k x).set m y) (k + 1) := by
  obtain ⟨h1, h2⟩ := h
  refine ⟨by simp [h1], fun i hi => ?_⟩
  by_cases him : i = m
  · subst him
    rw [List.getElem?_set_self (by simp; omega), ← hy, h2 k (by omega), if_neg (by omega), if_pos (by omega), show M.length - 1 - i = k by omega]
  · rw [List.getElem?_set_ne (by omega)]
    by_cases hik : i = k
    · subst hik
      rw [List.getElem?_set_self (by omega), ← hx, h2 m (by omega), if_neg (by omega), if_pos (by omega), show M.length - 1 - i = m by omega]
    · rw [List.getElem?_set_ne (by omega), h2 i hi]
      by_cases hc : i < k ∨ M.length ≤ i + k
      · rw [if_pos hc, if_pos (by omega)]
      · rw [if_neg hc, if_neg (by omega)]
theorem RevAt.done {M N : List (List UInt8)} {k : Nat} (h : RevAt M N k) (hk : M.length ≤ k + k + 1) : N = M.reverse := by
  obtain ⟨h1, h2⟩ := h
  apply List.ext_getElem?
  intro i
  by_cases hi : i < M.length
  · rw [h2 i hi, List.getElem?_reverse hi]
    by_cases hc : i < k ∨ M.length ≤ i + k
    · rw [if_pos hc]
    · rw [if_neg hc, show M.length - 1 - i = i by omega]
  · rw [List.getElem?_eq_none (by omega), List.getElem?_eq_none (by simp; omega)]
theorem RevAt.each {M N : List (List UInt8)} {k : Nat} (h : RevAt M N k) (hM : ∀ x ∈ M, x.length = 32) : ∀ x ∈ N, x.length = 32 := by
  obtain ⟨h1, h2⟩ := h
  intro x hx
  obtain ⟨i, hi, rfl⟩ := List.mem_iff_getElem.1 hx
  have h3 := h2 i (by omega)
  rw [List.getElem?_eq_getElem hi] at h3
  split at h3 <;> exact hM _ (List.mem_of_getElem? h3.symm)

def revI (w0 : World) (base g C n : Nat) (N : List (List UInt8)) (k : Nat) (x : List UInt8) : List Bool → World → Prop
  | [true], w => Acc 29 32 w0 w base (some ⟨g, 0, none⟩) C n (sumCells (N.set k x))
  | _, w => Acc 29 32 w0 w base (some ⟨g, 0, none⟩) C n (sumCells N)

set_option maxRecDepth 100000 in
set_option maxHeartbeats 4000000 in
theorem rev_any (M : List (List UInt8)) (w0 w : World) (base : Nat) (B : Option Addr) (n C : Nat) (hnl : n = M.length) (hn : n < 4611686018427387904) (hM : ∀ x ∈ M, x.length = 32) (H : Acc 29 32 w0 w base B C n (sumCells M)) :
    Calls Tryd.prog 47 #[.slice B n C] w fun e w' => e = .returned (.tuple #[]) ∧ Acc 29 32 w0 w' base B C n (sumCells M.reverse) := by
  have HH := Lib.hid H
  have Hnl := Lib.hid hnl
  have HM := Lib.hid hM
  clear H hnl hM
  go_enter Tryd.func47, Tryd.ntmps47
  go_wp2
  go_loopw [2, 3] (fun i j wr => ∃ (k : Nat) (jz : Int) (N : List (List UInt8)), i = .int .i64 k ∧ j = .int .i64 jz ∧ Hid (jz = (n : Int) - 1 - k ∧ k ≤ n ∧ RevAt M N k) ∧ Acc 29 32 w0 wr base B C n (sumCells N)) (fun i _ _ => n - (intOf i).toNat)
  case atStart => exact ⟨0, (n : Int) - 1, M, rfl, rfl, Lib.hid ⟨by omega, by omega, RevAt.start M⟩, HH.out⟩
  case round =>
    clear HH
    obtain ⟨k, jz, N, rfl, rfl, hrv, hA⟩ := hrel
    have HA := Lib.hid hA
    clear hA
    by_cases hlt : (k : Int) < jz
    · obtain ⟨m, hm⟩ : ∃ m : Nat, jz = (m : Int) := ⟨jz.toNat, by omega⟩
      subst hm
      have hkm : k < m := by omega
      have hmn : k + m + 1 = n := by have := hrv.out.1; omega
      have hNl : N.length = n := by rw [Hnl.out]; exact hrv.out.2.2.1
      have hEach := hrv.out.2.2.each HM.out
      obtain ⟨x, hx, hxm⟩ : ∃ x, N[m]? = some x ∧ x ∈ N := ⟨N[m]'(by omega), List.getElem?_eq_getElem (by omega), by simp⟩
      obtain ⟨y, hy, hym⟩ : ∃ y, N[k]? = some y ∧ y ∈ N := ⟨N[k]'(by omega), List.getElem?_eq_getElem (by omega), by simp⟩
      have Hx := Lib.hid hx
      have Hy := Lib.hid hy
      have HX := Lib.hid (hEach x hxm)
      have HY := Lib.hid (hEach y hym)
      have HE := Lib.hid hEach
      have HNl := Lib.hid hNl
      have Hmn := Lib.hid hmn
      have hBg : ∃ g, B = some ⟨g, 0, none⟩ := by
        rcases HA.out.form with ⟨_, h0, _⟩ | ⟨g, _, hg, _⟩
        · omega
        · exact ⟨g, hg⟩
      obtain ⟨g, rfl⟩ := hBg
      have hki0 : (0 : Int) ≤ (k : Int) := by omega
      have hmn1 : m < n := by omega
      have hkn1 : k < n := by omega
      clear hx hy hxm hym hEach hNl hmn
      go_wp2
      refine wp_region_inv 14 28 (fun _ _ => True) [13] (revI w0 base g C n N k x) (by kernel_rfl) (by kernel_rfl) (by kernel_rfl) (by kernel_rfl) (by kernel_rfl) [.is (.slice (some ⟨g, 0, none⟩) n C : Value), .is (.int .i64 k : Value), .is (.slice (some ⟨g, 0, none⟩) n C : Value), .is (.int .i64 m : Value), .is (.slice (some ⟨g, 0, none⟩) n C : Value), .is (.int .i64 m : Value), .is (.pointer (some ⟨g, 0 + m * 32, none⟩) : Value), .is (sumV x), .is (.slice (some ⟨g, 0, none⟩) n C : Value), .is (.int .i64 k : Value), .is (.pointer (some ⟨g, 0 + k * 32, none⟩) : Value), .is (sumV y), .is (.pointer (some ⟨g, 0 + k * 32, none⟩) : Value), .is undef] rfl (HA.out.drew) (fun vs => ?_) (fun vs wr hI h => ?_)
      · refine RegHeadI.cons (fun S wr hd hSk hSd hI h => ?_) ?_
        · exact relAtI.pure ⟨trivial, keepI (by decide) hI⟩ (by kernel_rfl) (by kernel_rfl)
        refine RegHeadI.cons (fun S wr hd hSk hSd hI h => ?_) ?_
        · exact relAtI.pure ⟨trivial, keepI (by decide) hI⟩ (by kernel_rfl) (by kernel_rfl)
        refine RegHeadI.cons (fun S wr hd hSk hSd hI h => ?_) ?_
        · exact relAtI.pure ⟨trivial, keepI (by decide) hI⟩ (by kernel_rfl) (by kernel_rfl)
        refine RegHeadI.cons (fun S wr hd hSk hSd hI h => ?_) ?_
        · exact relAtI.pure ⟨trivial, keepI (by decide) hI⟩ (by kernel_rfl) (by kernel_rfl)
        refine RegHeadI.cons (fun S wr hd hSk hSd hI h => ?_) ?_
        · exact relAtI.pure ⟨trivial, keepI (by decide) hI⟩ (by kernel_rfl) (by kernel_rfl)
        refine RegHeadI.cons (fun S wr hd hSk hSd hI h => ?_) ?_
        · exact relAtI.pure ⟨trivial, keepI (by decide) hI⟩ (by kernel_rfl) (by kernel_rfl)
        refine RegHeadI.cons (fun S wr hd hSk hSd hI h => ?_) ?_
        · exact relAtI.pureS ⟨trivial, keepI (by decide) hI⟩ (by kernel_rfl) (by kernel_rfl) (run_sums_index wr g 0 n C m hmn1)
        refine RegHeadI.cons (fun S wr hd hSk hSd hI h => ?_) ?_
        · have h13 : S 13 = false := hd.not 14 hSk (by decide) (by decide)
          have hI2 : Acc 29 32 w0 wr base (some ⟨g, 0, none⟩) C n (sumCells N) := by have hI := hI; simp only [List.map, h13] at hI; exact hI
          exact relAtI.pureS ⟨trivial, keepI (by decide) hI⟩ (by kernel_rfl) (by kernel_rfl) (run_load_at_sum wr g (0 + m * 32) x (acc_range hI2 HE.out HNl.out.symm m x Hx.out) HX.out)
        refine RegHeadI.cons (fun S wr hd hSk hSd hI h => ?_) ?_
        · exact relAtI.pure ⟨trivial, keepI (by decide) hI⟩ (by kernel_rfl) (by kernel_rfl)
        refine RegHeadI.cons (fun S wr hd hSk hSd hI h => ?_) ?_
        · exact relAtI.pure ⟨trivial, keepI (by decide) hI⟩ (by kernel_rfl) (by kernel_rfl)
        refine RegHeadI.cons (fun S wr hd hSk hSd hI h => ?_) ?_
        · exact relAtI.pureS ⟨trivial, keepI (by decide) hI⟩ (by kernel_rfl) (by kernel_rfl) (run_sums_index wr g 0 n C k hkn1)
        refine RegHeadI.cons (fun S wr hd hSk hSd hI h => ?_) ?_
        · have h13 : S 13 = false := hd.not 14 hSk (by decide) (by decide)
          have hI2 : Acc 29 32 w0 wr base (some ⟨g, 0, none⟩) C n (sumCells N) := by have hI := hI; simp only [List.map, h13] at hI; exact hI
          exact relAtI.pureS ⟨trivial, keepI (by decide) hI⟩ (by kernel_rfl) (by kernel_rfl) (run_load_at_sum wr g (0 + k * 32) y (acc_range hI2 HE.out HNl.out.symm k y Hy.out) HY.out)
        refine RegHeadI.cons (fun S wr hd hSk hSd hI h => ?_) ?_
        · exact relAtI.pureS ⟨trivial, keepI (by decide) hI⟩ (by kernel_rfl) (by kernel_rfl) (run_sums_index wr g 0 n C k hkn1)
        refine RegHeadI.cons (fun S wr hd hSk hSd hI h => ?_) ?_
        · have h13 : S 13 = false := hSk
          have hI2 : Acc 29 32 w0 wr base (some ⟨g, 0, none⟩) C n (sumCells N) := by have hI := hI; simp only [List.map, h13] at hI; exact hI
          obtain ⟨hs1, hs2, hs3⟩ := run_store_sum_own wr hI2 HE.out HNl.out.symm k hkn1 x HX.out
          exact relAtI.act (by kernel_rfl) (by kernel_rfl) hs1 ⟨trivial, by simp only [List.map, setB, if_true]; exact hs2⟩ rfl
        exact trivial
      · have hI2 : Acc 29 32 w0 wr base (some ⟨g, 0, none⟩) C n (sumCells (N.set k x)) := hI
        have HI2 := Lib.hid hI2
        clear h hI hI2
        refine wp_frame (new := [(.slice (some ⟨g, 0, none⟩) n C : Value), (.int .i64 k : Value), (.slice (some ⟨g, 0, none⟩) n C : Value), (.int .i64 m : Value), (.slice (some ⟨g, 0, none⟩) n C : Value), (.int .i64 m : Value), (.pointer (some ⟨g, 0 + m * 32, none⟩) : Value), (sumV x), (.slice (some ⟨g, 0, none⟩) n C : Value), (.int .i64 k : Value), (.pointer (some ⟨g, 0 + k * 32, none⟩) : Value), (sumV y), (.pointer (some ⟨g, 0 + k * 32, none⟩) : Value)]) 14 27 (by kernel_rfl) ?_
        simp only [List.take, List.drop, List.cons_append, List.nil_append]
        have hNs : ∀ z ∈ N.set k x, z.length = 32 := fun z hz => by
          rcases List.mem_or_eq_of_mem_set hz with hz | rfl
          · exact HE.out z hz
          · exact HX.out
        have HNs := Lib.hid hNs
        clear hNs
        have hmn2 : (m : Int) < (n : Int) := by omega
        have hmi0 : (0 : Int) ≤ (m : Int) := by omega
        go_wp2_with (refine wpList_store_own rfl _ _ rfl HI2.out HNs.out (by simp [HNl.out]) m hmn1 y HY.out rfl rfl ?_; intro w9 hacc9 hg9; have HA9 := Lib.hid hacc9; clear hacc9 hg9)
        go_roundw
        case rel =>
          refine ⟨k + 1, (m : Int) - 1, (N.set k x).set m y, by go_num, rfl, Lib.hid ⟨?_, by omega, ?_⟩, ?_⟩
          · have := Hmn.out; omega
          · exact hrv.out.2.2.next (by rw [← Hnl.out]; exact Hmn.out) hkm Hx.out Hy.out
          · exact HA9.out
        case measure => simp [intOf]; omega
    · go_wp2
      go_end0
      refine ⟨rfl, ?_⟩
      have hN : N = M.reverse := hrv.out.2.2.done (by have := hrv.out.1; have := Hnl.out; omega)
      rw [← hN]
      exact HA.out
end Go.Proofs.YtpdhgijeanbmcaaDoor

/- Path -/
namespace Go.Proofs.YtpdhgijeanbmcaaDoor
open Go.RowKit Go.Great

theorem RetSE.of_rev {w w' : World} {B : Option Addr} {C : Nat} {M : List (List UInt8)} (h : Acc 29 32 w w' w.heap.size B C M.length (sumCells M.reverse)) : RetSE w M.reverse 0 (.returned (.tuple #[.slice B M.length C, .int .i64 0])) w' := by
  have e : M.reverse.length = M.length := List.length_reverse
  refine ⟨B, C, by rw [e], by rw [e]; exact h⟩

def lenOf : Value → Nat
  | .slice _ n _ => n
  | _ => 0
theorem lenOf_slice (a : Option Addr) (n c : Nat) : lenOf (.slice a n c) = n := rfl
/-- Where the descent stands: a part of the leaves, a place in it, and the path so far, last sum first. -/
structure PAt (w : World) (L : List (List UInt8)) (i : Nat) (wr : World) (L' : List (List UInt8)) (a : Option Addr) (n c i' : Nat) (B : Option Addr) (C : Nat) (M : List (List UInt8)) : Prop where
  sums : Sums w a n c L'
  lt : i' < n
  acc : Acc 29 32 w wr w.heap.size B C M.length (sumCells M)
  path : Tree.path L i = Tree.path L' i' ++ M.reverse
  room : M.length + n ≤ L.length
  each : ∀ x ∈ M, x.length = 32

set_option maxRecDepth 100000 in
set_option maxHeartbeats 2000000 in
theorem path_any (L : List (List UInt8)) (a : Option Addr) (n c i : Nat) (w : World) (hi : i < n) (hlen : n < 1099511627776) (hT : Tabs w) (S : Sums w a n c L) :
    Calls Tryd.prog 24 #[.slice a n c, .int .i64 i] w (RetSE w (Tree.path L i) 0) := by
  obtain ⟨z0, hz0, hinfo⟩ := info_sum'
  have HI := Lib.hid hinfo
  have HZ0 := Lib.hid hz0
  have hs : PAt w L i w L a n c i none 0 [] := ⟨S, hi, Acc.start _ _ _ _ _ (Below.refl _ _) (Nat.le_refl _), by simp, by rw [S.len]; simp, fun _ h => by cases h⟩
  have HS := Lib.hid hs
  have hLn := S.len
  have HLn := Lib.hid hLn
  have h1 : ¬ (i : Int) < 0 := by omega
  have h2 : ¬ (n : Int) ≤ (i : Int) := by omega
  clear S hinfo hz0 hs hLn
  go_enter Tryd.func24, Tryd.ntmps24
  go_wp2
  go_step3
  go_wp2
  go_step3
  go_wp2
  simp only [decide_eq_false (show ¬ (i : Int) < 0 by omega), decide_eq_false (show ¬ n ≤ i by omega), Bool.or_false]
  go_loopw [1, 6, 7, 8] (fun iv pv lv _ wr => ∃ (L' : List (List UInt8)) (a' : Option Addr) (n' c' i' : Nat) (B : Option Addr) (C : Nat) (M : List (List UInt8)), iv = .int .i64 i' ∧ pv = .slice B M.length C ∧ lv = .slice a' n' c' ∧ PAt w L i wr L' a' n' c' i' B C M) (fun _ _ lv _ _ => lenOf lv)
  case atStart => exact ⟨L, a, n, c, i, none, 0, [], rfl, rfl, rfl, HS.out⟩
  case round =>
    clear HS
    obtain ⟨L', a', n', c', i', B, C, M, rfl, rfl, rfl, hP⟩ := hrel
    have HP := Lib.hid hP
    clear hP
    by_cases hone : n' = 1
    · have hone2 : ((n' : Int) == 1) = true := by simp; omega
      have hone3 : (n' : Int) = 1 := by omega
      have hl' := HP.out.sums.len
      have hst := Tree.path_stop (l := L') (i := i') (by omega)
      have hpa := HP.out.path
      rw [hst, List.nil_append] at hpa
      have HPA := Lib.hid hpa
      have hMl : M.length < 4611686018427387904 := by have := HP.out.room; have := HLn.out; omega
      clear hl' hst hpa
      go_wp2_with (go_at_call 47; refine (rev_any M w wr w.heap.size B M.length C rfl hMl HP.out.each HP.out.acc).mono ?_; rintro e w1 ⟨rfl, hA1⟩; have HA1 := Lib.hid hA1; clear hA1)
      rw [Exit.noGoto_ret]
      go_ret2
      rw [HPA.out]
      exact RetSE.of_rev HA1.out
    · have hn1 : 1 < n' := by have := HP.out.lt; omega
      have hone2 : ((n' : Int) == 1) = false := by simp; omega
      have hone3 : ¬ (n' : Int) = 1 := by omega
      have hn63 : n' < 1099511627776 := by have := HP.out.room; have := HLn.out; omega
      have hkp := split_pos n'
      have hkl := split_lt hn1
      have hl' := HP.out.sums.len
      have hpl := @Tree.path_left L' i' (by omega)
      have hpr := @Tree.path_right L' i' (by omega)
      rw [← hl'] at hpl hpr
      have Hhalf := half_any n' (by omega)
      have hcap := HP.out.sums.cap
      generalize split n' = k at *
      have hMl : M.length + 1 ≤ 1099511627776 := by have := HP.out.room; have := HLn.out; omega
      have z1 : M.length + 1 ≤ maxLen := by unfold maxLen; omega
      have z2 : (M.length + 1) * 32 ≤ 140737488355328 := by omega
      have hlow := HP.out.acc.low
      have Hlow := Lib.hid hlow
      by_cases hik : i' < k
      · have hik2 : (i' : Int) < (k : Int) := by omega
        have hpp := hpl hik
        have hsl := Tree.root_len (L'.drop k) fun x hx => HP.out.sums.each x (List.mem_of_mem_drop hx)
        have hrt := root_any (L'.drop k) (a'.map (·.add (k * 32))) (n' - k) (c' - k) wr (by rw [List.length_drop]; omega) (hT.below hlow) ((HP.out.sums.rest k hkl).below hlow)
        obtain ⟨s, hse⟩ : ∃ s, s = Tree.root (L'.drop k) := ⟨_, rfl⟩
        rw [← hse] at hpp hsl hrt
        have Hrt := Lib.hid hrt
        have Hsl := Lib.hid hsl
        have Hpp := Lib.hid hpp
        have Hl' := Lib.hid hl'
        clear hpl hpr hpp hsl hrt hse hl' hlow
        go_wp2_with (first | (go_at_call 45; refine (Hhalf _).mono ?_; rintro e w1 ⟨rfl, rfl⟩) | (go_at_call 21; refine Hrt.out.mono ?_; rintro e w2 ⟨rfl, hB⟩; have HB := Lib.hid hB; clear hB) | (refine wpList_build_sum rfl _ rfl s rfl Hsl.out ?_) | (at_builtin; refine wpList_acc rfl _ _ 31 rfl 29 32 32 z0 Tryd.underlying31 HI.out HZ0.out (by decide) w w.heap.size B C M.length (sumCells M) rfl ((HP.out.acc.below HB.out).alloc _) (some ⟨w2.heap.size, 0, none⟩) 1 1 (s.map V8) rfl (by simp [Hsl.out]) (box_bytes (blk1 _ _)).cells (fun h => by cases h) (fun ad h => ⟨_, _, (Option.some.inj h).symm⟩) (ones' s) z1 z2 ?_; intro B2 D2 w3 hacc hg hnew; have HA := Lib.hid hacc; clear hacc hg hnew))
        go_roundw
        case rel =>
          refine ⟨L'.take k, a', k, c', i', B2, D2, M ++ [s], rfl, by simp, rfl, HP.out.sums.take k (by omega), hik, ?_, ?_, ?_, ?_⟩
          · have := HA.out
            rw [← sumCells_one s, ← sumCells_append] at this
            simpa using this
          · rw [HP.out.path, Hpp.out]; simp
          · have := HP.out.room; simp; omega
          · intro x hx
            rw [List.mem_append, List.mem_singleton] at hx
            rcases hx with hx | rfl
            · exact HP.out.each x hx
            · exact Hsl.out
        case measure => rw [lenOf_slice, lenOf_slice]; omega
      · have hik2 : ¬ (i' : Int) < (k : Int) := by omega
        have hpp := hpr hik
        have e0 : ((i' - k : Nat) : Int) = (i' : Int) - (k : Int) := by omega
        have hsl := Tree.root_len (L'.take k) fun x hx => HP.out.sums.each x (List.mem_of_mem_take hx)
        have hrt := root_any (L'.take k) a' k c' wr (by rw [List.length_take]; omega) (hT.below hlow) ((HP.out.sums.take k (by omega)).below hlow)
        obtain ⟨s, hse⟩ : ∃ s, s = Tree.root (L'.take k) := ⟨_, rfl⟩
        rw [← hse] at hpp hsl hrt
        have Hrt := Lib.hid hrt
        have Hsl := Lib.hid hsl
        have Hpp := Lib.hid hpp
        have Hl' := Lib.hid hl'
        have He0 := Lib.hid e0
        have hwr : wrap64 ((i' : Int) - (k : Int)) = (i' : Int) - (k : Int) := by have := HP.out.lt; unfold wrap64; omega
        clear hpl hpr hpp hsl hrt hse hl' hlow e0
        go_wp2_with (first | (go_at_call 45; refine (Hhalf _).mono ?_; rintro e w1 ⟨rfl, rfl⟩) | (go_at_call 21; refine Hrt.out.mono ?_; rintro e w2 ⟨rfl, hB⟩; have HB := Lib.hid hB; clear hB) | (refine wpList_build_sum rfl _ rfl s rfl Hsl.out ?_) | (at_builtin; refine wpList_acc rfl _ _ 31 rfl 29 32 32 z0 Tryd.underlying31 HI.out HZ0.out (by decide) w w.heap.size B C M.length (sumCells M) rfl ((HP.out.acc.below HB.out).alloc _) (some ⟨w2.heap.size, 0, none⟩) 1 1 (s.map V8) rfl (by simp [Hsl.out]) (box_bytes (blk1 _ _)).cells (fun h => by cases h) (fun ad h => ⟨_, _, (Option.some.inj h).symm⟩) (ones' s) z1 z2 ?_; intro B2 D2 w3 hacc hg hnew; have HA := Lib.hid hacc; clear hacc hg hnew))
        go_roundw
        case rel =>
          refine ⟨L'.drop k, a'.map (·.add (k * 32)), n' - k, c' - k, i' - k, B2, D2, M ++ [s], by rw [He0.out, hwr], by simp, rfl, HP.out.sums.rest k hkl, by have := HP.out.lt; omega, ?_, ?_, ?_, ?_⟩
          · have := HA.out
            rw [← sumCells_one s, ← sumCells_append] at this
            simpa using this
          · rw [HP.out.path, Hpp.out]; simp
          · have := HP.out.room; simp; omega
          · intro x hx
            rw [List.mem_append, List.mem_singleton] at hx
            rcases hx with hx | rfl
            · exact HP.out.each x hx
            · exact Hsl.out
        case measure => rw [lenOf_slice, lenOf_slice]; omega
end Go.Proofs.YtpdhgijeanbmcaaDoor

/- LiveA -/
namespace Go.Proofs.YtpdhgijeanbmcaaDoor
open Go.RowKit Go.Great

theorem RetS.sums {w w' : World} {L : List (List UInt8)} {e : Ending} (h : RetS w L e w') (hL : ∀ x ∈ L, x.length = 32) : ∃ B C, e = .returned (.slice B L.length C) ∧ Sums w' B L.length C L ∧ Below w.heap.size w w' := by
  obtain ⟨B, C, h1, h2⟩ := h
  exact ⟨B, C, h1, h2.sums hL, h2.low⟩
theorem RetSE.sums {w w' : World} {L : List (List UInt8)} {k : Int} {e : Ending} (h : RetSE w L k e w') (hL : ∀ x ∈ L, x.length = 32) : ∃ B C, e = .returned (.tuple #[.slice B L.length C, .int .i64 k]) ∧ Sums w' B L.length C L ∧ Below w.heap.size w w' := by
  obtain ⟨B, C, h1, h2⟩ := h
  exact ⟨B, C, h1, h2.sums hL, h2.low⟩
theorem three_len (x y z : List UInt8) (hx : x.length = 32) (hy : y.length = 32) (hz : z.length = 32) : ∀ u ∈ [x, y, z], u.length = 32 := by
  intro u hu
  simp only [List.mem_cons, List.not_mem_nil, or_false] at hu
  rcases hu with rfl | rfl | rfl
  · exact hx
  · exact hy
  · exact hz
theorem one_len (x : List UInt8) (hx : x.length = 32) : ∀ u ∈ [x], u.length = 32 := by
  intro u hu
  rw [List.mem_singleton] at hu
  subst hu
  exact hx
theorem live_leaves (w : World) (la lb lc : List UInt8) (ha : la = Tree.leaf [97]) (hb : lb = Tree.leaf [98]) (hc : lc = Tree.leaf [99]) (hT : Tabs w) :
    Calls Tryd.prog 16 #[.slice (some ⟨w.heap.size, 0, none⟩) 3 3] (w.alloc (.cells #[.string ⟨#[97]⟩, .string ⟨#[98]⟩, .string ⟨#[99]⟩] 9)) fun e w' => ∃ B C, e = .returned (.slice B 3 C) ∧ Sums w' B 3 C [la, lb, lc] ∧ Below w.heap.size w w' := by
  subst ha hb hc
  refine (leaves_any [[97], [98], [99]] (some ⟨w.heap.size, 0, none⟩) 3 3 _ (hT.below (low1 _ _)) ⟨rfl, fun _ => ⟨w.heap.size, 0, rfl, fun k hk => ?_⟩⟩ (by omega) (fun t ht => ?_)).mono ?_
  · have : k = 0 ∨ k = 1 ∨ k = 2 := by simp at hk; omega
    rcases this with rfl | rfl | rfl <;> exact cell_block (blk1 _ _) rfl
  · simp only [List.mem_cons, List.not_mem_nil, or_false] at ht
    rcases ht with rfl | rfl | rfl <;> decide
  · rintro e w' h
    obtain ⟨B, C, h1, h2, h3⟩ := h.sums (three_len _ _ _ rfl rfl rfl)
    exact ⟨B, C, h1, h2, bthen (low1 _ _) h3⟩
theorem live_path (W : World) (la lb lc p0 : List UInt8) (B : Option Addr) (C : Nat) (h0 : p0 = Tree.node la lb) (hT : Tabs W) (S : Sums W B 3 C [la, lb, lc]) :
    Calls Tryd.prog 24 #[.slice B 3 C, .int .i64 2] W fun e w' => ∃ B C, e = .returned (.tuple #[.slice B 1 C, .int .i64 0]) ∧ Sums w' B 1 C [p0] ∧ Below W.heap.size W w' := by
  subst h0
  have h := path_any [la, lb, lc] B 3 C 2 W (by omega) (by omega) hT S
  rw [Tree.path3] at h
  exact h.mono fun e w' h => h.sums (one_len _ rfl)
theorem live_growth (W : World) (la lb lc : List UInt8) (B : Option Addr) (C : Nat) (hl : lc.length = 32) (hT : Tabs W) (S : Sums W B 3 C [la, lb, lc]) :
    Calls Tryd.prog 26 #[.slice B 3 C, .int .i64 2] W fun e w' => ∃ B C, e = .returned (.tuple #[.slice B 1 C, .int .i64 0]) ∧ Sums w' B 1 C [lc] ∧ Below W.heap.size W w' := by
  have h := growth_any [la, lb, lc] B 3 C 2 W (by omega) (by omega) (by omega) hT S
  rw [Tree.sub3] at h
  exact h.mono fun e w' h => h.sums (one_len _ hl)
def pTxt (l : List UInt8) : Post Low := ⟨fun v w => ∃ a n c, v = .slice a n c ∧ Txt w a n c l, fun _ _ _ ⟨a, n, c, e, h⟩ hl => ⟨a, n, c, e, h.below hl⟩⟩
theorem root_is (s : List UInt8) (L : List (List UInt8)) (a : Option Addr) (n c : Nat) (w : World) (hs : Tree.root L = s) (hlen : L.length < 4611686018427387904) (hT : Tabs w) (S : Sums w a n c L) : Calls Tryd.prog 21 #[.slice a n c] w (RetSum w s) := by
  subst hs
  exact root_any L a n c w hlen hT S
theorem holds_is (b : Bool) (root leaf : List UInt8) (a : Option Addr) (c : Nat) (x : List UInt8) (w : World) (hb : Tree.holds root 3 2 leaf [x] = b) (hr : root.length = 32) (hl : leaf.length = 32) (hT : Tabs w) (S : Sums w a 1 c [x]) :
    Calls Tryd.prog 30 #[sumV root, .int .i64 3, .int .i64 2, sumV leaf, .slice a 1 c] w fun e w' => e = .returned (.bool b) ∧ Below w.heap.size w w' := by
  subst hb
  exact holds_any root leaf 3 2 a 1 c [x] w (by omega) (by omega) (by omega) hr hl hT S
theorem extends_is (b : Bool) (root old x : List UInt8) (a : Option Addr) (c : Nat) (w : World) (hb : Tree.extends_ 2 old 3 root [x] = b) (hr : root.length = 32) (ho : old.length = 32) (hT : Tabs w) (S : Sums w a 1 c [x]) (hs3 : split 3 = 2) :
    Calls Tryd.prog 32 #[.int .i64 2, sumV old, .int .i64 3, sumV root, .slice a 1 c] w fun e w' => e = .returned (.bool b) ∧ Below w.heap.size w w' := by
  subst hb
  exact extends_three root old x a c w hr ho hT S hs3
theorem lit97_cells : (([97] : List UInt8).map V8).toArray = #[Value.int .u8 97] := by simp [V8]
theorem lit97 (W : World) : Txt (W.alloc (.cells #[Value.int .u8 97] 5)) (some ⟨W.heap.size, 0, none⟩) 1 1 [97] := by
  rw [← lit97_cells]
  exact Txt.of_block (blk1 _ _) rfl
section
variable {P : Program} {ops : Array Oper} {rest : List Oper} {o : Oper} {a : Act} {w : World} {Q : Exit → Act → World → Prop}
theorem wpList_load_mid_sumG (hgd : Region.wanted o (yielded ops a.tmps) = true) (ty : TypeId) (x : Operand) (ho : o.op = .load ty x) (b off : Nat) (hx : a.eval x = .pointer (some ⟨b, off, none⟩))
    (l : List UInt8) (n : Nat) (e : TypeId) (hc : w.rangeAt b off (l.map V8)) (hu : P.underlying ty = some (.array n e)) (hi : (P.info? ty).map (·.size) = some n) (hl : l.length = n) (h : wpList P ops Q rest (a.put o.dst (sumV l)) w) : wpList P ops Q (o :: rest) a w :=
  wpList_guarded hgd (wpList_load_mid_sum rfl ty x ho b off hx l n e hc hu hi hl h)
theorem wpList_load_sumG (hgd : Region.wanted o (yielded ops a.tmps) = true) (ty : TypeId) (x : Operand) (ho : o.op = .load ty x) (g : Nat) (hx : a.eval x = .pointer (some ⟨g, 0, none⟩))
    (t : TypeId) (l : List UInt8) (n : Nat) (fr : Nat × Nat) (e : TypeId) (hg : w.heap[g]? = some (.cells (l.map V8).toArray t fr)) (hu : P.underlying ty = some (.array n e))
    (hi : (P.info? ty).map (·.size) = some n) (hl : l.length = n) (h : wpList P ops Q rest (a.put o.dst (sumV l)) w) : wpList P ops Q (o :: rest) a w :=
  wpList_guarded hgd (wpList_load_sum rfl ty x ho g hx t l n fr e hg hu hi hl h)
end
/-- Below block N nothing turns; above it blocks keep their cells (a mark may turn). -/
structure RN (N : Nat) (w w' : World) : Prop where
  low : Below N w w'
  keep : ∀ (i : Nat) (cs : Array Value) (t : TypeId) (fr : Nat × Nat), w.heap[i]? = some (.cells cs t fr) → ∃ fr', w'.heap[i]? = some (.cells cs t fr')
theorem RN.refl (N : Nat) (w : World) : RN N w w := ⟨Below.refl _ _, fun _ _ _ fr h => ⟨fr, h⟩⟩
theorem RN.trans (N : Nat) (w w' w'' : World) (h : RN N w w') (h' : RN N w' w'') : RN N w w'' :=
  ⟨h.low.trans h'.low, fun i cs t fr hh => by
    obtain ⟨fr1, h1⟩ := h.keep i cs t fr hh
    exact h'.keep i cs t fr1 h1⟩
theorem RN.of_low {N : Nat} {w w' : World} (h : Below w.heap.size w w') (hN : N ≤ w.heap.size) : RN N w w' :=
  ⟨h.mono hN, fun _ _ _ fr hh => ⟨fr, bblk h hh⟩⟩
theorem lowR {w wr : World} (h : RN w.heap.size w.drew wr) : Below w.heap.size w wr := Below.trans (Low.drew w) h.low
theorem sizeR {w wr : World} (h : RN w.heap.size w.drew wr) : w.heap.size ≤ wr.heap.size := h.low.size
/-- A literal of one byte, 97, in memory of the call's own. -/
def pLit (N : Nat) : Post (RN N) := ⟨fun v w => ∃ b, v = .slice (some ⟨b, 0, none⟩) 1 1 ∧ N ≤ b ∧ ∃ t fr, w.heap[b]? = some (.cells #[Value.int .u8 97] t fr), fun _ _ _ ⟨b, e, hb, t, fr, h⟩ hR => by
  obtain ⟨fr', h'⟩ := hR.keep b _ t fr h
  exact ⟨b, e, hb, t, fr', h'⟩⟩
theorem txt97 {W : World} {b : Nat} {t : TypeId} {fr : Nat × Nat} (h : W.heap[b]? = some (.cells #[Value.int .u8 97] t fr)) : Txt W (some ⟨b, 0, none⟩) 1 1 [97] := by
  rw [← lit97_cells] at h
  exact Txt.of_block h rfl
theorem conv_mark (b n c : Nat) (W : World) (cs : Array Value) (t : TypeId) (fr : Nat × Nat) (h : W.heap[b]? = some (.cells cs t fr)) : ∃ W', (convert 22 22 (.slice (some ⟨b, 0, none⟩) n c)).run Tryd.prog W = .ok (.slice (some ⟨b, 0, none⟩) n c) W' ∧ W.grownBy W' (some b) ∧ ∃ fr', W'.heap[b]? = some (.cells cs t fr') := by
  have hsh : W.shape? b = some (t, cs.size) := by simp [World.shape?, h]
  refine ⟨W.freeze ⟨b, cs.size, none⟩ 1, ?_, ?_, ?_⟩
  · simp [convert, run_underlying Tryd.underlying22, run_underlying Tryd.underlying5, markStringish, hsh]
  · refine ⟨rfl, rfl, rfl, ?_, fun i hi hne => ?_⟩
    · simp [World.freeze]
    · have : b ≠ i := fun e => hne (by rw [e])
      simp [World.freeze, Array.getElem?_modify, this]
  · simp [World.freeze, Array.getElem?_modify, h]
theorem RN.of_mark {N b : Nat} {w w' : World} {cs : Array Value} {t : TypeId} {fr fr' : Nat × Nat} (hN : N ≤ w.heap.size) (hb : N ≤ b) (hg : w.grownBy w' (some b)) (h : w.heap[b]? = some (.cells cs t fr)) (h' : w'.heap[b]? = some (.cells cs t fr')) : RN N w w' :=
  ⟨(Below.refl N w).grown hg hN (fun k hk => by obtain rfl := Option.some.inj hk; exact hb), fun i cs2 t2 fr2 h2 => by
    by_cases e : i = b
    · subst e
      rw [h] at h2
      have h3 := Option.some.inj h2
      injection h3 with e1 e2 e3
      subst e1 e2
      exact ⟨fr', h'⟩
    · exact ⟨fr2, (hg.block i (in_heap h2) (fun e' => e (Option.some.inj e'))).trans h2⟩⟩
theorem relOp_load_mid {ops : Array Oper} {R : World → World → Prop} {o : Oper} {a : Act} {w : World} (hrf : ∀ w, R w w) (hg : Region.wanted o (yielded ops a.tmps) = true) (x : Operand) (ho : o.op = .load 29 x) (b off : Nat) (hx : a.eval x = .pointer (some ⟨b, off, none⟩))
    (l : List UInt8) (hc : w.rangeAt b off (l.map V8)) (hl : l.length = 32) : relOp Tryd.prog ops R (Post.is (R := R) (sumV l)).p o a w := by
  unfold relOp wpList
  rw [if_pos hg]
  exact .inl (wp_load_mid 29 x ho b off hx (l.map V8) _ hc Tryd.underlying29 rfl (by rw [show (Tryd.prog.info? 29).map (·.size) = some 32 from by kernel_rfl, List.length_map, hl]) ⟨rfl, _, rfl, hrf _, rfl⟩)
theorem relOp_load_sum {ops : Array Oper} {R : World → World → Prop} {o : Oper} {a : Act} {w : World} (hrf : ∀ w, R w w) (hg : Region.wanted o (yielded ops a.tmps) = true) (x : Operand) (ho : o.op = .load 29 x) (g : Nat) (hx : a.eval x = .pointer (some ⟨g, 0, none⟩))
    (t : TypeId) (fr : Nat × Nat) (l : List UInt8) (hgl : w.heap[g]? = some (.cells (l.map V8).toArray t fr)) (hl : l.length = 32) : relOp Tryd.prog ops R (Post.is (R := R) (sumV l)).p o a w := by
  unfold relOp wpList
  rw [if_pos hg]
  exact .inl (wp_load_row 29 x ho g hx t (l.map V8).toArray fr _ hgl Tryd.underlying29 rfl (size_sum l hl) ⟨rfl, _, rfl, hrf _, rfl⟩)
theorem eval_put_ne (a : Act) (d t : Tmp) (v : Value) (h : (d == t) = false) : (a.put (some d) v).eval (.tmp t) = a.eval (.tmp t) := by
  have h' : d ≠ t := by simpa using h
  simp [Act.put, Act.eval, Array.getElem?_setIfInBounds_ne h']
theorem size_put (a : Act) (d : Option Tmp) (v : Value) : (a.put d v).tmps.size = a.tmps.size := by
  cases d <;> simp [Act.put]
theorem eval_put_eq (a : Act) (d : Tmp) (v : Value) (h : d < a.tmps.size) : (a.put (some d) v).eval (.tmp d) = v := by
  simp [Act.put, Act.eval, h]
end Go.Proofs.YtpdhgijeanbmcaaDoor

/- Live -/
namespace Go.Proofs.YtpdhgijeanbmcaaDoor
open Go.RowKit Go.Great

def yLit (N : Nat) : Yld (RN N) := Yld.pr (pLit N).p (pLit N).st

set_option maxRecDepth 100000 in
set_option maxHeartbeats 100000000 in
theorem live_any (w : World) (hT : Tabs w) : Calls Tryd.prog 14 #[] w fun e w' => e = .returned (.bool true) ∧ Below w.heap.size w w' := by
  obtain ⟨la, hla, hlal⟩ : ∃ x, x = Tree.leaf [97] ∧ x.length = 32 := ⟨_, rfl, rfl⟩
  obtain ⟨lb, hlb, hlbl⟩ : ∃ x, x = Tree.leaf [98] ∧ x.length = 32 := ⟨_, rfl, rfl⟩
  obtain ⟨lc, hlc, hlcl⟩ : ∃ x, x = Tree.leaf [99] ∧ x.length = 32 := ⟨_, rfl, rfl⟩
  obtain ⟨p0, hp0, hp0l⟩ : ∃ x, x = Tree.node la lb ∧ x.length = 32 := ⟨_, rfl, rfl⟩
  obtain ⟨r, hr, hrl⟩ : ∃ x, x = Tree.node p0 lc ∧ x.length = 32 := ⟨_, rfl, rfl⟩
  have f1 : Tree.holds r 3 2 lc [p0] = true := by rw [Tree.holds3, hr]; exact beq_self_eq_true _
  have f2 : Tree.holds r 3 2 lb [p0] = false := by rw [Tree.holds3, hr, hp0, hla, hlb, hlc]; exact beq_eq_false_iff_ne.2 live_ne1
  have f3 : Tree.extends_ 2 p0 3 r [lc] = true := by rw [Tree.ext3, hr]; exact beq_self_eq_true _
  have f4 : Tree.extends_ 2 r 3 r [lc] = false := by rw [Tree.ext3, hr, hp0, hla, hlb, hlc]; exact beq_eq_false_iff_ne.2 live_ne2
  have f5 : Tree.root [la, lb] = p0 := by rw [Tree.root2, hp0]
  have f6 : Tree.root [la, lb, lc] = r := by rw [Tree.root3, hr, hp0]
  have HF1 := Lib.hid f1
  have HF2 := Lib.hid f2
  have HF3 := Lib.hid f3
  have HF4 := Lib.hid f4
  have HF5 := Lib.hid f5
  have HF6 := Lib.hid f6
  have Hla := Lib.hid hla
  have Hlb := Lib.hid hlb
  have Hlc := Lib.hid hlc
  have Hp0 := Lib.hid hp0
  have La := Lib.hid hlal
  have Lb := Lib.hid hlbl
  have Lc := Lib.hid hlcl
  have Lp := Lib.hid hp0l
  have Lr := Lib.hid hrl
  have hs3 := Lib.hid Tree.split3
  clear hla hlal hlb hlbl hlc hlcl hp0 hp0l hr hrl f1 f2 f3 f4 f5 f6
  go_enter Tryd.func14, Tryd.ntmps14
  go_wp2_with (first | (go_at_call 16; refine (live_leaves w la lb lc Hla.out Hlb.out Hlc.out hT).mono ?_; rintro e w1 ⟨B1, C1, rfl, hS, hB⟩; have HS1 := Lib.hid hS; have HB1 := Lib.hid hB; clear hS hB) | (go_at_call 24; refine (live_path w1 la lb lc p0 B1 C1 Hp0.out (hT.below HB1.out) HS1.out).mono ?_; rintro e w2 ⟨B2, C2, rfl, hS, hB⟩; have HS2 := Lib.hid hS; have HB2 := Lib.hid hB; clear hS hB) | (go_at_call 26; refine (live_growth w2 la lb lc B1 C1 Lc.out ((hT.below HB1.out).below HB2.out) (HS1.out.below HB2.out)).mono ?_; rintro e w3 ⟨B4, C4, rfl, hS, hB⟩; have HS3 := Lib.hid hS; have HB3 := Lib.hid hB; clear hS hB) | (go_at_call 21; refine (root_is r [la, lb, lc] B1 3 C1 w3 HF6.out (by simp) (((hT.below HB1.out).below HB2.out).below HB3.out) ((HS1.out.below HB2.out).below HB3.out)).mono ?_; rintro e w4 ⟨rfl, hB⟩; have HB4 := Lib.hid hB; clear hB) | (refine wpList_store_row' rfl 29 _ _ rfl w4.heap.size (r.map V8).toArray rfl rfl _ _ (blk1 _ _) (size_sum r Lr.out) (by simp [Lr.out]) (oneCells r) ?_; intro w5 h5 g5 s5; have H5 := Lib.hid h5; have G5 := Lib.hid g5; clear h5 g5 s5))
  have hl4 : Below w.heap.size w w4 := bthen (bthen (bthen HB1.out HB2.out) HB3.out) HB4.out
  have h45 : Low w4 w5 := (low1 _ _).grown G5.out (by simp) (fun k hk => by obtain rfl := Option.some.inj hk; exact Nat.le_refl _)
  have hL5 : Below w.heap.size w w5 := bthen hl4 h45
  have sl := (((HS1.out.below HB2.out).below HB3.out).below HB4.out).below h45
  have sp := ((HS2.out.below HB3.out).below HB4.out).below h45
  have sg := (HS3.out.below HB4.out).below h45
  obtain ⟨b, o, hb, hget⟩ := sl.get
  obtain rfl := hb (by omega)
  have SL := Lib.hid sl
  have SP := Lib.hid sp
  have SG := Lib.hid sg
  have HL := Lib.hid hL5
  have x0 := Lib.hid (hget 0 (by simp))
  have x1 := Lib.hid (hget 1 (by simp))
  have x2 := Lib.hid (hget 2 (by simp))
  have hcap := sl.cap
  obtain ⟨rb, hrb⟩ : ∃ rb, rb = w4.heap.size := ⟨_, rfl⟩
  rw [← hrb] at H5 ⊢
  clear hl4 h45 hL5 sl sp sg hb hget HS1 HS2 HS3 HB1 HB2 HB3 HB4 G5 hrb
  refine wp_region_reg 59 80 (RN w5.heap.size) (by kernel_rfl) (by kernel_rfl) (by kernel_rfl) (by kernel_rfl) (by kernel_rfl) (RN.refl _) (RN.trans _) [.is ((.int .i64 0 : Value)), .is ((.int .i64 0 : Value)), .is ((.bool true : Value)), .is ((.bool true : Value)), .is ((.slice B2 1 C2 : Value)), .is ((.int .i64 1 : Value)), .is ((.bool true : Value)), .is ((.bool true : Value)), .is ((.bool true : Value)), .is ((.int .i64 0 : Value)), .is ((.int .i64 0 : Value)), .is ((.bool true : Value)), .is ((.bool true : Value)), .is ((.bool true : Value)), .is ((.slice B4 1 C4 : Value)), .is ((.int .i64 1 : Value)), .is ((.bool true : Value)), .is ((.bool true : Value)), .is ((.bool true : Value)), yLit w5.heap.size, yLit w5.heap.size, .is (sumV la), .is ((.slice (some ⟨b, o, none⟩) 3 C1 : Value)), .is ((.pointer (some ⟨b, o + 0 * 32, none⟩) : Value)), .is (sumV la), .is ((.bool true : Value)), .is ((.bool true : Value)), .is ((.bool true : Value)), .is (sumV r), .is ((.slice (some ⟨b, o, none⟩) 3 C1 : Value)), .is ((.pointer (some ⟨b, o + 2 * 32, none⟩) : Value)), .is (sumV lc), .is ((.slice B2 1 C2 : Value)), .is ((.bool true : Value)), .is ((.bool true : Value)), .is ((.bool true : Value)), .is (sumV r), .is ((.slice (some ⟨b, o, none⟩) 3 C1 : Value)), .is ((.pointer (some ⟨b, o + 1 * 32, none⟩) : Value)), .is (sumV lb), .is ((.slice B2 1 C2 : Value)), .is ((.bool false : Value)), .is ((.bool true : Value)), .is ((.bool true : Value)), .is ((.bool true : Value)), .is ((.slice (some ⟨b, o, none⟩) 3 C1 : Value)), .is ((.slice (some ⟨b, o, none⟩) 2 C1 : Value)), .is (sumV p0), .is (sumV r), .is ((.slice B4 1 C4 : Value)), .is ((.bool true : Value)), .is ((.bool true : Value)), .is ((.bool true : Value)), .is (sumV r), .is (sumV r), .is ((.slice B4 1 C4 : Value)), .is ((.bool false : Value)), .is ((.bool true : Value)), .is ((.bool true : Value))] rfl (fun vs => ?_) (fun vs wr hR h => ?_)
  ·
    refine RegHead.cons (fun wr hR h => ?_) ?_
    · exact relAt.pure (RN.refl _) (by kernel_rfl) (by kernel_rfl)
    refine RegHead.cons (fun wr hR h => ?_) ?_
    · refine relAt.call (by kernel_rfl) (by kernel_rfl) ((num_any 0 wr).mono ?_)
      rintro e w6 ⟨rfl, rfl⟩
      exact ⟨_, rfl, RN.refl _ _, rfl⟩
    refine RegHead.cons (fun wr hR h => ?_) ?_
    · exact relAt.pure (RN.refl _) (by kernel_rfl) (by kernel_rfl)
    refine RegHead.cons (fun wr hR h => ?_) ?_
    · exact relAt.pure (RN.refl _) (by kernel_rfl) (by kernel_rfl)
    refine RegHead.cons (fun wr hR h => ?_) ?_
    · exact relAt.pure (RN.refl _) (by kernel_rfl) (by kernel_rfl)
    refine RegHead.cons (fun wr hR h => ?_) ?_
    · exact relAt.pure (RN.refl _) (by kernel_rfl) (by kernel_rfl)
    refine RegHead.cons (fun wr hR h => ?_) ?_
    · exact relAt.pure (RN.refl _) (by kernel_rfl) (by kernel_rfl)
    refine RegHead.cons (fun wr hR h => ?_) ?_
    · exact relAt.pure (RN.refl _) (by kernel_rfl) (by kernel_rfl)
    refine RegHead.cons (fun wr hR h => ?_) ?_
    · exact relAt.pure (RN.refl _) (by kernel_rfl) (by kernel_rfl)
    refine RegHead.cons (fun wr hR h => ?_) ?_
    · exact relAt.pure (RN.refl _) (by kernel_rfl) (by kernel_rfl)
    refine RegHead.cons (fun wr hR h => ?_) ?_
    · refine relAt.call (by kernel_rfl) (by kernel_rfl) ((num_any 0 wr).mono ?_)
      rintro e w6 ⟨rfl, rfl⟩
      exact ⟨_, rfl, RN.refl _ _, rfl⟩
    refine RegHead.cons (fun wr hR h => ?_) ?_
    · exact relAt.pure (RN.refl _) (by kernel_rfl) (by kernel_rfl)
    refine RegHead.cons (fun wr hR h => ?_) ?_
    · exact relAt.pure (RN.refl _) (by kernel_rfl) (by kernel_rfl)
    refine RegHead.cons (fun wr hR h => ?_) ?_
    · exact relAt.pure (RN.refl _) (by kernel_rfl) (by kernel_rfl)
    refine RegHead.cons (fun wr hR h => ?_) ?_
    · exact relAt.pure (RN.refl _) (by kernel_rfl) (by kernel_rfl)
    refine RegHead.cons (fun wr hR h => ?_) ?_
    · exact relAt.pure (RN.refl _) (by kernel_rfl) (by kernel_rfl)
    refine RegHead.cons (fun wr hR h => ?_) ?_
    · exact relAt.pure (RN.refl _) (by kernel_rfl) (by kernel_rfl)
    refine RegHead.cons (fun wr hR h => ?_) ?_
    · exact relAt.pure (RN.refl _) (by kernel_rfl) (by kernel_rfl)
    refine RegHead.cons (fun wr hR h => ?_) ?_
    · exact relAt.pure (RN.refl _) (by kernel_rfl) (by kernel_rfl)
    refine RegHead.cons (fun wr hR h => ?_) ?_
    · exact relAt.value (u := .slice (some ⟨wr.heap.size, 0, none⟩) 1 1) (w' := wr.alloc (.cells #[.int .u8 97] 5)) (by kernel_rfl) (by kernel_rfl) (RN.of_low (low1 _ _) (sizeR hR)) ⟨_, rfl, sizeR hR, _, _, blk1 _ _⟩
    refine RegHead.cons (fun wr hR h => ?_) ?_
    · have ex : ∃ b, vs 19 = .slice (some ⟨b, 0, none⟩) 1 1 ∧ w5.heap.size ≤ b ∧ ∃ t fr, wr.heap[b]? = some (.cells #[Value.int .u8 97] t fr) := allOf_iff.1 h 19 (by decide)
      obtain ⟨b4, hv4, hb4, t4, fr4, hh4⟩ := ex
      obtain ⟨W', hcv, hg4, fr5, hh5⟩ := conv_mark b4 1 1 wr _ t4 fr4 hh4
      exact relAt.valueS (s := convert 22 22 (vs 19)) (by kernel_rfl) (by kernel_rfl) (by rw [hv4]; exact hcv) (RN.of_mark (sizeR hR) hb4 hg4 hh4 hh5) ⟨_, rfl, hb4, _, _, hh5⟩
    refine RegHead.cons (fun wr hR h => ?_) ?_
    · have ex : ∃ b, vs 20 = .slice (some ⟨b, 0, none⟩) 1 1 ∧ w5.heap.size ≤ b ∧ ∃ t fr, wr.heap[b]? = some (.cells #[Value.int .u8 97] t fr) := allOf_iff.1 h 20 (by decide)
      obtain ⟨b4, hv4, hb4, t4, fr4, hh4⟩ := ex
      refine relAt.call (f := 17) (args := #[vs 20]) (by kernel_rfl) (by kernel_rfl) ?_
      rw [hv4]
      refine (leaf_any [97] (some ⟨b4, 0, none⟩) 1 1 wr (hT.below (bthen HL.out (lowR hR))) (txt97 hh4) (by decide)).mono ?_
      rintro e w6 ⟨rfl, hB⟩
      exact ⟨_, rfl, RN.of_low hB (sizeR hR), congrArg sumV Hla.out.symm⟩
    refine RegHead.cons (fun wr hR h => ?_) ?_
    · exact relAt.pure (RN.refl _) (by kernel_rfl) (by kernel_rfl)
    refine RegHead.cons (fun wr hR h => ?_) ?_
    · exact relAt.pure (RN.refl _) (by kernel_rfl) (by kernel_rfl)
    refine RegHead.cons (fun wr hR h => ?_) ?_
    · exact relAt.pureS (RN.refl _) (by kernel_rfl) (by kernel_rfl) (run_load_at_sum wr b (o + 0 * 32) la (range_low x0.out (lowR hR)) La.out)
    refine RegHead.cons (fun wr hR h => ?_) ?_
    · exact relAt.pureS (RN.refl _) (by kernel_rfl) (by kernel_rfl) (run_eql_sums wr (.tmp 42) (.tmp 45) la la true La.out La.out (beq_self_eq_true _))
    refine RegHead.cons (fun wr hR h => ?_) ?_
    · exact relAt.pure (RN.refl _) (by kernel_rfl) (by kernel_rfl)
    refine RegHead.cons (fun wr hR h => ?_) ?_
    · exact relAt.pure (RN.refl _) (by kernel_rfl) (by kernel_rfl)
    refine RegHead.cons (fun wr hR h => ?_) ?_
    · exact relAt.pureS (RN.refl _) (by kernel_rfl) (by kernel_rfl) (run_load_box_sum wr rb _ _ r (bblk (lowR hR) H5.out) Lr.out)
    refine RegHead.cons (fun wr hR h => ?_) ?_
    · exact relAt.pure (RN.refl _) (by kernel_rfl) (by kernel_rfl)
    refine RegHead.cons (fun wr hR h => ?_) ?_
    · exact relAt.pure (RN.refl _) (by kernel_rfl) (by kernel_rfl)
    refine RegHead.cons (fun wr hR h => ?_) ?_
    · exact relAt.pureS (RN.refl _) (by kernel_rfl) (by kernel_rfl) (run_load_at_sum wr b (o + 2 * 32) lc (range_low x2.out (lowR hR)) Lc.out)
    refine RegHead.cons (fun wr hR h => ?_) ?_
    · exact relAt.pure (RN.refl _) (by kernel_rfl) (by kernel_rfl)
    refine RegHead.cons (fun wr hR h => ?_) ?_
    · refine relAt.call (by kernel_rfl) (by kernel_rfl) ((holds_is true r lc B2 C2 p0 wr HF1.out Lr.out Lc.out (hT.below (bthen HL.out (lowR hR))) (SP.out.below (lowR hR))).mono ?_)
      rintro e w6 ⟨rfl, hB⟩
      exact ⟨_, rfl, RN.of_low hB (sizeR hR), rfl⟩
    refine RegHead.cons (fun wr hR h => ?_) ?_
    · exact relAt.pure (RN.refl _) (by kernel_rfl) (by kernel_rfl)
    refine RegHead.cons (fun wr hR h => ?_) ?_
    · exact relAt.pure (RN.refl _) (by kernel_rfl) (by kernel_rfl)
    refine RegHead.cons (fun wr hR h => ?_) ?_
    · exact relAt.pureS (RN.refl _) (by kernel_rfl) (by kernel_rfl) (run_load_box_sum wr rb _ _ r (bblk (lowR hR) H5.out) Lr.out)
    refine RegHead.cons (fun wr hR h => ?_) ?_
    · exact relAt.pure (RN.refl _) (by kernel_rfl) (by kernel_rfl)
    refine RegHead.cons (fun wr hR h => ?_) ?_
    · exact relAt.pure (RN.refl _) (by kernel_rfl) (by kernel_rfl)
    refine RegHead.cons (fun wr hR h => ?_) ?_
    · exact relAt.pureS (RN.refl _) (by kernel_rfl) (by kernel_rfl) (run_load_at_sum wr b (o + 1 * 32) lb (range_low x1.out (lowR hR)) Lb.out)
    refine RegHead.cons (fun wr hR h => ?_) ?_
    · exact relAt.pure (RN.refl _) (by kernel_rfl) (by kernel_rfl)
    refine RegHead.cons (fun wr hR h => ?_) ?_
    · refine relAt.call (by kernel_rfl) (by kernel_rfl) ((holds_is false r lb B2 C2 p0 wr HF2.out Lr.out Lb.out (hT.below (bthen HL.out (lowR hR))) (SP.out.below (lowR hR))).mono ?_)
      rintro e w6 ⟨rfl, hB⟩
      exact ⟨_, rfl, RN.of_low hB (sizeR hR), rfl⟩
    refine RegHead.cons (fun wr hR h => ?_) ?_
    · exact relAt.pure (RN.refl _) (by kernel_rfl) (by kernel_rfl)
    refine RegHead.cons (fun wr hR h => ?_) ?_
    · exact relAt.pure (RN.refl _) (by kernel_rfl) (by kernel_rfl)
    refine RegHead.cons (fun wr hR h => ?_) ?_
    · exact relAt.pure (RN.refl _) (by kernel_rfl) (by kernel_rfl)
    refine RegHead.cons (fun wr hR h => ?_) ?_
    · exact relAt.pure (RN.refl _) (by kernel_rfl) (by kernel_rfl)
    refine RegHead.cons (fun wr hR h => ?_) ?_
    · exact relAt.pureS (RN.refl _) (by kernel_rfl) (by kernel_rfl) (run_sums_to wr (some ⟨b, o, none⟩) 3 C1 2 (fun ad h => ⟨b, o, (Option.some.inj h).symm⟩) (by omega))
    refine RegHead.cons (fun wr hR h => ?_) ?_
    · refine relAt.call (by kernel_rfl) (by kernel_rfl) ((root_is p0 [la, lb] (some ⟨b, o, none⟩) 2 C1 wr HF5.out (by simp) (hT.below (bthen HL.out (lowR hR))) ((SL.out.take 2 (by omega)).below (lowR hR))).mono ?_)
      rintro e w6 ⟨rfl, hB⟩
      exact ⟨_, rfl, RN.of_low hB (sizeR hR), rfl⟩
    refine RegHead.cons (fun wr hR h => ?_) ?_
    · exact relAt.pureS (RN.refl _) (by kernel_rfl) (by kernel_rfl) (run_load_box_sum wr rb _ _ r (bblk (lowR hR) H5.out) Lr.out)
    refine RegHead.cons (fun wr hR h => ?_) ?_
    · exact relAt.pure (RN.refl _) (by kernel_rfl) (by kernel_rfl)
    refine RegHead.cons (fun wr hR h => ?_) ?_
    · refine relAt.call (by kernel_rfl) (by kernel_rfl) ((extends_is true r p0 lc B4 C4 wr HF3.out Lr.out Lp.out (hT.below (bthen HL.out (lowR hR))) (SG.out.below (lowR hR)) hs3.out).mono ?_)
      rintro e w6 ⟨rfl, hB⟩
      exact ⟨_, rfl, RN.of_low hB (sizeR hR), rfl⟩
    refine RegHead.cons (fun wr hR h => ?_) ?_
    · exact relAt.pure (RN.refl _) (by kernel_rfl) (by kernel_rfl)
    refine RegHead.cons (fun wr hR h => ?_) ?_
    · exact relAt.pure (RN.refl _) (by kernel_rfl) (by kernel_rfl)
    refine RegHead.cons (fun wr hR h => ?_) ?_
    · exact relAt.pureS (RN.refl _) (by kernel_rfl) (by kernel_rfl) (run_load_box_sum wr rb _ _ r (bblk (lowR hR) H5.out) Lr.out)
    refine RegHead.cons (fun wr hR h => ?_) ?_
    · exact relAt.pureS (RN.refl _) (by kernel_rfl) (by kernel_rfl) (run_load_box_sum wr rb _ _ r (bblk (lowR hR) H5.out) Lr.out)
    refine RegHead.cons (fun wr hR h => ?_) ?_
    · exact relAt.pure (RN.refl _) (by kernel_rfl) (by kernel_rfl)
    refine RegHead.cons (fun wr hR h => ?_) ?_
    · refine relAt.call (by kernel_rfl) (by kernel_rfl) ((extends_is false r r lc B4 C4 wr HF4.out Lr.out Lr.out (hT.below (bthen HL.out (lowR hR))) (SG.out.below (lowR hR)) hs3.out).mono ?_)
      rintro e w6 ⟨rfl, hB⟩
      exact ⟨_, rfl, RN.of_low hB (sizeR hR), rfl⟩
    refine RegHead.cons (fun wr hR h => ?_) ?_
    · exact relAt.pure (RN.refl _) (by kernel_rfl) (by kernel_rfl)
    refine RegHead.cons (fun wr hR h => ?_) ?_
    · exact relAt.pure (RN.refl _) (by kernel_rfl) (by kernel_rfl)
    exact trivial
  · have hlast := bthen HL.out (lowR hR)
    refine wp_frame (new := [(.int .i64 0 : Value), (.int .i64 0 : Value), (.bool true : Value), (.bool true : Value), (.slice B2 1 C2 : Value), (.int .i64 1 : Value), (.bool true : Value), (.bool true : Value), (.bool true : Value), (.int .i64 0 : Value), (.int .i64 0 : Value), (.bool true : Value), (.bool true : Value), (.bool true : Value), (.slice B4 1 C4 : Value), (.int .i64 1 : Value), (.bool true : Value), (.bool true : Value), (.bool true : Value), vs 19, vs 20, sumV la, (.slice (some ⟨b, o, none⟩) 3 C1 : Value), (.pointer (some ⟨b, o + 0 * 32, none⟩) : Value), sumV la, (.bool true : Value), (.bool true : Value), (.bool true : Value), sumV r, (.slice (some ⟨b, o, none⟩) 3 C1 : Value), (.pointer (some ⟨b, o + 2 * 32, none⟩) : Value), sumV lc, (.slice B2 1 C2 : Value), (.bool true : Value), (.bool true : Value), (.bool true : Value), sumV r, (.slice (some ⟨b, o, none⟩) 3 C1 : Value), (.pointer (some ⟨b, o + 1 * 32, none⟩) : Value), sumV lb, (.slice B2 1 C2 : Value), (.bool false : Value), (.bool true : Value), (.bool true : Value), (.bool true : Value), (.slice (some ⟨b, o, none⟩) 3 C1 : Value), (.slice (some ⟨b, o, none⟩) 2 C1 : Value), sumV p0, sumV r, (.slice B4 1 C4 : Value), (.bool true : Value), (.bool true : Value), (.bool true : Value), sumV r, sumV r, (.slice B4 1 C4 : Value), (.bool false : Value), (.bool true : Value), (.bool true : Value)]) 21 80 (by kernel_rfl) ?_
    simp only [List.take, List.cons_append, List.nil_append, List.drop]
    clear h hR
    go_wp2
    go_ret
    exact ⟨rfl, hlast⟩
end Go.Proofs.YtpdhgijeanbmcaaDoor

/- Ent2 -/
namespace Go.Proofs.YtpdhgijeanbmcaaDoor
open Go.RowKit Go.Great

def entBytes (at_ : Nat) (k : Int) (s : List UInt8) : List UInt8 := groups at_ ++ groups k.toNat ++ groups s.length ++ s
/-- Bytes and an error's number. -/
def RetBE (w : World) (l : List UInt8) (k : Int) (e : Ending) (w' : World) : Prop := ∃ B C, e = .returned (.tuple #[.slice B l.length C, .int .i64 k]) ∧ Txt w' B l.length C l ∧ Below w.heap.size w w'
def yTxt (l : List UInt8) : Yld Low := Yld.pr (fun v w => ∃ B C, v = .slice B l.length C ∧ Txt w B l.length C l) fun _ _ _ ⟨B, C, e, h⟩ hl => ⟨B, C, e, h.below hl⟩
theorem txt_nil (w : World) : Txt w none 0 0 [] := ⟨rfl, ⟨.nil _ _, by simp, fun _ => rfl, fun _ h => by cases h⟩⟩
theorem RetB.len {w w' : World} {n : Nat} {l : List UInt8} {e : Ending} (h : RetB w n l e w') (hn : n = l.length) : ∃ B C, e = .returned (.slice B l.length C) ∧ Txt w' B l.length C l ∧ Below w.heap.size w w' := by
  obtain ⟨B, C, h1, h2, h3⟩ := h.txt hn
  rw [hn] at h1 h2
  exact ⟨B, C, h1, h2, h3⟩
theorem run_load_u64 (w : World) (b o : Nat) (n : Int) (h : w.cell? ⟨b, o, none⟩ = some (.int .u64 n)) : (Instr.loadAt 52 (.pointer (some ⟨b, o, none⟩))).run Tryd.prog w = .ok (.int .u64 n) w := by
  go_simp
theorem run_load_i64 (w : World) (b o : Nat) (n : Int) (h : w.cell? ⟨b, o, none⟩ = some (.int .i64 n)) : (Instr.loadAt 3 (.pointer (some ⟨b, o, none⟩))).run Tryd.prog w = .ok (.int .i64 n) w := by
  go_simp
theorem run_load_str (w : World) (b o : Nat) (s : ByteArray) (h : w.cell? ⟨b, o, none⟩ = some (.string s)) : (Instr.loadAt 9 (.pointer (some ⟨b, o, none⟩))).run Tryd.prog w = .ok (.string s) w := by
  go_simp
theorem run_conv_u64 (w : World) (k : Int) (h0 : 0 ≤ k) (h1 : k < 256) : (convert 3 52 (.int .i64 k)).run Tryd.prog w = .ok (.int .u64 ((k.toNat : Nat) : Int)) w := by
  have hk : Tryd.prog.intKind 52 = .u64 := by kernel_rfl
  have := run_convert_int (P := Tryd.prog) w 3 52 .i64 k (by kernel_rfl) (by rw [hk]; exact Tryd.underlying52)
  rw [hk] at this
  rw [this, show IntKind.u64.wrap k = ((k.toNat : Nat) : Int) from by rw [IntWalk.u64_in _ ⟨h0, by omega⟩]; omega]

set_option maxRecDepth 100000 in
set_option maxHeartbeats 1000000 in
theorem cbytes_bad (n : Int) (at_ : Nat) (k : Int) (s : List UInt8) (w : World) (hv : validB n k s = false) :
    Calls Tryd.prog 35 #[entV n at_ k s] w (RetBE w [] 251) := by
  have hva := Lib.hid fun W => valid_any n at_ k s W
  rw [hv] at hva
  clear hv
  unfold entV at hva ⊢
  obtain ⟨bs, hbs⟩ : ∃ bs : ByteArray, bs = ⟨s.toArray⟩ := ⟨_, rfl⟩
  rw [← hbs] at hva ⊢
  clear hbs
  go_enter Tryd.func35, Tryd.ntmps35
  go_wp2_with fail
  go_at_call 56
  refine (hva.out _).mono ?_
  rintro e w1 ⟨rfl, hB⟩
  have HB := Lib.hid hB
  clear hB
  go_wp2
  go_ret2
  exact ⟨none, 0, rfl, txt_nil _, bthen (low1 _ _) HB.out⟩
set_option maxRecDepth 100000 in
set_option maxHeartbeats 1000000 in
theorem rcbytes_bad (n : Int) (at_ : Nat) (k : Int) (s : List UInt8) (w : World) (hv : validB n k s = false) :
    Calls Tryd.prog 36 #[entV n at_ k s] w (RetBE w [] 251) := by
  have hva := Lib.hid fun W => rright_any n at_ k s W
  rw [hv] at hva
  clear hv
  unfold entV at hva ⊢
  obtain ⟨bs, hbs⟩ : ∃ bs : ByteArray, bs = ⟨s.toArray⟩ := ⟨_, rfl⟩
  rw [← hbs] at hva ⊢
  clear hbs
  go_enter Tryd.func36, Tryd.ntmps36
  go_wp2_with fail
  go_at_call 59
  refine (hva.out _).mono ?_
  rintro e w1 ⟨rfl, hB⟩
  have HB := Lib.hid hB
  clear hB
  go_wp2
  go_ret2
  exact ⟨none, 0, rfl, txt_nil _, bthen (low1 _ _) HB.out⟩
theorem valid_parts {n k : Int} {s : List UInt8} (h : validB n k s = true) : 1 ≤ k ∧ k ≤ 255 ∧ s.length ≤ 512 := by
  unfold validB at h
  simp at h
  omega

set_option maxRecDepth 100000 in
set_option maxHeartbeats 4000000 in
theorem cbytes_any (n : Int) (at_ : Nat) (k : Int) (s : List UInt8) (w : World) (hv : validB n k s = true) (hat : at_ < 18446744073709551616) :
    Calls Tryd.prog 35 #[entV n at_ k s] w (RetBE w (entBytes at_ k s) 0) := by
  obtain ⟨hk1, hk2, hs⟩ := valid_parts hv
  have hva := Lib.hid fun W => valid_any n at_ k s W
  rw [hv] at hva
  clear hv
  obtain ⟨l1, hl1⟩ : ∃ l, l = groups at_ := ⟨_, rfl⟩
  obtain ⟨l2, hl2⟩ : ∃ l, l = groups at_ ++ groups k.toNat := ⟨_, rfl⟩
  obtain ⟨l3, hl3⟩ : ∃ l, l = entBytes at_ k s := ⟨_, rfl⟩
  have n1 : l1.length ≤ 10 := by rw [hl1]; exact groups_len _ hat
  have n2 : l2.length ≤ 20 := by rw [hl2, List.length_append]; have := groups_len at_ hat; have := groups_len k.toNat (by omega); omega
  have c1 := Lib.hid fun W => (putuint_any [] none 0 0 at_ W (txt_nil W) (by omega) hat)
  have c2 := Lib.hid fun W B C (X : Txt W B l1.length C l1) => (putuint_any l1 B l1.length C k.toNat W X (by omega) (by omega))
  have c3 := Lib.hid fun W B C (X : Txt W B l2.length C l2) => (puttext_any l2 s B l2.length C W X (by omega) (by omega))
  have d1 : ([] : List UInt8) ++ groups at_ = l1 := by rw [hl1]; rfl
  have d2 : l1 ++ groups k.toNat = l2 := by rw [hl1, hl2]
  have d3 : l2 ++ groups s.length ++ s = l3 := by rw [hl2, hl3]; rfl
  rw [d1] at c1
  rw [d2] at c2
  rw [d3] at c3
  have e1 : 0 + (groups at_).length = l1.length := by rw [hl1]; simp
  have e2 : l1.length + (groups k.toNat).length = l2.length := by rw [← d2]; simp
  have e3 : l2.length + (groups s.length).length + s.length = l3.length := by rw [← d3]; simp; omega
  rw [e1] at c1
  rw [e2] at c2
  rw [e3] at c3
  rw [← hl3]
  clear d1 d2 d3 e1 e2 e3 hl1 hl2 hl3
  unfold entV at hva ⊢
  obtain ⟨bs, hbs⟩ : ∃ bs : ByteArray, bs = ⟨s.toArray⟩ := ⟨_, rfl⟩
  rw [← hbs] at hva c3 ⊢
  clear hbs hs
  have hkn : ((k.toNat : Nat) : Int) = k := by omega
  have Hkn := Lib.hid hkn
  clear hkn
  have hb0 := blk1 w (.cells #[.int .i64 n, .int .u64 at_, .int .i64 k, .string bs] 54)
  have HB0 := Lib.hid hb0
  clear hb0
  go_enter Tryd.func35, Tryd.ntmps35
  go_wp2_with fail
  go_at_call 56
  refine (hva.out _).mono ?_
  rintro e w1 ⟨rfl, hB⟩
  have HB := Lib.hid hB
  have HE := Lib.hid (bblk hB HB0.out)
  have HL := Lib.hid (bthen (low1 w (.cells #[.int .i64 n, .int .u64 at_, .int .i64 k, .string bs] 54)) hB)
  clear hB
  obtain ⟨g, hg⟩ : ∃ g, g = w.heap.size := ⟨_, rfl⟩
  rw [← hg] at HE ⊢
  have HG := Lib.hid hg
  clear hg
  go_wp2_with fail
  refine wp_region_reg 10 17 (Low) (by kernel_rfl) (by kernel_rfl) (by kernel_rfl) (by kernel_rfl) (by kernel_rfl) (Low.refl) (Low.trans) [.is (.pointer (some ⟨g, 1, none⟩) : Value), .is (.int .u64 at_ : Value), yTxt l1, .is (.pointer (some ⟨g, 2, none⟩) : Value), .is (.int .i64 k : Value), .is (.int .u64 ((k.toNat : Nat) : Int) : Value), yTxt l2, .is (.pointer (some ⟨g, 3, none⟩) : Value), .is (.string bs : Value), yTxt l3] rfl (fun vs => ?_) (fun vs wr hR h => ?_)
  · refine RegHead.cons (fun wr hR h => ?_) ?_
    · exact relAt.pure (Low.refl) (by kernel_rfl) (by kernel_rfl)
    refine RegHead.cons (fun wr hR h => ?_) ?_
    · exact relAt.pureS (Low.refl) (by kernel_rfl) (by kernel_rfl) (run_load_u64 wr g 1 _ (cell_block (bblk (bthen (Low.drew _) hR) HE.out) rfl))
    refine RegHead.cons (fun wr hR h => ?_) ?_
    · refine relAt.call (by kernel_rfl) (by kernel_rfl) ((c1.out wr).mono ?_)
      intro e w9 h9
      obtain ⟨B, C, rfl, hT, hB9⟩ := h9.len rfl
      exact ⟨_, rfl, hB9, B, C, rfl, hT⟩
    refine RegHead.cons (fun wr hR h => ?_) ?_
    · exact relAt.pure (Low.refl) (by kernel_rfl) (by kernel_rfl)
    refine RegHead.cons (fun wr hR h => ?_) ?_
    · exact relAt.pureS (Low.refl) (by kernel_rfl) (by kernel_rfl) (run_load_i64 wr g 2 _ (cell_block (bblk (bthen (Low.drew _) hR) HE.out) rfl))
    refine RegHead.cons (fun wr hR h => ?_) ?_
    · exact relAt.pureS (Low.refl) (by kernel_rfl) (by kernel_rfl) (run_conv_u64 wr k (by omega) (by omega))
    refine RegHead.cons (fun wr hR h => ?_) ?_
    · obtain ⟨B, C, hv9, hT9⟩ : ∃ B C, vs 2 = .slice B l1.length C ∧ Txt wr B l1.length C l1 := allOf_iff.1 h 2 (by decide)
      refine relAt.call (f := 58) (args := #[vs 2, .int .u64 ((k.toNat : Nat) : Int)]) (by kernel_rfl) (by kernel_rfl) ?_
      rw [hv9]
      refine (c2.out wr B C hT9).mono ?_
      intro e w9 h9
      obtain ⟨B, C, rfl, hT, hB9⟩ := h9.len rfl
      exact ⟨_, rfl, hB9, B, C, rfl, hT⟩
    refine RegHead.cons (fun wr hR h => ?_) ?_
    · exact relAt.pure (Low.refl) (by kernel_rfl) (by kernel_rfl)
    refine RegHead.cons (fun wr hR h => ?_) ?_
    · exact relAt.pureS (Low.refl) (by kernel_rfl) (by kernel_rfl) (run_load_str wr g 3 _ (cell_block (bblk (bthen (Low.drew _) hR) HE.out) rfl))
    refine RegHead.cons (fun wr hR h => ?_) ?_
    · obtain ⟨B, C, hv9, hT9⟩ : ∃ B C, vs 6 = .slice B l2.length C ∧ Txt wr B l2.length C l2 := allOf_iff.1 h 6 (by decide)
      refine relAt.call (f := 57) (args := #[vs 6, .string bs]) (by kernel_rfl) (by kernel_rfl) ?_
      rw [hv9]
      refine (c3.out wr B C hT9).mono ?_
      intro e w9 h9
      obtain ⟨B, C, rfl, hT, hB9⟩ := h9.len rfl
      exact ⟨_, rfl, hB9, B, C, rfl, hT⟩
    exact trivial
  · obtain ⟨B, C, hv9, hT9⟩ : ∃ B C, vs 9 = .slice B l3.length C ∧ Txt wr B l3.length C l3 := allOf_iff.1 h 9 (by decide)
    have HT9 := Lib.hid hT9
    have HZ := Lib.hid (bthen HL.out (bthen (Low.drew _) hR))
    clear h hR hT9
    refine wp_frame (new := [(.pointer (some ⟨g, 1, none⟩) : Value), (.int .u64 at_ : Value), vs 2, (.pointer (some ⟨g, 2, none⟩) : Value), (.int .i64 k : Value), (.int .u64 ((k.toNat : Nat) : Int) : Value), vs 6, (.pointer (some ⟨g, 3, none⟩) : Value), (.string bs : Value), vs 9]) 7 17 (by kernel_rfl) ?_
    simp only [List.take, List.drop, List.cons_append, List.nil_append]
    rw [hv9]
    clear hv9
    go_wp2
    go_ret2
    exact ⟨B, C, rfl, HT9.out, HZ.out⟩
set_option maxRecDepth 100000 in
set_option maxHeartbeats 4000000 in
theorem rcbytes_any (n : Int) (at_ : Nat) (k : Int) (s : List UInt8) (w : World) (hv : validB n k s = true) (hat : at_ < 18446744073709551616) :
    Calls Tryd.prog 36 #[entV n at_ k s] w (RetBE w (entBytes at_ k s) 0) := by
  obtain ⟨hk1, hk2, hs⟩ := valid_parts hv
  have hva := Lib.hid fun W => rright_any n at_ k s W
  rw [hv] at hva
  clear hv
  obtain ⟨l1, hl1⟩ : ∃ l, l = groups at_ := ⟨_, rfl⟩
  obtain ⟨l2, hl2⟩ : ∃ l, l = groups at_ ++ groups k.toNat := ⟨_, rfl⟩
  obtain ⟨l3, hl3⟩ : ∃ l, l = entBytes at_ k s := ⟨_, rfl⟩
  have n1 : l1.length ≤ 10 := by rw [hl1]; exact groups_len _ hat
  have n2 : l2.length ≤ 20 := by rw [hl2, List.length_append]; have := groups_len at_ hat; have := groups_len k.toNat (by omega); omega
  have c1 := Lib.hid fun W => (rputuint_any [] none 0 0 at_ W (txt_nil W) (by omega) hat)
  have c2 := Lib.hid fun W B C (X : Txt W B l1.length C l1) => (rputuint_any l1 B l1.length C k.toNat W X (by omega) (by omega))
  have c3 := Lib.hid fun W B C (X : Txt W B l2.length C l2) => (rputtext_any l2 s B l2.length C W X (by omega) (by omega))
  have d1 : ([] : List UInt8) ++ groups at_ = l1 := by rw [hl1]; rfl
  have d2 : l1 ++ groups k.toNat = l2 := by rw [hl1, hl2]
  have d3 : l2 ++ groups s.length ++ s = l3 := by rw [hl2, hl3]; rfl
  rw [d1] at c1
  rw [d2] at c2
  rw [d3] at c3
  have e1 : 0 + (groups at_).length = l1.length := by rw [hl1]; simp
  have e2 : l1.length + (groups k.toNat).length = l2.length := by rw [← d2]; simp
  have e3 : l2.length + (groups s.length).length + s.length = l3.length := by rw [← d3]; simp; omega
  rw [e1] at c1
  rw [e2] at c2
  rw [e3] at c3
  rw [← hl3]
  clear d1 d2 d3 e1 e2 e3 hl1 hl2 hl3
  unfold entV at hva ⊢
  obtain ⟨bs, hbs⟩ : ∃ bs : ByteArray, bs = ⟨s.toArray⟩ := ⟨_, rfl⟩
  rw [← hbs] at hva c3 ⊢
  clear hbs hs
  have hkn : ((k.toNat : Nat) : Int) = k := by omega
  have Hkn := Lib.hid hkn
  clear hkn
  have hb0 := blk1 w (.cells #[.int .i64 n, .int .u64 at_, .int .i64 k, .string bs] 54)
  have HB0 := Lib.hid hb0
  clear hb0
  go_enter Tryd.func36, Tryd.ntmps36
  go_wp2_with fail
  go_at_call 59
  refine (hva.out _).mono ?_
  rintro e w1 ⟨rfl, hB⟩
  have HE := Lib.hid (bblk hB HB0.out)
  have HL := Lib.hid (bthen (low1 w (.cells #[.int .i64 n, .int .u64 at_, .int .i64 k, .string bs] 54)) hB)
  clear hB
  obtain ⟨g, hg⟩ : ∃ g, g = w.heap.size := ⟨_, rfl⟩
  rw [← hg] at HE ⊢
  clear hg
  have f1 : w1.cell? ⟨g, 1, none⟩ = some (.int .u64 at_) := cell_block HE.out rfl
  go_wp2_with fail
  go_at_call 60
  refine (c1.out w1).mono ?_
  intro e w2 h2
  obtain ⟨B1, C1, rfl, hT, hB⟩ := h2.len rfl
  have HT1 := Lib.hid hT
  have HE2 := Lib.hid (bblk hB HE.out)
  have HL2 := Lib.hid (bthen HL.out hB)
  clear h2 hT hB f1
  have f2 : w2.cell? ⟨g, 2, none⟩ = some (.int .i64 k) := cell_block HE2.out rfl
  have hcv := run_conv_u64 w2 k (by omega) (by omega)
  rw [Hkn.out] at hcv
  have hc2 := Lib.hid (c2.out w2 B1 C1 HT1.out)
  rw [Hkn.out] at hc2
  go_wp2_with fail
  go_at_call 60
  refine hc2.out.mono ?_
  intro e w3 h3
  obtain ⟨B2, C2, rfl, hT, hB⟩ := h3.len rfl
  have HT2 := Lib.hid hT
  have HE3 := Lib.hid (bblk hB HE2.out)
  have HL3 := Lib.hid (bthen HL2.out hB)
  clear h3 hT hB f2 hcv
  have f3 : w3.cell? ⟨g, 3, none⟩ = some (.string bs) := cell_block HE3.out rfl
  go_wp2_with fail
  go_at_call 61
  refine (c3.out w3 B2 C2 HT2.out).mono ?_
  intro e w4 h4
  obtain ⟨B3, C3, rfl, hT, hB⟩ := h4.len rfl
  have HT3 := Lib.hid hT
  have HL4 := Lib.hid (bthen HL3.out hB)
  clear h4 hT hB f3
  go_wp2
  go_ret2
  exact ⟨B3, C3, rfl, HT3.out, HL4.out⟩

/-- What both answer. -/
def bytesOf (n : Int) (at_ : Nat) (k : Int) (s : List UInt8) : List UInt8 × Int := if validB n k s then (entBytes at_ k s, 0) else ([], 251)
theorem cbytes_all (n : Int) (at_ : Nat) (k : Int) (s : List UInt8) (w : World) (hat : at_ < 18446744073709551616) : Calls Tryd.prog 35 #[entV n at_ k s] w (RetBE w (bytesOf n at_ k s).1 (bytesOf n at_ k s).2) := by
  unfold bytesOf
  split
  · next h => exact cbytes_any n at_ k s w h hat
  · next h => exact cbytes_bad n at_ k s w (by simpa using h)
theorem rcbytes_all (n : Int) (at_ : Nat) (k : Int) (s : List UInt8) (w : World) (hat : at_ < 18446744073709551616) : Calls Tryd.prog 36 #[entV n at_ k s] w (RetBE w (bytesOf n at_ k s).1 (bytesOf n at_ k s).2) := by
  unfold bytesOf
  split
  · next h => exact rcbytes_any n at_ k s w h hat
  · next h => exact rcbytes_bad n at_ k s w (by simpa using h)
end Go.Proofs.YtpdhgijeanbmcaaDoor

/- Cb -/
namespace Go.Proofs.YtpdhgijeanbmcaaDoor
open Go.RowKit Go.Great

theorem push_fold (l : List UInt8) : ∀ s : ByteArray, ((l.map fun b => (b.toNat : Int)).foldl (fun r n => r.push (UInt8.ofNat n.toNat)) s) = ⟨s.data ++ l.toArray⟩ := by
  induction l with
  | nil => intro s; simp
  | cons b l ih =>
    intro s
    rw [List.map_cons, List.foldl_cons, ih]
    have h1 : UInt8.ofNat ((b.toNat : Int)).toNat = b := by simp
    rw [h1]
    simp [ByteArray.push]
theorem run_string_txt {w : World} {B : Option Addr} {n C : Nat} {l : List UInt8} (h : Txt w B n C l) : (convert 22 9 (.slice B n C)).run Tryd.prog w = .ok (.string ⟨l.toArray⟩) w := by
  rw [run_convert_bytes_string w 22 9 5 B n C Tryd.underlying22 Tryd.underlying5 Tryd.underlying9]
  have hn := h.len
  have hV : ((l.map fun b => (b.toNat : Int)).map (Value.int .u8)) = l.map V8 := by simp [V8]
  cases B with
  | none =>
    have h0 := h.src.nil rfl
    have hc := h.src.cap
    have : l = [] := List.eq_nil_of_length_eq_zero (by omega)
    subst this
    obtain rfl : n = 0 := hn
    rfl
  | some ad =>
    have hld : (loadCells ad l.length).run Tryd.prog w = .ok (l.map V8).toArray w := by
      have := run_loadCells_list (P := Tryd.prog) w ad (l.map V8) (fun j v hj => by
        have hj0 : 0 < (l.map V8).length := by have := (List.getElem?_eq_some_iff.1 hj).1; omega
        obtain ⟨b, o, ha, hc⟩ := h.src.at_.cells.at_ hj0
        obtain rfl := Option.some.inj ha
        rw [Addr.add_lit]
        exact hc j v hj)
      simpa using this
    rw [hn, run_bytesToString w ad l.length C (l.map fun b => (b.toNat : Int)) (by rw [hV]; exact hld), push_fold]
    simp

set_option maxRecDepth 100000 in
set_option maxHeartbeats 2000000 in
theorem cb_law (n : Int) (at_ : Nat) (k : Int) (s : List UInt8) (w : World) (hat : at_ < 18446744073709551616) (hT : Tabs w) :
    Calls Tryd.prog 10 #[entV n at_ k s] w fun e w' => e = .returned (.bool true) ∧ Below w.heap.size w w' := by
  have c1 := Lib.hid fun W => cbytes_all n at_ k s W hat
  have c2 := Lib.hid fun W => rcbytes_all n at_ k s W hat
  obtain ⟨l, x, hlx⟩ : ∃ l x, bytesOf n at_ k s = (l, x) := ⟨_, _, rfl⟩
  rw [hlx] at c1 c2
  clear hlx
  unfold entV at c1 c2 ⊢
  obtain ⟨bs, hbs⟩ : ∃ bs : ByteArray, bs = ⟨s.toArray⟩ := ⟨_, rfl⟩
  rw [← hbs] at c1 c2 ⊢
  clear hbs
  have hb0 := blk1 w (.cells #[.int .i64 n, .int .u64 at_, .int .i64 k, .string bs] 54)
  have HB0 := Lib.hid hb0
  have HL0 := Lib.hid (low1 w (.cells #[.int .i64 n, .int .u64 at_, .int .i64 k, .string bs] 54))
  clear hb0
  go_enter Tryd.func10, Tryd.ntmps10
  go_wp2_with fail
  go_at_call 35
  refine (c1.out _).mono ?_
  rintro e w1 ⟨B1, C1, rfl, hT1, hB⟩
  have HT1 := Lib.hid hT1
  have HE1 := Lib.hid (bblk hB HB0.out)
  have HL1 := Lib.hid (bthen HL0.out hB)
  have f0 : w1.cell? ⟨w.heap.size, 0, none⟩ = some (.int .i64 n) := cell_block HE1.out rfl
  have f1 : w1.cell? ⟨w.heap.size, 1, none⟩ = some (.int .u64 at_) := cell_block HE1.out rfl
  have f2 : w1.cell? ⟨w.heap.size, 2, none⟩ = some (.int .i64 k) := cell_block HE1.out rfl
  have f3 : w1.cell? ⟨w.heap.size, 3, none⟩ = some (.string bs) := cell_block HE1.out rfl
  clear hT1 hB
  go_wp2_with fail
  go_at_call 36
  refine (c2.out _).mono ?_
  rintro e w2 ⟨B2, C2, rfl, hT2, hB⟩
  have HT2 := Lib.hid hT2
  have HL2 := Lib.hid (bthen HL1.out hB)
  have g1 := run_string_txt (HT1.out.below hB)
  have g2 := run_string_txt hT2
  obtain ⟨ls, hls⟩ : ∃ ls : ByteArray, ls = ⟨l.toArray⟩ := ⟨_, rfl⟩
  rw [← hls] at g1 g2
  clear hT2 hB f0 f1 f2 f3 hls
  have hlv := Lib.hid (live_any w2 (hT.below HL2.out))
  go_wp2_with fail
  go_at_call 13
  refine (num_any x _).mono ?_
  rintro e w3 ⟨rfl, rfl⟩
  go_wp2_with fail
  go_at_call 14
  refine hlv.out.mono ?_
  rintro e w4 ⟨rfl, hB⟩
  have HB4 := Lib.hid hB
  clear hB
  go_wp2
  go_ret
  exact ⟨rfl, bthen HL2.out HB4.out⟩
end Go.Proofs.YtpdhgijeanbmcaaDoor

/- Door5 -/
namespace Go.Proofs.YtpdhgijeanbmcaaDoor
open Go.ChangeShapes Go.WideShapes Go.ChangeAt Go.RowKit

section
variable {H : Type} {enc : TypeId × Value → H}
set_option maxRecDepth 100000 in
theorem open_entry {W : World} {base : Nat} {v : Value} {d : DataW H} {p : List MemPlace} (hval : Value.okWide Tryd.prog W .any base 54 v) (h : DataW.Trod enc Tryd.prog W 0 (fun _ => true) true 54 v d p) :
    ∃ (n : Int) (at_ : Nat) (k : Int) (s : List UInt8), v = entV n at_ k s ∧ at_ < 18446744073709551616 := by
  obtain ⟨v0, v1, v2, v3, y0, y1, y2, y3, m, rfl, _, _, h0, h1, h2, h3⟩ := Joins.open_agg4 Tryd.underlying54 (by kernel_rfl) (by kernel_rfl) hval h
  obtain ⟨n, e0, _, _⟩ := DataW.trod_int Tryd.underlying3 h0
  obtain ⟨a, e1, _, hw⟩ := DataW.trod_int Tryd.underlying52 h1
  obtain ⟨k, e2, _, _⟩ := DataW.trod_int Tryd.underlying3 h2
  obtain ⟨s, e3, _, _⟩ := DataW.trod_string Tryd.underlying9 h3
  simp only [List.cons.injEq, and_true] at e0 e1 e2 e3
  subst e0 e1 e2 e3
  have hr : 0 ≤ a ∧ a ≤ 18446744073709551615 := by
    simp only [Lit.wf, Bool.and_eq_true, decide_eq_true_eq] at hw
    exact hw
  refine ⟨n, a.toNat, k, s.data.toList, ?_, by omega⟩
  unfold entV
  have : ((a.toNat : Nat) : Int) = a := by omega
  rw [this]
end
end Go.Proofs.YtpdhgijeanbmcaaDoor

/- CbCard -/
namespace Go.Proofs.YtpdhgijeanbmcaaDoor.chainBytes
open Go.ChangeShapes Go.WideShapes Go.ChangeAt Go.RowKit

theorem contract (H : Type) (enc : TypeId × Value → H) (W : World) (base : Nat) (args : Array Value) (ds gs : List (DataW H)) (before : List MemPlace)
    (hval : ∀ (j : Nat) t v, Tryd.f10.params[j]? = some t → args[j]? = some v → Value.okWide Tryd.prog W .any base t v)
    (hW : DataW.Whole enc Tryd.prog Tryd.f10.params.toList Rows.chainBytesSpec.vars false W args.toList ds gs before) (hL : laidMetH Tryd.prog laidL W) :
    Calls Tryd.prog 10 args W fun e W' => ∃ v, e = .returned v ∧ Rows.chainBytesSpec.post enc Tryd.prog Tryd.f10 false true false false W args v W' := by
  have hW' := hW
  obtain ⟨p, q, hA0, hV, rfl, hfz, hnd⟩ := hW
  have hA : DataW.TrodAll enc Tryd.prog W 0 (fun _ => true) true Tryd.f10.params.toList args.toList ds p := hA0
  rw [Tryd.params10] at hA hval
  obtain ⟨v0, vs0, d0, ds0, p0, q0, hargs0, rfl, rfl, h0, r0⟩ := trodAll_cons hA
  obtain ⟨rfl, rfl, rfl⟩ := trodAll_nil r0
  obtain rfl : args = #[v0] := by cases args; simp_all
  obtain ⟨rfl, rfl⟩ := trodVars_none hV
  obtain ⟨n0, at0, k0, s0, rfl, hat0⟩ := open_entry (hval 0 54 v0 rfl rfl) h0
  refine (cb_law n0 at0 k0 s0 W hat0 (tabs_of_laid hL)).mono fun e W' ⟨he, hB⟩ => ?_
  subst he
  exact ⟨_, rfl, post_law rfl hW' rfl rfl rfl (by kernel_rfl) hB (fun t ht => by
    have h : t ∈ [54] := ht
    simp only [List.mem_cons, List.not_mem_nil, or_false] at h
    rcases h with rfl <;> exact ⟨by kernel_rfl, of_decide_eq_true (by kernel_rfl)⟩)⟩

def ent0 : Value := .agg #[Value.int .i64 0, Value.int .u64 0, Value.int .i64 0, Value.string ByteArray.empty]
def entd {H : Type} : DataW H := .agg [.lit (.int .i64 0), .lit (.int .u64 0), .lit (.int .i64 0), .lit (.string [])]
theorem reads (os : Os) {H : Type} (enc : TypeId × Value → H) : ∃ places, DataW.whole enc Tryd.prog ((laidWorld os).forCall (fun _ _ => 0) ⟨#[], (#[ent0] : Array Value), []⟩).memory Tryd.f10.params.toList Rows.chainBytesSpec.vars false (#[ent0] : Array Value).toList 8 = some ([entd], [], places) :=
  ⟨[], by kernel_rfl⟩

set_option maxRecDepth 100000 in
theorem lifted (os : Os) (started : os.Started) (H : Type) (enc : TypeId × Value → H) (F : Stop.Interp) :
    ReturnsInHanded {} Tryd.checked os 10 .any ((OpenSpec.ofChange Rows.chainBytesSpec).preRow enc Tryd.prog Tryd.f10 Rows.chainBytesRow.domain false Rows.chainBytesRow.laid) (((OpenSpec.ofChange Rows.chainBytesSpec).at F).post enc Tryd.prog Tryd.f10 false true false false) := by
  obtain ⟨places, hx⟩ := reads os enc
  refine returnsInHanded_of_row (C := Tryd.checked) (s := OpenSpec.ofChange Rows.chainBytesSpec) own started (by kernel_rfl) Tryd.func10
    (witness_row_at (enc := enc) (C := Tryd.checked) false (laidWorld os) #[ent0] rfl (by kernel_rfl) (by kernel_rfl) (by kernel_rfl)
      (OpenSpec.preRow_of_cond 8 hx (by kernel_rfl) (fun k hk => by cases hk) (by kernel_rfl) (laid_met os _))) ?_
  intro W base args ds gs before hval hW _ _ _ hL _ _
  exact contract H enc W base args ds gs before hval hW hL

theorem said : Rows.ChainBytesSaid :=
  OpenClaim.holds_of_cond 10 Tryd.f10 rfl rfl rfl rfl rfl rfl rfl ⟨rfl, rfl, rfl, rfl, rfl⟩ rfl rfl rfl rfl rfl (by kernel_rfl) Tryd.func10 (by kernel_rfl)
    (of_decide_eq_true (by kernel_rfl)) (by unfold Func.isWrapper; first | (rw [if_pos (by decide +kernel)]; kernel_rfl) | (rw [if_neg (by decide +kernel)]; exact ⟨rfl, rfl⟩))
    (fun os started H enc _ F => by rw [OpenClaim.pre_eq_preRow]; exact lifted os started H enc F)

theorem plain (f : FuncId) (fn : Func) (hf : Tryd.pinned.checked.prog.funcNamed "wicket/wicketlaw25.ChainBytes" = some f) (hfn : Tryd.pinned.checked.prog.funcs[f]? = some fn) :
    false = Tryd.pinned.checked.prog.looks [] ∧ ∀ (j : Nat) t, fn.params[j]? = some t → Tryd.pinned.checked.prog.wantsStandIn t = false := by
  obtain rfl : f = 10 := Option.some.inj ((show Tryd.prog.funcNamed "wicket/wicketlaw25.ChainBytes" = some 10 by kernel_rfl).symm.trans hf) |>.symm
  obtain rfl : fn = Tryd.f10 := (Option.some.inj (Tryd.func10.symm.trans hfn)).symm
  refine ⟨by kernel_rfl, fun j t ht => ?_⟩
  rw [Tryd.params10] at ht
  have hm := Array.mem_of_getElem? ht
  simp only [List.mem_toArray, List.mem_cons, List.not_mem_nil, or_false] at hm
  rcases hm with rfl
  · exact (show Tryd.prog.wantsStandIn 54 = false by kernel_rfl)

/-- THE CARD. -/
theorem card : Rows.ChainBytesCardSaid :=
  Claim7.holds_tied_plain_at .later [] _ _ _ _ said (fun _ h => by cases h) (by kernel_rfl) (fun _ h => by cases h) chainBytes_row_tie rfl ⟨rfl, rfl⟩ (by kernel_rfl) rfl plain (by kernel_rfl)
end Go.Proofs.YtpdhgijeanbmcaaDoor.chainBytes
