/- (*Hash).Write: what was taken is taken behind what had been taken. -/
import Derived.Lib.AppendZerosOnto
import Derived.Laws.CopyOwn
import Derived.Test.YtgpenpnobjecgaaGreatDoorJWalSafeCard1
import Derived.Test.YtgpenpnobjecgaaGreatDoorJWalSafeCard2
import Derived.Test.YtgpenpnobjecgaaGreatDoorJWalSafeCard3
/- Ref02b -/
namespace Go.Proofs.YtgpenpnobjecgaaGreatDoor
set_option maxRecDepth 100000
open Go.RowKit

theorem in_heap {w : World} {b : Nat} {o : Obj} (h : w.heap[b]? = some o) : b < w.heap.size := (Array.getElem?_eq_some_iff.1 h).1
theorem reg_size (q : Sha.Reg) : (q.list.map V32).toArray.size = 8 := rfl
theorem take_blocks (r : Sha.Reg) (l : List UInt8) (i : Nat) (h : 64 * i + 64 ≤ l.length) :
    Sha.turn (Sha.blocks r (l.take (64 * i))) (fun j => l.getD (64 * i + j) 0) = Sha.blocks r (l.take (64 * (i + 1))) := by
  have e : l.take (64 * (i + 1)) = l.take (64 * i) ++ (l.drop (64 * i)).take 64 := by rw [← List.take_add]; congr 1
  have h1 : (l.take (64 * i)).length = 64 * i := by simp; omega
  have h2 : ((l.drop (64 * i)).take 64).length = 64 := by simp; omega
  rw [e, Sha.blocks_last _ _ _ (by omega) h2]
  apply Sha.turn_congr
  intro j hj
  simp [List.getD, hj]
theorem all_blocks (r : Sha.Reg) (l : List UInt8) (i : Nat) (h : ¬ 64 * i + 64 ≤ l.length) (hi : 64 * i ≤ l.length) : Sha.blocks r (l.take (64 * i)) = Sha.blocks r l := by
  have e : l = l.take (64 * i) ++ l.drop (64 * i) := (List.take_append_drop _ _).symm
  conv => rhs; rw [e]
  rw [Sha.blocks_rest _ _ _ (by simp; omega) (by simp; omega)]

structure BRel (w : World) (r : Sha.Reg) (l : List UInt8) (i : Nat) (wr : World) : Prop where
  le : 64 * i ≤ l.length
  reg : ∃ t, wr.heap[w.heap.size]? = some (.cells ((Sha.blocks r (l.take (64 * i))).list.map V32).toArray t (0, 0))
  out : Arr wr (w.heap.size + 1) 8 (fun _ => V32 0)
  low : Below w.heap.size w wr
def BAt (w : World) (r : Sha.Reg) (l : List UInt8) (v : Value) (wr : World) : Prop := ∃ i : Nat, v = .int .i64 ((64 * i : Nat) : Int) ∧ BRel w r l i wr
theorem BAt.start (t1 t2 : TypeId) (w : World) (r : Sha.Reg) (l : List UInt8) : BAt w r l (.int .i64 0) ((w.alloc (.cells (r.list.map V32).toArray t1)).alloc (.cells (zeros 8) t2)) := by
  have e1 : ∀ o, w.heap.size + 1 = (w.alloc o).heap.size := fun o => by simp
  refine ⟨0, rfl, by omega, ⟨t1, ?_⟩, ?_, ((Below.refl _ _).alloc (Nat.le_refl _) _).alloc (by simp) _⟩
  · rw [Sha.blocks_short _ _ (by simp)]
    exact heap_alloc2_old _ _ _
  · rw [e1]
    exact arr_new (by simp [zeros]) fun j hj => by rw [zeros, List.getElem?_toArray, List.getElem?_replicate, if_pos hj]

/-! ### Total and Sum -/
theorem Acc.lit' {e size : Nat} {w0 w : World} {base g : Nat} (hg : g = w.heap.size) (cs : Array Value) (n : Nat) (hb : Below base w0 w) (hl : base ≤ w.heap.size) (hm : n ≤ maxLen) (hs : cs.size = n * size) :
    Acc e size w0 (w.alloc (.cells cs e)) base (some ⟨g, 0, none⟩) n n cs.toList := by
  subst hg
  exact Acc.lit w base w0 cs n hb hl hm hs
theorem rpad_next (l : List UInt8) (z : Nat) : (l ++ 0x80 :: List.replicate z 0).map V8 ++ [V8 0] = (l ++ 0x80 :: List.replicate (z + 1) 0).map V8 := by
  simp [List.replicate_succ']
theorem rpad_end (l : List UInt8) : (l ++ 0x80 :: List.replicate ((119 - l.length % 64) % 64) 0) ++ Sha.eight (8 * l.length) = l ++ Sha.pad l.length := by
  simp [Sha.pad]
/-- The text that is filled up, w2 being the world in which that was begun. -/
def TAt (w2 : World) (base : Nat) (l : List UInt8) (m : Nat) (v : Value) (wr : World) : Prop :=
  ∃ z B C, z ≤ (119 - m % 64) % 64 ∧ v = .slice B (m + 1 + z) C ∧ Acc 5 1 w2 wr base B C (m + 1 + z) ((l ++ 0x80 :: List.replicate z 0).map V8)
theorem box_reg {w : World} {b : Nat} {r : Sha.Reg} {x y : Value} {t : TypeId} {fr : Nat × Nat} (h : w.heap[b]? = some (.cells #[V32 r.a, V32 r.b, V32 r.c, V32 r.d, V32 r.e, V32 r.f, V32 r.g, V32 r.h, x, y] t fr)) :
    w.cell? ⟨b, 0, none⟩ = some (V32 r.a) ∧ w.cell? ⟨b, 1, none⟩ = some (V32 r.b) ∧ w.cell? ⟨b, 2, none⟩ = some (V32 r.c) ∧ w.cell? ⟨b, 3, none⟩ = some (V32 r.d) ∧
    w.cell? ⟨b, 4, none⟩ = some (V32 r.e) ∧ w.cell? ⟨b, 5, none⟩ = some (V32 r.f) ∧ w.cell? ⟨b, 6, none⟩ = some (V32 r.g) ∧ w.cell? ⟨b, 7, none⟩ = some (V32 r.h) :=
  ⟨cell_block h rfl, cell_block h rfl, cell_block h rfl, cell_block h rfl, cell_block h rfl, cell_block h rfl, cell_block h rfl, cell_block h rfl⟩
theorem rpad_len (l : List UInt8) (m z : Nat) (hm : m = l.length) (hz : z = (119 - m % 64) % 64) : m + 1 + z + 8 = (l ++ Sha.pad m).length ∧ (l ++ 0x80 :: List.replicate z 0).map V8 ++ (Sha.eight (8 * m)).map V8 = (l ++ Sha.pad m).map V8 := by
  subst hm hz
  refine ⟨by rw [List.length_append]; simp [Sha.pad, Sha.eight]; omega, by rw [← rpad_end]; simp⟩
def sumW (r : Sha.Reg) (k : Nat) (j : Nat) : Value := if j < k then byteF (Sha.bytes r) j else V8 0

def CAt (w6 : World) (r : Sha.Reg) (i : Value) (wr : World) : Prop := ∃ k : Nat, k ≤ 32 ∧ i = .int .i64 k ∧ Arr wr w6.heap.size 32 (sumW r k) ∧ Below w6.heap.size w6 wr
theorem CAt.start (w6 : World) (r : Sha.Reg) (t : TypeId) : CAt w6 r (.int .i64 0) (w6.alloc (.cells (zeros8 32) t)) :=
  ⟨0, by omega, rfl, arr_new (zeros8_size 32) fun j hj => by rw [zeros8_at 32 j hj]; simp [sumW], (Below.refl _ _).alloc (Nat.le_refl _) _⟩
theorem CAt.next {w6 wr : World} {r : Sha.Reg} {k : Nat} (hk : k < 32) (h : Arr wr w6.heap.size 32 (sumW r k)) (hB : Below w6.heap.size w6 wr) :
    CAt w6 r (.int .i64 ((k : Int) + 1)) (wr.setCell ⟨w6.heap.size, k, none⟩ (byteF (Sha.bytes r) k)) :=
  ⟨k + 1, by omega, by go_num, (h.set k _ hk).ext fun j _ => by
    unfold sumW
    by_cases e : j = k
    · subst e; simp
    · rw [if_neg e]
      by_cases e2 : j < k
      · rw [if_pos e2, if_pos (by omega)]
      · rw [if_neg e2, if_neg (by omega)], hB.setCell (Nat.le_refl _) _⟩

end Go.Proofs.YtgpenpnobjecgaaGreatDoor

/- Heap -/
namespace Go.Proofs.YtgpenpnobjecgaaGreatDoor
set_option maxRecDepth 100000
open Go.RowKit

theorem size_alloc (w : World) (o : Obj) : (w.alloc o).heap.size = w.heap.size + 1 := by simp
theorem at_new (w : World) (o : Obj) {n : Nat} (h : n = w.heap.size) : (w.alloc o).heap[n]? = some o := by rw [h]; exact heap_alloc_new _ _
theorem at_old {w : World} (o : Obj) {n : Nat} {x : Obj} (h : w.heap[n]? = some x) : (w.alloc o).heap[n]? = some x := (heap_alloc_old w o (in_heap h)).trans h
section
variable (w : World) (o1 o2 o3 o4 o5 : Obj)
theorem blk1 : (w.alloc o1).heap[w.heap.size]? = some o1 := at_new _ _ rfl
theorem blk2 : ((w.alloc o1).alloc o2).heap[w.heap.size]? = some o1 ∧ ((w.alloc o1).alloc o2).heap[w.heap.size + 1]? = some o2 := ⟨at_old _ (blk1 _ _), at_new _ _ (by simp)⟩
theorem blk3 : (((w.alloc o1).alloc o2).alloc o3).heap[w.heap.size]? = some o1 ∧ (((w.alloc o1).alloc o2).alloc o3).heap[w.heap.size + 1]? = some o2 ∧ (((w.alloc o1).alloc o2).alloc o3).heap[w.heap.size + 1 + 1]? = some o3 :=
  ⟨at_old _ (blk2 _ _ _).1, at_old _ (blk2 _ _ _).2, at_new _ _ (by simp)⟩
theorem blk4 : ((((w.alloc o1).alloc o2).alloc o3).alloc o4).heap[w.heap.size]? = some o1 ∧ ((((w.alloc o1).alloc o2).alloc o3).alloc o4).heap[w.heap.size + 1]? = some o2 ∧ ((((w.alloc o1).alloc o2).alloc o3).alloc o4).heap[w.heap.size + 1 + 1]? = some o3 ∧
    ((((w.alloc o1).alloc o2).alloc o3).alloc o4).heap[w.heap.size + 1 + 1 + 1]? = some o4 :=
  ⟨at_old _ (blk3 _ _ _ _).1, at_old _ (blk3 _ _ _ _).2.1, at_old _ (blk3 _ _ _ _).2.2, at_new _ _ (by simp)⟩
theorem blk5 : (((((w.alloc o1).alloc o2).alloc o3).alloc o4).alloc o5).heap[w.heap.size]? = some o1 ∧ (((((w.alloc o1).alloc o2).alloc o3).alloc o4).alloc o5).heap[w.heap.size + 1]? = some o2 ∧
    (((((w.alloc o1).alloc o2).alloc o3).alloc o4).alloc o5).heap[w.heap.size + 1 + 1]? = some o3 ∧ (((((w.alloc o1).alloc o2).alloc o3).alloc o4).alloc o5).heap[w.heap.size + 1 + 1 + 1]? = some o4 ∧
    (((((w.alloc o1).alloc o2).alloc o3).alloc o4).alloc o5).heap[w.heap.size + 1 + 1 + 1 + 1]? = some o5 :=
  ⟨at_old _ (blk4 _ _ _ _ _).1, at_old _ (blk4 _ _ _ _ _).2.1, at_old _ (blk4 _ _ _ _ _).2.2.1, at_old _ (blk4 _ _ _ _ _).2.2.2, at_new _ _ (by simp)⟩
theorem low1 : Below w.heap.size w (w.alloc o1) := (Below.refl _ _).alloc (Nat.le_refl _) _
theorem low2 : Below w.heap.size w ((w.alloc o1).alloc o2) := (low1 _ _).alloc (by simp) _
theorem low3 : Below w.heap.size w (((w.alloc o1).alloc o2).alloc o3) := (low2 _ _ _).alloc (by simp; omega) _
theorem low4 : Below w.heap.size w ((((w.alloc o1).alloc o2).alloc o3).alloc o4) := (low3 _ _ _ _).alloc (by simp; omega) _
theorem low5 : Below w.heap.size w (((((w.alloc o1).alloc o2).alloc o3).alloc o4).alloc o5) := (low4 _ _ _ _ _).alloc (by simp; omega) _
end
/-- One step upon another: what lies below the first world's end stays. -/
theorem bnext {w w1 w2 : World} {n : Nat} (h : Below n w w1) (hn : n ≤ w.heap.size) (h2 : Below w1.heap.size w1 w2) : Below n w w2 := h.trans (h2.mono (Nat.le_trans hn h.size))
theorem bthen {w w1 w2 : World} (h : Below w.heap.size w w1) (h2 : Below w1.heap.size w1 w2) : Below w.heap.size w w2 := bnext h (Nat.le_refl _) h2
theorem bblk {w w1 : World} (h : Below w.heap.size w w1) {b : Nat} {o : Obj} (hb : w.heap[b]? = some o) : w1.heap[b]? = some o := (h.block _ (in_heap hb)).trans hb
/-- A block that is new is written. -/
theorem brow {w w1 : World} (h : Below w.heap.size w w1) {b : Nat} (hb : w.heap.size ≤ b) (cs : Array Value) : Below w.heap.size w (w1.setRow b cs) := Go.Proofs.YtgpenpnobjecgaaGreatDoor.below_setRow h hb _
end Go.Proofs.YtgpenpnobjecgaaGreatDoor

/- Low -/
namespace Go.Proofs.YtgpenpnobjecgaaGreatDoor
set_option maxRecDepth 100000
open Go.RowKit

/-- Nothing old is written. -/
def Low (w w' : World) : Prop := Below w.heap.size w w'
theorem Low.refl (w : World) : Low w w := Below.refl _ _
theorem Low.trans (w w' w'' : World) (h : Low w w') (h' : Low w' w'') : Low w w'' := bthen h h'
theorem Low.drew (w : World) : Low w w.drew := (Below.refl _ _).drew
/-- A new row, as a slice of its whole. -/
def pRow (n : Nat) (cs : Array Value) (t : TypeId) : Post Low := ⟨fun v w => ∃ b, v = .slice (some ⟨b, 0, none⟩) n n ∧ w.heap[b]? = some (.cells cs t (0, 0)), fun _ _ _ ⟨b, e, h⟩ hl => ⟨b, e, bblk hl h⟩⟩
end Go.Proofs.YtgpenpnobjecgaaGreatDoor

/- Cat -/
namespace Go.Proofs.YtgpenpnobjecgaaGreatDoor
set_option maxRecDepth 100000
open Go.RowKit

theorem info_u8i : ∃ i, Tryz.prog.info? 5 = some i ∧ i.zero = some (.int .u8 0) ∧ i.size = 1 ∧ i.bytes = 1 := ⟨_, rfl, rfl, rfl, rfl⟩

/-! ### Concat -/
structure Part where
  a : Option Addr
  c : Nat
  l : List UInt8
def tot (ps : List Part) (k : Nat) : Nat := ((ps.take k).map (·.l.length)).sum
def cat (ps : List Part) (k : Nat) : List UInt8 := (ps.take k).flatMap (·.l)
theorem cat_length (ps : List Part) (k : Nat) : (cat ps k).length = tot ps k := by rw [cat, tot, List.length_flatMap]
theorem tot_succ (ps : List Part) (k : Nat) (h : k < ps.length) : tot ps (k + 1) = tot ps k + ps[k].l.length := by
  rw [tot, List.take_succ_eq_append_getElem h, List.map_append, List.sum_append]; rfl
theorem cat_succ (ps : List Part) (k : Nat) (h : k < ps.length) : cat ps (k + 1) = cat ps k ++ ps[k].l := by
  rw [cat, List.take_succ_eq_append_getElem h, List.flatMap_append]; simp [cat]
theorem tot_le (ps : List Part) (k : Nat) (h : k ≤ ps.length) : tot ps k ≤ tot ps ps.length := by
  obtain ⟨d, hd⟩ : ∃ d, ps.length = k + d := ⟨ps.length - k, by omega⟩
  rw [hd]
  clear h
  induction d generalizing k with
  | zero => exact Nat.le_refl _
  | succ d ih =>
    have := ih (k + 1) (by omega)
    have := tot_succ ps k (by omega)
    rw [show k + (d + 1) = k + 1 + d by omega]
    omega
structure Parts (w : World) (b : Nat) (ps : List Part) : Prop where
  lt : b < w.heap.size
  at_ : ∀ k (h : k < ps.length), w.cell? ⟨b, k, none⟩ = some (.slice ps[k].a ps[k].l.length ps[k].c)
  src : ∀ k (h : k < ps.length), Src w ps[k].a ps[k].c ps[k].l
theorem Parts.below {w w' : World} {b : Nat} {ps : List Part} (h : Parts w b ps) (hb : Below w.heap.size w w') : Parts w' b ps :=
  ⟨Nat.lt_of_lt_of_le h.lt hb.size, fun k hk => (hb.cell (p := ⟨b, k, none⟩) h.lt).trans (h.at_ k hk), fun k hk => (h.src k hk).below hb⟩

end Go.Proofs.YtgpenpnobjecgaaGreatDoor

/- WriteB -/
namespace Go.Proofs.YtgpenpnobjecgaaGreatDoor
set_option maxRecDepth 100000
open Go.RowKit

theorem hash_size (r : Sha.Reg) (rest : List UInt8) (n : Nat) (h : rest.length = 64) : (hashCells r rest n).size = 73 := by simp [hashCells, Sha.Reg.list, h]
theorem hash_taken (r : Sha.Reg) (rest : List UInt8) (n : Nat) (h : rest.length = 64) : (hashCells r rest n)[72]? = some (.int .u64 (n : Int)) := by
  simp [hashCells, Sha.Reg.list, h]
theorem hash_reg (r : Sha.Reg) (rest : List UInt8) (n j : Nat) (hj : j < 8) : (hashCells r rest n)[j]? = some (regF r j) := by
  have : j = 0 ∨ j = 1 ∨ j = 2 ∨ j = 3 ∨ j = 4 ∨ j = 5 ∨ j = 6 ∨ j = 7 := by omega
  rcases this with rfl | rfl | rfl | rfl | rfl | rfl | rfl | rfl <;> rfl
theorem hash_rest (r : Sha.Reg) (rest : List UInt8) (n j : Nat) (h : rest.length = 64) (hj : j < 64) : (hashCells r rest n)[8 + j]? = some (byteF rest j) := by
  simp only [hashCells, Sha.Reg.list, List.map_cons, List.map_nil, List.cons_append, List.nil_append]
  rw [show 8 + j = j + 1 + 1 + 1 + 1 + 1 + 1 + 1 + 1 from by omega]
  simp [byteF, List.getElem?_append, h, hj]

/-- The block b is a Hash that has taken L. -/
structure HashIs (w : World) (b : Nat) (A q rest : List UInt8) (t : TypeId) : Prop where
  whole : A.length % 64 = 0
  short : q.length < 64
  len : rest.length = 64
  same : ∀ j, j < q.length → rest.getD j 0 = q.getD j 0
  heap : w.heap[b]? = some (.cells (hashCells (Sha.blocks Sha.init A) rest (A ++ q).length) t (0, 0))
def HashAt (w : World) (b : Nat) (L : List UInt8) : Prop := ∃ A q rest t, L = A ++ q ∧ HashIs w b A q rest t

theorem hash_cells {w : World} {b n : Nat} {r : Sha.Reg} {rest : List UInt8} {t : TypeId} (h : w.heap[b]? = some (.cells (hashCells r rest n) t (0, 0))) :
    w.cell? ⟨b, 0, none⟩ = some (V32 r.a) ∧ w.cell? ⟨b, 1, none⟩ = some (V32 r.b) ∧ w.cell? ⟨b, 2, none⟩ = some (V32 r.c) ∧ w.cell? ⟨b, 3, none⟩ = some (V32 r.d) ∧
    w.cell? ⟨b, 4, none⟩ = some (V32 r.e) ∧ w.cell? ⟨b, 5, none⟩ = some (V32 r.f) ∧ w.cell? ⟨b, 6, none⟩ = some (V32 r.g) ∧ w.cell? ⟨b, 7, none⟩ = some (V32 r.h) ∧ ∀ j, w.frozen? ⟨b, j, none⟩ = false :=
  ⟨cell_block h (hash_reg r rest n 0 (by omega)), cell_block h (hash_reg r rest n 1 (by omega)), cell_block h (hash_reg r rest n 2 (by omega)), cell_block h (hash_reg r rest n 3 (by omega)),
   cell_block h (hash_reg r rest n 4 (by omega)), cell_block h (hash_reg r rest n 5 (by omega)), cell_block h (hash_reg r rest n 6 (by omega)), cell_block h (hash_reg r rest n 7 (by omega)), fun j => frozen_of_row w b j _ t h⟩

/-- The register is written anew, cell by cell. -/
def setReg (w : World) (b : Nat) (r : Sha.Reg) : World :=
  (((((((w.setCell ⟨b, 0, none⟩ (V32 r.a)).setCell ⟨b, 1, none⟩ (V32 r.b)).setCell ⟨b, 2, none⟩ (V32 r.c)).setCell ⟨b, 3, none⟩ (V32 r.d)).setCell ⟨b, 4, none⟩ (V32 r.e)).setCell ⟨b, 5, none⟩ (V32 r.f)).setCell
    ⟨b, 6, none⟩ (V32 r.g)).setCell ⟨b, 7, none⟩ (V32 r.h)
theorem setReg_heap {w : World} {b n : Nat} {r : Sha.Reg} {rest : List UInt8} {t : TypeId} (h : w.heap[b]? = some (.cells (hashCells r rest n) t (0, 0))) (r' : Sha.Reg) :
    (setReg w b r').heap[b]? = some (.cells (hashCells r' rest n) t (0, 0)) := by
  unfold setReg
  rw [heap_setCell_same _ _ _ _ _ _ (heap_setCell_same _ _ _ _ _ _ (heap_setCell_same _ _ _ _ _ _ (heap_setCell_same _ _ _ _ _ _ (heap_setCell_same _ _ _ _ _ _ (heap_setCell_same _ _ _ _ _ _ (heap_setCell_same _ _ _ _ _ _ (heap_setCell_same _ _ _ _ _ _ h)))))))]
  simp [hashCells, Sha.Reg.list]
theorem setReg_grown (w : World) (b : Nat) (r : Sha.Reg) : w.grownBy (setReg w b r) (some b) := by
  unfold setReg
  exact grownBy_trans (grownBy_trans (grownBy_trans (grownBy_trans (grownBy_trans (grownBy_trans (grownBy_trans (grownBy_setCell _ _ _ _) (grownBy_setCell _ _ _ _)) (grownBy_setCell _ _ _ _)) (grownBy_setCell _ _ _ _)) (grownBy_setCell _ _ _ _)) (grownBy_setCell _ _ _ _)) (grownBy_setCell _ _ _ _)) (grownBy_setCell _ _ _ _)
theorem setTaken_heap {w : World} {b n : Nat} {r : Sha.Reg} {rest : List UInt8} {t : TypeId} (h : w.heap[b]? = some (.cells (hashCells r rest n) t (0, 0))) (hl : rest.length = 64) (n' : Nat) :
    (w.setCell ⟨b, 72, none⟩ (.int .u64 (n' : Int))).heap[b]? = some (.cells (hashCells r rest n') t (0, 0)) := by
  rw [heap_setCell_same _ _ _ _ _ _ h]
  simp [hashCells, Sha.Reg.list, hl]

structure WRel (w : World) (hb : Nat) (L l : List UInt8) (i : Nat) (A : Option Addr) (C : Nat) (wr : World) : Prop where
  le : i ≤ l.length
  cap : l.length - i ≤ C
  src : BytesAt wr A (l.drop i)
  ne : ∀ ad, A = some ad → ad.block ≠ hb
  hash : HashAt wr hb (L ++ l.take i)
  grown : w.grownBy wr (some hb)
def WAt (w : World) (hb : Nat) (L l : List UInt8) (v : Value) (wr : World) : Prop := ∃ i A C, v = .slice A (l.length - i) C ∧ WRel w hb L l i A C wr

theorem regrown {w : World} {b : Nat} (h : w.heap[b]? ≠ none) : b < w.heap.size := by
  rcases Nat.lt_or_ge b w.heap.size with h' | h'
  · exact h'
  · exact absurd (Array.getElem?_eq_none h') h

/-- A whole block was taken at once. -/
theorem path_whole {w wr w1 : World} {hb i m n C : Nat} {b o : Nat} {L l A q rest : List UInt8} {t : TypeId} {p : Nat → UInt8} (hL : L ++ l.take i = A ++ q) (hq : q.length = 0) (hm : m = l.length - i) (h64 : 64 ≤ m)
    (hn : n = (A ++ q).length) (R : WRel w hb L l i (some ⟨b, o, none⟩) C wr) (I : HashIs wr hb A q rest t) (hp : p = fun j => (l.drop i).getD j 0) (hB : Below wr.drew.heap.size wr.drew w1) :
    WAt w hb L l (.slice (if C = 64 then some ⟨b, o, none⟩ else some ⟨b, o + 64, none⟩) (m - 64) (C - 64)) ((setReg w1 hb (Sha.turn (Sha.blocks Sha.init A) p)).setCell ⟨hb, 72, none⟩ (.int .u64 ((n : Int) + 64))) := by
  obtain rfl : q = [] := List.eq_nil_of_length_eq_zero hq
  have hle := R.le
  have hcap := R.cap
  have hbt : hb < wr.heap.size := regrown (by rw [I.heap]; simp)
  have hheap : w1.heap[hb]? = some (.cells (hashCells (Sha.blocks Sha.init A) rest (A ++ []).length) t (0, 0)) := (hB.block hb hbt).trans I.heap
  have hck : ((l.drop i).take 64).length = 64 := by simp; omega
  have h2 := setTaken_heap (setReg_heap hheap (Sha.turn (Sha.blocks Sha.init A) p)) I.len (n + 64)
  have e72 : ((n + 64 : Nat) : Int) = (n : Int) + 64 := by omega
  rw [e72] at h2
  have hw1 : wr.grownBy w1 (some hb) := grownBy_below (w := wr) ⟨hB.os, hB.tape, hB.output, hB.size, hB.block⟩ _
  have hw2 : w1.grownBy ((setReg w1 hb (Sha.turn (Sha.blocks Sha.init A) p)).setCell ⟨hb, 72, none⟩ (.int .u64 ((n : Int) + 64))) (some hb) := grownBy_trans (setReg_grown _ _ _) (grownBy_setCell _ _ _ _)
  have hne2 : ∀ ad, (if C = 64 then (some ⟨b, o, none⟩ : Option Addr) else some ⟨b, o + 64, none⟩) = some ad → ad.block ≠ hb := by
    intro ad had
    have hb' : ad.block = b := by
      split at had <;> (obtain rfl := Option.some.inj had; rfl)
    rw [hb']
    exact R.ne _ rfl
  refine ⟨i + 64, _, _, by rw [show m - 64 = l.length - (i + 64) from by omega], ⟨by omega, by omega, ?_, hne2, ?_, grownBy_trans R.grown (grownBy_trans hw1 hw2)⟩⟩
  · have hs := R.src.drop (C := C) (by simp; omega) 64 (by simp; omega)
    rw [List.drop_drop] at hs
    have e : (if C = 64 then (some ⟨b, o, none⟩ : Option Addr) else Option.map (fun x : Addr => x.add 64) (some ⟨b, o, none⟩)) = if C = 64 then some ⟨b, o, none⟩ else some ⟨b, o + 64, none⟩ := by
      simp [Addr.add_lit]
    rw [e] at hs
    exact (hs.grown hw1 hne2).grown hw2 hne2
  · refine ⟨A ++ (l.drop i).take 64, [], rest, t, ?_, ?_, by simp, I.len, by simp, ?_⟩
    · rw [List.take_add, ← List.append_assoc, hL]; simp
    · rw [List.length_append, hck]; have := I.whole; omega
    · have e1 : Sha.blocks Sha.init (A ++ (l.drop i).take 64) = Sha.turn (Sha.blocks Sha.init A) p := by
        rw [Sha.blocks_last _ A _ I.whole hck]
        exact Sha.turn_congr _ _ p fun j hj => by rw [hp]; simp [List.getD, hj]
      have e2 : ((A ++ (l.drop i).take 64) ++ []).length = n + 64 := by
        rw [hn]
        simp only [List.length_append, hck, List.length_nil]
      rw [e1, e2]
      exact h2

theorem wpList_copy_hash {P : Program} {w : World} {ops : Array Oper} {rs : List Oper} {o : Oper} {a : Act} {Q : Exit → Act → World → Prop} (hgd : o.guard = none) (d s : Operand) (dT sT : TypeId)
    (ho : o.op = .call { callee := .builtin .copy, args := #[d, s], argTypes := #[dT, sT] }) (elem : TypeId) (hu : P.underlying dT = some (.slice elem)) (hsz : (P.info? elem).map (·.size) = some 1)
    (g e dLen dCap b off sLen sCap : Nat) (hd : a.eval d = .slice (some ⟨g, 8 + e, none⟩) dLen dCap) (hs : a.eval s = .slice (some ⟨b, off, none⟩) sLen sCap)
    (r : Sha.Reg) (rest : List UInt8) (n : Nat) (t : TypeId) (hg : w.heap[g]? = some (.cells (hashCells r rest n) t (0, 0))) (hlen : rest.length = 64) (ck : List UInt8) (hn : ck.length = Nat.min sLen dLen)
    (hsrc : ∀ j, j < ck.length → w.cell? ⟨b, off + j, none⟩ = some (byteF ck j)) (hfit : e + ck.length ≤ 64)
    (h : ∀ w', w'.heap[g]? = some (.cells (hashCells r (rest.take e ++ ck ++ rest.drop (e + ck.length)) n) t (0, 0)) → w.grownBy w' (some g) →
      wpList P ops Q rs (a.put o.dst (.int .i64 (ck.length : Int))) w') : wpList P ops Q (o :: rs) a w := by
  refine wpList_copy_own hgd d s dT sT ho elem hu hsz g (8 + e) dLen dCap ⟨b, off, none⟩ sLen sCap hd hs _ t hg (ck.map V8) (by simpa using hn) ?_ (by simp [hash_size _ _ _ hlen]; omega) (by simp [V8, Value.oneCell']) ?_
  · intro j v hv
    have hj : j < ck.length := by
      have := (List.getElem?_eq_some_iff.1 hv).1
      simpa using this
    rw [Addr.add_lit, hsrc j hj, ← hv]
    simp [byteF, List.getD, List.getElem?_eq_getElem hj]
  · have := h (w.setRow g ((hashCells r rest n).toList.take (8 + e) ++ ((ck.map V8) ++ (hashCells r rest n).toList.drop (8 + e + (ck.map V8).length))).toArray) ?_ (grownBy_setRow _ _ _)
    · simpa [goInt] using this
    · rw [setRow_heap _ _ _ _ _ _ hg]
      congr 3
      have e1 : (hashCells r rest n).toList = r.list.map V32 ++ (rest.map V8 ++ [Value.int .u64 (n : Int)]) := by simp [hashCells]
      have e2 : (r.list.map V32).length = 8 := rfl
      rw [e1, List.take_append, List.drop_append, e2, List.take_of_length_le (by rw [e2]; omega), List.drop_of_length_le (by rw [e2]; omega)]
      rw [show 8 + e - 8 = e from by omega, show 8 + e + (ck.map V8).length - 8 = e + ck.length from by simp; omega]
      rw [List.take_append_of_le_length (by simp; omega), List.drop_append_of_le_length (by simp; omega)]
      simp


/-- Bytes were laid behind the rest's; the block is not full yet. -/
theorem path_part {w wr w2 : World} {hb i m C b o e : Nat} {L l A q rest ck : List UInt8} {t : TypeId} (he : e = q.length) (hL : L ++ l.take i = A ++ q) (hm : m = l.length - i)
    (hck : ck = (l.drop i).take ck.length) (hc0 : ck.length ≤ m) (hq : e + ck.length ≤ 64) (R : WRel w hb L l i (some ⟨b, o, none⟩) C wr) (I : HashIs wr hb A q rest t)
    (hg : wr.grownBy w2 (some hb)) :
    (∀ r', Sha.blocks Sha.init ((A ++ q) ++ ck) = r' → w2.heap[hb]? = some (.cells (hashCells r' (rest.take e ++ ck ++ rest.drop (e + ck.length)) ((A ++ q).length + ck.length)) t (0, 0)) →
      WAt w hb L l (.slice (if C = ck.length then some ⟨b, o, none⟩ else some ⟨b, o + ck.length, none⟩) (m - ck.length) (C - ck.length)) w2) := by
  subst he
  intro r' hr' hheap
  have hle := R.le
  have hcap := R.cap
  have hw1 := I.whole
  have hw2 := I.short
  have hw3 := I.len
  have hne2 : ∀ ad, (if C = ck.length then (some ⟨b, o, none⟩ : Option Addr) else some ⟨b, o + ck.length, none⟩) = some ad → ad.block ≠ hb := by
    intro ad had
    have hb' : ad.block = b := by
      split at had <;> (obtain rfl := Option.some.inj had; rfl)
    rw [hb']
    exact R.ne _ rfl
  refine ⟨i + ck.length, _, _, by rw [show m - ck.length = l.length - (i + ck.length) from by omega], ⟨by omega, by omega, ?_, hne2, ?_, grownBy_trans R.grown hg⟩⟩
  · have hs := R.src.drop (C := C) (by simp; omega) ck.length (by simp; omega)
    rw [List.drop_drop] at hs
    have e : (if C = ck.length then (some ⟨b, o, none⟩ : Option Addr) else Option.map (fun x : Addr => x.add ck.length) (some ⟨b, o, none⟩)) = if C = ck.length then some ⟨b, o, none⟩ else some ⟨b, o + ck.length, none⟩ := by
      simp [Addr.add_lit]
    rw [e] at hs
    exact hs.grown hg hne2
  · have eL : L ++ l.take (i + ck.length) = (A ++ q) ++ ck := by rw [List.take_add, ← List.append_assoc, hL, ← hck]
    have elen : (rest.take q.length ++ ck ++ rest.drop (q.length + ck.length)).length = 64 := by simp; omega
    by_cases hfull : q.length + ck.length = 64
    · refine ⟨(A ++ q) ++ ck, [], _, t, by rw [eL]; simp, ?_, by simp, elen, by simp, ?_⟩
      · simp only [List.length_append]; omega
      · have e2 : (((A ++ q) ++ ck) ++ ([] : List UInt8)).length = (A ++ q).length + ck.length := by simp; omega
        rw [hr', e2]
        exact hheap
    · refine ⟨A, q ++ ck, _, t, by rw [eL, List.append_assoc], hw1, by simp; omega, elen, ?_, ?_⟩
      · intro j hj
        simp only [List.length_append] at hj
        have h3 : (rest.take q.length).length = q.length := by simp; omega
        simp only [List.getD]
        rw [List.append_assoc]
        by_cases h1 : j < q.length
        · rw [List.getElem?_append_left (by rw [h3]; exact h1), List.getElem?_append_left h1, List.getElem?_take_of_lt h1]
          simpa [List.getD] using I.same j h1
        · rw [List.getElem?_append_right (show (rest.take q.length).length ≤ j from by rw [h3]; omega), h3, List.getElem?_append_left (show j - q.length < ck.length from by omega), List.getElem?_append_right (show q.length ≤ j from by omega)]
      · have e1 : Sha.blocks Sha.init A = r' := by
          rw [← hr', List.append_assoc, Sha.blocks_rest _ A (q ++ ck) hw1 (by simp; omega)]
        have e2 : (A ++ (q ++ ck)).length = (A ++ q).length + ck.length := by simp; omega
        rw [e1, e2]
        exact hheap

/-- .. and the block is not full. -/
theorem part_end {w2 : World} {hb n e : Nat} {A q rest ck : List UInt8} {t : TypeId} (he : e = q.length) (hw : A.length % 64 = 0) (hl : rest.length = 64) (hn : n = (A ++ q).length) (hq : e + ck.length ≤ 64) (hf : ((e : Int) + (ck.length : Int) == 64) = false)
    (hh : w2.heap[hb]? = some (.cells (hashCells (Sha.blocks Sha.init A) (rest.take e ++ ck ++ rest.drop (e + ck.length)) (A ++ q).length) t (0, 0))) :
    Sha.blocks Sha.init ((A ++ q) ++ ck) = Sha.blocks Sha.init A ∧
    (w2.setCell ⟨hb, 72, none⟩ (.int .u64 ((n : Int) + (ck.length : Int)))).heap[hb]? = some (.cells (hashCells (Sha.blocks Sha.init A) (rest.take e ++ ck ++ rest.drop (e + ck.length)) ((A ++ q).length + ck.length)) t (0, 0)) := by
  subst he hn
  have hf' : ¬ q.length + ck.length = 64 := by
    intro h
    have : ((q.length : Int) + (ck.length : Int) == 64) = true := by simp; omega
    rw [this] at hf
    cases hf
  refine ⟨by rw [List.append_assoc, Sha.blocks_rest _ A (q ++ ck) hw (by simp; omega)], ?_⟩
  have := setTaken_heap hh (by simp; omega) ((A ++ q).length + ck.length)
  rw [show (((A ++ q).length + ck.length : Nat) : Int) = ((A ++ q).length : Int) + (ck.length : Int) from by omega] at this
  exact this

/-- .. and it is full, and is taken into the register. -/
theorem full_end {w2 w3 : World} {hb n e : Nat} {A q rest ck : List UInt8} {t : TypeId} (he : e = q.length) (hw : A.length % 64 = 0) (hl : rest.length = 64) (hs : ∀ j, j < q.length → rest.getD j 0 = q.getD j 0) (hn : n = (A ++ q).length) (hf : ((e : Int) + (ck.length : Int) == 64) = true)
    (hh : w2.heap[hb]? = some (.cells (hashCells (Sha.blocks Sha.init A) (rest.take e ++ ck ++ rest.drop (e + ck.length)) (A ++ q).length) t (0, 0)))
    (hB : Below (w2.setCell ⟨hb, 72, none⟩ (.int .u64 ((n : Int) + (ck.length : Int)))).heap.size (w2.setCell ⟨hb, 72, none⟩ (.int .u64 ((n : Int) + (ck.length : Int)))) w3) (p : Nat → UInt8)
    (hp : p = fun j => (rest.take e ++ ck ++ rest.drop (e + ck.length)).getD j 0) :
    Sha.blocks Sha.init ((A ++ q) ++ ck) = Sha.turn (Sha.blocks Sha.init A) p ∧
    (setReg w3 hb (Sha.turn (Sha.blocks Sha.init A) p)).heap[hb]? = some (.cells (hashCells (Sha.turn (Sha.blocks Sha.init A) p) (rest.take e ++ ck ++ rest.drop (e + ck.length)) ((A ++ q).length + ck.length)) t (0, 0)) ∧
    w2.grownBy (setReg w3 hb (Sha.turn (Sha.blocks Sha.init A) p)) (some hb) := by
  subst he hn
  have hf' : q.length + ck.length = 64 := by simp at hf; omega
  have hlen : (rest.take q.length ++ ck ++ rest.drop (q.length + ck.length)).length = 64 := by simp; omega
  have hh2 := setTaken_heap hh hlen ((A ++ q).length + ck.length)
  rw [show (((A ++ q).length + ck.length : Nat) : Int) = ((A ++ q).length : Int) + (ck.length : Int) from by omega] at hh2
  have hb3 : hb < (w2.setCell ⟨hb, 72, none⟩ (.int .u64 (((A ++ q).length : Int) + (ck.length : Int)))).heap.size := regrown (by rw [hh2]; simp)
  refine ⟨?_, setReg_heap ((hB.block hb hb3).trans hh2) _, grownBy_trans (grownBy_trans (grownBy_setCell _ _ _ _) (grownBy_below hB _)) (setReg_grown _ _ _)⟩
  rw [List.append_assoc, Sha.blocks_last _ A (q ++ ck) hw (by simp; omega), hp]
  apply Sha.turn_congr
  intro j hj
  have hd : rest.drop (q.length + ck.length) = [] := List.drop_eq_nil_of_le (by omega)
  have h3 : (rest.take q.length).length = q.length := by simp; omega
  simp only [hd, List.append_nil, List.getD]
  by_cases h1 : j < q.length
  · rw [List.getElem?_append_left h1, List.getElem?_append_left (show j < (rest.take q.length).length from by rw [h3]; exact h1), List.getElem?_take_of_lt h1]
    simpa [List.getD] using (hs j h1).symm
  · rw [List.getElem?_append_right (show q.length ≤ j from by omega), List.getElem?_append_right (show (rest.take q.length).length ≤ j from by rw [h3]; omega), h3]

theorem full_heap {w2 : World} {hb n e : Nat} {A q rest ck : List UInt8} {t : TypeId} (hl : rest.length = 64) (hn : n = (A ++ q).length)
    (hh : w2.heap[hb]? = some (.cells (hashCells (Sha.blocks Sha.init A) (rest.take e ++ ck ++ rest.drop (e + ck.length)) (A ++ q).length) t (0, 0))) (hq : e + ck.length ≤ 64) :
    (w2.setCell ⟨hb, 72, none⟩ (.int .u64 ((n : Int) + (ck.length : Int)))).heap[hb]? = some (.cells (hashCells (Sha.blocks Sha.init A) (rest.take e ++ ck ++ rest.drop (e + ck.length)) ((A ++ q).length + ck.length)) t (0, 0)) := by
  subst hn
  have hlen : (rest.take e ++ ck ++ rest.drop (e + ck.length)).length = 64 := by simp; omega
  have hh2 := setTaken_heap hh hlen ((A ++ q).length + ck.length)
  rw [show (((A ++ q).length + ck.length : Nat) : Int) = ((A ++ q).length : Int) + (ck.length : Int) from by omega] at hh2
  exact hh2
theorem full_src {w2 : World} {hb n e : Nat} {A q rest ck : List UInt8} {t : TypeId} (_he : e = q.length) (hl : rest.length = 64) (hn : n = (A ++ q).length) (hq : e + ck.length ≤ 64)
    (hh : w2.heap[hb]? = some (.cells (hashCells (Sha.blocks Sha.init A) (rest.take e ++ ck ++ rest.drop (e + ck.length)) (A ++ q).length) t (0, 0))) {p : Nat → UInt8}
    (hp : p = fun j => (rest.take e ++ ck ++ rest.drop (e + ck.length)).getD j 0) :
    hb < (w2.setCell ⟨hb, 72, none⟩ (.int .u64 ((n : Int) + (ck.length : Int)))).heap.size ∧
    ∀ j, j < 64 → (w2.setCell ⟨hb, 72, none⟩ (.int .u64 ((n : Int) + (ck.length : Int)))).cell? ⟨hb, 8 + j, none⟩ = some (V8 (p j)) := by
  have hh2 := full_heap hl hn hh hq
  have hlen : (rest.take e ++ ck ++ rest.drop (e + ck.length)).length = 64 := by simp; omega
  refine ⟨regrown (by rw [hh2]; simp), fun j hj => ?_⟩
  rw [cell_block hh2 (hash_rest _ _ _ _ hlen hj), hp]
  rfl

end Go.Proofs.YtgpenpnobjecgaaGreatDoor

/- Write -/
namespace Go.Proofs.YtgpenpnobjecgaaGreatDoor
set_option maxRecDepth 100000
open Go.RowKit

end Go.Proofs.YtgpenpnobjecgaaGreatDoor
