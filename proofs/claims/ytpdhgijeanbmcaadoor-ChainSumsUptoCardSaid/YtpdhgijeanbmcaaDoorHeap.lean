/- New blocks, one after another: what lies where, and that the old ones stay. -/
import Derived.Test.YtpdhgijeanbmcaaDoorRef02b
namespace Go.Proofs.YtpdhgijeanbmcaaDoor
open Go.RowKit

theorem size_alloc (w : World) (o : Obj) : (w.alloc o).heap.size = w.heap.size + 1 := by simp
theorem at_new (w : World) (o : Obj) {n : Nat} (h : n = w.heap.size) : (w.alloc o).heap[n]? = some o := by rw [h]; exact heap_alloc_new _ _
theorem at_old {w : World} (o : Obj) {n : Nat} {x : Obj} (h : w.heap[n]? = some x) : (w.alloc o).heap[n]? = some x := (heap_alloc_old w o (in_heap h)).trans h
section
variable (w : World) (o1 o2 o3 o4 o5 : Obj)
theorem blk1 : (w.alloc o1).heap[w.heap.size]? = some o1 := at_new _ _ rfl
theorem blk2 : ((w.alloc o1).alloc o2).heap[w.heap.size]? = some o1 ∧ ((w.alloc o1).alloc o2).heap[w.heap.size + 1]? = some o2 := ⟨at_old _ (blk1 _ _), at_new _ _ (by simp)⟩
theorem blk3 : (((w.alloc o1).alloc o2).alloc o3).heap[w.heap.size]? = some o1 ∧ (((w.alloc o1).alloc o2).alloc o3).heap[w.heap.size + 1]? = some o2 ∧ (((w.alloc o1).alloc o2).alloc o3).heap[w.heap.size + 1 + 1]? = some o3 :=
  ⟨at_old _ (blk2 _ _ _).1, at_old _ (blk2 _ _ _).2, at_new _ _ (by simp)⟩
theorem blk4 : ((((w.alloc o1).alloc o2).alloc o3).alloc o4).heap[w.heap.size]? = some o1 ∧ ((((w.alloc o1).alloc o2).alloc o3).alloc o4).heap[w.heap.size + 1]? = some o2 ∧ ((((w.alloc o1).alloc o2).alloc o3).alloc o4).heap[w.heap.size + 1 + 1]? = some o3 ∧
    ((((w.alloc o1).alloc o2).alloc o3).alloc o4).heap[w.heap.size + 1 + 1 + 1]? = some o4 :=
  ⟨at_old _ (blk3 _ _ _ _).1, at_old _ (blk3 _ _ _ _).2.1, at_old _ (blk3 _ _ _ _).2.2, at_new _ _ (by simp)⟩
theorem blk5 : (((((w.alloc o1).alloc o2).alloc o3).alloc o4).alloc o5).heap[w.heap.size]? = some o1 ∧ (((((w.alloc o1).alloc o2).alloc o3).alloc o4).alloc o5).heap[w.heap.size + 1]? = some o2 ∧
    (((((w.alloc o1).alloc o2).alloc o3).alloc o4).alloc o5).heap[w.heap.size + 1 + 1]? = some o3 ∧ (((((w.alloc o1).alloc o2).alloc o3).alloc o4).alloc o5).heap[w.heap.size + 1 + 1 + 1]? = some o4 ∧
    (((((w.alloc o1).alloc o2).alloc o3).alloc o4).alloc o5).heap[w.heap.size + 1 + 1 + 1 + 1]? = some o5 :=
  ⟨at_old _ (blk4 _ _ _ _ _).1, at_old _ (blk4 _ _ _ _ _).2.1, at_old _ (blk4 _ _ _ _ _).2.2.1, at_old _ (blk4 _ _ _ _ _).2.2.2, at_new _ _ (by simp)⟩
theorem low1 : Below w.heap.size w (w.alloc o1) := (Below.refl _ _).alloc (Nat.le_refl _) _
theorem low2 : Below w.heap.size w ((w.alloc o1).alloc o2) := (low1 _ _).alloc (by simp) _
theorem low3 : Below w.heap.size w (((w.alloc o1).alloc o2).alloc o3) := (low2 _ _ _).alloc (by simp; omega) _
theorem low4 : Below w.heap.size w ((((w.alloc o1).alloc o2).alloc o3).alloc o4) := (low3 _ _ _ _).alloc (by simp; omega) _
theorem low5 : Below w.heap.size w (((((w.alloc o1).alloc o2).alloc o3).alloc o4).alloc o5) := (low4 _ _ _ _ _).alloc (by simp; omega) _
end
/-- One step upon another: what lies below the first world's end stays. -/
theorem bnext {w w1 w2 : World} {n : Nat} (h : Below n w w1) (hn : n ≤ w.heap.size) (h2 : Below w1.heap.size w1 w2) : Below n w w2 := h.trans (h2.mono (Nat.le_trans hn h.size))
theorem bthen {w w1 w2 : World} (h : Below w.heap.size w w1) (h2 : Below w1.heap.size w1 w2) : Below w.heap.size w w2 := bnext h (Nat.le_refl _) h2
theorem bblk {w w1 : World} (h : Below w.heap.size w w1) {b : Nat} {o : Obj} (hb : w.heap[b]? = some o) : w1.heap[b]? = some o := (h.block _ (in_heap hb)).trans hb
/-- A block that is new is written. -/
theorem brow {w w1 : World} (h : Below w.heap.size w w1) {b : Nat} (hb : w.heap.size ≤ b) (cs : Array Value) : Below w.heap.size w (w1.setRow b cs) := Go.Proofs.YtpdhgijeanbmcaaDoor.below_setRow h hb _
end Go.Proofs.YtpdhgijeanbmcaaDoor
