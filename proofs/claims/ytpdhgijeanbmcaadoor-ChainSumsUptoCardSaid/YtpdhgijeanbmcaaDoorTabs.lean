/- The package-level tables as they lie in memory; a slice of bytes that is read; what a call leaves alone. -/
import Derived.Test.YtpdhgijeanbmcaaDoorSums
import Derived.Test.YtpdhgijeanbmcaaDoorShb
namespace Go.Proofs.YtpdhgijeanbmcaaDoor
open Go.RowKit

def rootsCells : Array Value := ((List.range 64).map fun t => V32 (Sha.root t)).toArray
/-- The tables of both packages hold what the program's text lays. -/
structure Tabs (w : World) : Prop where
  first : ∃ t fr, w.heap[0]? = some (.cells (Sha.init.list.map V32).toArray t fr)
  roots : ∃ t fr, w.heap[1]? = some (.cells rootsCells t fr)
  rroots : ∃ t fr, w.heap[2]? = some (.cells rootsCells t fr)

/-- Block b is none of the tables. -/
structure NoTab (b : Nat) : Prop where
  first : b ≠ 0
  roots : b ≠ 1
  rroots : b ≠ 2

theorem Tabs.size {w : World} (h : Tabs w) : 0 < w.heap.size ∧ 1 < w.heap.size ∧ 2 < w.heap.size := by
  obtain ⟨⟨_, _, h1⟩, ⟨_, _, h2⟩, ⟨_, _, h3⟩⟩ := h
  exact ⟨(Array.getElem?_eq_some_iff.1 h1).1, (Array.getElem?_eq_some_iff.1 h2).1, (Array.getElem?_eq_some_iff.1 h3).1⟩
theorem Tabs.fresh {w : World} (h : Tabs w) {b : Nat} (hb : w.heap.size ≤ b) : NoTab b := by
  obtain ⟨h1, h2, h3⟩ := h.size
  exact ⟨by omega, by omega, by omega⟩
theorem Tabs.firstAt {w : World} (h : Tabs w) (j : Nat) (hj : j < 8) : w.cell? ⟨0, j, none⟩ = some (regF Sha.init j) := by
  obtain ⟨t, fr, h1⟩ := h.first
  rw [cell_of_row _ _ _ _ _ _ h1]
  have : j = 0 ∨ j = 1 ∨ j = 2 ∨ j = 3 ∨ j = 4 ∨ j = 5 ∨ j = 6 ∨ j = 7 := by omega
  rcases this with rfl | rfl | rfl | rfl | rfl | rfl | rfl | rfl <;> rfl
theorem Tabs.rootsAt {w : World} (h : Tabs w) (j : Nat) (hj : j < 64) : w.cell? ⟨1, j, none⟩ = some (V32 (Sha.root j)) := by
  obtain ⟨t, fr, h1⟩ := h.roots
  rw [cell_of_row _ _ _ _ _ _ h1]
  simp [rootsCells, hj]
theorem Tabs.rrootsAt {w : World} (h : Tabs w) (j : Nat) (hj : j < 64) : w.cell? ⟨2, j, none⟩ = some (V32 (Sha.root j)) := by
  obtain ⟨t, fr, h1⟩ := h.rroots
  rw [cell_of_row _ _ _ _ _ _ h1]
  simp [rootsCells, hj]
theorem Tabs.below {w w' : World} (h : Tabs w) (hb : Below w.heap.size w w') : Tabs w' := by
  obtain ⟨s1, s2, s3⟩ := h.size
  obtain ⟨⟨t1, f1, h1⟩, ⟨t2, f2, h2⟩, ⟨t3, f3, h3⟩⟩ := h
  exact ⟨⟨t1, f1, by rw [hb.block _ s1]; exact h1⟩, ⟨t2, f2, by rw [hb.block _ s2]; exact h2⟩, ⟨t3, f3, by rw [hb.block _ s3]; exact h3⟩⟩
theorem Tabs.grown {w w' : World} {b : Nat} (h : Tabs w) (hg : w.grownBy w' (some b)) (hb : NoTab b) : Tabs w' := by
  obtain ⟨s1, s2, s3⟩ := h.size
  obtain ⟨⟨t1, f1, h1⟩, ⟨t2, f2, h2⟩, ⟨t3, f3, h3⟩⟩ := h
  refine ⟨⟨t1, f1, ?_⟩, ⟨t2, f2, ?_⟩, ⟨t3, f3, ?_⟩⟩
  · rw [hg.block _ s1 (fun e => hb.first (Option.some.inj e).symm)]; exact h1
  · rw [hg.block _ s2 (fun e => hb.roots (Option.some.inj e).symm)]; exact h2
  · rw [hg.block _ s3 (fun e => hb.rroots (Option.some.inj e).symm)]; exact h3

/-- A slice of n bytes at a reads as l. -/
structure BytesAt (w : World) (a : Option Addr) (l : List UInt8) : Prop where
  at_ : 0 < l.length → ∃ b o, a = some ⟨b, o, none⟩ ∧ ∀ j, j < l.length → w.cell? ⟨b, o + j, none⟩ = some (byteF l j)
theorem BytesAt.nil (w : World) (a : Option Addr) : BytesAt w a [] := ⟨fun h => absurd h (by simp)⟩
theorem BytesAt.below {w w' : World} {a : Option Addr} {l : List UInt8} (h : BytesAt w a l) (hb : Below w.heap.size w w') : BytesAt w' a l :=
  ⟨fun h0 => by
    obtain ⟨b, o, ha, hc⟩ := h.at_ h0
    exact ⟨b, o, ha, fun j hj => (hb.cell (p := ⟨b, o + j, none⟩) (World.block_lt_of_cell? w _ (hc j hj))).trans (hc j hj)⟩⟩
theorem BytesAt.grown {w w' : World} {a : Option Addr} {l : List UInt8} {k : Nat} (h : BytesAt w a l) (hg : w.grownBy w' (some k)) (hk : ∀ ad, a = some ad → ad.block ≠ k) : BytesAt w' a l :=
  ⟨fun h0 => by
    obtain ⟨b, o, ha, hc⟩ := h.at_ h0
    refine ⟨b, o, ha, fun j hj => ?_⟩
    have hlt := World.block_lt_of_cell? w _ (hc j hj)
    have hne : some b ≠ some k := fun e => hk _ ha (Option.some.inj e)
    rw [World.cell?_of_block (w := w) (hg.block b hlt hne)]
    exact hc j hj⟩
/-- The same slice without its first k bytes, as Go cuts it. -/
theorem BytesAt.drop {w : World} {a : Option Addr} {l : List UInt8} {C : Nat} (h : BytesAt w a l) (hC : l.length ≤ C) (k : Nat) (hk : k ≤ l.length) :
    BytesAt w (if C = k then a else a.map (·.add k)) (l.drop k) :=
  ⟨fun h0 => by
    simp only [List.length_drop] at h0
    obtain ⟨b, o, ha, hc⟩ := h.at_ (by omega)
    refine ⟨b, o + k, ?_, fun j hj => ?_⟩
    · rw [if_neg (by omega), ha]
      simp [Addr.add_lit]
    · simp only [List.length_drop] at hj
      rw [Nat.add_assoc, hc (k + j) (by omega)]
      simp [byteF, List.getD, List.getElem?_drop]⟩
theorem cell_block {w : World} {b j : Nat} {cs : Array Value} {t : TypeId} {fr : Nat × Nat} {v : Value} (h : w.heap[b]? = some (.cells cs t fr)) (hv : cs[j]? = some v) : w.cell? ⟨b, j, none⟩ = some v := by
  rw [cell_of_row _ _ _ _ _ _ h, hv]
theorem Arr.grown {w w' : World} {b n k : Nat} {f : Nat → Value} (h : Arr w b n f) (hg : w.grownBy w' (some k)) (hb : b ≠ k) : Arr w' b n f := by
  have hs := h.size
  obtain ⟨cs, t, hh, r⟩ := h
  exact ⟨cs, t, by rw [hg.block b hs (fun e => hb (Option.some.inj e))]; exact hh, r⟩
theorem grownBy_below {w w1 : World} (h : Below w.heap.size w w1) (row : Option Nat) : w.grownBy w1 row := ⟨h.os, h.tape, h.output, h.size, fun i hi _ => h.block i hi⟩
theorem grownBy_trans {a b c : World} {k : Nat} (h : a.grownBy b (some k)) (h' : b.grownBy c (some k)) : a.grownBy c (some k) :=
  ⟨h'.os.trans h.os, h'.tape.trans h.tape, h'.output.trans h.output, Nat.le_trans h.size h'.size, fun i hi hne => (h'.block i (Nat.lt_of_lt_of_le hi h.size) hne).trans (h.block i hi hne)⟩
theorem grownBy_setCell (w : World) (b i : Nat) (v : Value) : w.grownBy (w.setCell ⟨b, i, none⟩ v) (some b) :=
  ⟨rfl, rfl, rfl, by simp, fun k _ hne => Below.heap_setCell _ _ _ _ fun e => hne (congrArg some e)⟩
theorem grownBy_drew (w : World) (row : Option Nat) : w.grownBy w.drew row := ⟨rfl, rfl, rfl, Nat.le_refl _, fun _ _ _ => rfl⟩
theorem grownBy_setRow (w : World) (b : Nat) (cs : Array Value) : w.grownBy (w.setRow b cs) (some b) :=
  ⟨rfl, rfl, rfl, by simp, fun k _ hne => setRow_other _ _ _ _ fun e => hne (congrArg some e)⟩
end Go.Proofs.YtpdhgijeanbmcaaDoor
