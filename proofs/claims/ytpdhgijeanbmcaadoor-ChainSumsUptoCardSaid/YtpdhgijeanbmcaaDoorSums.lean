/- Whole arrays of bytes as values: loaded, stored, handed back; what the walk wants of them. -/
import Derived.Test.YtpdhgijeanbmcaaDoorTurn
namespace Go.Proofs.YtpdhgijeanbmcaaDoor
open Go.RowKit

/-- A sum as a value. -/
def sumV (l : List UInt8) : Value := .agg (l.map V8).toArray
def byteF (l : List UInt8) (j : Nat) : Value := V8 (l.getD j 0)

theorem oneCells (l : List UInt8) : (l.map V8).toArray.all (·.oneCell') = true := by
  simp [V8, Value.oneCell']
section
variable {P : Program} {ops : Array Oper} {rest : List Oper} {o : Oper} {a : Act} {w : World} {Q : Exit → Act → World → Prop}
theorem wpList_load_sum (hgd : o.guard = none) (ty : TypeId) (x : Operand) (ho : o.op = .load ty x) (g : Nat) (hx : a.eval x = .pointer (some ⟨g, 0, none⟩))
    (t : TypeId) (l : List UInt8) (n : Nat) (fr : Nat × Nat) (e : TypeId) (hg : w.heap[g]? = some (.cells (l.map V8).toArray t fr)) (hu : P.underlying ty = some (.array n e))
    (hi : (P.info? ty).map (·.size) = some n) (hl : l.length = n) (h : wpList P ops Q rest (a.put o.dst (sumV l)) w) : wpList P ops Q (o :: rest) a w :=
  wpList_load_row hgd ty x ho g hx t _ fr _ hg hu rfl (by rw [hi]; simp [hl]) h
theorem wpList_store_sum (hgd : o.guard = none) (ty : TypeId) (x y : Operand) (ho : o.op = .store ty x y) (g : Nat) (l : List UInt8) (n : Nat)
    (hx : a.eval x = .pointer (some ⟨g, 0, none⟩)) (hy : a.eval y = sumV l) (t : TypeId) (old : Array Value) (hg : w.heap[g]? = some (.cells old t (0, 0))) (hi : (P.info? ty).map (·.size) = some n)
    (hl : l.length = n) (hold : old.size = n) (h : wpList P ops Q rest (a.put o.dst undef) (w.setRow g (l.map V8).toArray)) : wpList P ops Q (o :: rest) a w :=
  wpList_store_row hgd ty x y ho g _ hx hy t old hg (by rw [hi]; simp [hl]) (by simp [hl, hold]) (oneCells l) h
theorem results_sum {fn : Func} {p : Tmp} {ty : TypeId} (h : fn.results = #[.cell p ty]) (tmps : Array Value) (w : World) (g : Nat) (t : TypeId) (l : List UInt8) (n : Nat) (fr : Nat × Nat) (e : TypeId)
    (hp : tmps.getD p undef = .pointer (some ⟨g, 0, none⟩)) (hg : w.heap[g]? = some (.cells (l.map V8).toArray t fr))
    (hu : P.underlying ty = some (.array n e)) (hi : (P.info? ty).map (·.size) = some n) (hl : l.length = n) : (results fn tmps).run P w = .ok (sumV l) w :=
  results_cell_row h tmps w g t _ fr _ hp hg hu rfl (by rw [hi]; simp [hl])
end

theorem Arr.row {w : World} {b n : Nat} {f : Nat → Value} (h : Arr w b n f) (l : List Value) (hl : l.length = n) (hf : ∀ j, j < n → l[j]? = some (f j)) : ∃ t, w.heap[b]? = some (.cells l.toArray t (0, 0)) := by
  obtain ⟨cs, t, hb, hs, hc⟩ := h
  refine ⟨t, ?_⟩
  rw [hb]
  congr 2
  apply Array.ext_getElem?
  intro j
  by_cases hj : j < n
  · rw [hc j hj, List.getElem?_toArray, hf j hj]
  · rw [Array.getElem?_eq_none (by omega), List.getElem?_toArray, List.getElem?_eq_none (by omega)]
/-- An array whose cells are the bytes of l. -/
theorem Arr.sum {w : World} {b n : Nat} {l : List UInt8} (h : Arr w b n (byteF l)) (hl : l.length = n) : ∃ t, w.heap[b]? = some (.cells (l.map V8).toArray t (0, 0)) :=
  h.row _ (by simpa using hl) fun j hj => by simp [byteF, List.getD, List.getElem?_eq_getElem (show j < l.length by omega)]
def zeros8 (n : Nat) : Array Value := (List.replicate n (V8 0)).toArray
theorem zeros8_at (n j : Nat) (h : j < n) : (zeros8 n)[j]? = some (V8 0) := by simp [zeros8, h]
theorem zeros8_size (n : Nat) : (zeros8 n).size = n := by simp [zeros8]
theorem V8_ofNat (x : Nat) : V8 (UInt8.ofNat x) = .int .u8 ((x : Int) % 256) := by simp [V8]
end Go.Proofs.YtpdhgijeanbmcaaDoor
