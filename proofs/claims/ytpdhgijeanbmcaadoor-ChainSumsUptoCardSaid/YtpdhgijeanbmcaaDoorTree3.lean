/- Both roots that a proof of growth makes. -/
import Derived.Test.YtpdhgijeanbmcaaDoorHoldb
namespace Go.Proofs.YtpdhgijeanbmcaaDoor
open Go.RowKit

namespace Tree
def sole : List (List UInt8) → Option (List UInt8 × List UInt8)
  | [x] => some (x, x)
  | _ => none
/-- The old root and the new one; none: the proof is too short or too long. -/
def both (old : List UInt8) (m n : Nat) (whole : Bool) (p : List (List UInt8)) : Option (List UInt8 × List UInt8) :=
  if _h : n ≤ m ∨ n ≤ 1 then (if whole then (if p = [] then some (old, old) else none) else sole p)
  else match p.getLast? with
    | none => none
    | some x => if m ≤ split n then (both old m (split n) whole p.dropLast).map fun ab => (ab.1, node ab.2 x) else (both old (m - split n) (n - split n) false p.dropLast).map fun ab => (node x ab.1, node x ab.2)
termination_by n
decreasing_by
  · have := split_lt (show 1 < n by omega); omega
  · have := split_pos n; omega
theorem both_whole (old : List UInt8) (m : Nat) (p : List (List UInt8)) : both old m m true p = if p = [] then some (old, old) else none := by
  rw [both, dif_pos (.inl (Nat.le_refl _))]; rfl
theorem both_part (old : List UInt8) (m : Nat) (p : List (List UInt8)) (h : p.length ≠ 1) : both old m m false p = none := by
  rw [both, dif_pos (.inl (Nat.le_refl _))]
  match p, h with
  | [], _ => rfl
  | [x], h => simp at h
  | x :: y :: p, _ => rfl
theorem both_one (old : List UInt8) (m : Nat) (x : List UInt8) : both old m m false [x] = some (x, x) := by
  rw [both, dif_pos (.inl (Nat.le_refl _))]; rfl
theorem both_zero (old : List UInt8) (m n : Nat) (whole : Bool) (h : m < n) (h0 : 0 < m) : both old m n whole [] = none := by
  rw [both, dif_neg (by omega)]; rfl
theorem both_left (old : List UInt8) (m n : Nat) (whole : Bool) (p : List (List UInt8)) (u : Nat) (hu : u < p.length) (h : m < n) (h0 : 0 < m) (hm : m ≤ split n) :
    both old m n whole (p.take (u + 1)) = (both old m (split n) whole (p.take u)).map fun ab => (ab.1, node ab.2 p[u]) := by
  rw [both, dif_neg (by omega), (getLast_take p u hu).1, (getLast_take p u hu).2]
  simp [hm]
theorem both_right (old : List UInt8) (m n : Nat) (whole : Bool) (p : List (List UInt8)) (u : Nat) (hu : u < p.length) (h : m < n) (h0 : 0 < m) (hm : ¬ m ≤ split n) :
    both old m n whole (p.take (u + 1)) = (both old (m - split n) (n - split n) false (p.take u)).map fun ab => (node p[u] ab.1, node p[u] ab.2) := by
  rw [both, dif_neg (by omega), (getLast_take p u hu).1, (getLast_take p u hu).2]
  simp [hm]
def extends_ (m : Nat) (old : List UInt8) (n : Nat) (root : List UInt8) (p : List (List UInt8)) : Bool := match both old m n true p with
  | some (a, b) => a == old && b == root
  | none => false
end Tree
/-- Two sums and a truth. -/
def RetBoth (o : Option (List UInt8 × List UInt8)) (w : World) (e : Ending) (w' : World) : Prop := ∃ (r s : List UInt8) (b : Bool), e = .returned (.tuple #[sumV r, sumV s, .bool b]) ∧ r.length = 32 ∧ s.length = 32 ∧ (o = if b then some (r, s) else none) ∧ Below w.heap.size w w'
theorem results_sum2_tmp {P : Program} {fn : Func} {p q u : Tmp} {ty : TypeId} (h : fn.results = #[.cell p ty, .cell q ty, .tmp u]) (tmps : Array Value) (w : World) (g g2 : Nat) (t t2 : TypeId) (l l2 : List UInt8) (n : Nat) (fr fr2 : Nat × Nat) (e : TypeId)
    (hp : tmps.getD p undef = .pointer (some ⟨g, 0, none⟩)) (hq : tmps.getD q undef = .pointer (some ⟨g2, 0, none⟩)) (hg : w.heap[g]? = some (.cells (l.map V8).toArray t fr)) (hg2 : w.heap[g2]? = some (.cells (l2.map V8).toArray t2 fr2))
    (hu : P.underlying ty = some (.array n e)) (hi : (P.info? ty).map (·.size) = some n) (hl : l.length = n) (hl2 : l2.length = n) : (results fn tmps).run P w = .ok (.tuple #[sumV l, sumV l2, tmps.getD u undef]) w := by
  have h1 := run_loadVar_row (P := P) w g t ty _ fr _ hg hu rfl (by rw [hi]; simp [hl])
  have h2 := run_loadVar_row (P := P) w g2 t2 ty _ fr2 _ hg2 hu rfl (by rw [hi]; simp [hl2])
  have hp' : tmps[p]?.getD undef = .pointer (some ⟨g, 0, none⟩) := by simpa using hp
  have hq' : tmps[q]?.getD undef = .pointer (some ⟨g2, 0, none⟩) := by simpa using hq
  simp only [results, h]
  simp [Sem.run_bind, Result.andThen, hp', hq', asAddr, h1, h2]
  exact ⟨rfl, rfl⟩
end Go.Proofs.YtpdhgijeanbmcaaDoor
