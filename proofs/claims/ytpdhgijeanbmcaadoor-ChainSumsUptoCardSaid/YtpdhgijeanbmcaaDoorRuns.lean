/- What single operations on sums and slices of sums answer. -/
import Derived.Test.YtpdhgijeanbmcaaDoorHoldb
import Derived.Test.YtpdhgijeanbmcaaDoorReg
namespace Go.Proofs.YtpdhgijeanbmcaaDoor
open Go.RowKit Go.Great

theorem run_load_at_sum (w : World) (b o : Nat) (l : List UInt8) (hc : w.rangeAt b o (l.map V8)) (hl : l.length = 32) : (Instr.loadAt 29 (.pointer (some ⟨b, o, none⟩))).run Tryd.prog w = .ok (sumV l) w :=
  run_loadAt_mid w b o 29 (l.map V8) _ hc Tryd.underlying29 rfl (by rw [show (Tryd.prog.info? 29).map (·.size) = some 32 from by kernel_rfl, List.length_map, hl])
theorem run_load_box_sum (w : World) (g : Nat) (t : TypeId) (fr : Nat × Nat) (l : List UInt8) (hg : w.heap[g]? = some (.cells (l.map V8).toArray t fr)) (hl : l.length = 32) : (Instr.loadAt 29 (.pointer (some ⟨g, 0, none⟩))).run Tryd.prog w = .ok (sumV l) w := by
  simp only [Instr.loadAt, Instr.sureAddr, Sem.run_bind, Sem.run_pure, Result.andThen_ok]
  exact run_loadVar_row w g t 29 (l.map V8).toArray fr _ hg Tryd.underlying29 rfl (size_sum l hl)
/-- The test of two values, behind the model's own guard. -/
def eqlS (t : TypeId) (x y : Operand) (a b : Value) : Sem Value := do eqGuard .eql t x y a b; binOp .eql t a b
theorem run_eql_sums (w : World) (p q : Operand) (x y : List UInt8) (bb : Bool) (hx : x.length = 32) (hy : y.length = 32) (h : (x == y) = bb) : (eqlS 29 p q (sumV x) (sumV y)).run Tryd.prog w = .ok (.bool bb) w := by
  have hel := eql_sumV x y w hx hy
  rw [h] at hel
  have hg : (eqGuard .eql 29 p q (sumV x) (sumV y)).run Tryd.prog w = .ok () w := by kernel_rfl
  simp [eqlS, Sem.run_bind, hg, hel]
theorem sums_info (w : World) : (sizeOf (Tryd.prog.elem 31)).run Tryd.prog w = .ok 32 w := by kernel_rfl
theorem run_sums_to (w : World) (a : Option Addr) (n c k : Nat) (ha : ∀ ad, a = some ad → ∃ b o, ad = ⟨b, o, none⟩) (hk : k ≤ c) : (Instr.sliceAt 31 (.slice a n c) none (some (.int .i64 k)) none).run Tryd.prog w = .ok (.slice a k c) w := by
  rw [run_sliceAt_slice (P := Tryd.prog) (w := w) 31 _ _ _ _ Tryd.underlying31, run_slice_h (P := Tryd.prog) (w := w) 31 a n c Tryd.underlying31 .i64 k (by omega) (by omega), sums_info]
  simp only [Result.andThen, sliced, Int.toNat_natCast, Nat.zero_mul, Nat.sub_zero]
  cases a with
  | none => simp
  | some ad =>
    obtain ⟨b, o, rfl⟩ := ha ad rfl
    simp [Addr.add_lit]
theorem run_sums_from (w : World) (a : Option Addr) (n c k : Nat) (hk : k ≤ n) : (Instr.sliceAt 31 (.slice a n c) (some (.int .i64 k)) none none).run Tryd.prog w = .ok (.slice (if c = k then a else a.map (·.add (k * 32))) (n - k : Nat) (c - k : Nat)) w := by
  rw [run_sliceAt_slice (P := Tryd.prog) (w := w) 31 _ _ _ _ Tryd.underlying31, run_slice_l (P := Tryd.prog) (w := w) 31 a n c Tryd.underlying31 .i64 k (by omega) (by omega), sums_info]
  simp only [Result.andThen, sliced, Int.toNat_natCast]
end Go.Proofs.YtpdhgijeanbmcaaDoor
