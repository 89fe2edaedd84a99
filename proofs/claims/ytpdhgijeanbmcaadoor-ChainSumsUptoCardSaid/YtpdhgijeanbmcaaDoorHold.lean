/- Two sums compared; results of a sum and a truth; what Holds reckons. -/
import Derived.Test.YtpdhgijeanbmcaaDoorGrowb
import Derived.Stop.BytesEq
namespace Go.Proofs.YtpdhgijeanbmcaaDoor
open Go.RowKit Go.Great

theorem guard_sum : Tryd.prog.eqGuardType Tryd.prog.depth 29 = false := by kernel_rfl
theorem size_u8 (w : World) : (sizeOf 5).run Tryd.prog w = .ok 1 w := by
  obtain ⟨i, hi, _, hs, _⟩ := info_u8i
  simp [sizeOf, typeInfo, hi, hs]
@[go_sem] theorem eql_sumV (x y : List UInt8) (w : World) (hx : x.length = 32) (hy : y.length = 32) : (binOp .eql 29 (sumV x) (sumV y)).run Tryd.prog w = .ok (.bool (x == y)) w :=
  run_eql_bytes w 29 5 32 Tryd.underlying29 Tryd.underlying5 size_u8 x y hx hy
@[go_sem] theorem eqGuard_sumV (op : BinOp) (X Y : Operand) (x y : List UInt8) (w : World) : (eqGuard op 29 X Y (sumV x) (sumV y)).run Tryd.prog w = .ok () w :=
  run_eqGuard_agg w op 29 X Y _ _ guard_sum

theorem results_sum_tmp {P : Program} {fn : Func} {p u : Tmp} {ty : TypeId} (h : fn.results = #[.cell p ty, .tmp u]) (tmps : Array Value) (w : World) (g : Nat) (t : TypeId) (l : List UInt8) (n : Nat) (fr : Nat × Nat) (e : TypeId)
    (hp : tmps.getD p undef = .pointer (some ⟨g, 0, none⟩)) (hg : w.heap[g]? = some (.cells (l.map V8).toArray t fr))
    (hu : P.underlying ty = some (.array n e)) (hi : (P.info? ty).map (·.size) = some n) (hl : l.length = n) : (results fn tmps).run P w = .ok (.tuple #[sumV l, tmps.getD u undef]) w := by
  rw [results_cell_tmp h, hp]
  simp only [asAddr, Sem.run_pure, Result.andThen_ok]
  rw [run_loadVar_row w g t ty _ fr _ hg hu rfl (by rw [hi]; simp [hl])]
  rfl

namespace Tree
theorem made_one (n i : Nat) (leaf : List UInt8) (p : List (List UInt8)) (h : n ≤ 1) : made n i leaf p = if p = [] then some leaf else none := by rw [made, dif_pos h]
theorem made_zero (n i : Nat) (leaf : List UInt8) (h : ¬ n ≤ 1) : made n i leaf [] = none := by rw [made, dif_neg h]; rfl
theorem getLast_take (p : List (List UInt8)) (u : Nat) (hu : u < p.length) : (p.take (u + 1)).getLast? = some p[u] ∧ (p.take (u + 1)).dropLast = p.take u := by
  have e : p.take (u + 1) = p.take u ++ [p[u]] := by rw [List.take_succ_eq_append_getElem hu]
  rw [e]
  exact ⟨List.getLast?_concat, List.dropLast_concat⟩
theorem made_left (n i : Nat) (leaf : List UInt8) (p : List (List UInt8)) (u : Nat) (hu : u < p.length) (h : ¬ n ≤ 1) (hi : i < split n) : made n i leaf (p.take (u + 1)) = (made (split n) i leaf (p.take u)).map fun r => node r p[u] := by
  rw [made, dif_neg h, (getLast_take p u hu).1, (getLast_take p u hu).2]
  simp [hi]
theorem made_right (n i : Nat) (leaf : List UInt8) (p : List (List UInt8)) (u : Nat) (hu : u < p.length) (h : ¬ n ≤ 1) (hi : ¬ i < split n) : made n i leaf (p.take (u + 1)) = (made (n - split n) (i - split n) leaf (p.take u)).map fun r => node p[u] r := by
  rw [made, dif_neg h, (getLast_take p u hu).1, (getLast_take p u hu).2]
  simp [hi]
end Tree
/-- A sum and a truth: where it is true, the sum is what was to be reckoned; where it is false, there is none. -/
def RetMade (o : Option (List UInt8)) (w : World) (e : Ending) (w' : World) : Prop := ∃ (r : List UInt8) (b : Bool), e = .returned (.tuple #[sumV r, .bool b]) ∧ r.length = 32 ∧ (o = if b then some r else none) ∧ Below w.heap.size w w'

/-! ### the closure of Holds -/
def holdFn (lb pb g : Nat) : Value := .func (.func 51) #[] #[.pointer (some ⟨lb, 0, none⟩), .pointer (some ⟨pb, 0, none⟩), .pointer (some ⟨g, 0, none⟩)]
/-- What the closure is handed: the leaf's variable, the path's, its own. -/
structure HoldEnv (w : World) (lb pb g : Nat) (leaf : List UInt8) (a : Option Addr) (np c : Nat) (p : List (List UInt8)) : Prop where
  tabs : Tabs w
  leafAt : ∃ t fr, w.heap[lb]? = some (.cells (leaf.map V8).toArray t fr)
  pathAt : w.cell? ⟨pb, 0, none⟩ = some (.slice a np c)
  fn : w.cell? ⟨g, 0, none⟩ = some (holdFn lb pb g)
  len : leaf.length = 32
  sums : Sums w a np c p
theorem HoldEnv.low {w w' : World} {lb pb g : Nat} {leaf : List UInt8} {a : Option Addr} {np c : Nat} {p : List (List UInt8)} (h : HoldEnv w lb pb g leaf a np c p) (hl : Low w w') : HoldEnv w' lb pb g leaf a np c p := by
  obtain ⟨t, fr, h1⟩ := h.leafAt
  exact ⟨h.tabs.low hl, ⟨t, fr, bblk hl h1⟩, (hl.cell (p := ⟨pb, 0, none⟩) (World.block_lt_of_cell? w _ h.pathAt)).trans h.pathAt, (hl.cell (p := ⟨g, 0, none⟩) (World.block_lt_of_cell? w _ h.fn)).trans h.fn, h.len, h.sums.low hl⟩

set_option maxRecDepth 100000 in
set_option maxHeartbeats 1000000 in
theorem holdsin_one (i u lb pb g : Nat) (leaf : List UInt8) (a : Option Addr) (np c : Nat) (p : List (List UInt8)) (w : World) (E : HoldEnv w lb pb g leaf a np c p) (hu : u ≤ np) :
    Calls Tryd.prog 51 #[.int .i64 1, .int .i64 i, .int .i64 u, .pointer (some ⟨lb, 0, none⟩), .pointer (some ⟨pb, 0, none⟩), .pointer (some ⟨g, 0, none⟩)] w (RetMade (Tree.made 1 i leaf (p.take u)) w) := by
  have E' := Lib.hid E
  have Hl := Lib.hid E.len
  obtain ⟨t, fr, hlf⟩ := E.leafAt
  have HLF := Lib.hid hlf
  clear E hlf
  go_enter Tryd.func51, Tryd.ntmps51
  go_wp2_with (first | (refine wpList_load_sum rfl 29 _ rfl lb rfl t leaf 32 fr _ (at_old _ HLF.out) Tryd.underlying29 (by kernel_rfl) Hl.out ?_) | (refine wpList_store_sum rfl 29 _ _ rfl w.heap.size leaf 32 rfl rfl _ _ (blk1 _ _) (by kernel_rfl) Hl.out rfl ?_))
  refine bodyPost_ret (results_sum_tmp rfl _ _ w.heap.size _ leaf 32 (0, 0) _ rfl (setRow_heap _ _ _ _ _ _ (blk1 _ _)) Tryd.underlying29 (by kernel_rfl) Hl.out) rfl ⟨leaf, _, rfl, Hl.out, ?_, ?_⟩
  · rw [Tree.made_one _ _ _ _ (Nat.le_refl _)]
    have hp := E'.out.sums.len
    by_cases h : u = 0
    · subst h; simp
    · have h2 : p.take u ≠ [] := by simp; exact ⟨h, fun e => by rw [e] at hp; simp at hp; omega⟩
      rw [if_neg h2]
      have : ((u : Int) == 0) = false := by simp; exact h
      simp [this]
  · exact brow (low1 _ _) (Nat.le_refl _) _

set_option maxRecDepth 100000 in
set_option maxHeartbeats 1000000 in
theorem holdsin_zero (n i : Nat) (x y z : Value) (leaf : List UInt8) (w : World) (hn : 1 < n) :
    Calls Tryd.prog 51 #[.int .i64 n, .int .i64 i, .int .i64 0, x, y, z] w (RetMade (Tree.made n i leaf []) w) := by
  have h1 : ((n : Int) == 1) = false := by simp; omega
  have h2 : ¬ (n : Int) = 1 := by omega
  rw [Tree.made_zero _ _ _ (by omega)]
  go_enter Tryd.func51, Tryd.ntmps51
  go_wp2_with (first | (refine wpList_store_sum rfl 29 _ _ rfl w.heap.size (List.replicate 32 0) 32 rfl (by kernel_rfl) _ _ (blk1 _ _) (by kernel_rfl) (by simp) rfl ?_))
  refine bodyPost_ret (results_sum_tmp rfl _ _ w.heap.size _ (List.replicate 32 0) 32 (0, 0) _ rfl (setRow_heap _ _ _ _ _ _ (blk1 _ _)) Tryd.underlying29 (by kernel_rfl) (by simp)) rfl ⟨_, false, rfl, by simp, rfl, ?_⟩
  exact brow (low1 _ _) (Nat.le_refl _) _
end Go.Proofs.YtpdhgijeanbmcaaDoor
