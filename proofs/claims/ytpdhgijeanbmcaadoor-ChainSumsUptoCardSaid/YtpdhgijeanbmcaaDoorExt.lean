/- The closure of chain.Extends where nothing is split any more. -/
import Derived.Test.YtpdhgijeanbmcaaDoorTree3
namespace Go.Proofs.YtpdhgijeanbmcaaDoor
open Go.RowKit Go.Great

def extFn (ob pb g : Nat) : Value := .func (.func 53) #[] #[.pointer (some ⟨ob, 0, none⟩), .pointer (some ⟨pb, 0, none⟩), .pointer (some ⟨g, 0, none⟩)]
structure ExtEnv (w : World) (ob pb g : Nat) (old : List UInt8) (a : Option Addr) (np c : Nat) (p : List (List UInt8)) : Prop where
  tabs : Tabs w
  oldAt : ∃ t fr, w.heap[ob]? = some (.cells (old.map V8).toArray t fr)
  pathAt : w.cell? ⟨pb, 0, none⟩ = some (.slice a np c)
  fn : w.cell? ⟨g, 0, none⟩ = some (extFn ob pb g)
  len : old.length = 32
  sums : Sums w a np c p
theorem ExtEnv.low {w w' : World} {ob pb g : Nat} {old : List UInt8} {a : Option Addr} {np c : Nat} {p : List (List UInt8)} (h : ExtEnv w ob pb g old a np c p) (hl : Low w w') : ExtEnv w' ob pb g old a np c p := by
  obtain ⟨t, fr, h1⟩ := h.oldAt
  exact ⟨h.tabs.low hl, ⟨t, fr, bblk hl h1⟩, (hl.cell (p := ⟨pb, 0, none⟩) (World.block_lt_of_cell? w _ h.pathAt)).trans h.pathAt, (hl.cell (p := ⟨g, 0, none⟩) (World.block_lt_of_cell? w _ h.fn)).trans h.fn, h.len, h.sums.low hl⟩

/-- Two boxes of sums are written, each once and for good; all else that was there stays. -/
structure Wr (b1 b2 : Nat) (c1 c2 : Array Value) (t : TypeId) (w w' : World) : Prop where
  os : w'.os = w.os
  tape : w'.tape = w.tape
  output : w'.output = w.output
  size : w.heap.size ≤ w'.heap.size
  keep : ∀ i, i < w.heap.size → i ≠ b1 → i ≠ b2 → w'.heap[i]? = w.heap[i]?
  k1 : (∃ cs, w.heap[b1]? = some (.cells cs t (0, 0)) ∧ cs.size = 32) → ∃ cs, w'.heap[b1]? = some (.cells cs t (0, 0)) ∧ cs.size = 32
  f1 : w.heap[b1]? = some (.cells c1 t (0, 0)) → w'.heap[b1]? = some (.cells c1 t (0, 0))
  k2 : (∃ cs, w.heap[b2]? = some (.cells cs t (0, 0)) ∧ cs.size = 32) → ∃ cs, w'.heap[b2]? = some (.cells cs t (0, 0)) ∧ cs.size = 32
  f2 : w.heap[b2]? = some (.cells c2 t (0, 0)) → w'.heap[b2]? = some (.cells c2 t (0, 0))
section
variable {b1 b2 : Nat} {c1 c2 : Array Value} {t : TypeId}
theorem Wr.refl (w : World) : Wr b1 b2 c1 c2 t w w := ⟨rfl, rfl, rfl, Nat.le_refl _, fun _ _ _ _ => rfl, fun h => h, fun h => h, fun h => h, fun h => h⟩
theorem Wr.trans (w w' w'' : World) (h : Wr b1 b2 c1 c2 t w w') (h' : Wr b1 b2 c1 c2 t w' w'') : Wr b1 b2 c1 c2 t w w'' :=
  ⟨h'.os.trans h.os, h'.tape.trans h.tape, h'.output.trans h.output, Nat.le_trans h.size h'.size, fun i hi n1 n2 => (h'.keep i (Nat.lt_of_lt_of_le hi h.size) n1 n2).trans (h.keep i hi n1 n2), fun x => h'.k1 (h.k1 x), fun x => h'.f1 (h.f1 x), fun x => h'.k2 (h.k2 x), fun x => h'.f2 (h.f2 x)⟩
theorem Wr.of_low {w w' : World} (h : Low w w') : Wr b1 b2 c1 c2 t w w' :=
  ⟨h.os, h.tape, h.output, h.size, fun i hi _ _ => h.block i hi, fun ⟨cs, h1, h2⟩ => ⟨cs, bblk h h1, h2⟩, fun h1 => bblk h h1, fun ⟨cs, h1, h2⟩ => ⟨cs, bblk h h1, h2⟩, fun h1 => bblk h h1⟩
theorem Wr.one {w w' : World} (hne : b1 ≠ b2) (hg : w.grownBy w' (some b1)) (h1 : w'.heap[b1]? = some (.cells c1 t (0, 0))) (hs : c1.size = 32) : Wr b1 b2 c1 c2 t w w' :=
  ⟨hg.os, hg.tape, hg.output, hg.size, fun i hi n1 _ => hg.block i hi (fun e => n1 (Option.some.inj e)), fun _ => ⟨c1, h1, hs⟩, fun _ => h1, fun ⟨cs, h2, h3⟩ => ⟨cs, (hg.block _ (in_heap h2) (fun e => hne (Option.some.inj e).symm)).trans h2, h3⟩, fun h2 => (hg.block _ (in_heap h2) (fun e => hne (Option.some.inj e).symm)).trans h2⟩
theorem Wr.two {w w' : World} (hne : b1 ≠ b2) (hg : w.grownBy w' (some b2)) (h1 : w'.heap[b2]? = some (.cells c2 t (0, 0))) (hs : c2.size = 32) : Wr b1 b2 c1 c2 t w w' :=
  ⟨hg.os, hg.tape, hg.output, hg.size, fun i hi _ n2 => hg.block i hi (fun e => n2 (Option.some.inj e)), fun ⟨cs, h2, h3⟩ => ⟨cs, (hg.block _ (in_heap h2) (fun e => hne (Option.some.inj e))).trans h2, h3⟩, fun h2 => (hg.block _ (in_heap h2) (fun e => hne (Option.some.inj e))).trans h2, fun _ => ⟨c2, h1, hs⟩, fun _ => h1⟩
def pFin1 : Post (Wr b1 b2 c1 c2 t) := ⟨fun _ w => w.heap[b1]? = some (.cells c1 t (0, 0)), fun _ _ _ h hw => hw.f1 h⟩
def pFin2 : Post (Wr b1 b2 c1 c2 t) := ⟨fun _ w => w.heap[b2]? = some (.cells c2 t (0, 0)), fun _ _ _ h hw => hw.f2 h⟩
/-- What lies below both boxes is as it was. -/
theorem Wr.below {w w0 w' : World} (h0 : Below w.heap.size w w0) (h : Wr b1 b2 c1 c2 t w0 w') (n1 : w.heap.size ≤ b1) (n2 : w.heap.size ≤ b2) : Below w.heap.size w w' :=
  ⟨h.os.trans h0.os, h.tape.trans h0.tape, h.output.trans h0.output, Nat.le_trans h0.size h.size, fun i hi => (h.keep i (Nat.lt_of_lt_of_le hi h0.size) (by omega) (by omega)).trans (h0.block i hi)⟩
end
abbrev WrS (b1 b2 : Nat) (r s : List UInt8) : World → World → Prop := Wr b1 b2 (r.map V8).toArray (s.map V8).toArray 29

set_option maxRecDepth 100000 in
set_option maxHeartbeats 1000000 in
theorem extin_whole (m u : Nat) (ob pb g : Nat) (old : List UInt8) (a : Option Addr) (np c : Nat) (p : List (List UInt8)) (w : World) (E : ExtEnv w ob pb g old a np c p) (hu : u ≤ np) :
    Calls Tryd.prog 53 #[.int .i64 m, .int .i64 m, .int .i64 u, .bool true, .pointer (some ⟨ob, 0, none⟩), .pointer (some ⟨pb, 0, none⟩), .pointer (some ⟨g, 0, none⟩)] w (RetBoth (Tree.both old m m true (p.take u)) w) := by
  have E' := Lib.hid E
  have Hl := Lib.hid E.len
  obtain ⟨t, fr, hlf⟩ := E.oldAt
  have HLF := Lib.hid hlf
  clear E hlf
  go_enter Tryd.func53, Tryd.ntmps53
  go_wp2_with fail
  have hb := blk2 w (.cells (zeros8 32) 29) (.cells (zeros8 32) 29)
  have HBk := Lib.hid hb
  have hne : w.heap.size ≠ w.heap.size + 1 := by omega
  clear hb
  refine wp_region_rel2 6 (WrS w.heap.size (w.heap.size + 1) old old) (by kernel_rfl) (by kernel_rfl) Wr.refl Wr.trans [.is (sumV old), .is (sumV old), .is (.int .i64 u), .is (.bool ((u : Int) == 0)), pFin1, pFin2] rfl ?_
  have hold : ∀ wr, WrS w.heap.size (w.heap.size + 1) old old ((w.alloc (.cells (zeros8 32) 29)).alloc (.cells (zeros8 32) 29)).drew wr → wr.heap[ob]? = some (.cells (old.map V8).toArray t fr) := fun wr hR =>
    (hR.keep ob (by have := in_heap HLF.out; show ob < ((w.alloc _).alloc _).heap.size; simp; omega) (Nat.ne_of_lt (in_heap HLF.out)) (by have := in_heap HLF.out; omega)).trans (at_old _ (at_old _ HLF.out))
  have Hold := Lib.hid hold
  clear hold
  refine RelHead2.cons ?_ ?_
  · intro wr hR h
    unfold relOp
    refine wpList_load_sum rfl 29 _ rfl ob (by kernel_rfl) t old 32 fr _ (Hold.out wr hR) Tryd.underlying29 (by kernel_rfl) Hl.out ?_
    go_wp2
    exact ⟨Wr.refl _, rfl⟩
  intro v26
  refine RelHead2.cons ?_ ?_
  · intro wr hR h
    unfold relOp
    refine wpList_load_sum rfl 29 _ rfl ob (by kernel_rfl) t old 32 fr _ (Hold.out wr hR) Tryd.underlying29 (by kernel_rfl) Hl.out ?_
    go_wp2
    exact ⟨Wr.refl _, rfl⟩
  intro v27
  refine RelHead2.cons ?_ ?_
  · intro wr hR h
    unfold relOp
    go_wp2
    exact ⟨Wr.refl _, rfl⟩
  intro v28
  refine RelHead2.cons ?_ ?_
  · intro wr hR h
    have e28 : v28 = (.int .i64 u : Value) := allOf_iff.1 h 2 (by decide)
    subst e28
    unfold relOp
    clear h
    go_wp2
    exact ⟨Wr.refl _, rfl⟩
  intro v29
  refine RelHead2.cons ?_ ?_
  · intro wr hR h
    have e26 : v26 = sumV old := allOf_iff.1 h 0 (by decide)
    subst e26
    obtain ⟨cs, hcs, hs⟩ := hR.k1 ⟨_, HBk.out.1, rfl⟩
    unfold relOp
    refine wpList_store_row' rfl 29 _ _ rfl w.heap.size (old.map V8).toArray (by kernel_rfl) (by kernel_rfl) _ _ hcs (size_sum old Hl.out) (by simp [hs, Hl.out]) (oneCells old) ?_
    intro w' h1 g1 s1
    go_wp2
    exact ⟨Wr.one hne g1 h1 (by simp [Hl.out]), undef, h1⟩
  intro v30
  refine RelHead2.cons ?_ ?_
  · intro wr hR h
    have e27 : v27 = sumV old := allOf_iff.1 h 1 (by decide)
    subst e27
    obtain ⟨cs, hcs, hs⟩ := hR.k2 ⟨_, HBk.out.2, rfl⟩
    unfold relOp
    refine wpList_store_row' rfl 29 _ _ rfl (w.heap.size + 1) (old.map V8).toArray (by kernel_rfl) (by kernel_rfl) _ _ hcs (size_sum old Hl.out) (by simp [hs, Hl.out]) (oneCells old) ?_
    intro w' h1 g1 s1
    go_wp2
    exact ⟨Wr.two hne g1 h1 (by simp [Hl.out]), undef, h1⟩
  intro v31
  refine RelHead2.nil fun wr hR h => ?_
  have e29 : v29 = (.bool ((u : Int) == 0) : Value) := allOf_iff.1 h 3 (by decide)
  have e30 : wr.heap[w.heap.size]? = some (.cells (old.map V8).toArray 29 (0, 0)) := allOf_iff.1 h 4 (by decide)
  have e31 : wr.heap[w.heap.size + 1]? = some (.cells (old.map V8).toArray 29 (0, 0)) := allOf_iff.1 h 5 (by decide)
  subst e29
  have hBl : Below w.heap.size w wr := Wr.below (low2 w (.cells (zeros8 32) 29) (.cells (zeros8 32) 29)).drew hR (Nat.le_refl _) (by omega)
  clear h hR
  go_wp2
  refine bodyPost_ret (results_sum2_tmp rfl _ _ w.heap.size (w.heap.size + 1) _ _ old old 32 (0, 0) (0, 0) _ rfl rfl e30 e31 Tryd.underlying29 (by kernel_rfl) Hl.out Hl.out) rfl ⟨old, old, _, rfl, Hl.out, Hl.out, ?_, hBl⟩
  rw [Tree.both_whole]
  have hp := E'.out.sums.len
  by_cases h : u = 0
  · subst h; simp
  · have h2 : p.take u ≠ [] := by simp; exact ⟨h, fun e => by rw [e] at hp; simp at hp; omega⟩
    rw [if_neg h2]
    have : ((u : Int) == 0) = false := by simp; exact h
    simp [this]
end Go.Proofs.YtpdhgijeanbmcaaDoor
