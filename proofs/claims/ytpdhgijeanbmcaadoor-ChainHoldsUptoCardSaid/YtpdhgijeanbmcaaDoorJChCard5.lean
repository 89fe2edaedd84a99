/- Trees of three leaves: what 'live' asks, and the answers. -/
import Derived.WalkMore
import Derived.Test.YtpdhgijeanbmcaaDoorJChCard4
/- Extc -/
namespace Go.Proofs.YtpdhgijeanbmcaaDoor
open Go.RowKit Go.Great

theorem ext_env {w w0 : World} {root old : List UInt8} {a : Option Addr} {np c : Nat} {p : List (List UInt8)} {t1 t2 t3 : TypeId} {t : TypeId} {o : Obj} (hT : Tabs w) (S : Sums w a np c p) (hl : old.length = 32)
    (hf : w0.heap[w.heap.size + 1 + 1 + 1]? = some (.cells #[extFn w.heap.size (w.heap.size + 1 + 1) (w.heap.size + 1 + 1 + 1)] t (0, 0)))
    (hg : ((((w.alloc (.cells (sumRow old) t1)).alloc (.cells (sumRow root) t2)).alloc (.cells #[.slice a np c] t3)).alloc o).grownBy w0 (some (w.heap.size + 1 + 1 + 1))) :
    ExtEnv w0 w.heap.size (w.heap.size + 1 + 1) (w.heap.size + 1 + 1 + 1) old a np c p ∧ Below w.heap.size w w0 ∧ w0.heap[w.heap.size]? = some (.cells (old.map V8).toArray t1 (0, 0)) ∧ w0.heap[w.heap.size + 1]? = some (.cells (root.map V8).toArray t2 (0, 0)) := by
  have hL : Below w.heap.size w w0 := (low4 _ _ _ _ _).grown hg (by simp; omega) (fun k hk => by obtain rfl := Option.some.inj hk; omega)
  have hb := blk4 w (.cells (sumRow old) t1) (.cells (sumRow root) t2) (.cells #[.slice a np c] t3) o
  have hk : ∀ b x, b < w.heap.size + 1 + 1 + 1 → ((((w.alloc (.cells (sumRow old) t1)).alloc (.cells (sumRow root) t2)).alloc (.cells #[.slice a np c] t3)).alloc o).heap[b]? = some x → w0.heap[b]? = some x :=
    fun b x hlt hx => (hg.block b (in_heap hx) (fun e => absurd (Option.some.inj e) (Nat.ne_of_lt hlt))).trans hx
  exact ⟨⟨hT.below hL, ⟨t1, (0, 0), hk _ _ (by omega) hb.1⟩, cell_block (hk _ _ (by omega) hb.2.2.1) rfl, cell_block hf rfl, hl, S.below hL⟩, hL, hk _ _ (by omega) hb.1, hk _ _ (by omega) hb.2.1⟩

theorem keep54 {w4 w5 : World} {b : Nat} {x : Obj} (g5 : w4.grownBy w5 (some (b + 1))) (h : w4.heap[b]? = some x) : w5.heap[b]? = some x :=
  (g5.block _ (in_heap h) (fun e => by have := Option.some.inj e; omega)).trans h
theorem keep5 {w3 w4 w5 : World} {o o' : Obj} (g4 : ((w3.alloc o).alloc o').grownBy w4 (some w3.heap.size)) (g5 : w4.grownBy w5 (some (w3.heap.size + 1))) : ∀ b' x, b' < w3.heap.size → w3.heap[b']? = some x → w5.heap[b']? = some x := fun b' x hlt hx => by
  have s4 := g4.size
  rw [size_alloc, size_alloc] at s4
  exact (g5.block _ (by omega) (fun e => by have := Option.some.inj e; omega)).trans ((g4.block _ (by rw [size_alloc, size_alloc]; omega) (fun e => by have := Option.some.inj e; omega)).trans (at_old _ (at_old _ hx)))
theorem low5' {w w0 w3 w4 w5 : World} {o o' : Obj} (h0 : Below w.heap.size w w0) (h3 : Below w0.heap.size w0 w3) (g4 : ((w3.alloc o).alloc o').grownBy w4 (some w3.heap.size)) (g5 : w4.grownBy w5 (some (w3.heap.size + 1))) : Below w.heap.size w w5 := by
  have s4 := g4.size
  rw [size_alloc, size_alloc] at s4
  have hl3 := bthen h0 h3
  have i := hl3.size
  exact (((hl3.alloc i _).alloc (by rw [size_alloc]; omega) _).grown g4 (by rw [size_alloc, size_alloc]; omega) (fun k hk => by obtain rfl := Option.some.inj hk; omega)).grown g5 (by omega) (fun k hk => by obtain rfl := Option.some.inj hk; omega)

set_option maxRecDepth 100000 in
set_option maxHeartbeats 2000000 in
theorem extends_of (root old : List UInt8) (m n : Nat) (a : Option Addr) (np c : Nat) (p : List (List UInt8)) (w : World) (hm : 0 < m) (hmn : m ≤ n) (hr : root.length = 32) (ho : old.length = 32) (hT : Tabs w) (S : Sums w a np c p)
    (hin : ∀ ob pb g w', ExtEnv w' ob pb g old a np c p → Calls Tryd.prog 53 #[.int .i64 m, .int .i64 n, .int .i64 np, .bool true, .pointer (some ⟨ob, 0, none⟩), .pointer (some ⟨pb, 0, none⟩), .pointer (some ⟨g, 0, none⟩)] w' (RetBoth (Tree.both old m n true p) w')) :
    Calls Tryd.prog 32 #[.int .i64 m, sumV old, .int .i64 n, sumV root, .slice a np c] w fun e w' => e = .returned (.bool (Tree.extends_ m old n root p)) ∧ Below w.heap.size w w' := by
  have Hin := Lib.hid hin
  have S' := Lib.hid S
  have HOO := Lib.hid ho
  have HRR := Lib.hid hr
  have hi1 : ¬ (m : Int) < 1 := by omega
  have hi2 : ¬ (n : Int) < (m : Int) := by omega
  clear S ho hr hin
  go_enter Tryd.func32, Tryd.ntmps32
  have HB4 := Lib.hid (blk4 w (.cells (sumRow old) 29) (.cells (sumRow root) 29) (.cells #[.slice a np c] 31) (.cells #[.nilFunc] 72)).2.2.2
  go_upto_region 5 with (refine wpList_store_one' rfl 72 _ _ rfl rfl (w.heap.size + 1 + 1 + 1) (.func (.func 53) #[] #[.pointer (some ⟨w.heap.size, 0, none⟩), .pointer (some ⟨w.heap.size + 1 + 1, 0, none⟩), .pointer (some ⟨w.heap.size + 1 + 1 + 1, 0, none⟩)]) rfl rfl rfl _ _ HB4.out (by kernel_rfl) ?_; intro w0 hf hgr; have hf' := Lib.hid hf; have hgr' := Lib.hid hgr; clear hf hgr)
  obtain ⟨E, hB, hold, hroot⟩ := ext_env (p := p) hT S'.out HOO.out hf'.out hgr'.out
  have hc := E.fn
  have hcp := E.pathAt
  unfold extFn at hc
  have HE := Lib.hid E
  have HB0 := Lib.hid hB
  have HOld := Lib.hid hold
  have HRoot := Lib.hid hroot
  have Hel1 := Lib.hid (show ∀ (r : List UInt8), r.length = 32 → ∀ W, (binOp .eql 29 (sumV r) (sumV old)).run Tryd.prog W = .ok (.bool (r == old)) W from fun r h W => eql_sumV r old W h HOO.out)
  have Hel2 := Lib.hid (show ∀ (r : List UInt8), r.length = 32 → ∀ W, (binOp .eql 29 (sumV r) (sumV root)).run Tryd.prog W = .ok (.bool (r == root)) W from fun r h W => eql_sumV r root W h HRR.out)
  clear hf' hgr' E hB hold hroot
  go_wp2_with (first | (go_at_call 53; refine (Hin.out _ _ _ _ HE.out).mono ?_; rintro e w3 ⟨r, s, bb, rfl, hrl, hsl, hmd, hB⟩; have HRL := Lib.hid hrl; have HSL := Lib.hid hsl; have HMD := Lib.hid hmd; have HB3 := Lib.hid hB; clear hrl hsl hmd hB; cases bb <;> cases hq : (r == old)) | (refine wpList_store_row' rfl 29 _ _ rfl (w3.heap.size + 1) (s.map V8).toArray rfl rfl _ _ (at_4 H4.out G4.out) (size_sum s HSL.out) (by simp [HSL.out]) (oneCells s) ?_; intro w5 h5 g5 s5; have h54 := keep54 g5 H4.out; have hk5 := keep5 G4.out g5; have H5 := Lib.hid h5; have G5 := Lib.hid g5; have H54 := Lib.hid h54; have hel1 := Hel1.out r HRL.out; have hel2 := Hel2.out s HSL.out; have HK5 := Lib.hid hk5; clear h5 g5 s5 h54 hk5) | (refine wpList_store_row' rfl 29 _ _ rfl w3.heap.size (r.map V8).toArray rfl rfl _ _ (blk2 _ _ _).1 (size_sum r HRL.out) (by simp [HRL.out]) (oneCells r) ?_; intro w4 h4 g4 s4; have H4 := Lib.hid h4; have G4 := Lib.hid g4; clear h4 g4 s4) | (refine wpList_guarded rfl ?_; refine wpList_load_sum rfl 29 _ rfl w3.heap.size rfl _ r 32 _ _ H54.out Tryd.underlying29 (by kernel_rfl) HRL.out ?_) | (refine wpList_guarded rfl ?_; refine wpList_load_sum rfl 29 _ rfl w.heap.size rfl _ old 32 _ _ (HK5.out _ _ (in_heap (bblk HB3.out HOld.out)) (bblk HB3.out HOld.out)) Tryd.underlying29 (by kernel_rfl) HOO.out ?_) | (refine wpList_guarded rfl ?_; refine wpList_load_sum rfl 29 _ rfl (w3.heap.size + 1) rfl _ s 32 _ _ H5.out Tryd.underlying29 (by kernel_rfl) HSL.out ?_) | (refine wpList_guarded rfl ?_; refine wpList_load_sum rfl 29 _ rfl (w.heap.size + 1) rfl _ root 32 _ _ (HK5.out _ _ (in_heap (bblk HB3.out HRoot.out)) (bblk HB3.out HRoot.out)) Tryd.underlying29 (by kernel_rfl) HRR.out ?_))
  · go_ret
    have : Tree.extends_ m old n root p = false := by unfold Tree.extends_; rw [HMD.out]; rfl
    exact ⟨by rw [this]; try rfl, low5' HB0.out HB3.out G4.out G5.out⟩
  · go_ret
    have : Tree.extends_ m old n root p = false := by unfold Tree.extends_; rw [HMD.out]; rfl
    exact ⟨by rw [this]; try rfl, low5' HB0.out HB3.out G4.out G5.out⟩
  · go_ret
    have : Tree.extends_ m old n root p = false := by unfold Tree.extends_; rw [HMD.out]; simp [hq]
    exact ⟨by rw [this]; try rfl, low5' HB0.out HB3.out G4.out G5.out⟩
  · go_ret
    have : Tree.extends_ m old n root p = (s == root) := by unfold Tree.extends_; rw [HMD.out]; simp [hq]
    exact ⟨by rw [this]; try rfl, low5' HB0.out HB3.out G4.out G5.out⟩

/-- A proof of one sum that two leaves of three have become three. -/
theorem extends_three (root old x : List UInt8) (a : Option Addr) (c : Nat) (w : World) (hr : root.length = 32) (ho : old.length = 32) (hT : Tabs w) (S : Sums w a 1 c [x]) (hs3 : split 3 = 2) :
    Calls Tryd.prog 32 #[.int .i64 2, sumV old, .int .i64 3, sumV root, .slice a 1 c] w fun e w' => e = .returned (.bool (Tree.extends_ 2 old 3 root [x])) ∧ Below w.heap.size w w' := by
  refine extends_of root old 2 3 a 1 c [x] w (by omega) (by omega) hr ho hT S fun ob pb g w' E => ?_
  have h := extin_left 2 3 0 ob pb g true old a 1 c [x] w' (by omega) (by omega) (by omega) (by omega) (by omega) (by rw [hs3]; omega) E fun w2 E2 => by
    rw [hs3]
    exact extin_whole 2 0 ob pb g old a 1 c [x] w2 E2 (by omega)
  simpa using h
end Go.Proofs.YtpdhgijeanbmcaaDoor

/- Ext3 -/
namespace Go.Proofs.YtpdhgijeanbmcaaDoor
open Go.RowKit Go.Great

set_option maxRecDepth 100000 in
set_option maxHeartbeats 4000000 in
theorem extin_part (m u : Nat) (ob pb g : Nat) (old : List UInt8) (a : Option Addr) (np c : Nat) (p : List (List UInt8)) (w : World) (E : ExtEnv w ob pb g old a np c p) (hu : u ≤ np) (hu1 : u ≠ 1) :
    Calls Tryd.prog 53 #[.int .i64 m, .int .i64 m, .int .i64 u, .bool false, .pointer (some ⟨ob, 0, none⟩), .pointer (some ⟨pb, 0, none⟩), .pointer (some ⟨g, 0, none⟩)] w (RetBoth (Tree.both old m m false (p.take u)) w) := by
  have E' := Lib.hid E
  have Hl := Lib.hid E.len
  obtain ⟨t, fr, hlf⟩ := E.oldAt
  have HLF := Lib.hid hlf
  have hpl := E.sums.len
  have Hpl := Lib.hid hpl
  have hu2 : ((u : Int) != 1) = true := by simp; omega
  have hu3 : ¬ (u : Int) = 1 := by omega
  clear E hlf hpl
  go_enter Tryd.func53, Tryd.ntmps53
  go_wp2_with fail
  have HBk := Lib.hid (blk2 w (.cells (zeros8 32) 29) (.cells (zeros8 32) 29))
  have hne : w.heap.size ≠ w.heap.size + 1 := by omega
  have HLk := Lib.hid (low2 w (.cells (zeros8 32) 29) (.cells (zeros8 32) 29)).drew
  have hold : ∀ wr, WrS w.heap.size (w.heap.size + 1) old old ((w.alloc (.cells (zeros8 32) 29)).alloc (.cells (zeros8 32) 29)).drew wr → wr.heap[ob]? = some (.cells (old.map V8).toArray t fr) := fun wr hR =>
    (hR.keep ob (by have := in_heap HLF.out; show ob < ((w.alloc _).alloc _).heap.size; simp; omega) (Nat.ne_of_lt (in_heap HLF.out)) (by have := in_heap HLF.out; omega)).trans (at_old _ (at_old _ HLF.out))
  refine wp_region_reg 4 91 (WrS (w.heap.size) (w.heap.size + 1) old old) (by kernel_rfl) (by kernel_rfl) (by kernel_rfl) (by kernel_rfl) (by kernel_rfl) (Wr.refl) (Wr.trans) [.is (sumV old), .is (sumV old), yFin1, yFin2] rfl (fun vs => ?_) (fun vs wr hR h => ?_)
  · refine RegHead.cons (fun wr hR h => ?_) ?_
    · exact relAt.pureS Wr.refl (by kernel_rfl) (by kernel_rfl) (run_load_box_sum wr ob t fr old (hold wr hR) Hl.out)
    refine RegHead.cons (fun wr hR h => ?_) ?_
    · exact relAt.pureS Wr.refl (by kernel_rfl) (by kernel_rfl) (run_load_box_sum wr ob t fr old (hold wr hR) Hl.out)
    refine RegHead.cons (fun wr hR h => ?_) ?_
    · obtain ⟨cs, hcs, hs⟩ := hR.k1 ⟨_, HBk.out.1, rfl⟩
      obtain ⟨w', hw', h1, g1⟩ := run_store_box wr (w.heap.size) old cs hcs hs Hl.out
      exact relAt.act (by kernel_rfl) (by kernel_rfl) hw' (Wr.one hne g1 h1 (by simp [Hl.out])) h1
    refine RegHead.cons (fun wr hR h => ?_) ?_
    · obtain ⟨cs, hcs, hs⟩ := hR.k2 ⟨_, HBk.out.2, rfl⟩
      obtain ⟨w', hw', h1, g1⟩ := run_store_box wr (w.heap.size + 1) old cs hcs hs Hl.out
      exact relAt.act (by kernel_rfl) (by kernel_rfl) hw' (Wr.two hne g1 h1 (by simp [Hl.out])) h1
    exact trivial
  · have e30 : wr.heap[w.heap.size]? = some (.cells (old.map V8).toArray 29 (0, 0)) := allOf_iff.1 h 2 (by decide)
    have e31 : wr.heap[w.heap.size + 1]? = some (.cells (old.map V8).toArray 29 (0, 0)) := allOf_iff.1 h 3 (by decide)
    have hBl : Below w.heap.size w wr := Wr.below HLk.out hR (Nat.le_refl _) (by omega)
    clear h hR
    refine wp_frame (new := [(sumV old), (sumV old)]) 32 34 (by kernel_rfl) ?_
    simp only [List.take, List.drop, List.cons_append, List.nil_append]
    go_wp2
    refine bodyPost_ret (results_sum2_tmp rfl _ _ (w.heap.size) (w.heap.size + 1) _ _ old old 32 (0, 0) (0, 0) _ rfl rfl e30 e31 Tryd.underlying29 (by kernel_rfl) Hl.out Hl.out) rfl ⟨old, old, _, rfl, Hl.out, Hl.out, ?_, hBl⟩
    rw [Tree.both_part old m (p.take u) (by simp; have := Hpl.out; omega)]
    rfl

set_option maxRecDepth 100000 in
set_option maxHeartbeats 4000000 in
theorem extin_one (m : Nat) (ob pb g : Nat) (old : List UInt8) (a : Option Addr) (np c : Nat) (p : List (List UInt8)) (w : World) (E : ExtEnv w ob pb g old a np c p) (hu : 1 ≤ np) :
    Calls Tryd.prog 53 #[.int .i64 m, .int .i64 m, .int .i64 1, .bool false, .pointer (some ⟨ob, 0, none⟩), .pointer (some ⟨pb, 0, none⟩), .pointer (some ⟨g, 0, none⟩)] w (RetBoth (Tree.both old m m false (p.take 1)) w) := by
  have E' := Lib.hid E
  obtain ⟨b, o, ha, hget⟩ := E.sums.get
  obtain rfl := ha (by omega)
  have hpl := E.sums.len
  obtain ⟨x, p', rfl⟩ : ∃ x p', p = x :: p' := by
    cases p with
    | nil => simp at hpl; omega
    | cons x p' => exact ⟨x, p', rfl⟩
  have hx := hget 0 (by simp)
  rw [show (x :: p')[0] = x from rfl] at hx
  have HX := Lib.hid hx
  have HXL := Lib.hid (E.sums.each x (by simp))
  have hcap := E.sums.cap
  have hPA := Lib.hid E.pathAt
  clear E hget ha hx hpl
  go_enter Tryd.func53, Tryd.ntmps53
  go_wp2_with fail
  have HBk := Lib.hid (blk2 w (.cells (zeros8 32) 29) (.cells (zeros8 32) 29))
  have hne : w.heap.size ≠ w.heap.size + 1 := by omega
  have HLk := Lib.hid (low2 w (.cells (zeros8 32) 29) (.cells (zeros8 32) 29)).drew
  have hpa : ∀ wr, WrS w.heap.size (w.heap.size + 1) x x ((w.alloc (.cells (zeros8 32) 29)).alloc (.cells (zeros8 32) 29)).drew wr → wr.cell? ⟨pb, 0, none⟩ = some (.slice (some ⟨b, o, none⟩) np c) ∧ wr.rangeAt b (o + 0 * 32) (x.map V8) := fun wr hR => by
    have hl : Below w.heap.size w wr := Wr.below HLk.out hR (Nat.le_refl _) (by omega)
    exact ⟨(hl.cell (p := ⟨pb, 0, none⟩) (World.block_lt_of_cell? w _ hPA.out)).trans hPA.out, range_low HX.out hl⟩
  refine wp_region_reg 8 91 (WrS (w.heap.size) (w.heap.size + 1) x x) (by kernel_rfl) (by kernel_rfl) (by kernel_rfl) (by kernel_rfl) (by kernel_rfl) (Wr.refl) (Wr.trans) [.is ((.slice (some ⟨b, o, none⟩) np c : Value)), .is ((.pointer (some ⟨b, o + 0 * 32, none⟩) : Value)), .is (sumV x), .is ((.slice (some ⟨b, o, none⟩) np c : Value)), .is ((.pointer (some ⟨b, o + 0 * 32, none⟩) : Value)), .is (sumV x), yFin1, yFin2] rfl (fun vs => ?_) (fun vs wr hR h => ?_)
  · refine RegHead.cons (fun wr hR h => ?_) ?_
    · exact relAt.pureS Wr.refl (by kernel_rfl) (by kernel_rfl) (run_load_cell wr pb _ (hpa wr hR).1 rfl)
    refine RegHead.cons (fun wr hR h => ?_) ?_
    · exact relAt.pureS Wr.refl (by kernel_rfl) (by kernel_rfl) (run_sums_index wr b o np c 0 (by omega))
    refine RegHead.cons (fun wr hR h => ?_) ?_
    · exact relAt.pureS Wr.refl (by kernel_rfl) (by kernel_rfl) (run_load_at_sum wr b (o + 0 * 32) x (hpa wr hR).2 HXL.out)
    refine RegHead.cons (fun wr hR h => ?_) ?_
    · exact relAt.pureS Wr.refl (by kernel_rfl) (by kernel_rfl) (run_load_cell wr pb _ (hpa wr hR).1 rfl)
    refine RegHead.cons (fun wr hR h => ?_) ?_
    · exact relAt.pureS Wr.refl (by kernel_rfl) (by kernel_rfl) (run_sums_index wr b o np c 0 (by omega))
    refine RegHead.cons (fun wr hR h => ?_) ?_
    · exact relAt.pureS Wr.refl (by kernel_rfl) (by kernel_rfl) (run_load_at_sum wr b (o + 0 * 32) x (hpa wr hR).2 HXL.out)
    refine RegHead.cons (fun wr hR h => ?_) ?_
    · obtain ⟨cs, hcs, hs⟩ := hR.k1 ⟨_, HBk.out.1, rfl⟩
      obtain ⟨w', hw', h1, g1⟩ := run_store_box wr (w.heap.size) x cs hcs hs HXL.out
      exact relAt.act (by kernel_rfl) (by kernel_rfl) hw' (Wr.one hne g1 h1 (by simp [HXL.out])) h1
    refine RegHead.cons (fun wr hR h => ?_) ?_
    · obtain ⟨cs, hcs, hs⟩ := hR.k2 ⟨_, HBk.out.2, rfl⟩
      obtain ⟨w', hw', h1, g1⟩ := run_store_box wr (w.heap.size + 1) x cs hcs hs HXL.out
      exact relAt.act (by kernel_rfl) (by kernel_rfl) hw' (Wr.two hne g1 h1 (by simp [HXL.out])) h1
    exact trivial
  · have e30 : wr.heap[w.heap.size]? = some (.cells (x.map V8).toArray 29 (0, 0)) := allOf_iff.1 h 6 (by decide)
    have e31 : wr.heap[w.heap.size + 1]? = some (.cells (x.map V8).toArray 29 (0, 0)) := allOf_iff.1 h 7 (by decide)
    have hBl : Below w.heap.size w wr := Wr.below HLk.out hR (Nat.le_refl _) (by omega)
    clear h hR
    refine wp_frame (new := [((.slice (some ⟨b, o, none⟩) np c : Value)), ((.pointer (some ⟨b, o + 0 * 32, none⟩) : Value)), (sumV x), ((.slice (some ⟨b, o, none⟩) np c : Value)), ((.pointer (some ⟨b, o + 0 * 32, none⟩) : Value)), (sumV x)]) 34 40 (by kernel_rfl) ?_
    simp only [List.take, List.drop, List.cons_append, List.nil_append]
    go_wp2
    refine bodyPost_ret (results_sum2_tmp rfl _ _ (w.heap.size) (w.heap.size + 1) _ _ x x 32 (0, 0) (0, 0) _ rfl rfl e30 e31 Tryd.underlying29 (by kernel_rfl) HXL.out HXL.out) rfl ⟨x, x, _, rfl, HXL.out, HXL.out, ?_, hBl⟩
    rw [show (x :: p').take 1 = [x] from rfl, Tree.both_one]
    rfl

set_option maxRecDepth 100000 in
set_option maxHeartbeats 4000000 in
theorem extin_zero (m n : Nat) (whole : Bool) (ob pb g : Nat) (old : List UInt8) (a : Option Addr) (np c : Nat) (p : List (List UInt8)) (w : World) (E : ExtEnv w ob pb g old a np c p) (hm : 0 < m) (hmn : m < n) :
    Calls Tryd.prog 53 #[.int .i64 m, .int .i64 n, .int .i64 0, .bool whole, .pointer (some ⟨ob, 0, none⟩), .pointer (some ⟨pb, 0, none⟩), .pointer (some ⟨g, 0, none⟩)] w (RetBoth (Tree.both old m n whole (p.take 0)) w) := by
  have E' := Lib.hid E
  have Hl := Lib.hid E.len
  obtain ⟨t, fr, hlf⟩ := E.oldAt
  have HLF := Lib.hid hlf
  have hpl := E.sums.len
  have Hpl := Lib.hid hpl
  have hn1 : ((m : Int) == (n : Int)) = false := by simp; omega
  have hn2 : ¬ (m : Int) = (n : Int) := by omega
  clear E hlf hpl
  go_enter Tryd.func53, Tryd.ntmps53
  go_wp2_with fail
  have HBk := Lib.hid (blk2 w (.cells (zeros8 32) 29) (.cells (zeros8 32) 29))
  have hne : w.heap.size ≠ w.heap.size + 1 := by omega
  have HLk := Lib.hid (low2 w (.cells (zeros8 32) 29) (.cells (zeros8 32) 29)).drew
  have hold : ∀ wr, WrS w.heap.size (w.heap.size + 1) old old ((w.alloc (.cells (zeros8 32) 29)).alloc (.cells (zeros8 32) 29)).drew wr → wr.heap[ob]? = some (.cells (old.map V8).toArray t fr) := fun wr hR =>
    (hR.keep ob (by have := in_heap HLF.out; show ob < ((w.alloc _).alloc _).heap.size; simp; omega) (Nat.ne_of_lt (in_heap HLF.out)) (by have := in_heap HLF.out; omega)).trans (at_old _ (at_old _ HLF.out))
  refine wp_region_reg 4 91 (WrS (w.heap.size) (w.heap.size + 1) old old) (by kernel_rfl) (by kernel_rfl) (by kernel_rfl) (by kernel_rfl) (by kernel_rfl) (Wr.refl) (Wr.trans) [.is (sumV old), .is (sumV old), yFin1, yFin2] rfl (fun vs => ?_) (fun vs wr hR h => ?_)
  · refine RegHead.cons (fun wr hR h => ?_) ?_
    · exact relAt.pureS Wr.refl (by kernel_rfl) (by kernel_rfl) (run_load_box_sum wr ob t fr old (hold wr hR) Hl.out)
    refine RegHead.cons (fun wr hR h => ?_) ?_
    · exact relAt.pureS Wr.refl (by kernel_rfl) (by kernel_rfl) (run_load_box_sum wr ob t fr old (hold wr hR) Hl.out)
    refine RegHead.cons (fun wr hR h => ?_) ?_
    · obtain ⟨cs, hcs, hs⟩ := hR.k1 ⟨_, HBk.out.1, rfl⟩
      obtain ⟨w', hw', h1, g1⟩ := run_store_box wr (w.heap.size) old cs hcs hs Hl.out
      exact relAt.act (by kernel_rfl) (by kernel_rfl) hw' (Wr.one hne g1 h1 (by simp [Hl.out])) h1
    refine RegHead.cons (fun wr hR h => ?_) ?_
    · obtain ⟨cs, hcs, hs⟩ := hR.k2 ⟨_, HBk.out.2, rfl⟩
      obtain ⟨w', hw', h1, g1⟩ := run_store_box wr (w.heap.size + 1) old cs hcs hs Hl.out
      exact relAt.act (by kernel_rfl) (by kernel_rfl) hw' (Wr.two hne g1 h1 (by simp [Hl.out])) h1
    exact trivial
  · have e30 : wr.heap[w.heap.size]? = some (.cells (old.map V8).toArray 29 (0, 0)) := allOf_iff.1 h 2 (by decide)
    have e31 : wr.heap[w.heap.size + 1]? = some (.cells (old.map V8).toArray 29 (0, 0)) := allOf_iff.1 h 3 (by decide)
    have hBl : Below w.heap.size w wr := Wr.below HLk.out hR (Nat.le_refl _) (by omega)
    clear h hR
    refine wp_frame (new := [(sumV old), (sumV old)]) 42 44 (by kernel_rfl) ?_
    simp only [List.take, List.drop, List.cons_append, List.nil_append]
    go_wp2
    refine bodyPost_ret (results_sum2_tmp rfl _ _ (w.heap.size) (w.heap.size + 1) _ _ old old 32 (0, 0) (0, 0) _ rfl rfl e30 e31 Tryd.underlying29 (by kernel_rfl) Hl.out Hl.out) rfl ⟨old, old, _, rfl, Hl.out, Hl.out, ?_, hBl⟩
    rw [List.take_zero, Tree.both_zero old m n whole hmn hm]
    rfl

set_option maxRecDepth 100000 in
set_option maxHeartbeats 4000000 in
theorem extin_right (m n u ob pb g : Nat) (whole : Bool) (old : List UInt8) (a : Option Addr) (np c : Nat) (p : List (List UInt8)) (w : World) (hup : u < np) (hnp : np < 4611686018427387904) (hm : 0 < m) (hmn : m < n) (hn63 : n < 9223372036854775808) (hmk : ¬ m ≤ split n) (E : ExtEnv w ob pb g old a np c p)
    (ih : ∀ w', ExtEnv w' ob pb g old a np c p → Calls Tryd.prog 53 #[.int .i64 (m - split n : Nat), .int .i64 (n - split n : Nat), .int .i64 u, .bool false, .pointer (some ⟨ob, 0, none⟩), .pointer (some ⟨pb, 0, none⟩), .pointer (some ⟨g, 0, none⟩)] w' (RetBoth (Tree.both old (m - split n) (n - split n) false (p.take u)) w')) :
    Calls Tryd.prog 53 #[.int .i64 m, .int .i64 n, .int .i64 (u + 1 : Nat), .bool whole, .pointer (some ⟨ob, 0, none⟩), .pointer (some ⟨pb, 0, none⟩), .pointer (some ⟨g, 0, none⟩)] w (RetBoth (Tree.both old m n whole (p.take (u + 1))) w) := by
  have E' := Lib.hid E
  have hup' : u < p.length := by have := E.sums.len; omega
  have hkp := split_pos n
  have hkl := split_lt (show 1 < n by omega)
  have Hb := Lib.hid (Tree.both_right old m n whole p u hup' hmn hm hmk)
  have Hhalf := half_any n (by omega)
  obtain ⟨b, o, ha, hget⟩ := E.sums.get
  obtain rfl := ha (by omega)
  have hx := hget u hup'
  have hxl := E.sums.each p[u] (by simp)
  obtain ⟨x, hxe⟩ : ∃ x, x = p[u] := ⟨_, rfl⟩
  rw [← hxe] at hx hxl Hb
  generalize split n = k at *
  rw [show ((m - k : Nat) : Int) = (m : Int) - (k : Int) by omega, show ((n - k : Nat) : Int) = (n : Int) - (k : Int) by omega] at ih
  have Ih := Lib.hid ih
  clear ih
  have HX := Lib.hid hx
  have HXL := Lib.hid hxl
  have hcap := E.sums.cap
  have e1 : ((u + 1 : Nat) : Int) - 1 = (u : Int) := by omega
  have hu0 : ((u + 1 : Nat) : Int) = (u : Int) + 1 := by omega
  have hn1 : ((m : Int) == (n : Int)) = false := by simp; omega
  have hn2 : ¬ (m : Int) = (n : Int) := by omega
  have hunp : (u : Int) < (np : Int) := by omega
  have hmk2 : ¬ (m : Int) ≤ (k : Int) := by omega
  have hmk3 : (k : Int) < (m : Int) := by omega
  have HE1 := Lib.hid e1
  have HU0 := Lib.hid hu0
  clear hx hxl hget ha E hxe hup' e1 hu0
  go_enter Tryd.func53, Tryd.ntmps53
  go_wp2_with fail
  have HBk := Lib.hid (blk2 w (.cells (zeros8 32) 29) (.cells (zeros8 32) 29))
  have HLk := Lib.hid (low2 w (.cells (zeros8 32) 29) (.cells (zeros8 32) 29)).drew
  refine wp_region_reg 9 91 (Low) (by kernel_rfl) (by kernel_rfl) (by kernel_rfl) (by kernel_rfl) (by kernel_rfl) (Low.refl) (Low.trans) [.is (.int .i64 n : Value), .is (.int .i64 k : Value), .is (.slice (some ⟨b, o, none⟩) np c : Value), .is (.int .i64 (u + 1 : Nat) : Value), .is (.int .i64 u : Value), .is (.pointer (some ⟨b, o + u * 32, none⟩) : Value), .is (sumV x), yBox (w.heap.size + 1 + 1) (zeros8 32) 29, .is (.int .i64 k : Value)] rfl (fun vs => ?_) (fun vs wr hR h => ?_)
  · refine RegHead.cons (fun wr hR h => ?_) ?_
    · exact relAt.pure (Low.refl) (by kernel_rfl) (by kernel_rfl)
    refine RegHead.cons (fun wr hR h => ?_) ?_
    · refine relAt.call (by kernel_rfl) (by kernel_rfl) ((Hhalf wr).mono ?_)
      rintro e w2 ⟨rfl, rfl⟩
      exact ⟨_, rfl, Low.refl _, rfl⟩
    refine RegHead.cons (fun wr hR h => ?_) ?_
    · exact relAt.pureS (Low.refl) (by kernel_rfl) (by kernel_rfl) (run_load_cell wr pb _ ((E'.out.low (bthen HLk.out hR)).pathAt) rfl)
    refine RegHead.cons (fun wr hR h => ?_) ?_
    · exact relAt.pure (Low.refl) (by kernel_rfl) (by kernel_rfl)
    refine RegHead.cons (fun wr hR h => ?_) ?_
    · exact relAt.pureS (Low.refl) (by kernel_rfl) (by kernel_rfl) (run_int_sub' wr 3 (.tmp 47) (.const (.int .i64 1)) _ _ _ HE1.out (by omega))
    refine RegHead.cons (fun wr hR h => ?_) ?_
    · exact relAt.pureS (Low.refl) (by kernel_rfl) (by kernel_rfl) (run_sums_index wr b o np c u (by omega))
    refine RegHead.cons (fun wr hR h => ?_) ?_
    · exact relAt.pureS (Low.refl) (by kernel_rfl) (by kernel_rfl) (run_load_at_sum wr b (o + u * 32) x (range_low HX.out (bthen HLk.out hR)) HXL.out)
    refine RegHead.cons (fun wr hR h => ?_) ?_
    · exact relAt.value (u := .pointer (some ⟨wr.heap.size, 0, none⟩)) (w' := wr.alloc (.cells (zeros8 32) 29)) (by kernel_rfl) (run_alloc_sum wr) (low1 _ _) ⟨_, rfl, by have := hR.size; simp at this; exact this, blk1 _ _⟩
    refine RegHead.cons (fun wr hR h => ?_) ?_
    · exact relAt.pure (Low.refl) (by kernel_rfl) (by kernel_rfl)
    exact trivial
  · obtain ⟨b15, hv15, hb15, hbx⟩ : ∃ b, vs 7 = .pointer (some ⟨b, 0, none⟩) ∧ w.heap.size + 1 + 1 ≤ b ∧ wr.heap[b]? = some (.cells (zeros8 32) 29 (0, 0)) := allOf_iff.1 h 7 (by decide)
    rename World => w1
    have hL : Low w w1 := bthen HLk.out hR
    have hz1 := bblk hR (show ((w.alloc _).alloc _).drew.heap[w.heap.size]? = _ from HBk.out.1)
    have hz2 := bblk hR (show ((w.alloc _).alloc _).drew.heap[w.heap.size + 1]? = _ from HBk.out.2)
    clear h
    refine wp_frame2 (ps := [(14, [(.int .i64 k : Value), vs 7]), (44, [(.int .i64 n : Value), (.int .i64 k : Value), (.slice (some ⟨b, o, none⟩) np c : Value), (.int .i64 (u + 1 : Nat) : Value), (.int .i64 u : Value), (.pointer (some ⟨b, o + u * 32, none⟩) : Value), (sumV x)])]) (by kernel_rfl) ?_
    simp only [overlay, List.take, List.drop, List.cons_append, List.nil_append, List.length_cons, List.length_nil, Nat.reduceAdd]
    rw [hv15]
    refine wpList_store_row' rfl 29 _ _ rfl b15 (x.map V8).toArray rfl rfl _ _ hbx (size_sum x HXL.out) (by simp [HXL.out, zeros8]) (oneCells x) ?_
    intro w2 hx2 hg2 hs2
    have hL2 : Below w.heap.size w w2 := hL.grown hg2 hL.size (fun k' hk' => by obtain rfl := Option.some.inj hk'; omega)
    have hy1 : w2.heap[w.heap.size]? = some (.cells (zeros8 32) 29 (0, 0)) := (hg2.block _ (in_heap hz1) (fun e => by have := Option.some.inj e; omega)).trans hz1
    have hy2 : w2.heap[w.heap.size + 1]? = some (.cells (zeros8 32) 29 (0, 0)) := (hg2.block _ (in_heap hz2) (fun e => by have := Option.some.inj e; omega)).trans hz2
    have E2 := E'.out.low hL2
    have HE2 := Lib.hid E2
    have HL2 := Lib.hid hL2
    have HY1 := Lib.hid hy1
    have HY2 := Lib.hid hy2
    have HX2 := Lib.hid hx2
    have hc := E2.fn
    unfold extFn at hc
    have H15 := Lib.hid hb15
    clear hR hL hz1 hz2 hbx hg2 hs2 hL2 hy1 hy2 hx2 E2 Hhalf HLk HBk hb15 hv15
    have hcall := Lib.hid (Ih.out w2 HE2.out)
    have e1 := HE1.out
    clear Ih
    go_wp2_with (first | (go_at_call 53; refine hcall.out.mono ?_; rintro e w3 ⟨r, s, bb, rfl, hrl, hsl, hmd, hB⟩; have HRL := Lib.hid hrl; have HSL := Lib.hid hsl; have HMD := Lib.hid hmd; have HB3 := Lib.hid hB; clear hrl hsl hmd hB) | (refine wpList_store_row' rfl 29 _ _ rfl (w3.heap.size + 1) (s.map V8).toArray rfl rfl _ _ (at_4 H4.out G4.out) (size_sum s HSL.out) (by simp [HSL.out]) (oneCells s) ?_; intro w5 h5 g5 s5; have H5 := Lib.hid h5; have G5 := Lib.hid g5; clear h5 g5 s5) | (refine wpList_store_row' rfl 29 _ _ rfl w3.heap.size (r.map V8).toArray rfl rfl _ _ (blk2 _ _ _).1 (size_sum r HRL.out) (by simp [HRL.out]) (oneCells r) ?_; intro w4 h4 g4 s4; have H4 := Lib.hid h4; have G4 := Lib.hid g4; clear h4 g4 s4))
    have i3 := HB3.out.size
    have i2 := HL2.out.size
    have q1 := in_heap HY2.out
    have q2 := in_heap HX2.out
    have i4 := G4.out.size
    rw [size_alloc, size_alloc] at i4
    have hl3 : Below w.heap.size w w3 := bthen HL2.out HB3.out
    have hl5 : Below w.heap.size w w5 := (((hl3.alloc hl3.size _).alloc (by rw [size_alloc]; omega) _).grown G4.out (by rw [size_alloc, size_alloc]; omega) (fun k hk => by obtain rfl := Option.some.inj hk; omega)).grown G5.out (by omega) (fun k hk => by obtain rfl := Option.some.inj hk; omega)
    have k5 : ∀ b' o', b' < w3.heap.size → w3.heap[b']? = some o' → w5.heap[b']? = some o' := fun b' o' hlt hx => (G5.out.block _ (by omega) (fun e => by have := Option.some.inj e; omega)).trans ((G4.out.block _ (by rw [size_alloc, size_alloc]; omega) (fun e => by have := Option.some.inj e; omega)).trans (at_old _ (at_old _ hx)))
    have h16 : w5.heap[w3.heap.size]? = some (.cells (r.map V8).toArray 29 (0, 0)) := (G5.out.block _ (by omega) (fun e => by have := Option.some.inj e; omega)).trans H4.out
    have HZ1 := Lib.hid (k5 _ _ (by omega) (bblk HB3.out HY1.out))
    have HZ2 := Lib.hid (k5 _ _ (by omega) (bblk HB3.out HY2.out))
    have HZ15 := Lib.hid (k5 _ _ (by omega) (bblk HB3.out HX2.out))
    have HZ16 := Lib.hid h16
    have HZ17 := Lib.hid H5.out
    have HL5 := Lib.hid hl5
    have hb15 := H15.out
    have n1 : b15 ≠ w.heap.size := by omega
    have n2 : b15 ≠ w.heap.size + 1 := by omega
    have n3 : w3.heap.size ≠ w.heap.size := by omega
    have n4 : w3.heap.size ≠ w.heap.size + 1 := by omega
    have n5 : w3.heap.size + 1 ≠ w.heap.size := by omega
    have n6 : w3.heap.size + 1 ≠ w.heap.size + 1 := by omega
    have hne : w.heap.size ≠ w.heap.size + 1 := by omega
    obtain ⟨g16, hg16⟩ : ∃ g, g = w3.heap.size := ⟨_, rfl⟩
    rw [← hg16] at n3 n4 n5 n6 HZ16 HZ17 ⊢
    obtain ⟨ndr, hndr, hndrl⟩ : ∃ nd, nd = Tree.node x r ∧ nd.length = 32 := ⟨_, rfl, rfl⟩
    obtain ⟨nds, hnds, hndsl⟩ : ∃ nd, nd = Tree.node x s ∧ nd.length = 32 := ⟨_, rfl, rfl⟩
    obtain ⟨ndl, hndl, hndll⟩ : ∃ nd, nd = Tree.node s x ∧ nd.length = 32 := ⟨_, rfl, rfl⟩
    have HNR := Lib.hid hndr
    have HNS := Lib.hid hnds
    have HNL := Lib.hid hndl
    have HNRL := Lib.hid hndrl
    have HNSL := Lib.hid hndsl
    have HNLL := Lib.hid hndll
    have hnoder := Lib.hid fun W hT => node_any x r W hT HXL.out HRL.out
    have hnodes := Lib.hid fun W hT => node_any x s W hT HXL.out HSL.out
    have hnodel := Lib.hid fun W hT => node_any s x W hT HSL.out HXL.out
    clear hl3 hl5 k5 h16 i2 i3 i4 q1 q2 hndr hndrl hnds hndsl hndl hndll H4 H5 G4 G5 HY1 HY2 HX2 hb15 H15 hg16 hcall hc
    refine wp_region_reg 9 91 (WrS (w.heap.size) (w.heap.size + 1) ndr nds) (by kernel_rfl) (by kernel_rfl) (by kernel_rfl) (by kernel_rfl) (by kernel_rfl) (Wr.refl) (Wr.trans) [.is (sumV x), .is (sumV r), .is (sumV ndr), .is (sumV x), .is (sumV s), .is (sumV nds), .is (.bool bb : Value), yFin1, yFin2] rfl (fun vs => ?_) (fun vs wr hR h => ?_)
    · refine RegHead.cons (fun wr hR h => ?_) ?_
      · exact relAt.pureS Wr.refl (by kernel_rfl) (by kernel_rfl) (run_load_box_sum wr b15 _ _ x (hR.at_ (show w5.drew.heap[_]? = _ from HZ15.out) n1 n2) HXL.out)
      refine RegHead.cons (fun wr hR h => ?_) ?_
      · exact relAt.pureS Wr.refl (by kernel_rfl) (by kernel_rfl) (run_load_box_sum wr g16 _ _ r (hR.at_ (show w5.drew.heap[_]? = _ from HZ16.out) n3 n4) HRL.out)
      refine RegHead.cons (fun wr hR h => ?_) ?_
      · refine relAt.call (by kernel_rfl) (by kernel_rfl) ((hnoder.out wr (E'.out.tabs.below (Wr.below HL5.out.drew hR (Nat.le_refl _) (by omega)))).mono ?_)
        rintro e w6 ⟨rfl, hB6⟩
        exact ⟨_, rfl, Wr.of_low hB6, congrArg sumV HNR.out.symm⟩
      refine RegHead.cons (fun wr hR h => ?_) ?_
      · exact relAt.pureS Wr.refl (by kernel_rfl) (by kernel_rfl) (run_load_box_sum wr b15 _ _ x (hR.at_ (show w5.drew.heap[_]? = _ from HZ15.out) n1 n2) HXL.out)
      refine RegHead.cons (fun wr hR h => ?_) ?_
      · exact relAt.pureS Wr.refl (by kernel_rfl) (by kernel_rfl) (run_load_box_sum wr (g16 + 1) _ _ s (hR.at_ (show w5.drew.heap[_]? = _ from HZ17.out) n5 n6) HSL.out)
      refine RegHead.cons (fun wr hR h => ?_) ?_
      · refine relAt.call (by kernel_rfl) (by kernel_rfl) ((hnodes.out wr (E'.out.tabs.below (Wr.below HL5.out.drew hR (Nat.le_refl _) (by omega)))).mono ?_)
        rintro e w6 ⟨rfl, hB6⟩
        exact ⟨_, rfl, Wr.of_low hB6, congrArg sumV HNS.out.symm⟩
      refine RegHead.cons (fun wr hR h => ?_) ?_
      · exact relAt.pure Wr.refl (by kernel_rfl) (by kernel_rfl)
      refine RegHead.cons (fun wr hR h => ?_) ?_
      · obtain ⟨cs, hcs, hs⟩ := hR.k1 ⟨_, HZ1.out, rfl⟩
        obtain ⟨w', hw', h1, g1⟩ := run_store_box wr (w.heap.size) ndr cs hcs hs HNRL.out
        exact relAt.act (by kernel_rfl) (by kernel_rfl) hw' (Wr.one hne g1 h1 (by simp [HNRL.out])) h1
      refine RegHead.cons (fun wr hR h => ?_) ?_
      · obtain ⟨cs, hcs, hs⟩ := hR.k2 ⟨_, HZ2.out, rfl⟩
        obtain ⟨w', hw', h1, g1⟩ := run_store_box wr (w.heap.size + 1) nds cs hcs hs HNSL.out
        exact relAt.act (by kernel_rfl) (by kernel_rfl) hw' (Wr.two hne g1 h1 (by simp [HNSL.out])) h1
      exact trivial
    · have e30 : wr.heap[w.heap.size]? = some (.cells (ndr.map V8).toArray 29 (0, 0)) := allOf_iff.1 h 7 (by decide)
      have e31 : wr.heap[w.heap.size + 1]? = some (.cells (nds.map V8).toArray 29 (0, 0)) := allOf_iff.1 h 8 (by decide)
      have hBl : Below w.heap.size w wr := Wr.below HL5.out.drew hR (Nat.le_refl _) (by omega)
      clear h hR
      refine wp_frame (new := [(sumV x), (sumV r), (sumV ndr), (sumV x), (sumV s), (sumV nds), (.bool bb : Value)]) 84 91 (by kernel_rfl) ?_
      simp only [List.take, List.drop, List.cons_append, List.nil_append]
      go_wp2
      refine bodyPost_ret (results_sum2_tmp rfl _ _ (w.heap.size) (w.heap.size + 1) _ _ ndr nds 32 (0, 0) (0, 0) _ rfl rfl e30 e31 Tryd.underlying29 (by kernel_rfl) HNRL.out HNSL.out) rfl ⟨ndr, nds, _, rfl, HNRL.out, HNSL.out, ?_, hBl⟩
      rw [Hb.out, HMD.out, HNR.out, HNS.out]
      cases bb <;> rfl

theorem extin_any (ob pb g : Nat) (old : List UInt8) (a : Option Addr) (np c : Nat) (p : List (List UInt8)) (hnp : np < 4611686018427387904) : ∀ (N m n u : Nat) (whole : Bool) (w : World), n ≤ N → 0 < m → m ≤ n → n < 9223372036854775808 → u ≤ np → ExtEnv w ob pb g old a np c p →
    Calls Tryd.prog 53 #[.int .i64 m, .int .i64 n, .int .i64 u, .bool whole, .pointer (some ⟨ob, 0, none⟩), .pointer (some ⟨pb, 0, none⟩), .pointer (some ⟨g, 0, none⟩)] w (RetBoth (Tree.both old m n whole (p.take u)) w) := by
  intro N
  induction N with
  | zero => intro m n u whole w hN hm hmn; omega
  | succ N ih =>
    intro m n u whole w hN hm hmn hn hu E
    by_cases he : m = n
    · subst he
      cases whole with
      | true => exact extin_whole m u ob pb g old a np c p w E hu
      | false =>
        by_cases h1 : u = 1
        · subst h1
          exact extin_one m ob pb g old a np c p w E hu
        · exact extin_part m u ob pb g old a np c p w E hu h1
    · have hkp := split_pos n
      have hkl := split_lt (show 1 < n by omega)
      cases u with
      | zero => exact extin_zero m n whole ob pb g old a np c p w E hm (by omega)
      | succ u =>
        by_cases hmk : m ≤ split n
        · exact extin_left m n u ob pb g whole old a np c p w (by omega) hnp hm (by omega) hn hmk E fun w' E' => ih m (split n) u whole w' (by omega) hm hmk (by omega) (by omega) E'
        · exact extin_right m n u ob pb g whole old a np c p w (by omega) hnp hm (by omega) hn hmk E fun w' E' => ih (m - split n) (n - split n) u false w' (by omega) (by omega) (by omega) (by omega) (by omega) E'
theorem extends_any (root old : List UInt8) (m n : Nat) (a : Option Addr) (np c : Nat) (p : List (List UInt8)) (w : World) (hm : 0 < m) (hmn : m ≤ n) (hn : n < 9223372036854775808) (hnp : np < 4611686018427387904) (hr : root.length = 32) (ho : old.length = 32) (hT : Tabs w) (S : Sums w a np c p) :
    Calls Tryd.prog 32 #[.int .i64 m, sumV old, .int .i64 n, sumV root, .slice a np c] w fun e w' => e = .returned (.bool (Tree.extends_ m old n root p)) ∧ Below w.heap.size w w' :=
  extends_of root old m n a np c p w hm hmn hr ho hT S fun ob pb g w' E => by
    have h := extin_any ob pb g old a np c p hnp n m n np true w' (Nat.le_refl _) hm hmn hn (Nat.le_refl _) E
    rwa [List.take_of_length_le (by rw [E.sums.len]; exact Nat.le_refl _)] at h
end Go.Proofs.YtpdhgijeanbmcaaDoor

/- Rev -/
namespace Go.Proofs.YtpdhgijeanbmcaaDoor
open Go.RowKit Go.Great

/-- The first k and the last k have changed places. -/
def RevAt (M N : List (List UInt8)) (k : Nat) : Prop := N.length = M.length ∧ ∀ i, i < M.length → N[i]? = if i < k ∨ M.length ≤ i + k then M[M.length - 1 - i]? else M[i]?
theorem RevAt.start (M : List (List UInt8)) : RevAt M M 0 := ⟨rfl, fun i hi => by rw [if_neg (by omega)]⟩
theorem RevAt.next {M N : List (List UInt8)} {k m : Nat} (h : RevAt M N k) (hm : k + m + 1 = M.length) (hkm : k < m) {x y : List UInt8} (hx : N[m]? = some x) (hy : N[k]? = some y) : RevAt M ((N.set k x).set m y) (k + 1) := by
  obtain ⟨h1, h2⟩ := h
  refine ⟨by simp [h1], fun i hi => ?_⟩
  by_cases him : i = m
  · subst him
    rw [List.getElem?_set_self (by simp; omega), ← hy, h2 k (by omega), if_neg (by omega), if_pos (by omega), show M.length - 1 - i = k by omega]
  · rw [List.getElem?_set_ne (by omega)]
    by_cases hik : i = k
    · subst hik
      rw [List.getElem?_set_self (by omega), ← hx, h2 m (by omega), if_neg (by omega), if_pos (by omega), show M.length - 1 - i = m by omega]
    · rw [List.getElem?_set_ne (by omega), h2 i hi]
      by_cases hc : i < k ∨ M.length ≤ i + k
      · rw [if_pos hc, if_pos (by omega)]
      · rw [if_neg hc, if_neg (by omega)]
theorem RevAt.done {M N : List (List UInt8)} {k : Nat} (h : RevAt M N k) (hk : M.length ≤ k + k + 1) : N = M.reverse := by
  obtain ⟨h1, h2⟩ := h
  apply List.ext_getElem?
  intro i
  by_cases hi : i < M.length
  · rw [h2 i hi, List.getElem?_reverse hi]
    by_cases hc : i < k ∨ M.length ≤ i + k
    · rw [if_pos hc]
    · rw [if_neg hc, show M.length - 1 - i = i by omega]
  · rw [List.getElem?_eq_none (by omega), List.getElem?_eq_none (by simp; omega)]
theorem RevAt.each {M N : List (List UInt8)} {k : Nat} (h : RevAt M N k) (hM : ∀ x ∈ M, x.length = 32) : ∀ x ∈ N, x.length = 32 := by
  obtain ⟨h1, h2⟩ := h
  intro x hx
  obtain ⟨i, hi, rfl⟩ := List.mem_iff_getElem.1 hx
  have h3 := h2 i (by omega)
  rw [List.getElem?_eq_getElem hi] at h3
  split at h3 <;> exact hM _ (List.mem_of_getElem? h3.symm)

def revI (w0 : World) (base g C n : Nat) (N : List (List UInt8)) (k : Nat) (x : List UInt8) : List Bool → World → Prop
  | [true], w => Acc 29 32 w0 w base (some ⟨g, 0, none⟩) C n (sumCells (N.set k x))
  | _, w => Acc 29 32 w0 w base (some ⟨g, 0, none⟩) C n (sumCells N)

set_option maxRecDepth 100000 in
set_option maxHeartbeats 4000000 in
theorem rev_any (M : List (List UInt8)) (w0 w : World) (base : Nat) (B : Option Addr) (n C : Nat) (hnl : n = M.length) (hn : n < 4611686018427387904) (hM : ∀ x ∈ M, x.length = 32) (H : Acc 29 32 w0 w base B C n (sumCells M)) :
    Calls Tryd.prog 47 #[.slice B n C] w fun e w' => e = .returned (.tuple #[]) ∧ Acc 29 32 w0 w' base B C n (sumCells M.reverse) := by
  have HH := Lib.hid H
  have Hnl := Lib.hid hnl
  have HM := Lib.hid hM
  clear H hnl hM
  go_enter Tryd.func47, Tryd.ntmps47
  go_wp2
  go_loopw [2, 3] (fun i j wr => ∃ (k : Nat) (jz : Int) (N : List (List UInt8)), i = .int .i64 k ∧ j = .int .i64 jz ∧ Hid (jz = (n : Int) - 1 - k ∧ k ≤ n ∧ RevAt M N k) ∧ Acc 29 32 w0 wr base B C n (sumCells N)) (fun i _ _ => n - (intOf i).toNat)
  case atStart => exact ⟨0, (n : Int) - 1, M, rfl, rfl, Lib.hid ⟨by omega, by omega, RevAt.start M⟩, HH.out⟩
  case round =>
    clear HH
    obtain ⟨k, jz, N, rfl, rfl, hrv, hA⟩ := hrel
    have HA := Lib.hid hA
    clear hA
    by_cases hlt : (k : Int) < jz
    · obtain ⟨m, hm⟩ : ∃ m : Nat, jz = (m : Int) := ⟨jz.toNat, by omega⟩
      subst hm
      have hkm : k < m := by omega
      have hmn : k + m + 1 = n := by have := hrv.out.1; omega
      have hNl : N.length = n := by rw [Hnl.out]; exact hrv.out.2.2.1
      have hEach := hrv.out.2.2.each HM.out
      obtain ⟨x, hx, hxm⟩ : ∃ x, N[m]? = some x ∧ x ∈ N := ⟨N[m]'(by omega), List.getElem?_eq_getElem (by omega), by simp⟩
      obtain ⟨y, hy, hym⟩ : ∃ y, N[k]? = some y ∧ y ∈ N := ⟨N[k]'(by omega), List.getElem?_eq_getElem (by omega), by simp⟩
      have Hx := Lib.hid hx
      have Hy := Lib.hid hy
      have HX := Lib.hid (hEach x hxm)
      have HY := Lib.hid (hEach y hym)
      have HE := Lib.hid hEach
      have HNl := Lib.hid hNl
      have Hmn := Lib.hid hmn
      have hBg : ∃ g, B = some ⟨g, 0, none⟩ := by
        rcases HA.out.form with ⟨_, h0, _⟩ | ⟨g, _, hg, _⟩
        · omega
        · exact ⟨g, hg⟩
      obtain ⟨g, rfl⟩ := hBg
      have hki0 : (0 : Int) ≤ (k : Int) := by omega
      have hmn1 : m < n := by omega
      have hkn1 : k < n := by omega
      clear hx hy hxm hym hEach hNl hmn
      go_wp2
      refine wp_region_inv 14 28 (fun _ _ => True) [13] (revI w0 base g C n N k x) (by kernel_rfl) (by kernel_rfl) (by kernel_rfl) (by kernel_rfl) (by kernel_rfl) [.is (.slice (some ⟨g, 0, none⟩) n C : Value), .is (.int .i64 k : Value), .is (.slice (some ⟨g, 0, none⟩) n C : Value), .is (.int .i64 m : Value), .is (.slice (some ⟨g, 0, none⟩) n C : Value), .is (.int .i64 m : Value), .is (.pointer (some ⟨g, 0 + m * 32, none⟩) : Value), .is (sumV x), .is (.slice (some ⟨g, 0, none⟩) n C : Value), .is (.int .i64 k : Value), .is (.pointer (some ⟨g, 0 + k * 32, none⟩) : Value), .is (sumV y), .is (.pointer (some ⟨g, 0 + k * 32, none⟩) : Value), .is undef] rfl (HA.out.drew) (fun vs => ?_) (fun vs wr hI h => ?_)
      · refine RegHeadI.cons (fun S wr hd hSk hSd hI h => ?_) ?_
        · exact relAtI.pure ⟨trivial, keepI (by decide) hI⟩ (by kernel_rfl) (by kernel_rfl)
        refine RegHeadI.cons (fun S wr hd hSk hSd hI h => ?_) ?_
        · exact relAtI.pure ⟨trivial, keepI (by decide) hI⟩ (by kernel_rfl) (by kernel_rfl)
        refine RegHeadI.cons (fun S wr hd hSk hSd hI h => ?_) ?_
        · exact relAtI.pure ⟨trivial, keepI (by decide) hI⟩ (by kernel_rfl) (by kernel_rfl)
        refine RegHeadI.cons (fun S wr hd hSk hSd hI h => ?_) ?_
        · exact relAtI.pure ⟨trivial, keepI (by decide) hI⟩ (by kernel_rfl) (by kernel_rfl)
        refine RegHeadI.cons (fun S wr hd hSk hSd hI h => ?_) ?_
        · exact relAtI.pure ⟨trivial, keepI (by decide) hI⟩ (by kernel_rfl) (by kernel_rfl)
        refine RegHeadI.cons (fun S wr hd hSk hSd hI h => ?_) ?_
        · exact relAtI.pure ⟨trivial, keepI (by decide) hI⟩ (by kernel_rfl) (by kernel_rfl)
        refine RegHeadI.cons (fun S wr hd hSk hSd hI h => ?_) ?_
        · exact relAtI.pureS ⟨trivial, keepI (by decide) hI⟩ (by kernel_rfl) (by kernel_rfl) (run_sums_index wr g 0 n C m hmn1)
        refine RegHeadI.cons (fun S wr hd hSk hSd hI h => ?_) ?_
        · have h13 : S 13 = false := hd.not 14 hSk (by decide) (by decide)
          have hI2 : Acc 29 32 w0 wr base (some ⟨g, 0, none⟩) C n (sumCells N) := by have hI := hI; simp only [List.map, h13] at hI; exact hI
          exact relAtI.pureS ⟨trivial, keepI (by decide) hI⟩ (by kernel_rfl) (by kernel_rfl) (run_load_at_sum wr g (0 + m * 32) x (acc_range hI2 HE.out HNl.out.symm m x Hx.out) HX.out)
        refine RegHeadI.cons (fun S wr hd hSk hSd hI h => ?_) ?_
        · exact relAtI.pure ⟨trivial, keepI (by decide) hI⟩ (by kernel_rfl) (by kernel_rfl)
        refine RegHeadI.cons (fun S wr hd hSk hSd hI h => ?_) ?_
        · exact relAtI.pure ⟨trivial, keepI (by decide) hI⟩ (by kernel_rfl) (by kernel_rfl)
        refine RegHeadI.cons (fun S wr hd hSk hSd hI h => ?_) ?_
        · exact relAtI.pureS ⟨trivial, keepI (by decide) hI⟩ (by kernel_rfl) (by kernel_rfl) (run_sums_index wr g 0 n C k hkn1)
        refine RegHeadI.cons (fun S wr hd hSk hSd hI h => ?_) ?_
        · have h13 : S 13 = false := hd.not 14 hSk (by decide) (by decide)
          have hI2 : Acc 29 32 w0 wr base (some ⟨g, 0, none⟩) C n (sumCells N) := by have hI := hI; simp only [List.map, h13] at hI; exact hI
          exact relAtI.pureS ⟨trivial, keepI (by decide) hI⟩ (by kernel_rfl) (by kernel_rfl) (run_load_at_sum wr g (0 + k * 32) y (acc_range hI2 HE.out HNl.out.symm k y Hy.out) HY.out)
        refine RegHeadI.cons (fun S wr hd hSk hSd hI h => ?_) ?_
        · exact relAtI.pureS ⟨trivial, keepI (by decide) hI⟩ (by kernel_rfl) (by kernel_rfl) (run_sums_index wr g 0 n C k hkn1)
        refine RegHeadI.cons (fun S wr hd hSk hSd hI h => ?_) ?_
        · have h13 : S 13 = false := hSk
          have hI2 : Acc 29 32 w0 wr base (some ⟨g, 0, none⟩) C n (sumCells N) := by have hI := hI; simp only [List.map, h13] at hI; exact hI
          obtain ⟨hs1, hs2, hs3⟩ := run_store_sum_own wr hI2 HE.out HNl.out.symm k hkn1 x HX.out
          exact relAtI.act (by kernel_rfl) (by kernel_rfl) hs1 ⟨trivial, by simp only [List.map, setB, if_true]; exact hs2⟩ rfl
        exact trivial
      · have hI2 : Acc 29 32 w0 wr base (some ⟨g, 0, none⟩) C n (sumCells (N.set k x)) := hI
        have HI2 := Lib.hid hI2
        clear h hI hI2
        refine wp_frame (new := [(.slice (some ⟨g, 0, none⟩) n C : Value), (.int .i64 k : Value), (.slice (some ⟨g, 0, none⟩) n C : Value), (.int .i64 m : Value), (.slice (some ⟨g, 0, none⟩) n C : Value), (.int .i64 m : Value), (.pointer (some ⟨g, 0 + m * 32, none⟩) : Value), (sumV x), (.slice (some ⟨g, 0, none⟩) n C : Value), (.int .i64 k : Value), (.pointer (some ⟨g, 0 + k * 32, none⟩) : Value), (sumV y), (.pointer (some ⟨g, 0 + k * 32, none⟩) : Value)]) 14 27 (by kernel_rfl) ?_
        simp only [List.take, List.drop, List.cons_append, List.nil_append]
        have hNs : ∀ z ∈ N.set k x, z.length = 32 := fun z hz => by
          rcases List.mem_or_eq_of_mem_set hz with hz | rfl
          · exact HE.out z hz
          · exact HX.out
        have HNs := Lib.hid hNs
        clear hNs
        have hmn2 : (m : Int) < (n : Int) := by omega
        have hmi0 : (0 : Int) ≤ (m : Int) := by omega
        go_wp2_with (refine wpList_store_own rfl _ _ rfl HI2.out HNs.out (by simp [HNl.out]) m hmn1 y HY.out rfl rfl ?_; intro w9 hacc9 hg9; have HA9 := Lib.hid hacc9; clear hacc9 hg9)
        go_roundw
        case rel =>
          refine ⟨k + 1, (m : Int) - 1, (N.set k x).set m y, by go_num, rfl, Lib.hid ⟨?_, by omega, ?_⟩, ?_⟩
          · have := Hmn.out; omega
          · exact hrv.out.2.2.next (by rw [← Hnl.out]; exact Hmn.out) hkm Hx.out Hy.out
          · exact HA9.out
        case measure => simp [intOf]; omega
    · go_wp2
      go_end0
      refine ⟨rfl, ?_⟩
      have hN : N = M.reverse := hrv.out.2.2.done (by have := hrv.out.1; have := Hnl.out; omega)
      rw [← hN]
      exact HA.out
end Go.Proofs.YtpdhgijeanbmcaaDoor

/- Path -/
namespace Go.Proofs.YtpdhgijeanbmcaaDoor
open Go.RowKit Go.Great

theorem RetSE.of_rev {w w' : World} {B : Option Addr} {C : Nat} {M : List (List UInt8)} (h : Acc 29 32 w w' w.heap.size B C M.length (sumCells M.reverse)) : RetSE w M.reverse 0 (.returned (.tuple #[.slice B M.length C, .int .i64 0])) w' := by
  have e : M.reverse.length = M.length := List.length_reverse
  refine ⟨B, C, by rw [e], by rw [e]; exact h⟩

def lenOf : Value → Nat
  | .slice _ n _ => n
  | _ => 0
theorem lenOf_slice (a : Option Addr) (n c : Nat) : lenOf (.slice a n c) = n := rfl
/-- Where the descent stands: a part of the leaves, a place in it, and the path so far, last sum first. -/
structure PAt (w : World) (L : List (List UInt8)) (i : Nat) (wr : World) (L' : List (List UInt8)) (a : Option Addr) (n c i' : Nat) (B : Option Addr) (C : Nat) (M : List (List UInt8)) : Prop where
  sums : Sums w a n c L'
  lt : i' < n
  acc : Acc 29 32 w wr w.heap.size B C M.length (sumCells M)
  path : Tree.path L i = Tree.path L' i' ++ M.reverse
  room : M.length + n ≤ L.length
  each : ∀ x ∈ M, x.length = 32

set_option maxRecDepth 100000 in
set_option maxHeartbeats 2000000 in
theorem path_any (L : List (List UInt8)) (a : Option Addr) (n c i : Nat) (w : World) (hi : i < n) (hlen : n < 1099511627776) (hT : Tabs w) (S : Sums w a n c L) :
    Calls Tryd.prog 24 #[.slice a n c, .int .i64 i] w (RetSE w (Tree.path L i) 0) := by
  obtain ⟨z0, hz0, hinfo⟩ := info_sum'
  have HI := Lib.hid hinfo
  have HZ0 := Lib.hid hz0
  have hs : PAt w L i w L a n c i none 0 [] := ⟨S, hi, Acc.start _ _ _ _ _ (Below.refl _ _) (Nat.le_refl _), by simp, by rw [S.len]; simp, fun _ h => by cases h⟩
  have HS := Lib.hid hs
  have hLn := S.len
  have HLn := Lib.hid hLn
  have h1 : ¬ (i : Int) < 0 := by omega
  have h2 : ¬ (n : Int) ≤ (i : Int) := by omega
  clear S hinfo hz0 hs hLn
  go_enter Tryd.func24, Tryd.ntmps24
  go_wp2
  go_step3
  go_wp2
  go_step3
  go_wp2
  simp only [decide_eq_false (show ¬ (i : Int) < 0 by omega), decide_eq_false (show ¬ n ≤ i by omega), Bool.or_false]
  go_loopw [1, 6, 7, 8] (fun iv pv lv _ wr => ∃ (L' : List (List UInt8)) (a' : Option Addr) (n' c' i' : Nat) (B : Option Addr) (C : Nat) (M : List (List UInt8)), iv = .int .i64 i' ∧ pv = .slice B M.length C ∧ lv = .slice a' n' c' ∧ PAt w L i wr L' a' n' c' i' B C M) (fun _ _ lv _ _ => lenOf lv)
  case atStart => exact ⟨L, a, n, c, i, none, 0, [], rfl, rfl, rfl, HS.out⟩
  case round =>
    clear HS
    obtain ⟨L', a', n', c', i', B, C, M, rfl, rfl, rfl, hP⟩ := hrel
    have HP := Lib.hid hP
    clear hP
    by_cases hone : n' = 1
    · have hone2 : ((n' : Int) == 1) = true := by simp; omega
      have hone3 : (n' : Int) = 1 := by omega
      have hl' := HP.out.sums.len
      have hst := Tree.path_stop (l := L') (i := i') (by omega)
      have hpa := HP.out.path
      rw [hst, List.nil_append] at hpa
      have HPA := Lib.hid hpa
      have hMl : M.length < 4611686018427387904 := by have := HP.out.room; have := HLn.out; omega
      clear hl' hst hpa
      go_wp2_with (go_at_call 47; refine (rev_any M w wr w.heap.size B M.length C rfl hMl HP.out.each HP.out.acc).mono ?_; rintro e w1 ⟨rfl, hA1⟩; have HA1 := Lib.hid hA1; clear hA1)
      rw [Exit.noGoto_ret]
      go_ret2
      rw [HPA.out]
      exact RetSE.of_rev HA1.out
    · have hn1 : 1 < n' := by have := HP.out.lt; omega
      have hone2 : ((n' : Int) == 1) = false := by simp; omega
      have hone3 : ¬ (n' : Int) = 1 := by omega
      have hn63 : n' < 1099511627776 := by have := HP.out.room; have := HLn.out; omega
      have hkp := split_pos n'
      have hkl := split_lt hn1
      have hl' := HP.out.sums.len
      have hpl := @Tree.path_left L' i' (by omega)
      have hpr := @Tree.path_right L' i' (by omega)
      rw [← hl'] at hpl hpr
      have Hhalf := half_any n' (by omega)
      have hcap := HP.out.sums.cap
      generalize split n' = k at *
      have hMl : M.length + 1 ≤ 1099511627776 := by have := HP.out.room; have := HLn.out; omega
      have z1 : M.length + 1 ≤ maxLen := by unfold maxLen; omega
      have z2 : (M.length + 1) * 32 ≤ 140737488355328 := by omega
      have hlow := HP.out.acc.low
      have Hlow := Lib.hid hlow
      by_cases hik : i' < k
      · have hik2 : (i' : Int) < (k : Int) := by omega
        have hpp := hpl hik
        have hsl := Tree.root_len (L'.drop k) fun x hx => HP.out.sums.each x (List.mem_of_mem_drop hx)
        have hrt := root_any (L'.drop k) (a'.map (·.add (k * 32))) (n' - k) (c' - k) wr (by rw [List.length_drop]; omega) (hT.below hlow) ((HP.out.sums.rest k hkl).below hlow)
        obtain ⟨s, hse⟩ : ∃ s, s = Tree.root (L'.drop k) := ⟨_, rfl⟩
        rw [← hse] at hpp hsl hrt
        have Hrt := Lib.hid hrt
        have Hsl := Lib.hid hsl
        have Hpp := Lib.hid hpp
        have Hl' := Lib.hid hl'
        clear hpl hpr hpp hsl hrt hse hl' hlow
        go_wp2_with (first | (go_at_call 45; refine (Hhalf _).mono ?_; rintro e w1 ⟨rfl, rfl⟩) | (go_at_call 21; refine Hrt.out.mono ?_; rintro e w2 ⟨rfl, hB⟩; have HB := Lib.hid hB; clear hB) | (refine wpList_build_sum rfl _ rfl s rfl Hsl.out ?_) | (at_builtin; refine wpList_acc rfl _ _ 31 rfl 29 32 32 z0 Tryd.underlying31 HI.out HZ0.out (by decide) w w.heap.size B C M.length (sumCells M) rfl ((HP.out.acc.below HB.out).alloc _) (some ⟨w2.heap.size, 0, none⟩) 1 1 (s.map V8) rfl (by simp [Hsl.out]) (box_bytes (blk1 _ _)).cells (fun h => by cases h) (fun ad h => ⟨_, _, (Option.some.inj h).symm⟩) (ones' s) z1 z2 ?_; intro B2 D2 w3 hacc hg hnew; have HA := Lib.hid hacc; clear hacc hg hnew))
        go_roundw
        case rel =>
          refine ⟨L'.take k, a', k, c', i', B2, D2, M ++ [s], rfl, by simp, rfl, HP.out.sums.take k (by omega), hik, ?_, ?_, ?_, ?_⟩
          · have := HA.out
            rw [← sumCells_one s, ← sumCells_append] at this
            simpa using this
          · rw [HP.out.path, Hpp.out]; simp
          · have := HP.out.room; simp; omega
          · intro x hx
            rw [List.mem_append, List.mem_singleton] at hx
            rcases hx with hx | rfl
            · exact HP.out.each x hx
            · exact Hsl.out
        case measure => rw [lenOf_slice, lenOf_slice]; omega
      · have hik2 : ¬ (i' : Int) < (k : Int) := by omega
        have hpp := hpr hik
        have e0 : ((i' - k : Nat) : Int) = (i' : Int) - (k : Int) := by omega
        have hsl := Tree.root_len (L'.take k) fun x hx => HP.out.sums.each x (List.mem_of_mem_take hx)
        have hrt := root_any (L'.take k) a' k c' wr (by rw [List.length_take]; omega) (hT.below hlow) ((HP.out.sums.take k (by omega)).below hlow)
        obtain ⟨s, hse⟩ : ∃ s, s = Tree.root (L'.take k) := ⟨_, rfl⟩
        rw [← hse] at hpp hsl hrt
        have Hrt := Lib.hid hrt
        have Hsl := Lib.hid hsl
        have Hpp := Lib.hid hpp
        have Hl' := Lib.hid hl'
        have He0 := Lib.hid e0
        have hwr : wrap64 ((i' : Int) - (k : Int)) = (i' : Int) - (k : Int) := by have := HP.out.lt; unfold wrap64; omega
        clear hpl hpr hpp hsl hrt hse hl' hlow e0
        go_wp2_with (first | (go_at_call 45; refine (Hhalf _).mono ?_; rintro e w1 ⟨rfl, rfl⟩) | (go_at_call 21; refine Hrt.out.mono ?_; rintro e w2 ⟨rfl, hB⟩; have HB := Lib.hid hB; clear hB) | (refine wpList_build_sum rfl _ rfl s rfl Hsl.out ?_) | (at_builtin; refine wpList_acc rfl _ _ 31 rfl 29 32 32 z0 Tryd.underlying31 HI.out HZ0.out (by decide) w w.heap.size B C M.length (sumCells M) rfl ((HP.out.acc.below HB.out).alloc _) (some ⟨w2.heap.size, 0, none⟩) 1 1 (s.map V8) rfl (by simp [Hsl.out]) (box_bytes (blk1 _ _)).cells (fun h => by cases h) (fun ad h => ⟨_, _, (Option.some.inj h).symm⟩) (ones' s) z1 z2 ?_; intro B2 D2 w3 hacc hg hnew; have HA := Lib.hid hacc; clear hacc hg hnew))
        go_roundw
        case rel =>
          refine ⟨L'.drop k, a'.map (·.add (k * 32)), n' - k, c' - k, i' - k, B2, D2, M ++ [s], by rw [He0.out, hwr], by simp, rfl, HP.out.sums.rest k hkl, by have := HP.out.lt; omega, ?_, ?_, ?_, ?_⟩
          · have := HA.out
            rw [← sumCells_one s, ← sumCells_append] at this
            simpa using this
          · rw [HP.out.path, Hpp.out]; simp
          · have := HP.out.room; simp; omega
          · intro x hx
            rw [List.mem_append, List.mem_singleton] at hx
            rcases hx with hx | rfl
            · exact HP.out.each x hx
            · exact Hsl.out
        case measure => rw [lenOf_slice, lenOf_slice]; omega
end Go.Proofs.YtpdhgijeanbmcaaDoor

/- Rpath -/
namespace Go.Proofs.YtpdhgijeanbmcaaDoor
open Go.RowKit Go.Great

theorem Tree.path_len (L : List (List UInt8)) (i : Nat) : (Tree.path L i).length ≤ L.length := by
  fun_induction Tree.path L i with
  | case1 l i h1 h2 ih =>
    have := split_lt h1
    simp only [List.length_append, List.length_singleton, List.length_take] at ih ⊢
    omega
  | case2 l i h1 h2 ih =>
    have := split_pos l.length
    simp only [List.length_append, List.length_singleton, List.length_drop] at ih ⊢
    omega
  | case3 l i h => simp

set_option maxRecDepth 100000 in
set_option maxHeartbeats 2000000 in
theorem rpathin_any : ∀ (N : Nat) (L : List (List UInt8)) (a : Option Addr) (n c i : Nat) (w : World), L.length ≤ N → i < n → n < 1099511627776 → Tabs w → Sums w a n c L →
    Calls Tryd.prog 48 #[.slice a n c, .int .i64 i] w (RetS w (Tree.path L i)) := by
  obtain ⟨z0, hz0, hinfo⟩ := info_sum'
  have HI := Lib.hid hinfo
  have HZ0 := Lib.hid hz0
  clear hinfo hz0
  intro N
  induction N with
  | zero =>
    intro L a n c i w hN hi hn hT S
    have := S.len
    omega
  | succ N ih =>
    intro L a n c i w hN hi hn hT S
    by_cases hone : n = 1
    · subst hone
      rw [Tree.path_stop (by have := S.len; omega)]
      go_enter Tryd.func48, Tryd.ntmps48
      go_wp2
      go_ret
      exact ⟨none, 0, rfl, Acc.start _ _ _ _ _ (Below.refl _ _) (Nat.le_refl _)⟩
    · have hone2 : ((n : Int) == 1) = false := by simp; omega
      have hone3 : ¬ (n : Int) = 1 := by omega
      have S' := Lib.hid S
      have hnl := S.len
      have hkp := split_pos n
      have hkl := split_lt (show 1 < n by omega)
      have hsl := @Tree.path_left L i (by omega)
      have hsr := @Tree.path_right L i (by omega)
      rw [← hnl] at hsl hsr
      have Hn := Lib.hid hnl
      have hcap := S.cap
      have Hhalf := split_any n (by omega)
      generalize split n = k at *
      have HN := Lib.hid hN
      clear hnl S hN hone
      by_cases hik : i < k
      · have hs := hsl hik
        clear hsl hsr
        have hik2 : (i : Int) < (k : Int) := by omega
        have hl1 := Tree.root_len (L.drop k) fun x hx => S'.out.each x (List.mem_of_mem_drop hx)
        have hsb := Tree.path_len (L.take k) i
        have hih := Lib.hid fun w1 hT S => ih (L.take k) a k c i w1 (by have := Hn.out; have := HN.out; simp; omega) (by omega) (by omega) hT S
        have hrt := Lib.hid fun w1 hT S => rroot_any (L.drop k).length (L.drop k) (a.map (·.add (k * 32))) (n - k) (c - k) w1 (Nat.le_refl _) (by have := Hn.out; simp; omega) hT S
        obtain ⟨s, hse⟩ : ∃ s, s = Tree.root (L.drop k) := ⟨_, rfl⟩
        obtain ⟨M, hM⟩ : ∃ M, M = Tree.path (L.take k) i := ⟨_, rfl⟩
        rw [← hse] at hrt hl1 hs
        rw [← hM] at hih hsb hs
        rw [hs]
        have hMl : M.length + 1 ≤ 1099511627776 := by have h9 := Hn.out; simp at hsb; omega
        have Hl1 := Lib.hid hl1
        have z1 : M.length + 1 ≤ maxLen := by unfold maxLen; omega
        have z2 : (M.length + 1) * 32 ≤ 140737488355328 := by omega
        clear hse hM hs hl1 hsb hMl
        go_enter Tryd.func48, Tryd.ntmps48
        go_wp2_with (go_at_call 46; refine (Hhalf _).mono ?_; rintro e w1 ⟨rfl, rfl⟩)
        clear Hhalf
        refine wp_region_reg 10 39 (Low) (by kernel_rfl) (by kernel_rfl) (by kernel_rfl) (by kernel_rfl) (by kernel_rfl) (Low.refl) (Low.trans) [.is (.slice a n c : Value), .is (.int .i64 k : Value), .is (.slice a k c : Value), .is (.int .i64 i : Value), yOwn w M, .is (.slice a n c : Value), .is (.int .i64 k : Value), .is (.slice (a.map (·.add (k * 32))) (n - k : Nat) (c - k : Nat) : Value), .is (sumV s), yRow 1 (sumRow s) 29] rfl (fun vs => ?_) (fun vs wr hR h => ?_)
        · refine RegHead.cons (fun wr hR h => ?_) ?_
          · exact relAt.pure (Low.refl) (by kernel_rfl) (by kernel_rfl)
          refine RegHead.cons (fun wr hR h => ?_) ?_
          · exact relAt.pure (Low.refl) (by kernel_rfl) (by kernel_rfl)
          refine RegHead.cons (fun wr hR h => ?_) ?_
          · exact relAt.pureS (Low.refl) (by kernel_rfl) (by kernel_rfl) (run_sums_to wr a n c k (fun ad h => S'.out.od ad h) (by omega))
          refine RegHead.cons (fun wr hR h => ?_) ?_
          · exact relAt.pure (Low.refl) (by kernel_rfl) (by kernel_rfl)
          refine RegHead.cons (fun wr hR h => ?_) ?_
          · refine relAt.call (by kernel_rfl) (by kernel_rfl) ((hih.out wr (hT.low (low_drew hR)) ((S'.out.take k (by omega)).low (low_drew hR))).mono ?_)
            rintro e w2 ⟨B, C, rfl, hacc⟩
            exact ⟨_, rfl, hacc.low, B, C, rfl, hacc.rebase (low_drew hR).size (low_drew hR)⟩
          refine RegHead.cons (fun wr hR h => ?_) ?_
          · exact relAt.pure (Low.refl) (by kernel_rfl) (by kernel_rfl)
          refine RegHead.cons (fun wr hR h => ?_) ?_
          · exact relAt.pure (Low.refl) (by kernel_rfl) (by kernel_rfl)
          refine RegHead.cons (fun wr hR h => ?_) ?_
          · exact relAt.pureS (Low.refl) (by kernel_rfl) (by kernel_rfl) (run_sums_rest wr a n c k hkl hcap)
          refine RegHead.cons (fun wr hR h => ?_) ?_
          · refine relAt.call (by kernel_rfl) (by kernel_rfl) ((hrt.out wr (hT.low (low_drew hR)) ((S'.out.rest k hkl).low (low_drew hR))).mono ?_)
            rintro e w2 ⟨rfl, hB⟩
            exact ⟨_, rfl, hB, rfl⟩
          refine RegHead.cons (fun wr hR h => ?_) ?_
          · exact relAt.valueS (by kernel_rfl) (by kernel_rfl) (run_build_sum wr s Hl1.out) (low1 _ _) ⟨_, rfl, blk1 _ _⟩
          exact trivial
        · obtain ⟨B, C, hvB, hacc⟩ : ∃ B C, vs 4 = .slice B M.length C ∧ Acc 29 32 w wr w.heap.size B C M.length (sumCells M) := allOf_iff.1 h 4 (by decide)
          obtain ⟨b, hvb, hb⟩ : ∃ b, vs 9 = .slice (some ⟨b, 0, none⟩) 1 1 ∧ wr.heap[b]? = some (.cells (sumRow s) 29 (0, 0)) := allOf_iff.1 h 9 (by decide)
          have HA := Lib.hid hacc
          have HB := Lib.hid hb
          clear hacc hb h hR
          refine wp_frame (new := [(.slice a n c : Value), (.int .i64 k : Value), (.slice a k c : Value), (.int .i64 i : Value), vs 4, (.slice a n c : Value), (.int .i64 k : Value), (.slice (a.map (·.add (k * 32))) (n - k : Nat) (c - k : Nat) : Value), (sumV s), vs 9]) 15 25 (by kernel_rfl) ?_
          simp only [List.take, List.drop, List.cons_append, List.nil_append]
          rw [hvB, hvb]
          clear hvB hvb
          refine wpList_acc rfl _ _ 31 rfl 29 32 32 z0 Tryd.underlying31 HI.out HZ0.out (by decide) w w.heap.size B C M.length (sumCells M) rfl HA.out (some ⟨b, 0, none⟩) 1 1 (s.map V8) rfl (by simp [Hl1.out]) (Txt.of_block (l := s) (n := 32) HB.out Hl1.out.symm).src.at_.cells (fun h => by cases h) (fun ad h => ⟨_, _, (Option.some.inj h).symm⟩) (ones' s) z1 z2 ?_
          intro B2 D2 w2 hacc hg2 hnew
          have HA2 := Lib.hid hacc
          clear hacc hg2 hnew
          go_wp2
          go_ret
          exact RetS.of HA2.out (by simp) (by rw [sumCells_append, sumCells_one])
      · have hs := hsr hik
        clear hsl hsr
        have hik2 : ¬ (i : Int) < (k : Int) := by omega
        have hik3 : (k : Int) ≤ (i : Int) := by omega
        have e0 : ((i - k : Nat) : Int) = (i : Int) - (k : Int) := by omega
        have hl1 := Tree.root_len (L.take k) fun x hx => S'.out.each x (List.mem_of_mem_take hx)
        have hsb := Tree.path_len (L.drop k) (i - k)
        have hih := Lib.hid fun w1 hT S => ih (L.drop k) (a.map (·.add (k * 32))) (n - k) (c - k) (i - k) w1 (by have := Hn.out; have := HN.out; simp; omega) (by omega) (by omega) hT S
        have hrt := Lib.hid fun w1 hT S => rroot_any (L.take k).length (L.take k) a k c w1 (Nat.le_refl _) (by have := Hn.out; simp; omega) hT S
        obtain ⟨s, hse⟩ : ∃ s, s = Tree.root (L.take k) := ⟨_, rfl⟩
        obtain ⟨M, hM⟩ : ∃ M, M = Tree.path (L.drop k) (i - k) := ⟨_, rfl⟩
        rw [← hse] at hrt hl1 hs
        rw [← hM] at hih hsb hs
        rw [e0] at hih
        rw [hs]
        have hMl : M.length + 1 ≤ 1099511627776 := by have h9 := Hn.out; simp at hsb; omega
        have Hl1 := Lib.hid hl1
        have z1 : M.length + 1 ≤ maxLen := by unfold maxLen; omega
        have z2 : (M.length + 1) * 32 ≤ 140737488355328 := by omega
        clear hse hM hs hl1 hsb hMl e0
        go_enter Tryd.func48, Tryd.ntmps48
        go_wp2_with (go_at_call 46; refine (Hhalf _).mono ?_; rintro e w1 ⟨rfl, rfl⟩)
        clear Hhalf
        refine wp_region_reg 12 39 (Low) (by kernel_rfl) (by kernel_rfl) (by kernel_rfl) (by kernel_rfl) (by kernel_rfl) (Low.refl) (Low.trans) [.is (.slice a n c : Value), .is (.int .i64 k : Value), .is (.slice (a.map (·.add (k * 32))) (n - k : Nat) (c - k : Nat) : Value), .is (.int .i64 i : Value), .is (.int .i64 k : Value), .is (.int .i64 ((i : Int) - (k : Int)) : Value), yOwn w M, .is (.slice a n c : Value), .is (.int .i64 k : Value), .is (.slice a k c : Value), .is (sumV s), yRow 1 (sumRow s) 29] rfl (fun vs => ?_) (fun vs wr hR h => ?_)
        · refine RegHead.cons (fun wr hR h => ?_) ?_
          · exact relAt.pure (Low.refl) (by kernel_rfl) (by kernel_rfl)
          refine RegHead.cons (fun wr hR h => ?_) ?_
          · exact relAt.pure (Low.refl) (by kernel_rfl) (by kernel_rfl)
          refine RegHead.cons (fun wr hR h => ?_) ?_
          · exact relAt.pureS (Low.refl) (by kernel_rfl) (by kernel_rfl) (run_sums_rest wr a n c k hkl hcap)
          refine RegHead.cons (fun wr hR h => ?_) ?_
          · exact relAt.pure (Low.refl) (by kernel_rfl) (by kernel_rfl)
          refine RegHead.cons (fun wr hR h => ?_) ?_
          · exact relAt.pure (Low.refl) (by kernel_rfl) (by kernel_rfl)
          refine RegHead.cons (fun wr hR h => ?_) ?_
          · exact relAt.pureS (Low.refl) (by kernel_rfl) (by kernel_rfl) (run_int_sub wr 3 (.tmp 29) (.tmp 30) _ _ (by omega))
          refine RegHead.cons (fun wr hR h => ?_) ?_
          · refine relAt.call (by kernel_rfl) (by kernel_rfl) ((hih.out wr (hT.low (low_drew hR)) ((S'.out.rest k hkl).low (low_drew hR))).mono ?_)
            rintro e w2 ⟨B, C, rfl, hacc⟩
            exact ⟨_, rfl, hacc.low, B, C, rfl, hacc.rebase (low_drew hR).size (low_drew hR)⟩
          refine RegHead.cons (fun wr hR h => ?_) ?_
          · exact relAt.pure (Low.refl) (by kernel_rfl) (by kernel_rfl)
          refine RegHead.cons (fun wr hR h => ?_) ?_
          · exact relAt.pure (Low.refl) (by kernel_rfl) (by kernel_rfl)
          refine RegHead.cons (fun wr hR h => ?_) ?_
          · exact relAt.pureS (Low.refl) (by kernel_rfl) (by kernel_rfl) (run_sums_to wr a n c k (fun ad h => S'.out.od ad h) (by omega))
          refine RegHead.cons (fun wr hR h => ?_) ?_
          · refine relAt.call (by kernel_rfl) (by kernel_rfl) ((hrt.out wr (hT.low (low_drew hR)) ((S'.out.take k (by omega)).low (low_drew hR))).mono ?_)
            rintro e w2 ⟨rfl, hB⟩
            exact ⟨_, rfl, hB, rfl⟩
          refine RegHead.cons (fun wr hR h => ?_) ?_
          · exact relAt.valueS (by kernel_rfl) (by kernel_rfl) (run_build_sum wr s Hl1.out) (low1 _ _) ⟨_, rfl, blk1 _ _⟩
          exact trivial
        · obtain ⟨B, C, hvB, hacc⟩ : ∃ B C, vs 6 = .slice B M.length C ∧ Acc 29 32 w wr w.heap.size B C M.length (sumCells M) := allOf_iff.1 h 6 (by decide)
          obtain ⟨b, hvb, hb⟩ : ∃ b, vs 11 = .slice (some ⟨b, 0, none⟩) 1 1 ∧ wr.heap[b]? = some (.cells (sumRow s) 29 (0, 0)) := allOf_iff.1 h 11 (by decide)
          have HA := Lib.hid hacc
          have HB := Lib.hid hb
          clear hacc hb h hR
          refine wp_frame (new := [(.slice a n c : Value), (.int .i64 k : Value), (.slice (a.map (·.add (k * 32))) (n - k : Nat) (c - k : Nat) : Value), (.int .i64 i : Value), (.int .i64 k : Value), (.int .i64 ((i : Int) - (k : Int)) : Value), vs 6, (.slice a n c : Value), (.int .i64 k : Value), (.slice a k c : Value), (sumV s), vs 11]) 26 38 (by kernel_rfl) ?_
          simp only [List.take, List.drop, List.cons_append, List.nil_append]
          rw [hvB, hvb]
          clear hvB hvb
          refine wpList_acc rfl _ _ 31 rfl 29 32 32 z0 Tryd.underlying31 HI.out HZ0.out (by decide) w w.heap.size B C M.length (sumCells M) rfl HA.out (some ⟨b, 0, none⟩) 1 1 (s.map V8) rfl (by simp [Hl1.out]) (Txt.of_block (l := s) (n := 32) HB.out Hl1.out.symm).src.at_.cells (fun h => by cases h) (fun ad h => ⟨_, _, (Option.some.inj h).symm⟩) (ones' s) z1 z2 ?_
          intro B2 D2 w2 hacc hg2 hnew
          have HA2 := Lib.hid hacc
          clear hacc hg2 hnew
          go_wp2
          go_ret
          exact RetS.of HA2.out (by simp) (by rw [sumCells_append, sumCells_one])

set_option maxRecDepth 100000 in
set_option maxHeartbeats 1000000 in
theorem rpath_bad (a : Option Addr) (n c : Nat) (i : Int) (w : World) (hi : i < 0 ∨ (n : Int) ≤ i) :
    Calls Tryd.prog 25 #[.slice a n c, .int .i64 i] w (RetSE w [] 2) := by
  by_cases hi : i < 0
  · go_enter Tryd.func25, Tryd.ntmps25
    go_wp2
    go_ret2
    exact ⟨none, 0, rfl, Acc.start _ _ _ _ _ (Below.refl _ _) (Nat.le_refl _)⟩
  · have h1 : (n : Int) ≤ i := by omega
    go_enter Tryd.func25, Tryd.ntmps25
    go_wp2
    go_ret2
    exact ⟨none, 0, rfl, Acc.start _ _ _ _ _ (Below.refl _ _) (Nat.le_refl _)⟩
set_option maxRecDepth 100000 in
set_option maxHeartbeats 1000000 in
theorem rpath_any (L : List (List UInt8)) (a : Option Addr) (n c i : Nat) (w : World) (hi : i < n) (hlen : n < 1099511627776) (hT : Tabs w) (S : Sums w a n c L) :
    Calls Tryd.prog 25 #[.slice a n c, .int .i64 i] w (RetSE w (Tree.path L i) 0) := by
  have hin := Lib.hid (rpathin_any L.length L a n c i w (Nat.le_refl _) hi hlen hT S)
  have h1 : ¬ (i : Int) < 0 := by omega
  have h2 : ¬ (n : Int) ≤ (i : Int) := by omega
  clear S
  go_enter Tryd.func25, Tryd.ntmps25
  go_wp2_with (go_at_call 48; refine hin.out.mono ?_; rintro e w1 ⟨B, C, rfl, hA⟩; have HA := Lib.hid hA; clear hA)
  go_ret2
  exact ⟨B, C, rfl, HA.out⟩
end Go.Proofs.YtpdhgijeanbmcaaDoor

/- Rsub -/
namespace Go.Proofs.YtpdhgijeanbmcaaDoor
open Go.RowKit Go.Great

set_option maxRecDepth 100000 in
set_option maxHeartbeats 2000000 in
theorem rsub_all (L : List (List UInt8)) (a : Option Addr) (n c : Nat) (whole : Bool) (w : World) (hpos : 0 < n) (hlen : n < 1099511627776) (hT : Tabs w) (S : Sums w a n c L) :
    Calls Tryd.prog 50 #[.int .i64 n, .slice a n c, .bool whole] w (RetS w (Tree.sub n L whole)) := by
  rw [Tree.sub_all S.len]
  cases whole with
  | true =>
    go_enter Tryd.func50, Tryd.ntmps50
    go_wp2
    go_ret
    exact ⟨none, 0, rfl, Acc.start _ _ _ _ _ (Below.refl _ _) (Nat.le_refl _)⟩
  | false =>
    have hds := Lib.hid (rroot_any L.length L a n c w (Nat.le_refl _) (by have := S.len; omega) hT S)
    obtain ⟨s, hs, hsl⟩ : ∃ s, s = Tree.root L ∧ s.length = 32 := ⟨_, rfl, Tree.root_len L S.each⟩
    rw [← hs] at hds ⊢
    have Hsl := Lib.hid hsl
    clear hs hsl S
    go_enter Tryd.func50, Tryd.ntmps50
    go_wp2_with (first | (go_at_call 22; refine hds.out.mono ?_; rintro e w1 ⟨rfl, hB⟩; have HB := Lib.hid hB; clear hB) | (refine wpList_build_sum rfl _ rfl s rfl Hsl.out ?_))
    go_ret
    refine ⟨some ⟨w1.heap.size, 0, none⟩, 1, rfl, ?_⟩
    have := Acc.lit (e := 29) (size := 32) w1 w.heap.size w (s.map V8).toArray 1 HB.out HB.out.size (by decide) (by simp [Hsl.out])
    simpa [sumCells, sumRow] using this

set_option maxRecDepth 100000 in
set_option maxHeartbeats 2000000 in
theorem rsubin_any : ∀ (N : Nat) (L : List (List UInt8)) (a : Option Addr) (n c m : Nat) (whole : Bool) (w : World), L.length ≤ N → 0 < m → m ≤ n → n < 1099511627776 → Tabs w → Sums w a n c L →
    Calls Tryd.prog 50 #[.int .i64 m, .slice a n c, .bool whole] w (RetS w (Tree.sub m L whole)) := by
  obtain ⟨z0, hz0, hinfo⟩ := info_sum'
  have HI := Lib.hid hinfo
  have HZ0 := Lib.hid hz0
  clear hinfo hz0
  intro N
  induction N with
  | zero =>
    intro L a n c m whole w hN hm hmn hn hT S
    have := S.len
    omega
  | succ N ih =>
    intro L a n c m whole w hN hm hmn hn hT S
    by_cases hall : m = n
    · subst hall
      exact rsub_all L a m c whole w hm hn hT S
    · have S' := Lib.hid S
      have hnl := S.len
      have hkp := split_pos n
      have hkl := split_lt (show 1 < n by omega)
      have hsl := @Tree.sub_left m L whole (by omega) hm
      have hsr := @Tree.sub_right m L whole (by omega) hm
      rw [← hnl] at hsl hsr
      have Hn := Lib.hid hnl
      have hcap := S.cap
      have Hhalf := split_any n (by omega)
      generalize split n = k at *
      have HN := Lib.hid hN
      have hmn2 : ((m : Int) == (n : Int)) = false := by simp; omega
      have hmne : ¬ (m : Int) = (n : Int) := by omega
      clear hnl S hN hall
      by_cases hmk : m ≤ k
      · have hs := hsl hmk
        clear hsl hsr
        have hmk2 : (m : Int) ≤ (k : Int) := by omega
        have hl1 := Tree.root_len (L.drop k) fun x hx => S'.out.each x (List.mem_of_mem_drop hx)
        have hsb := (Tree.sub_each m (L.take k) whole fun x hx => S'.out.each x (List.mem_of_mem_take hx)).2
        have hih := Lib.hid fun w1 hT S => ih (L.take k) a k c m whole w1 (by have := Hn.out; have := HN.out; simp; omega) (by omega) (by omega) (by omega) hT S
        have hrt := Lib.hid fun w1 hT S => rroot_any (L.drop k).length (L.drop k) (a.map (·.add (k * 32))) (n - k) (c - k) w1 (Nat.le_refl _) (by have := Hn.out; simp; omega) hT S
        obtain ⟨s, hse⟩ : ∃ s, s = Tree.root (L.drop k) := ⟨_, rfl⟩
        obtain ⟨M, hM⟩ : ∃ M, M = Tree.sub m (L.take k) whole := ⟨_, rfl⟩
        rw [← hse] at hrt hl1 hs
        rw [← hM] at hih hsb hs
        rw [hs]
        have hMl : M.length + 1 ≤ 1099511627776 := by have h9 := Hn.out; simp at hsb; omega
        have Hl1 := Lib.hid hl1
        have z1 : M.length + 1 ≤ maxLen := by unfold maxLen; omega
        have z2 : (M.length + 1) * 32 ≤ 140737488355328 := by omega
        clear hse hM hs hl1 hsb hMl
        go_enter Tryd.func50, Tryd.ntmps50
        go_wp2_with (go_at_call 46; refine (Hhalf _).mono ?_; rintro e w1 ⟨rfl, rfl⟩)
        clear Hhalf
        refine wp_region_reg 11 48 (Low) (by kernel_rfl) (by kernel_rfl) (by kernel_rfl) (by kernel_rfl) (by kernel_rfl) (Low.refl) (Low.trans) [.is (.int .i64 m : Value), .is (.slice a n c : Value), .is (.int .i64 k : Value), .is (.slice a k c : Value), .is (.bool whole : Value), yOwn w M, .is (.slice a n c : Value), .is (.int .i64 k : Value), .is (.slice (a.map (·.add (k * 32))) (n - k : Nat) (c - k : Nat) : Value), .is (sumV s), yRow 1 (sumRow s) 29] rfl (fun vs => ?_) (fun vs wr hR h => ?_)
        · refine RegHead.cons (fun wr hR h => ?_) ?_
          · exact relAt.pure (Low.refl) (by kernel_rfl) (by kernel_rfl)
          refine RegHead.cons (fun wr hR h => ?_) ?_
          · exact relAt.pure (Low.refl) (by kernel_rfl) (by kernel_rfl)
          refine RegHead.cons (fun wr hR h => ?_) ?_
          · exact relAt.pure (Low.refl) (by kernel_rfl) (by kernel_rfl)
          refine RegHead.cons (fun wr hR h => ?_) ?_
          · exact relAt.pureS (Low.refl) (by kernel_rfl) (by kernel_rfl) (run_sums_to wr a n c k (fun ad h => S'.out.od ad h) (by omega))
          refine RegHead.cons (fun wr hR h => ?_) ?_
          · exact relAt.pure (Low.refl) (by kernel_rfl) (by kernel_rfl)
          refine RegHead.cons (fun wr hR h => ?_) ?_
          · refine relAt.call (by kernel_rfl) (by kernel_rfl) ((hih.out wr (hT.low (low_drew hR)) ((S'.out.take k (by omega)).low (low_drew hR))).mono ?_)
            rintro e w2 ⟨B, C, rfl, hacc⟩
            exact ⟨_, rfl, hacc.low, B, C, rfl, hacc.rebase (low_drew hR).size (low_drew hR)⟩
          refine RegHead.cons (fun wr hR h => ?_) ?_
          · exact relAt.pure (Low.refl) (by kernel_rfl) (by kernel_rfl)
          refine RegHead.cons (fun wr hR h => ?_) ?_
          · exact relAt.pure (Low.refl) (by kernel_rfl) (by kernel_rfl)
          refine RegHead.cons (fun wr hR h => ?_) ?_
          · exact relAt.pureS (Low.refl) (by kernel_rfl) (by kernel_rfl) (run_sums_rest wr a n c k hkl hcap)
          refine RegHead.cons (fun wr hR h => ?_) ?_
          · refine relAt.call (by kernel_rfl) (by kernel_rfl) ((hrt.out wr (hT.low (low_drew hR)) ((S'.out.rest k hkl).low (low_drew hR))).mono ?_)
            rintro e w2 ⟨rfl, hB⟩
            exact ⟨_, rfl, hB, rfl⟩
          refine RegHead.cons (fun wr hR h => ?_) ?_
          · exact relAt.valueS (by kernel_rfl) (by kernel_rfl) (run_build_sum wr s Hl1.out) (low1 _ _) ⟨_, rfl, blk1 _ _⟩
          exact trivial
        · obtain ⟨B, C, hvB, hacc⟩ : ∃ B C, vs 5 = .slice B M.length C ∧ Acc 29 32 w wr w.heap.size B C M.length (sumCells M) := allOf_iff.1 h 5 (by decide)
          obtain ⟨b, hvb, hb⟩ : ∃ b, vs 10 = .slice (some ⟨b, 0, none⟩) 1 1 ∧ wr.heap[b]? = some (.cells (sumRow s) 29 (0, 0)) := allOf_iff.1 h 10 (by decide)
          have HA := Lib.hid hacc
          have HB := Lib.hid hb
          clear hacc hb h hR
          refine wp_frame (new := [(.int .i64 m : Value), (.slice a n c : Value), (.int .i64 k : Value), (.slice a k c : Value), (.bool whole : Value), vs 5, (.slice a n c : Value), (.int .i64 k : Value), (.slice (a.map (·.add (k * 32))) (n - k : Nat) (c - k : Nat) : Value), (sumV s), vs 10]) 23 34 (by kernel_rfl) ?_
          simp only [List.take, List.drop, List.cons_append, List.nil_append]
          rw [hvB, hvb]
          clear hvB hvb
          refine wpList_acc rfl _ _ 31 rfl 29 32 32 z0 Tryd.underlying31 HI.out HZ0.out (by decide) w w.heap.size B C M.length (sumCells M) rfl HA.out (some ⟨b, 0, none⟩) 1 1 (s.map V8) rfl (by simp [Hl1.out]) (Txt.of_block (l := s) (n := 32) HB.out Hl1.out.symm).src.at_.cells (fun h => by cases h) (fun ad h => ⟨_, _, (Option.some.inj h).symm⟩) (ones' s) z1 z2 ?_
          intro B2 D2 w2 hacc hg2 hnew
          have HA2 := Lib.hid hacc
          clear hacc hg2 hnew
          go_wp2
          go_ret
          exact RetS.of HA2.out (by simp) (by rw [sumCells_append, sumCells_one])
      · have hs := hsr hmk
        clear hsl hsr
        have hmk2 : ¬ (m : Int) ≤ (k : Int) := by omega
        have hmk3 : (k : Int) < (m : Int) := by omega
        have e0 : ((m - k : Nat) : Int) = (m : Int) - (k : Int) := by omega
        have hl1 := Tree.root_len (L.take k) fun x hx => S'.out.each x (List.mem_of_mem_take hx)
        have hsb := (Tree.sub_each (m - k) (L.drop k) false fun x hx => S'.out.each x (List.mem_of_mem_drop hx)).2
        have hih := Lib.hid fun w1 hT S => ih (L.drop k) (a.map (·.add (k * 32))) (n - k) (c - k) (m - k) false w1 (by have := Hn.out; have := HN.out; simp; omega) (by omega) (by omega) (by omega) hT S
        have hrt := Lib.hid fun w1 hT S => rroot_any (L.take k).length (L.take k) a k c w1 (Nat.le_refl _) (by have := Hn.out; simp; omega) hT S
        obtain ⟨s, hse⟩ : ∃ s, s = Tree.root (L.take k) := ⟨_, rfl⟩
        obtain ⟨M, hM⟩ : ∃ M, M = Tree.sub (m - k) (L.drop k) false := ⟨_, rfl⟩
        rw [← hse] at hrt hl1 hs
        rw [← hM] at hih hsb hs
        rw [e0] at hih
        rw [hs]
        have hMl : M.length + 1 ≤ 1099511627776 := by have h9 := Hn.out; simp at hsb; omega
        have Hl1 := Lib.hid hl1
        have z1 : M.length + 1 ≤ maxLen := by unfold maxLen; omega
        have z2 : (M.length + 1) * 32 ≤ 140737488355328 := by omega
        clear hse hM hs hl1 hsb hMl e0
        go_enter Tryd.func50, Tryd.ntmps50
        go_wp2_with (go_at_call 46; refine (Hhalf _).mono ?_; rintro e w1 ⟨rfl, rfl⟩)
        clear Hhalf
        refine wp_region_reg 12 48 (Low) (by kernel_rfl) (by kernel_rfl) (by kernel_rfl) (by kernel_rfl) (by kernel_rfl) (Low.refl) (Low.trans) [.is (.int .i64 m : Value), .is (.int .i64 k : Value), .is (.int .i64 ((m : Int) - (k : Int)) : Value), .is (.slice a n c : Value), .is (.int .i64 k : Value), .is (.slice (a.map (·.add (k * 32))) (n - k : Nat) (c - k : Nat) : Value), yOwn w M, .is (.slice a n c : Value), .is (.int .i64 k : Value), .is (.slice a k c : Value), .is (sumV s), yRow 1 (sumRow s) 29] rfl (fun vs => ?_) (fun vs wr hR h => ?_)
        · refine RegHead.cons (fun wr hR h => ?_) ?_
          · exact relAt.pure (Low.refl) (by kernel_rfl) (by kernel_rfl)
          refine RegHead.cons (fun wr hR h => ?_) ?_
          · exact relAt.pure (Low.refl) (by kernel_rfl) (by kernel_rfl)
          refine RegHead.cons (fun wr hR h => ?_) ?_
          · exact relAt.pureS (Low.refl) (by kernel_rfl) (by kernel_rfl) (run_int_sub wr 3 (.tmp 35) (.tmp 36) _ _ (by omega))
          refine RegHead.cons (fun wr hR h => ?_) ?_
          · exact relAt.pure (Low.refl) (by kernel_rfl) (by kernel_rfl)
          refine RegHead.cons (fun wr hR h => ?_) ?_
          · exact relAt.pure (Low.refl) (by kernel_rfl) (by kernel_rfl)
          refine RegHead.cons (fun wr hR h => ?_) ?_
          · exact relAt.pureS (Low.refl) (by kernel_rfl) (by kernel_rfl) (run_sums_rest wr a n c k hkl hcap)
          refine RegHead.cons (fun wr hR h => ?_) ?_
          · refine relAt.call (by kernel_rfl) (by kernel_rfl) ((hih.out wr (hT.low (low_drew hR)) ((S'.out.rest k hkl).low (low_drew hR))).mono ?_)
            rintro e w2 ⟨B, C, rfl, hacc⟩
            exact ⟨_, rfl, hacc.low, B, C, rfl, hacc.rebase (low_drew hR).size (low_drew hR)⟩
          refine RegHead.cons (fun wr hR h => ?_) ?_
          · exact relAt.pure (Low.refl) (by kernel_rfl) (by kernel_rfl)
          refine RegHead.cons (fun wr hR h => ?_) ?_
          · exact relAt.pure (Low.refl) (by kernel_rfl) (by kernel_rfl)
          refine RegHead.cons (fun wr hR h => ?_) ?_
          · exact relAt.pureS (Low.refl) (by kernel_rfl) (by kernel_rfl) (run_sums_to wr a n c k (fun ad h => S'.out.od ad h) (by omega))
          refine RegHead.cons (fun wr hR h => ?_) ?_
          · refine relAt.call (by kernel_rfl) (by kernel_rfl) ((hrt.out wr (hT.low (low_drew hR)) ((S'.out.take k (by omega)).low (low_drew hR))).mono ?_)
            rintro e w2 ⟨rfl, hB⟩
            exact ⟨_, rfl, hB, rfl⟩
          refine RegHead.cons (fun wr hR h => ?_) ?_
          · exact relAt.valueS (by kernel_rfl) (by kernel_rfl) (run_build_sum wr s Hl1.out) (low1 _ _) ⟨_, rfl, blk1 _ _⟩
          exact trivial
        · obtain ⟨B, C, hvB, hacc⟩ : ∃ B C, vs 6 = .slice B M.length C ∧ Acc 29 32 w wr w.heap.size B C M.length (sumCells M) := allOf_iff.1 h 6 (by decide)
          obtain ⟨b, hvb, hb⟩ : ∃ b, vs 11 = .slice (some ⟨b, 0, none⟩) 1 1 ∧ wr.heap[b]? = some (.cells (sumRow s) 29 (0, 0)) := allOf_iff.1 h 11 (by decide)
          have HA := Lib.hid hacc
          have HB := Lib.hid hb
          clear hacc hb h hR
          refine wp_frame (new := [(.int .i64 m : Value), (.int .i64 k : Value), (.int .i64 ((m : Int) - (k : Int)) : Value), (.slice a n c : Value), (.int .i64 k : Value), (.slice (a.map (·.add (k * 32))) (n - k : Nat) (c - k : Nat) : Value), vs 6, (.slice a n c : Value), (.int .i64 k : Value), (.slice a k c : Value), (sumV s), vs 11]) 35 47 (by kernel_rfl) ?_
          simp only [List.take, List.drop, List.cons_append, List.nil_append]
          rw [hvB, hvb]
          clear hvB hvb
          refine wpList_acc rfl _ _ 31 rfl 29 32 32 z0 Tryd.underlying31 HI.out HZ0.out (by decide) w w.heap.size B C M.length (sumCells M) rfl HA.out (some ⟨b, 0, none⟩) 1 1 (s.map V8) rfl (by simp [Hl1.out]) (Txt.of_block (l := s) (n := 32) HB.out Hl1.out.symm).src.at_.cells (fun h => by cases h) (fun ad h => ⟨_, _, (Option.some.inj h).symm⟩) (ones' s) z1 z2 ?_
          intro B2 D2 w2 hacc hg2 hnew
          have HA2 := Lib.hid hacc
          clear hacc hg2 hnew
          go_wp2
          go_ret
          exact RetS.of HA2.out (by simp) (by rw [sumCells_append, sumCells_one])

set_option maxRecDepth 100000 in
set_option maxHeartbeats 1000000 in
theorem rgrowth_bad (a : Option Addr) (n c : Nat) (m : Int) (w : World) (hm : m < 1 ∨ (n : Int) < m) :
    Calls Tryd.prog 27 #[.slice a n c, .int .i64 m] w (RetSE w [] 2) := by
  by_cases h : m < 1
  · go_enter Tryd.func27, Tryd.ntmps27
    go_wp2
    go_ret2
    exact ⟨none, 0, rfl, Acc.start _ _ _ _ _ (Below.refl _ _) (Nat.le_refl _)⟩
  · have h1 : (n : Int) < m := by omega
    go_enter Tryd.func27, Tryd.ntmps27
    go_wp2
    go_ret2
    exact ⟨none, 0, rfl, Acc.start _ _ _ _ _ (Below.refl _ _) (Nat.le_refl _)⟩
set_option maxRecDepth 100000 in
set_option maxHeartbeats 1000000 in
theorem rgrowth_any (L : List (List UInt8)) (a : Option Addr) (n c m : Nat) (w : World) (hm : 0 < m) (hmn : m ≤ n) (hlen : n < 1099511627776) (hT : Tabs w) (S : Sums w a n c L) :
    Calls Tryd.prog 27 #[.slice a n c, .int .i64 m] w (RetSE w (Tree.sub m L true) 0) := by
  have hin := Lib.hid (rsubin_any L.length L a n c m true w (Nat.le_refl _) hm hmn hlen hT S)
  have h1 : ¬ (m : Int) < 1 := by omega
  have h2 : ¬ (n : Int) < (m : Int) := by omega
  clear S
  go_enter Tryd.func27, Tryd.ntmps27
  go_wp2_with (go_at_call 50; refine hin.out.mono ?_; rintro e w1 ⟨B, C, rfl, hA⟩; have HA := Lib.hid hA; clear hA)
  go_ret2
  exact ⟨B, C, rfl, HA.out⟩
end Go.Proofs.YtpdhgijeanbmcaaDoor

/- PathAll -/
namespace Go.Proofs.YtpdhgijeanbmcaaDoor
open Go.RowKit Go.Great

def pathOf (L : List (List UInt8)) (i : Int) : List (List UInt8) × Int := if 0 ≤ i ∧ i < L.length then (Tree.path L i.toNat, 0) else ([], 2)
def growthOf (L : List (List UInt8)) (m : Int) : List (List UInt8) × Int := if 1 ≤ m ∧ m ≤ L.length then (Tree.sub m.toNat L true, 0) else ([], 2)
theorem pathOf_each (L : List (List UInt8)) (i : Int) (h : ∀ x ∈ L, x.length = 32) : (∀ x ∈ (pathOf L i).1, x.length = 32) ∧ (pathOf L i).1.length ≤ L.length := by
  unfold pathOf
  split
  · exact ⟨Tree.path_each _ _ h, Tree.path_len _ _⟩
  · simp
theorem growthOf_each (L : List (List UInt8)) (i : Int) (h : ∀ x ∈ L, x.length = 32) : (∀ x ∈ (growthOf L i).1, x.length = 32) ∧ (growthOf L i).1.length ≤ L.length + 1 := by
  unfold growthOf
  split
  · exact Tree.sub_each _ _ _ h
  · simp
set_option maxRecDepth 100000 in
set_option maxHeartbeats 1000000 in
theorem path_bad (a : Option Addr) (n c : Nat) (i : Int) (w : World) (hi : i < 0 ∨ (n : Int) ≤ i) :
    Calls Tryd.prog 24 #[.slice a n c, .int .i64 i] w (RetSE w [] 2) := by
  by_cases hi : i < 0
  · go_enter Tryd.func24, Tryd.ntmps24
    go_wp2
    go_step3
    go_wp2
    rw [Exit.noGoto_ret]
    go_ret2
    exact ⟨none, 0, rfl, Acc.start _ _ _ _ _ (Below.refl _ _) (Nat.le_refl _)⟩
  · have h1 : (n : Int) ≤ i := by omega
    go_enter Tryd.func24, Tryd.ntmps24
    go_wp2
    go_step3
    go_wp2
    rw [Exit.noGoto_ret]
    go_ret2
    exact ⟨none, 0, rfl, Acc.start _ _ _ _ _ (Below.refl _ _) (Nat.le_refl _)⟩
section
variable (L : List (List UInt8)) (a : Option Addr) (n c : Nat) (i : Int) (w : World) (hn : n < 1099511627776) (hT : Tabs w) (S : Sums w a n c L)
include hn hT S
theorem path_all : Calls Tryd.prog 24 #[.slice a n c, .int .i64 i] w (RetSE w (pathOf L i).1 (pathOf L i).2) := by
  have hl := S.len
  unfold pathOf
  split
  · next h =>
    have := path_any L a n c i.toNat w (by omega) hn hT S
    rwa [Int.toNat_of_nonneg h.1] at this
  · exact path_bad a n c i w (by omega)
theorem rpath_all : Calls Tryd.prog 25 #[.slice a n c, .int .i64 i] w (RetSE w (pathOf L i).1 (pathOf L i).2) := by
  have hl := S.len
  unfold pathOf
  split
  · next h =>
    have := rpath_any L a n c i.toNat w (by omega) hn hT S
    rwa [Int.toNat_of_nonneg h.1] at this
  · exact rpath_bad a n c i w (by omega)
theorem growth_all : Calls Tryd.prog 26 #[.slice a n c, .int .i64 i] w (RetSE w (growthOf L i).1 (growthOf L i).2) := by
  have hl := S.len
  unfold growthOf
  split
  · next h =>
    have := growth_any L a n c i.toNat w (by omega) (by omega) hn hT S
    rwa [Int.toNat_of_nonneg (by omega)] at this
  · exact growth_bad a n c i w (by omega)
theorem rgrowth_all : Calls Tryd.prog 27 #[.slice a n c, .int .i64 i] w (RetSE w (growthOf L i).1 (growthOf L i).2) := by
  have hl := S.len
  unfold growthOf
  split
  · next h =>
    have := rgrowth_any L a n c i.toNat w (by omega) (by omega) hn hT S
    rwa [Int.toNat_of_nonneg (by omega)] at this
  · exact rgrowth_bad a n c i w (by omega)
end
/-- A slice of sums, and where its block may lie. -/
structure Lies (W : World) (lo hi : Nat) (A : Option Addr) (n C : Nat) (M : List (List UInt8)) : Prop where
  sums : Sums W A n C M
  where_ : ∀ ad, A = some ad → lo ≤ ad.block ∧ ad.block < hi
theorem Lies.of_acc {w0 W : World} {base : Nat} {A : Option Addr} {C n : Nat} {M : List (List UInt8)} (h : Acc 29 32 w0 W base A C n (sumCells M)) (hM : ∀ x ∈ M, x.length = 32) : Lies W base W.heap.size A n C M := ⟨h.sums hM, h.block⟩
theorem Lies.below {W W' : World} {lo hi : Nat} {A : Option Addr} {n C : Nat} {M : List (List UInt8)} (h : Lies W lo hi A n C M) (hb : Below W.heap.size W W') : Lies W' lo hi A n C M := ⟨h.sums.below hb, h.where_⟩
theorem Lies.row {W : World} {lo hi : Nat} {A : Option Addr} {n C : Nat} {M : List (List UInt8)} (h : Lies W lo hi A n C M) : ∀ k, A.map (·.block) = some k → lo ≤ k ∧ k < hi := fun k hk => by
  cases A with
  | none => cases hk
  | some ad => obtain rfl := Option.some.inj hk; exact h.where_ ad rfl
/-- Another slice's block is written. -/
theorem Sums.other {W W' : World} {r : Option Nat} {A : Option Addr} {n C : Nat} {M : List (List UInt8)} (h : Sums W A n C M) (hg : W.grownBy W' r) (hne : ∀ ad, A = some ad → r ≠ some ad.block) : Sums W' A n C M := by
  refine ⟨h.len, h.each, ⟨fun h0 => ?_⟩, h.cap, h.nil, fun ad had => ?_⟩
  · obtain ⟨b, o, ha, hc⟩ := h.at_.at_ h0
    refine ⟨b, o, ha, fun j v hj => ?_⟩
    have h1 := hc j v hj
    have hlt := World.block_lt_of_cell? W _ h1
    have h2 := hg.block b hlt (fun e => hne _ ha e.symm)
    rw [← h1]
    simp only [World.cell?, h2]
  · obtain ⟨b, o, e, hlt⟩ := h.plain ad had
    exact ⟨b, o, e, Nat.lt_of_lt_of_le hlt hg.size⟩
theorem Lies.other {W W' : World} {r : Option Nat} {lo hi lo' hi' : Nat} {A : Option Addr} {n C : Nat} {M : List (List UInt8)} (h : Lies W lo hi A n C M) (hg : W.grownBy W' r) (hr : ∀ k, r = some k → lo' ≤ k ∧ k < hi') (hd : hi ≤ lo' ∨ hi' ≤ lo) : Lies W' lo hi A n C M :=
  ⟨h.sums.other hg fun ad had e => by
    have h1 := hr _ e
    have h2 := h.where_ ad had
    omega, h.where_⟩
theorem below_row {w W W' : World} {r : Option Nat} {lo hi : Nat} (h : Below w.heap.size w W) (hg : W.grownBy W' r) (hr : ∀ k, r = some k → lo ≤ k ∧ k < hi) (hlo : w.heap.size ≤ lo) : Below w.heap.size w W' :=
  h.grown hg h.size fun k hk => by have := hr k hk; omega
theorem Acc.here {e size : Nat} {w0 w : World} {base : Nat} {A : Option Addr} {C n : Nat} {cs : List Value} (H : Acc e size w0 w base A C n cs) : Acc e size w w 0 A C n cs := by
  refine ⟨⟨H.own.1, ?_⟩, Below.refl _ _, Nat.zero_le _⟩
  rcases H.own.2 with h | ⟨g, cap, cur, h1, h2, h3⟩
  · exact .inl h
  · exact .inr ⟨g, cap, cur, h1, Nat.zero_le _, h3⟩
theorem Acc.apart {e size : Nat} {w0 w w' : World} {A : Option Addr} {C n : Nat} {cs : List Value} {r : Option Nat} {lo hi lo' hi' : Nat} (H : Acc e size w0 w 0 A C n cs) (hg : w.grownBy w' r) (hw : ∀ ad, A = some ad → lo ≤ ad.block ∧ ad.block < hi) (hr : ∀ k, r = some k → lo' ≤ k ∧ k < hi') (hd : hi ≤ lo' ∨ hi' ≤ lo) : Acc e size w0 w' 0 A C n cs := by
  refine ⟨H.own.kept hg ?_, H.low.grown hg (Nat.zero_le _) (fun k _ => Nat.zero_le k), Nat.zero_le _⟩
  cases A with
  | none => exact .inl rfl
  | some ad =>
    refine .inr fun e => ?_
    have h1 := hw ad rfl
    have h2 := hr ad.block (by rw [← e]; rfl)
    omega
end Go.Proofs.YtpdhgijeanbmcaaDoor

/- LawH -/
namespace Go.Proofs.YtpdhgijeanbmcaaDoor
open Go.RowKit

theorem splitFrom_ge (n k : Nat) : k ≤ splitFrom n k := by
  fun_induction splitFrom n k with
  | case1 k hk ih => omega
  | case2 k hk => exact Nat.le_refl _
theorem splitFrom_same (n m k : Nat) (h0 : 0 < k) (hm : m ≤ n) (h : splitFrom n k < m) : splitFrom m k = splitFrom n k := by
  fun_induction splitFrom n k with
  | case1 k hk ih =>
    have h1 := splitFrom_ge n (2 * k)
    rw [splitFrom_step h0 (by omega)]
    exact ih (by omega) h
  | case2 k hk =>
    exact splitFrom_stop (by omega)
theorem split_same {n m : Nat} (hm : m ≤ n) (h : split n < m) : split m = split n := splitFrom_same n m 1 (by omega) hm h

namespace Tree
theorem made_snoc_left (n i : Nat) (leaf x : List UInt8) (p : List (List UInt8)) (h : 1 < n) (hi : i < split n) : made n i leaf (p ++ [x]) = (made (split n) i leaf p).map fun r => node r x := by
  rw [made, dif_neg (by omega)]
  simp [hi]
theorem made_snoc_right (n i : Nat) (leaf x : List UInt8) (p : List (List UInt8)) (h : 1 < n) (hi : ¬ i < split n) : made n i leaf (p ++ [x]) = (made (n - split n) (i - split n) leaf p).map fun r => node x r := by
  rw [made, dif_neg (by omega)]
  simp [hi]
theorem made_path (l : List (List UInt8)) (i : Nat) (leaf : List UInt8) (hi : l[i]? = some leaf) : made l.length i leaf (path l i) = some (root l) := by
  fun_induction path l i with
  | case1 l i h1 h2 ih =>
    have hlt : i < l.length := (List.getElem?_eq_some_iff.1 hi).1
    have hk := split_lt h1
    have ih' := ih (by rw [List.getElem?_take, if_pos h2]; exact hi)
    rw [List.length_take, Nat.min_eq_left (by omega)] at ih'
    rw [made_snoc_left _ _ _ _ _ h1 h2, ih', root_many h1]
    rfl
  | case2 l i h1 h2 ih =>
    have hlt : i < l.length := (List.getElem?_eq_some_iff.1 hi).1
    have hk := split_lt h1
    have ih' := ih (by rw [List.getElem?_drop, show split l.length + (i - split l.length) = i by omega]; exact hi)
    rw [List.length_drop] at ih'
    rw [made_snoc_right _ _ _ _ _ h1 h2, ih', root_many h1]
    rfl
  | case3 l i h1 =>
    have hlt : i < l.length := (List.getElem?_eq_some_iff.1 hi).1
    obtain ⟨x, rfl⟩ := List.length_eq_one_iff.1 (show l.length = 1 by omega)
    obtain rfl : i = 0 := by simpa using hlt
    simp at hi
    subst hi
    rw [made_one _ _ _ _ (by simp), if_pos rfl, root_one]
/-- The path of every leaf holds. -/
theorem holds_path (l : List (List UInt8)) (i : Nat) (leaf : List UInt8) (hi : l[i]? = some leaf) : holds (root l) l.length i leaf (path l i) = true := by
  unfold holds
  rw [made_path l i leaf hi]
  exact beq_self_eq_true _

theorem both_snoc_left (old : List UInt8) (m n : Nat) (whole : Bool) (x : List UInt8) (p : List (List UInt8)) (h : m < n) (h0 : 0 < m) (hm : m ≤ split n) :
    both old m n whole (p ++ [x]) = (both old m (split n) whole p).map fun ab => (ab.1, node ab.2 x) := by
  rw [both, dif_neg (by omega)]
  simp [hm]
theorem both_snoc_right (old : List UInt8) (m n : Nat) (whole : Bool) (x : List UInt8) (p : List (List UInt8)) (h : m < n) (h0 : 0 < m) (hm : ¬ m ≤ split n) :
    both old m n whole (p ++ [x]) = (both old (m - split n) (n - split n) false p).map fun ab => (node x ab.1, node x ab.2) := by
  rw [both, dif_neg (by omega)]
  simp [hm]
theorem root_begin (l : List (List UInt8)) (m : Nat) (hm : m ≤ l.length) (hk : split l.length < m) (h1 : 1 < l.length) : root (l.take m) = node (root (l.take (split l.length))) (root ((l.drop (split l.length)).take (m - split l.length))) := by
  have hkp := split_pos l.length
  have hl : (l.take m).length = m := by rw [List.length_take]; omega
  rw [root_many (by rw [hl]; omega), hl, split_same hm hk, List.take_take, Nat.min_eq_left (by omega), List.drop_take]
theorem both_sub (old : List UInt8) (m : Nat) (l : List (List UInt8)) (whole : Bool) (h0 : 0 < m) (hm : m ≤ l.length) (ho : whole = true → old = root (l.take m)) : both old m l.length whole (sub m l whole) = some (root (l.take m), root l) := by
  fun_induction sub m l whole with
  | case1 l h1 =>
    have := ho rfl
    rw [List.take_length] at this ⊢
    rw [both_whole, if_pos rfl, this]
  | case2 l whole h1 hw =>
    have : whole = false := by simpa using hw
    subst this
    rw [List.take_length, both_one]
  | case3 m l whole h1 h2 h3 ih =>
    have hk := split_lt h1
    have hl : (l.take (split l.length)).length = split l.length := by rw [List.length_take]; omega
    have htt : (l.take (split l.length)).take m = l.take m := by rw [List.take_take, Nat.min_eq_left h3]
    have ih' := ih h0 (by rw [hl]; exact h3) (by rw [htt]; exact ho)
    rw [hl, htt] at ih'
    rw [both_snoc_left _ _ _ _ _ _ (by omega) h0 h3, ih', root_many h1]
    rfl
  | case4 m l whole h1 h2 h3 ih =>
    have hk := split_lt h1
    have hkp := split_pos l.length
    have hl : (l.drop (split l.length)).length = l.length - split l.length := List.length_drop
    have ih' := ih (by omega) (by rw [hl]; omega) (fun h => by cases h)
    rw [hl] at ih'
    rw [both_snoc_right _ _ _ _ _ _ (by omega) h0 h3, ih', root_begin l m hm (by omega) h1, root_many h1]
    rfl
  | case5 m l h1 =>
    obtain rfl : m = l.length := by omega
    have := ho rfl
    rw [List.take_length] at this ⊢
    rw [both_whole, if_pos rfl, this]
  | case6 m l whole h1 hw =>
    obtain rfl : m = l.length := by omega
    have : whole = false := by simpa using hw
    subst this
    rw [List.take_length, both_one]
/-- The growth from every beginning on is shown. -/
theorem extends_sub (m : Nat) (l : List (List UInt8)) (h0 : 0 < m) (hm : m ≤ l.length) : extends_ m (root (l.take m)) l.length (root l) (sub m l true) = true := by
  unfold extends_
  rw [both_sub _ m l true h0 hm (fun _ => rfl)]
  simp
end Tree
end Go.Proofs.YtpdhgijeanbmcaaDoor

/- Fast -/
namespace Go.Proofs.YtpdhgijeanbmcaaDoor
namespace Nsha
def rot (x n : Nat) : Nat := x >>> n ||| (x <<< (32 - n)) % 4294967296
def s0 (x : Nat) : Nat := (rot x 7 ^^^ rot x 18) ^^^ x >>> 3
def s1 (x : Nat) : Nat := (rot x 17 ^^^ rot x 19) ^^^ x >>> 10
def e0 (x : Nat) : Nat := (rot x 2 ^^^ rot x 13) ^^^ rot x 22
def e1 (x : Nat) : Nat := (rot x 6 ^^^ rot x 11) ^^^ rot x 25
def ch (e f g : Nat) : Nat := (e &&& f) ^^^ ((4294967296 - 1 - e) &&& g)
def maj (a b c : Nat) : Nat := ((a &&& b) ^^^ (a &&& c)) ^^^ (b &&& c)
def nxt (l : List Nat) : Nat := (((l.getD 15 0 + s0 (l.getD 14 0)) % 4294967296 + l.getD 6 0) % 4294967296 + s1 (l.getD 1 0)) % 4294967296
def sched : Nat → List Nat → List Nat
  | 0, l => l
  | n + 1, l => sched n (nxt l :: l)
structure Reg where
  (a b c d e f g h : Nat)
def step (r : Reg) (k w : Nat) : Reg :=
  let u := ((((r.h + e1 r.e) % 4294967296 + ch r.e r.f r.g) % 4294967296 + k) % 4294967296 + w) % 4294967296
  let v := (e0 r.a + maj r.a r.b r.c) % 4294967296
  ⟨(u + v) % 4294967296, r.a, r.b, r.c, (r.d + u) % 4294967296, r.e, r.f, r.g⟩
def rounds : List Nat → List Nat → Reg → Reg
  | k :: ks, w :: ws, r => rounds ks ws (step r k w)
  | _, _, r => r
def word (a b c d : Nat) : Nat := ((a <<< 24 ||| b <<< 16) ||| c <<< 8) ||| d
def words : Nat → List Nat → List Nat
  | 0, _ => []
  | n + 1, l => word (l.getD 0 0) (l.getD 1 0) (l.getD 2 0) (l.getD 3 0) :: words n (l.drop 4)
def add (r q : Reg) : Reg :=
  ⟨(r.a + q.a) % 4294967296, (r.b + q.b) % 4294967296, (r.c + q.c) % 4294967296, (r.d + q.d) % 4294967296, (r.e + q.e) % 4294967296, (r.f + q.f) % 4294967296, (r.g + q.g) % 4294967296, (r.h + q.h) % 4294967296⟩
def turn (r : Reg) (l : List Nat) : Reg := add r (rounds Sha.roots (sched 48 (words 16 l).reverse).reverse r)
def blocks : Nat → Reg → List Nat → Reg
  | 0, r, _ => r
  | n + 1, r, l => blocks n (turn r l) (l.drop 64)
def init : Reg := ⟨0x6a09e667, 0xbb67ae85, 0x3c6ef372, 0xa54ff53a, 0x510e527f, 0x9b05688c, 0x1f83d9ab, 0x5be0cd19⟩
def wbytes (x : Nat) : List Nat := [x >>> 24 % 256, x >>> 16 % 256, x >>> 8 % 256, x % 256]
def bytes (r : Reg) : List Nat := [r.a, r.b, r.c, r.d, r.e, r.f, r.g, r.h].flatMap wbytes
def eight (n : Nat) : List Nat := (List.range 8).map fun i => n / 2 ^ (8 * (7 - i)) % 256
def pad (n : Nat) : List Nat := 128 :: (List.replicate ((119 - n % 64) % 64) 0 ++ eight (8 * n))
def sum (l : List Nat) : List Nat := bytes (blocks ((l.length + 72) / 64) init (l ++ pad l.length))
end Nsha

def Sha.Reg.nat (r : Sha.Reg) : Nsha.Reg := ⟨r.a.toNat, r.b.toNat, r.c.toNat, r.d.toNat, r.e.toNat, r.f.toNat, r.g.toNat, r.h.toNat⟩
namespace Nsha
theorem rot_eq (x : BitVec 32) (n : Nat) : (Sha.rot x n).toNat = rot x.toNat n := by
  simp [Sha.rot, rot, BitVec.toNat_or]
theorem s0_eq (x : BitVec 32) : (Sha.s0 x).toNat = s0 x.toNat := by simp [Sha.s0, s0, rot_eq, BitVec.toNat_xor]
theorem s1_eq (x : BitVec 32) : (Sha.s1 x).toNat = s1 x.toNat := by simp [Sha.s1, s1, rot_eq, BitVec.toNat_xor]
theorem e0_eq (x : BitVec 32) : (Sha.e0 x).toNat = e0 x.toNat := by simp [Sha.e0, e0, rot_eq, BitVec.toNat_xor]
theorem e1_eq (x : BitVec 32) : (Sha.e1 x).toNat = e1 x.toNat := by simp [Sha.e1, e1, rot_eq, BitVec.toNat_xor]
theorem ch_eq (x y z : BitVec 32) : (Sha.ch x y z).toNat = ch x.toNat y.toNat z.toNat := by
  simp [Sha.ch, ch, BitVec.toNat_xor, BitVec.toNat_and, BitVec.toNat_not]
theorem maj_eq (x y z : BitVec 32) : (Sha.maj x y z).toNat = maj x.toNat y.toNat z.toNat := by
  simp [Sha.maj, maj, BitVec.toNat_xor, BitVec.toNat_and]
theorem step_eq (r : Sha.Reg) (k w : BitVec 32) : (Sha.step r k w).nat = step r.nat k.toNat w.toNat := by
  simp only [Sha.step, step, Sha.Reg.nat, BitVec.toNat_add, e1_eq, ch_eq, e0_eq, maj_eq, show (2 : Nat) ^ 32 = 4294967296 from rfl]
theorem rounds_eq (p : Nat → UInt8) (r : Sha.Reg) : ∀ n t, rounds ((List.range' t n).map fun i => (Sha.root i).toNat) ((List.range' t n).map fun i => (Sha.sched p i).toNat) (Sha.rounds p r t).nat = (Sha.rounds p r (t + n)).nat
  | 0, t => rfl
  | n + 1, t => by
    rw [List.range'_succ, List.map_cons, List.map_cons, rounds, ← step_eq, show Sha.step (Sha.rounds p r t) (Sha.root t) (Sha.sched p t) = Sha.rounds p r (t + 1) from rfl, rounds_eq p r n (t + 1)]
    congr 2
    omega
def back (p : Nat → UInt8) : Nat → List Nat
  | 0 => []
  | k + 1 => (Sha.sched p k).toNat :: back p k
theorem back_get (p : Nat → UInt8) : ∀ k i, i < k → (back p k).getD i 0 = (Sha.sched p (k - 1 - i)).toNat
  | 0, i, h => by omega
  | k + 1, 0, _ => by simp [back]
  | k + 1, i + 1, h => by
    have := back_get p k i (by omega)
    rw [back, List.getD_cons_succ, this]
    congr 2
    omega
theorem nxt_eq (p : Nat → UInt8) (k : Nat) (h : 16 ≤ k) : nxt (back p k) = (Sha.sched p k).toNat := by
  rw [nxt, back_get p k 15 (by omega), back_get p k 14 (by omega), back_get p k 6 (by omega), back_get p k 1 (by omega), Sha.sched_ge p k (by omega), BitVec.toNat_add, BitVec.toNat_add, BitVec.toNat_add, s0_eq, s1_eq,
    show k - 1 - 15 = k - 16 by omega, show k - 1 - 14 = k - 15 by omega, show k - 1 - 6 = k - 7 by omega, show k - 1 - 1 = k - 2 by omega]
theorem sched_eq (p : Nat → UInt8) : ∀ n k, 16 ≤ k → sched n (back p k) = back p (k + n)
  | 0, k, _ => rfl
  | n + 1, k, h => by
    rw [sched, nxt_eq p k h, show (Sha.sched p k).toNat :: back p k = back p (k + 1) from rfl, sched_eq p n (k + 1) (by omega)]
    congr 1
    omega
theorem back_rev (p : Nat → UInt8) : ∀ k, (back p k).reverse = (List.range' 0 k).map fun i => (Sha.sched p i).toNat
  | 0 => rfl
  | k + 1 => by
    rw [back, List.reverse_cons, back_rev p k, show List.range' 0 (k + 1) = List.range' 0 k ++ [k] by rw [List.range'_concat]; simp]
    simp
theorem word_eq (a b c d : UInt8) : (Sha.word a b c d).toNat = word a.toNat b.toNat c.toNat d.toNat := by
  have ha := a.toNat_lt
  have hb := b.toNat_lt
  have hc := c.toNat_lt
  have hd := d.toNat_lt
  have e1 : (a.toNat % 4294967296) <<< 24 % 4294967296 = a.toNat <<< 24 := by rw [Nat.shiftLeft_eq, Nat.shiftLeft_eq]; omega
  have e2 : (b.toNat % 4294967296) <<< 16 % 4294967296 = b.toNat <<< 16 := by rw [Nat.shiftLeft_eq, Nat.shiftLeft_eq]; omega
  have e3 : (c.toNat % 4294967296) <<< 8 % 4294967296 = c.toNat <<< 8 := by rw [Nat.shiftLeft_eq, Nat.shiftLeft_eq]; omega
  have e4 : d.toNat % 4294967296 = d.toNat := by omega
  rw [Sha.word, word, BitVec.toNat_or, BitVec.toNat_or, BitVec.toNat_or, BitVec.toNat_shiftLeft, BitVec.toNat_shiftLeft, BitVec.toNat_shiftLeft, BitVec.toNat_setWidth, BitVec.toNat_setWidth, BitVec.toNat_setWidth, BitVec.toNat_setWidth]
  show ((((a.toNat % 4294967296) <<< 24 % 4294967296) ||| ((b.toNat % 4294967296) <<< 16 % 4294967296)) ||| ((c.toNat % 4294967296) <<< 8 % 4294967296)) ||| (d.toNat % 4294967296) = _
  rw [e1, e2, e3, e4]
theorem getD_nat (l : List UInt8) (i : Nat) : (l.map UInt8.toNat).getD i 0 = (l.getD i 0).toNat := by
  simp only [List.getD, List.getElem?_map]
  cases l[i]? <;> rfl
theorem words_eq (l : List UInt8) : ∀ n t, t + n ≤ 16 → words n ((l.map UInt8.toNat).drop (4 * t)) = (List.range' t n).map fun i => (Sha.sched (fun j => l.getD j 0) i).toNat
  | 0, t, _ => rfl
  | n + 1, t, h => by
    rw [List.range'_succ, List.map_cons, words, Sha.sched_lt _ t (by omega), word_eq, List.drop_drop, show 4 * t + 4 = 4 * (t + 1) by omega, words_eq l n (t + 1) (by omega), List.getD_eq_getElem?_getD, List.getD_eq_getElem?_getD, List.getD_eq_getElem?_getD, List.getD_eq_getElem?_getD,
      List.getElem?_drop, List.getElem?_drop, List.getElem?_drop, List.getElem?_drop, ← List.getD_eq_getElem?_getD, ← List.getD_eq_getElem?_getD, ← List.getD_eq_getElem?_getD, ← List.getD_eq_getElem?_getD, getD_nat, getD_nat, getD_nat, getD_nat]
    rfl
theorem roots_eq : Sha.roots = (List.range' 0 64).map fun i => (Sha.root i).toNat := by decide +kernel
theorem add_eq (r q : Sha.Reg) : (r.add q).nat = add r.nat q.nat := by
  simp only [Sha.Reg.add, add, Sha.Reg.nat, BitVec.toNat_add, show (2 : Nat) ^ 32 = 4294967296 from rfl]
theorem turn_eq (r : Sha.Reg) (l : List UInt8) : (Sha.turn r fun j => l.getD j 0).nat = turn r.nat (l.map UInt8.toNat) := by
  have h := words_eq l 16 0 (by omega)
  rw [Nat.mul_zero, List.drop_zero] at h
  have hr := rounds_eq (fun j => l.getD j 0) r 64 0
  rw [Nat.zero_add, ← roots_eq, show Sha.rounds (fun j => l.getD j 0) r 0 = r from rfl] at hr
  rw [turn, h, ← back_rev, List.reverse_reverse, sched_eq _ 48 16 (by omega), back_rev, Sha.turn, add_eq, hr]
theorem blocks_eq : ∀ n (r : Sha.Reg) (l : List UInt8), l.length / 64 = n → (Sha.blocks r l).nat = blocks n r.nat (l.map UInt8.toNat)
  | 0, r, l, h => by rw [Sha.blocks_short _ _ (by omega)]; rfl
  | n + 1, r, l, h => by
    rw [Sha.blocks_step _ _ (by omega), blocks, ← turn_eq, ← List.map_drop]
    exact blocks_eq n _ _ (by rw [List.length_drop]; omega)
theorem wbytes_eq (x : BitVec 32) : (Sha.wbytes x).map UInt8.toNat = wbytes x.toNat := by
  simp only [Sha.wbytes, wbytes, List.map_cons, List.map_nil, UInt8.toNat, BitVec.toNat_setWidth, BitVec.toNat_ushiftRight]
  try rfl
theorem bytes_eq (r : Sha.Reg) : (Sha.bytes r).map UInt8.toNat = bytes r.nat := by
  simp only [Sha.bytes, bytes, Sha.Reg.list, Sha.Reg.nat, List.flatMap_cons, List.flatMap_nil, List.map_append, wbytes_eq, List.map_nil]
theorem eight_eq (n : Nat) : (Sha.eight n).map UInt8.toNat = eight n := by
  simp [Sha.eight, eight]
theorem pad_eq (n : Nat) : (Sha.pad n).map UInt8.toNat = pad n := by
  simp [Sha.pad, pad, eight_eq]
theorem sum_eq (l : List UInt8) : (Sha.sum l).map UInt8.toNat = sum (l.map UInt8.toNat) := by
  have hp : (Sha.pad l.length).length = 1 + (119 - l.length % 64) % 64 + 8 := by simp [Sha.pad, Sha.eight]; omega
  rw [Sha.sum, sum, bytes_eq, blocks_eq ((l.length + 72) / 64) _ _ (by rw [List.length_append, hp]; omega), List.map_append, pad_eq, List.length_map]
  rfl
end Nsha
end Go.Proofs.YtpdhgijeanbmcaaDoor

/- LiveP -/
namespace Go.Proofs.YtpdhgijeanbmcaaDoor
namespace Nsha
def leaf (p : List Nat) : List Nat := sum (0 :: p)
def node (x y : List Nat) : List Nat := sum (1 :: (x ++ y))
theorem live_one : node (node (leaf [97]) (leaf [98])) (leaf [98]) ≠ node (node (leaf [97]) (leaf [98])) (leaf [99]) := by decide +kernel
theorem live_two : node (node (node (leaf [97]) (leaf [98])) (leaf [99])) (leaf [99]) ≠ node (node (leaf [97]) (leaf [98])) (leaf [99]) := by decide +kernel
end Nsha
namespace LiveP
def leaf (p : List UInt8) : List UInt8 := Sha.sum (0 :: p)
def node (x y : List UInt8) : List UInt8 := Sha.sum (1 :: (x ++ y))
theorem leaf_nat (p : List UInt8) : (leaf p).map UInt8.toNat = Nsha.leaf (p.map UInt8.toNat) := by
  rw [leaf, Nsha.sum_eq]; rfl
theorem node_nat (x y : List UInt8) : (node x y).map UInt8.toNat = Nsha.node (x.map UInt8.toNat) (y.map UInt8.toNat) := by
  rw [node, Nsha.sum_eq, List.map_cons, List.map_append]; rfl
theorem one : node (node (leaf [97]) (leaf [98])) (leaf [98]) ≠ node (node (leaf [97]) (leaf [98])) (leaf [99]) := fun h => by
  have h2 := congrArg (List.map UInt8.toNat) h
  simp only [node_nat, leaf_nat] at h2
  exact Nsha.live_one h2
theorem two : node (node (node (leaf [97]) (leaf [98])) (leaf [99])) (leaf [99]) ≠ node (node (leaf [97]) (leaf [98])) (leaf [99]) := fun h => by
  have h2 := congrArg (List.map UInt8.toNat) h
  simp only [node_nat, leaf_nat] at h2
  exact Nsha.live_two h2
end LiveP
end Go.Proofs.YtpdhgijeanbmcaaDoor

/- LiveQ -/
namespace Go.Proofs.YtpdhgijeanbmcaaDoor
namespace Tree
theorem split3 : split 3 = 2 := by
  unfold split
  rw [splitFrom_step (by omega) (by omega), splitFrom_stop (by omega)]
theorem split2 : split 2 = 1 := by
  unfold split
  rw [splitFrom_stop (by omega)]
theorem root2 (a b : List UInt8) : root [a, b] = node a b := by
  rw [root_many (by simp)]
  simp only [List.length_cons, List.length_nil]
  rw [show split (0 + 1 + 1) = 1 from split2]
  simp [root_one]
theorem root3 (a b c : List UInt8) : root [a, b, c] = node (node a b) c := by
  rw [root_many (by simp)]
  simp only [List.length_cons, List.length_nil]
  rw [show split (0 + 1 + 1 + 1) = 2 from split3]
  simp [root_one, root2]
theorem path3 (a b c : List UInt8) : path [a, b, c] 2 = [node a b] := by
  rw [path_right (by simp) (by simp only [List.length_cons, List.length_nil]; rw [show split (0 + 1 + 1 + 1) = 2 from split3]; omega)]
  simp only [List.length_cons, List.length_nil]
  rw [show split (0 + 1 + 1 + 1) = 2 from split3, path_stop (by simp)]
  simp [root2]
theorem sub3 (a b c : List UInt8) : sub 2 [a, b, c] true = [c] := by
  rw [sub_left (by simp) (by omega) (by simp only [List.length_cons, List.length_nil]; rw [show split (0 + 1 + 1 + 1) = 2 from split3]; omega)]
  simp only [List.length_cons, List.length_nil]
  rw [show split (0 + 1 + 1 + 1) = 2 from split3, sub_all (by simp)]
  simp [root_one]
theorem holds3 (r x p : List UInt8) : holds r 3 2 x [p] = (node p x == r) := by
  unfold holds
  have h := made_right 3 2 x [p] 0 (by simp) (by omega) (by rw [split3]; omega)
  simp only [Nat.zero_add, List.take_succ_cons, List.take_zero, List.getElem_cons_zero] at h
  rw [split3, made_one (3 - 2) _ _ _ (by decide)] at h
  rw [h]
  rfl
theorem ext3 (old r x : List UInt8) : extends_ 2 old 3 r [x] = (node old x == r) := by
  unfold extends_
  have h := both_left old 2 3 true [x] 0 (by simp) (by omega) (by omega) (by rw [split3]; omega)
  simp only [Nat.zero_add, List.take_succ_cons, List.take_zero, List.getElem_cons_zero] at h
  rw [split3, both_whole] at h
  rw [h]
  simp
end Tree
theorem live_ne1 : Tree.node (Tree.node (Tree.leaf [97]) (Tree.leaf [98])) (Tree.leaf [98]) ≠ Tree.node (Tree.node (Tree.leaf [97]) (Tree.leaf [98])) (Tree.leaf [99]) := LiveP.one
theorem live_ne2 : Tree.node (Tree.node (Tree.node (Tree.leaf [97]) (Tree.leaf [98])) (Tree.leaf [99])) (Tree.leaf [99]) ≠ Tree.node (Tree.node (Tree.leaf [97]) (Tree.leaf [98])) (Tree.leaf [99]) := LiveP.two
end Go.Proofs.YtpdhgijeanbmcaaDoor
