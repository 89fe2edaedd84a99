/- Trees of three leaves: what 'live' asks, and the answers. -/
import Derived.Deep.DeepCutAuto
import Derived.Test.YtpdhgijeanbmcaaDoorJCcCard4
/- Holdc -/
namespace Go.Proofs.YtpdhgijeanbmcaaDoor
open Go.RowKit Go.Great

def Tree.holds (root : List UInt8) (n i : Nat) (leaf : List UInt8) (p : List (List UInt8)) : Bool := match Tree.made n i leaf p with
  | some r => r == root
  | none => false

set_option maxRecDepth 100000 in
set_option maxHeartbeats 1000000 in
theorem holds_bad (root leaf : List UInt8) (n i : Int) (a : Option Addr) (np c : Nat) (w : World) (hi : i < 0 ∨ n ≤ i) :
    Calls Tryd.prog 30 #[sumV root, .int .i64 n, .int .i64 i, sumV leaf, .slice a np c] w fun e w' => e = .returned (.bool false) ∧ Below w.heap.size w w' := by
  rcases hi with hi | hi
  · go_enter Tryd.func30, Tryd.ntmps30
    go_wp2
    go_ret
    exact ⟨rfl, low3 _ _ _ _⟩
  · by_cases h0 : i < 0
    · go_enter Tryd.func30, Tryd.ntmps30
      go_wp2
      go_ret
      exact ⟨rfl, low3 _ _ _ _⟩
    · go_enter Tryd.func30, Tryd.ntmps30
      go_wp2
      go_ret
      exact ⟨rfl, low3 _ _ _ _⟩

theorem holds_env {w w0 : World} {root leaf : List UInt8} {a : Option Addr} {np c : Nat} {p : List (List UInt8)} {t1 t2 t3 : TypeId} {t : TypeId} {o : Obj} (hT : Tabs w) (S : Sums w a np c p) (hl : leaf.length = 32)
    (hf : w0.heap[w.heap.size + 1 + 1 + 1]? = some (.cells #[holdFn (w.heap.size + 1) (w.heap.size + 1 + 1) (w.heap.size + 1 + 1 + 1)] t (0, 0)))
    (hg : ((((w.alloc (.cells (sumRow root) t1)).alloc (.cells (sumRow leaf) t2)).alloc (.cells #[.slice a np c] t3)).alloc o).grownBy w0 (some (w.heap.size + 1 + 1 + 1))) :
    HoldEnv w0 (w.heap.size + 1) (w.heap.size + 1 + 1) (w.heap.size + 1 + 1 + 1) leaf a np c p ∧ Below w.heap.size w w0 ∧ w0.heap[w.heap.size]? = some (.cells (root.map V8).toArray t1 (0, 0)) := by
  have hL : Below w.heap.size w w0 := (low4 _ _ _ _ _).grown hg (by simp; omega) (fun k hk => by obtain rfl := Option.some.inj hk; omega)
  have hb := blk4 w (.cells (sumRow root) t1) (.cells (sumRow leaf) t2) (.cells #[.slice a np c] t3) o
  have hk : ∀ b x, b < w.heap.size + 1 + 1 + 1 → ((((w.alloc (.cells (sumRow root) t1)).alloc (.cells (sumRow leaf) t2)).alloc (.cells #[.slice a np c] t3)).alloc o).heap[b]? = some x → w0.heap[b]? = some x :=
    fun b x hlt hx => (hg.block b (in_heap hx) (fun e => absurd (Option.some.inj e) (Nat.ne_of_lt hlt))).trans hx
  exact ⟨⟨hT.below hL, ⟨t2, (0, 0), hk _ _ (by omega) hb.2.1⟩, cell_block (hk _ _ (by omega) hb.2.2.1) rfl, cell_block hf rfl, hl, S.below hL⟩, hL, hk _ _ (by omega) hb.1⟩

/-- An operation whose guard is known to hold goes as one without a guard. -/
theorem wpList_guarded {P : Program} {ops : Array Oper} {rest : List Oper} {o : Oper} {a : Act} {w : World} {Q : Exit → Act → World → Prop} (hg : Region.wanted o (yielded ops a.tmps) = true) (h : wpList P ops Q ({ o with guard := none } :: rest) a w) : wpList P ops Q (o :: rest) a w := by
  unfold wpList at h ⊢
  rw [if_pos hg]
  rw [if_pos (show Region.wanted { o with guard := none } (yielded ops a.tmps) = true from rfl)] at h
  exact h

set_option maxRecDepth 100000 in
set_option maxHeartbeats 1000000 in
theorem holds_any (root leaf : List UInt8) (n i : Nat) (a : Option Addr) (np c : Nat) (p : List (List UInt8)) (w : World) (hi : i < n) (hn : n < 9223372036854775808) (hnp : np < 4611686018427387904) (hr : root.length = 32) (hl : leaf.length = 32) (hT : Tabs w) (S : Sums w a np c p) :
    Calls Tryd.prog 30 #[sumV root, .int .i64 n, .int .i64 i, sumV leaf, .slice a np c] w fun e w' => e = .returned (.bool (Tree.holds root n i leaf p)) ∧ Below w.heap.size w w' := by
  have hin := fun lb pb g w (E : HoldEnv w lb pb g leaf a np c p) => holdsin_any lb pb g leaf a np c p np n i w (Nat.le_refl _) hnp (by omega) hn hi E
  have htk : p.take np = p := by rw [S.len]; simp
  rw [htk] at hin
  have Hin := Lib.hid hin
  have S' := Lib.hid S
  have Hll := Lib.hid hl
  have HRR := Lib.hid hr
  have hi1 : ¬ (i : Int) < 0 := by omega
  have hi2 : ¬ (n : Int) ≤ (i : Int) := by omega
  have hi3 : (i : Int) < (n : Int) := by omega
  have hi4 : (0 : Int) ≤ (i : Int) := by omega
  clear S hl hr htk hin
  go_enter Tryd.func30, Tryd.ntmps30
  have HB4 := Lib.hid (blk4 w (.cells (sumRow root) 29) (.cells (sumRow leaf) 29) (.cells #[.slice a np c] 31) (.cells #[.nilFunc] 69)).2.2.2
  go_upto_region 5 with (refine wpList_store_one' rfl 69 _ _ rfl rfl (w.heap.size + 1 + 1 + 1) (.func (.func 51) #[] #[.pointer (some ⟨w.heap.size + 1, 0, none⟩), .pointer (some ⟨w.heap.size + 1 + 1, 0, none⟩), .pointer (some ⟨w.heap.size + 1 + 1 + 1, 0, none⟩)]) rfl rfl rfl _ _ HB4.out (by kernel_rfl) ?_; intro w0 hf hgr; have hf' := Lib.hid hf; have hgr' := Lib.hid hgr; clear hf hgr)
  obtain ⟨E, hB, hroot⟩ := holds_env (p := p) hT S'.out Hll.out hf'.out hgr'.out
  have hc := E.fn
  have hcp := E.pathAt
  unfold holdFn at hc
  have HE := Lib.hid E
  have HB0 := Lib.hid hB
  have HRoot := Lib.hid hroot
  have hel : ∀ (r : List UInt8), r.length = 32 → ∀ W, (binOp .eql 29 (sumV r) (sumV root)).run Tryd.prog W = .ok (.bool (r == root)) W := fun r h W => eql_sumV r root W h HRR.out
  have Hel := Lib.hid hel
  clear hf' hgr' E hB hroot hel
  go_wp2_with (first | (go_at_call 51; refine (Hin.out _ _ _ _ HE.out).mono ?_; rintro e w3 ⟨r, bb, rfl, hrl, hmd, hB⟩; have HRL := Lib.hid hrl; have HMD := Lib.hid hmd; have HB3 := Lib.hid hB; clear hrl hmd hB; cases bb) | (refine wpList_store_row' rfl 29 _ _ rfl w3.heap.size (r.map V8).toArray rfl rfl _ _ (blk1 _ _) (size_sum r HRL.out) (by simp [HRL.out]) (oneCells r) ?_; intro w4 h4 g4 s4; have hr4 := (g4.block _ (in_heap (at_old _ (bblk HB3.out HRoot.out))) (fun e => absurd (Option.some.inj e) (Nat.ne_of_lt (in_heap (bblk HB3.out HRoot.out))))).trans (at_old _ (bblk HB3.out HRoot.out)); have H4 := Lib.hid h4; have HR4 := Lib.hid hr4; have G4 := Lib.hid g4; have hel := Hel.out r HRL.out; clear h4 g4 s4 hr4) | (refine wpList_guarded rfl ?_; refine wpList_load_sum rfl 29 _ rfl w3.heap.size rfl _ r 32 _ _ H4.out Tryd.underlying29 (by kernel_rfl) HRL.out ?_) | (refine wpList_guarded rfl ?_; refine wpList_load_sum rfl 29 _ rfl w.heap.size rfl _ root 32 _ _ HR4.out Tryd.underlying29 (by kernel_rfl) HRR.out ?_))
  · go_ret
    refine ⟨?_, ?_⟩
    · have : Tree.holds root n i leaf p = false := by unfold Tree.holds; rw [HMD.out]; rfl
      rw [this]; try rfl
    · exact (((HB0.out.trans (HB3.out.mono HB0.out.size)).alloc (Nat.le_trans HB0.out.size HB3.out.size) _).grown G4.out (by rw [size_alloc]; exact Nat.le_succ_of_le (Nat.le_trans HB0.out.size HB3.out.size)) (fun k hk => by obtain rfl := Option.some.inj hk; exact Nat.le_trans HB0.out.size HB3.out.size))
  · go_ret
    refine ⟨?_, ?_⟩
    · have : Tree.holds root n i leaf p = (r == root) := by unfold Tree.holds; rw [HMD.out]; rfl
      rw [this]; try rfl
    · exact (((HB0.out.trans (HB3.out.mono HB0.out.size)).alloc (Nat.le_trans HB0.out.size HB3.out.size) _).grown G4.out (by rw [size_alloc]; exact Nat.le_succ_of_le (Nat.le_trans HB0.out.size HB3.out.size)) (fun k hk => by obtain rfl := Option.some.inj hk; exact Nat.le_trans HB0.out.size HB3.out.size))
end Go.Proofs.YtpdhgijeanbmcaaDoor

/- Extc -/
namespace Go.Proofs.YtpdhgijeanbmcaaDoor
open Go.RowKit Go.Great

theorem ext_env {w w0 : World} {root old : List UInt8} {a : Option Addr} {np c : Nat} {p : List (List UInt8)} {t1 t2 t3 : TypeId} {t : TypeId} {o : Obj} (hT : Tabs w) (S : Sums w a np c p) (hl : old.length = 32)
    (hf : w0.heap[w.heap.size + 1 + 1 + 1]? = some (.cells #[extFn w.heap.size (w.heap.size + 1 + 1) (w.heap.size + 1 + 1 + 1)] t (0, 0)))
    (hg : ((((w.alloc (.cells (sumRow old) t1)).alloc (.cells (sumRow root) t2)).alloc (.cells #[.slice a np c] t3)).alloc o).grownBy w0 (some (w.heap.size + 1 + 1 + 1))) :
    ExtEnv w0 w.heap.size (w.heap.size + 1 + 1) (w.heap.size + 1 + 1 + 1) old a np c p ∧ Below w.heap.size w w0 ∧ w0.heap[w.heap.size]? = some (.cells (old.map V8).toArray t1 (0, 0)) ∧ w0.heap[w.heap.size + 1]? = some (.cells (root.map V8).toArray t2 (0, 0)) := by
  have hL : Below w.heap.size w w0 := (low4 _ _ _ _ _).grown hg (by simp; omega) (fun k hk => by obtain rfl := Option.some.inj hk; omega)
  have hb := blk4 w (.cells (sumRow old) t1) (.cells (sumRow root) t2) (.cells #[.slice a np c] t3) o
  have hk : ∀ b x, b < w.heap.size + 1 + 1 + 1 → ((((w.alloc (.cells (sumRow old) t1)).alloc (.cells (sumRow root) t2)).alloc (.cells #[.slice a np c] t3)).alloc o).heap[b]? = some x → w0.heap[b]? = some x :=
    fun b x hlt hx => (hg.block b (in_heap hx) (fun e => absurd (Option.some.inj e) (Nat.ne_of_lt hlt))).trans hx
  exact ⟨⟨hT.below hL, ⟨t1, (0, 0), hk _ _ (by omega) hb.1⟩, cell_block (hk _ _ (by omega) hb.2.2.1) rfl, cell_block hf rfl, hl, S.below hL⟩, hL, hk _ _ (by omega) hb.1, hk _ _ (by omega) hb.2.1⟩

theorem keep54 {w4 w5 : World} {b : Nat} {x : Obj} (g5 : w4.grownBy w5 (some (b + 1))) (h : w4.heap[b]? = some x) : w5.heap[b]? = some x :=
  (g5.block _ (in_heap h) (fun e => by have := Option.some.inj e; omega)).trans h
theorem keep5 {w3 w4 w5 : World} {o o' : Obj} (g4 : ((w3.alloc o).alloc o').grownBy w4 (some w3.heap.size)) (g5 : w4.grownBy w5 (some (w3.heap.size + 1))) : ∀ b' x, b' < w3.heap.size → w3.heap[b']? = some x → w5.heap[b']? = some x := fun b' x hlt hx => by
  have s4 := g4.size
  rw [size_alloc, size_alloc] at s4
  exact (g5.block _ (by omega) (fun e => by have := Option.some.inj e; omega)).trans ((g4.block _ (by rw [size_alloc, size_alloc]; omega) (fun e => by have := Option.some.inj e; omega)).trans (at_old _ (at_old _ hx)))
theorem low5' {w w0 w3 w4 w5 : World} {o o' : Obj} (h0 : Below w.heap.size w w0) (h3 : Below w0.heap.size w0 w3) (g4 : ((w3.alloc o).alloc o').grownBy w4 (some w3.heap.size)) (g5 : w4.grownBy w5 (some (w3.heap.size + 1))) : Below w.heap.size w w5 := by
  have s4 := g4.size
  rw [size_alloc, size_alloc] at s4
  have hl3 := bthen h0 h3
  have i := hl3.size
  exact (((hl3.alloc i _).alloc (by rw [size_alloc]; omega) _).grown g4 (by rw [size_alloc, size_alloc]; omega) (fun k hk => by obtain rfl := Option.some.inj hk; omega)).grown g5 (by omega) (fun k hk => by obtain rfl := Option.some.inj hk; omega)

set_option maxRecDepth 100000 in
set_option maxHeartbeats 2000000 in
theorem extends_of (root old : List UInt8) (m n : Nat) (a : Option Addr) (np c : Nat) (p : List (List UInt8)) (w : World) (hm : 0 < m) (hmn : m ≤ n) (hr : root.length = 32) (ho : old.length = 32) (hT : Tabs w) (S : Sums w a np c p)
    (hin : ∀ ob pb g w', ExtEnv w' ob pb g old a np c p → Calls Tryd.prog 53 #[.int .i64 m, .int .i64 n, .int .i64 np, .bool true, .pointer (some ⟨ob, 0, none⟩), .pointer (some ⟨pb, 0, none⟩), .pointer (some ⟨g, 0, none⟩)] w' (RetBoth (Tree.both old m n true p) w')) :
    Calls Tryd.prog 32 #[.int .i64 m, sumV old, .int .i64 n, sumV root, .slice a np c] w fun e w' => e = .returned (.bool (Tree.extends_ m old n root p)) ∧ Below w.heap.size w w' := by
  have Hin := Lib.hid hin
  have S' := Lib.hid S
  have HOO := Lib.hid ho
  have HRR := Lib.hid hr
  have hi1 : ¬ (m : Int) < 1 := by omega
  have hi2 : ¬ (n : Int) < (m : Int) := by omega
  clear S ho hr hin
  go_enter Tryd.func32, Tryd.ntmps32
  have HB4 := Lib.hid (blk4 w (.cells (sumRow old) 29) (.cells (sumRow root) 29) (.cells #[.slice a np c] 31) (.cells #[.nilFunc] 72)).2.2.2
  go_upto_region 5 with (refine wpList_store_one' rfl 72 _ _ rfl rfl (w.heap.size + 1 + 1 + 1) (.func (.func 53) #[] #[.pointer (some ⟨w.heap.size, 0, none⟩), .pointer (some ⟨w.heap.size + 1 + 1, 0, none⟩), .pointer (some ⟨w.heap.size + 1 + 1 + 1, 0, none⟩)]) rfl rfl rfl _ _ HB4.out (by kernel_rfl) ?_; intro w0 hf hgr; have hf' := Lib.hid hf; have hgr' := Lib.hid hgr; clear hf hgr)
  obtain ⟨E, hB, hold, hroot⟩ := ext_env (p := p) hT S'.out HOO.out hf'.out hgr'.out
  have hc := E.fn
  have hcp := E.pathAt
  unfold extFn at hc
  have HE := Lib.hid E
  have HB0 := Lib.hid hB
  have HOld := Lib.hid hold
  have HRoot := Lib.hid hroot
  have Hel1 := Lib.hid (show ∀ (r : List UInt8), r.length = 32 → ∀ W, (binOp .eql 29 (sumV r) (sumV old)).run Tryd.prog W = .ok (.bool (r == old)) W from fun r h W => eql_sumV r old W h HOO.out)
  have Hel2 := Lib.hid (show ∀ (r : List UInt8), r.length = 32 → ∀ W, (binOp .eql 29 (sumV r) (sumV root)).run Tryd.prog W = .ok (.bool (r == root)) W from fun r h W => eql_sumV r root W h HRR.out)
  clear hf' hgr' E hB hold hroot
  go_wp2_with (first | (go_at_call 53; refine (Hin.out _ _ _ _ HE.out).mono ?_; rintro e w3 ⟨r, s, bb, rfl, hrl, hsl, hmd, hB⟩; have HRL := Lib.hid hrl; have HSL := Lib.hid hsl; have HMD := Lib.hid hmd; have HB3 := Lib.hid hB; clear hrl hsl hmd hB; cases bb <;> cases hq : (r == old)) | (refine wpList_store_row' rfl 29 _ _ rfl (w3.heap.size + 1) (s.map V8).toArray rfl rfl _ _ (at_4 H4.out G4.out) (size_sum s HSL.out) (by simp [HSL.out]) (oneCells s) ?_; intro w5 h5 g5 s5; have h54 := keep54 g5 H4.out; have hk5 := keep5 G4.out g5; have H5 := Lib.hid h5; have G5 := Lib.hid g5; have H54 := Lib.hid h54; have hel1 := Hel1.out r HRL.out; have hel2 := Hel2.out s HSL.out; have HK5 := Lib.hid hk5; clear h5 g5 s5 h54 hk5) | (refine wpList_store_row' rfl 29 _ _ rfl w3.heap.size (r.map V8).toArray rfl rfl _ _ (blk2 _ _ _).1 (size_sum r HRL.out) (by simp [HRL.out]) (oneCells r) ?_; intro w4 h4 g4 s4; have H4 := Lib.hid h4; have G4 := Lib.hid g4; clear h4 g4 s4) | (refine wpList_guarded rfl ?_; refine wpList_load_sum rfl 29 _ rfl w3.heap.size rfl _ r 32 _ _ H54.out Tryd.underlying29 (by kernel_rfl) HRL.out ?_) | (refine wpList_guarded rfl ?_; refine wpList_load_sum rfl 29 _ rfl w.heap.size rfl _ old 32 _ _ (HK5.out _ _ (in_heap (bblk HB3.out HOld.out)) (bblk HB3.out HOld.out)) Tryd.underlying29 (by kernel_rfl) HOO.out ?_) | (refine wpList_guarded rfl ?_; refine wpList_load_sum rfl 29 _ rfl (w3.heap.size + 1) rfl _ s 32 _ _ H5.out Tryd.underlying29 (by kernel_rfl) HSL.out ?_) | (refine wpList_guarded rfl ?_; refine wpList_load_sum rfl 29 _ rfl (w.heap.size + 1) rfl _ root 32 _ _ (HK5.out _ _ (in_heap (bblk HB3.out HRoot.out)) (bblk HB3.out HRoot.out)) Tryd.underlying29 (by kernel_rfl) HRR.out ?_))
  · go_ret
    have : Tree.extends_ m old n root p = false := by unfold Tree.extends_; rw [HMD.out]; rfl
    exact ⟨by rw [this]; try rfl, low5' HB0.out HB3.out G4.out G5.out⟩
  · go_ret
    have : Tree.extends_ m old n root p = false := by unfold Tree.extends_; rw [HMD.out]; rfl
    exact ⟨by rw [this]; try rfl, low5' HB0.out HB3.out G4.out G5.out⟩
  · go_ret
    have : Tree.extends_ m old n root p = false := by unfold Tree.extends_; rw [HMD.out]; simp [hq]
    exact ⟨by rw [this]; try rfl, low5' HB0.out HB3.out G4.out G5.out⟩
  · go_ret
    have : Tree.extends_ m old n root p = (s == root) := by unfold Tree.extends_; rw [HMD.out]; simp [hq]
    exact ⟨by rw [this]; try rfl, low5' HB0.out HB3.out G4.out G5.out⟩

/-- A proof of one sum that two leaves of three have become three. -/
theorem extends_three (root old x : List UInt8) (a : Option Addr) (c : Nat) (w : World) (hr : root.length = 32) (ho : old.length = 32) (hT : Tabs w) (S : Sums w a 1 c [x]) (hs3 : split 3 = 2) :
    Calls Tryd.prog 32 #[.int .i64 2, sumV old, .int .i64 3, sumV root, .slice a 1 c] w fun e w' => e = .returned (.bool (Tree.extends_ 2 old 3 root [x])) ∧ Below w.heap.size w w' := by
  refine extends_of root old 2 3 a 1 c [x] w (by omega) (by omega) hr ho hT S fun ob pb g w' E => ?_
  have h := extin_left 2 3 0 ob pb g true old a 1 c [x] w' (by omega) (by omega) (by omega) (by omega) (by omega) (by rw [hs3]; omega) E fun w2 E2 => by
    rw [hs3]
    exact extin_whole 2 0 ob pb g old a 1 c [x] w2 E2 (by omega)
  simpa using h
end Go.Proofs.YtpdhgijeanbmcaaDoor

/- Roots -/
namespace Go.Proofs.YtpdhgijeanbmcaaDoor
open Go.RowKit Go.Great

set_option maxRecDepth 100000 in
set_option maxHeartbeats 4000000 in
theorem rroots_whole (m : Nat) (old : List UInt8) (a : Option Addr) (np c : Nat) (p : List (List UInt8)) (w : World) (ho : old.length = 32) (hT : Tabs w) (S : Sums w a np c p) :
    Calls Tryd.prog 54 #[.int .i64 m, .int .i64 m, sumV old, .slice a np c, .bool true] w (RetBoth (Tree.both old m m true p) w) := by
  have Hl := Lib.hid ho
  have Hpl := Lib.hid S.len
  clear ho S
  go_enter Tryd.func54, Tryd.ntmps54
  go_wp2_with fail
  have HBk := Lib.hid (blk3 w (.cells (sumRow old) 29) (.cells (zeros8 32) 29) (.cells (zeros8 32) 29))
  have hne : w.heap.size + 1 ≠ w.heap.size + 1 + 1 := by omega
  have HLk := Lib.hid (low3 w (.cells (sumRow old) 29) (.cells (zeros8 32) 29) (.cells (zeros8 32) 29)).drew
  refine wp_region_reg 7 98 (WrS (w.heap.size + 1) (w.heap.size + 1 + 1) old old) (by kernel_rfl) (by kernel_rfl) (by kernel_rfl) (by kernel_rfl) (by kernel_rfl) (Wr.refl) (Wr.trans) [.is (sumV old), .is (sumV old), .is (.slice a np c : Value), .is (.int .i64 np : Value), .is (.bool ((np : Int) == 0) : Value), yFin1, yFin2] rfl (fun vs => ?_) (fun vs wr hR h => ?_)
  · refine RegHead.cons (fun wr hR h => ?_) ?_
    · exact relAt.pureS Wr.refl (by kernel_rfl) (by kernel_rfl) (run_load_box_sum wr w.heap.size _ _ old (hR.at_ (show (((w.alloc (.cells (sumRow old) 29)).alloc (.cells (zeros8 32) 29)).alloc (.cells (zeros8 32) 29)).drew.heap[_]? = _ from HBk.out.1) (by omega) (by omega)) Hl.out)
    refine RegHead.cons (fun wr hR h => ?_) ?_
    · exact relAt.pureS Wr.refl (by kernel_rfl) (by kernel_rfl) (run_load_box_sum wr w.heap.size _ _ old (hR.at_ (show (((w.alloc (.cells (sumRow old) 29)).alloc (.cells (zeros8 32) 29)).alloc (.cells (zeros8 32) 29)).drew.heap[_]? = _ from HBk.out.1) (by omega) (by omega)) Hl.out)
    refine RegHead.cons (fun wr hR h => ?_) ?_
    · exact relAt.pure Wr.refl (by kernel_rfl) (by kernel_rfl)
    refine RegHead.cons (fun wr hR h => ?_) ?_
    · exact relAt.pure Wr.refl (by kernel_rfl) (by kernel_rfl)
    refine RegHead.cons (fun wr hR h => ?_) ?_
    · exact relAt.pureS Wr.refl (by kernel_rfl) (by kernel_rfl) (run_len_is_zero wr 3 (.tmp 29) (.const (.int .i64 0)) np)
    refine RegHead.cons (fun wr hR h => ?_) ?_
    · obtain ⟨cs, hcs, hs⟩ := hR.k1 ⟨_, HBk.out.2.1, rfl⟩
      obtain ⟨w', hw', h1, g1⟩ := run_store_box wr (w.heap.size + 1) old cs hcs hs Hl.out
      exact relAt.act (by kernel_rfl) (by kernel_rfl) hw' (Wr.one hne g1 h1 (by simp [Hl.out])) h1
    refine RegHead.cons (fun wr hR h => ?_) ?_
    · obtain ⟨cs, hcs, hs⟩ := hR.k2 ⟨_, HBk.out.2.2, rfl⟩
      obtain ⟨w', hw', h1, g1⟩ := run_store_box wr (w.heap.size + 1 + 1) old cs hcs hs Hl.out
      exact relAt.act (by kernel_rfl) (by kernel_rfl) hw' (Wr.two hne g1 h1 (by simp [Hl.out])) h1
    exact trivial
  · have e30 : wr.heap[w.heap.size + 1]? = some (.cells (old.map V8).toArray 29 (0, 0)) := allOf_iff.1 h 5 (by decide)
    have e31 : wr.heap[w.heap.size + 1 + 1]? = some (.cells (old.map V8).toArray 29 (0, 0)) := allOf_iff.1 h 6 (by decide)
    have hBl : Below w.heap.size w wr := Wr.below HLk.out hR (by omega) (by omega)
    clear h hR
    refine wp_frame (new := [(sumV old), (sumV old), (.slice a np c : Value), (.int .i64 np : Value), (.bool ((np : Int) == 0) : Value)]) 26 31 (by kernel_rfl) ?_
    simp only [List.take, List.drop, List.cons_append, List.nil_append]
    go_wp2
    refine bodyPost_ret (results_sum2_tmp rfl _ _ (w.heap.size + 1) (w.heap.size + 1 + 1) _ _ old old 32 (0, 0) (0, 0) _ rfl rfl e30 e31 Tryd.underlying29 (by kernel_rfl) Hl.out Hl.out) rfl ⟨old, old, _, rfl, Hl.out, Hl.out, ?_, hBl⟩
    rw [Tree.both_whole]
    by_cases h : np = 0
    · have hp : p = [] := List.eq_nil_of_length_eq_zero (by rw [← Hpl.out]; exact h)
      subst h; simp [hp]
    · have hp : p ≠ [] := fun e => h (by rw [Hpl.out, e]; rfl)
      rw [if_neg hp, show ((np : Int) == 0) = false by simp; exact h]
      rfl

set_option maxRecDepth 100000 in
set_option maxHeartbeats 4000000 in
theorem rroots_part (m : Nat) (old : List UInt8) (a : Option Addr) (np c : Nat) (p : List (List UInt8)) (w : World) (ho : old.length = 32) (hT : Tabs w) (S : Sums w a np c p) (hu : np ≠ 1) :
    Calls Tryd.prog 54 #[.int .i64 m, .int .i64 m, sumV old, .slice a np c, .bool false] w (RetBoth (Tree.both old m m false p) w) := by
  have Hl := Lib.hid ho
  have Hpl := Lib.hid S.len
  have hu2 : ((np : Int) != 1) = true := by simp; omega
  have hu3 : ¬ (np : Int) = 1 := by omega
  clear ho S
  go_enter Tryd.func54, Tryd.ntmps54
  go_wp2_with fail
  have HBk := Lib.hid (blk3 w (.cells (sumRow old) 29) (.cells (zeros8 32) 29) (.cells (zeros8 32) 29))
  have hne : w.heap.size + 1 ≠ w.heap.size + 1 + 1 := by omega
  have HLk := Lib.hid (low3 w (.cells (sumRow old) 29) (.cells (zeros8 32) 29) (.cells (zeros8 32) 29)).drew
  refine wp_region_reg 4 98 (WrS (w.heap.size + 1) (w.heap.size + 1 + 1) old old) (by kernel_rfl) (by kernel_rfl) (by kernel_rfl) (by kernel_rfl) (by kernel_rfl) (Wr.refl) (Wr.trans) [.is (sumV old), .is (sumV old), yFin1, yFin2] rfl (fun vs => ?_) (fun vs wr hR h => ?_)
  · refine RegHead.cons (fun wr hR h => ?_) ?_
    · exact relAt.pureS Wr.refl (by kernel_rfl) (by kernel_rfl) (run_load_box_sum wr w.heap.size _ _ old (hR.at_ (show (((w.alloc (.cells (sumRow old) 29)).alloc (.cells (zeros8 32) 29)).alloc (.cells (zeros8 32) 29)).drew.heap[_]? = _ from HBk.out.1) (by omega) (by omega)) Hl.out)
    refine RegHead.cons (fun wr hR h => ?_) ?_
    · exact relAt.pureS Wr.refl (by kernel_rfl) (by kernel_rfl) (run_load_box_sum wr w.heap.size _ _ old (hR.at_ (show (((w.alloc (.cells (sumRow old) 29)).alloc (.cells (zeros8 32) 29)).alloc (.cells (zeros8 32) 29)).drew.heap[_]? = _ from HBk.out.1) (by omega) (by omega)) Hl.out)
    refine RegHead.cons (fun wr hR h => ?_) ?_
    · obtain ⟨cs, hcs, hs⟩ := hR.k1 ⟨_, HBk.out.2.1, rfl⟩
      obtain ⟨w', hw', h1, g1⟩ := run_store_box wr (w.heap.size + 1) old cs hcs hs Hl.out
      exact relAt.act (by kernel_rfl) (by kernel_rfl) hw' (Wr.one hne g1 h1 (by simp [Hl.out])) h1
    refine RegHead.cons (fun wr hR h => ?_) ?_
    · obtain ⟨cs, hcs, hs⟩ := hR.k2 ⟨_, HBk.out.2.2, rfl⟩
      obtain ⟨w', hw', h1, g1⟩ := run_store_box wr (w.heap.size + 1 + 1) old cs hcs hs Hl.out
      exact relAt.act (by kernel_rfl) (by kernel_rfl) hw' (Wr.two hne g1 h1 (by simp [Hl.out])) h1
    exact trivial
  · have e30 : wr.heap[w.heap.size + 1]? = some (.cells (old.map V8).toArray 29 (0, 0)) := allOf_iff.1 h 2 (by decide)
    have e31 : wr.heap[w.heap.size + 1 + 1]? = some (.cells (old.map V8).toArray 29 (0, 0)) := allOf_iff.1 h 3 (by decide)
    have hBl : Below w.heap.size w wr := Wr.below HLk.out hR (by omega) (by omega)
    clear h hR
    refine wp_frame (new := [(sumV old), (sumV old)]) 34 36 (by kernel_rfl) ?_
    simp only [List.take, List.drop, List.cons_append, List.nil_append]
    go_wp2
    refine bodyPost_ret (results_sum2_tmp rfl _ _ (w.heap.size + 1) (w.heap.size + 1 + 1) _ _ old old 32 (0, 0) (0, 0) _ rfl rfl e30 e31 Tryd.underlying29 (by kernel_rfl) Hl.out Hl.out) rfl ⟨old, old, _, rfl, Hl.out, Hl.out, ?_, hBl⟩
    rw [Tree.both_part old m p (by rw [← Hpl.out]; exact hu)]
    rfl

set_option maxRecDepth 100000 in
set_option maxHeartbeats 4000000 in
theorem rroots_one (m : Nat) (x : List UInt8) (old : List UInt8) (a : Option Addr) (c : Nat) (w : World) (ho : old.length = 32) (hT : Tabs w) (S : Sums w a 1 c [x]) :
    Calls Tryd.prog 54 #[.int .i64 m, .int .i64 m, sumV old, .slice a 1 c, .bool false] w (RetBoth (Tree.both old m m false [x]) w) := by
  obtain ⟨b, o, ha, hget⟩ := S.get
  obtain rfl := ha (by omega)
  have hx := hget 0 (by simp)
  rw [show [x][0] = x from rfl] at hx
  have HX := Lib.hid hx
  have HXL := Lib.hid (S.each x (by simp))
  have hcap := S.cap
  clear hget ha hx S ho
  go_enter Tryd.func54, Tryd.ntmps54
  go_wp2_with fail
  have HBk := Lib.hid (blk3 w (.cells (sumRow old) 29) (.cells (zeros8 32) 29) (.cells (zeros8 32) 29))
  have hne : w.heap.size + 1 ≠ w.heap.size + 1 + 1 := by omega
  have HLk := Lib.hid (low3 w (.cells (sumRow old) 29) (.cells (zeros8 32) 29) (.cells (zeros8 32) 29)).drew
  refine wp_region_reg 8 98 (WrS (w.heap.size + 1) (w.heap.size + 1 + 1) x x) (by kernel_rfl) (by kernel_rfl) (by kernel_rfl) (by kernel_rfl) (by kernel_rfl) (Wr.refl) (Wr.trans) [.is (.slice (some ⟨b, o, none⟩) 1 c : Value), .is ((.pointer (some ⟨b, o + 0 * 32, none⟩) : Value)), .is (sumV x), .is (.slice (some ⟨b, o, none⟩) 1 c : Value), .is ((.pointer (some ⟨b, o + 0 * 32, none⟩) : Value)), .is (sumV x), yFin1, yFin2] rfl (fun vs => ?_) (fun vs wr hR h => ?_)
  · refine RegHead.cons (fun wr hR h => ?_) ?_
    · exact relAt.pure Wr.refl (by kernel_rfl) (by kernel_rfl)
    refine RegHead.cons (fun wr hR h => ?_) ?_
    · exact relAt.pureS Wr.refl (by kernel_rfl) (by kernel_rfl) (run_sums_index wr b o 1 c 0 (by omega))
    refine RegHead.cons (fun wr hR h => ?_) ?_
    · exact relAt.pureS Wr.refl (by kernel_rfl) (by kernel_rfl) (run_load_at_sum wr b (o + 0 * 32) x (range_low HX.out (Wr.below HLk.out hR (by omega) (by omega))) HXL.out)
    refine RegHead.cons (fun wr hR h => ?_) ?_
    · exact relAt.pure Wr.refl (by kernel_rfl) (by kernel_rfl)
    refine RegHead.cons (fun wr hR h => ?_) ?_
    · exact relAt.pureS Wr.refl (by kernel_rfl) (by kernel_rfl) (run_sums_index wr b o 1 c 0 (by omega))
    refine RegHead.cons (fun wr hR h => ?_) ?_
    · exact relAt.pureS Wr.refl (by kernel_rfl) (by kernel_rfl) (run_load_at_sum wr b (o + 0 * 32) x (range_low HX.out (Wr.below HLk.out hR (by omega) (by omega))) HXL.out)
    refine RegHead.cons (fun wr hR h => ?_) ?_
    · obtain ⟨cs, hcs, hs⟩ := hR.k1 ⟨_, HBk.out.2.1, rfl⟩
      obtain ⟨w', hw', h1, g1⟩ := run_store_box wr (w.heap.size + 1) x cs hcs hs HXL.out
      exact relAt.act (by kernel_rfl) (by kernel_rfl) hw' (Wr.one hne g1 h1 (by simp [HXL.out])) h1
    refine RegHead.cons (fun wr hR h => ?_) ?_
    · obtain ⟨cs, hcs, hs⟩ := hR.k2 ⟨_, HBk.out.2.2, rfl⟩
      obtain ⟨w', hw', h1, g1⟩ := run_store_box wr (w.heap.size + 1 + 1) x cs hcs hs HXL.out
      exact relAt.act (by kernel_rfl) (by kernel_rfl) hw' (Wr.two hne g1 h1 (by simp [HXL.out])) h1
    exact trivial
  · have e30 : wr.heap[w.heap.size + 1]? = some (.cells (x.map V8).toArray 29 (0, 0)) := allOf_iff.1 h 6 (by decide)
    have e31 : wr.heap[w.heap.size + 1 + 1]? = some (.cells (x.map V8).toArray 29 (0, 0)) := allOf_iff.1 h 7 (by decide)
    have hBl : Below w.heap.size w wr := Wr.below HLk.out hR (by omega) (by omega)
    clear h hR
    refine wp_frame (new := [(.slice (some ⟨b, o, none⟩) 1 c : Value), ((.pointer (some ⟨b, o + 0 * 32, none⟩) : Value)), (sumV x), (.slice (some ⟨b, o, none⟩) 1 c : Value), ((.pointer (some ⟨b, o + 0 * 32, none⟩) : Value)), (sumV x)]) 36 42 (by kernel_rfl) ?_
    simp only [List.take, List.drop, List.cons_append, List.nil_append]
    go_wp2
    refine bodyPost_ret (results_sum2_tmp rfl _ _ (w.heap.size + 1) (w.heap.size + 1 + 1) _ _ x x 32 (0, 0) (0, 0) _ rfl rfl e30 e31 Tryd.underlying29 (by kernel_rfl) HXL.out HXL.out) rfl ⟨x, x, _, rfl, HXL.out, HXL.out, ?_, hBl⟩
    rw [Tree.both_one]
    rfl

set_option maxRecDepth 100000 in
set_option maxHeartbeats 4000000 in
theorem rroots_zero (m n : Nat) (whole : Bool) (old : List UInt8) (a : Option Addr) (c : Nat) (w : World) (ho : old.length = 32) (hm : 0 < m) (hmn : m < n) :
    Calls Tryd.prog 54 #[.int .i64 m, .int .i64 n, sumV old, .slice a 0 c, .bool whole] w (RetBoth (Tree.both old m n whole []) w) := by
  have Hl := Lib.hid ho
  have hn1 : ((m : Int) == (n : Int)) = false := by simp; omega
  have hn2 : ¬ (m : Int) = (n : Int) := by omega
  clear ho
  go_enter Tryd.func54, Tryd.ntmps54
  go_wp2_with fail
  have HBk := Lib.hid (blk3 w (.cells (sumRow old) 29) (.cells (zeros8 32) 29) (.cells (zeros8 32) 29))
  have hne : w.heap.size + 1 ≠ w.heap.size + 1 + 1 := by omega
  have HLk := Lib.hid (low3 w (.cells (sumRow old) 29) (.cells (zeros8 32) 29) (.cells (zeros8 32) 29)).drew
  refine wp_region_reg 4 98 (WrS (w.heap.size + 1) (w.heap.size + 1 + 1) old old) (by kernel_rfl) (by kernel_rfl) (by kernel_rfl) (by kernel_rfl) (by kernel_rfl) (Wr.refl) (Wr.trans) [.is (sumV old), .is (sumV old), yFin1, yFin2] rfl (fun vs => ?_) (fun vs wr hR h => ?_)
  · refine RegHead.cons (fun wr hR h => ?_) ?_
    · exact relAt.pureS Wr.refl (by kernel_rfl) (by kernel_rfl) (run_load_box_sum wr w.heap.size _ _ old (hR.at_ (show (((w.alloc (.cells (sumRow old) 29)).alloc (.cells (zeros8 32) 29)).alloc (.cells (zeros8 32) 29)).drew.heap[_]? = _ from HBk.out.1) (by omega) (by omega)) Hl.out)
    refine RegHead.cons (fun wr hR h => ?_) ?_
    · exact relAt.pureS Wr.refl (by kernel_rfl) (by kernel_rfl) (run_load_box_sum wr w.heap.size _ _ old (hR.at_ (show (((w.alloc (.cells (sumRow old) 29)).alloc (.cells (zeros8 32) 29)).alloc (.cells (zeros8 32) 29)).drew.heap[_]? = _ from HBk.out.1) (by omega) (by omega)) Hl.out)
    refine RegHead.cons (fun wr hR h => ?_) ?_
    · obtain ⟨cs, hcs, hs⟩ := hR.k1 ⟨_, HBk.out.2.1, rfl⟩
      obtain ⟨w', hw', h1, g1⟩ := run_store_box wr (w.heap.size + 1) old cs hcs hs Hl.out
      exact relAt.act (by kernel_rfl) (by kernel_rfl) hw' (Wr.one hne g1 h1 (by simp [Hl.out])) h1
    refine RegHead.cons (fun wr hR h => ?_) ?_
    · obtain ⟨cs, hcs, hs⟩ := hR.k2 ⟨_, HBk.out.2.2, rfl⟩
      obtain ⟨w', hw', h1, g1⟩ := run_store_box wr (w.heap.size + 1 + 1) old cs hcs hs Hl.out
      exact relAt.act (by kernel_rfl) (by kernel_rfl) hw' (Wr.two hne g1 h1 (by simp [Hl.out])) h1
    exact trivial
  · have e30 : wr.heap[w.heap.size + 1]? = some (.cells (old.map V8).toArray 29 (0, 0)) := allOf_iff.1 h 2 (by decide)
    have e31 : wr.heap[w.heap.size + 1 + 1]? = some (.cells (old.map V8).toArray 29 (0, 0)) := allOf_iff.1 h 3 (by decide)
    have hBl : Below w.heap.size w wr := Wr.below HLk.out hR (by omega) (by omega)
    clear h hR
    refine wp_frame (new := [(sumV old), (sumV old)]) 45 47 (by kernel_rfl) ?_
    simp only [List.take, List.drop, List.cons_append, List.nil_append]
    go_wp2
    refine bodyPost_ret (results_sum2_tmp rfl _ _ (w.heap.size + 1) (w.heap.size + 1 + 1) _ _ old old 32 (0, 0) (0, 0) _ rfl rfl e30 e31 Tryd.underlying29 (by kernel_rfl) Hl.out Hl.out) rfl ⟨old, old, _, rfl, Hl.out, Hl.out, ?_, hBl⟩
    rw [Tree.both_zero old m n whole hmn hm]
    rfl

set_option maxRecDepth 100000 in
set_option maxHeartbeats 4000000 in
theorem rroots_left (m n u : Nat) (whole : Bool) (old : List UInt8) (a : Option Addr) (c : Nat) (p : List (List UInt8)) (w : World) (hup : u + 1 < 4611686018427387904) (hm : 0 < m) (hmn : m < n) (hn63 : n < 9223372036854775808) (hmk : m ≤ split n) (ho : old.length = 32) (hT : Tabs w) (S : Sums w a (u + 1) c p)
    (ih : ∀ w', Tabs w' → Sums w' a u c (p.take u) → Calls Tryd.prog 54 #[.int .i64 m, .int .i64 (split n), sumV old, .slice a u c, .bool whole] w' (RetBoth (Tree.both old m (split n) whole (p.take u)) w')) :
    Calls Tryd.prog 54 #[.int .i64 m, .int .i64 n, sumV old, .slice a (u + 1) c, .bool whole] w (RetBoth (Tree.both old m n whole p) w) := by
  have Hl := Lib.hid ho
  have hpl := S.len
  have hup' : u < p.length := by omega
  have hkp := split_pos n
  have hkl := split_lt (show 1 < n by omega)
  have Hb := Lib.hid (Tree.both_left old m n whole p u hup' hmn hm hmk)
  rw [List.take_of_length_le (show p.length ≤ u + 1 by omega)] at Hb
  have Hhalf := split_any n (by omega)
  obtain ⟨b, o, ha, hget⟩ := S.get
  obtain rfl := ha (by omega)
  have hx := hget u hup'
  have hxl := S.each p[u] (by simp)
  obtain ⟨x, hxe⟩ : ∃ x, x = p[u] := ⟨_, rfl⟩
  rw [← hxe] at hx hxl Hb
  generalize split n = k at *
  have Ih := Lib.hid ih
  have HT := Lib.hid hT
  have HS := Lib.hid (S.take u (by omega))
  clear ih
  have HX := Lib.hid hx
  have HXL := Lib.hid hxl
  have hcap := S.cap
  have e1 : ((u + 1 : Nat) : Int) - 1 = (u : Int) := by omega
  have hu9 : ((u : Int) + 1 == 0) = false := by simp; omega
  have hu8 : ¬ ((u : Int) + 1) = 0 := by omega
  have hn1 : ((m : Int) == (n : Int)) = false := by simp; omega
  have hn2 : ¬ (m : Int) = (n : Int) := by omega
  have hunp : (u : Int) < (u : Int) + 1 := by omega
  have hmk2 : (m : Int) ≤ (k : Int) := by omega
  have hmk3 : (m : Int) ≤ (k : Int) := by omega
  clear hx hxl hget ha S hxe hup' hpl ho hT
  go_enter Tryd.func54, Tryd.ntmps54
  have HBk := Lib.hid (blk3 w (.cells (sumRow old) 29) (.cells (zeros8 32) 29) (.cells (zeros8 32) 29))
  have HLk := Lib.hid (low3 w (.cells (sumRow old) 29) (.cells (zeros8 32) 29) (.cells (zeros8 32) 29))
  have HTk := Lib.hid (HT.out.below HLk.out)
  go_wp2_with (first | (go_at_call 46; refine (Hhalf _).mono ?_; rintro e w1 ⟨rfl, rfl⟩) | (refine wpList_load_mid_sum rfl 29 _ rfl b (o + u * 32) rfl x 32 _ (range_low HX.out HLk.out) Tryd.underlying29 (by kernel_rfl) HXL.out ?_) | (refine wpList_store_row' rfl 29 _ _ rfl (w.heap.size + 1 + 1 + 1) (x.map V8).toArray rfl rfl _ _ (at_new _ _ (by simp)) (size_sum x HXL.out) (by simp [HXL.out, zeros8]) (oneCells x) ?_; intro w2 hx2 hg2 hs2; have HX2 := Lib.hid hx2; have HG2 := Lib.hid hg2; clear hx2 hg2 hs2) | (refine wpList_load_sum rfl 29 _ rfl w.heap.size rfl _ old 32 _ _ (rr_old HG2.out (by simp) HBk.out.1) Tryd.underlying29 (by kernel_rfl) Hl.out ?_) | (go_at_call 54; refine (Ih.out w2 (HT.out.below (rr_low HG2.out HLk.out (by omega))) (HS.out.below (rr_low HG2.out HLk.out (by omega)))).mono ?_; rintro e w3 ⟨r, s, bb, rfl, hrl, hsl, hmd, hB⟩; have HRL := Lib.hid hrl; have HSL := Lib.hid hsl; have HMD := Lib.hid hmd; have HB3 := Lib.hid hB; clear hrl hsl hmd hB) | (refine wpList_store_row' rfl 29 _ _ rfl (w3.heap.size + 1) (s.map V8).toArray rfl rfl _ _ (at_4 H4.out G4.out) (size_sum s HSL.out) (by simp [HSL.out]) (oneCells s) ?_; intro w5 h5 g5 s5; have H5 := Lib.hid h5; have G5 := Lib.hid g5; clear h5 g5 s5) | (refine wpList_store_row' rfl 29 _ _ rfl w3.heap.size (r.map V8).toArray rfl rfl _ _ (blk2 _ _ _).1 (size_sum r HRL.out) (by simp [HRL.out]) (oneCells r) ?_; intro w4 h4 g4 s4; have H4 := Lib.hid h4; have G4 := Lib.hid g4; clear h4 g4 s4))
  have HL2 := Lib.hid (rr_low HG2.out HLk.out (by omega))
  have HY1 := Lib.hid (rr_old HG2.out (by simp) HBk.out.2.1)
  have HY2 := Lib.hid (rr_old HG2.out (by simp) HBk.out.2.2)
  obtain ⟨b15, hb15, H15'⟩ : ∃ b15, b15 = w.heap.size + 1 + 1 + 1 ∧ w.heap.size + 1 + 1 + 1 ≤ b15 := ⟨_, rfl, Nat.le_refl _⟩
  rw [← hb15] at HX2 ⊢
  have H15 := Lib.hid H15'
  have hcall := trivial
  clear hb15 H15' HG2
  have i3 := HB3.out.size
  have i2 := HL2.out.size
  have q1 := in_heap HY2.out
  have q2 := in_heap HX2.out
  have i4 := G4.out.size
  rw [size_alloc, size_alloc] at i4
  have hl3 : Below w.heap.size w w3 := bthen HL2.out HB3.out
  have hl5 : Below w.heap.size w w5 := (((hl3.alloc hl3.size _).alloc (by rw [size_alloc]; omega) _).grown G4.out (by rw [size_alloc, size_alloc]; omega) (fun k hk => by obtain rfl := Option.some.inj hk; omega)).grown G5.out (by omega) (fun k hk => by obtain rfl := Option.some.inj hk; omega)
  have k5 : ∀ b' o', b' < w3.heap.size → w3.heap[b']? = some o' → w5.heap[b']? = some o' := fun b' o' hlt hx => (G5.out.block _ (by omega) (fun e => by have := Option.some.inj e; omega)).trans ((G4.out.block _ (by rw [size_alloc, size_alloc]; omega) (fun e => by have := Option.some.inj e; omega)).trans (at_old _ (at_old _ hx)))
  have h16 : w5.heap[w3.heap.size]? = some (.cells (r.map V8).toArray 29 (0, 0)) := (G5.out.block _ (by omega) (fun e => by have := Option.some.inj e; omega)).trans H4.out
  have HZ1 := Lib.hid (k5 _ _ (by omega) (bblk HB3.out HY1.out))
  have HZ2 := Lib.hid (k5 _ _ (by omega) (bblk HB3.out HY2.out))
  have HZ15 := Lib.hid (k5 _ _ (by omega) (bblk HB3.out HX2.out))
  have HZ16 := Lib.hid h16
  have HZ17 := Lib.hid H5.out
  have HL5 := Lib.hid hl5
  have hb15 := H15.out
  have n1 : b15 ≠ w.heap.size + 1 := by omega
  have n2 : b15 ≠ w.heap.size + 1 + 1 := by omega
  have n3 : w3.heap.size ≠ w.heap.size + 1 := by omega
  have n4 : w3.heap.size ≠ w.heap.size + 1 + 1 := by omega
  have n5 : w3.heap.size + 1 ≠ w.heap.size + 1 := by omega
  have n6 : w3.heap.size + 1 ≠ w.heap.size + 1 + 1 := by omega
  have hne : w.heap.size + 1 ≠ w.heap.size + 1 + 1 := by omega
  obtain ⟨g16, hg16⟩ : ∃ g, g = w3.heap.size := ⟨_, rfl⟩
  rw [← hg16] at n3 n4 n5 n6 HZ16 HZ17 ⊢
  obtain ⟨ndr, hndr, hndrl⟩ : ∃ nd, nd = Tree.node x r ∧ nd.length = 32 := ⟨_, rfl, rfl⟩
  obtain ⟨nds, hnds, hndsl⟩ : ∃ nd, nd = Tree.node x s ∧ nd.length = 32 := ⟨_, rfl, rfl⟩
  obtain ⟨ndl, hndl, hndll⟩ : ∃ nd, nd = Tree.node s x ∧ nd.length = 32 := ⟨_, rfl, rfl⟩
  have HNR := Lib.hid hndr
  have HNS := Lib.hid hnds
  have HNL := Lib.hid hndl
  have HNRL := Lib.hid hndrl
  have HNSL := Lib.hid hndsl
  have HNLL := Lib.hid hndll
  have hnoder := Lib.hid fun W hT => rnode_any x r W hT HXL.out HRL.out
  have hnodes := Lib.hid fun W hT => rnode_any x s W hT HXL.out HSL.out
  have hnodel := Lib.hid fun W hT => rnode_any s x W hT HSL.out HXL.out
  clear hl3 hl5 k5 h16 i2 i3 i4 q1 q2 hndr hndrl hnds hndsl hndl hndll H4 H5 G4 G5 HY1 HY2 HX2 hb15 H15 hg16 hcall
  refine wp_region_reg 7 98 (WrS (w.heap.size + 1) (w.heap.size + 1 + 1) r ndl) (by kernel_rfl) (by kernel_rfl) (by kernel_rfl) (by kernel_rfl) (by kernel_rfl) (Wr.refl) (Wr.trans) [.is (sumV r), .is (sumV s), .is (sumV x), .is (sumV ndl), .is (.bool bb : Value), yFin1, yFin2] rfl (fun vs => ?_) (fun vs wr hR h => ?_)
  · refine RegHead.cons (fun wr hR h => ?_) ?_
    · exact relAt.pureS Wr.refl (by kernel_rfl) (by kernel_rfl) (run_load_box_sum wr g16 _ _ r (hR.at_ (show w5.drew.heap[_]? = _ from HZ16.out) n3 n4) HRL.out)
    refine RegHead.cons (fun wr hR h => ?_) ?_
    · exact relAt.pureS Wr.refl (by kernel_rfl) (by kernel_rfl) (run_load_box_sum wr (g16 + 1) _ _ s (hR.at_ (show w5.drew.heap[_]? = _ from HZ17.out) n5 n6) HSL.out)
    refine RegHead.cons (fun wr hR h => ?_) ?_
    · exact relAt.pureS Wr.refl (by kernel_rfl) (by kernel_rfl) (run_load_box_sum wr b15 _ _ x (hR.at_ (show w5.drew.heap[_]? = _ from HZ15.out) n1 n2) HXL.out)
    refine RegHead.cons (fun wr hR h => ?_) ?_
    · refine relAt.call (by kernel_rfl) (by kernel_rfl) ((hnodel.out wr (HT.out.below (Wr.below HL5.out.drew hR (by omega) (by omega)))).mono ?_)
      rintro e w6 ⟨rfl, hB6⟩
      exact ⟨_, rfl, Wr.of_low hB6, congrArg sumV HNL.out.symm⟩
    refine RegHead.cons (fun wr hR h => ?_) ?_
    · exact relAt.pure Wr.refl (by kernel_rfl) (by kernel_rfl)
    refine RegHead.cons (fun wr hR h => ?_) ?_
    · obtain ⟨cs, hcs, hs⟩ := hR.k1 ⟨_, HZ1.out, rfl⟩
      obtain ⟨w', hw', h1, g1⟩ := run_store_box wr (w.heap.size + 1) r cs hcs hs HRL.out
      exact relAt.act (by kernel_rfl) (by kernel_rfl) hw' (Wr.one hne g1 h1 (by simp [HRL.out])) h1
    refine RegHead.cons (fun wr hR h => ?_) ?_
    · obtain ⟨cs, hcs, hs⟩ := hR.k2 ⟨_, HZ2.out, rfl⟩
      obtain ⟨w', hw', h1, g1⟩ := run_store_box wr (w.heap.size + 1 + 1) ndl cs hcs hs HNLL.out
      exact relAt.act (by kernel_rfl) (by kernel_rfl) hw' (Wr.two hne g1 h1 (by simp [HNLL.out])) h1
    exact trivial
  · have e30 : wr.heap[w.heap.size + 1]? = some (.cells (r.map V8).toArray 29 (0, 0)) := allOf_iff.1 h 5 (by decide)
    have e31 : wr.heap[w.heap.size + 1 + 1]? = some (.cells (ndl.map V8).toArray 29 (0, 0)) := allOf_iff.1 h 6 (by decide)
    have hBl : Below w.heap.size w wr := Wr.below HL5.out.drew hR (by omega) (by omega)
    clear h hR
    refine wp_frame (new := [(sumV r), (sumV s), (sumV x), (sumV ndl), (.bool bb : Value)]) 73 78 (by kernel_rfl) ?_
    simp only [List.take, List.drop, List.cons_append, List.nil_append]
    go_wp2
    refine bodyPost_ret (results_sum2_tmp rfl _ _ (w.heap.size + 1) (w.heap.size + 1 + 1) _ _ r ndl 32 (0, 0) (0, 0) _ rfl rfl e30 e31 Tryd.underlying29 (by kernel_rfl) HRL.out HNLL.out) rfl ⟨r, ndl, _, rfl, HRL.out, HNLL.out, ?_, hBl⟩
    rw [Hb.out, HMD.out, HNL.out]
    cases bb <;> rfl

set_option maxRecDepth 100000 in
set_option maxHeartbeats 4000000 in
theorem rroots_right (m n u : Nat) (whole : Bool) (old : List UInt8) (a : Option Addr) (c : Nat) (p : List (List UInt8)) (w : World) (hup : u + 1 < 4611686018427387904) (hm : 0 < m) (hmn : m < n) (hn63 : n < 9223372036854775808) (hmk : ¬ m ≤ split n) (ho : old.length = 32) (hT : Tabs w) (S : Sums w a (u + 1) c p)
    (ih : ∀ w', Tabs w' → Sums w' a u c (p.take u) → Calls Tryd.prog 54 #[.int .i64 (m - split n : Nat), .int .i64 (n - split n : Nat), sumV old, .slice a u c, .bool false] w' (RetBoth (Tree.both old (m - split n) (n - split n) false (p.take u)) w')) :
    Calls Tryd.prog 54 #[.int .i64 m, .int .i64 n, sumV old, .slice a (u + 1) c, .bool whole] w (RetBoth (Tree.both old m n whole p) w) := by
  have Hl := Lib.hid ho
  have hpl := S.len
  have hup' : u < p.length := by omega
  have hkp := split_pos n
  have hkl := split_lt (show 1 < n by omega)
  have Hb := Lib.hid (Tree.both_right old m n whole p u hup' hmn hm hmk)
  rw [List.take_of_length_le (show p.length ≤ u + 1 by omega)] at Hb
  have Hhalf := split_any n (by omega)
  obtain ⟨b, o, ha, hget⟩ := S.get
  obtain rfl := ha (by omega)
  have hx := hget u hup'
  have hxl := S.each p[u] (by simp)
  obtain ⟨x, hxe⟩ : ∃ x, x = p[u] := ⟨_, rfl⟩
  rw [← hxe] at hx hxl Hb
  generalize split n = k at *
  rw [show ((m - k : Nat) : Int) = (m : Int) - (k : Int) by omega, show ((n - k : Nat) : Int) = (n : Int) - (k : Int) by omega] at ih
  have Ih := Lib.hid ih
  have HT := Lib.hid hT
  have HS := Lib.hid (S.take u (by omega))
  clear ih
  have HX := Lib.hid hx
  have HXL := Lib.hid hxl
  have hcap := S.cap
  have e1 : ((u + 1 : Nat) : Int) - 1 = (u : Int) := by omega
  have hu9 : ((u : Int) + 1 == 0) = false := by simp; omega
  have hu8 : ¬ ((u : Int) + 1) = 0 := by omega
  have hn1 : ((m : Int) == (n : Int)) = false := by simp; omega
  have hn2 : ¬ (m : Int) = (n : Int) := by omega
  have hunp : (u : Int) < (u : Int) + 1 := by omega
  have hmk2 : ¬ (m : Int) ≤ (k : Int) := by omega
  have hmk3 : (k : Int) < (m : Int) := by omega
  clear hx hxl hget ha S hxe hup' hpl ho hT
  go_enter Tryd.func54, Tryd.ntmps54
  have HBk := Lib.hid (blk3 w (.cells (sumRow old) 29) (.cells (zeros8 32) 29) (.cells (zeros8 32) 29))
  have HLk := Lib.hid (low3 w (.cells (sumRow old) 29) (.cells (zeros8 32) 29) (.cells (zeros8 32) 29))
  have HTk := Lib.hid (HT.out.below HLk.out)
  go_wp2_with (first | (go_at_call 46; refine (Hhalf _).mono ?_; rintro e w1 ⟨rfl, rfl⟩) | (refine wpList_load_mid_sum rfl 29 _ rfl b (o + u * 32) rfl x 32 _ (range_low HX.out HLk.out) Tryd.underlying29 (by kernel_rfl) HXL.out ?_) | (refine wpList_store_row' rfl 29 _ _ rfl (w.heap.size + 1 + 1 + 1) (x.map V8).toArray rfl rfl _ _ (at_new _ _ (by simp)) (size_sum x HXL.out) (by simp [HXL.out, zeros8]) (oneCells x) ?_; intro w2 hx2 hg2 hs2; have HX2 := Lib.hid hx2; have HG2 := Lib.hid hg2; clear hx2 hg2 hs2) | (refine wpList_load_sum rfl 29 _ rfl w.heap.size rfl _ old 32 _ _ (rr_old HG2.out (by simp) HBk.out.1) Tryd.underlying29 (by kernel_rfl) Hl.out ?_) | (go_at_call 54; refine (Ih.out w2 (HT.out.below (rr_low HG2.out HLk.out (by omega))) (HS.out.below (rr_low HG2.out HLk.out (by omega)))).mono ?_; rintro e w3 ⟨r, s, bb, rfl, hrl, hsl, hmd, hB⟩; have HRL := Lib.hid hrl; have HSL := Lib.hid hsl; have HMD := Lib.hid hmd; have HB3 := Lib.hid hB; clear hrl hsl hmd hB) | (refine wpList_store_row' rfl 29 _ _ rfl (w3.heap.size + 1) (s.map V8).toArray rfl rfl _ _ (at_4 H4.out G4.out) (size_sum s HSL.out) (by simp [HSL.out]) (oneCells s) ?_; intro w5 h5 g5 s5; have H5 := Lib.hid h5; have G5 := Lib.hid g5; clear h5 g5 s5) | (refine wpList_store_row' rfl 29 _ _ rfl w3.heap.size (r.map V8).toArray rfl rfl _ _ (blk2 _ _ _).1 (size_sum r HRL.out) (by simp [HRL.out]) (oneCells r) ?_; intro w4 h4 g4 s4; have H4 := Lib.hid h4; have G4 := Lib.hid g4; clear h4 g4 s4))
  have HL2 := Lib.hid (rr_low HG2.out HLk.out (by omega))
  have HY1 := Lib.hid (rr_old HG2.out (by simp) HBk.out.2.1)
  have HY2 := Lib.hid (rr_old HG2.out (by simp) HBk.out.2.2)
  obtain ⟨b15, hb15, H15'⟩ : ∃ b15, b15 = w.heap.size + 1 + 1 + 1 ∧ w.heap.size + 1 + 1 + 1 ≤ b15 := ⟨_, rfl, Nat.le_refl _⟩
  rw [← hb15] at HX2 ⊢
  have H15 := Lib.hid H15'
  have hcall := trivial
  clear hb15 H15' HG2
  have i3 := HB3.out.size
  have i2 := HL2.out.size
  have q1 := in_heap HY2.out
  have q2 := in_heap HX2.out
  have i4 := G4.out.size
  rw [size_alloc, size_alloc] at i4
  have hl3 : Below w.heap.size w w3 := bthen HL2.out HB3.out
  have hl5 : Below w.heap.size w w5 := (((hl3.alloc hl3.size _).alloc (by rw [size_alloc]; omega) _).grown G4.out (by rw [size_alloc, size_alloc]; omega) (fun k hk => by obtain rfl := Option.some.inj hk; omega)).grown G5.out (by omega) (fun k hk => by obtain rfl := Option.some.inj hk; omega)
  have k5 : ∀ b' o', b' < w3.heap.size → w3.heap[b']? = some o' → w5.heap[b']? = some o' := fun b' o' hlt hx => (G5.out.block _ (by omega) (fun e => by have := Option.some.inj e; omega)).trans ((G4.out.block _ (by rw [size_alloc, size_alloc]; omega) (fun e => by have := Option.some.inj e; omega)).trans (at_old _ (at_old _ hx)))
  have h16 : w5.heap[w3.heap.size]? = some (.cells (r.map V8).toArray 29 (0, 0)) := (G5.out.block _ (by omega) (fun e => by have := Option.some.inj e; omega)).trans H4.out
  have HZ1 := Lib.hid (k5 _ _ (by omega) (bblk HB3.out HY1.out))
  have HZ2 := Lib.hid (k5 _ _ (by omega) (bblk HB3.out HY2.out))
  have HZ15 := Lib.hid (k5 _ _ (by omega) (bblk HB3.out HX2.out))
  have HZ16 := Lib.hid h16
  have HZ17 := Lib.hid H5.out
  have HL5 := Lib.hid hl5
  have hb15 := H15.out
  have n1 : b15 ≠ w.heap.size + 1 := by omega
  have n2 : b15 ≠ w.heap.size + 1 + 1 := by omega
  have n3 : w3.heap.size ≠ w.heap.size + 1 := by omega
  have n4 : w3.heap.size ≠ w.heap.size + 1 + 1 := by omega
  have n5 : w3.heap.size + 1 ≠ w.heap.size + 1 := by omega
  have n6 : w3.heap.size + 1 ≠ w.heap.size + 1 + 1 := by omega
  have hne : w.heap.size + 1 ≠ w.heap.size + 1 + 1 := by omega
  obtain ⟨g16, hg16⟩ : ∃ g, g = w3.heap.size := ⟨_, rfl⟩
  rw [← hg16] at n3 n4 n5 n6 HZ16 HZ17 ⊢
  obtain ⟨ndr, hndr, hndrl⟩ : ∃ nd, nd = Tree.node x r ∧ nd.length = 32 := ⟨_, rfl, rfl⟩
  obtain ⟨nds, hnds, hndsl⟩ : ∃ nd, nd = Tree.node x s ∧ nd.length = 32 := ⟨_, rfl, rfl⟩
  obtain ⟨ndl, hndl, hndll⟩ : ∃ nd, nd = Tree.node s x ∧ nd.length = 32 := ⟨_, rfl, rfl⟩
  have HNR := Lib.hid hndr
  have HNS := Lib.hid hnds
  have HNL := Lib.hid hndl
  have HNRL := Lib.hid hndrl
  have HNSL := Lib.hid hndsl
  have HNLL := Lib.hid hndll
  have hnoder := Lib.hid fun W hT => rnode_any x r W hT HXL.out HRL.out
  have hnodes := Lib.hid fun W hT => rnode_any x s W hT HXL.out HSL.out
  have hnodel := Lib.hid fun W hT => rnode_any s x W hT HSL.out HXL.out
  clear hl3 hl5 k5 h16 i2 i3 i4 q1 q2 hndr hndrl hnds hndsl hndl hndll H4 H5 G4 G5 HY1 HY2 HX2 hb15 H15 hg16 hcall
  refine wp_region_reg 9 98 (WrS (w.heap.size + 1) (w.heap.size + 1 + 1) ndr nds) (by kernel_rfl) (by kernel_rfl) (by kernel_rfl) (by kernel_rfl) (by kernel_rfl) (Wr.refl) (Wr.trans) [.is (sumV x), .is (sumV r), .is (sumV ndr), .is (sumV x), .is (sumV s), .is (sumV nds), .is (.bool bb : Value), yFin1, yFin2] rfl (fun vs => ?_) (fun vs wr hR h => ?_)
  · refine RegHead.cons (fun wr hR h => ?_) ?_
    · exact relAt.pureS Wr.refl (by kernel_rfl) (by kernel_rfl) (run_load_box_sum wr b15 _ _ x (hR.at_ (show w5.drew.heap[_]? = _ from HZ15.out) n1 n2) HXL.out)
    refine RegHead.cons (fun wr hR h => ?_) ?_
    · exact relAt.pureS Wr.refl (by kernel_rfl) (by kernel_rfl) (run_load_box_sum wr g16 _ _ r (hR.at_ (show w5.drew.heap[_]? = _ from HZ16.out) n3 n4) HRL.out)
    refine RegHead.cons (fun wr hR h => ?_) ?_
    · refine relAt.call (by kernel_rfl) (by kernel_rfl) ((hnoder.out wr (HT.out.below (Wr.below HL5.out.drew hR (by omega) (by omega)))).mono ?_)
      rintro e w6 ⟨rfl, hB6⟩
      exact ⟨_, rfl, Wr.of_low hB6, congrArg sumV HNR.out.symm⟩
    refine RegHead.cons (fun wr hR h => ?_) ?_
    · exact relAt.pureS Wr.refl (by kernel_rfl) (by kernel_rfl) (run_load_box_sum wr b15 _ _ x (hR.at_ (show w5.drew.heap[_]? = _ from HZ15.out) n1 n2) HXL.out)
    refine RegHead.cons (fun wr hR h => ?_) ?_
    · exact relAt.pureS Wr.refl (by kernel_rfl) (by kernel_rfl) (run_load_box_sum wr (g16 + 1) _ _ s (hR.at_ (show w5.drew.heap[_]? = _ from HZ17.out) n5 n6) HSL.out)
    refine RegHead.cons (fun wr hR h => ?_) ?_
    · refine relAt.call (by kernel_rfl) (by kernel_rfl) ((hnodes.out wr (HT.out.below (Wr.below HL5.out.drew hR (by omega) (by omega)))).mono ?_)
      rintro e w6 ⟨rfl, hB6⟩
      exact ⟨_, rfl, Wr.of_low hB6, congrArg sumV HNS.out.symm⟩
    refine RegHead.cons (fun wr hR h => ?_) ?_
    · exact relAt.pure Wr.refl (by kernel_rfl) (by kernel_rfl)
    refine RegHead.cons (fun wr hR h => ?_) ?_
    · obtain ⟨cs, hcs, hs⟩ := hR.k1 ⟨_, HZ1.out, rfl⟩
      obtain ⟨w', hw', h1, g1⟩ := run_store_box wr (w.heap.size + 1) ndr cs hcs hs HNRL.out
      exact relAt.act (by kernel_rfl) (by kernel_rfl) hw' (Wr.one hne g1 h1 (by simp [HNRL.out])) h1
    refine RegHead.cons (fun wr hR h => ?_) ?_
    · obtain ⟨cs, hcs, hs⟩ := hR.k2 ⟨_, HZ2.out, rfl⟩
      obtain ⟨w', hw', h1, g1⟩ := run_store_box wr (w.heap.size + 1 + 1) nds cs hcs hs HNSL.out
      exact relAt.act (by kernel_rfl) (by kernel_rfl) hw' (Wr.two hne g1 h1 (by simp [HNSL.out])) h1
    exact trivial
  · have e30 : wr.heap[w.heap.size + 1]? = some (.cells (ndr.map V8).toArray 29 (0, 0)) := allOf_iff.1 h 7 (by decide)
    have e31 : wr.heap[w.heap.size + 1 + 1]? = some (.cells (nds.map V8).toArray 29 (0, 0)) := allOf_iff.1 h 8 (by decide)
    have hBl : Below w.heap.size w wr := Wr.below HL5.out.drew hR (by omega) (by omega)
    clear h hR
    refine wp_frame (new := [(sumV x), (sumV r), (sumV ndr), (sumV x), (sumV s), (sumV nds), (.bool bb : Value)]) 91 98 (by kernel_rfl) ?_
    simp only [List.take, List.drop, List.cons_append, List.nil_append]
    go_wp2
    refine bodyPost_ret (results_sum2_tmp rfl _ _ (w.heap.size + 1) (w.heap.size + 1 + 1) _ _ ndr nds 32 (0, 0) (0, 0) _ rfl rfl e30 e31 Tryd.underlying29 (by kernel_rfl) HNRL.out HNSL.out) rfl ⟨ndr, nds, _, rfl, HNRL.out, HNSL.out, ?_, hBl⟩
    rw [Hb.out, HMD.out, HNR.out, HNS.out]
    cases bb <;> rfl

theorem rroots_any (old : List UInt8) (a : Option Addr) (c : Nat) (ho : old.length = 32) : ∀ (N m n np : Nat) (p : List (List UInt8)) (whole : Bool) (w : World), n ≤ N → 0 < m → m ≤ n → n < 9223372036854775808 → np < 4611686018427387904 → Tabs w → Sums w a np c p →
    Calls Tryd.prog 54 #[.int .i64 m, .int .i64 n, sumV old, .slice a np c, .bool whole] w (RetBoth (Tree.both old m n whole p) w) := by
  intro N
  induction N with
  | zero => intro m n np p whole w hN hm hmn; omega
  | succ N ih =>
    intro m n np p whole w hN hm hmn hn hnp hT S
    by_cases he : m = n
    · subst he
      cases whole with
      | true => exact rroots_whole m old a np c p w ho hT S
      | false =>
        by_cases h1 : np = 1
        · subst h1
          obtain ⟨x, rfl⟩ := List.length_eq_one_iff.1 S.len.symm
          exact rroots_one m x old a c w ho hT S
        · exact rroots_part m old a np c p w ho hT S h1
    · have hkp := split_pos n
      have hkl := split_lt (show 1 < n by omega)
      cases np with
      | zero =>
        obtain rfl : p = [] := List.eq_nil_of_length_eq_zero S.len.symm
        exact rroots_zero m n whole old a c w ho hm (by omega)
      | succ u =>
        by_cases hmk : m ≤ split n
        · exact rroots_left m n u whole old a c p w hnp hm (by omega) hn hmk ho hT S fun w' hT' S' => ih m (split n) u _ whole w' (by omega) hm hmk (by omega) (by omega) hT' S'
        · exact rroots_right m n u whole old a c p w hnp hm (by omega) hn hmk ho hT S fun w' hT' S' => ih (m - split n) (n - split n) u _ false w' (by omega) (by omega) (by omega) (by omega) (by omega) hT' S'
end Go.Proofs.YtpdhgijeanbmcaaDoor

/- Rmade -/
namespace Go.Proofs.YtpdhgijeanbmcaaDoor
open Go.RowKit Go.Great

/-- A sum is stored into a variable that has just been made. -/
theorem wpList_store_new {ops : Array Oper} {rest : List Oper} {o : Oper} {a : Act} {W : World} {Q : Exit → Act → World → Prop} (hgd : o.guard = none) (x y : Operand) (ho : o.op = .store 29 x y) (k : Nat) (hx : a.eval x = .pointer (some ⟨k, 0, none⟩)) (s : List UInt8) (hy : a.eval y = sumV s) (old : Array Value) (hold : old.size = 32) (hk : k = W.heap.size) (hs : s.length = 32)
    (h : ∀ w', Low W w' → w'.heap[k]? = some (.cells (s.map V8).toArray 29 (0, 0)) → wpList Tryd.prog ops Q rest (a.put o.dst undef) w') : wpList Tryd.prog ops Q (o :: rest) a (W.alloc (.cells old 29)) := by
  subst hk
  exact wpList_store_row' hgd 29 x y ho W.heap.size (s.map V8).toArray hx hy _ _ (blk1 _ _) (size_sum s hs) (by simp [hs, hold]) (oneCells s) fun w' h1 h2 _ =>
    h w' ((low1 _ _).grown h2 (by simp) (fun k hk => by obtain rfl := Option.some.inj hk; exact Nat.le_refl _)) h1

theorem rnode_some (x y : List UInt8) (w : World) (hT : Tabs w) (hx : x.length = 32) (hy : y.length = 32) :
    Calls Tryd.prog 20 #[sumV x, sumV y] w fun e w' => ∃ s, s = Tree.node x y ∧ s.length = 32 ∧ e = .returned (sumV s) ∧ Below w.heap.size w w' :=
  (rnode_any x y w hT hx hy).mono fun _ _ ⟨h1, h2⟩ => ⟨_, rfl, rfl, h1, h2⟩

set_option maxRecDepth 100000 in
set_option maxHeartbeats 4000000 in
theorem rmade_one (i : Nat) (leaf : List UInt8) (a : Option Addr) (np c : Nat) (p : List (List UInt8)) (w : World) (hl : leaf.length = 32) (S : Sums w a np c p) :
    Calls Tryd.prog 52 #[.int .i64 1, .int .i64 i, sumV leaf, .slice a np c] w (RetMade (Tree.made 1 i leaf p) w) := by
  have Hl := Lib.hid hl
  have Hpl := Lib.hid S.len
  have HBk := Lib.hid (blk2 w (.cells (sumRow leaf) 29) (.cells (zeros8 32) 29))
  clear S hl
  go_enter Tryd.func52, Tryd.ntmps52
  go_wp2_with (first | (refine wpList_load_sum rfl 29 _ rfl w.heap.size rfl _ leaf 32 _ _ HBk.out.1 Tryd.underlying29 (by kernel_rfl) Hl.out ?_) | (refine wpList_store_sum rfl 29 _ _ rfl (w.heap.size + 1) leaf 32 rfl rfl _ _ HBk.out.2 (by kernel_rfl) Hl.out rfl ?_))
  refine bodyPost_ret (results_sum_tmp rfl _ _ (w.heap.size + 1) _ leaf 32 (0, 0) _ rfl (setRow_heap _ _ _ _ _ _ HBk.out.2) Tryd.underlying29 (by kernel_rfl) Hl.out) rfl ⟨leaf, _, rfl, Hl.out, ?_, ?_⟩
  · rw [Tree.made_one 1 i leaf p (by omega)]
    by_cases h : np = 0
    · have hp : p = [] := List.eq_nil_of_length_eq_zero (by rw [← Hpl.out]; exact h)
      subst h; simp [hp]
    · have hp : p ≠ [] := fun e => h (by rw [Hpl.out, e]; rfl)
      rw [if_neg hp, show ((np : Int) == 0) = false by simp; exact h]
      rfl
  · exact brow (low2 _ _ _) (by omega) _

set_option maxRecDepth 100000 in
set_option maxHeartbeats 4000000 in
theorem rmade_zero (n i : Nat) (leaf : List UInt8) (a : Option Addr) (c : Nat) (w : World) (hn : 1 < n) (hl : leaf.length = 32) :
    Calls Tryd.prog 52 #[.int .i64 n, .int .i64 i, sumV leaf, .slice a 0 c] w (RetMade (Tree.made n i leaf []) w) := by
  have Hl := Lib.hid hl
  have HBk := Lib.hid (blk2 w (.cells (sumRow leaf) 29) (.cells (zeros8 32) 29))
  have hn1 : ((n : Int) == 1) = false := by simp; omega
  have hn2 : ¬ (n : Int) = 1 := by omega
  clear hl
  go_enter Tryd.func52, Tryd.ntmps52
  go_wp2_with (first | (refine wpList_load_sum rfl 29 _ rfl w.heap.size rfl _ leaf 32 _ _ HBk.out.1 Tryd.underlying29 (by kernel_rfl) Hl.out ?_) | (refine wpList_store_sum rfl 29 _ _ rfl (w.heap.size + 1) leaf 32 rfl rfl _ _ HBk.out.2 (by kernel_rfl) Hl.out rfl ?_))
  refine bodyPost_ret (results_sum_tmp rfl _ _ (w.heap.size + 1) _ leaf 32 (0, 0) _ rfl (setRow_heap _ _ _ _ _ _ HBk.out.2) Tryd.underlying29 (by kernel_rfl) Hl.out) rfl ⟨leaf, _, rfl, Hl.out, ?_, ?_⟩
  · rw [Tree.made_zero n i leaf (by omega)]; rfl
  · exact brow (low2 _ _ _) (by omega) _

set_option maxRecDepth 100000 in
set_option maxHeartbeats 4000000 in
theorem rmade_left (n i u : Nat) (leaf : List UInt8) (a : Option Addr) (c : Nat) (p : List (List UInt8)) (w : World) (hup : u + 1 < 4611686018427387904) (hn1 : 1 < n) (hi : i < n) (hn63 : n < 9223372036854775808) (hik : i < split n) (hl : leaf.length = 32) (hT : Tabs w) (S : Sums w a (u + 1) c p)
    (ih : ∀ w', Tabs w' → Sums w' a u c (p.take u) → Calls Tryd.prog 52 #[.int .i64 (split n), .int .i64 i, sumV leaf, .slice a u c] w' (RetMade (Tree.made (split n) i leaf (p.take u)) w')) :
    Calls Tryd.prog 52 #[.int .i64 n, .int .i64 i, sumV leaf, .slice a (u + 1) c] w (RetMade (Tree.made n i leaf p) w) := by
  have Hl := Lib.hid hl
  have hpl := S.len
  have hup' : u < p.length := by omega
  have hkp := split_pos n
  have hkl := split_lt hn1
  have Hb := Lib.hid (Tree.made_left n i leaf p u hup' (by omega) hik)
  rw [List.take_of_length_le (show p.length ≤ u + 1 by omega)] at Hb
  have Hhalf := split_any n (by omega)
  obtain ⟨b, o, ha, hget⟩ := S.get
  obtain rfl := ha (by omega)
  have hx := hget u hup'
  have hxl := S.each p[u] (by simp)
  obtain ⟨x, hxe⟩ : ∃ x, x = p[u] := ⟨_, rfl⟩
  rw [← hxe] at hx hxl Hb
  generalize split n = k at *
  have Ih := Lib.hid ih
  have HT := Lib.hid hT
  have HS := Lib.hid (S.take u (by omega))
  clear ih
  have HX := Lib.hid hx
  have HXL := Lib.hid hxl
  have hcap := S.cap
  have e1 : ((u + 1 : Nat) : Int) - 1 = (u : Int) := by omega
  have hu9 : ((u : Int) + 1 == 0) = false := by simp; omega
  have hu8 : ¬ ((u : Int) + 1) = 0 := by omega
  have hn4 : ((n : Int) == 1) = false := by simp; omega
  have hn2 : ¬ (n : Int) = 1 := by omega
  have hunp : (u : Int) < (u : Int) + 1 := by omega
  have hik2 : (i : Int) < (k : Int) := by omega
  have hik3 : (i : Int) < (k : Int) := by omega
  have HBk := Lib.hid (blk2 w (.cells (sumRow leaf) 29) (.cells (zeros8 32) 29))
  have HLk := Lib.hid (low2 w (.cells (sumRow leaf) 29) (.cells (zeros8 32) 29))
  clear hx hxl hget ha S hxe hup' hpl hl hT
  go_enter Tryd.func52, Tryd.ntmps52
  go_wp2_with (first | (go_at_call 46; refine (Hhalf _).mono ?_; rintro e w1 ⟨rfl, rfl⟩) | (refine wpList_load_mid_sum rfl 29 _ rfl b (o + u * 32) rfl x 32 _ (range_low HX.out HLk.out) Tryd.underlying29 (by kernel_rfl) HXL.out ?_) | (refine wpList_store_new rfl _ _ rfl (w.heap.size + 1 + 1) rfl x rfl _ rfl (by simp) HXL.out ?_; intro w2 hL2 hb2; have hw2 := bthen HLk.out hL2; have HW2 := Lib.hid hw2; have HX2 := Lib.hid hb2; have HF2 := Lib.hid (bblk hL2 HBk.out.1); have HR2 := Lib.hid (bblk hL2 HBk.out.2); clear hL2 hb2 hw2) | (refine wpList_load_sum rfl 29 _ rfl w.heap.size rfl _ leaf 32 _ _ HF2.out Tryd.underlying29 (by kernel_rfl) Hl.out ?_) | (go_at_call 52; refine (Ih.out w2 (HT.out.below HW2.out) (HS.out.below HW2.out)).mono ?_; rintro e w3 ⟨r, bb, rfl, hrl, hmd, hB⟩; have HRL := Lib.hid hrl; have HMD := Lib.hid hmd; have HB3 := Lib.hid hB; clear hrl hmd hB) | (refine wpList_store_new rfl _ _ rfl w3.heap.size rfl r rfl _ rfl rfl HRL.out ?_; intro w4 hL4 hb4; have HL4 := Lib.hid hL4; have HR4 := Lib.hid hb4; clear hL4 hb4) | (refine wpList_load_sum rfl 29 _ rfl w3.heap.size rfl _ r 32 _ _ HR4.out Tryd.underlying29 (by kernel_rfl) HRL.out ?_) | (refine wpList_load_sum rfl 29 _ rfl (w.heap.size + 1 + 1) rfl _ x 32 _ _ (bblk HL4.out (bblk HB3.out HX2.out)) Tryd.underlying29 (by kernel_rfl) HXL.out ?_) | (go_at_call 20; refine (rnode_some r x w4 (HT.out.below (bthen (bthen HW2.out HB3.out) HL4.out)) HRL.out HXL.out).mono ?_; rintro e w5 ⟨s, hs, hsl, rfl, hB⟩; have HS5 := Lib.hid hs; have HSL := Lib.hid hsl; have HB5 := Lib.hid hB; clear hs hsl hB) | (refine wpList_store_sum rfl 29 _ _ rfl (w.heap.size + 1) s 32 rfl rfl _ _ (bblk HB5.out (bblk HL4.out (bblk HB3.out HR2.out))) (by kernel_rfl) HSL.out rfl ?_))
  refine bodyPost_ret (results_sum_tmp rfl _ _ (w.heap.size + 1) _ s 32 (0, 0) _ rfl (setRow_heap _ _ _ _ _ _ (bblk HB5.out (bblk HL4.out (bblk HB3.out HR2.out)))) Tryd.underlying29 (by kernel_rfl) HSL.out) rfl ⟨s, _, rfl, HSL.out, ?_, ?_⟩
  · rw [Hb.out, HMD.out, HS5.out]
    cases bb <;> rfl
  · exact brow (bthen (bthen (bthen HW2.out HB3.out) HL4.out) HB5.out) (by omega) _

set_option maxRecDepth 100000 in
set_option maxHeartbeats 4000000 in
theorem rmade_right (n i u : Nat) (leaf : List UInt8) (a : Option Addr) (c : Nat) (p : List (List UInt8)) (w : World) (hup : u + 1 < 4611686018427387904) (hn1 : 1 < n) (hi : i < n) (hn63 : n < 9223372036854775808) (hik : ¬ i < split n) (hl : leaf.length = 32) (hT : Tabs w) (S : Sums w a (u + 1) c p)
    (ih : ∀ w', Tabs w' → Sums w' a u c (p.take u) → Calls Tryd.prog 52 #[.int .i64 (n - split n : Nat), .int .i64 (i - split n : Nat), sumV leaf, .slice a u c] w' (RetMade (Tree.made (n - split n) (i - split n) leaf (p.take u)) w')) :
    Calls Tryd.prog 52 #[.int .i64 n, .int .i64 i, sumV leaf, .slice a (u + 1) c] w (RetMade (Tree.made n i leaf p) w) := by
  have Hl := Lib.hid hl
  have hpl := S.len
  have hup' : u < p.length := by omega
  have hkp := split_pos n
  have hkl := split_lt hn1
  have Hb := Lib.hid (Tree.made_right n i leaf p u hup' (by omega) hik)
  rw [List.take_of_length_le (show p.length ≤ u + 1 by omega)] at Hb
  have Hhalf := split_any n (by omega)
  obtain ⟨b, o, ha, hget⟩ := S.get
  obtain rfl := ha (by omega)
  have hx := hget u hup'
  have hxl := S.each p[u] (by simp)
  obtain ⟨x, hxe⟩ : ∃ x, x = p[u] := ⟨_, rfl⟩
  rw [← hxe] at hx hxl Hb
  generalize split n = k at *
  rw [show ((n - k : Nat) : Int) = (n : Int) - (k : Int) by omega, show ((i - k : Nat) : Int) = (i : Int) - (k : Int) by omega] at ih
  have Ih := Lib.hid ih
  have HT := Lib.hid hT
  have HS := Lib.hid (S.take u (by omega))
  clear ih
  have HX := Lib.hid hx
  have HXL := Lib.hid hxl
  have hcap := S.cap
  have e1 : ((u + 1 : Nat) : Int) - 1 = (u : Int) := by omega
  have hu9 : ((u : Int) + 1 == 0) = false := by simp; omega
  have hu8 : ¬ ((u : Int) + 1) = 0 := by omega
  have hn4 : ((n : Int) == 1) = false := by simp; omega
  have hn2 : ¬ (n : Int) = 1 := by omega
  have hunp : (u : Int) < (u : Int) + 1 := by omega
  have hik2 : ¬ (i : Int) < (k : Int) := by omega
  have hik3 : (k : Int) ≤ (i : Int) := by omega
  have HBk := Lib.hid (blk2 w (.cells (sumRow leaf) 29) (.cells (zeros8 32) 29))
  have HLk := Lib.hid (low2 w (.cells (sumRow leaf) 29) (.cells (zeros8 32) 29))
  clear hx hxl hget ha S hxe hup' hpl hl hT
  go_enter Tryd.func52, Tryd.ntmps52
  go_wp2_with (first | (go_at_call 46; refine (Hhalf _).mono ?_; rintro e w1 ⟨rfl, rfl⟩) | (refine wpList_load_mid_sum rfl 29 _ rfl b (o + u * 32) rfl x 32 _ (range_low HX.out HLk.out) Tryd.underlying29 (by kernel_rfl) HXL.out ?_) | (refine wpList_store_new rfl _ _ rfl (w.heap.size + 1 + 1) rfl x rfl _ rfl (by simp) HXL.out ?_; intro w2 hL2 hb2; have hw2 := bthen HLk.out hL2; have HW2 := Lib.hid hw2; have HX2 := Lib.hid hb2; have HF2 := Lib.hid (bblk hL2 HBk.out.1); have HR2 := Lib.hid (bblk hL2 HBk.out.2); clear hL2 hb2 hw2) | (refine wpList_load_sum rfl 29 _ rfl w.heap.size rfl _ leaf 32 _ _ HF2.out Tryd.underlying29 (by kernel_rfl) Hl.out ?_) | (go_at_call 52; refine (Ih.out w2 (HT.out.below HW2.out) (HS.out.below HW2.out)).mono ?_; rintro e w3 ⟨r, bb, rfl, hrl, hmd, hB⟩; have HRL := Lib.hid hrl; have HMD := Lib.hid hmd; have HB3 := Lib.hid hB; clear hrl hmd hB) | (refine wpList_store_new rfl _ _ rfl w3.heap.size rfl r rfl _ rfl rfl HRL.out ?_; intro w4 hL4 hb4; have HL4 := Lib.hid hL4; have HR4 := Lib.hid hb4; clear hL4 hb4) | (refine wpList_load_sum rfl 29 _ rfl w3.heap.size rfl _ r 32 _ _ HR4.out Tryd.underlying29 (by kernel_rfl) HRL.out ?_) | (refine wpList_load_sum rfl 29 _ rfl (w.heap.size + 1 + 1) rfl _ x 32 _ _ (bblk HL4.out (bblk HB3.out HX2.out)) Tryd.underlying29 (by kernel_rfl) HXL.out ?_) | (go_at_call 20; refine (rnode_some x r w4 (HT.out.below (bthen (bthen HW2.out HB3.out) HL4.out)) HXL.out HRL.out).mono ?_; rintro e w5 ⟨s, hs, hsl, rfl, hB⟩; have HS5 := Lib.hid hs; have HSL := Lib.hid hsl; have HB5 := Lib.hid hB; clear hs hsl hB) | (refine wpList_store_sum rfl 29 _ _ rfl (w.heap.size + 1) s 32 rfl rfl _ _ (bblk HB5.out (bblk HL4.out (bblk HB3.out HR2.out))) (by kernel_rfl) HSL.out rfl ?_))
  refine bodyPost_ret (results_sum_tmp rfl _ _ (w.heap.size + 1) _ s 32 (0, 0) _ rfl (setRow_heap _ _ _ _ _ _ (bblk HB5.out (bblk HL4.out (bblk HB3.out HR2.out)))) Tryd.underlying29 (by kernel_rfl) HSL.out) rfl ⟨s, _, rfl, HSL.out, ?_, ?_⟩
  · rw [Hb.out, HMD.out, HS5.out]
    cases bb <;> rfl
  · exact brow (bthen (bthen (bthen HW2.out HB3.out) HL4.out) HB5.out) (by omega) _

theorem rmade_any (leaf : List UInt8) (a : Option Addr) (c : Nat) (hl : leaf.length = 32) : ∀ (np : Nat) (p : List (List UInt8)) (n i : Nat) (w : World), np < 4611686018427387904 → 0 < n → n < 9223372036854775808 → i < n → Tabs w → Sums w a np c p →
    Calls Tryd.prog 52 #[.int .i64 n, .int .i64 i, sumV leaf, .slice a np c] w (RetMade (Tree.made n i leaf p) w) := by
  intro np
  induction np with
  | zero =>
    intro p n i w hnp hn hn63 hi hT S
    by_cases h1 : n = 1
    · subst h1; exact rmade_one i leaf a 0 c p w hl S
    · obtain rfl : p = [] := List.eq_nil_of_length_eq_zero S.len.symm
      exact rmade_zero n i leaf a c w (by omega) hl
  | succ u ih =>
    intro p n i w hnp hn hn63 hi hT S
    by_cases h1 : n = 1
    · subst h1; exact rmade_one i leaf a (u + 1) c p w hl S
    · have hkp := split_pos n
      have hkl := split_lt (show 1 < n by omega)
      by_cases hik : i < split n
      · exact rmade_left n i u leaf a c p w hnp (by omega) hi hn63 hik hl hT S fun w' hT' S' => ih _ (split n) i w' (by omega) hkp (by omega) hik hT' S'
      · exact rmade_right n i u leaf a c p w hnp (by omega) hi hn63 hik hl hT S fun w' hT' S' => ih _ (n - split n) (i - split n) w' (by omega) (by omega) (by omega) (by omega) hT' S'

set_option maxRecDepth 100000 in
set_option maxHeartbeats 4000000 in
theorem rholds_any (root leaf : List UInt8) (n i : Nat) (a : Option Addr) (np c : Nat) (p : List (List UInt8)) (w : World) (hi : i < n) (hn : n < 9223372036854775808) (hnp : np < 4611686018427387904) (hr : root.length = 32) (hl : leaf.length = 32) (hT : Tabs w) (S : Sums w a np c p) :
    Calls Tryd.prog 31 #[sumV root, .int .i64 n, .int .i64 i, sumV leaf, .slice a np c] w fun e w' => e = .returned (.bool (Tree.holds root n i leaf p)) ∧ Below w.heap.size w w' := by
  have HLk := Lib.hid (low2 w (.cells (sumRow root) 29) (.cells (sumRow leaf) 29))
  have HBk := Lib.hid (blk2 w (.cells (sumRow root) 29) (.cells (sumRow leaf) 29))
  have Hin := Lib.hid (rmade_any leaf a c hl np p n i ((w.alloc (.cells (sumRow root) 29)).alloc (.cells (sumRow leaf) 29)) hnp (by omega) hn hi (hT.below HLk.out) (S.below HLk.out))
  have Hll := Lib.hid hl
  have HRR := Lib.hid hr
  have hi1 : ¬ (i : Int) < 0 := by omega
  have hi2 : ¬ (n : Int) ≤ (i : Int) := by omega
  have hi3 : (i : Int) < (n : Int) := by omega
  have hi4 : (0 : Int) ≤ (i : Int) := by omega
  have hel : ∀ (r : List UInt8), r.length = 32 → ∀ W, (binOp .eql 29 (sumV r) (sumV root)).run Tryd.prog W = .ok (.bool (r == root)) W := fun r h W => eql_sumV r root W h HRR.out
  have Hel := Lib.hid hel
  clear S hl hr hel
  go_enter Tryd.func31, Tryd.ntmps31
  go_wp2_with (first | (refine wpList_load_sum rfl 29 _ rfl (w.heap.size + 1) rfl _ leaf 32 _ _ HBk.out.2 Tryd.underlying29 (by kernel_rfl) Hll.out ?_) | (go_at_call 52; refine Hin.out.mono ?_; rintro e w3 ⟨r, bb, rfl, hrl, hmd, hB⟩; have HRL := Lib.hid hrl; have HMD := Lib.hid hmd; have HB3 := Lib.hid hB; clear hrl hmd hB; cases bb) | (refine wpList_store_new rfl _ _ rfl w3.heap.size rfl r rfl _ rfl rfl HRL.out ?_; intro w4 hL4 hb4; have HL4 := Lib.hid hL4; have HR4 := Lib.hid hb4; have hel := Hel.out r HRL.out; clear hL4 hb4) | (refine wpList_guarded rfl ?_; refine wpList_load_sum rfl 29 _ rfl w3.heap.size rfl _ r 32 _ _ HR4.out Tryd.underlying29 (by kernel_rfl) HRL.out ?_) | (refine wpList_guarded rfl ?_; refine wpList_load_sum rfl 29 _ rfl w.heap.size rfl _ root 32 _ _ (bblk HL4.out (bblk HB3.out HBk.out.1)) Tryd.underlying29 (by kernel_rfl) HRR.out ?_))
  · go_ret
    refine ⟨?_, bthen (bthen HLk.out HB3.out) HL4.out⟩
    have : Tree.holds root n i leaf p = false := by unfold Tree.holds; rw [HMD.out]; rfl
    rw [this]; try rfl
  · go_ret
    refine ⟨?_, bthen (bthen HLk.out HB3.out) HL4.out⟩
    have : Tree.holds root n i leaf p = (r == root) := by unfold Tree.holds; rw [HMD.out]; rfl
    rw [this]; try rfl

set_option maxRecDepth 100000 in
set_option maxHeartbeats 4000000 in
theorem rholds_bad (root leaf : List UInt8) (n i : Int) (a : Option Addr) (np c : Nat) (w : World) (hi : i < 0 ∨ n ≤ i) :
    Calls Tryd.prog 31 #[sumV root, .int .i64 n, .int .i64 i, sumV leaf, .slice a np c] w fun e w' => e = .returned (.bool false) ∧ Below w.heap.size w w' := by
  by_cases h0 : i < 0
  · go_enter Tryd.func31, Tryd.ntmps31
    go_wp2
    go_ret
    exact ⟨rfl, low2 _ _ _⟩
  · have hi : n ≤ i := by omega
    go_enter Tryd.func31, Tryd.ntmps31
    go_wp2
    go_ret
    exact ⟨rfl, low2 _ _ _⟩

set_option maxRecDepth 100000 in
set_option maxHeartbeats 4000000 in
theorem rextends_any (root old : List UInt8) (m n : Nat) (a : Option Addr) (np c : Nat) (p : List (List UInt8)) (w : World) (hm : 0 < m) (hmn : m ≤ n) (hn : n < 9223372036854775808) (hnp : np < 4611686018427387904) (hr : root.length = 32) (ho : old.length = 32) (hT : Tabs w) (S : Sums w a np c p) :
    Calls Tryd.prog 33 #[.int .i64 m, sumV old, .int .i64 n, sumV root, .slice a np c] w fun e w' => e = .returned (.bool (Tree.extends_ m old n root p)) ∧ Below w.heap.size w w' := by
  have HLk := Lib.hid (low2 w (.cells (sumRow old) 29) (.cells (sumRow root) 29))
  have HBk := Lib.hid (blk2 w (.cells (sumRow old) 29) (.cells (sumRow root) 29))
  have Hin := Lib.hid (rroots_any old a c ho n m n np p true ((w.alloc (.cells (sumRow old) 29)).alloc (.cells (sumRow root) 29)) (Nat.le_refl _) hm hmn hn hnp (hT.below HLk.out) (S.below HLk.out))
  have HOO := Lib.hid ho
  have HRR := Lib.hid hr
  have hi1 : ¬ (m : Int) < 1 := by omega
  have hi2 : ¬ (n : Int) < (m : Int) := by omega
  have hel1 : ∀ (r : List UInt8), r.length = 32 → ∀ W, (binOp .eql 29 (sumV r) (sumV old)).run Tryd.prog W = .ok (.bool (r == old)) W := fun r h W => eql_sumV r old W h HOO.out
  have hel2 : ∀ (r : List UInt8), r.length = 32 → ∀ W, (binOp .eql 29 (sumV r) (sumV root)).run Tryd.prog W = .ok (.bool (r == root)) W := fun r h W => eql_sumV r root W h HRR.out
  have Hel1 := Lib.hid hel1
  have Hel2 := Lib.hid hel2
  clear S ho hr hel1 hel2
  go_enter Tryd.func33, Tryd.ntmps33
  go_wp2_with (first | (refine wpList_load_sum rfl 29 _ rfl w.heap.size rfl _ old 32 _ _ HBk.out.1 Tryd.underlying29 (by kernel_rfl) HOO.out ?_) | (go_at_call 54; refine Hin.out.mono ?_; rintro e w3 ⟨r, s, bb, rfl, hrl, hsl, hmd, hB⟩; have HRL := Lib.hid hrl; have HSL := Lib.hid hsl; have HMD := Lib.hid hmd; have HB3 := Lib.hid hB; clear hrl hsl hmd hB; cases bb <;> cases hq : (r == old)) | (refine wpList_store_row' rfl 29 _ _ rfl (w3.heap.size + 1) (s.map V8).toArray rfl rfl _ _ (at_4 H4.out G4.out) (size_sum s HSL.out) (by simp [HSL.out]) (oneCells s) ?_; intro w5 h5 g5 s5; have h54 := keep54 g5 H4.out; have hk5 := keep5 G4.out g5; have H5 := Lib.hid h5; have G5 := Lib.hid g5; have H54 := Lib.hid h54; have hel1 := Hel1.out r HRL.out; have hel2 := Hel2.out s HSL.out; have HK5 := Lib.hid hk5; clear h5 g5 s5 h54 hk5) | (refine wpList_store_row' rfl 29 _ _ rfl w3.heap.size (r.map V8).toArray rfl rfl _ _ (blk2 _ _ _).1 (size_sum r HRL.out) (by simp [HRL.out]) (oneCells r) ?_; intro w4 h4 g4 s4; have H4 := Lib.hid h4; have G4 := Lib.hid g4; clear h4 g4 s4) | (refine wpList_guarded rfl ?_; refine wpList_load_sum rfl 29 _ rfl w3.heap.size rfl _ r 32 _ _ H54.out Tryd.underlying29 (by kernel_rfl) HRL.out ?_) | (refine wpList_guarded rfl ?_; refine wpList_load_sum rfl 29 _ rfl w.heap.size rfl _ old 32 _ _ (HK5.out _ _ (in_heap (bblk HB3.out HBk.out.1)) (bblk HB3.out HBk.out.1)) Tryd.underlying29 (by kernel_rfl) HOO.out ?_) | (refine wpList_guarded rfl ?_; refine wpList_load_sum rfl 29 _ rfl (w3.heap.size + 1) rfl _ s 32 _ _ H5.out Tryd.underlying29 (by kernel_rfl) HSL.out ?_) | (refine wpList_guarded rfl ?_; refine wpList_load_sum rfl 29 _ rfl (w.heap.size + 1) rfl _ root 32 _ _ (HK5.out _ _ (in_heap (bblk HB3.out HBk.out.2)) (bblk HB3.out HBk.out.2)) Tryd.underlying29 (by kernel_rfl) HRR.out ?_))
  all_goals
    go_ret
    refine ⟨?_, low5' HLk.out HB3.out G4.out G5.out⟩
  · have : Tree.extends_ m old n root p = false := by unfold Tree.extends_; rw [HMD.out]; rfl
    rw [this]; try rfl
  · have : Tree.extends_ m old n root p = false := by unfold Tree.extends_; rw [HMD.out]; rfl
    rw [this]; try rfl
  · have : Tree.extends_ m old n root p = false := by unfold Tree.extends_; rw [HMD.out]; simp [hq]
    rw [this]; try rfl
  · have : Tree.extends_ m old n root p = (s == root) := by unfold Tree.extends_; rw [HMD.out]; simp [hq]
    rw [this]; try rfl

set_option maxRecDepth 100000 in
set_option maxHeartbeats 4000000 in
theorem rextends_bad (root old : List UInt8) (m n : Int) (a : Option Addr) (np c : Nat) (w : World) (hi : m < 1 ∨ n < m) :
    Calls Tryd.prog 33 #[.int .i64 m, sumV old, .int .i64 n, sumV root, .slice a np c] w fun e w' => e = .returned (.bool false) ∧ Below w.heap.size w w' := by
  by_cases h0 : m < 1
  · go_enter Tryd.func33, Tryd.ntmps33
    go_wp2
    go_ret
    exact ⟨rfl, low2 _ _ _⟩
  · have hi : n < m := by omega
    go_enter Tryd.func33, Tryd.ntmps33
    go_wp2
    go_ret
    exact ⟨rfl, low2 _ _ _⟩

set_option maxRecDepth 100000 in
set_option maxHeartbeats 4000000 in
theorem extends_bad (root old : List UInt8) (m n : Int) (a : Option Addr) (np c : Nat) (w : World) (hi : m < 1 ∨ n < m) :
    Calls Tryd.prog 32 #[.int .i64 m, sumV old, .int .i64 n, sumV root, .slice a np c] w fun e w' => e = .returned (.bool false) ∧ Below w.heap.size w w' := by
  by_cases h0 : m < 1
  · go_enter Tryd.func32, Tryd.ntmps32
    go_wp2
    go_ret
    exact ⟨rfl, low3 _ _ _ _⟩
  · have hi : n < m := by omega
    go_enter Tryd.func32, Tryd.ntmps32
    go_wp2
    go_ret
    exact ⟨rfl, low3 _ _ _ _⟩
end Go.Proofs.YtpdhgijeanbmcaaDoor

/- Ext3 -/
namespace Go.Proofs.YtpdhgijeanbmcaaDoor
open Go.RowKit Go.Great

set_option maxRecDepth 100000 in
set_option maxHeartbeats 4000000 in
theorem extin_part (m u : Nat) (ob pb g : Nat) (old : List UInt8) (a : Option Addr) (np c : Nat) (p : List (List UInt8)) (w : World) (E : ExtEnv w ob pb g old a np c p) (hu : u ≤ np) (hu1 : u ≠ 1) :
    Calls Tryd.prog 53 #[.int .i64 m, .int .i64 m, .int .i64 u, .bool false, .pointer (some ⟨ob, 0, none⟩), .pointer (some ⟨pb, 0, none⟩), .pointer (some ⟨g, 0, none⟩)] w (RetBoth (Tree.both old m m false (p.take u)) w) := by
  have E' := Lib.hid E
  have Hl := Lib.hid E.len
  obtain ⟨t, fr, hlf⟩ := E.oldAt
  have HLF := Lib.hid hlf
  have hpl := E.sums.len
  have Hpl := Lib.hid hpl
  have hu2 : ((u : Int) != 1) = true := by simp; omega
  have hu3 : ¬ (u : Int) = 1 := by omega
  clear E hlf hpl
  go_enter Tryd.func53, Tryd.ntmps53
  go_wp2_with fail
  have HBk := Lib.hid (blk2 w (.cells (zeros8 32) 29) (.cells (zeros8 32) 29))
  have hne : w.heap.size ≠ w.heap.size + 1 := by omega
  have HLk := Lib.hid (low2 w (.cells (zeros8 32) 29) (.cells (zeros8 32) 29)).drew
  have hold : ∀ wr, WrS w.heap.size (w.heap.size + 1) old old ((w.alloc (.cells (zeros8 32) 29)).alloc (.cells (zeros8 32) 29)).drew wr → wr.heap[ob]? = some (.cells (old.map V8).toArray t fr) := fun wr hR =>
    (hR.keep ob (by have := in_heap HLF.out; show ob < ((w.alloc _).alloc _).heap.size; simp; omega) (Nat.ne_of_lt (in_heap HLF.out)) (by have := in_heap HLF.out; omega)).trans (at_old _ (at_old _ HLF.out))
  refine wp_region_reg 4 91 (WrS (w.heap.size) (w.heap.size + 1) old old) (by kernel_rfl) (by kernel_rfl) (by kernel_rfl) (by kernel_rfl) (by kernel_rfl) (Wr.refl) (Wr.trans) [.is (sumV old), .is (sumV old), yFin1, yFin2] rfl (fun vs => ?_) (fun vs wr hR h => ?_)
  · refine RegHead.cons (fun wr hR h => ?_) ?_
    · exact relAt.pureS Wr.refl (by kernel_rfl) (by kernel_rfl) (run_load_box_sum wr ob t fr old (hold wr hR) Hl.out)
    refine RegHead.cons (fun wr hR h => ?_) ?_
    · exact relAt.pureS Wr.refl (by kernel_rfl) (by kernel_rfl) (run_load_box_sum wr ob t fr old (hold wr hR) Hl.out)
    refine RegHead.cons (fun wr hR h => ?_) ?_
    · obtain ⟨cs, hcs, hs⟩ := hR.k1 ⟨_, HBk.out.1, rfl⟩
      obtain ⟨w', hw', h1, g1⟩ := run_store_box wr (w.heap.size) old cs hcs hs Hl.out
      exact relAt.act (by kernel_rfl) (by kernel_rfl) hw' (Wr.one hne g1 h1 (by simp [Hl.out])) h1
    refine RegHead.cons (fun wr hR h => ?_) ?_
    · obtain ⟨cs, hcs, hs⟩ := hR.k2 ⟨_, HBk.out.2, rfl⟩
      obtain ⟨w', hw', h1, g1⟩ := run_store_box wr (w.heap.size + 1) old cs hcs hs Hl.out
      exact relAt.act (by kernel_rfl) (by kernel_rfl) hw' (Wr.two hne g1 h1 (by simp [Hl.out])) h1
    exact trivial
  · have e30 : wr.heap[w.heap.size]? = some (.cells (old.map V8).toArray 29 (0, 0)) := allOf_iff.1 h 2 (by decide)
    have e31 : wr.heap[w.heap.size + 1]? = some (.cells (old.map V8).toArray 29 (0, 0)) := allOf_iff.1 h 3 (by decide)
    have hBl : Below w.heap.size w wr := Wr.below HLk.out hR (Nat.le_refl _) (by omega)
    clear h hR
    refine wp_frame (new := [(sumV old), (sumV old)]) 32 34 (by kernel_rfl) ?_
    simp only [List.take, List.drop, List.cons_append, List.nil_append]
    go_wp2
    refine bodyPost_ret (results_sum2_tmp rfl _ _ (w.heap.size) (w.heap.size + 1) _ _ old old 32 (0, 0) (0, 0) _ rfl rfl e30 e31 Tryd.underlying29 (by kernel_rfl) Hl.out Hl.out) rfl ⟨old, old, _, rfl, Hl.out, Hl.out, ?_, hBl⟩
    rw [Tree.both_part old m (p.take u) (by simp; have := Hpl.out; omega)]
    rfl

set_option maxRecDepth 100000 in
set_option maxHeartbeats 4000000 in
theorem extin_one (m : Nat) (ob pb g : Nat) (old : List UInt8) (a : Option Addr) (np c : Nat) (p : List (List UInt8)) (w : World) (E : ExtEnv w ob pb g old a np c p) (hu : 1 ≤ np) :
    Calls Tryd.prog 53 #[.int .i64 m, .int .i64 m, .int .i64 1, .bool false, .pointer (some ⟨ob, 0, none⟩), .pointer (some ⟨pb, 0, none⟩), .pointer (some ⟨g, 0, none⟩)] w (RetBoth (Tree.both old m m false (p.take 1)) w) := by
  have E' := Lib.hid E
  obtain ⟨b, o, ha, hget⟩ := E.sums.get
  obtain rfl := ha (by omega)
  have hpl := E.sums.len
  obtain ⟨x, p', rfl⟩ : ∃ x p', p = x :: p' := by
    cases p with
    | nil => simp at hpl; omega
    | cons x p' => exact ⟨x, p', rfl⟩
  have hx := hget 0 (by simp)
  rw [show (x :: p')[0] = x from rfl] at hx
  have HX := Lib.hid hx
  have HXL := Lib.hid (E.sums.each x (by simp))
  have hcap := E.sums.cap
  have hPA := Lib.hid E.pathAt
  clear E hget ha hx hpl
  go_enter Tryd.func53, Tryd.ntmps53
  go_wp2_with fail
  have HBk := Lib.hid (blk2 w (.cells (zeros8 32) 29) (.cells (zeros8 32) 29))
  have hne : w.heap.size ≠ w.heap.size + 1 := by omega
  have HLk := Lib.hid (low2 w (.cells (zeros8 32) 29) (.cells (zeros8 32) 29)).drew
  have hpa : ∀ wr, WrS w.heap.size (w.heap.size + 1) x x ((w.alloc (.cells (zeros8 32) 29)).alloc (.cells (zeros8 32) 29)).drew wr → wr.cell? ⟨pb, 0, none⟩ = some (.slice (some ⟨b, o, none⟩) np c) ∧ wr.rangeAt b (o + 0 * 32) (x.map V8) := fun wr hR => by
    have hl : Below w.heap.size w wr := Wr.below HLk.out hR (Nat.le_refl _) (by omega)
    exact ⟨(hl.cell (p := ⟨pb, 0, none⟩) (World.block_lt_of_cell? w _ hPA.out)).trans hPA.out, range_low HX.out hl⟩
  refine wp_region_reg 8 91 (WrS (w.heap.size) (w.heap.size + 1) x x) (by kernel_rfl) (by kernel_rfl) (by kernel_rfl) (by kernel_rfl) (by kernel_rfl) (Wr.refl) (Wr.trans) [.is ((.slice (some ⟨b, o, none⟩) np c : Value)), .is ((.pointer (some ⟨b, o + 0 * 32, none⟩) : Value)), .is (sumV x), .is ((.slice (some ⟨b, o, none⟩) np c : Value)), .is ((.pointer (some ⟨b, o + 0 * 32, none⟩) : Value)), .is (sumV x), yFin1, yFin2] rfl (fun vs => ?_) (fun vs wr hR h => ?_)
  · refine RegHead.cons (fun wr hR h => ?_) ?_
    · exact relAt.pureS Wr.refl (by kernel_rfl) (by kernel_rfl) (run_load_cell wr pb _ (hpa wr hR).1 rfl)
    refine RegHead.cons (fun wr hR h => ?_) ?_
    · exact relAt.pureS Wr.refl (by kernel_rfl) (by kernel_rfl) (run_sums_index wr b o np c 0 (by omega))
    refine RegHead.cons (fun wr hR h => ?_) ?_
    · exact relAt.pureS Wr.refl (by kernel_rfl) (by kernel_rfl) (run_load_at_sum wr b (o + 0 * 32) x (hpa wr hR).2 HXL.out)
    refine RegHead.cons (fun wr hR h => ?_) ?_
    · exact relAt.pureS Wr.refl (by kernel_rfl) (by kernel_rfl) (run_load_cell wr pb _ (hpa wr hR).1 rfl)
    refine RegHead.cons (fun wr hR h => ?_) ?_
    · exact relAt.pureS Wr.refl (by kernel_rfl) (by kernel_rfl) (run_sums_index wr b o np c 0 (by omega))
    refine RegHead.cons (fun wr hR h => ?_) ?_
    · exact relAt.pureS Wr.refl (by kernel_rfl) (by kernel_rfl) (run_load_at_sum wr b (o + 0 * 32) x (hpa wr hR).2 HXL.out)
    refine RegHead.cons (fun wr hR h => ?_) ?_
    · obtain ⟨cs, hcs, hs⟩ := hR.k1 ⟨_, HBk.out.1, rfl⟩
      obtain ⟨w', hw', h1, g1⟩ := run_store_box wr (w.heap.size) x cs hcs hs HXL.out
      exact relAt.act (by kernel_rfl) (by kernel_rfl) hw' (Wr.one hne g1 h1 (by simp [HXL.out])) h1
    refine RegHead.cons (fun wr hR h => ?_) ?_
    · obtain ⟨cs, hcs, hs⟩ := hR.k2 ⟨_, HBk.out.2, rfl⟩
      obtain ⟨w', hw', h1, g1⟩ := run_store_box wr (w.heap.size + 1) x cs hcs hs HXL.out
      exact relAt.act (by kernel_rfl) (by kernel_rfl) hw' (Wr.two hne g1 h1 (by simp [HXL.out])) h1
    exact trivial
  · have e30 : wr.heap[w.heap.size]? = some (.cells (x.map V8).toArray 29 (0, 0)) := allOf_iff.1 h 6 (by decide)
    have e31 : wr.heap[w.heap.size + 1]? = some (.cells (x.map V8).toArray 29 (0, 0)) := allOf_iff.1 h 7 (by decide)
    have hBl : Below w.heap.size w wr := Wr.below HLk.out hR (Nat.le_refl _) (by omega)
    clear h hR
    refine wp_frame (new := [((.slice (some ⟨b, o, none⟩) np c : Value)), ((.pointer (some ⟨b, o + 0 * 32, none⟩) : Value)), (sumV x), ((.slice (some ⟨b, o, none⟩) np c : Value)), ((.pointer (some ⟨b, o + 0 * 32, none⟩) : Value)), (sumV x)]) 34 40 (by kernel_rfl) ?_
    simp only [List.take, List.drop, List.cons_append, List.nil_append]
    go_wp2
    refine bodyPost_ret (results_sum2_tmp rfl _ _ (w.heap.size) (w.heap.size + 1) _ _ x x 32 (0, 0) (0, 0) _ rfl rfl e30 e31 Tryd.underlying29 (by kernel_rfl) HXL.out HXL.out) rfl ⟨x, x, _, rfl, HXL.out, HXL.out, ?_, hBl⟩
    rw [show (x :: p').take 1 = [x] from rfl, Tree.both_one]
    rfl

set_option maxRecDepth 100000 in
set_option maxHeartbeats 4000000 in
theorem extin_zero (m n : Nat) (whole : Bool) (ob pb g : Nat) (old : List UInt8) (a : Option Addr) (np c : Nat) (p : List (List UInt8)) (w : World) (E : ExtEnv w ob pb g old a np c p) (hm : 0 < m) (hmn : m < n) :
    Calls Tryd.prog 53 #[.int .i64 m, .int .i64 n, .int .i64 0, .bool whole, .pointer (some ⟨ob, 0, none⟩), .pointer (some ⟨pb, 0, none⟩), .pointer (some ⟨g, 0, none⟩)] w (RetBoth (Tree.both old m n whole (p.take 0)) w) := by
  have E' := Lib.hid E
  have Hl := Lib.hid E.len
  obtain ⟨t, fr, hlf⟩ := E.oldAt
  have HLF := Lib.hid hlf
  have hpl := E.sums.len
  have Hpl := Lib.hid hpl
  have hn1 : ((m : Int) == (n : Int)) = false := by simp; omega
  have hn2 : ¬ (m : Int) = (n : Int) := by omega
  clear E hlf hpl
  go_enter Tryd.func53, Tryd.ntmps53
  go_wp2_with fail
  have HBk := Lib.hid (blk2 w (.cells (zeros8 32) 29) (.cells (zeros8 32) 29))
  have hne : w.heap.size ≠ w.heap.size + 1 := by omega
  have HLk := Lib.hid (low2 w (.cells (zeros8 32) 29) (.cells (zeros8 32) 29)).drew
  have hold : ∀ wr, WrS w.heap.size (w.heap.size + 1) old old ((w.alloc (.cells (zeros8 32) 29)).alloc (.cells (zeros8 32) 29)).drew wr → wr.heap[ob]? = some (.cells (old.map V8).toArray t fr) := fun wr hR =>
    (hR.keep ob (by have := in_heap HLF.out; show ob < ((w.alloc _).alloc _).heap.size; simp; omega) (Nat.ne_of_lt (in_heap HLF.out)) (by have := in_heap HLF.out; omega)).trans (at_old _ (at_old _ HLF.out))
  refine wp_region_reg 4 91 (WrS (w.heap.size) (w.heap.size + 1) old old) (by kernel_rfl) (by kernel_rfl) (by kernel_rfl) (by kernel_rfl) (by kernel_rfl) (Wr.refl) (Wr.trans) [.is (sumV old), .is (sumV old), yFin1, yFin2] rfl (fun vs => ?_) (fun vs wr hR h => ?_)
  · refine RegHead.cons (fun wr hR h => ?_) ?_
    · exact relAt.pureS Wr.refl (by kernel_rfl) (by kernel_rfl) (run_load_box_sum wr ob t fr old (hold wr hR) Hl.out)
    refine RegHead.cons (fun wr hR h => ?_) ?_
    · exact relAt.pureS Wr.refl (by kernel_rfl) (by kernel_rfl) (run_load_box_sum wr ob t fr old (hold wr hR) Hl.out)
    refine RegHead.cons (fun wr hR h => ?_) ?_
    · obtain ⟨cs, hcs, hs⟩ := hR.k1 ⟨_, HBk.out.1, rfl⟩
      obtain ⟨w', hw', h1, g1⟩ := run_store_box wr (w.heap.size) old cs hcs hs Hl.out
      exact relAt.act (by kernel_rfl) (by kernel_rfl) hw' (Wr.one hne g1 h1 (by simp [Hl.out])) h1
    refine RegHead.cons (fun wr hR h => ?_) ?_
    · obtain ⟨cs, hcs, hs⟩ := hR.k2 ⟨_, HBk.out.2, rfl⟩
      obtain ⟨w', hw', h1, g1⟩ := run_store_box wr (w.heap.size + 1) old cs hcs hs Hl.out
      exact relAt.act (by kernel_rfl) (by kernel_rfl) hw' (Wr.two hne g1 h1 (by simp [Hl.out])) h1
    exact trivial
  · have e30 : wr.heap[w.heap.size]? = some (.cells (old.map V8).toArray 29 (0, 0)) := allOf_iff.1 h 2 (by decide)
    have e31 : wr.heap[w.heap.size + 1]? = some (.cells (old.map V8).toArray 29 (0, 0)) := allOf_iff.1 h 3 (by decide)
    have hBl : Below w.heap.size w wr := Wr.below HLk.out hR (Nat.le_refl _) (by omega)
    clear h hR
    refine wp_frame (new := [(sumV old), (sumV old)]) 42 44 (by kernel_rfl) ?_
    simp only [List.take, List.drop, List.cons_append, List.nil_append]
    go_wp2
    refine bodyPost_ret (results_sum2_tmp rfl _ _ (w.heap.size) (w.heap.size + 1) _ _ old old 32 (0, 0) (0, 0) _ rfl rfl e30 e31 Tryd.underlying29 (by kernel_rfl) Hl.out Hl.out) rfl ⟨old, old, _, rfl, Hl.out, Hl.out, ?_, hBl⟩
    rw [List.take_zero, Tree.both_zero old m n whole hmn hm]
    rfl

set_option maxRecDepth 100000 in
set_option maxHeartbeats 4000000 in
theorem extin_right (m n u ob pb g : Nat) (whole : Bool) (old : List UInt8) (a : Option Addr) (np c : Nat) (p : List (List UInt8)) (w : World) (hup : u < np) (hnp : np < 4611686018427387904) (hm : 0 < m) (hmn : m < n) (hn63 : n < 9223372036854775808) (hmk : ¬ m ≤ split n) (E : ExtEnv w ob pb g old a np c p)
    (ih : ∀ w', ExtEnv w' ob pb g old a np c p → Calls Tryd.prog 53 #[.int .i64 (m - split n : Nat), .int .i64 (n - split n : Nat), .int .i64 u, .bool false, .pointer (some ⟨ob, 0, none⟩), .pointer (some ⟨pb, 0, none⟩), .pointer (some ⟨g, 0, none⟩)] w' (RetBoth (Tree.both old (m - split n) (n - split n) false (p.take u)) w')) :
    Calls Tryd.prog 53 #[.int .i64 m, .int .i64 n, .int .i64 (u + 1 : Nat), .bool whole, .pointer (some ⟨ob, 0, none⟩), .pointer (some ⟨pb, 0, none⟩), .pointer (some ⟨g, 0, none⟩)] w (RetBoth (Tree.both old m n whole (p.take (u + 1))) w) := by
  have E' := Lib.hid E
  have hup' : u < p.length := by have := E.sums.len; omega
  have hkp := split_pos n
  have hkl := split_lt (show 1 < n by omega)
  have Hb := Lib.hid (Tree.both_right old m n whole p u hup' hmn hm hmk)
  have Hhalf := half_any n (by omega)
  obtain ⟨b, o, ha, hget⟩ := E.sums.get
  obtain rfl := ha (by omega)
  have hx := hget u hup'
  have hxl := E.sums.each p[u] (by simp)
  obtain ⟨x, hxe⟩ : ∃ x, x = p[u] := ⟨_, rfl⟩
  rw [← hxe] at hx hxl Hb
  generalize split n = k at *
  rw [show ((m - k : Nat) : Int) = (m : Int) - (k : Int) by omega, show ((n - k : Nat) : Int) = (n : Int) - (k : Int) by omega] at ih
  have Ih := Lib.hid ih
  clear ih
  have HX := Lib.hid hx
  have HXL := Lib.hid hxl
  have hcap := E.sums.cap
  have e1 : ((u + 1 : Nat) : Int) - 1 = (u : Int) := by omega
  have hu0 : ((u + 1 : Nat) : Int) = (u : Int) + 1 := by omega
  have hn1 : ((m : Int) == (n : Int)) = false := by simp; omega
  have hn2 : ¬ (m : Int) = (n : Int) := by omega
  have hunp : (u : Int) < (np : Int) := by omega
  have hmk2 : ¬ (m : Int) ≤ (k : Int) := by omega
  have hmk3 : (k : Int) < (m : Int) := by omega
  have HE1 := Lib.hid e1
  have HU0 := Lib.hid hu0
  clear hx hxl hget ha E hxe hup' e1 hu0
  go_enter Tryd.func53, Tryd.ntmps53
  go_wp2_with fail
  have HBk := Lib.hid (blk2 w (.cells (zeros8 32) 29) (.cells (zeros8 32) 29))
  have HLk := Lib.hid (low2 w (.cells (zeros8 32) 29) (.cells (zeros8 32) 29)).drew
  refine wp_region_reg 9 91 (Low) (by kernel_rfl) (by kernel_rfl) (by kernel_rfl) (by kernel_rfl) (by kernel_rfl) (Low.refl) (Low.trans) [.is (.int .i64 n : Value), .is (.int .i64 k : Value), .is (.slice (some ⟨b, o, none⟩) np c : Value), .is (.int .i64 (u + 1 : Nat) : Value), .is (.int .i64 u : Value), .is (.pointer (some ⟨b, o + u * 32, none⟩) : Value), .is (sumV x), yBox (w.heap.size + 1 + 1) (zeros8 32) 29, .is (.int .i64 k : Value)] rfl (fun vs => ?_) (fun vs wr hR h => ?_)
  · refine RegHead.cons (fun wr hR h => ?_) ?_
    · exact relAt.pure (Low.refl) (by kernel_rfl) (by kernel_rfl)
    refine RegHead.cons (fun wr hR h => ?_) ?_
    · refine relAt.call (by kernel_rfl) (by kernel_rfl) ((Hhalf wr).mono ?_)
      rintro e w2 ⟨rfl, rfl⟩
      exact ⟨_, rfl, Low.refl _, rfl⟩
    refine RegHead.cons (fun wr hR h => ?_) ?_
    · exact relAt.pureS (Low.refl) (by kernel_rfl) (by kernel_rfl) (run_load_cell wr pb _ ((E'.out.low (bthen HLk.out hR)).pathAt) rfl)
    refine RegHead.cons (fun wr hR h => ?_) ?_
    · exact relAt.pure (Low.refl) (by kernel_rfl) (by kernel_rfl)
    refine RegHead.cons (fun wr hR h => ?_) ?_
    · exact relAt.pureS (Low.refl) (by kernel_rfl) (by kernel_rfl) (run_int_sub' wr 3 (.tmp 47) (.const (.int .i64 1)) _ _ _ HE1.out (by omega))
    refine RegHead.cons (fun wr hR h => ?_) ?_
    · exact relAt.pureS (Low.refl) (by kernel_rfl) (by kernel_rfl) (run_sums_index wr b o np c u (by omega))
    refine RegHead.cons (fun wr hR h => ?_) ?_
    · exact relAt.pureS (Low.refl) (by kernel_rfl) (by kernel_rfl) (run_load_at_sum wr b (o + u * 32) x (range_low HX.out (bthen HLk.out hR)) HXL.out)
    refine RegHead.cons (fun wr hR h => ?_) ?_
    · exact relAt.value (u := .pointer (some ⟨wr.heap.size, 0, none⟩)) (w' := wr.alloc (.cells (zeros8 32) 29)) (by kernel_rfl) (run_alloc_sum wr) (low1 _ _) ⟨_, rfl, by have := hR.size; simp at this; exact this, blk1 _ _⟩
    refine RegHead.cons (fun wr hR h => ?_) ?_
    · exact relAt.pure (Low.refl) (by kernel_rfl) (by kernel_rfl)
    exact trivial
  · obtain ⟨b15, hv15, hb15, hbx⟩ : ∃ b, vs 7 = .pointer (some ⟨b, 0, none⟩) ∧ w.heap.size + 1 + 1 ≤ b ∧ wr.heap[b]? = some (.cells (zeros8 32) 29 (0, 0)) := allOf_iff.1 h 7 (by decide)
    rename World => w1
    have hL : Low w w1 := bthen HLk.out hR
    have hz1 := bblk hR (show ((w.alloc _).alloc _).drew.heap[w.heap.size]? = _ from HBk.out.1)
    have hz2 := bblk hR (show ((w.alloc _).alloc _).drew.heap[w.heap.size + 1]? = _ from HBk.out.2)
    clear h
    refine wp_frame2 (ps := [(14, [(.int .i64 k : Value), vs 7]), (44, [(.int .i64 n : Value), (.int .i64 k : Value), (.slice (some ⟨b, o, none⟩) np c : Value), (.int .i64 (u + 1 : Nat) : Value), (.int .i64 u : Value), (.pointer (some ⟨b, o + u * 32, none⟩) : Value), (sumV x)])]) (by kernel_rfl) ?_
    simp only [overlay, List.take, List.drop, List.cons_append, List.nil_append, List.length_cons, List.length_nil, Nat.reduceAdd]
    rw [hv15]
    refine wpList_store_row' rfl 29 _ _ rfl b15 (x.map V8).toArray rfl rfl _ _ hbx (size_sum x HXL.out) (by simp [HXL.out, zeros8]) (oneCells x) ?_
    intro w2 hx2 hg2 hs2
    have hL2 : Below w.heap.size w w2 := hL.grown hg2 hL.size (fun k' hk' => by obtain rfl := Option.some.inj hk'; omega)
    have hy1 : w2.heap[w.heap.size]? = some (.cells (zeros8 32) 29 (0, 0)) := (hg2.block _ (in_heap hz1) (fun e => by have := Option.some.inj e; omega)).trans hz1
    have hy2 : w2.heap[w.heap.size + 1]? = some (.cells (zeros8 32) 29 (0, 0)) := (hg2.block _ (in_heap hz2) (fun e => by have := Option.some.inj e; omega)).trans hz2
    have E2 := E'.out.low hL2
    have HE2 := Lib.hid E2
    have HL2 := Lib.hid hL2
    have HY1 := Lib.hid hy1
    have HY2 := Lib.hid hy2
    have HX2 := Lib.hid hx2
    have hc := E2.fn
    unfold extFn at hc
    have H15 := Lib.hid hb15
    clear hR hL hz1 hz2 hbx hg2 hs2 hL2 hy1 hy2 hx2 E2 Hhalf HLk HBk hb15 hv15
    have hcall := Lib.hid (Ih.out w2 HE2.out)
    have e1 := HE1.out
    clear Ih
    go_wp2_with (first | (go_at_call 53; refine hcall.out.mono ?_; rintro e w3 ⟨r, s, bb, rfl, hrl, hsl, hmd, hB⟩; have HRL := Lib.hid hrl; have HSL := Lib.hid hsl; have HMD := Lib.hid hmd; have HB3 := Lib.hid hB; clear hrl hsl hmd hB) | (refine wpList_store_row' rfl 29 _ _ rfl (w3.heap.size + 1) (s.map V8).toArray rfl rfl _ _ (at_4 H4.out G4.out) (size_sum s HSL.out) (by simp [HSL.out]) (oneCells s) ?_; intro w5 h5 g5 s5; have H5 := Lib.hid h5; have G5 := Lib.hid g5; clear h5 g5 s5) | (refine wpList_store_row' rfl 29 _ _ rfl w3.heap.size (r.map V8).toArray rfl rfl _ _ (blk2 _ _ _).1 (size_sum r HRL.out) (by simp [HRL.out]) (oneCells r) ?_; intro w4 h4 g4 s4; have H4 := Lib.hid h4; have G4 := Lib.hid g4; clear h4 g4 s4))
    have i3 := HB3.out.size
    have i2 := HL2.out.size
    have q1 := in_heap HY2.out
    have q2 := in_heap HX2.out
    have i4 := G4.out.size
    rw [size_alloc, size_alloc] at i4
    have hl3 : Below w.heap.size w w3 := bthen HL2.out HB3.out
    have hl5 : Below w.heap.size w w5 := (((hl3.alloc hl3.size _).alloc (by rw [size_alloc]; omega) _).grown G4.out (by rw [size_alloc, size_alloc]; omega) (fun k hk => by obtain rfl := Option.some.inj hk; omega)).grown G5.out (by omega) (fun k hk => by obtain rfl := Option.some.inj hk; omega)
    have k5 : ∀ b' o', b' < w3.heap.size → w3.heap[b']? = some o' → w5.heap[b']? = some o' := fun b' o' hlt hx => (G5.out.block _ (by omega) (fun e => by have := Option.some.inj e; omega)).trans ((G4.out.block _ (by rw [size_alloc, size_alloc]; omega) (fun e => by have := Option.some.inj e; omega)).trans (at_old _ (at_old _ hx)))
    have h16 : w5.heap[w3.heap.size]? = some (.cells (r.map V8).toArray 29 (0, 0)) := (G5.out.block _ (by omega) (fun e => by have := Option.some.inj e; omega)).trans H4.out
    have HZ1 := Lib.hid (k5 _ _ (by omega) (bblk HB3.out HY1.out))
    have HZ2 := Lib.hid (k5 _ _ (by omega) (bblk HB3.out HY2.out))
    have HZ15 := Lib.hid (k5 _ _ (by omega) (bblk HB3.out HX2.out))
    have HZ16 := Lib.hid h16
    have HZ17 := Lib.hid H5.out
    have HL5 := Lib.hid hl5
    have hb15 := H15.out
    have n1 : b15 ≠ w.heap.size := by omega
    have n2 : b15 ≠ w.heap.size + 1 := by omega
    have n3 : w3.heap.size ≠ w.heap.size := by omega
    have n4 : w3.heap.size ≠ w.heap.size + 1 := by omega
    have n5 : w3.heap.size + 1 ≠ w.heap.size := by omega
    have n6 : w3.heap.size + 1 ≠ w.heap.size + 1 := by omega
    have hne : w.heap.size ≠ w.heap.size + 1 := by omega
    obtain ⟨g16, hg16⟩ : ∃ g, g = w3.heap.size := ⟨_, rfl⟩
    rw [← hg16] at n3 n4 n5 n6 HZ16 HZ17 ⊢
    obtain ⟨ndr, hndr, hndrl⟩ : ∃ nd, nd = Tree.node x r ∧ nd.length = 32 := ⟨_, rfl, rfl⟩
    obtain ⟨nds, hnds, hndsl⟩ : ∃ nd, nd = Tree.node x s ∧ nd.length = 32 := ⟨_, rfl, rfl⟩
    obtain ⟨ndl, hndl, hndll⟩ : ∃ nd, nd = Tree.node s x ∧ nd.length = 32 := ⟨_, rfl, rfl⟩
    have HNR := Lib.hid hndr
    have HNS := Lib.hid hnds
    have HNL := Lib.hid hndl
    have HNRL := Lib.hid hndrl
    have HNSL := Lib.hid hndsl
    have HNLL := Lib.hid hndll
    have hnoder := Lib.hid fun W hT => node_any x r W hT HXL.out HRL.out
    have hnodes := Lib.hid fun W hT => node_any x s W hT HXL.out HSL.out
    have hnodel := Lib.hid fun W hT => node_any s x W hT HSL.out HXL.out
    clear hl3 hl5 k5 h16 i2 i3 i4 q1 q2 hndr hndrl hnds hndsl hndl hndll H4 H5 G4 G5 HY1 HY2 HX2 hb15 H15 hg16 hcall hc
    refine wp_region_reg 9 91 (WrS (w.heap.size) (w.heap.size + 1) ndr nds) (by kernel_rfl) (by kernel_rfl) (by kernel_rfl) (by kernel_rfl) (by kernel_rfl) (Wr.refl) (Wr.trans) [.is (sumV x), .is (sumV r), .is (sumV ndr), .is (sumV x), .is (sumV s), .is (sumV nds), .is (.bool bb : Value), yFin1, yFin2] rfl (fun vs => ?_) (fun vs wr hR h => ?_)
    · refine RegHead.cons (fun wr hR h => ?_) ?_
      · exact relAt.pureS Wr.refl (by kernel_rfl) (by kernel_rfl) (run_load_box_sum wr b15 _ _ x (hR.at_ (show w5.drew.heap[_]? = _ from HZ15.out) n1 n2) HXL.out)
      refine RegHead.cons (fun wr hR h => ?_) ?_
      · exact relAt.pureS Wr.refl (by kernel_rfl) (by kernel_rfl) (run_load_box_sum wr g16 _ _ r (hR.at_ (show w5.drew.heap[_]? = _ from HZ16.out) n3 n4) HRL.out)
      refine RegHead.cons (fun wr hR h => ?_) ?_
      · refine relAt.call (by kernel_rfl) (by kernel_rfl) ((hnoder.out wr (E'.out.tabs.below (Wr.below HL5.out.drew hR (Nat.le_refl _) (by omega)))).mono ?_)
        rintro e w6 ⟨rfl, hB6⟩
        exact ⟨_, rfl, Wr.of_low hB6, congrArg sumV HNR.out.symm⟩
      refine RegHead.cons (fun wr hR h => ?_) ?_
      · exact relAt.pureS Wr.refl (by kernel_rfl) (by kernel_rfl) (run_load_box_sum wr b15 _ _ x (hR.at_ (show w5.drew.heap[_]? = _ from HZ15.out) n1 n2) HXL.out)
      refine RegHead.cons (fun wr hR h => ?_) ?_
      · exact relAt.pureS Wr.refl (by kernel_rfl) (by kernel_rfl) (run_load_box_sum wr (g16 + 1) _ _ s (hR.at_ (show w5.drew.heap[_]? = _ from HZ17.out) n5 n6) HSL.out)
      refine RegHead.cons (fun wr hR h => ?_) ?_
      · refine relAt.call (by kernel_rfl) (by kernel_rfl) ((hnodes.out wr (E'.out.tabs.below (Wr.below HL5.out.drew hR (Nat.le_refl _) (by omega)))).mono ?_)
        rintro e w6 ⟨rfl, hB6⟩
        exact ⟨_, rfl, Wr.of_low hB6, congrArg sumV HNS.out.symm⟩
      refine RegHead.cons (fun wr hR h => ?_) ?_
      · exact relAt.pure Wr.refl (by kernel_rfl) (by kernel_rfl)
      refine RegHead.cons (fun wr hR h => ?_) ?_
      · obtain ⟨cs, hcs, hs⟩ := hR.k1 ⟨_, HZ1.out, rfl⟩
        obtain ⟨w', hw', h1, g1⟩ := run_store_box wr (w.heap.size) ndr cs hcs hs HNRL.out
        exact relAt.act (by kernel_rfl) (by kernel_rfl) hw' (Wr.one hne g1 h1 (by simp [HNRL.out])) h1
      refine RegHead.cons (fun wr hR h => ?_) ?_
      · obtain ⟨cs, hcs, hs⟩ := hR.k2 ⟨_, HZ2.out, rfl⟩
        obtain ⟨w', hw', h1, g1⟩ := run_store_box wr (w.heap.size + 1) nds cs hcs hs HNSL.out
        exact relAt.act (by kernel_rfl) (by kernel_rfl) hw' (Wr.two hne g1 h1 (by simp [HNSL.out])) h1
      exact trivial
    · have e30 : wr.heap[w.heap.size]? = some (.cells (ndr.map V8).toArray 29 (0, 0)) := allOf_iff.1 h 7 (by decide)
      have e31 : wr.heap[w.heap.size + 1]? = some (.cells (nds.map V8).toArray 29 (0, 0)) := allOf_iff.1 h 8 (by decide)
      have hBl : Below w.heap.size w wr := Wr.below HL5.out.drew hR (Nat.le_refl _) (by omega)
      clear h hR
      refine wp_frame (new := [(sumV x), (sumV r), (sumV ndr), (sumV x), (sumV s), (sumV nds), (.bool bb : Value)]) 84 91 (by kernel_rfl) ?_
      simp only [List.take, List.drop, List.cons_append, List.nil_append]
      go_wp2
      refine bodyPost_ret (results_sum2_tmp rfl _ _ (w.heap.size) (w.heap.size + 1) _ _ ndr nds 32 (0, 0) (0, 0) _ rfl rfl e30 e31 Tryd.underlying29 (by kernel_rfl) HNRL.out HNSL.out) rfl ⟨ndr, nds, _, rfl, HNRL.out, HNSL.out, ?_, hBl⟩
      rw [Hb.out, HMD.out, HNR.out, HNS.out]
      cases bb <;> rfl

theorem extin_any (ob pb g : Nat) (old : List UInt8) (a : Option Addr) (np c : Nat) (p : List (List UInt8)) (hnp : np < 4611686018427387904) : ∀ (N m n u : Nat) (whole : Bool) (w : World), n ≤ N → 0 < m → m ≤ n → n < 9223372036854775808 → u ≤ np → ExtEnv w ob pb g old a np c p →
    Calls Tryd.prog 53 #[.int .i64 m, .int .i64 n, .int .i64 u, .bool whole, .pointer (some ⟨ob, 0, none⟩), .pointer (some ⟨pb, 0, none⟩), .pointer (some ⟨g, 0, none⟩)] w (RetBoth (Tree.both old m n whole (p.take u)) w) := by
  intro N
  induction N with
  | zero => intro m n u whole w hN hm hmn; omega
  | succ N ih =>
    intro m n u whole w hN hm hmn hn hu E
    by_cases he : m = n
    · subst he
      cases whole with
      | true => exact extin_whole m u ob pb g old a np c p w E hu
      | false =>
        by_cases h1 : u = 1
        · subst h1
          exact extin_one m ob pb g old a np c p w E hu
        · exact extin_part m u ob pb g old a np c p w E hu h1
    · have hkp := split_pos n
      have hkl := split_lt (show 1 < n by omega)
      cases u with
      | zero => exact extin_zero m n whole ob pb g old a np c p w E hm (by omega)
      | succ u =>
        by_cases hmk : m ≤ split n
        · exact extin_left m n u ob pb g whole old a np c p w (by omega) hnp hm (by omega) hn hmk E fun w' E' => ih m (split n) u whole w' (by omega) hm hmk (by omega) (by omega) E'
        · exact extin_right m n u ob pb g whole old a np c p w (by omega) hnp hm (by omega) hn hmk E fun w' E' => ih (m - split n) (n - split n) u false w' (by omega) (by omega) (by omega) (by omega) (by omega) E'
theorem extends_any (root old : List UInt8) (m n : Nat) (a : Option Addr) (np c : Nat) (p : List (List UInt8)) (w : World) (hm : 0 < m) (hmn : m ≤ n) (hn : n < 9223372036854775808) (hnp : np < 4611686018427387904) (hr : root.length = 32) (ho : old.length = 32) (hT : Tabs w) (S : Sums w a np c p) :
    Calls Tryd.prog 32 #[.int .i64 m, sumV old, .int .i64 n, sumV root, .slice a np c] w fun e w' => e = .returned (.bool (Tree.extends_ m old n root p)) ∧ Below w.heap.size w w' :=
  extends_of root old m n a np c p w hm hmn hr ho hT S fun ob pb g w' E => by
    have h := extin_any ob pb g old a np c p hnp n m n np true w' (Nat.le_refl _) hm hmn hn (Nat.le_refl _) E
    rwa [List.take_of_length_le (by rw [E.sums.len]; exact Nat.le_refl _)] at h
end Go.Proofs.YtpdhgijeanbmcaaDoor

/- Fast -/
namespace Go.Proofs.YtpdhgijeanbmcaaDoor
namespace Nsha
def rot (x n : Nat) : Nat := x >>> n ||| (x <<< (32 - n)) % 4294967296
def s0 (x : Nat) : Nat := (rot x 7 ^^^ rot x 18) ^^^ x >>> 3
def s1 (x : Nat) : Nat := (rot x 17 ^^^ rot x 19) ^^^ x >>> 10
def e0 (x : Nat) : Nat := (rot x 2 ^^^ rot x 13) ^^^ rot x 22
def e1 (x : Nat) : Nat := (rot x 6 ^^^ rot x 11) ^^^ rot x 25
def ch (e f g : Nat) : Nat := (e &&& f) ^^^ ((4294967296 - 1 - e) &&& g)
def maj (a b c : Nat) : Nat := ((a &&& b) ^^^ (a &&& c)) ^^^ (b &&& c)
def nxt (l : List Nat) : Nat := (((l.getD 15 0 + s0 (l.getD 14 0)) % 4294967296 + l.getD 6 0) % 4294967296 + s1 (l.getD 1 0)) % 4294967296
def sched : Nat → List Nat → List Nat
  | 0, l => l
  | n + 1, l => sched n (nxt l :: l)
structure Reg where
  (a b c d e f g h : Nat)
def step (r : Reg) (k w : Nat) : Reg :=
  let u := ((((r.h + e1 r.e) % 4294967296 + ch r.e r.f r.g) % 4294967296 + k) % 4294967296 + w) % 4294967296
  let v := (e0 r.a + maj r.a r.b r.c) % 4294967296
  ⟨(u + v) % 4294967296, r.a, r.b, r.c, (r.d + u) % 4294967296, r.e, r.f, r.g⟩
def rounds : List Nat → List Nat → Reg → Reg
  | k :: ks, w :: ws, r => rounds ks ws (step r k w)
  | _, _, r => r
def word (a b c d : Nat) : Nat := ((a <<< 24 ||| b <<< 16) ||| c <<< 8) ||| d
def words : Nat → List Nat → List Nat
  | 0, _ => []
  | n + 1, l => word (l.getD 0 0) (l.getD 1 0) (l.getD 2 0) (l.getD 3 0) :: words n (l.drop 4)
def add (r q : Reg) : Reg :=
  ⟨(r.a + q.a) % 4294967296, (r.b + q.b) % 4294967296, (r.c + q.c) % 4294967296, (r.d + q.d) % 4294967296, (r.e + q.e) % 4294967296, (r.f + q.f) % 4294967296, (r.g + q.g) % 4294967296, (r.h + q.h) % 4294967296⟩
def turn (r : Reg) (l : List Nat) : Reg := add r (rounds Sha.roots (sched 48 (words 16 l).reverse).reverse r)
def blocks : Nat → Reg → List Nat → Reg
  | 0, r, _ => r
  | n + 1, r, l => blocks n (turn r l) (l.drop 64)
def init : Reg := ⟨0x6a09e667, 0xbb67ae85, 0x3c6ef372, 0xa54ff53a, 0x510e527f, 0x9b05688c, 0x1f83d9ab, 0x5be0cd19⟩
def wbytes (x : Nat) : List Nat := [x >>> 24 % 256, x >>> 16 % 256, x >>> 8 % 256, x % 256]
def bytes (r : Reg) : List Nat := [r.a, r.b, r.c, r.d, r.e, r.f, r.g, r.h].flatMap wbytes
def eight (n : Nat) : List Nat := (List.range 8).map fun i => n / 2 ^ (8 * (7 - i)) % 256
def pad (n : Nat) : List Nat := 128 :: (List.replicate ((119 - n % 64) % 64) 0 ++ eight (8 * n))
def sum (l : List Nat) : List Nat := bytes (blocks ((l.length + 72) / 64) init (l ++ pad l.length))
end Nsha

def Sha.Reg.nat (r : Sha.Reg) : Nsha.Reg := ⟨r.a.toNat, r.b.toNat, r.c.toNat, r.d.toNat, r.e.toNat, r.f.toNat, r.g.toNat, r.h.toNat⟩
namespace Nsha
theorem rot_eq (x : BitVec 32) (n : Nat) : (Sha.rot x n).toNat = rot x.toNat n := by
  simp [Sha.rot, rot, BitVec.toNat_or]
theorem s0_eq (x : BitVec 32) : (Sha.s0 x).toNat = s0 x.toNat := by simp [Sha.s0, s0, rot_eq, BitVec.toNat_xor]
theorem s1_eq (x : BitVec 32) : (Sha.s1 x).toNat = s1 x.toNat := by simp [Sha.s1, s1, rot_eq, BitVec.toNat_xor]
theorem e0_eq (x : BitVec 32) : (Sha.e0 x).toNat = e0 x.toNat := by simp [Sha.e0, e0, rot_eq, BitVec.toNat_xor]
theorem e1_eq (x : BitVec 32) : (Sha.e1 x).toNat = e1 x.toNat := by simp [Sha.e1, e1, rot_eq, BitVec.toNat_xor]
theorem ch_eq (x y z : BitVec 32) : (Sha.ch x y z).toNat = ch x.toNat y.toNat z.toNat := by
  simp [Sha.ch, ch, BitVec.toNat_xor, BitVec.toNat_and, BitVec.toNat_not]
theorem maj_eq (x y z : BitVec 32) : (Sha.maj x y z).toNat = maj x.toNat y.toNat z.toNat := by
  simp [Sha.maj, maj, BitVec.toNat_xor, BitVec.toNat_and]
theorem step_eq (r : Sha.Reg) (k w : BitVec 32) : (Sha.step r k w).nat = step r.nat k.toNat w.toNat := by
  simp only [Sha.step, step, Sha.Reg.nat, BitVec.toNat_add, e1_eq, ch_eq, e0_eq, maj_eq, show (2 : Nat) ^ 32 = 4294967296 from rfl]
theorem rounds_eq (p : Nat → UInt8) (r : Sha.Reg) : ∀ n t, rounds ((List.range' t n).map fun i => (Sha.root i).toNat) ((List.range' t n).map fun i => (Sha.sched p i).toNat) (Sha.rounds p r t).nat = (Sha.rounds p r (t + n)).nat
  | 0, t => rfl
  | n + 1, t => by
    rw [List.range'_succ, List.map_cons, List.map_cons, rounds, ← step_eq, show Sha.step (Sha.rounds p r t) (Sha.root t) (Sha.sched p t) = Sha.rounds p r (t + 1) from rfl, rounds_eq p r n (t + 1)]
    congr 2
    omega
def back (p : Nat → UInt8) : Nat → List Nat
  | 0 => []
  | k + 1 => (Sha.sched p k).toNat :: back p k
theorem back_get (p : Nat → UInt8) : ∀ k i, i < k → (back p k).getD i 0 = (Sha.sched p (k - 1 - i)).toNat
  | 0, i, h => by omega
  | k + 1, 0, _ => by simp [back]
  | k + 1, i + 1, h => by
    have := back_get p k i (by omega)
    rw [back, List.getD_cons_succ, this]
    congr 2
    omega
theorem nxt_eq (p : Nat → UInt8) (k : Nat) (h : 16 ≤ k) : nxt (back p k) = (Sha.sched p k).toNat := by
  rw [nxt, back_get p k 15 (by omega), back_get p k 14 (by omega), back_get p k 6 (by omega), back_get p k 1 (by omega), Sha.sched_ge p k (by omega), BitVec.toNat_add, BitVec.toNat_add, BitVec.toNat_add, s0_eq, s1_eq,
    show k - 1 - 15 = k - 16 by omega, show k - 1 - 14 = k - 15 by omega, show k - 1 - 6 = k - 7 by omega, show k - 1 - 1 = k - 2 by omega]
theorem sched_eq (p : Nat → UInt8) : ∀ n k, 16 ≤ k → sched n (back p k) = back p (k + n)
  | 0, k, _ => rfl
  | n + 1, k, h => by
    rw [sched, nxt_eq p k h, show (Sha.sched p k).toNat :: back p k = back p (k + 1) from rfl, sched_eq p n (k + 1) (by omega)]
    congr 1
    omega
theorem back_rev (p : Nat → UInt8) : ∀ k, (back p k).reverse = (List.range' 0 k).map fun i => (Sha.sched p i).toNat
  | 0 => rfl
  | k + 1 => by
    rw [back, List.reverse_cons, back_rev p k, show List.range' 0 (k + 1) = List.range' 0 k ++ [k] by rw [List.range'_concat]; simp]
    simp
theorem word_eq (a b c d : UInt8) : (Sha.word a b c d).toNat = word a.toNat b.toNat c.toNat d.toNat := by
  have ha := a.toNat_lt
  have hb := b.toNat_lt
  have hc := c.toNat_lt
  have hd := d.toNat_lt
  have e1 : (a.toNat % 4294967296) <<< 24 % 4294967296 = a.toNat <<< 24 := by rw [Nat.shiftLeft_eq, Nat.shiftLeft_eq]; omega
  have e2 : (b.toNat % 4294967296) <<< 16 % 4294967296 = b.toNat <<< 16 := by rw [Nat.shiftLeft_eq, Nat.shiftLeft_eq]; omega
  have e3 : (c.toNat % 4294967296) <<< 8 % 4294967296 = c.toNat <<< 8 := by rw [Nat.shiftLeft_eq, Nat.shiftLeft_eq]; omega
  have e4 : d.toNat % 4294967296 = d.toNat := by omega
  rw [Sha.word, word, BitVec.toNat_or, BitVec.toNat_or, BitVec.toNat_or, BitVec.toNat_shiftLeft, BitVec.toNat_shiftLeft, BitVec.toNat_shiftLeft, BitVec.toNat_setWidth, BitVec.toNat_setWidth, BitVec.toNat_setWidth, BitVec.toNat_setWidth]
  show ((((a.toNat % 4294967296) <<< 24 % 4294967296) ||| ((b.toNat % 4294967296) <<< 16 % 4294967296)) ||| ((c.toNat % 4294967296) <<< 8 % 4294967296)) ||| (d.toNat % 4294967296) = _
  rw [e1, e2, e3, e4]
theorem getD_nat (l : List UInt8) (i : Nat) : (l.map UInt8.toNat).getD i 0 = (l.getD i 0).toNat := by
  simp only [List.getD, List.getElem?_map]
  cases l[i]? <;> rfl
theorem words_eq (l : List UInt8) : ∀ n t, t + n ≤ 16 → words n ((l.map UInt8.toNat).drop (4 * t)) = (List.range' t n).map fun i => (Sha.sched (fun j => l.getD j 0) i).toNat
  | 0, t, _ => rfl
  | n + 1, t, h => by
    rw [List.range'_succ, List.map_cons, words, Sha.sched_lt _ t (by omega), word_eq, List.drop_drop, show 4 * t + 4 = 4 * (t + 1) by omega, words_eq l n (t + 1) (by omega), List.getD_eq_getElem?_getD, List.getD_eq_getElem?_getD, List.getD_eq_getElem?_getD, List.getD_eq_getElem?_getD,
      List.getElem?_drop, List.getElem?_drop, List.getElem?_drop, List.getElem?_drop, ← List.getD_eq_getElem?_getD, ← List.getD_eq_getElem?_getD, ← List.getD_eq_getElem?_getD, ← List.getD_eq_getElem?_getD, getD_nat, getD_nat, getD_nat, getD_nat]
    rfl
theorem roots_eq : Sha.roots = (List.range' 0 64).map fun i => (Sha.root i).toNat := by decide +kernel
theorem add_eq (r q : Sha.Reg) : (r.add q).nat = add r.nat q.nat := by
  simp only [Sha.Reg.add, add, Sha.Reg.nat, BitVec.toNat_add, show (2 : Nat) ^ 32 = 4294967296 from rfl]
theorem turn_eq (r : Sha.Reg) (l : List UInt8) : (Sha.turn r fun j => l.getD j 0).nat = turn r.nat (l.map UInt8.toNat) := by
  have h := words_eq l 16 0 (by omega)
  rw [Nat.mul_zero, List.drop_zero] at h
  have hr := rounds_eq (fun j => l.getD j 0) r 64 0
  rw [Nat.zero_add, ← roots_eq, show Sha.rounds (fun j => l.getD j 0) r 0 = r from rfl] at hr
  rw [turn, h, ← back_rev, List.reverse_reverse, sched_eq _ 48 16 (by omega), back_rev, Sha.turn, add_eq, hr]
theorem blocks_eq : ∀ n (r : Sha.Reg) (l : List UInt8), l.length / 64 = n → (Sha.blocks r l).nat = blocks n r.nat (l.map UInt8.toNat)
  | 0, r, l, h => by rw [Sha.blocks_short _ _ (by omega)]; rfl
  | n + 1, r, l, h => by
    rw [Sha.blocks_step _ _ (by omega), blocks, ← turn_eq, ← List.map_drop]
    exact blocks_eq n _ _ (by rw [List.length_drop]; omega)
theorem wbytes_eq (x : BitVec 32) : (Sha.wbytes x).map UInt8.toNat = wbytes x.toNat := by
  simp only [Sha.wbytes, wbytes, List.map_cons, List.map_nil, UInt8.toNat, BitVec.toNat_setWidth, BitVec.toNat_ushiftRight]
  try rfl
theorem bytes_eq (r : Sha.Reg) : (Sha.bytes r).map UInt8.toNat = bytes r.nat := by
  simp only [Sha.bytes, bytes, Sha.Reg.list, Sha.Reg.nat, List.flatMap_cons, List.flatMap_nil, List.map_append, wbytes_eq, List.map_nil]
theorem eight_eq (n : Nat) : (Sha.eight n).map UInt8.toNat = eight n := by
  simp [Sha.eight, eight]
theorem pad_eq (n : Nat) : (Sha.pad n).map UInt8.toNat = pad n := by
  simp [Sha.pad, pad, eight_eq]
theorem sum_eq (l : List UInt8) : (Sha.sum l).map UInt8.toNat = sum (l.map UInt8.toNat) := by
  have hp : (Sha.pad l.length).length = 1 + (119 - l.length % 64) % 64 + 8 := by simp [Sha.pad, Sha.eight]; omega
  rw [Sha.sum, sum, bytes_eq, blocks_eq ((l.length + 72) / 64) _ _ (by rw [List.length_append, hp]; omega), List.map_append, pad_eq, List.length_map]
  rfl
end Nsha
end Go.Proofs.YtpdhgijeanbmcaaDoor

/- LiveP -/
namespace Go.Proofs.YtpdhgijeanbmcaaDoor
namespace Nsha
def leaf (p : List Nat) : List Nat := sum (0 :: p)
def node (x y : List Nat) : List Nat := sum (1 :: (x ++ y))
theorem live_one : node (node (leaf [97]) (leaf [98])) (leaf [98]) ≠ node (node (leaf [97]) (leaf [98])) (leaf [99]) := by decide +kernel
theorem live_two : node (node (node (leaf [97]) (leaf [98])) (leaf [99])) (leaf [99]) ≠ node (node (leaf [97]) (leaf [98])) (leaf [99]) := by decide +kernel
end Nsha
namespace LiveP
def leaf (p : List UInt8) : List UInt8 := Sha.sum (0 :: p)
def node (x y : List UInt8) : List UInt8 := Sha.sum (1 :: (x ++ y))
theorem leaf_nat (p : List UInt8) : (leaf p).map UInt8.toNat = Nsha.leaf (p.map UInt8.toNat) := by
  rw [leaf, Nsha.sum_eq]; rfl
theorem node_nat (x y : List UInt8) : (node x y).map UInt8.toNat = Nsha.node (x.map UInt8.toNat) (y.map UInt8.toNat) := by
  rw [node, Nsha.sum_eq, List.map_cons, List.map_append]; rfl
theorem one : node (node (leaf [97]) (leaf [98])) (leaf [98]) ≠ node (node (leaf [97]) (leaf [98])) (leaf [99]) := fun h => by
  have h2 := congrArg (List.map UInt8.toNat) h
  simp only [node_nat, leaf_nat] at h2
  exact Nsha.live_one h2
theorem two : node (node (node (leaf [97]) (leaf [98])) (leaf [99])) (leaf [99]) ≠ node (node (leaf [97]) (leaf [98])) (leaf [99]) := fun h => by
  have h2 := congrArg (List.map UInt8.toNat) h
  simp only [node_nat, leaf_nat] at h2
  exact Nsha.live_two h2
end LiveP
end Go.Proofs.YtpdhgijeanbmcaaDoor

/- LiveQ -/
namespace Go.Proofs.YtpdhgijeanbmcaaDoor
namespace Tree
theorem split3 : split 3 = 2 := by
  unfold split
  rw [splitFrom_step (by omega) (by omega), splitFrom_stop (by omega)]
theorem split2 : split 2 = 1 := by
  unfold split
  rw [splitFrom_stop (by omega)]
theorem root2 (a b : List UInt8) : root [a, b] = node a b := by
  rw [root_many (by simp)]
  simp only [List.length_cons, List.length_nil]
  rw [show split (0 + 1 + 1) = 1 from split2]
  simp [root_one]
theorem root3 (a b c : List UInt8) : root [a, b, c] = node (node a b) c := by
  rw [root_many (by simp)]
  simp only [List.length_cons, List.length_nil]
  rw [show split (0 + 1 + 1 + 1) = 2 from split3]
  simp [root_one, root2]
theorem path3 (a b c : List UInt8) : path [a, b, c] 2 = [node a b] := by
  rw [path_right (by simp) (by simp only [List.length_cons, List.length_nil]; rw [show split (0 + 1 + 1 + 1) = 2 from split3]; omega)]
  simp only [List.length_cons, List.length_nil]
  rw [show split (0 + 1 + 1 + 1) = 2 from split3, path_stop (by simp)]
  simp [root2]
theorem sub3 (a b c : List UInt8) : sub 2 [a, b, c] true = [c] := by
  rw [sub_left (by simp) (by omega) (by simp only [List.length_cons, List.length_nil]; rw [show split (0 + 1 + 1 + 1) = 2 from split3]; omega)]
  simp only [List.length_cons, List.length_nil]
  rw [show split (0 + 1 + 1 + 1) = 2 from split3, sub_all (by simp)]
  simp [root_one]
theorem holds3 (r x p : List UInt8) : holds r 3 2 x [p] = (node p x == r) := by
  unfold holds
  have h := made_right 3 2 x [p] 0 (by simp) (by omega) (by rw [split3]; omega)
  simp only [Nat.zero_add, List.take_succ_cons, List.take_zero, List.getElem_cons_zero] at h
  rw [split3, made_one (3 - 2) _ _ _ (by decide)] at h
  rw [h]
  rfl
theorem ext3 (old r x : List UInt8) : extends_ 2 old 3 r [x] = (node old x == r) := by
  unfold extends_
  have h := both_left old 2 3 true [x] 0 (by simp) (by omega) (by omega) (by rw [split3]; omega)
  simp only [Nat.zero_add, List.take_succ_cons, List.take_zero, List.getElem_cons_zero] at h
  rw [split3, both_whole] at h
  rw [h]
  simp
end Tree
theorem live_ne1 : Tree.node (Tree.node (Tree.leaf [97]) (Tree.leaf [98])) (Tree.leaf [98]) ≠ Tree.node (Tree.node (Tree.leaf [97]) (Tree.leaf [98])) (Tree.leaf [99]) := LiveP.one
theorem live_ne2 : Tree.node (Tree.node (Tree.node (Tree.leaf [97]) (Tree.leaf [98])) (Tree.leaf [99])) (Tree.leaf [99]) ≠ Tree.node (Tree.node (Tree.leaf [97]) (Tree.leaf [98])) (Tree.leaf [99]) := LiveP.two
end Go.Proofs.YtpdhgijeanbmcaaDoor
