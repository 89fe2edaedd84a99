/- chain.Extends, its closure's contract being given. -/
import Derived.Test.YtpdhgijeanbmcaaDoorExt2
import Derived.Test.YtpdhgijeanbmcaaDoorHoldc
namespace Go.Proofs.YtpdhgijeanbmcaaDoor
open Go.RowKit Go.Great

theorem ext_env {w w0 : World} {root old : List UInt8} {a : Option Addr} {np c : Nat} {p : List (List UInt8)} {t1 t2 t3 : TypeId} {t : TypeId} {o : Obj} (hT : Tabs w) (S : Sums w a np c p) (hl : old.length = 32)
    (hf : w0.heap[w.heap.size + 1 + 1 + 1]? = some (.cells #[extFn w.heap.size (w.heap.size + 1 + 1) (w.heap.size + 1 + 1 + 1)] t (0, 0)))
    (hg : ((((w.alloc (.cells (sumRow old) t1)).alloc (.cells (sumRow root) t2)).alloc (.cells #[.slice a np c] t3)).alloc o).grownBy w0 (some (w.heap.size + 1 + 1 + 1))) :
    ExtEnv w0 w.heap.size (w.heap.size + 1 + 1) (w.heap.size + 1 + 1 + 1) old a np c p ∧ Below w.heap.size w w0 ∧ w0.heap[w.heap.size]? = some (.cells (old.map V8).toArray t1 (0, 0)) ∧ w0.heap[w.heap.size + 1]? = some (.cells (root.map V8).toArray t2 (0, 0)) := by
  have hL : Below w.heap.size w w0 := (low4 _ _ _ _ _).grown hg (by simp; omega) (fun k hk => by obtain rfl := Option.some.inj hk; omega)
  have hb := blk4 w (.cells (sumRow old) t1) (.cells (sumRow root) t2) (.cells #[.slice a np c] t3) o
  have hk : ∀ b x, b < w.heap.size + 1 + 1 + 1 → ((((w.alloc (.cells (sumRow old) t1)).alloc (.cells (sumRow root) t2)).alloc (.cells #[.slice a np c] t3)).alloc o).heap[b]? = some x → w0.heap[b]? = some x :=
    fun b x hlt hx => (hg.block b (in_heap hx) (fun e => absurd (Option.some.inj e) (Nat.ne_of_lt hlt))).trans hx
  exact ⟨⟨hT.below hL, ⟨t1, (0, 0), hk _ _ (by omega) hb.1⟩, cell_block (hk _ _ (by omega) hb.2.2.1) rfl, cell_block hf rfl, hl, S.below hL⟩, hL, hk _ _ (by omega) hb.1, hk _ _ (by omega) hb.2.1⟩

theorem keep54 {w4 w5 : World} {b : Nat} {x : Obj} (g5 : w4.grownBy w5 (some (b + 1))) (h : w4.heap[b]? = some x) : w5.heap[b]? = some x :=
  (g5.block _ (in_heap h) (fun e => by have := Option.some.inj e; omega)).trans h
theorem keep5 {w3 w4 w5 : World} {o o' : Obj} (g4 : ((w3.alloc o).alloc o').grownBy w4 (some w3.heap.size)) (g5 : w4.grownBy w5 (some (w3.heap.size + 1))) : ∀ b' x, b' < w3.heap.size → w3.heap[b']? = some x → w5.heap[b']? = some x := fun b' x hlt hx => by
  have s4 := g4.size
  rw [size_alloc, size_alloc] at s4
  exact (g5.block _ (by omega) (fun e => by have := Option.some.inj e; omega)).trans ((g4.block _ (by rw [size_alloc, size_alloc]; omega) (fun e => by have := Option.some.inj e; omega)).trans (at_old _ (at_old _ hx)))
theorem low5' {w w0 w3 w4 w5 : World} {o o' : Obj} (h0 : Below w.heap.size w w0) (h3 : Below w0.heap.size w0 w3) (g4 : ((w3.alloc o).alloc o').grownBy w4 (some w3.heap.size)) (g5 : w4.grownBy w5 (some (w3.heap.size + 1))) : Below w.heap.size w w5 := by
  have s4 := g4.size
  rw [size_alloc, size_alloc] at s4
  have hl3 := bthen h0 h3
  have i := hl3.size
  exact (((hl3.alloc i _).alloc (by rw [size_alloc]; omega) _).grown g4 (by rw [size_alloc, size_alloc]; omega) (fun k hk => by obtain rfl := Option.some.inj hk; omega)).grown g5 (by omega) (fun k hk => by obtain rfl := Option.some.inj hk; omega)

set_option maxRecDepth 100000 in
set_option maxHeartbeats 2000000 in
theorem extends_of (root old : List UInt8) (m n : Nat) (a : Option Addr) (np c : Nat) (p : List (List UInt8)) (w : World) (hm : 0 < m) (hmn : m ≤ n) (hr : root.length = 32) (ho : old.length = 32) (hT : Tabs w) (S : Sums w a np c p)
    (hin : ∀ ob pb g w', ExtEnv w' ob pb g old a np c p → Calls Tryd.prog 53 #[.int .i64 m, .int .i64 n, .int .i64 np, .bool true, .pointer (some ⟨ob, 0, none⟩), .pointer (some ⟨pb, 0, none⟩), .pointer (some ⟨g, 0, none⟩)] w' (RetBoth (Tree.both old m n true p) w')) :
    Calls Tryd.prog 32 #[.int .i64 m, sumV old, .int .i64 n, sumV root, .slice a np c] w fun e w' => e = .returned (.bool (Tree.extends_ m old n root p)) ∧ Below w.heap.size w w' := by
  have Hin := Lib.hid hin
  have S' := Lib.hid S
  have HOO := Lib.hid ho
  have HRR := Lib.hid hr
  have hi1 : ¬ (m : Int) < 1 := by omega
  have hi2 : ¬ (n : Int) < (m : Int) := by omega
  clear S ho hr hin
  go_enter Tryd.func32, Tryd.ntmps32
  have HB4 := Lib.hid (blk4 w (.cells (sumRow old) 29) (.cells (sumRow root) 29) (.cells #[.slice a np c] 31) (.cells #[.nilFunc] 72)).2.2.2
  go_upto_region 5 with (refine wpList_store_one' rfl 72 _ _ rfl rfl (w.heap.size + 1 + 1 + 1) (.func (.func 53) #[] #[.pointer (some ⟨w.heap.size, 0, none⟩), .pointer (some ⟨w.heap.size + 1 + 1, 0, none⟩), .pointer (some ⟨w.heap.size + 1 + 1 + 1, 0, none⟩)]) rfl rfl rfl _ _ HB4.out (by kernel_rfl) ?_; intro w0 hf hgr; have hf' := Lib.hid hf; have hgr' := Lib.hid hgr; clear hf hgr)
  obtain ⟨E, hB, hold, hroot⟩ := ext_env (p := p) hT S'.out HOO.out hf'.out hgr'.out
  have hc := E.fn
  have hcp := E.pathAt
  unfold extFn at hc
  have HE := Lib.hid E
  have HB0 := Lib.hid hB
  have HOld := Lib.hid hold
  have HRoot := Lib.hid hroot
  have Hel1 := Lib.hid (show ∀ (r : List UInt8), r.length = 32 → ∀ W, (binOp .eql 29 (sumV r) (sumV old)).run Tryd.prog W = .ok (.bool (r == old)) W from fun r h W => eql_sumV r old W h HOO.out)
  have Hel2 := Lib.hid (show ∀ (r : List UInt8), r.length = 32 → ∀ W, (binOp .eql 29 (sumV r) (sumV root)).run Tryd.prog W = .ok (.bool (r == root)) W from fun r h W => eql_sumV r root W h HRR.out)
  clear hf' hgr' E hB hold hroot
  go_wp2_with (first | (go_at_call 53; refine (Hin.out _ _ _ _ HE.out).mono ?_; rintro e w3 ⟨r, s, bb, rfl, hrl, hsl, hmd, hB⟩; have HRL := Lib.hid hrl; have HSL := Lib.hid hsl; have HMD := Lib.hid hmd; have HB3 := Lib.hid hB; clear hrl hsl hmd hB; cases bb <;> cases hq : (r == old)) | (refine wpList_store_row' rfl 29 _ _ rfl (w3.heap.size + 1) (s.map V8).toArray rfl rfl _ _ (at_4 H4.out G4.out) (size_sum s HSL.out) (by simp [HSL.out]) (oneCells s) ?_; intro w5 h5 g5 s5; have h54 := keep54 g5 H4.out; have hk5 := keep5 G4.out g5; have H5 := Lib.hid h5; have G5 := Lib.hid g5; have H54 := Lib.hid h54; have hel1 := Hel1.out r HRL.out; have hel2 := Hel2.out s HSL.out; have HK5 := Lib.hid hk5; clear h5 g5 s5 h54 hk5) | (refine wpList_store_row' rfl 29 _ _ rfl w3.heap.size (r.map V8).toArray rfl rfl _ _ (blk2 _ _ _).1 (size_sum r HRL.out) (by simp [HRL.out]) (oneCells r) ?_; intro w4 h4 g4 s4; have H4 := Lib.hid h4; have G4 := Lib.hid g4; clear h4 g4 s4) | (refine wpList_guarded rfl ?_; refine wpList_load_sum rfl 29 _ rfl w3.heap.size rfl _ r 32 _ _ H54.out Tryd.underlying29 (by kernel_rfl) HRL.out ?_) | (refine wpList_guarded rfl ?_; refine wpList_load_sum rfl 29 _ rfl w.heap.size rfl _ old 32 _ _ (HK5.out _ _ (in_heap (bblk HB3.out HOld.out)) (bblk HB3.out HOld.out)) Tryd.underlying29 (by kernel_rfl) HOO.out ?_) | (refine wpList_guarded rfl ?_; refine wpList_load_sum rfl 29 _ rfl (w3.heap.size + 1) rfl _ s 32 _ _ H5.out Tryd.underlying29 (by kernel_rfl) HSL.out ?_) | (refine wpList_guarded rfl ?_; refine wpList_load_sum rfl 29 _ rfl (w.heap.size + 1) rfl _ root 32 _ _ (HK5.out _ _ (in_heap (bblk HB3.out HRoot.out)) (bblk HB3.out HRoot.out)) Tryd.underlying29 (by kernel_rfl) HRR.out ?_))
  · go_ret
    have : Tree.extends_ m old n root p = false := by unfold Tree.extends_; rw [HMD.out]; rfl
    exact ⟨by rw [this]; try rfl, low5' HB0.out HB3.out G4.out G5.out⟩
  · go_ret
    have : Tree.extends_ m old n root p = false := by unfold Tree.extends_; rw [HMD.out]; rfl
    exact ⟨by rw [this]; try rfl, low5' HB0.out HB3.out G4.out G5.out⟩
  · go_ret
    have : Tree.extends_ m old n root p = false := by unfold Tree.extends_; rw [HMD.out]; simp [hq]
    exact ⟨by rw [this]; try rfl, low5' HB0.out HB3.out G4.out G5.out⟩
  · go_ret
    have : Tree.extends_ m old n root p = (s == root) := by unfold Tree.extends_; rw [HMD.out]; simp [hq]
    exact ⟨by rw [this]; try rfl, low5' HB0.out HB3.out G4.out G5.out⟩

/-- A proof of one sum that two leaves of three have become three. -/
theorem extends_three (root old x : List UInt8) (a : Option Addr) (c : Nat) (w : World) (hr : root.length = 32) (ho : old.length = 32) (hT : Tabs w) (S : Sums w a 1 c [x]) (hs3 : split 3 = 2) :
    Calls Tryd.prog 32 #[.int .i64 2, sumV old, .int .i64 3, sumV root, .slice a 1 c] w fun e w' => e = .returned (.bool (Tree.extends_ 2 old 3 root [x])) ∧ Below w.heap.size w w' := by
  refine extends_of root old 2 3 a 1 c [x] w (by omega) (by omega) hr ho hT S fun ob pb g w' E => ?_
  have h := extin_left 2 3 0 ob pb g true old a 1 c [x] w' (by omega) (by omega) (by omega) (by omega) (by omega) (by rw [hs3]; omega) E fun w2 E2 => by
    rw [hs3]
    exact extin_whole 2 0 ob pb g old a 1 c [x] w2 E2 (by omega)
  simpa using h
end Go.Proofs.YtpdhgijeanbmcaaDoor
