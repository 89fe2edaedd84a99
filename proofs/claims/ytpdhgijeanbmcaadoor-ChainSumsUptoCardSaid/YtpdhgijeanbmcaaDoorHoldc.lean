/- chain.Holds. -/
import Derived.Test.YtpdhgijeanbmcaaDoorHoldb
import Derived.Deep.DeepCutAuto
namespace Go.Proofs.YtpdhgijeanbmcaaDoor
open Go.RowKit Go.Great

def Tree.holds (root : List UInt8) (n i : Nat) (leaf : List UInt8) (p : List (List UInt8)) : Bool := match Tree.made n i leaf p with
  | some r => r == root
  | none => false

set_option maxRecDepth 100000 in
set_option maxHeartbeats 1000000 in
theorem holds_bad (root leaf : List UInt8) (n i : Int) (a : Option Addr) (np c : Nat) (w : World) (hi : i < 0 ∨ n ≤ i) :
    Calls Tryd.prog 30 #[sumV root, .int .i64 n, .int .i64 i, sumV leaf, .slice a np c] w fun e w' => e = .returned (.bool false) ∧ Below w.heap.size w w' := by
  rcases hi with hi | hi
  · go_enter Tryd.func30, Tryd.ntmps30
    go_wp2
    go_ret
    exact ⟨rfl, low3 _ _ _ _⟩
  · by_cases h0 : i < 0
    · go_enter Tryd.func30, Tryd.ntmps30
      go_wp2
      go_ret
      exact ⟨rfl, low3 _ _ _ _⟩
    · go_enter Tryd.func30, Tryd.ntmps30
      go_wp2
      go_ret
      exact ⟨rfl, low3 _ _ _ _⟩

theorem holds_env {w w0 : World} {root leaf : List UInt8} {a : Option Addr} {np c : Nat} {p : List (List UInt8)} {t1 t2 t3 : TypeId} {t : TypeId} {o : Obj} (hT : Tabs w) (S : Sums w a np c p) (hl : leaf.length = 32)
    (hf : w0.heap[w.heap.size + 1 + 1 + 1]? = some (.cells #[holdFn (w.heap.size + 1) (w.heap.size + 1 + 1) (w.heap.size + 1 + 1 + 1)] t (0, 0)))
    (hg : ((((w.alloc (.cells (sumRow root) t1)).alloc (.cells (sumRow leaf) t2)).alloc (.cells #[.slice a np c] t3)).alloc o).grownBy w0 (some (w.heap.size + 1 + 1 + 1))) :
    HoldEnv w0 (w.heap.size + 1) (w.heap.size + 1 + 1) (w.heap.size + 1 + 1 + 1) leaf a np c p ∧ Below w.heap.size w w0 ∧ w0.heap[w.heap.size]? = some (.cells (root.map V8).toArray t1 (0, 0)) := by
  have hL : Below w.heap.size w w0 := (low4 _ _ _ _ _).grown hg (by simp; omega) (fun k hk => by obtain rfl := Option.some.inj hk; omega)
  have hb := blk4 w (.cells (sumRow root) t1) (.cells (sumRow leaf) t2) (.cells #[.slice a np c] t3) o
  have hk : ∀ b x, b < w.heap.size + 1 + 1 + 1 → ((((w.alloc (.cells (sumRow root) t1)).alloc (.cells (sumRow leaf) t2)).alloc (.cells #[.slice a np c] t3)).alloc o).heap[b]? = some x → w0.heap[b]? = some x :=
    fun b x hlt hx => (hg.block b (in_heap hx) (fun e => absurd (Option.some.inj e) (Nat.ne_of_lt hlt))).trans hx
  exact ⟨⟨hT.below hL, ⟨t2, (0, 0), hk _ _ (by omega) hb.2.1⟩, cell_block (hk _ _ (by omega) hb.2.2.1) rfl, cell_block hf rfl, hl, S.below hL⟩, hL, hk _ _ (by omega) hb.1⟩

/-- An operation whose guard is known to hold goes as one without a guard. -/
theorem wpList_guarded {P : Program} {ops : Array Oper} {rest : List Oper} {o : Oper} {a : Act} {w : World} {Q : Exit → Act → World → Prop} (hg : Region.wanted o (yielded ops a.tmps) = true) (h : wpList P ops Q ({ o with guard := none } :: rest) a w) : wpList P ops Q (o :: rest) a w := by
  unfold wpList at h ⊢
  rw [if_pos hg]
  rw [if_pos (show Region.wanted { o with guard := none } (yielded ops a.tmps) = true from rfl)] at h
  exact h

set_option maxRecDepth 100000 in
set_option maxHeartbeats 1000000 in
theorem holds_any (root leaf : List UInt8) (n i : Nat) (a : Option Addr) (np c : Nat) (p : List (List UInt8)) (w : World) (hi : i < n) (hn : n < 9223372036854775808) (hnp : np < 4611686018427387904) (hr : root.length = 32) (hl : leaf.length = 32) (hT : Tabs w) (S : Sums w a np c p) :
    Calls Tryd.prog 30 #[sumV root, .int .i64 n, .int .i64 i, sumV leaf, .slice a np c] w fun e w' => e = .returned (.bool (Tree.holds root n i leaf p)) ∧ Below w.heap.size w w' := by
  have hin := fun lb pb g w (E : HoldEnv w lb pb g leaf a np c p) => holdsin_any lb pb g leaf a np c p np n i w (Nat.le_refl _) hnp (by omega) hn hi E
  have htk : p.take np = p := by rw [S.len]; simp
  rw [htk] at hin
  have Hin := Lib.hid hin
  have S' := Lib.hid S
  have Hll := Lib.hid hl
  have HRR := Lib.hid hr
  have hi1 : ¬ (i : Int) < 0 := by omega
  have hi2 : ¬ (n : Int) ≤ (i : Int) := by omega
  have hi3 : (i : Int) < (n : Int) := by omega
  have hi4 : (0 : Int) ≤ (i : Int) := by omega
  clear S hl hr htk hin
  go_enter Tryd.func30, Tryd.ntmps30
  have HB4 := Lib.hid (blk4 w (.cells (sumRow root) 29) (.cells (sumRow leaf) 29) (.cells #[.slice a np c] 31) (.cells #[.nilFunc] 69)).2.2.2
  go_upto_region 5 with (refine wpList_store_one' rfl 69 _ _ rfl rfl (w.heap.size + 1 + 1 + 1) (.func (.func 51) #[] #[.pointer (some ⟨w.heap.size + 1, 0, none⟩), .pointer (some ⟨w.heap.size + 1 + 1, 0, none⟩), .pointer (some ⟨w.heap.size + 1 + 1 + 1, 0, none⟩)]) rfl rfl rfl _ _ HB4.out (by kernel_rfl) ?_; intro w0 hf hgr; have hf' := Lib.hid hf; have hgr' := Lib.hid hgr; clear hf hgr)
  obtain ⟨E, hB, hroot⟩ := holds_env (p := p) hT S'.out Hll.out hf'.out hgr'.out
  have hc := E.fn
  have hcp := E.pathAt
  unfold holdFn at hc
  have HE := Lib.hid E
  have HB0 := Lib.hid hB
  have HRoot := Lib.hid hroot
  have hel : ∀ (r : List UInt8), r.length = 32 → ∀ W, (binOp .eql 29 (sumV r) (sumV root)).run Tryd.prog W = .ok (.bool (r == root)) W := fun r h W => eql_sumV r root W h HRR.out
  have Hel := Lib.hid hel
  clear hf' hgr' E hB hroot hel
  go_wp2_with (first | (go_at_call 51; refine (Hin.out _ _ _ _ HE.out).mono ?_; rintro e w3 ⟨r, bb, rfl, hrl, hmd, hB⟩; have HRL := Lib.hid hrl; have HMD := Lib.hid hmd; have HB3 := Lib.hid hB; clear hrl hmd hB; cases bb) | (refine wpList_store_row' rfl 29 _ _ rfl w3.heap.size (r.map V8).toArray rfl rfl _ _ (blk1 _ _) (size_sum r HRL.out) (by simp [HRL.out]) (oneCells r) ?_; intro w4 h4 g4 s4; have hr4 := (g4.block _ (in_heap (at_old _ (bblk HB3.out HRoot.out))) (fun e => absurd (Option.some.inj e) (Nat.ne_of_lt (in_heap (bblk HB3.out HRoot.out))))).trans (at_old _ (bblk HB3.out HRoot.out)); have H4 := Lib.hid h4; have HR4 := Lib.hid hr4; have G4 := Lib.hid g4; have hel := Hel.out r HRL.out; clear h4 g4 s4 hr4) | (refine wpList_guarded rfl ?_; refine wpList_load_sum rfl 29 _ rfl w3.heap.size rfl _ r 32 _ _ H4.out Tryd.underlying29 (by kernel_rfl) HRL.out ?_) | (refine wpList_guarded rfl ?_; refine wpList_load_sum rfl 29 _ rfl w.heap.size rfl _ root 32 _ _ HR4.out Tryd.underlying29 (by kernel_rfl) HRR.out ?_))
  · go_ret
    refine ⟨?_, ?_⟩
    · have : Tree.holds root n i leaf p = false := by unfold Tree.holds; rw [HMD.out]; rfl
      rw [this]; try rfl
    · exact (((HB0.out.trans (HB3.out.mono HB0.out.size)).alloc (Nat.le_trans HB0.out.size HB3.out.size) _).grown G4.out (by rw [size_alloc]; exact Nat.le_succ_of_le (Nat.le_trans HB0.out.size HB3.out.size)) (fun k hk => by obtain rfl := Option.some.inj hk; exact Nat.le_trans HB0.out.size HB3.out.size))
  · go_ret
    refine ⟨?_, ?_⟩
    · have : Tree.holds root n i leaf p = (r == root) := by unfold Tree.holds; rw [HMD.out]; rfl
      rw [this]; try rfl
    · exact (((HB0.out.trans (HB3.out.mono HB0.out.size)).alloc (Nat.le_trans HB0.out.size HB3.out.size) _).grown G4.out (by rw [size_alloc]; exact Nat.le_succ_of_le (Nat.le_trans HB0.out.size HB3.out.size)) (fun k hk => by obtain rfl := Option.some.inj hk; exact Nat.le_trans HB0.out.size HB3.out.size))
end Go.Proofs.YtpdhgijeanbmcaaDoor
