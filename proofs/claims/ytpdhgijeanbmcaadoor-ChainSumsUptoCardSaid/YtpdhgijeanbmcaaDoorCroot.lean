/- chain.Root and its closure. -/
import Derived.Test.YtpdhgijeanbmcaaDoorTree
import Derived.Great.BuildSlice
namespace Go.Proofs.YtpdhgijeanbmcaaDoor
open Go.RowKit

/-- One cell is stored into a variable of one cell; of the new world this is known. -/
theorem wpList_store_one' {P : Program} {ops : Array Oper} {rest : List Oper} {o : Oper} {a : Act} {w : World} {Q : Exit → Act → World → Prop} (hgd : o.guard = none) (ty : TypeId) (x y : Operand) (ho : o.op = .store ty x y)
    (hd : o.dst = none) (g : Nat) (v : Value) (hx : a.eval x = .pointer (some ⟨g, 0, none⟩)) (hy : a.eval y = v) (h1 : v.oneCell' = true)
    (t : TypeId) (old : Value) (hg : w.heap[g]? = some (.cells #[old] t (0, 0))) (hi : (P.info? ty).map (·.size) = some 1)
    (h : ∀ w', w'.heap[g]? = some (.cells #[v] t (0, 0)) → w.grownBy w' (some g) → wpList P ops Q rest a w') : wpList P ops Q (o :: rest) a w :=
  wpList_store_oneTo hgd ty x y ho hd g v hx hy h1 t old hg hi (h _ (setRow_heap _ _ _ _ _ _ hg) (grownBy_setRow _ _ _))

/-- The closure's variable holds the closure itself. -/
def rootFn (g : Nat) : Value := .func (.func 44) #[] #[.pointer (some ⟨g, 0, none⟩)]

set_option maxRecDepth 100000 in
set_option maxHeartbeats 2000000 in
theorem rootin_one (x : List UInt8) (a : Option Addr) (c : Nat) (p : Value) (w : World) (S : Sums w a 1 c [x]) : Calls Tryd.prog 44 #[.slice a 1 c, p] w (RetSum w (Tree.root [x])) := by
  rw [Tree.root_one]
  have Hsl := Lib.hid (S.each x (by simp))
  obtain ⟨b, o, ha, hg⟩ := S.get
  obtain rfl := ha (by omega)
  have hr : w.rangeAt b o (x.map V8) := by simpa using hg 0 (by simp)
  have Hr := Lib.hid hr
  have hcap := S.cap
  clear hr hg ha S
  go_enter Tryd.func44, Tryd.ntmps44
  go_wp2_with (first | (refine wpList_load_mid_sum rfl 29 _ rfl b o rfl x 32 _ (range_low Hr.out (low1 _ _)) Tryd.underlying29 (by kernel_rfl) Hsl.out ?_) | (refine wpList_store_sum rfl 29 _ _ rfl w.heap.size x 32 rfl rfl _ _ (blk1 _ _) (by kernel_rfl) Hsl.out rfl ?_))
  refine bodyPost_ret (results_sum rfl _ _ w.heap.size _ x 32 (0, 0) _ rfl (setRow_heap _ _ _ _ _ _ (blk1 _ _)) Tryd.underlying29 (by kernel_rfl) Hsl.out) rfl ⟨rfl, ?_⟩
  exact brow (low1 _ _) (Nat.le_refl _) _

set_option maxRecDepth 100000 in
set_option maxHeartbeats 2000000 in
theorem rootin_any : ∀ (N : Nat) (L : List (List UInt8)) (a : Option Addr) (n c g : Nat) (w : World), L.length ≤ N → 0 < L.length → L.length < 4611686018427387904 → Tabs w → Sums w a n c L → w.cell? ⟨g, 0, none⟩ = some (rootFn g) →
    Calls Tryd.prog 44 #[.slice a n c, .pointer (some ⟨g, 0, none⟩)] w (RetSum w (Tree.root L)) := by
  intro N
  induction N with
  | zero =>
    intro L a n c g w hN hpos
    omega
  | succ N ih =>
    intro L a n c g w hN hpos hlen hT S hg
    have S' := Lib.hid S
    have hn := S.len
    clear S
    by_cases h1 : n = 1
    · subst h1
      obtain ⟨x, rfl⟩ := List.length_eq_one_iff.1 hn.symm
      exact rootin_one x a c _ w S'.out
    · have hn1 : n < 4611686018427387904 := by omega
      have hkp := split_pos n
      have hkl := split_lt (show 1 < n by omega)
      have Hr := Lib.hid (Tree.root_many (l := L) (by omega))
      rw [← hn] at Hr
      have Hn := Lib.hid hn
      have Hg := Lib.hid hg
      have hcap := S'.out.cap
      have Hhalf := half_any n (by omega)
      generalize split n = k at *
      clear hn hg
      go_enter Tryd.func44, Tryd.ntmps44
      go_wp2_with (go_at_call 45; refine (Hhalf _).mono ?_; rintro e w1 ⟨rfl, rfl⟩)
      clear Hhalf
      refine wp_region_rel 10 Low (by kernel_rfl) (by kernel_rfl) Low.refl Low.trans [.is (rootFn g), .is (.slice a n c), .is (.int .i64 k), .is (.slice a k c), pSum (Tree.root (L.take k)), .is (rootFn g), .is (.slice a n c), .is (.int .i64 k), .is (.slice (a.map (·.add (k * 32))) (n - k : Nat) (c - k : Nat)), pSum (Tree.root (L.drop k))] rfl ?_
      refine .cons (fun w1 hR h => ?_) fun v14 => .cons (fun w1 hR h => ?_) fun v15 => .cons (fun w1 hR h => ?_) fun v16 => .cons (fun w1 hR h => ?_) fun v17 => .cons (fun w1 hR h => ?_) fun v18 => .cons (fun w1 hR h => ?_) fun v19 => .cons (fun w1 hR h => ?_) fun v20 => .cons (fun w1 hR h => ?_) fun v21 => .cons (fun w1 hR h => ?_) fun v22 => .cons (fun w1 hR h => ?_) fun v23 => .nil fun w1 hR h => ?_
      · have hc : w1.cell? ⟨g, 0, none⟩ = some (rootFn g) := (bthen (low1 _ _).drew hR).cell (p := ⟨g, 0, none⟩) (World.block_lt_of_cell? w _ Hg.out) |>.trans Hg.out
        unfold relOp
        go_wp2
        exact ⟨Low.refl _, rfl⟩
      · unfold relOp
        go_wp2
        exact ⟨Low.refl _, rfl⟩
      · unfold relOp
        go_wp2
        exact ⟨Low.refl _, rfl⟩
      · obtain ⟨rfl, rfl, -⟩ := h
        unfold relOp
        go_wp2
        exact ⟨Low.refl _, rfl⟩
      · obtain ⟨rfl, rfl, -⟩ := h
        unfold relOp rootFn
        go_wp2_with (go_at_call 44; refine (ih (L.take k) a k c g w1 (by have := Hn.out; simp; omega) (by have := Hn.out; simp; omega) (by have := Hn.out; simp; omega) (hT.low (bthen (low1 _ _).drew hR)) ((S'.out.take k (by omega)).low (bthen (low1 _ _).drew hR)) (((bthen (low1 _ _).drew hR).cell (p := ⟨g, 0, none⟩) (World.block_lt_of_cell? w _ Hg.out)).trans Hg.out)).mono ?_; rintro e w2 ⟨rfl, hB⟩)
        exact ⟨hB, rfl⟩
      · have hc : w1.cell? ⟨g, 0, none⟩ = some (rootFn g) := (bthen (low1 _ _).drew hR).cell (p := ⟨g, 0, none⟩) (World.block_lt_of_cell? w _ Hg.out) |>.trans Hg.out
        unfold relOp
        go_wp2
        exact ⟨Low.refl _, rfl⟩
      · unfold relOp
        go_wp2
        exact ⟨Low.refl _, rfl⟩
      · unfold relOp
        go_wp2
        exact ⟨Low.refl _, rfl⟩
      · obtain ⟨rfl, rfl, -⟩ := h
        unfold relOp
        go_wp2
        exact ⟨Low.refl _, rfl⟩
      · obtain ⟨rfl, rfl, -⟩ := h
        unfold relOp rootFn
        go_wp2_with (go_at_call 44; refine (ih (L.drop k) _ _ _ g w1 (by have := Hn.out; simp; omega) (by have := Hn.out; simp; omega) (by have := Hn.out; simp; omega) (hT.low (bthen (low1 _ _).drew hR)) ((S'.out.rest k hkl).low (bthen (low1 _ _).drew hR)) (((bthen (low1 _ _).drew hR).cell (p := ⟨g, 0, none⟩) (World.block_lt_of_cell? w _ Hg.out)).trans Hg.out)).mono ?_; rintro e w2 ⟨rfl, hB⟩)
        exact ⟨hB, rfl⟩
      · obtain ⟨rfl, rfl, rfl, rfl, rfl, rfl, rfl, rfl, rfl, rfl, -⟩ := h
        have h0 : Low w w1 := bthen (low1 _ _).drew hR
        have hr1 : w1.heap[w.heap.size]? = some (.cells (zeros8 32) 29 (0, 0)) := bblk hR (by exact blk1 _ _)
        have H0 := Lib.hid h0
        have HR1 := Lib.hid hr1
        have hl1 := Tree.root_len (L.take k) fun x hx => S'.out.each x (List.mem_of_mem_take hx)
        have hl2 := Tree.root_len (L.drop k) fun x hx => S'.out.each x (List.mem_of_mem_drop hx)
        have Hnd := Lib.hid fun w hT => node_any (Tree.root (L.take k)) (Tree.root (L.drop k)) w hT hl1 hl2
        obtain ⟨s, hs, hsl⟩ : ∃ s, s = Tree.root L ∧ s.length = 32 := ⟨_, rfl, Tree.root_len L S'.out.each⟩
        rw [show Sha.sum (1 :: (Tree.root (L.take k) ++ Tree.root (L.drop k))) = s from by rw [hs, Hr.out]; rfl] at Hnd
        have HS := Lib.hid hs
        have Hsl := Lib.hid hsl
        clear h0 hr1 hR hl1 hl2 hs hsl
        go_wp2_with (first | (go_at_call 19; refine (Hnd.out w1 (hT.low H0.out)).mono ?_; rintro e w2 ⟨rfl, hB⟩; have HB := Lib.hid hB; clear hB) | (refine wpList_store_sum rfl 29 _ _ rfl w.heap.size s 32 rfl rfl _ _ (bblk HB.out HR1.out) (by kernel_rfl) Hsl.out rfl ?_))
        refine bodyPost_ret (results_sum rfl _ _ w.heap.size _ s 32 (0, 0) _ rfl (setRow_heap _ _ _ _ _ _ (bblk HB.out HR1.out)) Tryd.underlying29 (by kernel_rfl) Hsl.out) rfl ⟨by rw [HS.out], ?_⟩
        exact brow (bthen H0.out HB.out) (Nat.le_refl _) _

theorem dsum_nil (w : World) (hT : Tabs w) : Calls Tryd.prog 41 #[.slice none 0 0] w (RetSum w (Sha.sum [])) :=
  dsum_any [] none 0 0 w rfl hT (.nil _ _) (by simp) (fun _ h => by cases h) (by simp)

set_option maxRecDepth 100000 in
set_option maxHeartbeats 2000000 in
theorem root_nil (a : Option Addr) (c : Nat) (w : World) (hT : Tabs w) : Calls Tryd.prog 21 #[.slice a 0 c] w (RetSum w (Tree.root [])) := by
  rw [Tree.root_nil]
  have hds := fun w hT => dsum_nil w hT
  obtain ⟨s, hs, hsl⟩ : ∃ s, s = Sha.sum [] ∧ s.length = 32 := ⟨_, rfl, rfl⟩
  rw [← hs] at hds ⊢
  have Hsl := Lib.hid hsl
  clear hs hsl
  go_enter Tryd.func21, Tryd.ntmps21
  go_wp2_with (first | (refine wpList_store_one' rfl 36 _ _ rfl rfl (w.heap.size + 1) (rootFn (w.heap.size + 1)) rfl rfl rfl _ _ (blk2 _ _ _).2 (by kernel_rfl) ?_; intro w0 hf hgr; have hl0 := (low2 _ _ _).grown hgr (by simp; omega) (fun k hk => by obtain rfl := Option.some.inj hk; exact Nat.le_succ _); have hb0 := (hgr.block _ (by simp; omega) (fun e => by have := Option.some.inj e; omega)).trans (blk2 _ _ _).1; have HL0 := Lib.hid hl0; have HB0 := Lib.hid hb0; clear hf hgr hl0 hb0) | (go_at_call 41; refine (hds _ (hT.below HL0.out)).mono ?_; rintro e w1 ⟨rfl, hB⟩; have HB := Lib.hid hB; clear hB) | (refine wpList_store_sum rfl 29 _ _ rfl w.heap.size s 32 rfl rfl _ _ (bblk HB.out HB0.out) (by kernel_rfl) Hsl.out rfl ?_))
  refine bodyPost_ret (results_sum rfl _ _ w.heap.size _ s 32 (0, 0) _ rfl (setRow_heap _ _ _ _ _ _ (bblk HB.out HB0.out)) Tryd.underlying29 (by kernel_rfl) Hsl.out) rfl ⟨rfl, ?_⟩
  exact brow (bthen HL0.out HB.out) (Nat.le_refl _) _

set_option maxRecDepth 100000 in
set_option maxHeartbeats 2000000 in
theorem root_any (L : List (List UInt8)) (a : Option Addr) (n c : Nat) (w : World) (hlen : L.length < 4611686018427387904) (hT : Tabs w) (S : Sums w a n c L) : Calls Tryd.prog 21 #[.slice a n c] w (RetSum w (Tree.root L)) := by
  by_cases h0 : n = 0
  · subst h0
    obtain rfl : L = [] := List.eq_nil_of_length_eq_zero S.len.symm
    exact root_nil a c w hT
  · have S' := Lib.hid S
    have hin := Lib.hid fun g w hT S hg => rootin_any L.length L a n c g w (Nat.le_refl _) (by have := S'.out.len; omega) hlen hT S hg
    obtain ⟨s, hs, hsl⟩ : ∃ s, s = Tree.root L ∧ s.length = 32 := ⟨_, rfl, Tree.root_len L S'.out.each⟩
    rw [← hs] at hin ⊢
    have Hsl := Lib.hid hsl
    clear S hs hsl
    go_enter Tryd.func21, Tryd.ntmps21
    go_wp2_with (first | (refine wpList_store_one' rfl 36 _ _ rfl rfl (w.heap.size + 1) (rootFn (w.heap.size + 1)) rfl rfl rfl _ _ (blk2 _ _ _).2 (by kernel_rfl) ?_; intro w0 hf hgr; have hc : w0.cell? ⟨w.heap.size + 1, 0, none⟩ = some (.func (.func 44) #[] #[.pointer (some ⟨w.heap.size + 1, 0, none⟩)]) := cell_block hf rfl; have hl0 := (low2 _ _ _).grown hgr (by simp; omega) (fun k hk => by obtain rfl := Option.some.inj hk; exact Nat.le_succ _); have hb0 := (hgr.block _ (by simp; omega) (fun e => by have := Option.some.inj e; omega)).trans (blk2 _ _ _).1; have HL0 := Lib.hid hl0; have HB0 := Lib.hid hb0; have HF := Lib.hid hf; clear hf hgr hl0 hb0) | (go_at_call 44; refine (hin.out (w.heap.size + 1) _ (hT.below HL0.out) (S'.out.below HL0.out) (cell_block HF.out rfl)).mono ?_; rintro e w1 ⟨rfl, hB⟩; have HB := Lib.hid hB; clear hB) | (refine wpList_store_sum rfl 29 _ _ rfl w.heap.size s 32 rfl rfl _ _ (bblk HB.out HB0.out) (by kernel_rfl) Hsl.out rfl ?_))
    refine bodyPost_ret (results_sum rfl _ _ w.heap.size _ s 32 (0, 0) _ rfl (setRow_heap _ _ _ _ _ _ (bblk HB.out HB0.out)) Tryd.underlying29 (by kernel_rfl) Hsl.out) rfl ⟨rfl, ?_⟩
    exact brow (bthen HL0.out HB.out) (Nat.le_refl _) _
end Go.Proofs.YtpdhgijeanbmcaaDoor
