/- chain.Leaf, chain.Node, wicketref25.Leaf, wicketref25.Node. -/
import Derived.Test.YtpdhgijeanbmcaaDoorCat
import Derived.Test.YtpdhgijeanbmcaaDoorDsum
import Derived.Test.YtpdhgijeanbmcaaDoorLow
namespace Go.Proofs.YtpdhgijeanbmcaaDoor
open Go.RowKit

def RetSum (w : World) (l : List UInt8) (e : Ending) (w' : World) : Prop := e = .returned (sumV l) ∧ Below w.heap.size w w'

/-- A text of n bytes and its source. -/
structure Txt (w : World) (a : Option Addr) (n c : Nat) (l : List UInt8) : Prop where
  len : n = l.length
  src : Src w a c l
theorem Txt.below {w w' : World} {a : Option Addr} {n c : Nat} {l : List UInt8} (h : Txt w a n c l) (hb : Below w.heap.size w w') : Txt w' a n c l := ⟨h.len, h.src.below hb⟩
theorem Txt.of_block {w : World} {b n : Nat} {l : List UInt8} {t : TypeId} {fr : Nat × Nat} (h : w.heap[b]? = some (.cells (l.map V8).toArray t fr)) (hn : n = l.length) : Txt w (some ⟨b, 0, none⟩) n n l :=
  ⟨hn, ⟨fun h0 => ⟨b, 0, rfl, fun j hj => cell_block h (by simp [byteF, List.getD, hj])⟩⟩, by omega, fun h => by (cases h), fun ad had => ⟨b, 0, (Option.some.inj had).symm, in_heap h⟩⟩
theorem Txt.of_one {w : World} {b : Nat} {x : UInt8} {v : Value} {t : TypeId} {fr : Nat × Nat} (h : w.heap[b]? = some (.cells #[v] t fr)) (hv : v = V8 x) : Txt w (some ⟨b, 0, none⟩) 1 1 [x] := by
  subst hv
  exact Txt.of_block h rfl

/-- A literal list of two texts. -/
theorem concat2 {w : World} {b : Nat} {t : TypeId} {a1 a2 : Option Addr} {n1 n2 c1 c2 : Nat} (l1 l2 : List UInt8) (h : w.heap[b]? = some (.cells #[.slice a1 n1 c1, .slice a2 n2 c2] t (0, 0))) (h1 : Txt w a1 n1 c1 l1) (h2 : Txt w a2 n2 c2 l2)
    (hlen : l1.length + l2.length ≤ 70368744177664) (hpos : 0 < l1.length + l2.length) :
    Calls Tryd.prog 42 #[.slice (some ⟨b, 0, none⟩) 2 2] w (RetB w (l1.length + l2.length) (l1 ++ l2)) := by
  have e1 : tot [⟨a1, c1, l1⟩, ⟨a2, c2, l2⟩] 2 = l1.length + l2.length := by simp [tot]
  have e2 : cat [⟨a1, c1, l1⟩, ⟨a2, c2, l2⟩] 2 = l1 ++ l2 := by simp [cat]
  have := concat_any [⟨a1, c1, l1⟩, ⟨a2, c2, l2⟩] b 2 w rfl ⟨in_heap h, fun k hk => by
    have : k = 0 ∨ k = 1 := by simp at hk; omega
    rcases this with rfl | rfl
    · rw [cell_block h rfl, h1.len]; rfl
    · rw [cell_block h rfl, h2.len]; rfl, fun k hk => by
    have : k = 0 ∨ k = 1 := by simp at hk; omega
    rcases this with rfl | rfl
    · exact h1.src
    · exact h2.src⟩ (by show tot _ 2 ≤ _; rw [e1]; exact hlen) (by omega) (by show 0 < tot _ 2; rw [e1]; exact hpos)
  have e3 : ([⟨a1, c1, l1⟩, ⟨a2, c2, l2⟩] : List Part).length = 2 := rfl
  rw [e3, e1, e2] at this
  exact this
theorem concat3 {w : World} {b : Nat} {t : TypeId} {a1 a2 a3 : Option Addr} {n1 n2 n3 c1 c2 c3 : Nat} (l1 l2 l3 : List UInt8) (h : w.heap[b]? = some (.cells #[.slice a1 n1 c1, .slice a2 n2 c2, .slice a3 n3 c3] t (0, 0))) (h1 : Txt w a1 n1 c1 l1) (h2 : Txt w a2 n2 c2 l2)
    (h3 : Txt w a3 n3 c3 l3) (hlen : l1.length + l2.length + l3.length ≤ 70368744177664) (hpos : 0 < l1.length + l2.length + l3.length) :
    Calls Tryd.prog 42 #[.slice (some ⟨b, 0, none⟩) 3 3] w (RetB w (l1.length + l2.length + l3.length) (l1 ++ l2 ++ l3)) := by
  have e1 : tot [⟨a1, c1, l1⟩, ⟨a2, c2, l2⟩, ⟨a3, c3, l3⟩] 3 = l1.length + l2.length + l3.length := by simp [tot, Nat.add_assoc]
  have e2 : cat [⟨a1, c1, l1⟩, ⟨a2, c2, l2⟩, ⟨a3, c3, l3⟩] 3 = l1 ++ l2 ++ l3 := by simp [cat]
  have := concat_any [⟨a1, c1, l1⟩, ⟨a2, c2, l2⟩, ⟨a3, c3, l3⟩] b 3 w rfl ⟨in_heap h, fun k hk => by
    have : k = 0 ∨ k = 1 ∨ k = 2 := by simp at hk; omega
    rcases this with rfl | rfl | rfl
    · rw [cell_block h rfl, h1.len]; rfl
    · rw [cell_block h rfl, h2.len]; rfl
    · rw [cell_block h rfl, h3.len]; rfl, fun k hk => by
    have : k = 0 ∨ k = 1 ∨ k = 2 := by simp at hk; omega
    rcases this with rfl | rfl | rfl
    · exact h1.src
    · exact h2.src
    · exact h3.src⟩ (by show tot _ 3 ≤ _; rw [e1]; exact hlen) (by omega) (by show 0 < tot _ 3; rw [e1]; exact hpos)
  have e3 : ([⟨a1, c1, l1⟩, ⟨a2, c2, l2⟩, ⟨a3, c3, l3⟩] : List Part).length = 3 := rfl
  rw [e3, e1, e2] at this
  exact this

set_option maxRecDepth 100000 in
set_option maxHeartbeats 2000000 in
theorem leaf_any (l : List UInt8) (a : Option Addr) (m c : Nat) (w : World) (hT : Tabs w) (S : Txt w a m c l) (hlen : l.length < 70368744177663) :
    Calls Tryd.prog 17 #[.slice a m c] w (RetSum w (Sha.sum (0 :: l))) := by
  have S' := Lib.hid S
  clear S
  have hlen1 : (0 :: l).length < 1152921504606846976 := by simp; omega
  have hlen2 : ([0] : List UInt8).length + l.length ≤ 70368744177664 := by simp; omega
  have hlen3 : 0 < ([0] : List UInt8).length + l.length := by simp; omega
  go_enter Tryd.func17, Tryd.ntmps17
  go_wp2_with (first | (go_at_call 42; refine (concat2 [0] l (blk3 _ _ _ _).2.2 (.of_one (blk3 _ _ _ _).2.1 rfl) (S'.out.below (low3 _ _ _ _)) hlen2 hlen3).mono ?_; rintro e w1 ⟨B, C, rfl, hacc⟩; have HA := Lib.hid hacc; clear hacc) | (go_at_call 41; refine (dsum_any (0 :: l) B _ C w1 HA.out.len (hT.below (bthen (low3 _ _ _ _) HA.out.low)) HA.out.src.at_ HA.out.src.cap HA.out.src.lt hlen1).mono ?_; rintro e w2 ⟨rfl, hB⟩; have HB2 := Lib.hid hB; clear hB) | (refine wpList_store_sum rfl 29 _ _ rfl w.heap.size (Sha.sum (0 :: l)) 32 rfl rfl _ _ (bblk HB2.out (bblk HA.out.low (blk3 _ _ _ _).1)) (by kernel_rfl) rfl rfl ?_))
  refine bodyPost_ret (results_sum rfl _ _ w.heap.size _ (Sha.sum (0 :: l)) 32 (0, 0) _ rfl (setRow_heap _ _ _ _ _ _ (bblk HB2.out (bblk HA.out.low (blk3 _ _ _ _).1))) Tryd.underlying29 (by kernel_rfl) rfl) rfl ⟨rfl, ?_⟩
  exact brow (bthen (bthen (low3 _ _ _ _) HA.out.low) HB2.out) (Nat.le_refl _) _
set_option maxRecDepth 100000 in
set_option maxHeartbeats 2000000 in
theorem rleaf_any (l : List UInt8) (a : Option Addr) (m c : Nat) (w : World) (hT : Tabs w) (S : Txt w a m c l) (hlen : l.length < 70368744177663) :
    Calls Tryd.prog 40 #[.slice a m c] w (RetSum w (Sha.sum (0 :: l))) := by
  have S' := Lib.hid S
  clear S
  have z1 : 1 + m ≤ maxLen := by have := S'.out.len; unfold maxLen; omega
  have z2 : (1 + m) * 1 ≤ 140737488355328 := by have := S'.out.len; omega
  have hlen1 : (0 :: l).length < 70368744177664 := by simp; omega
  go_enter Tryd.func40, Tryd.ntmps40
  go_wp2_with (first | (at_builtin; refine wpList_acc rfl _ _ 22 rfl 5 1 1 _ Tryd.underlying22 info_u8' rfl (by decide) _ (w.heap.size + 1) (some ⟨w.heap.size + 1, 0, none⟩) 1 1 [V8 0] rfl (Acc.lit' (by simp) #[V8 0] 1 (Below.refl _ _) (by simp) (by decide) rfl) a m c (l.map V8) rfl (by simp [S'.out.len]) (S'.out.below (low2 _ _ _)).src.at_.cells S'.out.src.nil S'.out.src.od (ones' l) z1 z2 ?_; intro B1 D1 w1 hacc hg hnew; have HA := Lib.hid (show Acc 5 1 _ w1 _ B1 D1 (1 + m) ((0 :: l).map V8) from hacc); clear hacc hg hnew) | (go_at_call 43; refine (rsum_any (0 :: l) B1 _ D1 w1 HA.out.len (hT.below ((low1 _ _).trans (HA.out.low.mono (Nat.le_succ _)))) HA.out.src hlen1).mono ?_; rintro e w2 ⟨rfl, hB⟩; have HB2 := Lib.hid hB; clear hB) | (refine wpList_store_sum rfl 29 _ _ rfl w.heap.size (Sha.sum (0 :: l)) 32 rfl rfl _ _ (bblk HB2.out ((HA.out.low.block _ (Nat.lt_succ_self _)).trans (blk1 _ _))) (by kernel_rfl) rfl rfl ?_))
  refine bodyPost_ret (results_sum rfl _ _ w.heap.size _ (Sha.sum (0 :: l)) 32 (0, 0) _ rfl (setRow_heap _ _ _ _ _ _ (bblk HB2.out ((HA.out.low.block _ (Nat.lt_succ_self _)).trans (blk1 _ _)))) Tryd.underlying29 (by kernel_rfl) rfl) rfl ⟨rfl, ?_⟩
  exact brow (bthen ((low1 _ _).trans (HA.out.low.mono (Nat.le_succ _))) HB2.out) (Nat.le_refl _) _

def sumRow (l : List UInt8) : Array Value := (l.map V8).toArray
@[go_sem] theorem match_sumV (l : List UInt8) : Value.cells.match_1 (fun _ => Array Value) (sumV l) (fun cs => cs) (fun v => #[v]) = sumRow l := rfl
@[go_sem high] theorem cells_sumV (l : List UInt8) : (sumV l).cells = sumRow l := rfl
theorem sum_len (l : List UInt8) : (Sha.sum l).length = 32 := rfl
theorem run_storeSum {P : Program} (w : World) (g : Nat) (t : TypeId) (old : Array Value) (l : List UInt8) (hg : w.heap[g]? = some (.cells old t (0, 0))) (ho : old.size = l.length) :
    (storeCells ⟨g, 0, none⟩ (sumRow l).toList).run P w = .ok () (w.setRow g (sumRow l)) := by
  have := run_storeCells_from (P := P) g t (sumRow l).toList 0 old w hg (by simp [sumRow]; omega) (fun v hv => (Array.all_eq_true_iff_forall_mem.1 (oneCells l)) v (by simpa [sumRow] using hv))
  rw [this]
  simp [sumRow]

set_option maxRecDepth 100000 in
set_option maxHeartbeats 2000000 in
theorem node_any (x y : List UInt8) (w : World) (hT : Tabs w) (hx : x.length = 32) (hy : y.length = 32) :
    Calls Tryd.prog 19 #[sumV x, sumV y] w (RetSum w (Sha.sum (1 :: (x ++ y)))) := by
  obtain ⟨z, hz⟩ : ∃ z, z = ([1] : List UInt8) ++ x ++ y := ⟨_, rfl⟩
  have hlen1 : z.length < 1152921504606846976 := by rw [hz]; simp; omega
  have hlen2 : ([1] : List UInt8).length + x.length + y.length ≤ 70368744177664 := by simp; omega
  have hlen3 : 0 < ([1] : List UInt8).length + x.length + y.length := by simp; omega
  have HL0 := Lib.hid (show 65 = z.length by rw [hz]; simp [hx, hy])
  have hz' : (1 :: (x ++ y) : List UInt8) = z := by rw [hz]; rfl
  rw [hz']
  have HZ := Lib.hid hz
  clear hz hz'
  go_enter Tryd.func19, Tryd.ntmps19
  go_wp2_with fail
  refine wp_region_rel 3 Low (by kernel_rfl) (by kernel_rfl) Low.refl Low.trans [pRow 1 #[.int .u8 1] 5, .is (.slice (some ⟨w.heap.size, 0, none⟩) 32 32), .is (.slice (some ⟨w.heap.size + 1, 0, none⟩) 32 32)] rfl ?_
  refine .cons (fun w1 hR h => ?_) fun v5 => .cons (fun w1 hR h => ?_) fun v6 => .cons (fun w1 hR h => ?_) fun v7 => .nil fun w1 hR h => ?_
  · unfold relOp
    go_wp2
    exact ⟨low1 _ _, _, rfl, blk1 _ _⟩
  · unfold relOp
    go_wp2
    exact ⟨Low.refl _, rfl⟩
  · unfold relOp
    go_wp2
    exact ⟨Low.refl _, rfl⟩
  · obtain ⟨⟨b, rfl, hb⟩, rfl, rfl, -⟩ := h
    have h0 : Low w w1 := bthen (by exact (low3 _ _ _ _).drew) hR
    have hx1 : w1.heap[w.heap.size]? = some (.cells (x.map V8).toArray 29 (0, 0)) := bblk hR (by exact (blk3 _ _ _ _).1)
    have hy1 : w1.heap[w.heap.size + 1]? = some (.cells (y.map V8).toArray 29 (0, 0)) := bblk hR (by exact (blk3 _ _ _ _).2.1)
    have hr1 : w1.heap[w.heap.size + 1 + 1]? = some (.cells (zeros8 32) 29 (0, 0)) := bblk hR (by exact (blk3 _ _ _ _).2.2)
    have HX := Lib.hid hx1
    have HY := Lib.hid hy1
    have HR := Lib.hid hr1
    have HB := Lib.hid hb
    have H0 := Lib.hid h0
    clear hx1 hy1 hr1 hb h0 hR
    go_wp2_with (first | (go_at_call 42; refine (concat3 [1] x y (by exact blk1 _ _) (.of_one (at_old _ HB.out) rfl) (.of_block (at_old _ HX.out) hx.symm) (.of_block (at_old _ HY.out) hy.symm) hlen2 hlen3).mono ?_; rintro e w2 ⟨B, C, rfl, hacc⟩; rw [← HZ.out] at hacc; have HA := Lib.hid hacc; clear hacc) | (go_at_call 41; refine (dsum_any z B 65 C w2 HL0.out (hT.below (bthen H0.out (bthen (low1 _ _) HA.out.low))) HA.out.src.at_ HA.out.src.cap HA.out.src.lt hlen1).mono ?_; rintro e w3 ⟨rfl, hB⟩; have HB2 := Lib.hid hB; clear hB) | (refine wpList_store_sum rfl 29 _ _ rfl (w.heap.size + 1 + 1) (Sha.sum z) 32 rfl rfl _ _ (bblk HB2.out (bblk HA.out.low (at_old _ HR.out))) (by kernel_rfl) rfl rfl ?_))
    refine bodyPost_ret (results_sum rfl _ _ (w.heap.size + 1 + 1) _ (Sha.sum z) 32 (0, 0) _ rfl (setRow_heap _ _ _ _ _ _ (bblk HB2.out (bblk HA.out.low (at_old _ HR.out)))) Tryd.underlying29 (by kernel_rfl) rfl) rfl ⟨rfl, ?_⟩
    exact brow (bthen (bthen H0.out (bthen (low1 _ _) HA.out.low)) HB2.out) (by omega) _
end Go.Proofs.YtpdhgijeanbmcaaDoor
