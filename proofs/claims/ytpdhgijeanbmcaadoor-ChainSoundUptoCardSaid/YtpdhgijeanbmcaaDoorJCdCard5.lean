/- chain.Path. -/
import Derived.WalkMore
import Derived.Test.YtpdhgijeanbmcaaDoorJCdCard4
/- Up -/
namespace Go.Proofs.YtpdhgijeanbmcaaDoor
open Go.RowKit Go.Great

theorem rnode_some' (x y s : List UInt8) (w : World) (hs : s = Tree.node x y) (hT : Tabs w) (hx : x.length = 32) (hy : y.length = 32) :
    Calls Tryd.prog 20 #[sumV x, sumV y] w fun e w' => e = .returned (sumV s) ∧ Below w.heap.size w w' := by
  subst hs
  exact (rnode_any x y w hT hx hy).mono fun _ _ ⟨h1, h2⟩ => ⟨h1, h2⟩
theorem wpList_eql_sums {ops : Array Oper} {rest : List Oper} {o : Oper} {a : Act} {w : World} {Q : Exit → Act → World → Prop} (hg : Region.wanted o (yielded ops a.tmps) = true) (x y : Operand) (t2 : TypeId) (ho : o.op = .binOp .eql 29 x y t2) (d e : List UInt8) (hx : a.eval x = sumV d) (hy : a.eval y = sumV e) (bb : Bool) (hd : d.length = 32) (he : e.length = 32) (hq : (d == e) = bb)
    (h : wpList Tryd.prog ops Q rest (a.put o.dst (.bool bb)) w) : wpList Tryd.prog ops Q (o :: rest) a w := by
  unfold wpList
  rw [if_pos hg]
  left
  unfold Oper.wp
  have hex : execOp a.eval o = valS (binS .eql 29 x y (sumV d) (sumV e)) := by
    unfold execOp
    rw [ho]
    simp only [hx, hy]
    rfl
  rw [hex, run_valS (run_eql_sums w x y d e bb hd he hq)]
  exact h
theorem run_int_sub2 {P : Program} (w : World) (t : TypeId) (p q : Operand) (a b c : Int) (hc : a - b = c) (h : -9223372036854775808 ≤ c ∧ c ≤ 9223372036854775807) : (binS .sub t p q (.int .i64 a) (.int .i64 b)).run P w = .ok (.int .i64 c) w := by
  rw [← hc] at h ⊢
  exact run_int_sub w t p q a b h

set_option maxRecDepth 100000 in
set_option maxHeartbeats 4000000 in
theorem up_one (n i : Nat) (leaf : List UInt8) (a : Option Addr) (np c : Nat) (p : List (List UInt8)) (w : World) (hn : n ≤ 1) (hl : leaf.length = 32) (S : Sums w a np c p) :
    Calls Tryd.prog 55 #[.int .i64 n, .int .i64 i, sumV leaf, .slice a np c] w (RetSum w (Tree.up n i leaf p)) := by
  have Hl := Lib.hid hl
  have Hpl := Lib.hid S.len
  have h1 : (n : Int) ≤ 1 := by omega
  have HBk := Lib.hid (blk2 w (.cells (sumRow leaf) 29) (.cells (zeros8 32) 29))
  have HLk := Lib.hid (low2 w (.cells (sumRow leaf) 29) (.cells (zeros8 32) 29))
  clear S hl
  rw [Tree.up_one n i leaf p hn]
  go_enter Tryd.func55, Tryd.ntmps55
  go_wp2_with (first | (refine wpList_load_sum rfl 29 _ rfl w.heap.size rfl _ leaf 32 _ _ HBk.out.1 Tryd.underlying29 (by kernel_rfl) Hl.out ?_) | (refine wpList_store_sum rfl 29 _ _ rfl (w.heap.size + 1) leaf 32 rfl rfl _ _ HBk.out.2 (by kernel_rfl) Hl.out rfl ?_))
  refine bodyPost_ret (results_sum rfl _ _ (w.heap.size + 1) _ leaf 32 (0, 0) _ rfl (setRow_heap _ _ _ _ _ _ HBk.out.2) Tryd.underlying29 (by kernel_rfl) Hl.out) rfl ⟨rfl, brow HLk.out (by omega) _⟩

set_option maxRecDepth 100000 in
set_option maxHeartbeats 4000000 in
theorem up_zero (n i : Nat) (leaf : List UInt8) (a : Option Addr) (np c : Nat) (p : List (List UInt8)) (w : World) (hn : 1 < n) (hp : np = 0) (hl : leaf.length = 32) (S : Sums w a np c p) :
    Calls Tryd.prog 55 #[.int .i64 n, .int .i64 i, sumV leaf, .slice a np c] w (RetSum w (Tree.up n i leaf p)) := by
  have Hl := Lib.hid hl
  have Hpl := Lib.hid S.len
  subst hp
  have h1 : ¬ (n : Int) ≤ 1 := by omega
  have HBk := Lib.hid (blk2 w (.cells (sumRow leaf) 29) (.cells (zeros8 32) 29))
  have HLk := Lib.hid (low2 w (.cells (sumRow leaf) 29) (.cells (zeros8 32) 29))
  clear S hl
  rw [(show p = [] from List.eq_nil_of_length_eq_zero Hpl.out.symm), Tree.up_zero]
  go_enter Tryd.func55, Tryd.ntmps55
  go_wp2_with (first | (refine wpList_load_sum rfl 29 _ rfl w.heap.size rfl _ leaf 32 _ _ HBk.out.1 Tryd.underlying29 (by kernel_rfl) Hl.out ?_) | (refine wpList_store_sum rfl 29 _ _ rfl (w.heap.size + 1) leaf 32 rfl rfl _ _ HBk.out.2 (by kernel_rfl) Hl.out rfl ?_))
  refine bodyPost_ret (results_sum rfl _ _ (w.heap.size + 1) _ leaf 32 (0, 0) _ rfl (setRow_heap _ _ _ _ _ _ HBk.out.2) Tryd.underlying29 (by kernel_rfl) Hl.out) rfl ⟨rfl, brow HLk.out (by omega) _⟩

set_option maxRecDepth 100000 in
set_option maxHeartbeats 4000000 in
theorem up_step_left (n i u : Nat) (leaf : List UInt8) (a : Option Addr) (c : Nat) (p : List (List UInt8)) (w : World) (hup : u + 1 < 4611686018427387904) (hn1 : 1 < n) (hi63 : i < 9223372036854775808) (hn63 : n < 9223372036854775808) (hik : i < split n) (hl : leaf.length = 32) (hT : Tabs w) (S : Sums w a (u + 1) c p)
    (ih : ∀ w', Tabs w' → Sums w' a u c (p.take u) → Calls Tryd.prog 55 #[.int .i64 (split n), .int .i64 i, sumV leaf, .slice a u c] w' (RetSum w' (Tree.up (split n) i leaf (p.take u)))) :
    Calls Tryd.prog 55 #[.int .i64 n, .int .i64 i, sumV leaf, .slice a (u + 1) c] w (RetSum w (Tree.up n i leaf p)) := by
  have Hl := Lib.hid hl
  have hpl := S.len
  have hup' : u < p.length := by omega
  have hkp := split_pos n
  have hkl := split_lt hn1
  have Hb := Lib.hid (Tree.up_left n i leaf p u hup' (by omega) hik)
  rw [List.take_of_length_le (show p.length ≤ u + 1 by omega)] at Hb
  have Hhalf := split_any n (by omega)
  obtain ⟨b, o, ha, hget⟩ := S.get
  obtain rfl := ha (by omega)
  have hx := hget u hup'
  have hxl := S.each p[u] (by simp)
  obtain ⟨x, hxe⟩ : ∃ x, x = p[u] := ⟨_, rfl⟩
  rw [← hxe] at hx hxl Hb
  generalize split n = k at *
  have hdl := Tree.up_len k i leaf (p.take u) hl
  obtain ⟨d, hd⟩ : ∃ d, d = Tree.up k i leaf (p.take u) := ⟨_, rfl⟩
  rw [← hd] at hdl Hb ih
  obtain ⟨s, hs, hsl⟩ : ∃ s, s = Tree.node d x ∧ s.length = 32 := ⟨_, rfl, rfl⟩
  have HD := Lib.hid hdl
  have Hs := Lib.hid hs
  have HSl := Lib.hid hsl
  have Ih := Lib.hid ih
  have HT := Lib.hid hT
  have HS := Lib.hid (S.take u (by omega))
  clear ih hd hdl hs hsl
  have HX := Lib.hid hx
  have HXL := Lib.hid hxl
  have hcap := S.cap
  have e1 : ((u + 1 : Nat) : Int) - 1 = (u : Int) := by omega
  have hu9 : ((u : Int) + 1 == 0) = false := by simp; omega
  have hu8 : ¬ ((u : Int) + 1) = 0 := by omega
  have hn2 : ¬ (n : Int) ≤ 1 := by omega
  have hunp : (u : Int) < (u : Int) + 1 := by omega
  have hik2 : (i : Int) < (k : Int) := by omega
  have hik3 : (i : Int) < (k : Int) := by omega
  have HBk := Lib.hid (blk2 w (.cells (sumRow leaf) 29) (.cells (zeros8 32) 29))
  have HLk := Lib.hid (low2 w (.cells (sumRow leaf) 29) (.cells (zeros8 32) 29))
  clear hx hxl hget ha S hxe hup' hpl hl hT
  go_enter Tryd.func55, Tryd.ntmps55
  go_wp2_with (first | (go_at_call 46; refine (Hhalf _).mono ?_; rintro e w1 ⟨rfl, rfl⟩) | (refine wpList_load_mid_sum rfl 29 _ rfl b (o + u * 32) rfl x 32 _ (range_low HX.out HLk.out) Tryd.underlying29 (by kernel_rfl) HXL.out ?_) | (refine wpList_store_box rfl _ _ rfl (w.heap.size + 1 + 1) rfl x rfl _ rfl rfl (by simp) HXL.out ?_; intro w2 hL2 hb2; have hw2 := bthen HLk.out hL2; have HW2 := Lib.hid hw2; have HX2 := Lib.hid hb2; have HF2 := Lib.hid (bblk hL2 HBk.out.1); have HR2 := Lib.hid (bblk hL2 HBk.out.2); clear hL2 hb2 hw2))
  refine wp_region_reg 7 54 (Low) (by kernel_rfl) (by kernel_rfl) (by kernel_rfl) (by kernel_rfl) (by kernel_rfl) (Low.refl) (Low.trans) [.is (.int .i64 k : Value), .is (.int .i64 i : Value), .is (sumV leaf), .is (.slice (some ⟨b, o, none⟩) u c : Value), .is (sumV d), .is (sumV x), .is (sumV s)] rfl (fun vs => ?_) (fun vs wr hR h => ?_)
  · refine RegHead.cons (fun wr hR h => ?_) ?_
    · exact relAt.pure (Low.refl) (by kernel_rfl) (by kernel_rfl)
    refine RegHead.cons (fun wr hR h => ?_) ?_
    · exact relAt.pure (Low.refl) (by kernel_rfl) (by kernel_rfl)
    refine RegHead.cons (fun wr hR h => ?_) ?_
    · exact relAt.pureS (Low.refl) (by kernel_rfl) (by kernel_rfl) (run_load_box_sum wr w.heap.size _ _ leaf (bblk (bthen (Low.drew _) hR) HF2.out) Hl.out)
    refine RegHead.cons (fun wr hR h => ?_) ?_
    · exact relAt.pure (Low.refl) (by kernel_rfl) (by kernel_rfl)
    refine RegHead.cons (fun wr hR h => ?_) ?_
    · refine relAt.call (by kernel_rfl) (by kernel_rfl) ((Ih.out wr (HT.out.below (bthen HW2.out (bthen (Low.drew _) hR))) (HS.out.below (bthen HW2.out (bthen (Low.drew _) hR)))).mono ?_)
      rintro e w9 ⟨rfl, hB9⟩
      exact ⟨_, rfl, hB9, rfl⟩
    refine RegHead.cons (fun wr hR h => ?_) ?_
    · exact relAt.pureS (Low.refl) (by kernel_rfl) (by kernel_rfl) (run_load_box_sum wr (w.heap.size + 1 + 1) _ _ x (bblk (bthen (Low.drew _) hR) HX2.out) HXL.out)
    refine RegHead.cons (fun wr hR h => ?_) ?_
    · refine relAt.call (by kernel_rfl) (by kernel_rfl) ((rnode_some' d x s wr Hs.out (HT.out.below (bthen HW2.out (bthen (Low.drew _) hR))) HD.out HXL.out).mono ?_)
      rintro e w9 ⟨rfl, hB9⟩
      exact ⟨_, rfl, hB9, rfl⟩
    exact trivial
  · have HR4 := Lib.hid (bthen HW2.out (bthen (Low.drew _) hR))
    have HRb := Lib.hid (bblk (bthen (Low.drew _) hR) HR2.out)
    clear h hR
    refine wp_frame (new := [(.int .i64 k : Value), (.int .i64 i : Value), (sumV leaf), (.slice (some ⟨b, o, none⟩) u c : Value), (sumV d), (sumV x), (sumV s)]) 36 43 (by kernel_rfl) ?_
    simp only [List.take, List.drop, List.cons_append, List.nil_append]
    go_wp2_with (refine wpList_store_sum rfl 29 _ _ rfl (w.heap.size + 1) s 32 rfl rfl _ _ HRb.out (by kernel_rfl) HSl.out rfl ?_)
    refine bodyPost_ret (results_sum rfl _ _ (w.heap.size + 1) _ s 32 (0, 0) _ rfl (setRow_heap _ _ _ _ _ _ HRb.out) Tryd.underlying29 (by kernel_rfl) HSl.out) rfl ⟨by rw [Hb.out, Hs.out], brow HR4.out (by omega) _⟩

set_option maxRecDepth 100000 in
set_option maxHeartbeats 4000000 in
theorem up_step_right (n i u : Nat) (leaf : List UInt8) (a : Option Addr) (c : Nat) (p : List (List UInt8)) (w : World) (hup : u + 1 < 4611686018427387904) (hn1 : 1 < n) (hi63 : i < 9223372036854775808) (hn63 : n < 9223372036854775808) (hik : ¬ i < split n) (hl : leaf.length = 32) (hT : Tabs w) (S : Sums w a (u + 1) c p)
    (ih : ∀ w', Tabs w' → Sums w' a u c (p.take u) → Calls Tryd.prog 55 #[.int .i64 (n - split n : Nat), .int .i64 (i - split n : Nat), sumV leaf, .slice a u c] w' (RetSum w' (Tree.up (n - split n) (i - split n) leaf (p.take u)))) :
    Calls Tryd.prog 55 #[.int .i64 n, .int .i64 i, sumV leaf, .slice a (u + 1) c] w (RetSum w (Tree.up n i leaf p)) := by
  have Hl := Lib.hid hl
  have hpl := S.len
  have hup' : u < p.length := by omega
  have hkp := split_pos n
  have hkl := split_lt hn1
  have Hb := Lib.hid (Tree.up_right n i leaf p u hup' (by omega) hik)
  rw [List.take_of_length_le (show p.length ≤ u + 1 by omega)] at Hb
  have Hhalf := split_any n (by omega)
  obtain ⟨b, o, ha, hget⟩ := S.get
  obtain rfl := ha (by omega)
  have hx := hget u hup'
  have hxl := S.each p[u] (by simp)
  obtain ⟨x, hxe⟩ : ∃ x, x = p[u] := ⟨_, rfl⟩
  rw [← hxe] at hx hxl Hb
  generalize split n = k at *
  rw [show ((n - k : Nat) : Int) = (n : Int) - (k : Int) by omega, show ((i - k : Nat) : Int) = (i : Int) - (k : Int) by omega] at ih
  have hdl := Tree.up_len (n - k) (i - k) leaf (p.take u) hl
  obtain ⟨d, hd⟩ : ∃ d, d = Tree.up (n - k) (i - k) leaf (p.take u) := ⟨_, rfl⟩
  rw [← hd] at hdl Hb ih
  obtain ⟨s, hs, hsl⟩ : ∃ s, s = Tree.node x d ∧ s.length = 32 := ⟨_, rfl, rfl⟩
  have HD := Lib.hid hdl
  have Hs := Lib.hid hs
  have HSl := Lib.hid hsl
  have Ih := Lib.hid ih
  have HT := Lib.hid hT
  have HS := Lib.hid (S.take u (by omega))
  clear ih hd hdl hs hsl
  have HX := Lib.hid hx
  have HXL := Lib.hid hxl
  have hcap := S.cap
  have e1 : ((u + 1 : Nat) : Int) - 1 = (u : Int) := by omega
  have hu9 : ((u : Int) + 1 == 0) = false := by simp; omega
  have hu8 : ¬ ((u : Int) + 1) = 0 := by omega
  have hn2 : ¬ (n : Int) ≤ 1 := by omega
  have hunp : (u : Int) < (u : Int) + 1 := by omega
  have hik2 : ¬ (i : Int) < (k : Int) := by omega
  have hik3 : (k : Int) ≤ (i : Int) := by omega
  have HBk := Lib.hid (blk2 w (.cells (sumRow leaf) 29) (.cells (zeros8 32) 29))
  have HLk := Lib.hid (low2 w (.cells (sumRow leaf) 29) (.cells (zeros8 32) 29))
  clear hx hxl hget ha S hxe hup' hpl hl hT
  go_enter Tryd.func55, Tryd.ntmps55
  go_wp2_with (first | (go_at_call 46; refine (Hhalf _).mono ?_; rintro e w1 ⟨rfl, rfl⟩) | (refine wpList_load_mid_sum rfl 29 _ rfl b (o + u * 32) rfl x 32 _ (range_low HX.out HLk.out) Tryd.underlying29 (by kernel_rfl) HXL.out ?_) | (refine wpList_store_box rfl _ _ rfl (w.heap.size + 1 + 1) rfl x rfl _ rfl rfl (by simp) HXL.out ?_; intro w2 hL2 hb2; have hw2 := bthen HLk.out hL2; have HW2 := Lib.hid hw2; have HX2 := Lib.hid hb2; have HF2 := Lib.hid (bblk hL2 HBk.out.1); have HR2 := Lib.hid (bblk hL2 HBk.out.2); clear hL2 hb2 hw2))
  refine wp_region_reg 11 54 (Low) (by kernel_rfl) (by kernel_rfl) (by kernel_rfl) (by kernel_rfl) (by kernel_rfl) (Low.refl) (Low.trans) [.is (sumV x), .is (.int .i64 n : Value), .is (.int .i64 k : Value), .is (.int .i64 ((n : Int) - (k : Int)) : Value), .is (.int .i64 i : Value), .is (.int .i64 k : Value), .is (.int .i64 ((i : Int) - (k : Int)) : Value), .is (sumV leaf), .is (.slice (some ⟨b, o, none⟩) u c : Value), .is (sumV d), .is (sumV s)] rfl (fun vs => ?_) (fun vs wr hR h => ?_)
  · refine RegHead.cons (fun wr hR h => ?_) ?_
    · exact relAt.pureS (Low.refl) (by kernel_rfl) (by kernel_rfl) (run_load_box_sum wr (w.heap.size + 1 + 1) _ _ x (bblk (bthen (Low.drew _) hR) HX2.out) HXL.out)
    refine RegHead.cons (fun wr hR h => ?_) ?_
    · exact relAt.pure (Low.refl) (by kernel_rfl) (by kernel_rfl)
    refine RegHead.cons (fun wr hR h => ?_) ?_
    · exact relAt.pure (Low.refl) (by kernel_rfl) (by kernel_rfl)
    refine RegHead.cons (fun wr hR h => ?_) ?_
    · exact relAt.pureS (Low.refl) (by kernel_rfl) (by kernel_rfl) (run_int_sub wr 3 (.tmp 44) (.tmp 45) _ _ (by omega))
    refine RegHead.cons (fun wr hR h => ?_) ?_
    · exact relAt.pure (Low.refl) (by kernel_rfl) (by kernel_rfl)
    refine RegHead.cons (fun wr hR h => ?_) ?_
    · exact relAt.pure (Low.refl) (by kernel_rfl) (by kernel_rfl)
    refine RegHead.cons (fun wr hR h => ?_) ?_
    · exact relAt.pureS (Low.refl) (by kernel_rfl) (by kernel_rfl) (run_int_sub wr 3 (.tmp 47) (.tmp 48) _ _ (by omega))
    refine RegHead.cons (fun wr hR h => ?_) ?_
    · exact relAt.pureS (Low.refl) (by kernel_rfl) (by kernel_rfl) (run_load_box_sum wr w.heap.size _ _ leaf (bblk (bthen (Low.drew _) hR) HF2.out) Hl.out)
    refine RegHead.cons (fun wr hR h => ?_) ?_
    · exact relAt.pure (Low.refl) (by kernel_rfl) (by kernel_rfl)
    refine RegHead.cons (fun wr hR h => ?_) ?_
    · refine relAt.call (by kernel_rfl) (by kernel_rfl) ((Ih.out wr (HT.out.below (bthen HW2.out (bthen (Low.drew _) hR))) (HS.out.below (bthen HW2.out (bthen (Low.drew _) hR)))).mono ?_)
      rintro e w9 ⟨rfl, hB9⟩
      exact ⟨_, rfl, hB9, rfl⟩
    refine RegHead.cons (fun wr hR h => ?_) ?_
    · refine relAt.call (by kernel_rfl) (by kernel_rfl) ((rnode_some' x d s wr Hs.out (HT.out.below (bthen HW2.out (bthen (Low.drew _) hR))) HXL.out HD.out).mono ?_)
      rintro e w9 ⟨rfl, hB9⟩
      exact ⟨_, rfl, hB9, rfl⟩
    exact trivial
  · have HR4 := Lib.hid (bthen HW2.out (bthen (Low.drew _) hR))
    have HRb := Lib.hid (bblk (bthen (Low.drew _) hR) HR2.out)
    clear h hR
    refine wp_frame (new := [(sumV x), (.int .i64 n : Value), (.int .i64 k : Value), (.int .i64 ((n : Int) - (k : Int)) : Value), (.int .i64 i : Value), (.int .i64 k : Value), (.int .i64 ((i : Int) - (k : Int)) : Value), (sumV leaf), (.slice (some ⟨b, o, none⟩) u c : Value), (sumV d), (sumV s)]) 43 54 (by kernel_rfl) ?_
    simp only [List.take, List.drop, List.cons_append, List.nil_append]
    go_wp2_with (refine wpList_store_sum rfl 29 _ _ rfl (w.heap.size + 1) s 32 rfl rfl _ _ HRb.out (by kernel_rfl) HSl.out rfl ?_)
    refine bodyPost_ret (results_sum rfl _ _ (w.heap.size + 1) _ s 32 (0, 0) _ rfl (setRow_heap _ _ _ _ _ _ HRb.out) Tryd.underlying29 (by kernel_rfl) HSl.out) rfl ⟨by rw [Hb.out, Hs.out], brow HR4.out (by omega) _⟩

theorem up_any (leaf : List UInt8) (a : Option Addr) (c : Nat) (hl : leaf.length = 32) : ∀ (np : Nat) (p : List (List UInt8)) (n i : Nat) (w : World), np < 4611686018427387904 → n < 9223372036854775808 → i < 9223372036854775808 → Tabs w → Sums w a np c p →
    Calls Tryd.prog 55 #[.int .i64 n, .int .i64 i, sumV leaf, .slice a np c] w (RetSum w (Tree.up n i leaf p)) := by
  intro np
  induction np with
  | zero =>
    intro p n i w hnp hn63 hi hT S
    by_cases h1 : n ≤ 1
    · exact up_one n i leaf a 0 c p w h1 hl S
    · exact up_zero n i leaf a 0 c p w (by omega) rfl hl S
  | succ u ih =>
    intro p n i w hnp hn63 hi hT S
    by_cases h1 : n ≤ 1
    · exact up_one n i leaf a (u + 1) c p w h1 hl S
    · have hkl := split_lt (show 1 < n by omega)
      by_cases hik : i < split n
      · exact up_step_left n i u leaf a c p w hnp (by omega) hi hn63 hik hl hT S fun w' hT' S' => ih _ (split n) i w' (by omega) (by omega) hi hT' S'
      · exact up_step_right n i u leaf a c p w hnp (by omega) hi hn63 hik hl hT S fun w' hT' S' => ih _ (n - split n) (i - split n) w' (by omega) (by omega) (by omega) hT' S'

end Go.Proofs.YtpdhgijeanbmcaaDoor

/- Meets -/
namespace Go.Proofs.YtpdhgijeanbmcaaDoor
open Go.RowKit Go.Great

set_option maxRecDepth 100000 in
set_option maxHeartbeats 4000000 in
theorem meets_base (n i : Nat) (leaf : List UInt8) (a : Option Addr) (np c : Nat) (p : List (List UInt8)) (v : Value) (l : List (List UInt8)) (w : World) (hn : n ≤ 1 ∨ np = 0) (S : Sums w a np c p) :
    Calls Tryd.prog 34 #[.int .i64 n, .int .i64 i, sumV leaf, .slice a np c, v] w fun e w' => e = .returned (.bool (Tree.meets n i leaf p l)) ∧ Below w.heap.size w w' := by
  have Hpl := Lib.hid S.len
  have HLk := Lib.hid (low1 w (.cells (sumRow leaf) 29))
  clear S
  by_cases h1 : n ≤ 1
  · have h2 : (n : Int) ≤ 1 := by omega
    rw [Tree.meets_one n i leaf p l h1]
    go_enter Tryd.func34, Tryd.ntmps34
    go_wp2
    go_ret
    exact ⟨rfl, HLk.out⟩
  · have h2 : ¬ (n : Int) ≤ 1 := by omega
    obtain rfl : np = 0 := by omega
    rw [(show p = [] from List.eq_nil_of_length_eq_zero Hpl.out.symm), Tree.meets_zero]
    go_enter Tryd.func34, Tryd.ntmps34
    go_wp2
    go_ret
    exact ⟨rfl, HLk.out⟩

set_option maxRecDepth 100000 in
set_option maxHeartbeats 4000000 in
theorem meets_step_left (n i u : Nat) (leaf : List UInt8) (a : Option Addr) (c : Nat) (p : List (List UInt8)) (a2 : Option Addr) (c2 : Nat) (l : List (List UInt8)) (w : World) (hup : u + 1 < 4611686018427387904) (hn1 : 1 < n) (hi63 : i < 9223372036854775808) (hn63 : n < 1099511627776) (hik : i < split n) (hl : leaf.length = 32) (hT : Tabs w) (S : Sums w a (u + 1) c p) (S2 : Sums w a2 n c2 l)
    (ih : ∀ w', Tabs w' → Sums w' a u c (p.take u) → Sums w' a2 (split n) c2 (l.take (split n)) → Calls Tryd.prog 34 #[.int .i64 (split n), .int .i64 i, sumV leaf, .slice a u c, .slice a2 (split n) c2] w' fun e w'' => e = .returned (.bool (Tree.meets (split n) i leaf (p.take u) (l.take (split n)))) ∧ Below w'.heap.size w' w'') :
    Calls Tryd.prog 34 #[.int .i64 n, .int .i64 i, sumV leaf, .slice a (u + 1) c, .slice a2 n c2] w fun e w' => e = .returned (.bool (Tree.meets n i leaf p l)) ∧ Below w.heap.size w w' := by
  have Hl := Lib.hid hl
  have hpl := S.len
  have hup' : u < p.length := by omega
  have hkp := split_pos n
  have hkl := split_lt hn1
  have Hb := Lib.hid (Tree.meets_left n i leaf p l u hup' (by omega) hik)
  rw [List.take_of_length_le (show p.length ≤ u + 1 by omega)] at Hb
  have Hhalf := split_any n (by omega)
  obtain ⟨b, o, ha, hget⟩ := S.get
  obtain rfl := ha (by omega)
  have hx := hget u hup'
  have hxl := S.each p[u] (by simp)
  obtain ⟨x, hxe⟩ : ∃ x, x = p[u] := ⟨_, rfl⟩
  rw [← hxe] at hx hxl Hb
  generalize split n = k at *
  have hdl := Tree.up_len k i leaf (p.take u) hl
  obtain ⟨d, hd⟩ : ∃ d, d = Tree.up k i leaf (p.take u) := ⟨_, rfl⟩
  rw [← hd] at hdl Hb
  have HD0 := Lib.hid hd
  obtain ⟨le, hle⟩ : ∃ s, s = Tree.root (l.take k) := ⟨_, rfl⟩
  obtain ⟨ri, hri⟩ : ∃ s, s = Tree.root (l.drop k) := ⟨_, rfl⟩
  have hlel : le.length = 32 := by rw [hle]; exact Tree.root_len _ fun y hy => S2.each y (List.mem_of_mem_take hy)
  have hril : ri.length = 32 := by rw [hri]; exact Tree.root_len _ fun y hy => S2.each y (List.mem_of_mem_drop hy)
  have hrt1 := Lib.hid fun w1 hT S => rroot_any (l.take k).length (l.take k) a2 k c2 w1 (Nat.le_refl _) (by have := S2.len; rw [List.length_take]; omega) hT S
  have hrt2 := Lib.hid fun w1 hT S => rroot_any (l.drop k).length (l.drop k) (a2.map (·.add (k * 32))) (n - k) (c2 - k) w1 (Nat.le_refl _) (by have := S2.len; rw [List.length_drop]; omega) hT S
  rw [← hle] at hrt1 Hb
  rw [← hri] at hrt2 Hb
  obtain ⟨s1, hs1, hs1l⟩ : ∃ s, s = Tree.node d x ∧ s.length = 32 := ⟨_, rfl, rfl⟩
  obtain ⟨s2, hs2, hs2l⟩ : ∃ s, s = Tree.node le ri ∧ s.length = 32 := ⟨_, rfl, rfl⟩
  rw [← hs1, ← hs2] at Hb
  have HD := Lib.hid hdl
  have Hle := Lib.hid hlel
  have Hri := Lib.hid hril
  have Hs1 := Lib.hid hs1
  have Hs2 := Lib.hid hs2
  have Hs1l := Lib.hid hs1l
  have Hs2l := Lib.hid hs2l
  have Ih := Lib.hid ih
  have HT := Lib.hid hT
  have HS := Lib.hid (S.take u (by omega))
  have HS2 := Lib.hid S2
  have HXL := Lib.hid hxl
  have HX := Lib.hid hx
  have hcap := S.cap
  have hcap2 := S2.cap
  have hup2 := Lib.hid fun w1 hT S => up_any leaf (some ⟨b, o, none⟩) c hl u (p.take u) k i w1 (by omega) (by omega) (by omega) hT S
  rw [← hd] at hup2
  clear ih hd hdl hs1 hs1l hs2 hs2l hle hri hlel hril
  have e1 : ((u + 1 : Nat) : Int) - 1 = (u : Int) := by omega
  have hu9 : ((u : Int) + 1 == 0) = false := by simp; omega
  have hu8 : ¬ ((u : Int) + 1) = 0 := by omega
  have hn2 : ¬ (n : Int) ≤ 1 := by omega
  have hunp : (u : Int) < (u : Int) + 1 := by omega
  have hik2 : (i : Int) < (k : Int) := by omega
  have hik3 : (i : Int) < (k : Int) := by omega
  have HBk := Lib.hid (blk1 w (.cells (sumRow leaf) 29))
  have HLk := Lib.hid (low1 w (.cells (sumRow leaf) 29))
  clear hx hxl hget ha S S2 hxe hup' hpl hl hT
  go_enter Tryd.func34, Tryd.ntmps34
  go_wp2_with (first | (go_at_call 46; refine (Hhalf _).mono ?_; rintro e w1 ⟨rfl, rfl⟩) | (refine wpList_load_mid_sum rfl 29 _ rfl b (o + u * 32) rfl x 32 _ (range_low HX.out HLk.out) Tryd.underlying29 (by kernel_rfl) HXL.out ?_) | (refine wpList_store_box rfl _ _ rfl (w.heap.size + 1) rfl x rfl _ rfl rfl (by simp) HXL.out ?_; intro w2 hL2 hb2; have hw2 := bthen HLk.out hL2; have HW2 := Lib.hid hw2; have HX2 := Lib.hid hb2; have HF2 := Lib.hid (bblk hL2 HBk.out); clear hL2 hb2 hw2) | (refine wpList_load_sum rfl 29 _ rfl w.heap.size rfl _ leaf 32 _ _ HF2.out Tryd.underlying29 (by kernel_rfl) Hl.out ?_))
  go_at_call 55
  refine (hup2.out w2 (HT.out.below (HW2.out)) (HS.out.below (HW2.out))).mono ?_
  rintro e w3 ⟨rfl, hB⟩
  have HB3 := Lib.hid hB
  clear hB
  go_wp2_with (refine wpList_store_box rfl _ _ rfl w3.heap.size rfl d rfl _ rfl rfl rfl HD.out ?_; intro w4 hL hb; have HB4 := Lib.hid hL; obtain ⟨g3, hg3⟩ : ∃ g, g = w3.heap.size := ⟨_, rfl⟩; rw [← hg3] at hb ⊢; have HV4 := Lib.hid hb; clear hL hb hg3)
  go_at_call 22
  refine (hrt1.out w4 (HT.out.below (bthen (bthen HW2.out HB3.out) HB4.out)) ((HS2.out.take k (by omega)).below (bthen (bthen HW2.out HB3.out) HB4.out))).mono ?_
  rintro e w5 ⟨rfl, hB⟩
  have HB5 := Lib.hid hB
  clear hB
  go_wp2_with (refine wpList_store_box rfl _ _ rfl w5.heap.size rfl le rfl _ rfl rfl rfl Hle.out ?_; intro w6 hL hb; have HB6 := Lib.hid hL; obtain ⟨g5, hg5⟩ : ∃ g, g = w5.heap.size := ⟨_, rfl⟩; rw [← hg5] at hb ⊢; have HV6 := Lib.hid hb; clear hL hb hg5)
  go_at_call 22
  refine (hrt2.out w6 (HT.out.below (bthen (bthen (bthen (bthen HW2.out HB3.out) HB4.out) HB5.out) HB6.out)) ((HS2.out.rest k hkl).below (bthen (bthen (bthen (bthen HW2.out HB3.out) HB4.out) HB5.out) HB6.out))).mono ?_
  rintro e w7 ⟨rfl, hB⟩
  have HB7 := Lib.hid hB
  clear hB
  rcases hq1 : (d == le) with _ | _ <;> rcases hq2 : (x == ri) with _ | _
  all_goals
    have HQ1 := Lib.hid hq1
    have HQ2 := Lib.hid hq2
    clear hq1 hq2
    go_wp2_with (first | (refine wpList_store_box rfl _ _ rfl w7.heap.size rfl ri rfl _ rfl rfl rfl Hri.out ?_; intro w8 hL hb; have HB8 := Lib.hid hL; obtain ⟨g7, hg7⟩ : ∃ g, g = w7.heap.size := ⟨_, rfl⟩; rw [← hg7] at hb ⊢; have HV8 := Lib.hid hb; clear hL hb hg7) | (refine wpList_load_sum rfl 29 _ rfl g3 rfl _ d 32 _ _ (bblk HB8.out (bblk HB7.out (bblk HB6.out (bblk HB5.out HV4.out)))) Tryd.underlying29 (by kernel_rfl) HD.out ?_) | (refine wpList_load_sum rfl 29 _ rfl g5 rfl _ le 32 _ _ (bblk HB8.out (bblk HB7.out HV6.out)) Tryd.underlying29 (by kernel_rfl) Hle.out ?_) | (refine wpList_guarded rfl ?_; refine wpList_load_sum rfl 29 _ rfl (w.heap.size + 1) rfl _ x 32 _ _ (bblk HB8.out (bblk HB7.out (bblk HB6.out (bblk HB5.out (bblk HB4.out (bblk HB3.out HX2.out)))))) Tryd.underlying29 (by kernel_rfl) HXL.out ?_) | (refine wpList_guarded rfl ?_; refine wpList_load_sum rfl 29 _ rfl g7 rfl _ ri 32 _ _ HV8.out Tryd.underlying29 (by kernel_rfl) Hri.out ?_) | (refine wpList_eql_sums rfl _ _ _ rfl d le rfl rfl _ HD.out Hle.out HQ1.out ?_) | (refine wpList_eql_sums rfl _ _ _ rfl x ri rfl rfl _ HXL.out Hri.out HQ2.out ?_))
    have hw8 := bthen (bthen (bthen (bthen (bthen (bthen HW2.out HB3.out) HB4.out) HB5.out) HB6.out) HB7.out) HB8.out
    have HW8 := Lib.hid hw8
    have HF8 := Lib.hid (bblk HB8.out (bblk HB7.out (bblk HB6.out (bblk HB5.out (bblk HB4.out (bblk HB3.out HF2.out))))))
    have HX8 := Lib.hid (bblk HB8.out (bblk HB7.out (bblk HB6.out (bblk HB5.out (bblk HB4.out (bblk HB3.out HX2.out))))))
    have HD8 := Lib.hid (bblk HB8.out (bblk HB7.out (bblk HB6.out (bblk HB5.out HV4.out))))
    have HL8 := Lib.hid (bblk HB8.out (bblk HB7.out HV6.out))
    have HR8 := Lib.hid HV8.out
    clear hw8 HB3 HB4 HB5 HB6 HB7 HB8 HV4 HV6 HV8 HX2 HF2 HW2
  · refine wp_region_reg 7 123 (Low) (by kernel_rfl) (by kernel_rfl) (by kernel_rfl) (by kernel_rfl) (by kernel_rfl) (Low.refl) (Low.trans) [.is (sumV d), .is (sumV x), .is (sumV s1), .is (sumV le), .is (sumV ri), .is (sumV s2), .is (.bool (s1 == s2) : Value)] rfl (fun vs => ?_) (fun vs wr hR h => ?_)
    · refine RegHead.cons (fun wr hR h => ?_) ?_
      · exact relAt.pureS (Low.refl) (by kernel_rfl) (by kernel_rfl) (run_load_box_sum wr g3 _ _ d (bblk (bthen (Low.drew _) hR) HD8.out) HD.out)
      refine RegHead.cons (fun wr hR h => ?_) ?_
      · exact relAt.pureS (Low.refl) (by kernel_rfl) (by kernel_rfl) (run_load_box_sum wr (w.heap.size + 1) _ _ x (bblk (bthen (Low.drew _) hR) HX8.out) HXL.out)
      refine RegHead.cons (fun wr hR h => ?_) ?_
      · refine relAt.call (by kernel_rfl) (by kernel_rfl) ((rnode_some' d x s1 wr Hs1.out (HT.out.below (bthen HW8.out (bthen (Low.drew _) hR))) HD.out HXL.out).mono ?_)
        rintro e w9 ⟨rfl, hB9⟩
        exact ⟨_, rfl, hB9, rfl⟩
      refine RegHead.cons (fun wr hR h => ?_) ?_
      · exact relAt.pureS (Low.refl) (by kernel_rfl) (by kernel_rfl) (run_load_box_sum wr g5 _ _ le (bblk (bthen (Low.drew _) hR) HL8.out) Hle.out)
      refine RegHead.cons (fun wr hR h => ?_) ?_
      · exact relAt.pureS (Low.refl) (by kernel_rfl) (by kernel_rfl) (run_load_box_sum wr g7 _ _ ri (bblk (bthen (Low.drew _) hR) HR8.out) Hri.out)
      refine RegHead.cons (fun wr hR h => ?_) ?_
      · refine relAt.call (by kernel_rfl) (by kernel_rfl) ((rnode_some' le ri s2 wr Hs2.out (HT.out.below (bthen HW8.out (bthen (Low.drew _) hR))) Hle.out Hri.out).mono ?_)
        rintro e w9 ⟨rfl, hB9⟩
        exact ⟨_, rfl, hB9, rfl⟩
      refine RegHead.cons (fun wr hR h => ?_) ?_
      · exact relAt.pureS (Low.refl) (by kernel_rfl) (by kernel_rfl) (run_eql_sums wr (.tmp 74) (.tmp 77) s1 s2 (s1 == s2) Hs1l.out Hs2l.out rfl)
      exact trivial
    · have HZ := Lib.hid (bthen HW8.out (bthen (Low.drew _) hR))
      clear h hR
      refine wp_frame (new := [(sumV d), (sumV x), (sumV s1), (sumV le), (sumV ri), (sumV s2), (.bool (s1 == s2) : Value)]) 72 79 (by kernel_rfl) ?_
      simp only [List.take, List.drop, List.cons_append, List.nil_append]
      go_wp2
      go_ret
      exact ⟨by rw [Hb.out, HQ1.out, HQ2.out]; rfl, HZ.out⟩
  · refine wp_region_reg 7 123 (Low) (by kernel_rfl) (by kernel_rfl) (by kernel_rfl) (by kernel_rfl) (by kernel_rfl) (Low.refl) (Low.trans) [.is (sumV d), .is (sumV x), .is (sumV s1), .is (sumV le), .is (sumV ri), .is (sumV s2), .is (.bool (s1 == s2) : Value)] rfl (fun vs => ?_) (fun vs wr hR h => ?_)
    · refine RegHead.cons (fun wr hR h => ?_) ?_
      · exact relAt.pureS (Low.refl) (by kernel_rfl) (by kernel_rfl) (run_load_box_sum wr g3 _ _ d (bblk (bthen (Low.drew _) hR) HD8.out) HD.out)
      refine RegHead.cons (fun wr hR h => ?_) ?_
      · exact relAt.pureS (Low.refl) (by kernel_rfl) (by kernel_rfl) (run_load_box_sum wr (w.heap.size + 1) _ _ x (bblk (bthen (Low.drew _) hR) HX8.out) HXL.out)
      refine RegHead.cons (fun wr hR h => ?_) ?_
      · refine relAt.call (by kernel_rfl) (by kernel_rfl) ((rnode_some' d x s1 wr Hs1.out (HT.out.below (bthen HW8.out (bthen (Low.drew _) hR))) HD.out HXL.out).mono ?_)
        rintro e w9 ⟨rfl, hB9⟩
        exact ⟨_, rfl, hB9, rfl⟩
      refine RegHead.cons (fun wr hR h => ?_) ?_
      · exact relAt.pureS (Low.refl) (by kernel_rfl) (by kernel_rfl) (run_load_box_sum wr g5 _ _ le (bblk (bthen (Low.drew _) hR) HL8.out) Hle.out)
      refine RegHead.cons (fun wr hR h => ?_) ?_
      · exact relAt.pureS (Low.refl) (by kernel_rfl) (by kernel_rfl) (run_load_box_sum wr g7 _ _ ri (bblk (bthen (Low.drew _) hR) HR8.out) Hri.out)
      refine RegHead.cons (fun wr hR h => ?_) ?_
      · refine relAt.call (by kernel_rfl) (by kernel_rfl) ((rnode_some' le ri s2 wr Hs2.out (HT.out.below (bthen HW8.out (bthen (Low.drew _) hR))) Hle.out Hri.out).mono ?_)
        rintro e w9 ⟨rfl, hB9⟩
        exact ⟨_, rfl, hB9, rfl⟩
      refine RegHead.cons (fun wr hR h => ?_) ?_
      · exact relAt.pureS (Low.refl) (by kernel_rfl) (by kernel_rfl) (run_eql_sums wr (.tmp 74) (.tmp 77) s1 s2 (s1 == s2) Hs1l.out Hs2l.out rfl)
      exact trivial
    · have HZ := Lib.hid (bthen HW8.out (bthen (Low.drew _) hR))
      clear h hR
      refine wp_frame (new := [(sumV d), (sumV x), (sumV s1), (sumV le), (sumV ri), (sumV s2), (.bool (s1 == s2) : Value)]) 72 79 (by kernel_rfl) ?_
      simp only [List.take, List.drop, List.cons_append, List.nil_append]
      go_wp2
      go_ret
      exact ⟨by rw [Hb.out, HQ1.out, HQ2.out]; rfl, HZ.out⟩
  · refine wp_region_reg 7 123 (Low) (by kernel_rfl) (by kernel_rfl) (by kernel_rfl) (by kernel_rfl) (by kernel_rfl) (Low.refl) (Low.trans) [.is (sumV d), .is (sumV x), .is (sumV s1), .is (sumV le), .is (sumV ri), .is (sumV s2), .is (.bool (s1 == s2) : Value)] rfl (fun vs => ?_) (fun vs wr hR h => ?_)
    · refine RegHead.cons (fun wr hR h => ?_) ?_
      · exact relAt.pureS (Low.refl) (by kernel_rfl) (by kernel_rfl) (run_load_box_sum wr g3 _ _ d (bblk (bthen (Low.drew _) hR) HD8.out) HD.out)
      refine RegHead.cons (fun wr hR h => ?_) ?_
      · exact relAt.pureS (Low.refl) (by kernel_rfl) (by kernel_rfl) (run_load_box_sum wr (w.heap.size + 1) _ _ x (bblk (bthen (Low.drew _) hR) HX8.out) HXL.out)
      refine RegHead.cons (fun wr hR h => ?_) ?_
      · refine relAt.call (by kernel_rfl) (by kernel_rfl) ((rnode_some' d x s1 wr Hs1.out (HT.out.below (bthen HW8.out (bthen (Low.drew _) hR))) HD.out HXL.out).mono ?_)
        rintro e w9 ⟨rfl, hB9⟩
        exact ⟨_, rfl, hB9, rfl⟩
      refine RegHead.cons (fun wr hR h => ?_) ?_
      · exact relAt.pureS (Low.refl) (by kernel_rfl) (by kernel_rfl) (run_load_box_sum wr g5 _ _ le (bblk (bthen (Low.drew _) hR) HL8.out) Hle.out)
      refine RegHead.cons (fun wr hR h => ?_) ?_
      · exact relAt.pureS (Low.refl) (by kernel_rfl) (by kernel_rfl) (run_load_box_sum wr g7 _ _ ri (bblk (bthen (Low.drew _) hR) HR8.out) Hri.out)
      refine RegHead.cons (fun wr hR h => ?_) ?_
      · refine relAt.call (by kernel_rfl) (by kernel_rfl) ((rnode_some' le ri s2 wr Hs2.out (HT.out.below (bthen HW8.out (bthen (Low.drew _) hR))) Hle.out Hri.out).mono ?_)
        rintro e w9 ⟨rfl, hB9⟩
        exact ⟨_, rfl, hB9, rfl⟩
      refine RegHead.cons (fun wr hR h => ?_) ?_
      · exact relAt.pureS (Low.refl) (by kernel_rfl) (by kernel_rfl) (run_eql_sums wr (.tmp 74) (.tmp 77) s1 s2 (s1 == s2) Hs1l.out Hs2l.out rfl)
      exact trivial
    · have HZ := Lib.hid (bthen HW8.out (bthen (Low.drew _) hR))
      clear h hR
      refine wp_frame (new := [(sumV d), (sumV x), (sumV s1), (sumV le), (sumV ri), (sumV s2), (.bool (s1 == s2) : Value)]) 72 79 (by kernel_rfl) ?_
      simp only [List.take, List.drop, List.cons_append, List.nil_append]
      go_wp2
      go_ret
      exact ⟨by rw [Hb.out, HQ1.out, HQ2.out]; rfl, HZ.out⟩
  · refine wp_region_reg 8 123 (Low) (by kernel_rfl) (by kernel_rfl) (by kernel_rfl) (by kernel_rfl) (by kernel_rfl) (Low.refl) (Low.trans) [.is (.int .i64 k : Value), .is (.int .i64 i : Value), .is (sumV leaf), .is (.slice (some ⟨b, o, none⟩) u c : Value), .is (.slice a2 n c2 : Value), .is (.int .i64 k : Value), .is (.slice a2 k c2 : Value), .is (.bool (Tree.meets k i leaf (p.take u) (l.take k)) : Value)] rfl (fun vs => ?_) (fun vs wr hR h => ?_)
    · refine RegHead.cons (fun wr hR h => ?_) ?_
      · exact relAt.pure (Low.refl) (by kernel_rfl) (by kernel_rfl)
      refine RegHead.cons (fun wr hR h => ?_) ?_
      · exact relAt.pure (Low.refl) (by kernel_rfl) (by kernel_rfl)
      refine RegHead.cons (fun wr hR h => ?_) ?_
      · exact relAt.pureS (Low.refl) (by kernel_rfl) (by kernel_rfl) (run_load_box_sum wr w.heap.size _ _ leaf (bblk (bthen (Low.drew _) hR) HF8.out) Hl.out)
      refine RegHead.cons (fun wr hR h => ?_) ?_
      · exact relAt.pure (Low.refl) (by kernel_rfl) (by kernel_rfl)
      refine RegHead.cons (fun wr hR h => ?_) ?_
      · exact relAt.pure (Low.refl) (by kernel_rfl) (by kernel_rfl)
      refine RegHead.cons (fun wr hR h => ?_) ?_
      · exact relAt.pure (Low.refl) (by kernel_rfl) (by kernel_rfl)
      refine RegHead.cons (fun wr hR h => ?_) ?_
      · exact relAt.pureS (Low.refl) (by kernel_rfl) (by kernel_rfl) (run_sums_to wr a2 n c2 k (fun ad h => HS2.out.od ad h) (by omega))
      refine RegHead.cons (fun wr hR h => ?_) ?_
      · refine relAt.call (by kernel_rfl) (by kernel_rfl) ((Ih.out wr (HT.out.below (bthen HW8.out (bthen (Low.drew _) hR))) (HS.out.below (bthen HW8.out (bthen (Low.drew _) hR))) ((HS2.out.take k (by omega)).below (bthen HW8.out (bthen (Low.drew _) hR)))).mono ?_)
        rintro e w9 ⟨rfl, hB9⟩
        exact ⟨_, rfl, hB9, rfl⟩
      exact trivial
    · have HZ := Lib.hid (bthen HW8.out (bthen (Low.drew _) hR))
      clear h hR
      refine wp_frame (new := [(.int .i64 k : Value), (.int .i64 i : Value), (sumV leaf), (.slice (some ⟨b, o, none⟩) u c : Value), (.slice a2 n c2 : Value), (.int .i64 k : Value), (.slice a2 k c2 : Value), (.bool (Tree.meets k i leaf (p.take u) (l.take k)) : Value)]) 64 72 (by kernel_rfl) ?_
      simp only [List.take, List.drop, List.cons_append, List.nil_append]
      go_wp2
      go_ret
      exact ⟨by rw [Hb.out, HQ1.out, HQ2.out]; rfl, HZ.out⟩

set_option maxRecDepth 100000 in
set_option maxHeartbeats 4000000 in
theorem meets_step_right (n i u : Nat) (leaf : List UInt8) (a : Option Addr) (c : Nat) (p : List (List UInt8)) (a2 : Option Addr) (c2 : Nat) (l : List (List UInt8)) (w : World) (hup : u + 1 < 4611686018427387904) (hn1 : 1 < n) (hi63 : i < 9223372036854775808) (hn63 : n < 1099511627776) (hik : ¬ i < split n) (hl : leaf.length = 32) (hT : Tabs w) (S : Sums w a (u + 1) c p) (S2 : Sums w a2 n c2 l)
    (ih : ∀ w', Tabs w' → Sums w' a u c (p.take u) → Sums w' (a2.map (·.add (split n * 32))) (n - split n) (c2 - split n) (l.drop (split n)) → Calls Tryd.prog 34 #[.int .i64 (n - split n : Nat), .int .i64 (i - split n : Nat), sumV leaf, .slice a u c, .slice (a2.map (·.add (split n * 32))) (n - split n : Nat) (c2 - split n : Nat)] w' fun e w'' => e = .returned (.bool (Tree.meets (n - split n) (i - split n) leaf (p.take u) (l.drop (split n)))) ∧ Below w'.heap.size w' w'') :
    Calls Tryd.prog 34 #[.int .i64 n, .int .i64 i, sumV leaf, .slice a (u + 1) c, .slice a2 n c2] w fun e w' => e = .returned (.bool (Tree.meets n i leaf p l)) ∧ Below w.heap.size w w' := by
  have Hl := Lib.hid hl
  have hpl := S.len
  have hup' : u < p.length := by omega
  have hkp := split_pos n
  have hkl := split_lt hn1
  have Hb := Lib.hid (Tree.meets_right n i leaf p l u hup' (by omega) hik)
  rw [List.take_of_length_le (show p.length ≤ u + 1 by omega)] at Hb
  have Hhalf := split_any n (by omega)
  obtain ⟨b, o, ha, hget⟩ := S.get
  obtain rfl := ha (by omega)
  have hx := hget u hup'
  have hxl := S.each p[u] (by simp)
  obtain ⟨x, hxe⟩ : ∃ x, x = p[u] := ⟨_, rfl⟩
  rw [← hxe] at hx hxl Hb
  generalize split n = k at *
  rw [show ((n - k : Nat) : Int) = (n : Int) - (k : Int) by omega, show ((i - k : Nat) : Int) = (i : Int) - (k : Int) by omega] at ih
  have hdl := Tree.up_len (n - k) (i - k) leaf (p.take u) hl
  obtain ⟨d, hd⟩ : ∃ d, d = Tree.up (n - k) (i - k) leaf (p.take u) := ⟨_, rfl⟩
  rw [← hd] at hdl Hb
  have HD0 := Lib.hid hd
  obtain ⟨le, hle⟩ : ∃ s, s = Tree.root (l.take k) := ⟨_, rfl⟩
  obtain ⟨ri, hri⟩ : ∃ s, s = Tree.root (l.drop k) := ⟨_, rfl⟩
  have hlel : le.length = 32 := by rw [hle]; exact Tree.root_len _ fun y hy => S2.each y (List.mem_of_mem_take hy)
  have hril : ri.length = 32 := by rw [hri]; exact Tree.root_len _ fun y hy => S2.each y (List.mem_of_mem_drop hy)
  have hrt1 := Lib.hid fun w1 hT S => rroot_any (l.take k).length (l.take k) a2 k c2 w1 (Nat.le_refl _) (by have := S2.len; rw [List.length_take]; omega) hT S
  have hrt2 := Lib.hid fun w1 hT S => rroot_any (l.drop k).length (l.drop k) (a2.map (·.add (k * 32))) (n - k) (c2 - k) w1 (Nat.le_refl _) (by have := S2.len; rw [List.length_drop]; omega) hT S
  rw [← hle] at hrt1 Hb
  rw [← hri] at hrt2 Hb
  obtain ⟨s1, hs1, hs1l⟩ : ∃ s, s = Tree.node x d ∧ s.length = 32 := ⟨_, rfl, rfl⟩
  obtain ⟨s2, hs2, hs2l⟩ : ∃ s, s = Tree.node le ri ∧ s.length = 32 := ⟨_, rfl, rfl⟩
  rw [← hs1, ← hs2] at Hb
  have HD := Lib.hid hdl
  have Hle := Lib.hid hlel
  have Hri := Lib.hid hril
  have Hs1 := Lib.hid hs1
  have Hs2 := Lib.hid hs2
  have Hs1l := Lib.hid hs1l
  have Hs2l := Lib.hid hs2l
  have Ih := Lib.hid ih
  have HT := Lib.hid hT
  have HS := Lib.hid (S.take u (by omega))
  have HS2 := Lib.hid S2
  have HXL := Lib.hid hxl
  have HX := Lib.hid hx
  have hcap := S.cap
  have hcap2 := S2.cap
  have hup2 := Lib.hid fun w1 hT S => up_any leaf (some ⟨b, o, none⟩) c hl u (p.take u) (n - k) (i - k) w1 (by omega) (by omega) (by omega) hT S
  rw [← hd, show ((n - k : Nat) : Int) = (n : Int) - (k : Int) by omega, show ((i - k : Nat) : Int) = (i : Int) - (k : Int) by omega] at hup2
  clear ih hd hdl hs1 hs1l hs2 hs2l hle hri hlel hril
  have e1 : ((u + 1 : Nat) : Int) - 1 = (u : Int) := by omega
  have hu9 : ((u : Int) + 1 == 0) = false := by simp; omega
  have hu8 : ¬ ((u : Int) + 1) = 0 := by omega
  have hn2 : ¬ (n : Int) ≤ 1 := by omega
  have hunp : (u : Int) < (u : Int) + 1 := by omega
  have hik2 : ¬ (i : Int) < (k : Int) := by omega
  have hik3 : (k : Int) ≤ (i : Int) := by omega
  have HBk := Lib.hid (blk1 w (.cells (sumRow leaf) 29))
  have HLk := Lib.hid (low1 w (.cells (sumRow leaf) 29))
  clear hx hxl hget ha S S2 hxe hup' hpl hl hT
  go_enter Tryd.func34, Tryd.ntmps34
  go_wp2_with (first | (go_at_call 46; refine (Hhalf _).mono ?_; rintro e w1 ⟨rfl, rfl⟩) | (refine wpList_load_mid_sum rfl 29 _ rfl b (o + u * 32) rfl x 32 _ (range_low HX.out HLk.out) Tryd.underlying29 (by kernel_rfl) HXL.out ?_) | (refine wpList_store_box rfl _ _ rfl (w.heap.size + 1) rfl x rfl _ rfl rfl (by simp) HXL.out ?_; intro w2 hL2 hb2; have hw2 := bthen HLk.out hL2; have HW2 := Lib.hid hw2; have HX2 := Lib.hid hb2; have HF2 := Lib.hid (bblk hL2 HBk.out); clear hL2 hb2 hw2) | (refine wpList_load_sum rfl 29 _ rfl w.heap.size rfl _ leaf 32 _ _ HF2.out Tryd.underlying29 (by kernel_rfl) Hl.out ?_))
  go_at_call 55
  refine (hup2.out w2 (HT.out.below (HW2.out)) (HS.out.below (HW2.out))).mono ?_
  rintro e w3 ⟨rfl, hB⟩
  have HB3 := Lib.hid hB
  clear hB
  go_wp2_with (refine wpList_store_box rfl _ _ rfl w3.heap.size rfl d rfl _ rfl rfl rfl HD.out ?_; intro w4 hL hb; have HB4 := Lib.hid hL; obtain ⟨g3, hg3⟩ : ∃ g, g = w3.heap.size := ⟨_, rfl⟩; rw [← hg3] at hb ⊢; have HV4 := Lib.hid hb; clear hL hb hg3)
  go_at_call 22
  refine (hrt1.out w4 (HT.out.below (bthen (bthen HW2.out HB3.out) HB4.out)) ((HS2.out.take k (by omega)).below (bthen (bthen HW2.out HB3.out) HB4.out))).mono ?_
  rintro e w5 ⟨rfl, hB⟩
  have HB5 := Lib.hid hB
  clear hB
  go_wp2_with (refine wpList_store_box rfl _ _ rfl w5.heap.size rfl le rfl _ rfl rfl rfl Hle.out ?_; intro w6 hL hb; have HB6 := Lib.hid hL; obtain ⟨g5, hg5⟩ : ∃ g, g = w5.heap.size := ⟨_, rfl⟩; rw [← hg5] at hb ⊢; have HV6 := Lib.hid hb; clear hL hb hg5)
  go_at_call 22
  refine (hrt2.out w6 (HT.out.below (bthen (bthen (bthen (bthen HW2.out HB3.out) HB4.out) HB5.out) HB6.out)) ((HS2.out.rest k hkl).below (bthen (bthen (bthen (bthen HW2.out HB3.out) HB4.out) HB5.out) HB6.out))).mono ?_
  rintro e w7 ⟨rfl, hB⟩
  have HB7 := Lib.hid hB
  clear hB
  rcases hq1 : (d == ri) with _ | _ <;> rcases hq2 : (x == le) with _ | _
  all_goals
    have HQ1 := Lib.hid hq1
    have HQ2 := Lib.hid hq2
    clear hq1 hq2
    go_wp2_with (first | (refine wpList_store_box rfl _ _ rfl w7.heap.size rfl ri rfl _ rfl rfl rfl Hri.out ?_; intro w8 hL hb; have HB8 := Lib.hid hL; obtain ⟨g7, hg7⟩ : ∃ g, g = w7.heap.size := ⟨_, rfl⟩; rw [← hg7] at hb ⊢; have HV8 := Lib.hid hb; clear hL hb hg7) | (refine wpList_load_sum rfl 29 _ rfl g3 rfl _ d 32 _ _ (bblk HB8.out (bblk HB7.out (bblk HB6.out (bblk HB5.out HV4.out)))) Tryd.underlying29 (by kernel_rfl) HD.out ?_) | (refine wpList_load_sum rfl 29 _ rfl g7 rfl _ ri 32 _ _ HV8.out Tryd.underlying29 (by kernel_rfl) Hri.out ?_) | (refine wpList_guarded rfl ?_; refine wpList_load_sum rfl 29 _ rfl (w.heap.size + 1) rfl _ x 32 _ _ (bblk HB8.out (bblk HB7.out (bblk HB6.out (bblk HB5.out (bblk HB4.out (bblk HB3.out HX2.out)))))) Tryd.underlying29 (by kernel_rfl) HXL.out ?_) | (refine wpList_guarded rfl ?_; refine wpList_load_sum rfl 29 _ rfl g5 rfl _ le 32 _ _ (bblk HB8.out (bblk HB7.out HV6.out)) Tryd.underlying29 (by kernel_rfl) Hle.out ?_) | (refine wpList_eql_sums rfl _ _ _ rfl d ri rfl rfl _ HD.out Hri.out HQ1.out ?_) | (refine wpList_eql_sums rfl _ _ _ rfl x le rfl rfl _ HXL.out Hle.out HQ2.out ?_))
    have hw8 := bthen (bthen (bthen (bthen (bthen (bthen HW2.out HB3.out) HB4.out) HB5.out) HB6.out) HB7.out) HB8.out
    have HW8 := Lib.hid hw8
    have HF8 := Lib.hid (bblk HB8.out (bblk HB7.out (bblk HB6.out (bblk HB5.out (bblk HB4.out (bblk HB3.out HF2.out))))))
    have HX8 := Lib.hid (bblk HB8.out (bblk HB7.out (bblk HB6.out (bblk HB5.out (bblk HB4.out (bblk HB3.out HX2.out))))))
    have HD8 := Lib.hid (bblk HB8.out (bblk HB7.out (bblk HB6.out (bblk HB5.out HV4.out))))
    have HL8 := Lib.hid (bblk HB8.out (bblk HB7.out HV6.out))
    have HR8 := Lib.hid HV8.out
    clear hw8 HB3 HB4 HB5 HB6 HB7 HB8 HV4 HV6 HV8 HX2 HF2 HW2
  · refine wp_region_reg 7 123 (Low) (by kernel_rfl) (by kernel_rfl) (by kernel_rfl) (by kernel_rfl) (by kernel_rfl) (Low.refl) (Low.trans) [.is (sumV x), .is (sumV d), .is (sumV s1), .is (sumV le), .is (sumV ri), .is (sumV s2), .is (.bool (s1 == s2) : Value)] rfl (fun vs => ?_) (fun vs wr hR h => ?_)
    · refine RegHead.cons (fun wr hR h => ?_) ?_
      · exact relAt.pureS (Low.refl) (by kernel_rfl) (by kernel_rfl) (run_load_box_sum wr (w.heap.size + 1) _ _ x (bblk (bthen (Low.drew _) hR) HX8.out) HXL.out)
      refine RegHead.cons (fun wr hR h => ?_) ?_
      · exact relAt.pureS (Low.refl) (by kernel_rfl) (by kernel_rfl) (run_load_box_sum wr g3 _ _ d (bblk (bthen (Low.drew _) hR) HD8.out) HD.out)
      refine RegHead.cons (fun wr hR h => ?_) ?_
      · refine relAt.call (by kernel_rfl) (by kernel_rfl) ((rnode_some' x d s1 wr Hs1.out (HT.out.below (bthen HW8.out (bthen (Low.drew _) hR))) HXL.out HD.out).mono ?_)
        rintro e w9 ⟨rfl, hB9⟩
        exact ⟨_, rfl, hB9, rfl⟩
      refine RegHead.cons (fun wr hR h => ?_) ?_
      · exact relAt.pureS (Low.refl) (by kernel_rfl) (by kernel_rfl) (run_load_box_sum wr g5 _ _ le (bblk (bthen (Low.drew _) hR) HL8.out) Hle.out)
      refine RegHead.cons (fun wr hR h => ?_) ?_
      · exact relAt.pureS (Low.refl) (by kernel_rfl) (by kernel_rfl) (run_load_box_sum wr g7 _ _ ri (bblk (bthen (Low.drew _) hR) HR8.out) Hri.out)
      refine RegHead.cons (fun wr hR h => ?_) ?_
      · refine relAt.call (by kernel_rfl) (by kernel_rfl) ((rnode_some' le ri s2 wr Hs2.out (HT.out.below (bthen HW8.out (bthen (Low.drew _) hR))) Hle.out Hri.out).mono ?_)
        rintro e w9 ⟨rfl, hB9⟩
        exact ⟨_, rfl, hB9, rfl⟩
      refine RegHead.cons (fun wr hR h => ?_) ?_
      · exact relAt.pureS (Low.refl) (by kernel_rfl) (by kernel_rfl) (run_eql_sums wr (.tmp 118) (.tmp 121) s1 s2 (s1 == s2) Hs1l.out Hs2l.out rfl)
      exact trivial
    · have HZ := Lib.hid (bthen HW8.out (bthen (Low.drew _) hR))
      clear h hR
      refine wp_frame (new := [(sumV x), (sumV d), (sumV s1), (sumV le), (sumV ri), (sumV s2), (.bool (s1 == s2) : Value)]) 116 123 (by kernel_rfl) ?_
      simp only [List.take, List.drop, List.cons_append, List.nil_append]
      go_wp2
      go_ret
      exact ⟨by rw [Hb.out, HQ1.out, HQ2.out]; rfl, HZ.out⟩
  · refine wp_region_reg 7 123 (Low) (by kernel_rfl) (by kernel_rfl) (by kernel_rfl) (by kernel_rfl) (by kernel_rfl) (Low.refl) (Low.trans) [.is (sumV x), .is (sumV d), .is (sumV s1), .is (sumV le), .is (sumV ri), .is (sumV s2), .is (.bool (s1 == s2) : Value)] rfl (fun vs => ?_) (fun vs wr hR h => ?_)
    · refine RegHead.cons (fun wr hR h => ?_) ?_
      · exact relAt.pureS (Low.refl) (by kernel_rfl) (by kernel_rfl) (run_load_box_sum wr (w.heap.size + 1) _ _ x (bblk (bthen (Low.drew _) hR) HX8.out) HXL.out)
      refine RegHead.cons (fun wr hR h => ?_) ?_
      · exact relAt.pureS (Low.refl) (by kernel_rfl) (by kernel_rfl) (run_load_box_sum wr g3 _ _ d (bblk (bthen (Low.drew _) hR) HD8.out) HD.out)
      refine RegHead.cons (fun wr hR h => ?_) ?_
      · refine relAt.call (by kernel_rfl) (by kernel_rfl) ((rnode_some' x d s1 wr Hs1.out (HT.out.below (bthen HW8.out (bthen (Low.drew _) hR))) HXL.out HD.out).mono ?_)
        rintro e w9 ⟨rfl, hB9⟩
        exact ⟨_, rfl, hB9, rfl⟩
      refine RegHead.cons (fun wr hR h => ?_) ?_
      · exact relAt.pureS (Low.refl) (by kernel_rfl) (by kernel_rfl) (run_load_box_sum wr g5 _ _ le (bblk (bthen (Low.drew _) hR) HL8.out) Hle.out)
      refine RegHead.cons (fun wr hR h => ?_) ?_
      · exact relAt.pureS (Low.refl) (by kernel_rfl) (by kernel_rfl) (run_load_box_sum wr g7 _ _ ri (bblk (bthen (Low.drew _) hR) HR8.out) Hri.out)
      refine RegHead.cons (fun wr hR h => ?_) ?_
      · refine relAt.call (by kernel_rfl) (by kernel_rfl) ((rnode_some' le ri s2 wr Hs2.out (HT.out.below (bthen HW8.out (bthen (Low.drew _) hR))) Hle.out Hri.out).mono ?_)
        rintro e w9 ⟨rfl, hB9⟩
        exact ⟨_, rfl, hB9, rfl⟩
      refine RegHead.cons (fun wr hR h => ?_) ?_
      · exact relAt.pureS (Low.refl) (by kernel_rfl) (by kernel_rfl) (run_eql_sums wr (.tmp 118) (.tmp 121) s1 s2 (s1 == s2) Hs1l.out Hs2l.out rfl)
      exact trivial
    · have HZ := Lib.hid (bthen HW8.out (bthen (Low.drew _) hR))
      clear h hR
      refine wp_frame (new := [(sumV x), (sumV d), (sumV s1), (sumV le), (sumV ri), (sumV s2), (.bool (s1 == s2) : Value)]) 116 123 (by kernel_rfl) ?_
      simp only [List.take, List.drop, List.cons_append, List.nil_append]
      go_wp2
      go_ret
      exact ⟨by rw [Hb.out, HQ1.out, HQ2.out]; rfl, HZ.out⟩
  · refine wp_region_reg 7 123 (Low) (by kernel_rfl) (by kernel_rfl) (by kernel_rfl) (by kernel_rfl) (by kernel_rfl) (Low.refl) (Low.trans) [.is (sumV x), .is (sumV d), .is (sumV s1), .is (sumV le), .is (sumV ri), .is (sumV s2), .is (.bool (s1 == s2) : Value)] rfl (fun vs => ?_) (fun vs wr hR h => ?_)
    · refine RegHead.cons (fun wr hR h => ?_) ?_
      · exact relAt.pureS (Low.refl) (by kernel_rfl) (by kernel_rfl) (run_load_box_sum wr (w.heap.size + 1) _ _ x (bblk (bthen (Low.drew _) hR) HX8.out) HXL.out)
      refine RegHead.cons (fun wr hR h => ?_) ?_
      · exact relAt.pureS (Low.refl) (by kernel_rfl) (by kernel_rfl) (run_load_box_sum wr g3 _ _ d (bblk (bthen (Low.drew _) hR) HD8.out) HD.out)
      refine RegHead.cons (fun wr hR h => ?_) ?_
      · refine relAt.call (by kernel_rfl) (by kernel_rfl) ((rnode_some' x d s1 wr Hs1.out (HT.out.below (bthen HW8.out (bthen (Low.drew _) hR))) HXL.out HD.out).mono ?_)
        rintro e w9 ⟨rfl, hB9⟩
        exact ⟨_, rfl, hB9, rfl⟩
      refine RegHead.cons (fun wr hR h => ?_) ?_
      · exact relAt.pureS (Low.refl) (by kernel_rfl) (by kernel_rfl) (run_load_box_sum wr g5 _ _ le (bblk (bthen (Low.drew _) hR) HL8.out) Hle.out)
      refine RegHead.cons (fun wr hR h => ?_) ?_
      · exact relAt.pureS (Low.refl) (by kernel_rfl) (by kernel_rfl) (run_load_box_sum wr g7 _ _ ri (bblk (bthen (Low.drew _) hR) HR8.out) Hri.out)
      refine RegHead.cons (fun wr hR h => ?_) ?_
      · refine relAt.call (by kernel_rfl) (by kernel_rfl) ((rnode_some' le ri s2 wr Hs2.out (HT.out.below (bthen HW8.out (bthen (Low.drew _) hR))) Hle.out Hri.out).mono ?_)
        rintro e w9 ⟨rfl, hB9⟩
        exact ⟨_, rfl, hB9, rfl⟩
      refine RegHead.cons (fun wr hR h => ?_) ?_
      · exact relAt.pureS (Low.refl) (by kernel_rfl) (by kernel_rfl) (run_eql_sums wr (.tmp 118) (.tmp 121) s1 s2 (s1 == s2) Hs1l.out Hs2l.out rfl)
      exact trivial
    · have HZ := Lib.hid (bthen HW8.out (bthen (Low.drew _) hR))
      clear h hR
      refine wp_frame (new := [(sumV x), (sumV d), (sumV s1), (sumV le), (sumV ri), (sumV s2), (.bool (s1 == s2) : Value)]) 116 123 (by kernel_rfl) ?_
      simp only [List.take, List.drop, List.cons_append, List.nil_append]
      go_wp2
      go_ret
      exact ⟨by rw [Hb.out, HQ1.out, HQ2.out]; rfl, HZ.out⟩
  · refine wp_region_reg 12 123 (Low) (by kernel_rfl) (by kernel_rfl) (by kernel_rfl) (by kernel_rfl) (by kernel_rfl) (Low.refl) (Low.trans) [.is (.int .i64 n : Value), .is (.int .i64 k : Value), .is (.int .i64 ((n : Int) - (k : Int)) : Value), .is (.int .i64 i : Value), .is (.int .i64 k : Value), .is (.int .i64 ((i : Int) - (k : Int)) : Value), .is (sumV leaf), .is (.slice (some ⟨b, o, none⟩) u c : Value), .is (.slice a2 n c2 : Value), .is (.int .i64 k : Value), .is (.slice (a2.map (·.add (k * 32))) (n - k : Nat) (c2 - k : Nat) : Value), .is (.bool (Tree.meets (n - k) (i - k) leaf (p.take u) (l.drop k)) : Value)] rfl (fun vs => ?_) (fun vs wr hR h => ?_)
    · refine RegHead.cons (fun wr hR h => ?_) ?_
      · exact relAt.pure (Low.refl) (by kernel_rfl) (by kernel_rfl)
      refine RegHead.cons (fun wr hR h => ?_) ?_
      · exact relAt.pure (Low.refl) (by kernel_rfl) (by kernel_rfl)
      refine RegHead.cons (fun wr hR h => ?_) ?_
      · exact relAt.pureS (Low.refl) (by kernel_rfl) (by kernel_rfl) (run_int_sub wr 3 (.tmp 104) (.tmp 105) _ _ (by omega))
      refine RegHead.cons (fun wr hR h => ?_) ?_
      · exact relAt.pure (Low.refl) (by kernel_rfl) (by kernel_rfl)
      refine RegHead.cons (fun wr hR h => ?_) ?_
      · exact relAt.pure (Low.refl) (by kernel_rfl) (by kernel_rfl)
      refine RegHead.cons (fun wr hR h => ?_) ?_
      · exact relAt.pureS (Low.refl) (by kernel_rfl) (by kernel_rfl) (run_int_sub wr 3 (.tmp 107) (.tmp 108) _ _ (by omega))
      refine RegHead.cons (fun wr hR h => ?_) ?_
      · exact relAt.pureS (Low.refl) (by kernel_rfl) (by kernel_rfl) (run_load_box_sum wr w.heap.size _ _ leaf (bblk (bthen (Low.drew _) hR) HF8.out) Hl.out)
      refine RegHead.cons (fun wr hR h => ?_) ?_
      · exact relAt.pure (Low.refl) (by kernel_rfl) (by kernel_rfl)
      refine RegHead.cons (fun wr hR h => ?_) ?_
      · exact relAt.pure (Low.refl) (by kernel_rfl) (by kernel_rfl)
      refine RegHead.cons (fun wr hR h => ?_) ?_
      · exact relAt.pure (Low.refl) (by kernel_rfl) (by kernel_rfl)
      refine RegHead.cons (fun wr hR h => ?_) ?_
      · exact relAt.pureS (Low.refl) (by kernel_rfl) (by kernel_rfl) (run_sums_rest wr a2 n c2 k hkl hcap2)
      refine RegHead.cons (fun wr hR h => ?_) ?_
      · refine relAt.call (by kernel_rfl) (by kernel_rfl) ((Ih.out wr (HT.out.below (bthen HW8.out (bthen (Low.drew _) hR))) (HS.out.below (bthen HW8.out (bthen (Low.drew _) hR))) ((HS2.out.rest k hkl).below (bthen HW8.out (bthen (Low.drew _) hR)))).mono ?_)
        rintro e w9 ⟨rfl, hB9⟩
        exact ⟨_, rfl, hB9, rfl⟩
      exact trivial
    · have HZ := Lib.hid (bthen HW8.out (bthen (Low.drew _) hR))
      clear h hR
      refine wp_frame (new := [(.int .i64 n : Value), (.int .i64 k : Value), (.int .i64 ((n : Int) - (k : Int)) : Value), (.int .i64 i : Value), (.int .i64 k : Value), (.int .i64 ((i : Int) - (k : Int)) : Value), (sumV leaf), (.slice (some ⟨b, o, none⟩) u c : Value), (.slice a2 n c2 : Value), (.int .i64 k : Value), (.slice (a2.map (·.add (k * 32))) (n - k : Nat) (c2 - k : Nat) : Value), (.bool (Tree.meets (n - k) (i - k) leaf (p.take u) (l.drop k)) : Value)]) 104 116 (by kernel_rfl) ?_
      simp only [List.take, List.drop, List.cons_append, List.nil_append]
      go_wp2
      go_ret
      exact ⟨by rw [Hb.out, HQ1.out, HQ2.out]; rfl, HZ.out⟩

theorem meets_any (leaf : List UInt8) (a : Option Addr) (c : Nat) (hl : leaf.length = 32) : ∀ (np : Nat) (p : List (List UInt8)) (n i : Nat) (a2 : Option Addr) (c2 : Nat) (l : List (List UInt8)) (w : World), np < 4611686018427387904 → n < 1099511627776 → i < 9223372036854775808 → Tabs w → Sums w a np c p → Sums w a2 n c2 l →
    Calls Tryd.prog 34 #[.int .i64 n, .int .i64 i, sumV leaf, .slice a np c, .slice a2 n c2] w fun e w' => e = .returned (.bool (Tree.meets n i leaf p l)) ∧ Below w.heap.size w w' := by
  intro np
  induction np with
  | zero =>
    intro p n i a2 c2 l w hnp hn63 hi hT S S2
    exact meets_base n i leaf a 0 c p _ l w (.inr rfl) S
  | succ u ih =>
    intro p n i a2 c2 l w hnp hn63 hi hT S S2
    by_cases h1 : n ≤ 1
    · exact meets_base n i leaf a (u + 1) c p _ l w (.inl h1) S
    · have hkl := split_lt (show 1 < n by omega)
      by_cases hik : i < split n
      · exact meets_step_left n i u leaf a c p a2 c2 l w hnp (by omega) hi hn63 hik hl hT S S2 fun w' hT' S' S2' => ih _ (split n) i _ _ _ w' (by omega) (by omega) hi hT' S' S2'
      · exact meets_step_right n i u leaf a c p a2 c2 l w hnp (by omega) hi hn63 hik hl hT S S2 fun w' hT' S' S2' => ih _ (n - split n) (i - split n) _ _ _ w' (by omega) (by omega) (by omega) hT' S' S2'
end Go.Proofs.YtpdhgijeanbmcaaDoor

/- Fast -/
namespace Go.Proofs.YtpdhgijeanbmcaaDoor
namespace Nsha
def rot (x n : Nat) : Nat := x >>> n ||| (x <<< (32 - n)) % 4294967296
def s0 (x : Nat) : Nat := (rot x 7 ^^^ rot x 18) ^^^ x >>> 3
def s1 (x : Nat) : Nat := (rot x 17 ^^^ rot x 19) ^^^ x >>> 10
def e0 (x : Nat) : Nat := (rot x 2 ^^^ rot x 13) ^^^ rot x 22
def e1 (x : Nat) : Nat := (rot x 6 ^^^ rot x 11) ^^^ rot x 25
def ch (e f g : Nat) : Nat := (e &&& f) ^^^ ((4294967296 - 1 - e) &&& g)
def maj (a b c : Nat) : Nat := ((a &&& b) ^^^ (a &&& c)) ^^^ (b &&& c)
def nxt (l : List Nat) : Nat := (((l.getD 15 0 + s0 (l.getD 14 0)) % 4294967296 + l.getD 6 0) % 4294967296 + s1 (l.getD 1 0)) % 4294967296
def sched : Nat → List Nat → List Nat
  | 0, l => l
  | n + 1, l => sched n (nxt l :: l)
structure Reg where
  (a b c d e f g h : Nat)
def step (r : Reg) (k w : Nat) : Reg :=
  let u := ((((r.h + e1 r.e) % 4294967296 + ch r.e r.f r.g) % 4294967296 + k) % 4294967296 + w) % 4294967296
  let v := (e0 r.a + maj r.a r.b r.c) % 4294967296
  ⟨(u + v) % 4294967296, r.a, r.b, r.c, (r.d + u) % 4294967296, r.e, r.f, r.g⟩
def rounds : List Nat → List Nat → Reg → Reg
  | k :: ks, w :: ws, r => rounds ks ws (step r k w)
  | _, _, r => r
def word (a b c d : Nat) : Nat := ((a <<< 24 ||| b <<< 16) ||| c <<< 8) ||| d
def words : Nat → List Nat → List Nat
  | 0, _ => []
  | n + 1, l => word (l.getD 0 0) (l.getD 1 0) (l.getD 2 0) (l.getD 3 0) :: words n (l.drop 4)
def add (r q : Reg) : Reg :=
  ⟨(r.a + q.a) % 4294967296, (r.b + q.b) % 4294967296, (r.c + q.c) % 4294967296, (r.d + q.d) % 4294967296, (r.e + q.e) % 4294967296, (r.f + q.f) % 4294967296, (r.g + q.g) % 4294967296, (r.h + q.h) % 4294967296⟩
def turn (r : Reg) (l : List Nat) : Reg := add r (rounds Sha.roots (sched 48 (words 16 l).reverse).reverse r)
def blocks : Nat → Reg → List Nat → Reg
  | 0, r, _ => r
  | n + 1, r, l => blocks n (turn r l) (l.drop 64)
def init : Reg := ⟨0x6a09e667, 0xbb67ae85, 0x3c6ef372, 0xa54ff53a, 0x510e527f, 0x9b05688c, 0x1f83d9ab, 0x5be0cd19⟩
def wbytes (x : Nat) : List Nat := [x >>> 24 % 256, x >>> 16 % 256, x >>> 8 % 256, x % 256]
def bytes (r : Reg) : List Nat := [r.a, r.b, r.c, r.d, r.e, r.f, r.g, r.h].flatMap wbytes
def eight (n : Nat) : List Nat := (List.range 8).map fun i => n / 2 ^ (8 * (7 - i)) % 256
def pad (n : Nat) : List Nat := 128 :: (List.replicate ((119 - n % 64) % 64) 0 ++ eight (8 * n))
def sum (l : List Nat) : List Nat := bytes (blocks ((l.length + 72) / 64) init (l ++ pad l.length))
end Nsha

def Sha.Reg.nat (r : Sha.Reg) : Nsha.Reg := ⟨r.a.toNat, r.b.toNat, r.c.toNat, r.d.toNat, r.e.toNat, r.f.toNat, r.g.toNat, r.h.toNat⟩
namespace Nsha
theorem rot_eq (x : BitVec 32) (n : Nat) : (Sha.rot x n).toNat = rot x.toNat n := by
  simp [Sha.rot, rot, BitVec.toNat_or]
theorem s0_eq (x : BitVec 32) : (Sha.s0 x).toNat = s0 x.toNat := by simp [Sha.s0, s0, rot_eq, BitVec.toNat_xor]
theorem s1_eq (x : BitVec 32) : (Sha.s1 x).toNat = s1 x.toNat := by simp [Sha.s1, s1, rot_eq, BitVec.toNat_xor]
theorem e0_eq (x : BitVec 32) : (Sha.e0 x).toNat = e0 x.toNat := by simp [Sha.e0, e0, rot_eq, BitVec.toNat_xor]
theorem e1_eq (x : BitVec 32) : (Sha.e1 x).toNat = e1 x.toNat := by simp [Sha.e1, e1, rot_eq, BitVec.toNat_xor]
theorem ch_eq (x y z : BitVec 32) : (Sha.ch x y z).toNat = ch x.toNat y.toNat z.toNat := by
  simp [Sha.ch, ch, BitVec.toNat_xor, BitVec.toNat_and, BitVec.toNat_not]
theorem maj_eq (x y z : BitVec 32) : (Sha.maj x y z).toNat = maj x.toNat y.toNat z.toNat := by
  simp [Sha.maj, maj, BitVec.toNat_xor, BitVec.toNat_and]
theorem step_eq (r : Sha.Reg) (k w : BitVec 32) : (Sha.step r k w).nat = step r.nat k.toNat w.toNat := by
  simp only [Sha.step, step, Sha.Reg.nat, BitVec.toNat_add, e1_eq, ch_eq, e0_eq, maj_eq, show (2 : Nat) ^ 32 = 4294967296 from rfl]
theorem rounds_eq (p : Nat → UInt8) (r : Sha.Reg) : ∀ n t, rounds ((List.range' t n).map fun i => (Sha.root i).toNat) ((List.range' t n).map fun i => (Sha.sched p i).toNat) (Sha.rounds p r t).nat = (Sha.rounds p r (t + n)).nat
  | 0, t => rfl
  | n + 1, t => by
    rw [List.range'_succ, List.map_cons, List.map_cons, rounds, ← step_eq, show Sha.step (Sha.rounds p r t) (Sha.root t) (Sha.sched p t) = Sha.rounds p r (t + 1) from rfl, rounds_eq p r n (t + 1)]
    congr 2
    omega
def back (p : Nat → UInt8) : Nat → List Nat
  | 0 => []
  | k + 1 => (Sha.sched p k).toNat :: back p k
theorem back_get (p : Nat → UInt8) : ∀ k i, i < k → (back p k).getD i 0 = (Sha.sched p (k - 1 - i)).toNat
  | 0, i, h => by omega
  | k + 1, 0, _ => by simp [back]
  | k + 1, i + 1, h => by
    have := back_get p k i (by omega)
    rw [back, List.getD_cons_succ, this]
    congr 2
    omega
theorem nxt_eq (p : Nat → UInt8) (k : Nat) (h : 16 ≤ k) : nxt (back p k) = (Sha.sched p k).toNat := by
  rw [nxt, back_get p k 15 (by omega), back_get p k 14 (by omega), back_get p k 6 (by omega), back_get p k 1 (by omega), Sha.sched_ge p k (by omega), BitVec.toNat_add, BitVec.toNat_add, BitVec.toNat_add, s0_eq, s1_eq,
    show k - 1 - 15 = k - 16 by omega, show k - 1 - 14 = k - 15 by omega, show k - 1 - 6 = k - 7 by omega, show k - 1 - 1 = k - 2 by omega]
theorem sched_eq (p : Nat → UInt8) : ∀ n k, 16 ≤ k → sched n (back p k) = back p (k + n)
  | 0, k, _ => rfl
  | n + 1, k, h => by
    rw [sched, nxt_eq p k h, show (Sha.sched p k).toNat :: back p k = back p (k + 1) from rfl, sched_eq p n (k + 1) (by omega)]
    congr 1
    omega
theorem back_rev (p : Nat → UInt8) : ∀ k, (back p k).reverse = (List.range' 0 k).map fun i => (Sha.sched p i).toNat
  | 0 => rfl
  | k + 1 => by
    rw [back, List.reverse_cons, back_rev p k, show List.range' 0 (k + 1) = List.range' 0 k ++ [k] by rw [List.range'_concat]; simp]
    simp
theorem word_eq (a b c d : UInt8) : (Sha.word a b c d).toNat = word a.toNat b.toNat c.toNat d.toNat := by
  have ha := a.toNat_lt
  have hb := b.toNat_lt
  have hc := c.toNat_lt
  have hd := d.toNat_lt
  have e1 : (a.toNat % 4294967296) <<< 24 % 4294967296 = a.toNat <<< 24 := by rw [Nat.shiftLeft_eq, Nat.shiftLeft_eq]; omega
  have e2 : (b.toNat % 4294967296) <<< 16 % 4294967296 = b.toNat <<< 16 := by rw [Nat.shiftLeft_eq, Nat.shiftLeft_eq]; omega
  have e3 : (c.toNat % 4294967296) <<< 8 % 4294967296 = c.toNat <<< 8 := by rw [Nat.shiftLeft_eq, Nat.shiftLeft_eq]; omega
  have e4 : d.toNat % 4294967296 = d.toNat := by omega
  rw [Sha.word, word, BitVec.toNat_or, BitVec.toNat_or, BitVec.toNat_or, BitVec.toNat_shiftLeft, BitVec.toNat_shiftLeft, BitVec.toNat_shiftLeft, BitVec.toNat_setWidth, BitVec.toNat_setWidth, BitVec.toNat_setWidth, BitVec.toNat_setWidth]
  show ((((a.toNat % 4294967296) <<< 24 % 4294967296) ||| ((b.toNat % 4294967296) <<< 16 % 4294967296)) ||| ((c.toNat % 4294967296) <<< 8 % 4294967296)) ||| (d.toNat % 4294967296) = _
  rw [e1, e2, e3, e4]
theorem getD_nat (l : List UInt8) (i : Nat) : (l.map UInt8.toNat).getD i 0 = (l.getD i 0).toNat := by
  simp only [List.getD, List.getElem?_map]
  cases l[i]? <;> rfl
theorem words_eq (l : List UInt8) : ∀ n t, t + n ≤ 16 → words n ((l.map UInt8.toNat).drop (4 * t)) = (List.range' t n).map fun i => (Sha.sched (fun j => l.getD j 0) i).toNat
  | 0, t, _ => rfl
  | n + 1, t, h => by
    rw [List.range'_succ, List.map_cons, words, Sha.sched_lt _ t (by omega), word_eq, List.drop_drop, show 4 * t + 4 = 4 * (t + 1) by omega, words_eq l n (t + 1) (by omega), List.getD_eq_getElem?_getD, List.getD_eq_getElem?_getD, List.getD_eq_getElem?_getD, List.getD_eq_getElem?_getD,
      List.getElem?_drop, List.getElem?_drop, List.getElem?_drop, List.getElem?_drop, ← List.getD_eq_getElem?_getD, ← List.getD_eq_getElem?_getD, ← List.getD_eq_getElem?_getD, ← List.getD_eq_getElem?_getD, getD_nat, getD_nat, getD_nat, getD_nat]
    rfl
theorem roots_eq : Sha.roots = (List.range' 0 64).map fun i => (Sha.root i).toNat := by decide +kernel
theorem add_eq (r q : Sha.Reg) : (r.add q).nat = add r.nat q.nat := by
  simp only [Sha.Reg.add, add, Sha.Reg.nat, BitVec.toNat_add, show (2 : Nat) ^ 32 = 4294967296 from rfl]
theorem turn_eq (r : Sha.Reg) (l : List UInt8) : (Sha.turn r fun j => l.getD j 0).nat = turn r.nat (l.map UInt8.toNat) := by
  have h := words_eq l 16 0 (by omega)
  rw [Nat.mul_zero, List.drop_zero] at h
  have hr := rounds_eq (fun j => l.getD j 0) r 64 0
  rw [Nat.zero_add, ← roots_eq, show Sha.rounds (fun j => l.getD j 0) r 0 = r from rfl] at hr
  rw [turn, h, ← back_rev, List.reverse_reverse, sched_eq _ 48 16 (by omega), back_rev, Sha.turn, add_eq, hr]
theorem blocks_eq : ∀ n (r : Sha.Reg) (l : List UInt8), l.length / 64 = n → (Sha.blocks r l).nat = blocks n r.nat (l.map UInt8.toNat)
  | 0, r, l, h => by rw [Sha.blocks_short _ _ (by omega)]; rfl
  | n + 1, r, l, h => by
    rw [Sha.blocks_step _ _ (by omega), blocks, ← turn_eq, ← List.map_drop]
    exact blocks_eq n _ _ (by rw [List.length_drop]; omega)
theorem wbytes_eq (x : BitVec 32) : (Sha.wbytes x).map UInt8.toNat = wbytes x.toNat := by
  simp only [Sha.wbytes, wbytes, List.map_cons, List.map_nil, UInt8.toNat, BitVec.toNat_setWidth, BitVec.toNat_ushiftRight]
  try rfl
theorem bytes_eq (r : Sha.Reg) : (Sha.bytes r).map UInt8.toNat = bytes r.nat := by
  simp only [Sha.bytes, bytes, Sha.Reg.list, Sha.Reg.nat, List.flatMap_cons, List.flatMap_nil, List.map_append, wbytes_eq, List.map_nil]
theorem eight_eq (n : Nat) : (Sha.eight n).map UInt8.toNat = eight n := by
  simp [Sha.eight, eight]
theorem pad_eq (n : Nat) : (Sha.pad n).map UInt8.toNat = pad n := by
  simp [Sha.pad, pad, eight_eq]
theorem sum_eq (l : List UInt8) : (Sha.sum l).map UInt8.toNat = sum (l.map UInt8.toNat) := by
  have hp : (Sha.pad l.length).length = 1 + (119 - l.length % 64) % 64 + 8 := by simp [Sha.pad, Sha.eight]; omega
  rw [Sha.sum, sum, bytes_eq, blocks_eq ((l.length + 72) / 64) _ _ (by rw [List.length_append, hp]; omega), List.map_append, pad_eq, List.length_map]
  rfl
end Nsha
end Go.Proofs.YtpdhgijeanbmcaaDoor

/- LiveP -/
namespace Go.Proofs.YtpdhgijeanbmcaaDoor
namespace Nsha
def leaf (p : List Nat) : List Nat := sum (0 :: p)
def node (x y : List Nat) : List Nat := sum (1 :: (x ++ y))
theorem live_one : node (node (leaf [97]) (leaf [98])) (leaf [98]) ≠ node (node (leaf [97]) (leaf [98])) (leaf [99]) := by decide +kernel
theorem live_two : node (node (node (leaf [97]) (leaf [98])) (leaf [99])) (leaf [99]) ≠ node (node (leaf [97]) (leaf [98])) (leaf [99]) := by decide +kernel
end Nsha
namespace LiveP
def leaf (p : List UInt8) : List UInt8 := Sha.sum (0 :: p)
def node (x y : List UInt8) : List UInt8 := Sha.sum (1 :: (x ++ y))
theorem leaf_nat (p : List UInt8) : (leaf p).map UInt8.toNat = Nsha.leaf (p.map UInt8.toNat) := by
  rw [leaf, Nsha.sum_eq]; rfl
theorem node_nat (x y : List UInt8) : (node x y).map UInt8.toNat = Nsha.node (x.map UInt8.toNat) (y.map UInt8.toNat) := by
  rw [node, Nsha.sum_eq, List.map_cons, List.map_append]; rfl
theorem one : node (node (leaf [97]) (leaf [98])) (leaf [98]) ≠ node (node (leaf [97]) (leaf [98])) (leaf [99]) := fun h => by
  have h2 := congrArg (List.map UInt8.toNat) h
  simp only [node_nat, leaf_nat] at h2
  exact Nsha.live_one h2
theorem two : node (node (node (leaf [97]) (leaf [98])) (leaf [99])) (leaf [99]) ≠ node (node (leaf [97]) (leaf [98])) (leaf [99]) := fun h => by
  have h2 := congrArg (List.map UInt8.toNat) h
  simp only [node_nat, leaf_nat] at h2
  exact Nsha.live_two h2
end LiveP
end Go.Proofs.YtpdhgijeanbmcaaDoor

/- LiveQ -/
namespace Go.Proofs.YtpdhgijeanbmcaaDoor
namespace Tree
theorem split3 : split 3 = 2 := by
  unfold split
  rw [splitFrom_step (by omega) (by omega), splitFrom_stop (by omega)]
theorem split2 : split 2 = 1 := by
  unfold split
  rw [splitFrom_stop (by omega)]
theorem root2 (a b : List UInt8) : root [a, b] = node a b := by
  rw [root_many (by simp)]
  simp only [List.length_cons, List.length_nil]
  rw [show split (0 + 1 + 1) = 1 from split2]
  simp [root_one]
theorem root3 (a b c : List UInt8) : root [a, b, c] = node (node a b) c := by
  rw [root_many (by simp)]
  simp only [List.length_cons, List.length_nil]
  rw [show split (0 + 1 + 1 + 1) = 2 from split3]
  simp [root_one, root2]
theorem path3 (a b c : List UInt8) : path [a, b, c] 2 = [node a b] := by
  rw [path_right (by simp) (by simp only [List.length_cons, List.length_nil]; rw [show split (0 + 1 + 1 + 1) = 2 from split3]; omega)]
  simp only [List.length_cons, List.length_nil]
  rw [show split (0 + 1 + 1 + 1) = 2 from split3, path_stop (by simp)]
  simp [root2]
theorem sub3 (a b c : List UInt8) : sub 2 [a, b, c] true = [c] := by
  rw [sub_left (by simp) (by omega) (by simp only [List.length_cons, List.length_nil]; rw [show split (0 + 1 + 1 + 1) = 2 from split3]; omega)]
  simp only [List.length_cons, List.length_nil]
  rw [show split (0 + 1 + 1 + 1) = 2 from split3, sub_all (by simp)]
  simp [root_one]
theorem holds3 (r x p : List UInt8) : holds r 3 2 x [p] = (node p x == r) := by
  unfold holds
  have h := made_right 3 2 x [p] 0 (by simp) (by omega) (by rw [split3]; omega)
  simp only [Nat.zero_add, List.take_succ_cons, List.take_zero, List.getElem_cons_zero] at h
  rw [split3, made_one (3 - 2) _ _ _ (by decide)] at h
  rw [h]
  rfl
theorem ext3 (old r x : List UInt8) : extends_ 2 old 3 r [x] = (node old x == r) := by
  unfold extends_
  have h := both_left old 2 3 true [x] 0 (by simp) (by omega) (by omega) (by rw [split3]; omega)
  simp only [Nat.zero_add, List.take_succ_cons, List.take_zero, List.getElem_cons_zero] at h
  rw [split3, both_whole] at h
  rw [h]
  simp
end Tree
theorem live_ne1 : Tree.node (Tree.node (Tree.leaf [97]) (Tree.leaf [98])) (Tree.leaf [98]) ≠ Tree.node (Tree.node (Tree.leaf [97]) (Tree.leaf [98])) (Tree.leaf [99]) := LiveP.one
theorem live_ne2 : Tree.node (Tree.node (Tree.node (Tree.leaf [97]) (Tree.leaf [98])) (Tree.leaf [99])) (Tree.leaf [99]) ≠ Tree.node (Tree.node (Tree.leaf [97]) (Tree.leaf [98])) (Tree.leaf [99]) := LiveP.two
end Go.Proofs.YtpdhgijeanbmcaaDoor

/- Ext -/
namespace Go.Proofs.YtpdhgijeanbmcaaDoor
open Go.RowKit Go.Great

def extFn (ob pb g : Nat) : Value := .func (.func 53) #[] #[.pointer (some ⟨ob, 0, none⟩), .pointer (some ⟨pb, 0, none⟩), .pointer (some ⟨g, 0, none⟩)]
structure ExtEnv (w : World) (ob pb g : Nat) (old : List UInt8) (a : Option Addr) (np c : Nat) (p : List (List UInt8)) : Prop where
  tabs : Tabs w
  oldAt : ∃ t fr, w.heap[ob]? = some (.cells (old.map V8).toArray t fr)
  pathAt : w.cell? ⟨pb, 0, none⟩ = some (.slice a np c)
  fn : w.cell? ⟨g, 0, none⟩ = some (extFn ob pb g)
  len : old.length = 32
  sums : Sums w a np c p
theorem ExtEnv.low {w w' : World} {ob pb g : Nat} {old : List UInt8} {a : Option Addr} {np c : Nat} {p : List (List UInt8)} (h : ExtEnv w ob pb g old a np c p) (hl : Low w w') : ExtEnv w' ob pb g old a np c p := by
  obtain ⟨t, fr, h1⟩ := h.oldAt
  exact ⟨h.tabs.low hl, ⟨t, fr, bblk hl h1⟩, (hl.cell (p := ⟨pb, 0, none⟩) (World.block_lt_of_cell? w _ h.pathAt)).trans h.pathAt, (hl.cell (p := ⟨g, 0, none⟩) (World.block_lt_of_cell? w _ h.fn)).trans h.fn, h.len, h.sums.low hl⟩

/-- Two boxes of sums are written, each once and for good; all else that was there stays. -/
structure Wr (b1 b2 : Nat) (c1 c2 : Array Value) (t : TypeId) (w w' : World) : Prop where
  os : w'.os = w.os
  tape : w'.tape = w.tape
  output : w'.output = w.output
  size : w.heap.size ≤ w'.heap.size
  keep : ∀ i, i < w.heap.size → i ≠ b1 → i ≠ b2 → w'.heap[i]? = w.heap[i]?
  k1 : (∃ cs, w.heap[b1]? = some (.cells cs t (0, 0)) ∧ cs.size = 32) → ∃ cs, w'.heap[b1]? = some (.cells cs t (0, 0)) ∧ cs.size = 32
  f1 : w.heap[b1]? = some (.cells c1 t (0, 0)) → w'.heap[b1]? = some (.cells c1 t (0, 0))
  k2 : (∃ cs, w.heap[b2]? = some (.cells cs t (0, 0)) ∧ cs.size = 32) → ∃ cs, w'.heap[b2]? = some (.cells cs t (0, 0)) ∧ cs.size = 32
  f2 : w.heap[b2]? = some (.cells c2 t (0, 0)) → w'.heap[b2]? = some (.cells c2 t (0, 0))
section
variable {b1 b2 : Nat} {c1 c2 : Array Value} {t : TypeId}
theorem Wr.refl (w : World) : Wr b1 b2 c1 c2 t w w := ⟨rfl, rfl, rfl, Nat.le_refl _, fun _ _ _ _ => rfl, fun h => h, fun h => h, fun h => h, fun h => h⟩
theorem Wr.trans (w w' w'' : World) (h : Wr b1 b2 c1 c2 t w w') (h' : Wr b1 b2 c1 c2 t w' w'') : Wr b1 b2 c1 c2 t w w'' :=
  ⟨h'.os.trans h.os, h'.tape.trans h.tape, h'.output.trans h.output, Nat.le_trans h.size h'.size, fun i hi n1 n2 => (h'.keep i (Nat.lt_of_lt_of_le hi h.size) n1 n2).trans (h.keep i hi n1 n2), fun x => h'.k1 (h.k1 x), fun x => h'.f1 (h.f1 x), fun x => h'.k2 (h.k2 x), fun x => h'.f2 (h.f2 x)⟩
theorem Wr.of_low {w w' : World} (h : Low w w') : Wr b1 b2 c1 c2 t w w' :=
  ⟨h.os, h.tape, h.output, h.size, fun i hi _ _ => h.block i hi, fun ⟨cs, h1, h2⟩ => ⟨cs, bblk h h1, h2⟩, fun h1 => bblk h h1, fun ⟨cs, h1, h2⟩ => ⟨cs, bblk h h1, h2⟩, fun h1 => bblk h h1⟩
theorem Wr.one {w w' : World} (hne : b1 ≠ b2) (hg : w.grownBy w' (some b1)) (h1 : w'.heap[b1]? = some (.cells c1 t (0, 0))) (hs : c1.size = 32) : Wr b1 b2 c1 c2 t w w' :=
  ⟨hg.os, hg.tape, hg.output, hg.size, fun i hi n1 _ => hg.block i hi (fun e => n1 (Option.some.inj e)), fun _ => ⟨c1, h1, hs⟩, fun _ => h1, fun ⟨cs, h2, h3⟩ => ⟨cs, (hg.block _ (in_heap h2) (fun e => hne (Option.some.inj e).symm)).trans h2, h3⟩, fun h2 => (hg.block _ (in_heap h2) (fun e => hne (Option.some.inj e).symm)).trans h2⟩
theorem Wr.two {w w' : World} (hne : b1 ≠ b2) (hg : w.grownBy w' (some b2)) (h1 : w'.heap[b2]? = some (.cells c2 t (0, 0))) (hs : c2.size = 32) : Wr b1 b2 c1 c2 t w w' :=
  ⟨hg.os, hg.tape, hg.output, hg.size, fun i hi _ n2 => hg.block i hi (fun e => n2 (Option.some.inj e)), fun ⟨cs, h2, h3⟩ => ⟨cs, (hg.block _ (in_heap h2) (fun e => hne (Option.some.inj e))).trans h2, h3⟩, fun h2 => (hg.block _ (in_heap h2) (fun e => hne (Option.some.inj e))).trans h2, fun _ => ⟨c2, h1, hs⟩, fun _ => h1⟩
def pFin1 : Post (Wr b1 b2 c1 c2 t) := ⟨fun _ w => w.heap[b1]? = some (.cells c1 t (0, 0)), fun _ _ _ h hw => hw.f1 h⟩
def pFin2 : Post (Wr b1 b2 c1 c2 t) := ⟨fun _ w => w.heap[b2]? = some (.cells c2 t (0, 0)), fun _ _ _ h hw => hw.f2 h⟩
/-- What lies below both boxes is as it was. -/
theorem Wr.below {w w0 w' : World} (h0 : Below w.heap.size w w0) (h : Wr b1 b2 c1 c2 t w0 w') (n1 : w.heap.size ≤ b1) (n2 : w.heap.size ≤ b2) : Below w.heap.size w w' :=
  ⟨h.os.trans h0.os, h.tape.trans h0.tape, h.output.trans h0.output, Nat.le_trans h0.size h.size, fun i hi => (h.keep i (Nat.lt_of_lt_of_le hi h0.size) (by omega) (by omega)).trans (h0.block i hi)⟩
end
abbrev WrS (b1 b2 : Nat) (r s : List UInt8) : World → World → Prop := Wr b1 b2 (r.map V8).toArray (s.map V8).toArray 29

set_option maxRecDepth 100000 in
set_option maxHeartbeats 1000000 in
theorem extin_whole (m u : Nat) (ob pb g : Nat) (old : List UInt8) (a : Option Addr) (np c : Nat) (p : List (List UInt8)) (w : World) (E : ExtEnv w ob pb g old a np c p) (hu : u ≤ np) :
    Calls Tryd.prog 53 #[.int .i64 m, .int .i64 m, .int .i64 u, .bool true, .pointer (some ⟨ob, 0, none⟩), .pointer (some ⟨pb, 0, none⟩), .pointer (some ⟨g, 0, none⟩)] w (RetBoth (Tree.both old m m true (p.take u)) w) := by
  have E' := Lib.hid E
  have Hl := Lib.hid E.len
  obtain ⟨t, fr, hlf⟩ := E.oldAt
  have HLF := Lib.hid hlf
  clear E hlf
  go_enter Tryd.func53, Tryd.ntmps53
  go_wp2_with fail
  have hb := blk2 w (.cells (zeros8 32) 29) (.cells (zeros8 32) 29)
  have HBk := Lib.hid hb
  have hne : w.heap.size ≠ w.heap.size + 1 := by omega
  clear hb
  refine wp_region_rel2 6 (WrS w.heap.size (w.heap.size + 1) old old) (by kernel_rfl) (by kernel_rfl) Wr.refl Wr.trans [.is (sumV old), .is (sumV old), .is (.int .i64 u), .is (.bool ((u : Int) == 0)), pFin1, pFin2] rfl ?_
  have hold : ∀ wr, WrS w.heap.size (w.heap.size + 1) old old ((w.alloc (.cells (zeros8 32) 29)).alloc (.cells (zeros8 32) 29)).drew wr → wr.heap[ob]? = some (.cells (old.map V8).toArray t fr) := fun wr hR =>
    (hR.keep ob (by have := in_heap HLF.out; show ob < ((w.alloc _).alloc _).heap.size; simp; omega) (Nat.ne_of_lt (in_heap HLF.out)) (by have := in_heap HLF.out; omega)).trans (at_old _ (at_old _ HLF.out))
  have Hold := Lib.hid hold
  clear hold
  refine RelHead2.cons ?_ ?_
  · intro wr hR h
    unfold relOp
    refine wpList_load_sum rfl 29 _ rfl ob (by kernel_rfl) t old 32 fr _ (Hold.out wr hR) Tryd.underlying29 (by kernel_rfl) Hl.out ?_
    go_wp2
    exact ⟨Wr.refl _, rfl⟩
  intro v26
  refine RelHead2.cons ?_ ?_
  · intro wr hR h
    unfold relOp
    refine wpList_load_sum rfl 29 _ rfl ob (by kernel_rfl) t old 32 fr _ (Hold.out wr hR) Tryd.underlying29 (by kernel_rfl) Hl.out ?_
    go_wp2
    exact ⟨Wr.refl _, rfl⟩
  intro v27
  refine RelHead2.cons ?_ ?_
  · intro wr hR h
    unfold relOp
    go_wp2
    exact ⟨Wr.refl _, rfl⟩
  intro v28
  refine RelHead2.cons ?_ ?_
  · intro wr hR h
    have e28 : v28 = (.int .i64 u : Value) := allOf_iff.1 h 2 (by decide)
    subst e28
    unfold relOp
    clear h
    go_wp2
    exact ⟨Wr.refl _, rfl⟩
  intro v29
  refine RelHead2.cons ?_ ?_
  · intro wr hR h
    have e26 : v26 = sumV old := allOf_iff.1 h 0 (by decide)
    subst e26
    obtain ⟨cs, hcs, hs⟩ := hR.k1 ⟨_, HBk.out.1, rfl⟩
    unfold relOp
    refine wpList_store_row' rfl 29 _ _ rfl w.heap.size (old.map V8).toArray (by kernel_rfl) (by kernel_rfl) _ _ hcs (size_sum old Hl.out) (by simp [hs, Hl.out]) (oneCells old) ?_
    intro w' h1 g1 s1
    go_wp2
    exact ⟨Wr.one hne g1 h1 (by simp [Hl.out]), undef, h1⟩
  intro v30
  refine RelHead2.cons ?_ ?_
  · intro wr hR h
    have e27 : v27 = sumV old := allOf_iff.1 h 1 (by decide)
    subst e27
    obtain ⟨cs, hcs, hs⟩ := hR.k2 ⟨_, HBk.out.2, rfl⟩
    unfold relOp
    refine wpList_store_row' rfl 29 _ _ rfl (w.heap.size + 1) (old.map V8).toArray (by kernel_rfl) (by kernel_rfl) _ _ hcs (size_sum old Hl.out) (by simp [hs, Hl.out]) (oneCells old) ?_
    intro w' h1 g1 s1
    go_wp2
    exact ⟨Wr.two hne g1 h1 (by simp [Hl.out]), undef, h1⟩
  intro v31
  refine RelHead2.nil fun wr hR h => ?_
  have e29 : v29 = (.bool ((u : Int) == 0) : Value) := allOf_iff.1 h 3 (by decide)
  have e30 : wr.heap[w.heap.size]? = some (.cells (old.map V8).toArray 29 (0, 0)) := allOf_iff.1 h 4 (by decide)
  have e31 : wr.heap[w.heap.size + 1]? = some (.cells (old.map V8).toArray 29 (0, 0)) := allOf_iff.1 h 5 (by decide)
  subst e29
  have hBl : Below w.heap.size w wr := Wr.below (low2 w (.cells (zeros8 32) 29) (.cells (zeros8 32) 29)).drew hR (Nat.le_refl _) (by omega)
  clear h hR
  go_wp2
  refine bodyPost_ret (results_sum2_tmp rfl _ _ w.heap.size (w.heap.size + 1) _ _ old old 32 (0, 0) (0, 0) _ rfl rfl e30 e31 Tryd.underlying29 (by kernel_rfl) Hl.out Hl.out) rfl ⟨old, old, _, rfl, Hl.out, Hl.out, ?_, hBl⟩
  rw [Tree.both_whole]
  have hp := E'.out.sums.len
  by_cases h : u = 0
  · subst h; simp
  · have h2 : p.take u ≠ [] := by simp; exact ⟨h, fun e => by rw [e] at hp; simp at hp; omega⟩
    rw [if_neg h2]
    have : ((u : Int) == 0) = false := by simp; exact h
    simp [this]
end Go.Proofs.YtpdhgijeanbmcaaDoor

/- Ext2 -/
namespace Go.Proofs.YtpdhgijeanbmcaaDoor
open Go.RowKit Go.Great

theorem at_4 {w3 w4 : World} {o o' : Obj} {x : Obj} (_h : w4.heap[w3.heap.size]? = some x) (hg : ((w3.alloc o).alloc o').grownBy w4 (some w3.heap.size)) : w4.heap[w3.heap.size + 1]? = some o' :=
  (hg.block _ (by simp) (fun e => by have := Option.some.inj e; omega)).trans (blk2 _ _ _).2
theorem Wr.at_ {b1 b2 b : Nat} {c1 c2 : Array Value} {t : TypeId} {w w' : World} {o : Obj} (h : Wr b1 b2 c1 c2 t w w') (hb : w.heap[b]? = some o) (n1 : b ≠ b1) (n2 : b ≠ b2) : w'.heap[b]? = some o := (h.keep b (in_heap hb) n1 n2).trans hb

set_option maxRecDepth 100000 in
set_option maxHeartbeats 2000000 in
theorem extin_left (m n u ob pb g : Nat) (whole : Bool) (old : List UInt8) (a : Option Addr) (np c : Nat) (p : List (List UInt8)) (w : World) (hup : u < np) (hnp : np < 4611686018427387904) (hm : 0 < m) (hmn : m < n) (hn63 : n < 9223372036854775808) (hmk : m ≤ split n) (E : ExtEnv w ob pb g old a np c p)
    (ih : ∀ w', ExtEnv w' ob pb g old a np c p → Calls Tryd.prog 53 #[.int .i64 m, .int .i64 (split n), .int .i64 u, .bool whole, .pointer (some ⟨ob, 0, none⟩), .pointer (some ⟨pb, 0, none⟩), .pointer (some ⟨g, 0, none⟩)] w' (RetBoth (Tree.both old m (split n) whole (p.take u)) w')) :
    Calls Tryd.prog 53 #[.int .i64 m, .int .i64 n, .int .i64 (u + 1 : Nat), .bool whole, .pointer (some ⟨ob, 0, none⟩), .pointer (some ⟨pb, 0, none⟩), .pointer (some ⟨g, 0, none⟩)] w (RetBoth (Tree.both old m n whole (p.take (u + 1))) w) := by
  have E' := Lib.hid E
  have hup' : u < p.length := by have := E.sums.len; omega
  have hkp := split_pos n
  have hkl := split_lt (show 1 < n by omega)
  have Hb := Lib.hid (Tree.both_left old m n whole p u hup' hmn hm hmk)
  have Hhalf := half_any n (by omega)
  obtain ⟨b, o, ha, hget⟩ := E.sums.get
  obtain rfl := ha (by omega)
  have hx := hget u hup'
  have hxl := E.sums.each p[u] (by simp)
  obtain ⟨x, hxe⟩ : ∃ x, x = p[u] := ⟨_, rfl⟩
  rw [← hxe] at hx hxl Hb
  have Ih := Lib.hid ih
  clear ih
  generalize split n = k at *
  have HX := Lib.hid hx
  have HXL := Lib.hid hxl
  have hcap := E.sums.cap
  have e1 : ((u + 1 : Nat) : Int) - 1 = (u : Int) := by omega
  have hn1 : ((m : Int) == (n : Int)) = false := by simp; omega
  have hn2 : ¬ (m : Int) = (n : Int) := by omega
  have hunp : (u : Int) < (np : Int) := by omega
  have hmk2 : (m : Int) ≤ (k : Int) := by omega
  clear hx hxl hget ha E hxe hup'
  go_enter Tryd.func53, Tryd.ntmps53
  go_wp2_with fail
  have HBk := Lib.hid (blk2 w (.cells (zeros8 32) 29) (.cells (zeros8 32) 29))
  have HLk := Lib.hid (low2 w (.cells (zeros8 32) 29) (.cells (zeros8 32) 29)).drew
  refine wp_region_rel2 9 Low (by kernel_rfl) (by kernel_rfl) Low.refl Low.trans [.is (.int .i64 n), .is (.int .i64 k), .is (.slice (some ⟨b, o, none⟩) np c), .is (.int .i64 (u + 1 : Nat)), .is (.int .i64 u), .is (.pointer (some ⟨b, o + u * 32, none⟩)), pSum x, pBox (w.heap.size + 1 + 1) (zeros8 32) 29, .is (.int .i64 k)] rfl ?_
  refine RelHead2.cons ?_ ?_
  · intro wr hR h
    unfold relOp
    go_wp2
    exact ⟨Low.refl _, rfl⟩
  intro v44
  refine RelHead2.cons ?_ ?_
  · intro wr hR h
    have ev44 : v44 = (.int .i64 n : Value) := allOf_iff.1 h 0 (by decide)
    subst ev44
    unfold relOp
    go_wp2_with (go_at_call 45; refine (Hhalf _).mono ?_; rintro e w2 ⟨rfl, rfl⟩)
    exact ⟨Low.refl _, rfl⟩
  intro v45
  refine RelHead2.cons ?_ ?_
  · intro wr hR h
    have hc := (E'.out.low (bthen HLk.out hR)).pathAt
    unfold relOp
    go_wp2
    exact ⟨Low.refl _, rfl⟩
  intro v46
  refine RelHead2.cons ?_ ?_
  · intro wr hR h
    unfold relOp
    go_wp2
    exact ⟨Low.refl _, rfl⟩
  intro v47
  refine RelHead2.cons ?_ ?_
  · intro wr hR h
    have ev47 : v47 = (.int .i64 (u + 1 : Nat) : Value) := allOf_iff.1 h 3 (by decide)
    subst ev47
    unfold relOp
    go_wp2
    exact ⟨Low.refl _, rfl⟩
  intro v48
  refine RelHead2.cons ?_ ?_
  · intro wr hR h
    have ev46 : v46 = (.slice (some ⟨b, o, none⟩) np c : Value) := allOf_iff.1 h 2 (by decide)
    subst ev46
    have ev48 : v48 = (.int .i64 u : Value) := allOf_iff.1 h 4 (by decide)
    subst ev48
    unfold relOp
    go_wp2
    exact ⟨Low.refl _, rfl⟩
  intro v49
  refine RelHead2.cons ?_ ?_
  · intro wr hR h
    have ev49 : v49 = (.pointer (some ⟨b, o + u * 32, none⟩) : Value) := allOf_iff.1 h 5 (by decide)
    subst ev49
    unfold relOp
    refine wpList_load_mid_sum rfl 29 _ rfl b (o + u * 32) (by kernel_rfl) x 32 _ (range_low HX.out (bthen HLk.out hR)) Tryd.underlying29 (by kernel_rfl) HXL.out ?_
    go_wp2
    exact ⟨Low.refl _, rfl⟩
  intro v50
  refine RelHead2.cons ?_ ?_
  · intro wr hR h
    unfold relOp
    go_wp2
    exact ⟨low1 _ _, _, rfl, by have := hR.size; simp at this; exact this, blk1 _ _⟩
  intro v15
  refine RelHead2.cons ?_ ?_
  · intro wr hR h
    have ev45 : v45 = (.int .i64 k : Value) := allOf_iff.1 h 1 (by decide)
    subst ev45
    unfold relOp
    go_wp2
    exact ⟨Low.refl _, rfl⟩
  intro v14
  refine RelHead2.nil fun w1 hR h => ?_
  have e50 : v50 = sumV x := allOf_iff.1 h 6 (by decide)
  have e14 : v14 = (.int .i64 k : Value) := allOf_iff.1 h 8 (by decide)
  have e15 : ∃ b, v15 = .pointer (some ⟨b, 0, none⟩) ∧ w.heap.size + 1 + 1 ≤ b ∧ w1.heap[b]? = some (.cells (zeros8 32) 29 (0, 0)) := allOf_iff.1 h 7 (by decide)
  subst e50 e14
  obtain ⟨b15, rfl, hb15, hbx⟩ := e15
  have hL : Low w w1 := bthen HLk.out hR
  have hz1 := bblk hR (show ((w.alloc _).alloc _).drew.heap[w.heap.size]? = _ from HBk.out.1)
  have hz2 := bblk hR (show ((w.alloc _).alloc _).drew.heap[w.heap.size + 1]? = _ from HBk.out.2)
  clear h
  refine wpList_store_row' rfl 29 _ _ rfl b15 (x.map V8).toArray (by kernel_rfl) (by kernel_rfl) _ _ hbx (size_sum x HXL.out) (by simp [HXL.out, zeros8]) (oneCells x) ?_
  intro w2 hx2 hg2 hs2
  have hL2 : Below w.heap.size w w2 := hL.grown hg2 hL.size (fun k' hk' => by obtain rfl := Option.some.inj hk'; omega)
  have hy1 : w2.heap[w.heap.size]? = some (.cells (zeros8 32) 29 (0, 0)) := (hg2.block _ (in_heap hz1) (fun e => by have := Option.some.inj e; omega)).trans hz1
  have hy2 : w2.heap[w.heap.size + 1]? = some (.cells (zeros8 32) 29 (0, 0)) := (hg2.block _ (in_heap hz2) (fun e => by have := Option.some.inj e; omega)).trans hz2
  have E2 := E'.out.low hL2
  have HE2 := Lib.hid E2
  have HL2 := Lib.hid hL2
  have HY1 := Lib.hid hy1
  have HY2 := Lib.hid hy2
  have HX2 := Lib.hid hx2
  have hc := E2.fn
  unfold extFn at hc
  have H15 := Lib.hid hb15
  clear hR hL hz1 hz2 hbx hg2 hs2 hL2 hy1 hy2 hx2 E2 Hhalf HLk HBk hb15
  have hcall := Lib.hid (Ih.out w2 HE2.out)
  clear Ih
  go_wp2_with (first | (go_at_call 53; refine hcall.out.mono ?_; rintro e w3 ⟨r, s, bb, rfl, hrl, hsl, hmd, hB⟩; have HRL := Lib.hid hrl; have HSL := Lib.hid hsl; have HMD := Lib.hid hmd; have HB3 := Lib.hid hB; clear hrl hsl hmd hB) | (refine wpList_store_row' rfl 29 _ _ rfl (w3.heap.size + 1) (s.map V8).toArray rfl rfl _ _ (at_4 H4.out G4.out) (size_sum s HSL.out) (by simp [HSL.out]) (oneCells s) ?_; intro w5 h5 g5 s5; have H5 := Lib.hid h5; have G5 := Lib.hid g5; clear h5 g5 s5) | (refine wpList_store_row' rfl 29 _ _ rfl w3.heap.size (r.map V8).toArray rfl rfl _ _ (blk2 _ _ _).1 (size_sum r HRL.out) (by simp [HRL.out]) (oneCells r) ?_; intro w4 h4 g4 s4; have H4 := Lib.hid h4; have G4 := Lib.hid g4; clear h4 g4 s4))
  have i3 := HB3.out.size
  have i2 := HL2.out.size
  have q1 := in_heap HY2.out
  have q2 := in_heap HX2.out
  have i4 := G4.out.size
  rw [size_alloc, size_alloc] at i4
  have hl3 : Below w.heap.size w w3 := bthen HL2.out HB3.out
  have hl5 : Below w.heap.size w w5 := (((hl3.alloc hl3.size _).alloc (by rw [size_alloc]; omega) _).grown G4.out (by rw [size_alloc, size_alloc]; omega) (fun k hk => by obtain rfl := Option.some.inj hk; omega)).grown G5.out (by omega) (fun k hk => by obtain rfl := Option.some.inj hk; omega)
  have k5 : ∀ b' o', b' < w3.heap.size → w3.heap[b']? = some o' → w5.heap[b']? = some o' := fun b' o' hlt hx => (G5.out.block _ (by omega) (fun e => by have := Option.some.inj e; omega)).trans ((G4.out.block _ (by rw [size_alloc, size_alloc]; omega) (fun e => by have := Option.some.inj e; omega)).trans (at_old _ (at_old _ hx)))
  have h16 : w5.heap[w3.heap.size]? = some (.cells (r.map V8).toArray 29 (0, 0)) := (G5.out.block _ (by omega) (fun e => by have := Option.some.inj e; omega)).trans H4.out
  have HZ1 := Lib.hid (k5 _ _ (by omega) (bblk HB3.out HY1.out))
  have HZ2 := Lib.hid (k5 _ _ (by omega) (bblk HB3.out HY2.out))
  have HZ15 := Lib.hid (k5 _ _ (by omega) (bblk HB3.out HX2.out))
  have HZ16 := Lib.hid h16
  have HZ17 := Lib.hid H5.out
  have HL5 := Lib.hid hl5
  have hb15 := H15.out
  have n1 : b15 ≠ w.heap.size := by omega
  have n2 : b15 ≠ w.heap.size + 1 := by omega
  have n3 : w3.heap.size ≠ w.heap.size := by omega
  have n4 : w3.heap.size ≠ w.heap.size + 1 := by omega
  have n5 : w3.heap.size + 1 ≠ w.heap.size := by omega
  have n6 : w3.heap.size + 1 ≠ w.heap.size + 1 := by omega
  have hne : w.heap.size ≠ w.heap.size + 1 := by omega
  obtain ⟨g16, hg16⟩ : ∃ g, g = w3.heap.size := ⟨_, rfl⟩
  rw [← hg16] at n3 n4 n5 n6 HZ16 HZ17 ⊢
  obtain ⟨nd, hnd, hndl⟩ : ∃ nd, nd = Tree.node s x ∧ nd.length = 32 := ⟨_, rfl, rfl⟩
  have HND := Lib.hid hnd
  have HNDL := Lib.hid hndl
  have hnode := Lib.hid fun W hT => node_any s x W hT HSL.out HXL.out
  clear hl3 hl5 k5 h16 i2 i3 i4 q1 q2 hnd hndl H4 H5 G4 G5 HY1 HY2 HX2 hb15 H15 hg16 hc hcall
  refine wp_region_rel2 7 (WrS w.heap.size (w.heap.size + 1) r nd) (by kernel_rfl) (by kernel_rfl) Wr.refl Wr.trans [.is (sumV r), .is (sumV s), .is (sumV x), .is (sumV nd), .is (.bool bb), pFin1, pFin2] rfl ?_
  refine RelHead2.cons ?_ ?_
  · intro wr hR h
    unfold relOp
    refine wpList_load_sum rfl 29 _ rfl g16 (by kernel_rfl) _ r 32 _ _ (hR.at_ (show w5.drew.heap[_]? = _ from HZ16.out) n3 n4) Tryd.underlying29 (by kernel_rfl) HRL.out ?_
    go_wp2
    exact ⟨Wr.refl _, rfl⟩
  intro v65
  refine RelHead2.cons ?_ ?_
  · intro wr hR h
    unfold relOp
    refine wpList_load_sum rfl 29 _ rfl (g16 + 1) (by kernel_rfl) _ s 32 _ _ (hR.at_ (show w5.drew.heap[_]? = _ from HZ17.out) n5 n6) Tryd.underlying29 (by kernel_rfl) HSL.out ?_
    go_wp2
    exact ⟨Wr.refl _, rfl⟩
  intro v66
  refine RelHead2.cons ?_ ?_
  · intro wr hR h
    unfold relOp
    refine wpList_load_sum rfl 29 _ rfl b15 (by kernel_rfl) _ x 32 _ _ (hR.at_ (show w5.drew.heap[_]? = _ from HZ15.out) n1 n2) Tryd.underlying29 (by kernel_rfl) HXL.out ?_
    go_wp2
    exact ⟨Wr.refl _, rfl⟩
  intro v67
  refine RelHead2.cons ?_ ?_
  · intro wr hR h
    have ev66 : v66 = (sumV s : Value) := allOf_iff.1 h 1 (by decide)
    subst ev66
    have ev67 : v67 = (sumV x : Value) := allOf_iff.1 h 2 (by decide)
    subst ev67
    have hTr := E'.out.tabs.below (Wr.below HL5.out.drew hR (Nat.le_refl _) (by omega))
    unfold relOp
    go_wp2_with (go_at_call 19; refine (hnode.out wr hTr).mono ?_; rintro e w6 ⟨rfl, hB6⟩)
    exact ⟨Wr.of_low hB6, congrArg sumV HND.out.symm⟩
  intro v68
  refine RelHead2.cons ?_ ?_
  · intro wr hR h
    unfold relOp
    go_wp2
    exact ⟨Wr.refl _, rfl⟩
  intro v69
  refine RelHead2.cons ?_ ?_
  · intro wr hR h
    have ev65 : v65 = (sumV r : Value) := allOf_iff.1 h 0 (by decide)
    subst ev65
    obtain ⟨cs, hcs, hs⟩ := hR.k1 ⟨_, HZ1.out, rfl⟩
    unfold relOp
    refine wpList_store_row' rfl 29 _ _ rfl w.heap.size (r.map V8).toArray (by kernel_rfl) (by kernel_rfl) _ _ hcs (size_sum r HRL.out) (by simp [hs, HRL.out]) (oneCells r) ?_
    intro w' h1 g1 s1
    go_wp2
    exact ⟨Wr.one hne g1 h1 (by simp [HRL.out]), undef, h1⟩
  intro v70
  refine RelHead2.cons ?_ ?_
  · intro wr hR h
    have ev68 : v68 = (sumV nd : Value) := allOf_iff.1 h 3 (by decide)
    subst ev68
    obtain ⟨cs, hcs, hs⟩ := hR.k2 ⟨_, HZ2.out, rfl⟩
    unfold relOp
    refine wpList_store_row' rfl 29 _ _ rfl (w.heap.size + 1) (nd.map V8).toArray (by kernel_rfl) (by kernel_rfl) _ _ hcs (size_sum nd HNDL.out) (by simp [hs, HNDL.out]) (oneCells nd) ?_
    intro w' h1 g1 s1
    go_wp2
    exact ⟨Wr.two hne g1 h1 (by simp [HNDL.out]), undef, h1⟩
  intro v71
  refine RelHead2.nil fun wr hR h => ?_
  have e69 : v69 = (.bool bb : Value) := allOf_iff.1 h 4 (by decide)
  have e70 : wr.heap[w.heap.size]? = some (.cells (r.map V8).toArray 29 (0, 0)) := allOf_iff.1 h 5 (by decide)
  have e71 : wr.heap[w.heap.size + 1]? = some (.cells (nd.map V8).toArray 29 (0, 0)) := allOf_iff.1 h 6 (by decide)
  subst e69
  have hBl : Below w.heap.size w wr := Wr.below HL5.out.drew hR (Nat.le_refl _) (by omega)
  clear h hR
  go_wp2
  refine bodyPost_ret (results_sum2_tmp rfl _ _ w.heap.size (w.heap.size + 1) _ _ r nd 32 (0, 0) (0, 0) _ rfl rfl e70 e71 Tryd.underlying29 (by kernel_rfl) HRL.out HNDL.out) rfl ⟨r, nd, bb, rfl, HRL.out, HNDL.out, ?_, hBl⟩
  rw [Hb.out, HMD.out, HND.out]
  cases bb <;> rfl
end Go.Proofs.YtpdhgijeanbmcaaDoor

/- Extc -/
namespace Go.Proofs.YtpdhgijeanbmcaaDoor
open Go.RowKit Go.Great

theorem ext_env {w w0 : World} {root old : List UInt8} {a : Option Addr} {np c : Nat} {p : List (List UInt8)} {t1 t2 t3 : TypeId} {t : TypeId} {o : Obj} (hT : Tabs w) (S : Sums w a np c p) (hl : old.length = 32)
    (hf : w0.heap[w.heap.size + 1 + 1 + 1]? = some (.cells #[extFn w.heap.size (w.heap.size + 1 + 1) (w.heap.size + 1 + 1 + 1)] t (0, 0)))
    (hg : ((((w.alloc (.cells (sumRow old) t1)).alloc (.cells (sumRow root) t2)).alloc (.cells #[.slice a np c] t3)).alloc o).grownBy w0 (some (w.heap.size + 1 + 1 + 1))) :
    ExtEnv w0 w.heap.size (w.heap.size + 1 + 1) (w.heap.size + 1 + 1 + 1) old a np c p ∧ Below w.heap.size w w0 ∧ w0.heap[w.heap.size]? = some (.cells (old.map V8).toArray t1 (0, 0)) ∧ w0.heap[w.heap.size + 1]? = some (.cells (root.map V8).toArray t2 (0, 0)) := by
  have hL : Below w.heap.size w w0 := (low4 _ _ _ _ _).grown hg (by simp; omega) (fun k hk => by obtain rfl := Option.some.inj hk; omega)
  have hb := blk4 w (.cells (sumRow old) t1) (.cells (sumRow root) t2) (.cells #[.slice a np c] t3) o
  have hk : ∀ b x, b < w.heap.size + 1 + 1 + 1 → ((((w.alloc (.cells (sumRow old) t1)).alloc (.cells (sumRow root) t2)).alloc (.cells #[.slice a np c] t3)).alloc o).heap[b]? = some x → w0.heap[b]? = some x :=
    fun b x hlt hx => (hg.block b (in_heap hx) (fun e => absurd (Option.some.inj e) (Nat.ne_of_lt hlt))).trans hx
  exact ⟨⟨hT.below hL, ⟨t1, (0, 0), hk _ _ (by omega) hb.1⟩, cell_block (hk _ _ (by omega) hb.2.2.1) rfl, cell_block hf rfl, hl, S.below hL⟩, hL, hk _ _ (by omega) hb.1, hk _ _ (by omega) hb.2.1⟩

theorem keep54 {w4 w5 : World} {b : Nat} {x : Obj} (g5 : w4.grownBy w5 (some (b + 1))) (h : w4.heap[b]? = some x) : w5.heap[b]? = some x :=
  (g5.block _ (in_heap h) (fun e => by have := Option.some.inj e; omega)).trans h
theorem keep5 {w3 w4 w5 : World} {o o' : Obj} (g4 : ((w3.alloc o).alloc o').grownBy w4 (some w3.heap.size)) (g5 : w4.grownBy w5 (some (w3.heap.size + 1))) : ∀ b' x, b' < w3.heap.size → w3.heap[b']? = some x → w5.heap[b']? = some x := fun b' x hlt hx => by
  have s4 := g4.size
  rw [size_alloc, size_alloc] at s4
  exact (g5.block _ (by omega) (fun e => by have := Option.some.inj e; omega)).trans ((g4.block _ (by rw [size_alloc, size_alloc]; omega) (fun e => by have := Option.some.inj e; omega)).trans (at_old _ (at_old _ hx)))
theorem low5' {w w0 w3 w4 w5 : World} {o o' : Obj} (h0 : Below w.heap.size w w0) (h3 : Below w0.heap.size w0 w3) (g4 : ((w3.alloc o).alloc o').grownBy w4 (some w3.heap.size)) (g5 : w4.grownBy w5 (some (w3.heap.size + 1))) : Below w.heap.size w w5 := by
  have s4 := g4.size
  rw [size_alloc, size_alloc] at s4
  have hl3 := bthen h0 h3
  have i := hl3.size
  exact (((hl3.alloc i _).alloc (by rw [size_alloc]; omega) _).grown g4 (by rw [size_alloc, size_alloc]; omega) (fun k hk => by obtain rfl := Option.some.inj hk; omega)).grown g5 (by omega) (fun k hk => by obtain rfl := Option.some.inj hk; omega)

set_option maxRecDepth 100000 in
set_option maxHeartbeats 2000000 in
theorem extends_of (root old : List UInt8) (m n : Nat) (a : Option Addr) (np c : Nat) (p : List (List UInt8)) (w : World) (hm : 0 < m) (hmn : m ≤ n) (hr : root.length = 32) (ho : old.length = 32) (hT : Tabs w) (S : Sums w a np c p)
    (hin : ∀ ob pb g w', ExtEnv w' ob pb g old a np c p → Calls Tryd.prog 53 #[.int .i64 m, .int .i64 n, .int .i64 np, .bool true, .pointer (some ⟨ob, 0, none⟩), .pointer (some ⟨pb, 0, none⟩), .pointer (some ⟨g, 0, none⟩)] w' (RetBoth (Tree.both old m n true p) w')) :
    Calls Tryd.prog 32 #[.int .i64 m, sumV old, .int .i64 n, sumV root, .slice a np c] w fun e w' => e = .returned (.bool (Tree.extends_ m old n root p)) ∧ Below w.heap.size w w' := by
  have Hin := Lib.hid hin
  have S' := Lib.hid S
  have HOO := Lib.hid ho
  have HRR := Lib.hid hr
  have hi1 : ¬ (m : Int) < 1 := by omega
  have hi2 : ¬ (n : Int) < (m : Int) := by omega
  clear S ho hr hin
  go_enter Tryd.func32, Tryd.ntmps32
  have HB4 := Lib.hid (blk4 w (.cells (sumRow old) 29) (.cells (sumRow root) 29) (.cells #[.slice a np c] 31) (.cells #[.nilFunc] 72)).2.2.2
  go_upto_region 5 with (refine wpList_store_one' rfl 72 _ _ rfl rfl (w.heap.size + 1 + 1 + 1) (.func (.func 53) #[] #[.pointer (some ⟨w.heap.size, 0, none⟩), .pointer (some ⟨w.heap.size + 1 + 1, 0, none⟩), .pointer (some ⟨w.heap.size + 1 + 1 + 1, 0, none⟩)]) rfl rfl rfl _ _ HB4.out (by kernel_rfl) ?_; intro w0 hf hgr; have hf' := Lib.hid hf; have hgr' := Lib.hid hgr; clear hf hgr)
  obtain ⟨E, hB, hold, hroot⟩ := ext_env (p := p) hT S'.out HOO.out hf'.out hgr'.out
  have hc := E.fn
  have hcp := E.pathAt
  unfold extFn at hc
  have HE := Lib.hid E
  have HB0 := Lib.hid hB
  have HOld := Lib.hid hold
  have HRoot := Lib.hid hroot
  have Hel1 := Lib.hid (show ∀ (r : List UInt8), r.length = 32 → ∀ W, (binOp .eql 29 (sumV r) (sumV old)).run Tryd.prog W = .ok (.bool (r == old)) W from fun r h W => eql_sumV r old W h HOO.out)
  have Hel2 := Lib.hid (show ∀ (r : List UInt8), r.length = 32 → ∀ W, (binOp .eql 29 (sumV r) (sumV root)).run Tryd.prog W = .ok (.bool (r == root)) W from fun r h W => eql_sumV r root W h HRR.out)
  clear hf' hgr' E hB hold hroot
  go_wp2_with (first | (go_at_call 53; refine (Hin.out _ _ _ _ HE.out).mono ?_; rintro e w3 ⟨r, s, bb, rfl, hrl, hsl, hmd, hB⟩; have HRL := Lib.hid hrl; have HSL := Lib.hid hsl; have HMD := Lib.hid hmd; have HB3 := Lib.hid hB; clear hrl hsl hmd hB; cases bb <;> cases hq : (r == old)) | (refine wpList_store_row' rfl 29 _ _ rfl (w3.heap.size + 1) (s.map V8).toArray rfl rfl _ _ (at_4 H4.out G4.out) (size_sum s HSL.out) (by simp [HSL.out]) (oneCells s) ?_; intro w5 h5 g5 s5; have h54 := keep54 g5 H4.out; have hk5 := keep5 G4.out g5; have H5 := Lib.hid h5; have G5 := Lib.hid g5; have H54 := Lib.hid h54; have hel1 := Hel1.out r HRL.out; have hel2 := Hel2.out s HSL.out; have HK5 := Lib.hid hk5; clear h5 g5 s5 h54 hk5) | (refine wpList_store_row' rfl 29 _ _ rfl w3.heap.size (r.map V8).toArray rfl rfl _ _ (blk2 _ _ _).1 (size_sum r HRL.out) (by simp [HRL.out]) (oneCells r) ?_; intro w4 h4 g4 s4; have H4 := Lib.hid h4; have G4 := Lib.hid g4; clear h4 g4 s4) | (refine wpList_guarded rfl ?_; refine wpList_load_sum rfl 29 _ rfl w3.heap.size rfl _ r 32 _ _ H54.out Tryd.underlying29 (by kernel_rfl) HRL.out ?_) | (refine wpList_guarded rfl ?_; refine wpList_load_sum rfl 29 _ rfl w.heap.size rfl _ old 32 _ _ (HK5.out _ _ (in_heap (bblk HB3.out HOld.out)) (bblk HB3.out HOld.out)) Tryd.underlying29 (by kernel_rfl) HOO.out ?_) | (refine wpList_guarded rfl ?_; refine wpList_load_sum rfl 29 _ rfl (w3.heap.size + 1) rfl _ s 32 _ _ H5.out Tryd.underlying29 (by kernel_rfl) HSL.out ?_) | (refine wpList_guarded rfl ?_; refine wpList_load_sum rfl 29 _ rfl (w.heap.size + 1) rfl _ root 32 _ _ (HK5.out _ _ (in_heap (bblk HB3.out HRoot.out)) (bblk HB3.out HRoot.out)) Tryd.underlying29 (by kernel_rfl) HRR.out ?_))
  · go_ret
    have : Tree.extends_ m old n root p = false := by unfold Tree.extends_; rw [HMD.out]; rfl
    exact ⟨by rw [this]; try rfl, low5' HB0.out HB3.out G4.out G5.out⟩
  · go_ret
    have : Tree.extends_ m old n root p = false := by unfold Tree.extends_; rw [HMD.out]; rfl
    exact ⟨by rw [this]; try rfl, low5' HB0.out HB3.out G4.out G5.out⟩
  · go_ret
    have : Tree.extends_ m old n root p = false := by unfold Tree.extends_; rw [HMD.out]; simp [hq]
    exact ⟨by rw [this]; try rfl, low5' HB0.out HB3.out G4.out G5.out⟩
  · go_ret
    have : Tree.extends_ m old n root p = (s == root) := by unfold Tree.extends_; rw [HMD.out]; simp [hq]
    exact ⟨by rw [this]; try rfl, low5' HB0.out HB3.out G4.out G5.out⟩

/-- A proof of one sum that two leaves of three have become three. -/
theorem extends_three (root old x : List UInt8) (a : Option Addr) (c : Nat) (w : World) (hr : root.length = 32) (ho : old.length = 32) (hT : Tabs w) (S : Sums w a 1 c [x]) (hs3 : split 3 = 2) :
    Calls Tryd.prog 32 #[.int .i64 2, sumV old, .int .i64 3, sumV root, .slice a 1 c] w fun e w' => e = .returned (.bool (Tree.extends_ 2 old 3 root [x])) ∧ Below w.heap.size w w' := by
  refine extends_of root old 2 3 a 1 c [x] w (by omega) (by omega) hr ho hT S fun ob pb g w' E => ?_
  have h := extin_left 2 3 0 ob pb g true old a 1 c [x] w' (by omega) (by omega) (by omega) (by omega) (by omega) (by rw [hs3]; omega) E fun w2 E2 => by
    rw [hs3]
    exact extin_whole 2 0 ob pb g old a 1 c [x] w2 E2 (by omega)
  simpa using h
end Go.Proofs.YtpdhgijeanbmcaaDoor

/- Rev -/
namespace Go.Proofs.YtpdhgijeanbmcaaDoor
open Go.RowKit Go.Great

/-- The first k and the last k have changed places. -/
def RevAt (M N : List (List UInt8)) (k : Nat) : Prop := N.length = M.length ∧ ∀ i, i < M.length → N[i]? = if i < k ∨ M.length ≤ i + k then M[M.length - 1 - i]? else M[i]?
theorem RevAt.start (M : List (List UInt8)) : RevAt M M 0 := ⟨rfl, fun i hi => by rw [if_neg (by omega)]⟩
theorem RevAt.next {M N : List (List UInt8)} {k m : Nat} (h : RevAt M N k) (hm : k + m + 1 = M.length) (hkm : k < m) {x y : List UInt8} (hx : N[m]? = some x) (hy : N[k]? = some y) : RevAt M ((N.set k x).set m y) (k + 1) := by
  obtain ⟨h1, h2⟩ := h
  refine ⟨by simp [h1], fun i hi => ?_⟩
  by_cases him : i = m
  · subst him
    rw [List.getElem?_set_self (by simp; omega), ← hy, h2 k (by omega), if_neg (by omega), if_pos (by omega), show M.length - 1 - i = k by omega]
  · rw [List.getElem?_set_ne (by omega)]
    by_cases hik : i = k
    · subst hik
      rw [List.getElem?_set_self (by omega), ← hx, h2 m (by omega), if_neg (by omega), if_pos (by omega), show M.length - 1 - i = m by omega]
    · rw [List.getElem?_set_ne (by omega), h2 i hi]
      by_cases hc : i < k ∨ M.length ≤ i + k
      · rw [if_pos hc, if_pos (by omega)]
      · rw [if_neg hc, if_neg (by omega)]
theorem RevAt.done {M N : List (List UInt8)} {k : Nat} (h : RevAt M N k) (hk : M.length ≤ k + k + 1) : N = M.reverse := by
  obtain ⟨h1, h2⟩ := h
  apply List.ext_getElem?
  intro i
  by_cases hi : i < M.length
  · rw [h2 i hi, List.getElem?_reverse hi]
    by_cases hc : i < k ∨ M.length ≤ i + k
    · rw [if_pos hc]
    · rw [if_neg hc, show M.length - 1 - i = i by omega]
  · rw [List.getElem?_eq_none (by omega), List.getElem?_eq_none (by simp; omega)]
theorem RevAt.each {M N : List (List UInt8)} {k : Nat} (h : RevAt M N k) (hM : ∀ x ∈ M, x.length = 32) : ∀ x ∈ N, x.length = 32 := by
  obtain ⟨h1, h2⟩ := h
  intro x hx
  obtain ⟨i, hi, rfl⟩ := List.mem_iff_getElem.1 hx
  have h3 := h2 i (by omega)
  rw [List.getElem?_eq_getElem hi] at h3
  split at h3 <;> exact hM _ (List.mem_of_getElem? h3.symm)

def revI (w0 : World) (base g C n : Nat) (N : List (List UInt8)) (k : Nat) (x : List UInt8) : List Bool → World → Prop
  | [true], w => Acc 29 32 w0 w base (some ⟨g, 0, none⟩) C n (sumCells (N.set k x))
  | _, w => Acc 29 32 w0 w base (some ⟨g, 0, none⟩) C n (sumCells N)

set_option maxRecDepth 100000 in
set_option maxHeartbeats 4000000 in
theorem rev_any (M : List (List UInt8)) (w0 w : World) (base : Nat) (B : Option Addr) (n C : Nat) (hnl : n = M.length) (hn : n < 4611686018427387904) (hM : ∀ x ∈ M, x.length = 32) (H : Acc 29 32 w0 w base B C n (sumCells M)) :
    Calls Tryd.prog 47 #[.slice B n C] w fun e w' => e = .returned (.tuple #[]) ∧ Acc 29 32 w0 w' base B C n (sumCells M.reverse) := by
  have HH := Lib.hid H
  have Hnl := Lib.hid hnl
  have HM := Lib.hid hM
  clear H hnl hM
  go_enter Tryd.func47, Tryd.ntmps47
  go_wp2
  go_loopw [2, 3] (fun i j wr => ∃ (k : Nat) (jz : Int) (N : List (List UInt8)), i = .int .i64 k ∧ j = .int .i64 jz ∧ Hid (jz = (n : Int) - 1 - k ∧ k ≤ n ∧ RevAt M N k) ∧ Acc 29 32 w0 wr base B C n (sumCells N)) (fun i _ _ => n - (intOf i).toNat)
  case atStart => exact ⟨0, (n : Int) - 1, M, rfl, rfl, Lib.hid ⟨by omega, by omega, RevAt.start M⟩, HH.out⟩
  case round =>
    clear HH
    obtain ⟨k, jz, N, rfl, rfl, hrv, hA⟩ := hrel
    have HA := Lib.hid hA
    clear hA
    by_cases hlt : (k : Int) < jz
    · obtain ⟨m, hm⟩ : ∃ m : Nat, jz = (m : Int) := ⟨jz.toNat, by omega⟩
      subst hm
      have hkm : k < m := by omega
      have hmn : k + m + 1 = n := by have := hrv.out.1; omega
      have hNl : N.length = n := by rw [Hnl.out]; exact hrv.out.2.2.1
      have hEach := hrv.out.2.2.each HM.out
      obtain ⟨x, hx, hxm⟩ : ∃ x, N[m]? = some x ∧ x ∈ N := ⟨N[m]'(by omega), List.getElem?_eq_getElem (by omega), by simp⟩
      obtain ⟨y, hy, hym⟩ : ∃ y, N[k]? = some y ∧ y ∈ N := ⟨N[k]'(by omega), List.getElem?_eq_getElem (by omega), by simp⟩
      have Hx := Lib.hid hx
      have Hy := Lib.hid hy
      have HX := Lib.hid (hEach x hxm)
      have HY := Lib.hid (hEach y hym)
      have HE := Lib.hid hEach
      have HNl := Lib.hid hNl
      have Hmn := Lib.hid hmn
      have hBg : ∃ g, B = some ⟨g, 0, none⟩ := by
        rcases HA.out.form with ⟨_, h0, _⟩ | ⟨g, _, hg, _⟩
        · omega
        · exact ⟨g, hg⟩
      obtain ⟨g, rfl⟩ := hBg
      have hki0 : (0 : Int) ≤ (k : Int) := by omega
      have hmn1 : m < n := by omega
      have hkn1 : k < n := by omega
      clear hx hy hxm hym hEach hNl hmn
      go_wp2
      refine wp_region_inv 14 28 (fun _ _ => True) [13] (revI w0 base g C n N k x) (by kernel_rfl) (by kernel_rfl) (by kernel_rfl) (by kernel_rfl) (by kernel_rfl) [.is (.slice (some ⟨g, 0, none⟩) n C : Value), .is (.int .i64 k : Value), .is (.slice (some ⟨g, 0, none⟩) n C : Value), .is (.int .i64 m : Value), .is (.slice (some ⟨g, 0, none⟩) n C : Value), .is (.int .i64 m : Value), .is (.pointer (some ⟨g, 0 + m * 32, none⟩) : Value), .is (sumV x), .is (.slice (some ⟨g, 0, none⟩) n C : Value), .is (.int .i64 k : Value), .is (.pointer (some ⟨g, 0 + k * 32, none⟩) : Value), .is (sumV y), .is (.pointer (some ⟨g, 0 + k * 32, none⟩) : Value), .is undef] rfl (HA.out.drew) (fun vs => ?_) (fun vs wr hI h => ?_)
      · refine RegHeadI.cons (fun S wr hd hSk hSd hI h => ?_) ?_
        · exact relAtI.pure ⟨trivial, keepI (by decide) hI⟩ (by kernel_rfl) (by kernel_rfl)
        refine RegHeadI.cons (fun S wr hd hSk hSd hI h => ?_) ?_
        · exact relAtI.pure ⟨trivial, keepI (by decide) hI⟩ (by kernel_rfl) (by kernel_rfl)
        refine RegHeadI.cons (fun S wr hd hSk hSd hI h => ?_) ?_
        · exact relAtI.pure ⟨trivial, keepI (by decide) hI⟩ (by kernel_rfl) (by kernel_rfl)
        refine RegHeadI.cons (fun S wr hd hSk hSd hI h => ?_) ?_
        · exact relAtI.pure ⟨trivial, keepI (by decide) hI⟩ (by kernel_rfl) (by kernel_rfl)
        refine RegHeadI.cons (fun S wr hd hSk hSd hI h => ?_) ?_
        · exact relAtI.pure ⟨trivial, keepI (by decide) hI⟩ (by kernel_rfl) (by kernel_rfl)
        refine RegHeadI.cons (fun S wr hd hSk hSd hI h => ?_) ?_
        · exact relAtI.pure ⟨trivial, keepI (by decide) hI⟩ (by kernel_rfl) (by kernel_rfl)
        refine RegHeadI.cons (fun S wr hd hSk hSd hI h => ?_) ?_
        · exact relAtI.pureS ⟨trivial, keepI (by decide) hI⟩ (by kernel_rfl) (by kernel_rfl) (run_sums_index wr g 0 n C m hmn1)
        refine RegHeadI.cons (fun S wr hd hSk hSd hI h => ?_) ?_
        · have h13 : S 13 = false := hd.not 14 hSk (by decide) (by decide)
          have hI2 : Acc 29 32 w0 wr base (some ⟨g, 0, none⟩) C n (sumCells N) := by have hI := hI; simp only [List.map, h13] at hI; exact hI
          exact relAtI.pureS ⟨trivial, keepI (by decide) hI⟩ (by kernel_rfl) (by kernel_rfl) (run_load_at_sum wr g (0 + m * 32) x (acc_range hI2 HE.out HNl.out.symm m x Hx.out) HX.out)
        refine RegHeadI.cons (fun S wr hd hSk hSd hI h => ?_) ?_
        · exact relAtI.pure ⟨trivial, keepI (by decide) hI⟩ (by kernel_rfl) (by kernel_rfl)
        refine RegHeadI.cons (fun S wr hd hSk hSd hI h => ?_) ?_
        · exact relAtI.pure ⟨trivial, keepI (by decide) hI⟩ (by kernel_rfl) (by kernel_rfl)
        refine RegHeadI.cons (fun S wr hd hSk hSd hI h => ?_) ?_
        · exact relAtI.pureS ⟨trivial, keepI (by decide) hI⟩ (by kernel_rfl) (by kernel_rfl) (run_sums_index wr g 0 n C k hkn1)
        refine RegHeadI.cons (fun S wr hd hSk hSd hI h => ?_) ?_
        · have h13 : S 13 = false := hd.not 14 hSk (by decide) (by decide)
          have hI2 : Acc 29 32 w0 wr base (some ⟨g, 0, none⟩) C n (sumCells N) := by have hI := hI; simp only [List.map, h13] at hI; exact hI
          exact relAtI.pureS ⟨trivial, keepI (by decide) hI⟩ (by kernel_rfl) (by kernel_rfl) (run_load_at_sum wr g (0 + k * 32) y (acc_range hI2 HE.out HNl.out.symm k y Hy.out) HY.out)
        refine RegHeadI.cons (fun S wr hd hSk hSd hI h => ?_) ?_
        · exact relAtI.pureS ⟨trivial, keepI (by decide) hI⟩ (by kernel_rfl) (by kernel_rfl) (run_sums_index wr g 0 n C k hkn1)
        refine RegHeadI.cons (fun S wr hd hSk hSd hI h => ?_) ?_
        · have h13 : S 13 = false := hSk
          have hI2 : Acc 29 32 w0 wr base (some ⟨g, 0, none⟩) C n (sumCells N) := by have hI := hI; simp only [List.map, h13] at hI; exact hI
          obtain ⟨hs1, hs2, hs3⟩ := run_store_sum_own wr hI2 HE.out HNl.out.symm k hkn1 x HX.out
          exact relAtI.act (by kernel_rfl) (by kernel_rfl) hs1 ⟨trivial, by simp only [List.map, setB, if_true]; exact hs2⟩ rfl
        exact trivial
      · have hI2 : Acc 29 32 w0 wr base (some ⟨g, 0, none⟩) C n (sumCells (N.set k x)) := hI
        have HI2 := Lib.hid hI2
        clear h hI hI2
        refine wp_frame (new := [(.slice (some ⟨g, 0, none⟩) n C : Value), (.int .i64 k : Value), (.slice (some ⟨g, 0, none⟩) n C : Value), (.int .i64 m : Value), (.slice (some ⟨g, 0, none⟩) n C : Value), (.int .i64 m : Value), (.pointer (some ⟨g, 0 + m * 32, none⟩) : Value), (sumV x), (.slice (some ⟨g, 0, none⟩) n C : Value), (.int .i64 k : Value), (.pointer (some ⟨g, 0 + k * 32, none⟩) : Value), (sumV y), (.pointer (some ⟨g, 0 + k * 32, none⟩) : Value)]) 14 27 (by kernel_rfl) ?_
        simp only [List.take, List.drop, List.cons_append, List.nil_append]
        have hNs : ∀ z ∈ N.set k x, z.length = 32 := fun z hz => by
          rcases List.mem_or_eq_of_mem_set hz with hz | rfl
          · exact HE.out z hz
          · exact HX.out
        have HNs := Lib.hid hNs
        clear hNs
        have hmn2 : (m : Int) < (n : Int) := by omega
        have hmi0 : (0 : Int) ≤ (m : Int) := by omega
        go_wp2_with (refine wpList_store_own rfl _ _ rfl HI2.out HNs.out (by simp [HNl.out]) m hmn1 y HY.out rfl rfl ?_; intro w9 hacc9 hg9; have HA9 := Lib.hid hacc9; clear hacc9 hg9)
        go_roundw
        case rel =>
          refine ⟨k + 1, (m : Int) - 1, (N.set k x).set m y, by go_num, rfl, Lib.hid ⟨?_, by omega, ?_⟩, ?_⟩
          · have := Hmn.out; omega
          · exact hrv.out.2.2.next (by rw [← Hnl.out]; exact Hmn.out) hkm Hx.out Hy.out
          · exact HA9.out
        case measure => simp [intOf]; omega
    · go_wp2
      go_end0
      refine ⟨rfl, ?_⟩
      have hN : N = M.reverse := hrv.out.2.2.done (by have := hrv.out.1; have := Hnl.out; omega)
      rw [← hN]
      exact HA.out
end Go.Proofs.YtpdhgijeanbmcaaDoor

/- Path -/
namespace Go.Proofs.YtpdhgijeanbmcaaDoor
open Go.RowKit Go.Great

theorem RetSE.of_rev {w w' : World} {B : Option Addr} {C : Nat} {M : List (List UInt8)} (h : Acc 29 32 w w' w.heap.size B C M.length (sumCells M.reverse)) : RetSE w M.reverse 0 (.returned (.tuple #[.slice B M.length C, .int .i64 0])) w' := by
  have e : M.reverse.length = M.length := List.length_reverse
  refine ⟨B, C, by rw [e], by rw [e]; exact h⟩

def lenOf : Value → Nat
  | .slice _ n _ => n
  | _ => 0
theorem lenOf_slice (a : Option Addr) (n c : Nat) : lenOf (.slice a n c) = n := rfl
/-- Where the descent stands: a part of the leaves, a place in it, and the path so far, last sum first. -/
structure PAt (w : World) (L : List (List UInt8)) (i : Nat) (wr : World) (L' : List (List UInt8)) (a : Option Addr) (n c i' : Nat) (B : Option Addr) (C : Nat) (M : List (List UInt8)) : Prop where
  sums : Sums w a n c L'
  lt : i' < n
  acc : Acc 29 32 w wr w.heap.size B C M.length (sumCells M)
  path : Tree.path L i = Tree.path L' i' ++ M.reverse
  room : M.length + n ≤ L.length
  each : ∀ x ∈ M, x.length = 32

set_option maxRecDepth 100000 in
set_option maxHeartbeats 2000000 in
theorem path_any (L : List (List UInt8)) (a : Option Addr) (n c i : Nat) (w : World) (hi : i < n) (hlen : n < 1099511627776) (hT : Tabs w) (S : Sums w a n c L) :
    Calls Tryd.prog 24 #[.slice a n c, .int .i64 i] w (RetSE w (Tree.path L i) 0) := by
  obtain ⟨z0, hz0, hinfo⟩ := info_sum'
  have HI := Lib.hid hinfo
  have HZ0 := Lib.hid hz0
  have hs : PAt w L i w L a n c i none 0 [] := ⟨S, hi, Acc.start _ _ _ _ _ (Below.refl _ _) (Nat.le_refl _), by simp, by rw [S.len]; simp, fun _ h => by cases h⟩
  have HS := Lib.hid hs
  have hLn := S.len
  have HLn := Lib.hid hLn
  have h1 : ¬ (i : Int) < 0 := by omega
  have h2 : ¬ (n : Int) ≤ (i : Int) := by omega
  clear S hinfo hz0 hs hLn
  go_enter Tryd.func24, Tryd.ntmps24
  go_wp2
  go_step3
  go_wp2
  go_step3
  go_wp2
  simp only [decide_eq_false (show ¬ (i : Int) < 0 by omega), decide_eq_false (show ¬ n ≤ i by omega), Bool.or_false]
  go_loopw [1, 6, 7, 8] (fun iv pv lv _ wr => ∃ (L' : List (List UInt8)) (a' : Option Addr) (n' c' i' : Nat) (B : Option Addr) (C : Nat) (M : List (List UInt8)), iv = .int .i64 i' ∧ pv = .slice B M.length C ∧ lv = .slice a' n' c' ∧ PAt w L i wr L' a' n' c' i' B C M) (fun _ _ lv _ _ => lenOf lv)
  case atStart => exact ⟨L, a, n, c, i, none, 0, [], rfl, rfl, rfl, HS.out⟩
  case round =>
    clear HS
    obtain ⟨L', a', n', c', i', B, C, M, rfl, rfl, rfl, hP⟩ := hrel
    have HP := Lib.hid hP
    clear hP
    by_cases hone : n' = 1
    · have hone2 : ((n' : Int) == 1) = true := by simp; omega
      have hone3 : (n' : Int) = 1 := by omega
      have hl' := HP.out.sums.len
      have hst := Tree.path_stop (l := L') (i := i') (by omega)
      have hpa := HP.out.path
      rw [hst, List.nil_append] at hpa
      have HPA := Lib.hid hpa
      have hMl : M.length < 4611686018427387904 := by have := HP.out.room; have := HLn.out; omega
      clear hl' hst hpa
      go_wp2_with (go_at_call 47; refine (rev_any M w wr w.heap.size B M.length C rfl hMl HP.out.each HP.out.acc).mono ?_; rintro e w1 ⟨rfl, hA1⟩; have HA1 := Lib.hid hA1; clear hA1)
      rw [Exit.noGoto_ret]
      go_ret2
      rw [HPA.out]
      exact RetSE.of_rev HA1.out
    · have hn1 : 1 < n' := by have := HP.out.lt; omega
      have hone2 : ((n' : Int) == 1) = false := by simp; omega
      have hone3 : ¬ (n' : Int) = 1 := by omega
      have hn63 : n' < 1099511627776 := by have := HP.out.room; have := HLn.out; omega
      have hkp := split_pos n'
      have hkl := split_lt hn1
      have hl' := HP.out.sums.len
      have hpl := @Tree.path_left L' i' (by omega)
      have hpr := @Tree.path_right L' i' (by omega)
      rw [← hl'] at hpl hpr
      have Hhalf := half_any n' (by omega)
      have hcap := HP.out.sums.cap
      generalize split n' = k at *
      have hMl : M.length + 1 ≤ 1099511627776 := by have := HP.out.room; have := HLn.out; omega
      have z1 : M.length + 1 ≤ maxLen := by unfold maxLen; omega
      have z2 : (M.length + 1) * 32 ≤ 140737488355328 := by omega
      have hlow := HP.out.acc.low
      have Hlow := Lib.hid hlow
      by_cases hik : i' < k
      · have hik2 : (i' : Int) < (k : Int) := by omega
        have hpp := hpl hik
        have hsl := Tree.root_len (L'.drop k) fun x hx => HP.out.sums.each x (List.mem_of_mem_drop hx)
        have hrt := root_any (L'.drop k) (a'.map (·.add (k * 32))) (n' - k) (c' - k) wr (by rw [List.length_drop]; omega) (hT.below hlow) ((HP.out.sums.rest k hkl).below hlow)
        obtain ⟨s, hse⟩ : ∃ s, s = Tree.root (L'.drop k) := ⟨_, rfl⟩
        rw [← hse] at hpp hsl hrt
        have Hrt := Lib.hid hrt
        have Hsl := Lib.hid hsl
        have Hpp := Lib.hid hpp
        have Hl' := Lib.hid hl'
        clear hpl hpr hpp hsl hrt hse hl' hlow
        go_wp2_with (first | (go_at_call 45; refine (Hhalf _).mono ?_; rintro e w1 ⟨rfl, rfl⟩) | (go_at_call 21; refine Hrt.out.mono ?_; rintro e w2 ⟨rfl, hB⟩; have HB := Lib.hid hB; clear hB) | (refine wpList_build_sum rfl _ rfl s rfl Hsl.out ?_) | (at_builtin; refine wpList_acc rfl _ _ 31 rfl 29 32 32 z0 Tryd.underlying31 HI.out HZ0.out (by decide) w w.heap.size B C M.length (sumCells M) rfl ((HP.out.acc.below HB.out).alloc _) (some ⟨w2.heap.size, 0, none⟩) 1 1 (s.map V8) rfl (by simp [Hsl.out]) (box_bytes (blk1 _ _)).cells (fun h => by cases h) (fun ad h => ⟨_, _, (Option.some.inj h).symm⟩) (ones' s) z1 z2 ?_; intro B2 D2 w3 hacc hg hnew; have HA := Lib.hid hacc; clear hacc hg hnew))
        go_roundw
        case rel =>
          refine ⟨L'.take k, a', k, c', i', B2, D2, M ++ [s], rfl, by simp, rfl, HP.out.sums.take k (by omega), hik, ?_, ?_, ?_, ?_⟩
          · have := HA.out
            rw [← sumCells_one s, ← sumCells_append] at this
            simpa using this
          · rw [HP.out.path, Hpp.out]; simp
          · have := HP.out.room; simp; omega
          · intro x hx
            rw [List.mem_append, List.mem_singleton] at hx
            rcases hx with hx | rfl
            · exact HP.out.each x hx
            · exact Hsl.out
        case measure => rw [lenOf_slice, lenOf_slice]; omega
      · have hik2 : ¬ (i' : Int) < (k : Int) := by omega
        have hpp := hpr hik
        have e0 : ((i' - k : Nat) : Int) = (i' : Int) - (k : Int) := by omega
        have hsl := Tree.root_len (L'.take k) fun x hx => HP.out.sums.each x (List.mem_of_mem_take hx)
        have hrt := root_any (L'.take k) a' k c' wr (by rw [List.length_take]; omega) (hT.below hlow) ((HP.out.sums.take k (by omega)).below hlow)
        obtain ⟨s, hse⟩ : ∃ s, s = Tree.root (L'.take k) := ⟨_, rfl⟩
        rw [← hse] at hpp hsl hrt
        have Hrt := Lib.hid hrt
        have Hsl := Lib.hid hsl
        have Hpp := Lib.hid hpp
        have Hl' := Lib.hid hl'
        have He0 := Lib.hid e0
        have hwr : wrap64 ((i' : Int) - (k : Int)) = (i' : Int) - (k : Int) := by have := HP.out.lt; unfold wrap64; omega
        clear hpl hpr hpp hsl hrt hse hl' hlow e0
        go_wp2_with (first | (go_at_call 45; refine (Hhalf _).mono ?_; rintro e w1 ⟨rfl, rfl⟩) | (go_at_call 21; refine Hrt.out.mono ?_; rintro e w2 ⟨rfl, hB⟩; have HB := Lib.hid hB; clear hB) | (refine wpList_build_sum rfl _ rfl s rfl Hsl.out ?_) | (at_builtin; refine wpList_acc rfl _ _ 31 rfl 29 32 32 z0 Tryd.underlying31 HI.out HZ0.out (by decide) w w.heap.size B C M.length (sumCells M) rfl ((HP.out.acc.below HB.out).alloc _) (some ⟨w2.heap.size, 0, none⟩) 1 1 (s.map V8) rfl (by simp [Hsl.out]) (box_bytes (blk1 _ _)).cells (fun h => by cases h) (fun ad h => ⟨_, _, (Option.some.inj h).symm⟩) (ones' s) z1 z2 ?_; intro B2 D2 w3 hacc hg hnew; have HA := Lib.hid hacc; clear hacc hg hnew))
        go_roundw
        case rel =>
          refine ⟨L'.drop k, a'.map (·.add (k * 32)), n' - k, c' - k, i' - k, B2, D2, M ++ [s], by rw [He0.out, hwr], by simp, rfl, HP.out.sums.rest k hkl, by have := HP.out.lt; omega, ?_, ?_, ?_, ?_⟩
          · have := HA.out
            rw [← sumCells_one s, ← sumCells_append] at this
            simpa using this
          · rw [HP.out.path, Hpp.out]; simp
          · have := HP.out.room; simp; omega
          · intro x hx
            rw [List.mem_append, List.mem_singleton] at hx
            rcases hx with hx | rfl
            · exact HP.out.each x hx
            · exact Hsl.out
        case measure => rw [lenOf_slice, lenOf_slice]; omega
end Go.Proofs.YtpdhgijeanbmcaaDoor
