/- The closure of chain.Holds, and Holds. -/
import Derived.Test.YtpdhgijeanbmcaaDoorHold
namespace Go.Proofs.YtpdhgijeanbmcaaDoor
open Go.RowKit Go.Great

/-- A new variable of one row. -/
def pBox (base : Nat) (cs : Array Value) (t : TypeId) : Post Low := ⟨fun v w => ∃ b, v = .pointer (some ⟨b, 0, none⟩) ∧ base ≤ b ∧ w.heap[b]? = some (.cells cs t (0, 0)), fun _ _ _ ⟨b, e, h0, h⟩ hl => ⟨b, e, h0, bblk hl h⟩⟩

theorem node_some (x y : List UInt8) (w : World) (hT : Tabs w) (hx : x.length = 32) (hy : y.length = 32) :
    Calls Tryd.prog 19 #[sumV x, sumV y] w fun e w' => ∃ s, s = Tree.node x y ∧ s.length = 32 ∧ e = .returned (sumV s) ∧ Below w.heap.size w w' :=
  (node_any x y w hT hx hy).mono fun _ _ ⟨h1, h2⟩ => ⟨_, rfl, rfl, h1, h2⟩
theorem size_sum (l : List UInt8) (h : l.length = 32) : (Tryd.prog.info? 29).map (·.size) = some (l.map V8).toArray.size := by
  rw [show (Tryd.prog.info? 29).map (·.size) = some 32 from by kernel_rfl]
  simp [h]

set_option maxRecDepth 100000 in
set_option maxHeartbeats 1000000 in
theorem holdsin_any (lb pb g : Nat) (leaf : List UInt8) (a : Option Addr) (np c : Nat) (p : List (List UInt8)) : ∀ (u n i : Nat) (w : World), u ≤ np → np < 4611686018427387904 → 0 < n → n < 9223372036854775808 → i < n → HoldEnv w lb pb g leaf a np c p →
    Calls Tryd.prog 51 #[.int .i64 n, .int .i64 i, .int .i64 u, .pointer (some ⟨lb, 0, none⟩), .pointer (some ⟨pb, 0, none⟩), .pointer (some ⟨g, 0, none⟩)] w (RetMade (Tree.made n i leaf (p.take u)) w) := by
  intro u
  induction u with
  | zero =>
    intro n i w hu hnp hn hn63 hi E
    by_cases h1 : n = 1
    · subst h1
      exact holdsin_one i 0 lb pb g leaf a np c p w E hu
    · have := holdsin_zero n i (.pointer (some ⟨lb, 0, none⟩)) (.pointer (some ⟨pb, 0, none⟩)) (.pointer (some ⟨g, 0, none⟩)) leaf w (by omega)
      simpa using this
  | succ u ih =>
    intro n i w hu hnp hn hn63 hi E
    by_cases h1 : n = 1
    · subst h1
      exact holdsin_one i (u + 1) lb pb g leaf a np c p w E hu
    · have E' := Lib.hid E
      have hup : u < p.length := by have := E.sums.len; omega
      have hkp := split_pos n
      have hkl := split_lt (show 1 < n by omega)
      have Hml := Lib.hid (Tree.made_left n i leaf p u hup (by omega))
      have Hmr := Lib.hid (Tree.made_right n i leaf p u hup (by omega))
      have Hhalf := half_any n (by omega)
      obtain ⟨b, o, ha, hget⟩ := E.sums.get
      obtain rfl := ha (by omega)
      have hx := hget u hup
      have hxl := E.sums.each p[u] (by simp)
      obtain ⟨x, hxe⟩ : ∃ x, x = p[u] := ⟨_, rfl⟩
      rw [← hxe] at hx hxl Hml Hmr
      generalize split n = k at *
      have HX := Lib.hid hx
      have HXL := Lib.hid hxl
      have Ih := Lib.hid ih
      have hcap := E.sums.cap
      have e1 : ((u + 1 : Nat) : Int) - 1 = (u : Int) := by omega
      have hn1 : ((n : Int) == 1) = false := by simp; omega
      have hn2 : ¬ (n : Int) = 1 := by omega
      have hunp : (u : Int) < (np : Int) := by omega
      clear hx hxl hget ha ih E hxe hup hu
      go_enter Tryd.func51, Tryd.ntmps51
      go_wp2_with fail
      refine wp_region_rel 9 Low (by kernel_rfl) (by kernel_rfl) Low.refl Low.trans [.is (.int .i64 n), .is (.int .i64 k), .is (.slice (some ⟨b, o, none⟩) np c), .is (.int .i64 (u + 1 : Nat)), .is (.int .i64 u), .is (.pointer (some ⟨b, o + u * 32, none⟩)), pSum x, pBox (w.heap.size + 1) (zeros8 32) 29, .is (.int .i64 k)] rfl ?_
      refine .cons (fun w1 hR h => ?_) fun v => .cons (fun w1 hR h => ?_) fun v => .cons (fun w1 hR h => ?_) fun v => .cons (fun w1 hR h => ?_) fun v => .cons (fun w1 hR h => ?_) fun v => .cons (fun w1 hR h => ?_) fun v => .cons (fun w1 hR h => ?_) fun v => .cons (fun w1 hR h => ?_) fun v => .cons (fun w1 hR h => ?_) fun v => .nil fun w1 hR h => ?_
      · unfold relOp
        go_wp2
        exact ⟨Low.refl _, rfl⟩
      · obtain ⟨rfl, -⟩ := h
        unfold relOp
        go_wp2_with (go_at_call 45; refine (Hhalf _).mono ?_; rintro e w2 ⟨rfl, rfl⟩)
        exact ⟨Low.refl _, rfl⟩
      · have hc := (E'.out.low (bthen (low1 _ _).drew hR)).pathAt
        unfold relOp
        go_wp2
        exact ⟨Low.refl _, rfl⟩
      · unfold relOp
        go_wp2
        exact ⟨Low.refl _, rfl⟩
      · obtain ⟨rfl, -⟩ := h
        unfold relOp
        go_wp2
        exact ⟨Low.refl _, rfl⟩
      · obtain ⟨rfl, rfl, -⟩ := h
        unfold relOp
        go_wp2
        exact ⟨Low.refl _, rfl⟩
      · obtain ⟨rfl, -⟩ := h
        unfold relOp
        refine wpList_load_mid_sum rfl 29 _ rfl b (o + u * 32) (by kernel_rfl) x 32 _ (range_low HX.out (bthen (low1 _ _).drew hR)) Tryd.underlying29 (by kernel_rfl) HXL.out ?_
        go_wp2
        exact ⟨Low.refl _, rfl⟩
      · unfold relOp
        go_wp2
        exact ⟨low1 _ _, _, rfl, by have := (bthen (low1 _ _).drew hR).size; have h2 := hR.size; simp at h2; exact h2, blk1 _ _⟩
      · obtain ⟨rfl, -⟩ := h
        unfold relOp
        go_wp2
        exact ⟨Low.refl _, rfl⟩
      · obtain ⟨rfl, rfl, rfl, rfl, rfl, rfl, rfl, ⟨b12, rfl, hb12, hbx⟩, rfl, -⟩ := h
        have hL : Low w w1 := bthen (low1 _ _).drew hR
        have hr : w1.heap[w.heap.size]? = some (.cells (zeros8 32) 29 (0, 0)) := bblk hR (by exact blk1 _ _)
        refine wpList_store_row' rfl 29 _ _ rfl b12 (x.map V8).toArray (by kernel_rfl) (by kernel_rfl) _ _ hbx (by rw [show (Tryd.prog.info? 29).map (·.size) = some 32 from by kernel_rfl]; simp [HXL.out]) (by simp [HXL.out, zeros8]) (oneCells x) ?_
        intro w2 hx2 hg2 hs2
        have hL2 : Below w.heap.size w w2 := hL.grown hg2 hL.size (fun k' hk' => by obtain rfl := Option.some.inj hk'; omega)
        have hr2 : w2.heap[w.heap.size]? = some (.cells (zeros8 32) 29 (0, 0)) := (hg2.block _ (in_heap hr) (fun e => by have := Option.some.inj e; omega)).trans hr
        have E2 := E'.out.low hL2
        have HE2 := Lib.hid E2
        have HL2 := Lib.hid hL2
        have HR2 := Lib.hid hr2
        have HX2 := Lib.hid hx2
        have hc := E2.fn
        unfold holdFn at hc
        clear hR hL hr hbx hg2 hs2 hL2 hr2 hx2 E2 Hhalf
        have hml2 := Lib.hid hi
        by_cases hik : i < k
        · have hik2 : (i : Int) < (k : Int) := by omega
          have hml := Hml.out hik
          have hcall := Lib.hid (Ih.out k i w2 (by omega) hnp hkp (by omega) hik HE2.out)
          go_wp2_with (first | (go_at_call 51; refine hcall.out.mono ?_; rintro e w3 ⟨r, bb, rfl, hrl, hmd, hB⟩; have HRL := Lib.hid hrl; have HMD := Lib.hid hmd; have HB3 := Lib.hid hB; clear hrl hmd hB) | (refine wpList_store_row' rfl 29 _ _ rfl w3.heap.size (r.map V8).toArray rfl rfl _ _ (blk1 _ _) (size_sum r HRL.out) (by simp [HRL.out]) (oneCells r) ?_; intro w4 hr4 hg4 hs4; have hL4 : Below w.heap.size w w4 := ((HL2.out.trans (HB3.out.mono HL2.out.size)).alloc (Nat.le_trans HL2.out.size HB3.out.size) _).grown hg4 (by simp; exact Nat.le_succ_of_le (Nat.le_trans HL2.out.size HB3.out.size)) (fun k' hk' => by obtain rfl := Option.some.inj hk'; exact Nat.le_trans HL2.out.size HB3.out.size); have hz4 := (hg4.block _ (in_heap (at_old _ (bblk HB3.out HR2.out))) (fun e => absurd (Option.some.inj e) (Nat.ne_of_lt (in_heap (bblk HB3.out HR2.out))))).trans (at_old _ (bblk HB3.out HR2.out)); have hx4 := (hg4.block _ (in_heap (at_old _ (bblk HB3.out HX2.out))) (fun e => absurd (Option.some.inj e) (Nat.ne_of_lt (in_heap (bblk HB3.out HX2.out))))).trans (at_old _ (bblk HB3.out HX2.out)); have HL4 := Lib.hid hL4; have HZ4 := Lib.hid hz4; have HX4 := Lib.hid hx4; have HR4 := Lib.hid hr4; clear hr4 hg4 hs4 hL4 hz4 hx4) | (refine wpList_load_sum rfl 29 _ rfl w3.heap.size rfl _ r 32 _ _ HR4.out Tryd.underlying29 (by kernel_rfl) HRL.out ?_) | (refine wpList_load_sum rfl 29 _ rfl b12 rfl _ x 32 _ _ HX4.out Tryd.underlying29 (by kernel_rfl) HXL.out ?_) | (go_at_call 19; refine (node_some r x w4 (E'.out.tabs.below HL4.out) HRL.out HXL.out).mono ?_; rintro e w5 ⟨s, hs, hsl, rfl, hB⟩; have HS := Lib.hid hs; have HSL := Lib.hid hsl; have HB5 := Lib.hid hB; clear hs hsl hB) | (refine wpList_store_sum rfl 29 _ _ rfl w.heap.size s 32 rfl rfl _ _ (bblk HB5.out HZ4.out) (by kernel_rfl) HSL.out rfl ?_))
          refine bodyPost_ret (results_sum_tmp rfl _ _ w.heap.size _ s 32 (0, 0) _ rfl (setRow_heap _ _ _ _ _ _ (bblk HB5.out HZ4.out)) Tryd.underlying29 (by kernel_rfl) HSL.out) rfl ⟨s, bb, rfl, HSL.out, ?_, ?_⟩
          · rw [hml, HMD.out, HS.out]
            cases bb <;> rfl
          · exact brow (HL4.out.trans (HB5.out.mono HL4.out.size)) (Nat.le_refl _) _
        · have hik2 : ¬ (i : Int) < (k : Int) := by omega
          have hik3 : (k : Int) ≤ (i : Int) := by omega
          have hml := Hmr.out hik
          have hcall := Ih.out (n - k) (i - k) w2 (by omega) hnp (by omega) (by omega) (by omega) HE2.out
          rw [show ((n - k : Nat) : Int) = (n : Int) - (k : Int) from by omega, show ((i - k : Nat) : Int) = (i : Int) - (k : Int) from by omega] at hcall
          have hcall := Lib.hid hcall
          go_wp2_with (first | (go_at_call 51; refine hcall.out.mono ?_; rintro e w3 ⟨r, bb, rfl, hrl, hmd, hB⟩; have HRL := Lib.hid hrl; have HMD := Lib.hid hmd; have HB3 := Lib.hid hB; clear hrl hmd hB) | (refine wpList_store_row' rfl 29 _ _ rfl w3.heap.size (r.map V8).toArray rfl rfl _ _ (blk1 _ _) (size_sum r HRL.out) (by simp [HRL.out]) (oneCells r) ?_; intro w4 hr4 hg4 hs4; have hL4 : Below w.heap.size w w4 := ((HL2.out.trans (HB3.out.mono HL2.out.size)).alloc (Nat.le_trans HL2.out.size HB3.out.size) _).grown hg4 (by simp; exact Nat.le_succ_of_le (Nat.le_trans HL2.out.size HB3.out.size)) (fun k' hk' => by obtain rfl := Option.some.inj hk'; exact Nat.le_trans HL2.out.size HB3.out.size); have hz4 := (hg4.block _ (in_heap (at_old _ (bblk HB3.out HR2.out))) (fun e => absurd (Option.some.inj e) (Nat.ne_of_lt (in_heap (bblk HB3.out HR2.out))))).trans (at_old _ (bblk HB3.out HR2.out)); have hx4 := (hg4.block _ (in_heap (at_old _ (bblk HB3.out HX2.out))) (fun e => absurd (Option.some.inj e) (Nat.ne_of_lt (in_heap (bblk HB3.out HX2.out))))).trans (at_old _ (bblk HB3.out HX2.out)); have HL4 := Lib.hid hL4; have HZ4 := Lib.hid hz4; have HX4 := Lib.hid hx4; have HR4 := Lib.hid hr4; clear hr4 hg4 hs4 hL4 hz4 hx4) | (refine wpList_load_sum rfl 29 _ rfl w3.heap.size rfl _ r 32 _ _ HR4.out Tryd.underlying29 (by kernel_rfl) HRL.out ?_) | (refine wpList_load_sum rfl 29 _ rfl b12 rfl _ x 32 _ _ HX4.out Tryd.underlying29 (by kernel_rfl) HXL.out ?_) | (go_at_call 19; refine (node_some x r w4 (E'.out.tabs.below HL4.out) HXL.out HRL.out).mono ?_; rintro e w5 ⟨s, hs, hsl, rfl, hB⟩; have HS := Lib.hid hs; have HSL := Lib.hid hsl; have HB5 := Lib.hid hB; clear hs hsl hB) | (refine wpList_store_sum rfl 29 _ _ rfl w.heap.size s 32 rfl rfl _ _ (bblk HB5.out HZ4.out) (by kernel_rfl) HSL.out rfl ?_))
          refine bodyPost_ret (results_sum_tmp rfl _ _ w.heap.size _ s 32 (0, 0) _ rfl (setRow_heap _ _ _ _ _ _ (bblk HB5.out HZ4.out)) Tryd.underlying29 (by kernel_rfl) HSL.out) rfl ⟨s, bb, rfl, HSL.out, ?_, ?_⟩
          · rw [hml, HMD.out, HS.out]
            cases bb <;> rfl
          · exact brow (HL4.out.trans (HB5.out.mono HL4.out.size)) (Nat.le_refl _) _
end Go.Proofs.YtpdhgijeanbmcaaDoor
