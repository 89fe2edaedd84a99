/- The closure of chain.Extends: a step to the left. -/
import Derived.Test.YtpdhgijeanbmcaaDoorExt
namespace Go.Proofs.YtpdhgijeanbmcaaDoor
open Go.RowKit Go.Great

theorem at_4 {w3 w4 : World} {o o' : Obj} {x : Obj} (_h : w4.heap[w3.heap.size]? = some x) (hg : ((w3.alloc o).alloc o').grownBy w4 (some w3.heap.size)) : w4.heap[w3.heap.size + 1]? = some o' :=
  (hg.block _ (by simp) (fun e => by have := Option.some.inj e; omega)).trans (blk2 _ _ _).2
theorem Wr.at_ {b1 b2 b : Nat} {c1 c2 : Array Value} {t : TypeId} {w w' : World} {o : Obj} (h : Wr b1 b2 c1 c2 t w w') (hb : w.heap[b]? = some o) (n1 : b ≠ b1) (n2 : b ≠ b2) : w'.heap[b]? = some o := (h.keep b (in_heap hb) n1 n2).trans hb

set_option maxRecDepth 100000 in
set_option maxHeartbeats 2000000 in
theorem extin_left (m n u ob pb g : Nat) (whole : Bool) (old : List UInt8) (a : Option Addr) (np c : Nat) (p : List (List UInt8)) (w : World) (hup : u < np) (hnp : np < 4611686018427387904) (hm : 0 < m) (hmn : m < n) (hn63 : n < 9223372036854775808) (hmk : m ≤ split n) (E : ExtEnv w ob pb g old a np c p)
    (ih : ∀ w', ExtEnv w' ob pb g old a np c p → Calls Tryd.prog 53 #[.int .i64 m, .int .i64 (split n), .int .i64 u, .bool whole, .pointer (some ⟨ob, 0, none⟩), .pointer (some ⟨pb, 0, none⟩), .pointer (some ⟨g, 0, none⟩)] w' (RetBoth (Tree.both old m (split n) whole (p.take u)) w')) :
    Calls Tryd.prog 53 #[.int .i64 m, .int .i64 n, .int .i64 (u + 1 : Nat), .bool whole, .pointer (some ⟨ob, 0, none⟩), .pointer (some ⟨pb, 0, none⟩), .pointer (some ⟨g, 0, none⟩)] w (RetBoth (Tree.both old m n whole (p.take (u + 1))) w) := by
  have E' := Lib.hid E
  have hup' : u < p.length := by have := E.sums.len; omega
  have hkp := split_pos n
  have hkl := split_lt (show 1 < n by omega)
  have Hb := Lib.hid (Tree.both_left old m n whole p u hup' hmn hm hmk)
  have Hhalf := half_any n (by omega)
  obtain ⟨b, o, ha, hget⟩ := E.sums.get
  obtain rfl := ha (by omega)
  have hx := hget u hup'
  have hxl := E.sums.each p[u] (by simp)
  obtain ⟨x, hxe⟩ : ∃ x, x = p[u] := ⟨_, rfl⟩
  rw [← hxe] at hx hxl Hb
  have Ih := Lib.hid ih
  clear ih
  generalize split n = k at *
  have HX := Lib.hid hx
  have HXL := Lib.hid hxl
  have hcap := E.sums.cap
  have e1 : ((u + 1 : Nat) : Int) - 1 = (u : Int) := by omega
  have hn1 : ((m : Int) == (n : Int)) = false := by simp; omega
  have hn2 : ¬ (m : Int) = (n : Int) := by omega
  have hunp : (u : Int) < (np : Int) := by omega
  have hmk2 : (m : Int) ≤ (k : Int) := by omega
  clear hx hxl hget ha E hxe hup'
  go_enter Tryd.func53, Tryd.ntmps53
  go_wp2_with fail
  have HBk := Lib.hid (blk2 w (.cells (zeros8 32) 29) (.cells (zeros8 32) 29))
  have HLk := Lib.hid (low2 w (.cells (zeros8 32) 29) (.cells (zeros8 32) 29)).drew
  refine wp_region_rel2 9 Low (by kernel_rfl) (by kernel_rfl) Low.refl Low.trans [.is (.int .i64 n), .is (.int .i64 k), .is (.slice (some ⟨b, o, none⟩) np c), .is (.int .i64 (u + 1 : Nat)), .is (.int .i64 u), .is (.pointer (some ⟨b, o + u * 32, none⟩)), pSum x, pBox (w.heap.size + 1 + 1) (zeros8 32) 29, .is (.int .i64 k)] rfl ?_
  refine RelHead2.cons ?_ ?_
  · intro wr hR h
    unfold relOp
    go_wp2
    exact ⟨Low.refl _, rfl⟩
  intro v44
  refine RelHead2.cons ?_ ?_
  · intro wr hR h
    have ev44 : v44 = (.int .i64 n : Value) := allOf_iff.1 h 0 (by decide)
    subst ev44
    unfold relOp
    go_wp2_with (go_at_call 45; refine (Hhalf _).mono ?_; rintro e w2 ⟨rfl, rfl⟩)
    exact ⟨Low.refl _, rfl⟩
  intro v45
  refine RelHead2.cons ?_ ?_
  · intro wr hR h
    have hc := (E'.out.low (bthen HLk.out hR)).pathAt
    unfold relOp
    go_wp2
    exact ⟨Low.refl _, rfl⟩
  intro v46
  refine RelHead2.cons ?_ ?_
  · intro wr hR h
    unfold relOp
    go_wp2
    exact ⟨Low.refl _, rfl⟩
  intro v47
  refine RelHead2.cons ?_ ?_
  · intro wr hR h
    have ev47 : v47 = (.int .i64 (u + 1 : Nat) : Value) := allOf_iff.1 h 3 (by decide)
    subst ev47
    unfold relOp
    go_wp2
    exact ⟨Low.refl _, rfl⟩
  intro v48
  refine RelHead2.cons ?_ ?_
  · intro wr hR h
    have ev46 : v46 = (.slice (some ⟨b, o, none⟩) np c : Value) := allOf_iff.1 h 2 (by decide)
    subst ev46
    have ev48 : v48 = (.int .i64 u : Value) := allOf_iff.1 h 4 (by decide)
    subst ev48
    unfold relOp
    go_wp2
    exact ⟨Low.refl _, rfl⟩
  intro v49
  refine RelHead2.cons ?_ ?_
  · intro wr hR h
    have ev49 : v49 = (.pointer (some ⟨b, o + u * 32, none⟩) : Value) := allOf_iff.1 h 5 (by decide)
    subst ev49
    unfold relOp
    refine wpList_load_mid_sum rfl 29 _ rfl b (o + u * 32) (by kernel_rfl) x 32 _ (range_low HX.out (bthen HLk.out hR)) Tryd.underlying29 (by kernel_rfl) HXL.out ?_
    go_wp2
    exact ⟨Low.refl _, rfl⟩
  intro v50
  refine RelHead2.cons ?_ ?_
  · intro wr hR h
    unfold relOp
    go_wp2
    exact ⟨low1 _ _, _, rfl, by have := hR.size; simp at this; exact this, blk1 _ _⟩
  intro v15
  refine RelHead2.cons ?_ ?_
  · intro wr hR h
    have ev45 : v45 = (.int .i64 k : Value) := allOf_iff.1 h 1 (by decide)
    subst ev45
    unfold relOp
    go_wp2
    exact ⟨Low.refl _, rfl⟩
  intro v14
  refine RelHead2.nil fun w1 hR h => ?_
  have e50 : v50 = sumV x := allOf_iff.1 h 6 (by decide)
  have e14 : v14 = (.int .i64 k : Value) := allOf_iff.1 h 8 (by decide)
  have e15 : ∃ b, v15 = .pointer (some ⟨b, 0, none⟩) ∧ w.heap.size + 1 + 1 ≤ b ∧ w1.heap[b]? = some (.cells (zeros8 32) 29 (0, 0)) := allOf_iff.1 h 7 (by decide)
  subst e50 e14
  obtain ⟨b15, rfl, hb15, hbx⟩ := e15
  have hL : Low w w1 := bthen HLk.out hR
  have hz1 := bblk hR (show ((w.alloc _).alloc _).drew.heap[w.heap.size]? = _ from HBk.out.1)
  have hz2 := bblk hR (show ((w.alloc _).alloc _).drew.heap[w.heap.size + 1]? = _ from HBk.out.2)
  clear h
  refine wpList_store_row' rfl 29 _ _ rfl b15 (x.map V8).toArray (by kernel_rfl) (by kernel_rfl) _ _ hbx (size_sum x HXL.out) (by simp [HXL.out, zeros8]) (oneCells x) ?_
  intro w2 hx2 hg2 hs2
  have hL2 : Below w.heap.size w w2 := hL.grown hg2 hL.size (fun k' hk' => by obtain rfl := Option.some.inj hk'; omega)
  have hy1 : w2.heap[w.heap.size]? = some (.cells (zeros8 32) 29 (0, 0)) := (hg2.block _ (in_heap hz1) (fun e => by have := Option.some.inj e; omega)).trans hz1
  have hy2 : w2.heap[w.heap.size + 1]? = some (.cells (zeros8 32) 29 (0, 0)) := (hg2.block _ (in_heap hz2) (fun e => by have := Option.some.inj e; omega)).trans hz2
  have E2 := E'.out.low hL2
  have HE2 := Lib.hid E2
  have HL2 := Lib.hid hL2
  have HY1 := Lib.hid hy1
  have HY2 := Lib.hid hy2
  have HX2 := Lib.hid hx2
  have hc := E2.fn
  unfold extFn at hc
  have H15 := Lib.hid hb15
  clear hR hL hz1 hz2 hbx hg2 hs2 hL2 hy1 hy2 hx2 E2 Hhalf HLk HBk hb15
  have hcall := Lib.hid (Ih.out w2 HE2.out)
  clear Ih
  go_wp2_with (first | (go_at_call 53; refine hcall.out.mono ?_; rintro e w3 ⟨r, s, bb, rfl, hrl, hsl, hmd, hB⟩; have HRL := Lib.hid hrl; have HSL := Lib.hid hsl; have HMD := Lib.hid hmd; have HB3 := Lib.hid hB; clear hrl hsl hmd hB) | (refine wpList_store_row' rfl 29 _ _ rfl (w3.heap.size + 1) (s.map V8).toArray rfl rfl _ _ (at_4 H4.out G4.out) (size_sum s HSL.out) (by simp [HSL.out]) (oneCells s) ?_; intro w5 h5 g5 s5; have H5 := Lib.hid h5; have G5 := Lib.hid g5; clear h5 g5 s5) | (refine wpList_store_row' rfl 29 _ _ rfl w3.heap.size (r.map V8).toArray rfl rfl _ _ (blk2 _ _ _).1 (size_sum r HRL.out) (by simp [HRL.out]) (oneCells r) ?_; intro w4 h4 g4 s4; have H4 := Lib.hid h4; have G4 := Lib.hid g4; clear h4 g4 s4))
  have i3 := HB3.out.size
  have i2 := HL2.out.size
  have q1 := in_heap HY2.out
  have q2 := in_heap HX2.out
  have i4 := G4.out.size
  rw [size_alloc, size_alloc] at i4
  have hl3 : Below w.heap.size w w3 := bthen HL2.out HB3.out
  have hl5 : Below w.heap.size w w5 := (((hl3.alloc hl3.size _).alloc (by rw [size_alloc]; omega) _).grown G4.out (by rw [size_alloc, size_alloc]; omega) (fun k hk => by obtain rfl := Option.some.inj hk; omega)).grown G5.out (by omega) (fun k hk => by obtain rfl := Option.some.inj hk; omega)
  have k5 : ∀ b' o', b' < w3.heap.size → w3.heap[b']? = some o' → w5.heap[b']? = some o' := fun b' o' hlt hx => (G5.out.block _ (by omega) (fun e => by have := Option.some.inj e; omega)).trans ((G4.out.block _ (by rw [size_alloc, size_alloc]; omega) (fun e => by have := Option.some.inj e; omega)).trans (at_old _ (at_old _ hx)))
  have h16 : w5.heap[w3.heap.size]? = some (.cells (r.map V8).toArray 29 (0, 0)) := (G5.out.block _ (by omega) (fun e => by have := Option.some.inj e; omega)).trans H4.out
  have HZ1 := Lib.hid (k5 _ _ (by omega) (bblk HB3.out HY1.out))
  have HZ2 := Lib.hid (k5 _ _ (by omega) (bblk HB3.out HY2.out))
  have HZ15 := Lib.hid (k5 _ _ (by omega) (bblk HB3.out HX2.out))
  have HZ16 := Lib.hid h16
  have HZ17 := Lib.hid H5.out
  have HL5 := Lib.hid hl5
  have hb15 := H15.out
  have n1 : b15 ≠ w.heap.size := by omega
  have n2 : b15 ≠ w.heap.size + 1 := by omega
  have n3 : w3.heap.size ≠ w.heap.size := by omega
  have n4 : w3.heap.size ≠ w.heap.size + 1 := by omega
  have n5 : w3.heap.size + 1 ≠ w.heap.size := by omega
  have n6 : w3.heap.size + 1 ≠ w.heap.size + 1 := by omega
  have hne : w.heap.size ≠ w.heap.size + 1 := by omega
  obtain ⟨g16, hg16⟩ : ∃ g, g = w3.heap.size := ⟨_, rfl⟩
  rw [← hg16] at n3 n4 n5 n6 HZ16 HZ17 ⊢
  obtain ⟨nd, hnd, hndl⟩ : ∃ nd, nd = Tree.node s x ∧ nd.length = 32 := ⟨_, rfl, rfl⟩
  have HND := Lib.hid hnd
  have HNDL := Lib.hid hndl
  have hnode := Lib.hid fun W hT => node_any s x W hT HSL.out HXL.out
  clear hl3 hl5 k5 h16 i2 i3 i4 q1 q2 hnd hndl H4 H5 G4 G5 HY1 HY2 HX2 hb15 H15 hg16 hc hcall
  refine wp_region_rel2 7 (WrS w.heap.size (w.heap.size + 1) r nd) (by kernel_rfl) (by kernel_rfl) Wr.refl Wr.trans [.is (sumV r), .is (sumV s), .is (sumV x), .is (sumV nd), .is (.bool bb), pFin1, pFin2] rfl ?_
  refine RelHead2.cons ?_ ?_
  · intro wr hR h
    unfold relOp
    refine wpList_load_sum rfl 29 _ rfl g16 (by kernel_rfl) _ r 32 _ _ (hR.at_ (show w5.drew.heap[_]? = _ from HZ16.out) n3 n4) Tryd.underlying29 (by kernel_rfl) HRL.out ?_
    go_wp2
    exact ⟨Wr.refl _, rfl⟩
  intro v65
  refine RelHead2.cons ?_ ?_
  · intro wr hR h
    unfold relOp
    refine wpList_load_sum rfl 29 _ rfl (g16 + 1) (by kernel_rfl) _ s 32 _ _ (hR.at_ (show w5.drew.heap[_]? = _ from HZ17.out) n5 n6) Tryd.underlying29 (by kernel_rfl) HSL.out ?_
    go_wp2
    exact ⟨Wr.refl _, rfl⟩
  intro v66
  refine RelHead2.cons ?_ ?_
  · intro wr hR h
    unfold relOp
    refine wpList_load_sum rfl 29 _ rfl b15 (by kernel_rfl) _ x 32 _ _ (hR.at_ (show w5.drew.heap[_]? = _ from HZ15.out) n1 n2) Tryd.underlying29 (by kernel_rfl) HXL.out ?_
    go_wp2
    exact ⟨Wr.refl _, rfl⟩
  intro v67
  refine RelHead2.cons ?_ ?_
  · intro wr hR h
    have ev66 : v66 = (sumV s : Value) := allOf_iff.1 h 1 (by decide)
    subst ev66
    have ev67 : v67 = (sumV x : Value) := allOf_iff.1 h 2 (by decide)
    subst ev67
    have hTr := E'.out.tabs.below (Wr.below HL5.out.drew hR (Nat.le_refl _) (by omega))
    unfold relOp
    go_wp2_with (go_at_call 19; refine (hnode.out wr hTr).mono ?_; rintro e w6 ⟨rfl, hB6⟩)
    exact ⟨Wr.of_low hB6, congrArg sumV HND.out.symm⟩
  intro v68
  refine RelHead2.cons ?_ ?_
  · intro wr hR h
    unfold relOp
    go_wp2
    exact ⟨Wr.refl _, rfl⟩
  intro v69
  refine RelHead2.cons ?_ ?_
  · intro wr hR h
    have ev65 : v65 = (sumV r : Value) := allOf_iff.1 h 0 (by decide)
    subst ev65
    obtain ⟨cs, hcs, hs⟩ := hR.k1 ⟨_, HZ1.out, rfl⟩
    unfold relOp
    refine wpList_store_row' rfl 29 _ _ rfl w.heap.size (r.map V8).toArray (by kernel_rfl) (by kernel_rfl) _ _ hcs (size_sum r HRL.out) (by simp [hs, HRL.out]) (oneCells r) ?_
    intro w' h1 g1 s1
    go_wp2
    exact ⟨Wr.one hne g1 h1 (by simp [HRL.out]), undef, h1⟩
  intro v70
  refine RelHead2.cons ?_ ?_
  · intro wr hR h
    have ev68 : v68 = (sumV nd : Value) := allOf_iff.1 h 3 (by decide)
    subst ev68
    obtain ⟨cs, hcs, hs⟩ := hR.k2 ⟨_, HZ2.out, rfl⟩
    unfold relOp
    refine wpList_store_row' rfl 29 _ _ rfl (w.heap.size + 1) (nd.map V8).toArray (by kernel_rfl) (by kernel_rfl) _ _ hcs (size_sum nd HNDL.out) (by simp [hs, HNDL.out]) (oneCells nd) ?_
    intro w' h1 g1 s1
    go_wp2
    exact ⟨Wr.two hne g1 h1 (by simp [HNDL.out]), undef, h1⟩
  intro v71
  refine RelHead2.nil fun wr hR h => ?_
  have e69 : v69 = (.bool bb : Value) := allOf_iff.1 h 4 (by decide)
  have e70 : wr.heap[w.heap.size]? = some (.cells (r.map V8).toArray 29 (0, 0)) := allOf_iff.1 h 5 (by decide)
  have e71 : wr.heap[w.heap.size + 1]? = some (.cells (nd.map V8).toArray 29 (0, 0)) := allOf_iff.1 h 6 (by decide)
  subst e69
  have hBl : Below w.heap.size w wr := Wr.below HL5.out.drew hR (Nat.le_refl _) (by omega)
  clear h hR
  go_wp2
  refine bodyPost_ret (results_sum2_tmp rfl _ _ w.heap.size (w.heap.size + 1) _ _ r nd 32 (0, 0) (0, 0) _ rfl rfl e70 e71 Tryd.underlying29 (by kernel_rfl) HRL.out HNDL.out) rfl ⟨r, nd, bb, rfl, HRL.out, HNDL.out, ?_, hBl⟩
  rw [Hb.out, HMD.out, HND.out]
  cases bb <;> rfl
end Go.Proofs.YtpdhgijeanbmcaaDoor
