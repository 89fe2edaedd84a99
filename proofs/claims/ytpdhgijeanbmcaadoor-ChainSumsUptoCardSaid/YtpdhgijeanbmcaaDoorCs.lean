/- The law ChainSums answers true whatever its arguments. -/
import Derived.Test.YtpdhgijeanbmcaaDoorLive
import Derived.Test.YtpdhgijeanbmcaaDoorKept
import Derived.Test.YtpdhgijeanbmcaaDoorLeafb
namespace Go.Proofs.YtpdhgijeanbmcaaDoor
open Go.RowKit Go.Great

theorem leaf_each (l : List (List UInt8)) : ∀ u ∈ l.map Tree.leaf, u.length = 32 := fun u hu => by
  obtain ⟨t, _, rfl⟩ := List.mem_map.1 hu
  rfl
theorem leaves_len {w : World} {a : Option Addr} {n : Nat} {l : List (List UInt8)} (h : Strs w a n l) : (l.map Tree.leaf).length = n := by rw [List.length_map, h.len]

set_option maxRecDepth 100000 in
set_option maxHeartbeats 8000000 in
theorem cs_law (ts : List (List UInt8)) (a : Option Addr) (n c : Nat) (x y : List UInt8) (w : World) (hT : Tabs w) (S : Strs w a n ts) (hc : n ≤ c) (hts : ∀ t ∈ ts, t.length < 1099511627776) (hx : x.length = 32) (hy : y.length = 32) :
    Calls Tryd.prog 5 #[.slice a n c, sumV x, sumV y] w fun e w' => e = .returned (.bool true) ∧ Below w.heap.size w w' := by
  have HX := Lib.hid hx
  have HY := Lib.hid hy
  have HBB := Lib.hid (low2 w (.cells (sumRow x) 29) (.cells (sumRow y) 29))
  have HBk := Lib.hid (blk2 w (.cells (sumRow x) 29) (.cells (sumRow y) 29))
  have hfew := Lib.hid (few_any ts a n c _ (S.below HBB.out) hc)
  have Hts := Lib.hid hts
  clear S hx hy hts
  go_enter Tryd.func5, Tryd.ntmps5
  go_wp2_with (first | (go_at_call 15; refine hfew.out.mono ?_; rintro e w1 ⟨n1, hn1, rfl, hS, rfl⟩; have HS := Lib.hid hS; clear hS) | (go_at_call 16; refine (leaves_any (ts.take 300) a n1 c _ (hT.below HBB.out) HS.out (by omega) (fun t ht => Hts.out t (List.mem_of_mem_take ht))).mono ?_; rintro e w2 hL; obtain ⟨B1, C1, rfl, hSS, hB⟩ := hL.sums (leaf_each _); rw [leaves_len HS.out] at hSS ⊢; have HSS := Lib.hid hSS; have HB2 := Lib.hid hB; clear hL hSS hB))
  have hlo := bthen HBB.out HB2.out
  have HLo := Lib.hid hlo
  have HT2 := Lib.hid (hT.below hlo)
  have hx2 := Lib.hid (bblk HB2.out HBk.out.1)
  have hy2 := Lib.hid (bblk HB2.out HBk.out.2)
  have hs2 := Lib.hid (HS.out.below HB2.out)
  clear hlo HB2 HBk HBB HS hfew
  obtain ⟨L, hL⟩ : ∃ L, L = (ts.take 300).map Tree.leaf := ⟨_, rfl⟩
  rw [← hL] at HSS
  have HLe := Lib.hid hL
  clear hL
  rename World => w2
  go_loopw [8] (fun i wr => ∃ k : Nat, k ≤ n1 ∧ i = .int .i64 k ∧ Below w2.heap.size w2 wr) (fun i _ => n1 - (intOf i).toNat)
  case atStart => exact ⟨0, by omega, rfl, Below.refl _ _⟩
  case round =>
    obtain ⟨k, hk, rfl, hB⟩ := hrel
    have HB := Lib.hid hB
    clear hB
    by_cases hlt : k < n1
    · have hki : (k : Int) < (n1 : Int) := by omega
      have hki0 : (0 : Int) ≤ (k : Int) := by omega
      obtain ⟨b, o, ha, hcell⟩ := hs2.out.at_ (by omega)
      obtain rfl := ha
      have hk' : k < (ts.take 300).length := by rw [← hs2.out.len]; exact hlt
      have hcl := hcell k hk'
      have htl := Hts.out _ (List.mem_of_mem_take (List.getElem_mem hk'))
      obtain ⟨b2, o2, hb2, hget⟩ := HSS.out.get
      obtain rfl := hb2 (by omega)
      have hkl : k < L.length := by rw [← HSS.out.len]; exact hlt
      have hgk := hget k hkl
      have hLk : L[k] = Tree.leaf (ts.take 300)[k] := by simp only [HLe.out, List.getElem_map]
      rw [hLk] at hgk
      obtain ⟨t, ht⟩ : ∃ t, t = (ts.take 300)[k] := ⟨_, rfl⟩
      rw [← ht] at hcl htl hgk
      obtain ⟨s, hs, hsl⟩ : ∃ s, s = Tree.leaf t ∧ s.length = 32 := ⟨_, rfl, rfl⟩
      rw [← hs] at hgk
      have HC := Lib.hid hcl
      have HTl := Lib.hid htl
      have HG := Lib.hid hgk
      have Hs := Lib.hid hs
      have Hsl := Lib.hid hsl
      have hcap1 := HSS.out.cap
      clear hcell hcl htl hget hgk hLk ht hs hsl hb2 hk' hkl
      go_wp2
      refine wp_region_rel2 10 Low (by kernel_rfl) (by kernel_rfl) Low.refl Low.trans [.is (.slice (some ⟨b, o, none⟩) n1 c), .is (.int .i64 k), .is (.pointer (some ⟨b, o + k, none⟩)), .is (.string ⟨t.toArray⟩), pTxt t, .is (sumV s), .is (.slice (some ⟨b2, o2, none⟩) n1 C1), .is (.int .i64 k), .is (.pointer (some ⟨b2, o2 + k * 32, none⟩)), .is (sumV s)] rfl ?_
      refine RelHead2.cons ?_ ?_
      · intro w1 hR h
        unfold relOp
        clear h
        go_wp2
        exact ⟨Low.refl _, rfl⟩
      intro v20
      refine RelHead2.cons ?_ ?_
      · intro w1 hR h
        unfold relOp
        clear h
        go_wp2
        exact ⟨Low.refl _, rfl⟩
      intro v21
      refine RelHead2.cons ?_ ?_
      · intro w1 hR h
        have ev20 : v20 = (.slice (some ⟨b, o, none⟩) n1 c : Value) := allOf_iff.1 h 0 (by decide)
        subst ev20
        have ev21 : v21 = (.int .i64 k : Value) := allOf_iff.1 h 1 (by decide)
        subst ev21
        unfold relOp
        clear h
        go_wp2
        exact ⟨Low.refl _, rfl⟩
      intro v22
      refine RelHead2.cons ?_ ?_
      · intro w1 hR h
        have ev22 : v22 = (.pointer (some ⟨b, o + k, none⟩) : Value) := allOf_iff.1 h 2 (by decide)
        subst ev22
        have hc1 : w1.cell? ⟨b, o + k, none⟩ = some (.string ⟨t.toArray⟩) := ((bthen HB.out (bthen (Low.drew _) hR)).cell (p := ⟨b, o + k, none⟩) (World.block_lt_of_cell? w2 _ HC.out)).trans HC.out
        unfold relOp
        clear h
        go_wp2
        exact ⟨Low.refl _, rfl⟩
      intro v23
      refine RelHead2.cons ?_ ?_
      · intro w1 hR h
        have ev23 : v23 = (.string ⟨t.toArray⟩ : Value) := allOf_iff.1 h 3 (by decide)
        subst ev23
        have hcv := run_bytes_of_string (P := Tryd.prog) w1 9 22 5 ⟨t.toArray⟩ Tryd.underlying9 Tryd.underlying22 Tryd.underlying5
        have hG := Lib.hid (grownCap_ge w1 t.length 0 5)
        unfold relOp
        clear h
        go_wp2
        exact ⟨(low1 _ _).drew, _, _, _, rfl, txt_of_string w1 t _ _ _ hG.out⟩
      intro v24
      refine RelHead2.cons ?_ ?_
      · intro w1 hR h
        have e24 : (pTxt t).p v24 w1 := allOf_iff.1 h 4 (by decide)
        obtain ⟨a4, n4, c4, rfl, ht4⟩ := e24
        have HT4 := Lib.hid ht4
        have hlf := Lib.hid (leaf_any t a4 n4 c4 w1 (HT2.out.below (bthen HB.out (bthen (Low.drew _) hR))) HT4.out (by have := HTl.out; omega))
        unfold relOp
        clear h ht4
        go_wp2_with (go_at_call 17; refine hlf.out.mono ?_; rintro e w6 ⟨rfl, hB⟩)
        exact ⟨hB, congrArg sumV Hs.out.symm⟩
      intro v25
      refine RelHead2.cons ?_ ?_
      · intro w1 hR h
        unfold relOp
        clear h
        go_wp2
        exact ⟨Low.refl _, rfl⟩
      intro v26
      refine RelHead2.cons ?_ ?_
      · intro w1 hR h
        unfold relOp
        clear h
        go_wp2
        exact ⟨Low.refl _, rfl⟩
      intro v27
      refine RelHead2.cons ?_ ?_
      · intro w1 hR h
        have ev26 : v26 = (.slice (some ⟨b2, o2, none⟩) n1 C1 : Value) := allOf_iff.1 h 6 (by decide)
        subst ev26
        have ev27 : v27 = (.int .i64 k : Value) := allOf_iff.1 h 7 (by decide)
        subst ev27
        unfold relOp
        clear h
        go_wp2
        exact ⟨Low.refl _, rfl⟩
      intro v28
      refine RelHead2.cons ?_ ?_
      · intro w1 hR h
        have ev28 : v28 = (.pointer (some ⟨b2, o2 + k * 32, none⟩) : Value) := allOf_iff.1 h 8 (by decide)
        subst ev28
        unfold relOp
        refine wpList_load_mid_sum rfl 29 _ rfl b2 (o2 + k * 32) (by kernel_rfl) s 32 _ (range_low HG.out (bthen HB.out (bthen (Low.drew _) hR))) Tryd.underlying29 (by kernel_rfl) Hsl.out ?_
        clear h
        go_wp2
        exact ⟨Low.refl _, rfl⟩
      intro v29
      refine RelHead2.nil fun w1 hR h => ?_
      have e25 : v25 = sumV s := allOf_iff.1 h 5 (by decide)
      have e29 : v29 = sumV s := allOf_iff.1 h 9 (by decide)
      subst e25 e29
      have hne := neq_sumV s s w1 Hsl.out Hsl.out
      have hbq : (!(s == s)) = false := by rw [beq_self_eq_true]; rfl
      rw [hbq] at hne
      have HB1 := Lib.hid (bthen HB.out (bthen (Low.drew _) hR))
      clear h hR hbq
      go_wp2
      go_roundw
      case rel => exact ⟨k + 1, by omega, by go_num, HB1.out⟩
      case measure => simp [intOf]; omega
    · obtain rfl : k = n1 := by omega
      have hown := Lib.hid (own_any L B1 k C1 _ (HSS.out.below HB.out) (by omega))
      go_wp2_with (go_at_call 18; refine hown.out.mono ?_; rintro e w3 ⟨B2, C2, rfl, hA⟩; have HA := Lib.hid hA; clear hA)
      have h23 := Lib.hid (bthen HB.out HA.out.low)
      have hSF := HA.out.sums (L := L ++ marks 8) (fun u hu => by
        rw [List.mem_append] at hu
        rcases hu with hu | hu
        · exact HSS.out.each u hu
        · obtain ⟨i, _, rfl⟩ := List.mem_map.1 hu
          exact mark_len i)
      have hcapF := hSF.cap
      have hF1 := hSF.take k (by omega)
      rw [List.take_append_of_le_length (by rw [HSS.out.len]; exact Nat.le_refl _), List.take_of_length_le (by rw [HSS.out.len]; exact Nat.le_refl _)] at hF1
      have HSF := Lib.hid hSF
      have HF1 := Lib.hid hF1
      have HSL := Lib.hid (HSS.out.below h23.out)
      have HX3 := Lib.hid (bblk h23.out hx2.out)
      have HY3 := Lib.hid (bblk h23.out hy2.out)
      have HLo3 := Lib.hid (bthen HLo.out h23.out)
      obtain ⟨nd, hnd, hndl⟩ : ∃ nd, nd = Tree.node x y ∧ nd.length = 32 := ⟨_, rfl, rfl⟩
      obtain ⟨rt, hrt, hrtl⟩ : ∃ rt, rt = Tree.root L ∧ rt.length = 32 := ⟨_, rfl, Tree.root_len L HSS.out.each⟩
      have Hnd := Lib.hid hnd
      have Hndl := Lib.hid hndl
      have Hrt := Lib.hid hrt
      have Hrtl := Lib.hid hrtl
      have hLl := HSS.out.len
      have HLl := Lib.hid hLl
      clear hSF hF1 hnd hndl hrt hrtl hLl HA hown HSS HB hs2 hx2 hy2 HLo HT2
      go_wp2
      refine wp_region_rel2 22 Low (by kernel_rfl) (by kernel_rfl) Low.refl Low.trans [.is (sumV x), .is (sumV y), .is (sumV nd), .is (sumV x), .is (sumV y), .is (sumV nd), .is (.bool true), .is (.bool true), .is (.slice B2 k C2), .is (sumV rt), .is (.slice B1 k C1), .is (sumV rt), .is (.bool true), .is (.bool true), .is (.bool true), .is (.slice B2 k C2), .is (.slice B1 k C1), .is (.bool true), .is (.bool true), .is (.bool true), .is (.bool true), .is (.bool true)] rfl ?_
      refine RelHead2.cons ?_ ?_
      · intro w1 hR h
        unfold relOp
        refine wpList_load_sum rfl 29 _ rfl w.heap.size (by kernel_rfl) _ x 32 _ _ (bblk (bthen (Low.drew _) hR) HX3.out) Tryd.underlying29 (by kernel_rfl) HX.out ?_
        clear h
        go_wp2
        exact ⟨Low.refl _, rfl⟩
      intro v33
      refine RelHead2.cons ?_ ?_
      · intro w1 hR h
        unfold relOp
        refine wpList_load_sum rfl 29 _ rfl (w.heap.size + 1) (by kernel_rfl) _ y 32 _ _ (bblk (bthen (Low.drew _) hR) HY3.out) Tryd.underlying29 (by kernel_rfl) HY.out ?_
        clear h
        go_wp2
        exact ⟨Low.refl _, rfl⟩
      intro v34
      refine RelHead2.cons ?_ ?_
      · intro w1 hR h
        have ev33 : v33 = (sumV x : Value) := allOf_iff.1 h 0 (by decide)
        subst ev33
        have ev34 : v34 = (sumV y : Value) := allOf_iff.1 h 1 (by decide)
        subst ev34
        have hnd := Lib.hid (node_any x y w1 (hT.below (bthen HLo3.out (bthen (Low.drew _) hR))) HX.out HY.out)
        unfold relOp
        clear h
        go_wp2_with (go_at_call 19; refine hnd.out.mono ?_; rintro e w6 ⟨rfl, hB⟩)
        exact ⟨hB, congrArg sumV Hnd.out.symm⟩
      intro v35
      refine RelHead2.cons ?_ ?_
      · intro w1 hR h
        unfold relOp
        refine wpList_load_sum rfl 29 _ rfl w.heap.size (by kernel_rfl) _ x 32 _ _ (bblk (bthen (Low.drew _) hR) HX3.out) Tryd.underlying29 (by kernel_rfl) HX.out ?_
        clear h
        go_wp2
        exact ⟨Low.refl _, rfl⟩
      intro v36
      refine RelHead2.cons ?_ ?_
      · intro w1 hR h
        unfold relOp
        refine wpList_load_sum rfl 29 _ rfl (w.heap.size + 1) (by kernel_rfl) _ y 32 _ _ (bblk (bthen (Low.drew _) hR) HY3.out) Tryd.underlying29 (by kernel_rfl) HY.out ?_
        clear h
        go_wp2
        exact ⟨Low.refl _, rfl⟩
      intro v37
      refine RelHead2.cons ?_ ?_
      · intro w1 hR h
        have ev36 : v36 = (sumV x : Value) := allOf_iff.1 h 3 (by decide)
        subst ev36
        have ev37 : v37 = (sumV y : Value) := allOf_iff.1 h 4 (by decide)
        subst ev37
        have hnd := Lib.hid (rnode_any x y w1 (hT.below (bthen HLo3.out (bthen (Low.drew _) hR))) HX.out HY.out)
        unfold relOp
        clear h
        go_wp2_with (go_at_call 20; refine hnd.out.mono ?_; rintro e w6 ⟨rfl, hB⟩)
        exact ⟨hB, congrArg sumV Hnd.out.symm⟩
      intro v38
      refine RelHead2.cons ?_ ?_
      · intro w1 hR h
        have ev35 : v35 = (sumV nd : Value) := allOf_iff.1 h 2 (by decide)
        subst ev35
        have ev38 : v38 = (sumV nd : Value) := allOf_iff.1 h 5 (by decide)
        subst ev38
        have hel := eql_sumV nd nd w1 Hndl.out Hndl.out
        have hbq : (nd == nd) = true := beq_self_eq_true _
        rw [hbq] at hel
        unfold relOp
        clear h
        go_wp2
        exact ⟨Low.refl _, rfl⟩
      intro v39
      refine RelHead2.cons ?_ ?_
      · intro w1 hR h
        have ev39 : v39 = (.bool true : Value) := allOf_iff.1 h 6 (by decide)
        subst ev39
        unfold relOp
        clear h
        go_wp2
        exact ⟨Low.refl _, rfl⟩
      intro v40
      refine RelHead2.cons ?_ ?_
      · intro w1 hR h
        have ev40 : v40 = (.bool true : Value) := allOf_iff.1 h 7 (by decide)
        subst ev40
        unfold relOp
        clear h
        go_wp2
        exact ⟨Low.refl _, rfl⟩
      intro v41
      refine RelHead2.cons ?_ ?_
      · intro w1 hR h
        have ev41 : v41 = (.slice B2 k C2 : Value) := allOf_iff.1 h 8 (by decide)
        subst ev41
        have ev40 : v40 = (.bool true : Value) := allOf_iff.1 h 7 (by decide)
        subst ev40
        have hc42 := Lib.hid (root_is rt L B2 k C2 w1 Hrt.out.symm (by rw [← HLl.out]; omega) (hT.below (bthen HLo3.out (bthen (Low.drew _) hR))) (HF1.out.below (bthen (Low.drew _) hR)))
        unfold relOp
        clear h
        go_wp2_with (go_at_call 21; refine hc42.out.mono ?_; rintro e w6 ⟨rfl, hB⟩)
        exact ⟨hB, rfl⟩
      intro v42
      refine RelHead2.cons ?_ ?_
      · intro w1 hR h
        have ev40 : v40 = (.bool true : Value) := allOf_iff.1 h 7 (by decide)
        subst ev40
        unfold relOp
        clear h
        go_wp2
        exact ⟨Low.refl _, rfl⟩
      intro v43
      refine RelHead2.cons ?_ ?_
      · intro w1 hR h
        have ev43 : v43 = (.slice B1 k C1 : Value) := allOf_iff.1 h 10 (by decide)
        subst ev43
        have ev40 : v40 = (.bool true : Value) := allOf_iff.1 h 7 (by decide)
        subst ev40
        have hc44 := Lib.hid (rroot_any L.length L B1 k C1 w1 (Nat.le_refl _) (by rw [← HLl.out]; omega) (hT.below (bthen HLo3.out (bthen (Low.drew _) hR))) (HSL.out.below (bthen (Low.drew _) hR)))
        unfold relOp
        clear h
        go_wp2_with (go_at_call 22; refine hc44.out.mono ?_; rintro e w6 ⟨rfl, hB⟩)
        exact ⟨hB, congrArg sumV Hrt.out.symm⟩
      intro v44
      refine RelHead2.cons ?_ ?_
      · intro w1 hR h
        have ev42 : v42 = (sumV rt : Value) := allOf_iff.1 h 9 (by decide)
        subst ev42
        have ev44 : v44 = (sumV rt : Value) := allOf_iff.1 h 11 (by decide)
        subst ev44
        have ev40 : v40 = (.bool true : Value) := allOf_iff.1 h 7 (by decide)
        subst ev40
        have hel := eql_sumV rt rt w1 Hrtl.out Hrtl.out
        have hbq : (rt == rt) = true := beq_self_eq_true _
        rw [hbq] at hel
        unfold relOp
        clear h
        go_wp2
        exact ⟨Low.refl _, rfl⟩
      intro v45
      refine RelHead2.cons ?_ ?_
      · intro w1 hR h
        have ev40 : v40 = (.bool true : Value) := allOf_iff.1 h 7 (by decide)
        subst ev40
        have ev45 : v45 = (.bool true : Value) := allOf_iff.1 h 12 (by decide)
        subst ev45
        unfold relOp
        clear h
        go_wp2
        exact ⟨Low.refl _, rfl⟩
      intro v46
      refine RelHead2.cons ?_ ?_
      · intro w1 hR h
        have ev46 : v46 = (.bool true : Value) := allOf_iff.1 h 13 (by decide)
        subst ev46
        unfold relOp
        clear h
        go_wp2
        exact ⟨Low.refl _, rfl⟩
      intro v47
      refine RelHead2.cons ?_ ?_
      · intro w1 hR h
        have ev47 : v47 = (.bool true : Value) := allOf_iff.1 h 14 (by decide)
        subst ev47
        unfold relOp
        clear h
        go_wp2
        exact ⟨Low.refl _, rfl⟩
      intro v48
      refine RelHead2.cons ?_ ?_
      · intro w1 hR h
        have ev47 : v47 = (.bool true : Value) := allOf_iff.1 h 14 (by decide)
        subst ev47
        unfold relOp
        clear h
        go_wp2
        exact ⟨Low.refl _, rfl⟩
      intro v49
      refine RelHead2.cons ?_ ?_
      · intro w1 hR h
        have ev48 : v48 = (.slice B2 k C2 : Value) := allOf_iff.1 h 15 (by decide)
        subst ev48
        have ev49 : v49 = (.slice B1 k C1 : Value) := allOf_iff.1 h 16 (by decide)
        subst ev49
        have ev47 : v47 = (.bool true : Value) := allOf_iff.1 h 14 (by decide)
        subst ev47
        have hc50 := Lib.hid (kept_any L B2 B1 k C2 C1 w1 (HSF.out.below (bthen (Low.drew _) hR)) (HSL.out.below (bthen (Low.drew _) hR)) (by omega))
        unfold relOp
        clear h
        go_wp2_with (go_at_call 23; refine hc50.out.mono ?_; rintro e w6 ⟨rfl, hB⟩)
        exact ⟨hB, rfl⟩
      intro v50
      refine RelHead2.cons ?_ ?_
      · intro w1 hR h
        have ev47 : v47 = (.bool true : Value) := allOf_iff.1 h 14 (by decide)
        subst ev47
        have ev50 : v50 = (.bool true : Value) := allOf_iff.1 h 17 (by decide)
        subst ev50
        unfold relOp
        clear h
        go_wp2
        exact ⟨Low.refl _, rfl⟩
      intro v51
      refine RelHead2.cons ?_ ?_
      · intro w1 hR h
        have ev51 : v51 = (.bool true : Value) := allOf_iff.1 h 18 (by decide)
        subst ev51
        unfold relOp
        clear h
        go_wp2
        exact ⟨Low.refl _, rfl⟩
      intro v52
      refine RelHead2.cons ?_ ?_
      · intro w1 hR h
        have ev52 : v52 = (.bool true : Value) := allOf_iff.1 h 19 (by decide)
        subst ev52
        have hc53 := Lib.hid (live_any w1 (hT.below (bthen HLo3.out (bthen (Low.drew _) hR))))
        unfold relOp
        clear h
        go_wp2_with (go_at_call 14; refine hc53.out.mono ?_; rintro e w6 ⟨rfl, hB⟩)
        exact ⟨hB, rfl⟩
      intro v53
      refine RelHead2.cons ?_ ?_
      · intro w1 hR h
        have ev52 : v52 = (.bool true : Value) := allOf_iff.1 h 19 (by decide)
        subst ev52
        have ev53 : v53 = (.bool true : Value) := allOf_iff.1 h 20 (by decide)
        subst ev53
        unfold relOp
        clear h
        go_wp2
        exact ⟨Low.refl _, rfl⟩
      intro v54
      refine RelHead2.nil fun w1 hR h => ?_
      have e54 : v54 = (.bool true : Value) := allOf_iff.1 h 21 (by decide)
      subst e54
      have hlast := bthen HLo3.out (bthen (Low.drew _) hR)
      clear h hR
      go_wp2
      go_ret
      exact ⟨rfl, hlast⟩
end Go.Proofs.YtpdhgijeanbmcaaDoor
