/- THE CARD of ChainNil: the law answers true and the arguments read as they did. -/
import Derived.Test.YtpdhgijeanbmcaaGreatDoorJNilCard4
/- Live -/
namespace Go.Proofs.YtpdhgijeanbmcaaGreatDoor
set_option maxRecDepth 100000
open Go.RowKit Go.Great

def yLit (N : Nat) : Yld (RN N) := Yld.pr (pLit N).p (pLit N).st

set_option maxRecDepth 100000 in
set_option maxHeartbeats 100000000 in
theorem live_any (w : World) (hT : Tabs w) : Calls Tryz.prog 10 #[] w fun e w' => e = .returned (.bool true) ∧ Below w.heap.size w w' := by
  obtain ⟨la, hla, hlal⟩ : ∃ x, x = Tree.leaf [97] ∧ x.length = 32 := ⟨_, rfl, rfl⟩
  obtain ⟨lb, hlb, hlbl⟩ : ∃ x, x = Tree.leaf [98] ∧ x.length = 32 := ⟨_, rfl, rfl⟩
  obtain ⟨lc, hlc, hlcl⟩ : ∃ x, x = Tree.leaf [99] ∧ x.length = 32 := ⟨_, rfl, rfl⟩
  obtain ⟨p0, hp0, hp0l⟩ : ∃ x, x = Tree.node la lb ∧ x.length = 32 := ⟨_, rfl, rfl⟩
  obtain ⟨r, hr, hrl⟩ : ∃ x, x = Tree.node p0 lc ∧ x.length = 32 := ⟨_, rfl, rfl⟩
  have f1 : Tree.holds r 3 2 lc [p0] = true := by rw [Tree.holds3, hr]; exact beq_self_eq_true _
  have f2 : Tree.holds r 3 2 lb [p0] = false := by rw [Tree.holds3, hr, hp0, hla, hlb, hlc]; exact beq_eq_false_iff_ne.2 live_ne1
  have f3 : Tree.extends_ 2 p0 3 r [lc] = true := by rw [Tree.ext3, hr]; exact beq_self_eq_true _
  have f4 : Tree.extends_ 2 r 3 r [lc] = false := by rw [Tree.ext3, hr, hp0, hla, hlb, hlc]; exact beq_eq_false_iff_ne.2 live_ne2
  have f5 : Tree.root [la, lb] = p0 := by rw [Tree.root2, hp0]
  have f6 : Tree.root [la, lb, lc] = r := by rw [Tree.root3, hr, hp0]
  have HF1 := Lib.hid f1
  have HF2 := Lib.hid f2
  have HF3 := Lib.hid f3
  have HF4 := Lib.hid f4
  have HF5 := Lib.hid f5
  have HF6 := Lib.hid f6
  have Hla := Lib.hid hla
  have Hlb := Lib.hid hlb
  have Hlc := Lib.hid hlc
  have Hp0 := Lib.hid hp0
  have La := Lib.hid hlal
  have Lb := Lib.hid hlbl
  have Lc := Lib.hid hlcl
  have Lp := Lib.hid hp0l
  have Lr := Lib.hid hrl
  have hs3 := Lib.hid Tree.split3
  clear hla hlal hlb hlbl hlc hlcl hp0 hp0l hr hrl f1 f2 f3 f4 f5 f6
  go_enter Tryz.func10, Tryz.ntmps10
  go_wp2_with (first | (go_at_call 24; refine (live_leaves w la lb lc Hla.out Hlb.out Hlc.out hT).mono ?_; rintro e w1 ⟨B1, C1, rfl, hS, hB⟩; have HS1 := Lib.hid hS; have HB1 := Lib.hid hB; clear hS hB) | (go_at_call 11; refine (live_path w1 la lb lc p0 B1 C1 Hp0.out (hT.below HB1.out) HS1.out).mono ?_; rintro e w2 ⟨B2, C2, rfl, hS, hB⟩; have HS2 := Lib.hid hS; have HB2 := Lib.hid hB; clear hS hB) | (go_at_call 13; refine (live_growth w2 la lb lc B1 C1 Lc.out ((hT.below HB1.out).below HB2.out) (HS1.out.below HB2.out)).mono ?_; rintro e w3 ⟨B4, C4, rfl, hS, hB⟩; have HS3 := Lib.hid hS; have HB3 := Lib.hid hB; clear hS hB) | (go_at_call 21; refine (root_is r [la, lb, lc] B1 3 C1 w3 HF6.out (by simp) (((hT.below HB1.out).below HB2.out).below HB3.out) ((HS1.out.below HB2.out).below HB3.out)).mono ?_; rintro e w4 ⟨rfl, hB⟩; have HB4 := Lib.hid hB; clear hB) | (refine wpList_store_row' rfl 34 _ _ rfl w4.heap.size (r.map V8).toArray rfl rfl _ _ (blk1 _ _) (size_sum r Lr.out) (by simp [Lr.out]) (oneCells r) ?_; intro w5 h5 g5 s5; have H5 := Lib.hid h5; have G5 := Lib.hid g5; clear h5 g5 s5))
  have hl4 : Below w.heap.size w w4 := bthen (bthen (bthen HB1.out HB2.out) HB3.out) HB4.out
  have h45 : Low w4 w5 := (low1 _ _).grown G5.out (by simp) (fun k hk => by obtain rfl := Option.some.inj hk; exact Nat.le_refl _)
  have hL5 : Below w.heap.size w w5 := bthen hl4 h45
  have sl := (((HS1.out.below HB2.out).below HB3.out).below HB4.out).below h45
  have sp := ((HS2.out.below HB3.out).below HB4.out).below h45
  have sg := (HS3.out.below HB4.out).below h45
  obtain ⟨b, o, hb, hget⟩ := sl.get
  obtain rfl := hb (by omega)
  have SL := Lib.hid sl
  have SP := Lib.hid sp
  have SG := Lib.hid sg
  have HL := Lib.hid hL5
  have x0 := Lib.hid (hget 0 (by simp))
  have x1 := Lib.hid (hget 1 (by simp))
  have x2 := Lib.hid (hget 2 (by simp))
  have hcap := sl.cap
  obtain ⟨rb, hrb⟩ : ∃ rb, rb = w4.heap.size := ⟨_, rfl⟩
  rw [← hrb] at H5 ⊢
  clear hl4 h45 hL5 sl sp sg hb hget HS1 HS2 HS3 HB1 HB2 HB3 HB4 G5 hrb
  refine wp_region_reg 59 80 (RN w5.heap.size) (by kernel_rfl) (by kernel_rfl) (by kernel_rfl) (by kernel_rfl) (by kernel_rfl) (RN.refl _) (RN.trans _) [.is ((.int .i64 0 : Value)), .is ((.int .i64 0 : Value)), .is ((.bool true : Value)), .is ((.bool true : Value)), .is ((.slice B2 1 C2 : Value)), .is ((.int .i64 1 : Value)), .is ((.bool true : Value)), .is ((.bool true : Value)), .is ((.bool true : Value)), .is ((.int .i64 0 : Value)), .is ((.int .i64 0 : Value)), .is ((.bool true : Value)), .is ((.bool true : Value)), .is ((.bool true : Value)), .is ((.slice B4 1 C4 : Value)), .is ((.int .i64 1 : Value)), .is ((.bool true : Value)), .is ((.bool true : Value)), .is ((.bool true : Value)), yLit w5.heap.size, yLit w5.heap.size, .is (sumV la), .is ((.slice (some ⟨b, o, none⟩) 3 C1 : Value)), .is ((.pointer (some ⟨b, o + 0 * 32, none⟩) : Value)), .is (sumV la), .is ((.bool true : Value)), .is ((.bool true : Value)), .is ((.bool true : Value)), .is (sumV r), .is ((.slice (some ⟨b, o, none⟩) 3 C1 : Value)), .is ((.pointer (some ⟨b, o + 2 * 32, none⟩) : Value)), .is (sumV lc), .is ((.slice B2 1 C2 : Value)), .is ((.bool true : Value)), .is ((.bool true : Value)), .is ((.bool true : Value)), .is (sumV r), .is ((.slice (some ⟨b, o, none⟩) 3 C1 : Value)), .is ((.pointer (some ⟨b, o + 1 * 32, none⟩) : Value)), .is (sumV lb), .is ((.slice B2 1 C2 : Value)), .is ((.bool false : Value)), .is ((.bool true : Value)), .is ((.bool true : Value)), .is ((.bool true : Value)), .is ((.slice (some ⟨b, o, none⟩) 3 C1 : Value)), .is ((.slice (some ⟨b, o, none⟩) 2 C1 : Value)), .is (sumV p0), .is (sumV r), .is ((.slice B4 1 C4 : Value)), .is ((.bool true : Value)), .is ((.bool true : Value)), .is ((.bool true : Value)), .is (sumV r), .is (sumV r), .is ((.slice B4 1 C4 : Value)), .is ((.bool false : Value)), .is ((.bool true : Value)), .is ((.bool true : Value))] rfl (fun vs => ?_) (fun vs wr hR h => ?_)
  ·
    refine RegHead.cons (fun wr hR h => ?_) ?_
    · exact relAt.pure (RN.refl _) (by kernel_rfl) (by kernel_rfl)
    refine RegHead.cons (fun wr hR h => ?_) ?_
    · refine relAt.call (by kernel_rfl) (by kernel_rfl) ((num_any 0 wr).mono ?_)
      rintro e w6 ⟨rfl, rfl⟩
      exact ⟨_, rfl, RN.refl _ _, rfl⟩
    refine RegHead.cons (fun wr hR h => ?_) ?_
    · exact relAt.pure (RN.refl _) (by kernel_rfl) (by kernel_rfl)
    refine RegHead.cons (fun wr hR h => ?_) ?_
    · exact relAt.pure (RN.refl _) (by kernel_rfl) (by kernel_rfl)
    refine RegHead.cons (fun wr hR h => ?_) ?_
    · exact relAt.pure (RN.refl _) (by kernel_rfl) (by kernel_rfl)
    refine RegHead.cons (fun wr hR h => ?_) ?_
    · exact relAt.pure (RN.refl _) (by kernel_rfl) (by kernel_rfl)
    refine RegHead.cons (fun wr hR h => ?_) ?_
    · exact relAt.pure (RN.refl _) (by kernel_rfl) (by kernel_rfl)
    refine RegHead.cons (fun wr hR h => ?_) ?_
    · exact relAt.pure (RN.refl _) (by kernel_rfl) (by kernel_rfl)
    refine RegHead.cons (fun wr hR h => ?_) ?_
    · exact relAt.pure (RN.refl _) (by kernel_rfl) (by kernel_rfl)
    refine RegHead.cons (fun wr hR h => ?_) ?_
    · exact relAt.pure (RN.refl _) (by kernel_rfl) (by kernel_rfl)
    refine RegHead.cons (fun wr hR h => ?_) ?_
    · refine relAt.call (by kernel_rfl) (by kernel_rfl) ((num_any 0 wr).mono ?_)
      rintro e w6 ⟨rfl, rfl⟩
      exact ⟨_, rfl, RN.refl _ _, rfl⟩
    refine RegHead.cons (fun wr hR h => ?_) ?_
    · exact relAt.pure (RN.refl _) (by kernel_rfl) (by kernel_rfl)
    refine RegHead.cons (fun wr hR h => ?_) ?_
    · exact relAt.pure (RN.refl _) (by kernel_rfl) (by kernel_rfl)
    refine RegHead.cons (fun wr hR h => ?_) ?_
    · exact relAt.pure (RN.refl _) (by kernel_rfl) (by kernel_rfl)
    refine RegHead.cons (fun wr hR h => ?_) ?_
    · exact relAt.pure (RN.refl _) (by kernel_rfl) (by kernel_rfl)
    refine RegHead.cons (fun wr hR h => ?_) ?_
    · exact relAt.pure (RN.refl _) (by kernel_rfl) (by kernel_rfl)
    refine RegHead.cons (fun wr hR h => ?_) ?_
    · exact relAt.pure (RN.refl _) (by kernel_rfl) (by kernel_rfl)
    refine RegHead.cons (fun wr hR h => ?_) ?_
    · exact relAt.pure (RN.refl _) (by kernel_rfl) (by kernel_rfl)
    refine RegHead.cons (fun wr hR h => ?_) ?_
    · exact relAt.pure (RN.refl _) (by kernel_rfl) (by kernel_rfl)
    refine RegHead.cons (fun wr hR h => ?_) ?_
    · exact relAt.value (u := .slice (some ⟨wr.heap.size, 0, none⟩) 1 1) (w' := wr.alloc (.cells #[.int .u8 97] 5)) (by kernel_rfl) (by kernel_rfl) (RN.of_low (low1 _ _) (sizeR hR)) ⟨_, rfl, sizeR hR, _, _, blk1 _ _⟩
    refine RegHead.cons (fun wr hR h => ?_) ?_
    · have ex : ∃ b, vs 19 = .slice (some ⟨b, 0, none⟩) 1 1 ∧ w5.heap.size ≤ b ∧ ∃ t fr, wr.heap[b]? = some (.cells #[Value.int .u8 97] t fr) := allOf_iff.1 h 19 (by decide)
      obtain ⟨b4, hv4, hb4, t4, fr4, hh4⟩ := ex
      obtain ⟨W', hcv, hg4, fr5, hh5⟩ := conv_mark b4 1 1 wr _ t4 fr4 hh4
      exact relAt.valueS (s := convert 51 51 (vs 19)) (by kernel_rfl) (by kernel_rfl) (by rw [hv4]; exact hcv) (RN.of_mark (sizeR hR) hb4 hg4 hh4 hh5) ⟨_, rfl, hb4, _, _, hh5⟩
    refine RegHead.cons (fun wr hR h => ?_) ?_
    · have ex : ∃ b, vs 20 = .slice (some ⟨b, 0, none⟩) 1 1 ∧ w5.heap.size ≤ b ∧ ∃ t fr, wr.heap[b]? = some (.cells #[Value.int .u8 97] t fr) := allOf_iff.1 h 20 (by decide)
      obtain ⟨b4, hv4, hb4, t4, fr4, hh4⟩ := ex
      refine relAt.call (f := 25) (args := #[vs 20]) (by kernel_rfl) (by kernel_rfl) ?_
      rw [hv4]
      refine (leaf_any [97] (some ⟨b4, 0, none⟩) 1 1 wr (hT.below (bthen HL.out (lowR hR))) (txt97 hh4) (by decide)).mono ?_
      rintro e w6 ⟨rfl, hB⟩
      exact ⟨_, rfl, RN.of_low hB (sizeR hR), congrArg sumV Hla.out.symm⟩
    refine RegHead.cons (fun wr hR h => ?_) ?_
    · exact relAt.pure (RN.refl _) (by kernel_rfl) (by kernel_rfl)
    refine RegHead.cons (fun wr hR h => ?_) ?_
    · exact relAt.pure (RN.refl _) (by kernel_rfl) (by kernel_rfl)
    refine RegHead.cons (fun wr hR h => ?_) ?_
    · exact relAt.pureS (RN.refl _) (by kernel_rfl) (by kernel_rfl) (run_load_at_sum wr b (o + 0 * 32) la (range_low x0.out (lowR hR)) La.out)
    refine RegHead.cons (fun wr hR h => ?_) ?_
    · exact relAt.pureS (RN.refl _) (by kernel_rfl) (by kernel_rfl) (run_eql_sums wr (.tmp 42) (.tmp 45) la la true La.out La.out (beq_self_eq_true _))
    refine RegHead.cons (fun wr hR h => ?_) ?_
    · exact relAt.pure (RN.refl _) (by kernel_rfl) (by kernel_rfl)
    refine RegHead.cons (fun wr hR h => ?_) ?_
    · exact relAt.pure (RN.refl _) (by kernel_rfl) (by kernel_rfl)
    refine RegHead.cons (fun wr hR h => ?_) ?_
    · exact relAt.pureS (RN.refl _) (by kernel_rfl) (by kernel_rfl) (run_load_box_sum wr rb _ _ r (bblk (lowR hR) H5.out) Lr.out)
    refine RegHead.cons (fun wr hR h => ?_) ?_
    · exact relAt.pure (RN.refl _) (by kernel_rfl) (by kernel_rfl)
    refine RegHead.cons (fun wr hR h => ?_) ?_
    · exact relAt.pure (RN.refl _) (by kernel_rfl) (by kernel_rfl)
    refine RegHead.cons (fun wr hR h => ?_) ?_
    · exact relAt.pureS (RN.refl _) (by kernel_rfl) (by kernel_rfl) (run_load_at_sum wr b (o + 2 * 32) lc (range_low x2.out (lowR hR)) Lc.out)
    refine RegHead.cons (fun wr hR h => ?_) ?_
    · exact relAt.pure (RN.refl _) (by kernel_rfl) (by kernel_rfl)
    refine RegHead.cons (fun wr hR h => ?_) ?_
    · refine relAt.call (by kernel_rfl) (by kernel_rfl) ((holds_is true r lc B2 C2 p0 wr HF1.out Lr.out Lc.out (hT.below (bthen HL.out (lowR hR))) (SP.out.below (lowR hR))).mono ?_)
      rintro e w6 ⟨rfl, hB⟩
      exact ⟨_, rfl, RN.of_low hB (sizeR hR), rfl⟩
    refine RegHead.cons (fun wr hR h => ?_) ?_
    · exact relAt.pure (RN.refl _) (by kernel_rfl) (by kernel_rfl)
    refine RegHead.cons (fun wr hR h => ?_) ?_
    · exact relAt.pure (RN.refl _) (by kernel_rfl) (by kernel_rfl)
    refine RegHead.cons (fun wr hR h => ?_) ?_
    · exact relAt.pureS (RN.refl _) (by kernel_rfl) (by kernel_rfl) (run_load_box_sum wr rb _ _ r (bblk (lowR hR) H5.out) Lr.out)
    refine RegHead.cons (fun wr hR h => ?_) ?_
    · exact relAt.pure (RN.refl _) (by kernel_rfl) (by kernel_rfl)
    refine RegHead.cons (fun wr hR h => ?_) ?_
    · exact relAt.pure (RN.refl _) (by kernel_rfl) (by kernel_rfl)
    refine RegHead.cons (fun wr hR h => ?_) ?_
    · exact relAt.pureS (RN.refl _) (by kernel_rfl) (by kernel_rfl) (run_load_at_sum wr b (o + 1 * 32) lb (range_low x1.out (lowR hR)) Lb.out)
    refine RegHead.cons (fun wr hR h => ?_) ?_
    · exact relAt.pure (RN.refl _) (by kernel_rfl) (by kernel_rfl)
    refine RegHead.cons (fun wr hR h => ?_) ?_
    · refine relAt.call (by kernel_rfl) (by kernel_rfl) ((holds_is false r lb B2 C2 p0 wr HF2.out Lr.out Lb.out (hT.below (bthen HL.out (lowR hR))) (SP.out.below (lowR hR))).mono ?_)
      rintro e w6 ⟨rfl, hB⟩
      exact ⟨_, rfl, RN.of_low hB (sizeR hR), rfl⟩
    refine RegHead.cons (fun wr hR h => ?_) ?_
    · exact relAt.pure (RN.refl _) (by kernel_rfl) (by kernel_rfl)
    refine RegHead.cons (fun wr hR h => ?_) ?_
    · exact relAt.pure (RN.refl _) (by kernel_rfl) (by kernel_rfl)
    refine RegHead.cons (fun wr hR h => ?_) ?_
    · exact relAt.pure (RN.refl _) (by kernel_rfl) (by kernel_rfl)
    refine RegHead.cons (fun wr hR h => ?_) ?_
    · exact relAt.pure (RN.refl _) (by kernel_rfl) (by kernel_rfl)
    refine RegHead.cons (fun wr hR h => ?_) ?_
    · exact relAt.pureS (RN.refl _) (by kernel_rfl) (by kernel_rfl) (run_sums_to wr (some ⟨b, o, none⟩) 3 C1 2 (fun ad h => ⟨b, o, (Option.some.inj h).symm⟩) (by omega))
    refine RegHead.cons (fun wr hR h => ?_) ?_
    · refine relAt.call (by kernel_rfl) (by kernel_rfl) ((root_is p0 [la, lb] (some ⟨b, o, none⟩) 2 C1 wr HF5.out (by simp) (hT.below (bthen HL.out (lowR hR))) ((SL.out.take 2 (by omega)).below (lowR hR))).mono ?_)
      rintro e w6 ⟨rfl, hB⟩
      exact ⟨_, rfl, RN.of_low hB (sizeR hR), rfl⟩
    refine RegHead.cons (fun wr hR h => ?_) ?_
    · exact relAt.pureS (RN.refl _) (by kernel_rfl) (by kernel_rfl) (run_load_box_sum wr rb _ _ r (bblk (lowR hR) H5.out) Lr.out)
    refine RegHead.cons (fun wr hR h => ?_) ?_
    · exact relAt.pure (RN.refl _) (by kernel_rfl) (by kernel_rfl)
    refine RegHead.cons (fun wr hR h => ?_) ?_
    · refine relAt.call (by kernel_rfl) (by kernel_rfl) ((extends_is true r p0 lc B4 C4 wr HF3.out Lr.out Lp.out (hT.below (bthen HL.out (lowR hR))) (SG.out.below (lowR hR)) hs3.out).mono ?_)
      rintro e w6 ⟨rfl, hB⟩
      exact ⟨_, rfl, RN.of_low hB (sizeR hR), rfl⟩
    refine RegHead.cons (fun wr hR h => ?_) ?_
    · exact relAt.pure (RN.refl _) (by kernel_rfl) (by kernel_rfl)
    refine RegHead.cons (fun wr hR h => ?_) ?_
    · exact relAt.pure (RN.refl _) (by kernel_rfl) (by kernel_rfl)
    refine RegHead.cons (fun wr hR h => ?_) ?_
    · exact relAt.pureS (RN.refl _) (by kernel_rfl) (by kernel_rfl) (run_load_box_sum wr rb _ _ r (bblk (lowR hR) H5.out) Lr.out)
    refine RegHead.cons (fun wr hR h => ?_) ?_
    · exact relAt.pureS (RN.refl _) (by kernel_rfl) (by kernel_rfl) (run_load_box_sum wr rb _ _ r (bblk (lowR hR) H5.out) Lr.out)
    refine RegHead.cons (fun wr hR h => ?_) ?_
    · exact relAt.pure (RN.refl _) (by kernel_rfl) (by kernel_rfl)
    refine RegHead.cons (fun wr hR h => ?_) ?_
    · refine relAt.call (by kernel_rfl) (by kernel_rfl) ((extends_is false r r lc B4 C4 wr HF4.out Lr.out Lr.out (hT.below (bthen HL.out (lowR hR))) (SG.out.below (lowR hR)) hs3.out).mono ?_)
      rintro e w6 ⟨rfl, hB⟩
      exact ⟨_, rfl, RN.of_low hB (sizeR hR), rfl⟩
    refine RegHead.cons (fun wr hR h => ?_) ?_
    · exact relAt.pure (RN.refl _) (by kernel_rfl) (by kernel_rfl)
    refine RegHead.cons (fun wr hR h => ?_) ?_
    · exact relAt.pure (RN.refl _) (by kernel_rfl) (by kernel_rfl)
    exact trivial
  · have hlast := bthen HL.out (lowR hR)
    refine wp_frame (new := [(.int .i64 0 : Value), (.int .i64 0 : Value), (.bool true : Value), (.bool true : Value), (.slice B2 1 C2 : Value), (.int .i64 1 : Value), (.bool true : Value), (.bool true : Value), (.bool true : Value), (.int .i64 0 : Value), (.int .i64 0 : Value), (.bool true : Value), (.bool true : Value), (.bool true : Value), (.slice B4 1 C4 : Value), (.int .i64 1 : Value), (.bool true : Value), (.bool true : Value), (.bool true : Value), vs 19, vs 20, sumV la, (.slice (some ⟨b, o, none⟩) 3 C1 : Value), (.pointer (some ⟨b, o + 0 * 32, none⟩) : Value), sumV la, (.bool true : Value), (.bool true : Value), (.bool true : Value), sumV r, (.slice (some ⟨b, o, none⟩) 3 C1 : Value), (.pointer (some ⟨b, o + 2 * 32, none⟩) : Value), sumV lc, (.slice B2 1 C2 : Value), (.bool true : Value), (.bool true : Value), (.bool true : Value), sumV r, (.slice (some ⟨b, o, none⟩) 3 C1 : Value), (.pointer (some ⟨b, o + 1 * 32, none⟩) : Value), sumV lb, (.slice B2 1 C2 : Value), (.bool false : Value), (.bool true : Value), (.bool true : Value), (.bool true : Value), (.slice (some ⟨b, o, none⟩) 3 C1 : Value), (.slice (some ⟨b, o, none⟩) 2 C1 : Value), sumV p0, sumV r, (.slice B4 1 C4 : Value), (.bool true : Value), (.bool true : Value), (.bool true : Value), sumV r, sumV r, (.slice B4 1 C4 : Value), (.bool false : Value), (.bool true : Value), (.bool true : Value)]) 21 80 (by kernel_rfl) ?_
    simp only [List.take, List.cons_append, List.nil_append, List.drop]
    clear h hR
    go_wp2
    go_ret
    exact ⟨rfl, hlast⟩
end Go.Proofs.YtpdhgijeanbmcaaGreatDoor

/- Nil -/
namespace Go.Proofs.YtpdhgijeanbmcaaGreatDoor
set_option maxRecDepth 100000
open Go.RowKit Go.Great

noncomputable def head0 : Value := .agg Tryz.zeroCells36
set_option maxRecDepth 100000 in
theorem jprove_nil (n : Int) (w : World) : Calls Tryz.prog 4 #[.pointer none, .int .i64 n] w fun e w' => e = .returned (.tuple #[.slice none 0 0, .int .i64 0]) ∧ w = w' := by
  go_enter Tryz.func4, Tryz.ntmps4
  go_wp2
  go_ret2
  exact ⟨rfl, rfl⟩
set_option maxRecDepth 100000 in
theorem jsince_nil (n : Int) (w : World) : Calls Tryz.prog 5 #[.pointer none, .int .i64 n] w fun e w' => e = .returned (.tuple #[.slice none 0 0, .int .i64 0]) ∧ w = w' := by
  go_enter Tryz.func5, Tryz.ntmps5
  go_wp2
  go_ret2
  exact ⟨rfl, rfl⟩
set_option maxRecDepth 100000 in
theorem jnote_nil (a k : Int) (s : ByteArray) (w : World) : Calls Tryz.prog 7 #[.pointer none, .int .u64 a, .int .i64 k, .string s] w fun e w' => e = .returned (.int .i64 0) ∧ w = w' := by
  go_enter Tryz.func7, Tryz.ntmps7
  go_wp2
  go_ret
  exact ⟨rfl, rfl⟩
set_option maxRecDepth 100000 in
theorem jentries_nil (a k : Int) (w : World) : Calls Tryz.prog 8 #[.pointer none, .int .i64 a, .int .i64 k] w fun e w' => e = .returned (.slice none 0 0) ∧ w = w' := by
  go_enter Tryz.func8, Tryz.ntmps8
  go_wp2
  go_ret
  exact ⟨rfl, rfl⟩
@[go_sem] theorem eql_head0 (w : World) : (binOp .eql 36 head0 (.agg Tryz.zeroCells36)).run Tryz.prog w = .ok (.bool true) w := by kernel_rfl
@[go_sem] theorem eqg_head0 (p q : Operand) (w : World) : (eqGuard .eql 36 p q head0 (.agg Tryz.zeroCells36)).run Tryz.prog w = .ok () w := by kernel_rfl
set_option maxRecDepth 100000 in
theorem jhead_nil (w : World) : Calls Tryz.prog 9 #[.pointer none] w fun e w' => e = .returned head0 ∧ Below w.heap.size w w' := by
  go_enter Tryz.func9, Tryz.ntmps9
  go_wp2_with (refine wpList_store_row rfl 36 _ _ rfl w.heap.size Tryz.zeroCells36 rfl rfl 36 Tryz.zeroCells36 (blk1 _ _) (by kernel_rfl) (by kernel_rfl) (by kernel_rfl) ?_)
  refine bodyPost_ret (results_cell_row rfl _ _ w.heap.size 36 Tryz.zeroCells36 (0, 0) _ rfl (setRow_heap _ _ _ _ _ _ (blk1 _ _)) Tryz.underlying36 rfl (by kernel_rfl)) rfl ⟨rfl, ?_⟩
  exact brow (low1 _ _) (Nat.le_refl _) _

set_option maxRecDepth 100000 in
set_option maxHeartbeats 2000000 in
theorem nil_law (k at_ so : Int) (s : ByteArray) (fr n : Int) (w : World) (hT : Tabs w) :
    Calls Tryz.prog 3 #[actV k at_ so s fr n] w fun e w' => e = .returned (.bool true) ∧ Below w.heap.size w w' := by
  unfold actV
  have hb0 := blk1 w (.cells #[.int .i64 k, .int .u64 at_, .int .i64 so, .string s, .int .i64 fr, .int .i64 n] 24)
  have HB0 := Lib.hid hb0
  have HL0 := Lib.hid (low1 w (.cells #[.int .i64 k, .int .u64 at_, .int .i64 so, .string s, .int .i64 fr, .int .i64 n] 24))
  obtain ⟨w1, hw1⟩ : ∃ w1, w1 = w.alloc (.cells #[.int .i64 k, .int .u64 at_, .int .i64 so, .string s, .int .i64 fr, .int .i64 n] 24) := ⟨_, rfl⟩
  have f1 : w1.cell? ⟨w.heap.size, 1, none⟩ = some (.int .u64 at_) := by rw [hw1]; exact cell_block hb0 rfl
  have f2 : w1.cell? ⟨w.heap.size, 2, none⟩ = some (.int .i64 so) := by rw [hw1]; exact cell_block hb0 rfl
  have f3 : w1.cell? ⟨w.heap.size, 3, none⟩ = some (.string s) := by rw [hw1]; exact cell_block hb0 rfl
  have f4 : w1.cell? ⟨w.heap.size, 4, none⟩ = some (.int .i64 fr) := by rw [hw1]; exact cell_block hb0 rfl
  have f5 : w1.cell? ⟨w.heap.size, 5, none⟩ = some (.int .i64 n) := by rw [hw1]; exact cell_block hb0 rfl
  clear hb0
  go_enter Tryz.func3, Tryz.ntmps3
  go_wp2_with fail
  go_at_call 4
  refine (jprove_nil fr _).mono ?_
  rintro e w2 ⟨rfl, rfl⟩
  go_wp2_with fail
  go_at_call 5
  refine (jsince_nil fr _).mono ?_
  rintro e w2 ⟨rfl, rfl⟩
  go_wp2_with fail
  go_at_call 7
  refine (jnote_nil at_ so s _).mono ?_
  rintro e w2 ⟨rfl, rfl⟩
  go_wp2_with fail
  go_at_call 6
  refine (num_any 0 _).mono ?_
  rintro e w2 ⟨rfl, rfl⟩
  go_wp2_with fail
  go_at_call 8
  refine (jentries_nil fr n _).mono ?_
  rintro e w2 ⟨rfl, rfl⟩
  go_wp2_with fail
  go_at_call 9
  refine (jhead_nil _).mono ?_
  rintro e w2 ⟨rfl, hB⟩
  have HL2 := Lib.hid (bthen HL0.out hB)
  clear hB
  go_wp2_with fail
  go_at_call 6
  refine (num_any 0 _).mono ?_
  rintro e w3 ⟨rfl, rfl⟩
  go_wp2_with fail
  go_at_call 6
  refine (num_any 0 _).mono ?_
  rintro e w3 ⟨rfl, rfl⟩
  go_wp2_with fail
  have hlv := live_any w2 (hT.below HL2.out)
  go_at_call 10
  refine hlv.mono ?_
  rintro e w4 ⟨rfl, hB⟩
  go_wp2
  go_ret
  exact ⟨rfl, bthen HL2.out hB⟩
end Go.Proofs.YtpdhgijeanbmcaaGreatDoor

/- NilCard -/
namespace Go.Proofs.YtpdhgijeanbmcaaGreatDoor.chainNil
set_option maxRecDepth 100000
open Go.ChangeShapes Go.WideShapes Go.ChangeAt Go.RowKit

theorem contract (H : Type) (enc : TypeId × Value → H) (W : World) (base : Nat) (args : Array Value) (ds gs : List (DataW H)) (before : List MemPlace)
    (hval : ∀ (j : Nat) t v, Tryz.f3.params[j]? = some t → args[j]? = some v → Value.okWide Tryz.prog W .any base t v)
    (hW : DataW.Whole enc Tryz.prog Tryz.f3.params.toList Rows.chainNilSpec.vars false W args.toList ds gs before) (hL : laidMetH Tryz.prog laidLZ W) :
    Calls Tryz.prog 3 args W fun e W' => ∃ v, e = .returned v ∧ Rows.chainNilSpec.post enc Tryz.prog Tryz.f3 false true false false W args v W' := by
  have hW' := hW
  obtain ⟨p, q, hA0, hV, rfl, hfz, hnd⟩ := hW
  have hA : DataW.TrodAll enc Tryz.prog W 0 (fun _ => true) true Tryz.f3.params.toList args.toList ds p := hA0
  rw [Tryz.params3] at hA hval
  obtain ⟨v0, vs0, d0, ds0, p0, q0, hargs0, rfl, rfl, h0, r0⟩ := trodAll_cons hA
  obtain ⟨rfl, rfl, rfl⟩ := trodAll_nil r0
  obtain rfl : args = #[v0] := by cases args; simp_all
  obtain ⟨rfl, rfl⟩ := trodVars_none hV
  obtain ⟨k0, at0, so0, s0, fr0, n0, rfl⟩ := open_act (hval 0 24 v0 rfl rfl) h0
  refine (nil_law k0 at0 so0 s0 fr0 n0 W (tabs_of_laidZ hL)).mono fun e W' ⟨he, hB⟩ => ?_
  subst he
  exact ⟨_, rfl, post_law rfl hW' rfl rfl rfl (by kernel_rfl) hB (fun t ht => by
    have h : t ∈ [24] := ht
    simp only [List.mem_cons, List.not_mem_nil, or_false] at h
    rcases h with rfl <;> exact ⟨by kernel_rfl, of_decide_eq_true (by kernel_rfl)⟩)⟩

def act0 : Value := .agg #[Value.int .i64 0, Value.int .u64 0, Value.int .i64 0, Value.string ByteArray.empty, Value.int .i64 0, Value.int .i64 0]
def actd {H : Type} : DataW H := .agg [.lit (.int .i64 0), .lit (.int .u64 0), .lit (.int .i64 0), .lit (.string []), .lit (.int .i64 0), .lit (.int .i64 0)]
theorem reads (os : Os) {H : Type} (enc : TypeId × Value → H) : ∃ places, DataW.whole enc Tryz.prog ((laidWorldZ os).forCall (fun _ _ => 0) ⟨#[], (#[act0] : Array Value), []⟩).memory Tryz.f3.params.toList Rows.chainNilSpec.vars false (#[act0] : Array Value).toList 8 = some ([actd], [], places) :=
  ⟨[], by kernel_rfl⟩

set_option maxRecDepth 100000 in
theorem lifted (os : Os) (started : os.Started) (H : Type) (enc : TypeId × Value → H) (F : Stop.Interp) :
    ReturnsInHanded {} Tryz.checked os 3 .any ((OpenSpec.ofChange Rows.chainNilSpec).preRow enc Tryz.prog Tryz.f3 Rows.chainNilRow.domain false Rows.chainNilRow.laid) (((OpenSpec.ofChange Rows.chainNilSpec).at F).post enc Tryz.prog Tryz.f3 false true false false) := by
  obtain ⟨places, hx⟩ := reads os enc
  refine returnsInHanded_of_row (C := Tryz.checked) (s := OpenSpec.ofChange Rows.chainNilSpec) own started (by kernel_rfl) Tryz.func3
    (witness_row_at (enc := enc) (C := Tryz.checked) false (laidWorldZ os) #[act0] rfl (by kernel_rfl) (by kernel_rfl) (by kernel_rfl)
      (OpenSpec.preRow_of_cond 8 hx (by kernel_rfl) (fun k hk => by cases hk) (by kernel_rfl) (laid_metZ os _))) ?_
  intro W base args ds gs before hval hW _ _ _ hL _ _
  exact contract H enc W base args ds gs before hval hW hL

theorem said : Rows.ChainNilSaid :=
  OpenClaim.holds_of_cond 3 Tryz.f3 rfl rfl rfl rfl rfl rfl rfl ⟨rfl, rfl, rfl, rfl, rfl⟩ rfl rfl rfl rfl rfl (by kernel_rfl) Tryz.func3 (by kernel_rfl)
    (of_decide_eq_true (by kernel_rfl)) (by unfold Func.isWrapper; first | (rw [if_pos (by decide +kernel)]; kernel_rfl) | (rw [if_neg (by decide +kernel)]; exact ⟨rfl, rfl⟩))
    (fun os started H enc _ F => by rw [OpenClaim.pre_eq_preRow]; exact lifted os started H enc F)

theorem plain (f : FuncId) (fn : Func) (hf : Tryz.pinned.checked.prog.funcNamed "wicket/wicketlaw25.ChainNil" = some f) (hfn : Tryz.pinned.checked.prog.funcs[f]? = some fn) :
    false = Tryz.pinned.checked.prog.looks [] ∧ ∀ (j : Nat) t, fn.params[j]? = some t → Tryz.pinned.checked.prog.wantsStandIn t = false := by
  obtain rfl : f = 3 := Option.some.inj ((show Tryz.prog.funcNamed "wicket/wicketlaw25.ChainNil" = some 3 by kernel_rfl).symm.trans hf) |>.symm
  obtain rfl : fn = Tryz.f3 := (Option.some.inj (Tryz.func3.symm.trans hfn)).symm
  refine ⟨by kernel_rfl, fun j t ht => ?_⟩
  rw [Tryz.params3] at ht
  have hm := Array.mem_of_getElem? ht
  simp only [List.mem_toArray, List.mem_cons, List.not_mem_nil, or_false] at hm
  rcases hm with rfl
  · exact (show Tryz.prog.wantsStandIn 24 = false by kernel_rfl)

/-- THE CARD. -/
theorem card : Rows.ChainNilCardSaid :=
  Claim7.holds_tied_plain_at .later [] _ _ _ _ said (fun _ h => by cases h) (by kernel_rfl) (fun _ h => by cases h) chainNil_row_tie rfl ⟨rfl, rfl⟩ (by kernel_rfl) rfl plain (by kernel_rfl)
end Go.Proofs.YtpdhgijeanbmcaaGreatDoor.chainNil
