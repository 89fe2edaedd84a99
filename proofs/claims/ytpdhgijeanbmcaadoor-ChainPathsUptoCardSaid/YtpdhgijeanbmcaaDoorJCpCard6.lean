/- THE CARD of ChainPaths, second form: for arguments of bulk at most 1048576: the law answers true and the arguments read as they did. -/
import Derived.Test.YtpdhgijeanbmcaaDoorJCpCard5
/- Live -/
namespace Go.Proofs.YtpdhgijeanbmcaaDoor
open Go.RowKit Go.Great

def yLit (N : Nat) : Yld (RN N) := Yld.pr (pLit N).p (pLit N).st

set_option maxRecDepth 100000 in
set_option maxHeartbeats 100000000 in
theorem live_any (w : World) (hT : Tabs w) : Calls Tryd.prog 14 #[] w fun e w' => e = .returned (.bool true) ∧ Below w.heap.size w w' := by
  obtain ⟨la, hla, hlal⟩ : ∃ x, x = Tree.leaf [97] ∧ x.length = 32 := ⟨_, rfl, rfl⟩
  obtain ⟨lb, hlb, hlbl⟩ : ∃ x, x = Tree.leaf [98] ∧ x.length = 32 := ⟨_, rfl, rfl⟩
  obtain ⟨lc, hlc, hlcl⟩ : ∃ x, x = Tree.leaf [99] ∧ x.length = 32 := ⟨_, rfl, rfl⟩
  obtain ⟨p0, hp0, hp0l⟩ : ∃ x, x = Tree.node la lb ∧ x.length = 32 := ⟨_, rfl, rfl⟩
  obtain ⟨r, hr, hrl⟩ : ∃ x, x = Tree.node p0 lc ∧ x.length = 32 := ⟨_, rfl, rfl⟩
  have f1 : Tree.holds r 3 2 lc [p0] = true := by rw [Tree.holds3, hr]; exact beq_self_eq_true _
  have f2 : Tree.holds r 3 2 lb [p0] = false := by rw [Tree.holds3, hr, hp0, hla, hlb, hlc]; exact beq_eq_false_iff_ne.2 live_ne1
  have f3 : Tree.extends_ 2 p0 3 r [lc] = true := by rw [Tree.ext3, hr]; exact beq_self_eq_true _
  have f4 : Tree.extends_ 2 r 3 r [lc] = false := by rw [Tree.ext3, hr, hp0, hla, hlb, hlc]; exact beq_eq_false_iff_ne.2 live_ne2
  have f5 : Tree.root [la, lb] = p0 := by rw [Tree.root2, hp0]
  have f6 : Tree.root [la, lb, lc] = r := by rw [Tree.root3, hr, hp0]
  have HF1 := Lib.hid f1
  have HF2 := Lib.hid f2
  have HF3 := Lib.hid f3
  have HF4 := Lib.hid f4
  have HF5 := Lib.hid f5
  have HF6 := Lib.hid f6
  have Hla := Lib.hid hla
  have Hlb := Lib.hid hlb
  have Hlc := Lib.hid hlc
  have Hp0 := Lib.hid hp0
  have La := Lib.hid hlal
  have Lb := Lib.hid hlbl
  have Lc := Lib.hid hlcl
  have Lp := Lib.hid hp0l
  have Lr := Lib.hid hrl
  have hs3 := Lib.hid Tree.split3
  clear hla hlal hlb hlbl hlc hlcl hp0 hp0l hr hrl f1 f2 f3 f4 f5 f6
  go_enter Tryd.func14, Tryd.ntmps14
  go_wp2_with (first | (go_at_call 16; refine (live_leaves w la lb lc Hla.out Hlb.out Hlc.out hT).mono ?_; rintro e w1 ⟨B1, C1, rfl, hS, hB⟩; have HS1 := Lib.hid hS; have HB1 := Lib.hid hB; clear hS hB) | (go_at_call 24; refine (live_path w1 la lb lc p0 B1 C1 Hp0.out (hT.below HB1.out) HS1.out).mono ?_; rintro e w2 ⟨B2, C2, rfl, hS, hB⟩; have HS2 := Lib.hid hS; have HB2 := Lib.hid hB; clear hS hB) | (go_at_call 26; refine (live_growth w2 la lb lc B1 C1 Lc.out ((hT.below HB1.out).below HB2.out) (HS1.out.below HB2.out)).mono ?_; rintro e w3 ⟨B4, C4, rfl, hS, hB⟩; have HS3 := Lib.hid hS; have HB3 := Lib.hid hB; clear hS hB) | (go_at_call 21; refine (root_is r [la, lb, lc] B1 3 C1 w3 HF6.out (by simp) (((hT.below HB1.out).below HB2.out).below HB3.out) ((HS1.out.below HB2.out).below HB3.out)).mono ?_; rintro e w4 ⟨rfl, hB⟩; have HB4 := Lib.hid hB; clear hB) | (refine wpList_store_row' rfl 29 _ _ rfl w4.heap.size (r.map V8).toArray rfl rfl _ _ (blk1 _ _) (size_sum r Lr.out) (by simp [Lr.out]) (oneCells r) ?_; intro w5 h5 g5 s5; have H5 := Lib.hid h5; have G5 := Lib.hid g5; clear h5 g5 s5))
  have hl4 : Below w.heap.size w w4 := bthen (bthen (bthen HB1.out HB2.out) HB3.out) HB4.out
  have h45 : Low w4 w5 := (low1 _ _).grown G5.out (by simp) (fun k hk => by obtain rfl := Option.some.inj hk; exact Nat.le_refl _)
  have hL5 : Below w.heap.size w w5 := bthen hl4 h45
  have sl := (((HS1.out.below HB2.out).below HB3.out).below HB4.out).below h45
  have sp := ((HS2.out.below HB3.out).below HB4.out).below h45
  have sg := (HS3.out.below HB4.out).below h45
  obtain ⟨b, o, hb, hget⟩ := sl.get
  obtain rfl := hb (by omega)
  have SL := Lib.hid sl
  have SP := Lib.hid sp
  have SG := Lib.hid sg
  have HL := Lib.hid hL5
  have x0 := Lib.hid (hget 0 (by simp))
  have x1 := Lib.hid (hget 1 (by simp))
  have x2 := Lib.hid (hget 2 (by simp))
  have hcap := sl.cap
  obtain ⟨rb, hrb⟩ : ∃ rb, rb = w4.heap.size := ⟨_, rfl⟩
  rw [← hrb] at H5 ⊢
  clear hl4 h45 hL5 sl sp sg hb hget HS1 HS2 HS3 HB1 HB2 HB3 HB4 G5 hrb
  refine wp_region_reg 59 80 (RN w5.heap.size) (by kernel_rfl) (by kernel_rfl) (by kernel_rfl) (by kernel_rfl) (by kernel_rfl) (RN.refl _) (RN.trans _) [.is ((.int .i64 0 : Value)), .is ((.int .i64 0 : Value)), .is ((.bool true : Value)), .is ((.bool true : Value)), .is ((.slice B2 1 C2 : Value)), .is ((.int .i64 1 : Value)), .is ((.bool true : Value)), .is ((.bool true : Value)), .is ((.bool true : Value)), .is ((.int .i64 0 : Value)), .is ((.int .i64 0 : Value)), .is ((.bool true : Value)), .is ((.bool true : Value)), .is ((.bool true : Value)), .is ((.slice B4 1 C4 : Value)), .is ((.int .i64 1 : Value)), .is ((.bool true : Value)), .is ((.bool true : Value)), .is ((.bool true : Value)), yLit w5.heap.size, yLit w5.heap.size, .is (sumV la), .is ((.slice (some ⟨b, o, none⟩) 3 C1 : Value)), .is ((.pointer (some ⟨b, o + 0 * 32, none⟩) : Value)), .is (sumV la), .is ((.bool true : Value)), .is ((.bool true : Value)), .is ((.bool true : Value)), .is (sumV r), .is ((.slice (some ⟨b, o, none⟩) 3 C1 : Value)), .is ((.pointer (some ⟨b, o + 2 * 32, none⟩) : Value)), .is (sumV lc), .is ((.slice B2 1 C2 : Value)), .is ((.bool true : Value)), .is ((.bool true : Value)), .is ((.bool true : Value)), .is (sumV r), .is ((.slice (some ⟨b, o, none⟩) 3 C1 : Value)), .is ((.pointer (some ⟨b, o + 1 * 32, none⟩) : Value)), .is (sumV lb), .is ((.slice B2 1 C2 : Value)), .is ((.bool false : Value)), .is ((.bool true : Value)), .is ((.bool true : Value)), .is ((.bool true : Value)), .is ((.slice (some ⟨b, o, none⟩) 3 C1 : Value)), .is ((.slice (some ⟨b, o, none⟩) 2 C1 : Value)), .is (sumV p0), .is (sumV r), .is ((.slice B4 1 C4 : Value)), .is ((.bool true : Value)), .is ((.bool true : Value)), .is ((.bool true : Value)), .is (sumV r), .is (sumV r), .is ((.slice B4 1 C4 : Value)), .is ((.bool false : Value)), .is ((.bool true : Value)), .is ((.bool true : Value))] rfl (fun vs => ?_) (fun vs wr hR h => ?_)
  ·
    refine RegHead.cons (fun wr hR h => ?_) ?_
    · exact relAt.pure (RN.refl _) (by kernel_rfl) (by kernel_rfl)
    refine RegHead.cons (fun wr hR h => ?_) ?_
    · refine relAt.call (by kernel_rfl) (by kernel_rfl) ((num_any 0 wr).mono ?_)
      rintro e w6 ⟨rfl, rfl⟩
      exact ⟨_, rfl, RN.refl _ _, rfl⟩
    refine RegHead.cons (fun wr hR h => ?_) ?_
    · exact relAt.pure (RN.refl _) (by kernel_rfl) (by kernel_rfl)
    refine RegHead.cons (fun wr hR h => ?_) ?_
    · exact relAt.pure (RN.refl _) (by kernel_rfl) (by kernel_rfl)
    refine RegHead.cons (fun wr hR h => ?_) ?_
    · exact relAt.pure (RN.refl _) (by kernel_rfl) (by kernel_rfl)
    refine RegHead.cons (fun wr hR h => ?_) ?_
    · exact relAt.pure (RN.refl _) (by kernel_rfl) (by kernel_rfl)
    refine RegHead.cons (fun wr hR h => ?_) ?_
    · exact relAt.pure (RN.refl _) (by kernel_rfl) (by kernel_rfl)
    refine RegHead.cons (fun wr hR h => ?_) ?_
    · exact relAt.pure (RN.refl _) (by kernel_rfl) (by kernel_rfl)
    refine RegHead.cons (fun wr hR h => ?_) ?_
    · exact relAt.pure (RN.refl _) (by kernel_rfl) (by kernel_rfl)
    refine RegHead.cons (fun wr hR h => ?_) ?_
    · exact relAt.pure (RN.refl _) (by kernel_rfl) (by kernel_rfl)
    refine RegHead.cons (fun wr hR h => ?_) ?_
    · refine relAt.call (by kernel_rfl) (by kernel_rfl) ((num_any 0 wr).mono ?_)
      rintro e w6 ⟨rfl, rfl⟩
      exact ⟨_, rfl, RN.refl _ _, rfl⟩
    refine RegHead.cons (fun wr hR h => ?_) ?_
    · exact relAt.pure (RN.refl _) (by kernel_rfl) (by kernel_rfl)
    refine RegHead.cons (fun wr hR h => ?_) ?_
    · exact relAt.pure (RN.refl _) (by kernel_rfl) (by kernel_rfl)
    refine RegHead.cons (fun wr hR h => ?_) ?_
    · exact relAt.pure (RN.refl _) (by kernel_rfl) (by kernel_rfl)
    refine RegHead.cons (fun wr hR h => ?_) ?_
    · exact relAt.pure (RN.refl _) (by kernel_rfl) (by kernel_rfl)
    refine RegHead.cons (fun wr hR h => ?_) ?_
    · exact relAt.pure (RN.refl _) (by kernel_rfl) (by kernel_rfl)
    refine RegHead.cons (fun wr hR h => ?_) ?_
    · exact relAt.pure (RN.refl _) (by kernel_rfl) (by kernel_rfl)
    refine RegHead.cons (fun wr hR h => ?_) ?_
    · exact relAt.pure (RN.refl _) (by kernel_rfl) (by kernel_rfl)
    refine RegHead.cons (fun wr hR h => ?_) ?_
    · exact relAt.pure (RN.refl _) (by kernel_rfl) (by kernel_rfl)
    refine RegHead.cons (fun wr hR h => ?_) ?_
    · exact relAt.value (u := .slice (some ⟨wr.heap.size, 0, none⟩) 1 1) (w' := wr.alloc (.cells #[.int .u8 97] 5)) (by kernel_rfl) (by kernel_rfl) (RN.of_low (low1 _ _) (sizeR hR)) ⟨_, rfl, sizeR hR, _, _, blk1 _ _⟩
    refine RegHead.cons (fun wr hR h => ?_) ?_
    · have ex : ∃ b, vs 19 = .slice (some ⟨b, 0, none⟩) 1 1 ∧ w5.heap.size ≤ b ∧ ∃ t fr, wr.heap[b]? = some (.cells #[Value.int .u8 97] t fr) := allOf_iff.1 h 19 (by decide)
      obtain ⟨b4, hv4, hb4, t4, fr4, hh4⟩ := ex
      obtain ⟨W', hcv, hg4, fr5, hh5⟩ := conv_mark b4 1 1 wr _ t4 fr4 hh4
      exact relAt.valueS (s := convert 22 22 (vs 19)) (by kernel_rfl) (by kernel_rfl) (by rw [hv4]; exact hcv) (RN.of_mark (sizeR hR) hb4 hg4 hh4 hh5) ⟨_, rfl, hb4, _, _, hh5⟩
    refine RegHead.cons (fun wr hR h => ?_) ?_
    · have ex : ∃ b, vs 20 = .slice (some ⟨b, 0, none⟩) 1 1 ∧ w5.heap.size ≤ b ∧ ∃ t fr, wr.heap[b]? = some (.cells #[Value.int .u8 97] t fr) := allOf_iff.1 h 20 (by decide)
      obtain ⟨b4, hv4, hb4, t4, fr4, hh4⟩ := ex
      refine relAt.call (f := 17) (args := #[vs 20]) (by kernel_rfl) (by kernel_rfl) ?_
      rw [hv4]
      refine (leaf_any [97] (some ⟨b4, 0, none⟩) 1 1 wr (hT.below (bthen HL.out (lowR hR))) (txt97 hh4) (by decide)).mono ?_
      rintro e w6 ⟨rfl, hB⟩
      exact ⟨_, rfl, RN.of_low hB (sizeR hR), congrArg sumV Hla.out.symm⟩
    refine RegHead.cons (fun wr hR h => ?_) ?_
    · exact relAt.pure (RN.refl _) (by kernel_rfl) (by kernel_rfl)
    refine RegHead.cons (fun wr hR h => ?_) ?_
    · exact relAt.pure (RN.refl _) (by kernel_rfl) (by kernel_rfl)
    refine RegHead.cons (fun wr hR h => ?_) ?_
    · exact relAt.pureS (RN.refl _) (by kernel_rfl) (by kernel_rfl) (run_load_at_sum wr b (o + 0 * 32) la (range_low x0.out (lowR hR)) La.out)
    refine RegHead.cons (fun wr hR h => ?_) ?_
    · exact relAt.pureS (RN.refl _) (by kernel_rfl) (by kernel_rfl) (run_eql_sums wr (.tmp 42) (.tmp 45) la la true La.out La.out (beq_self_eq_true _))
    refine RegHead.cons (fun wr hR h => ?_) ?_
    · exact relAt.pure (RN.refl _) (by kernel_rfl) (by kernel_rfl)
    refine RegHead.cons (fun wr hR h => ?_) ?_
    · exact relAt.pure (RN.refl _) (by kernel_rfl) (by kernel_rfl)
    refine RegHead.cons (fun wr hR h => ?_) ?_
    · exact relAt.pureS (RN.refl _) (by kernel_rfl) (by kernel_rfl) (run_load_box_sum wr rb _ _ r (bblk (lowR hR) H5.out) Lr.out)
    refine RegHead.cons (fun wr hR h => ?_) ?_
    · exact relAt.pure (RN.refl _) (by kernel_rfl) (by kernel_rfl)
    refine RegHead.cons (fun wr hR h => ?_) ?_
    · exact relAt.pure (RN.refl _) (by kernel_rfl) (by kernel_rfl)
    refine RegHead.cons (fun wr hR h => ?_) ?_
    · exact relAt.pureS (RN.refl _) (by kernel_rfl) (by kernel_rfl) (run_load_at_sum wr b (o + 2 * 32) lc (range_low x2.out (lowR hR)) Lc.out)
    refine RegHead.cons (fun wr hR h => ?_) ?_
    · exact relAt.pure (RN.refl _) (by kernel_rfl) (by kernel_rfl)
    refine RegHead.cons (fun wr hR h => ?_) ?_
    · refine relAt.call (by kernel_rfl) (by kernel_rfl) ((holds_is true r lc B2 C2 p0 wr HF1.out Lr.out Lc.out (hT.below (bthen HL.out (lowR hR))) (SP.out.below (lowR hR))).mono ?_)
      rintro e w6 ⟨rfl, hB⟩
      exact ⟨_, rfl, RN.of_low hB (sizeR hR), rfl⟩
    refine RegHead.cons (fun wr hR h => ?_) ?_
    · exact relAt.pure (RN.refl _) (by kernel_rfl) (by kernel_rfl)
    refine RegHead.cons (fun wr hR h => ?_) ?_
    · exact relAt.pure (RN.refl _) (by kernel_rfl) (by kernel_rfl)
    refine RegHead.cons (fun wr hR h => ?_) ?_
    · exact relAt.pureS (RN.refl _) (by kernel_rfl) (by kernel_rfl) (run_load_box_sum wr rb _ _ r (bblk (lowR hR) H5.out) Lr.out)
    refine RegHead.cons (fun wr hR h => ?_) ?_
    · exact relAt.pure (RN.refl _) (by kernel_rfl) (by kernel_rfl)
    refine RegHead.cons (fun wr hR h => ?_) ?_
    · exact relAt.pure (RN.refl _) (by kernel_rfl) (by kernel_rfl)
    refine RegHead.cons (fun wr hR h => ?_) ?_
    · exact relAt.pureS (RN.refl _) (by kernel_rfl) (by kernel_rfl) (run_load_at_sum wr b (o + 1 * 32) lb (range_low x1.out (lowR hR)) Lb.out)
    refine RegHead.cons (fun wr hR h => ?_) ?_
    · exact relAt.pure (RN.refl _) (by kernel_rfl) (by kernel_rfl)
    refine RegHead.cons (fun wr hR h => ?_) ?_
    · refine relAt.call (by kernel_rfl) (by kernel_rfl) ((holds_is false r lb B2 C2 p0 wr HF2.out Lr.out Lb.out (hT.below (bthen HL.out (lowR hR))) (SP.out.below (lowR hR))).mono ?_)
      rintro e w6 ⟨rfl, hB⟩
      exact ⟨_, rfl, RN.of_low hB (sizeR hR), rfl⟩
    refine RegHead.cons (fun wr hR h => ?_) ?_
    · exact relAt.pure (RN.refl _) (by kernel_rfl) (by kernel_rfl)
    refine RegHead.cons (fun wr hR h => ?_) ?_
    · exact relAt.pure (RN.refl _) (by kernel_rfl) (by kernel_rfl)
    refine RegHead.cons (fun wr hR h => ?_) ?_
    · exact relAt.pure (RN.refl _) (by kernel_rfl) (by kernel_rfl)
    refine RegHead.cons (fun wr hR h => ?_) ?_
    · exact relAt.pure (RN.refl _) (by kernel_rfl) (by kernel_rfl)
    refine RegHead.cons (fun wr hR h => ?_) ?_
    · exact relAt.pureS (RN.refl _) (by kernel_rfl) (by kernel_rfl) (run_sums_to wr (some ⟨b, o, none⟩) 3 C1 2 (fun ad h => ⟨b, o, (Option.some.inj h).symm⟩) (by omega))
    refine RegHead.cons (fun wr hR h => ?_) ?_
    · refine relAt.call (by kernel_rfl) (by kernel_rfl) ((root_is p0 [la, lb] (some ⟨b, o, none⟩) 2 C1 wr HF5.out (by simp) (hT.below (bthen HL.out (lowR hR))) ((SL.out.take 2 (by omega)).below (lowR hR))).mono ?_)
      rintro e w6 ⟨rfl, hB⟩
      exact ⟨_, rfl, RN.of_low hB (sizeR hR), rfl⟩
    refine RegHead.cons (fun wr hR h => ?_) ?_
    · exact relAt.pureS (RN.refl _) (by kernel_rfl) (by kernel_rfl) (run_load_box_sum wr rb _ _ r (bblk (lowR hR) H5.out) Lr.out)
    refine RegHead.cons (fun wr hR h => ?_) ?_
    · exact relAt.pure (RN.refl _) (by kernel_rfl) (by kernel_rfl)
    refine RegHead.cons (fun wr hR h => ?_) ?_
    · refine relAt.call (by kernel_rfl) (by kernel_rfl) ((extends_is true r p0 lc B4 C4 wr HF3.out Lr.out Lp.out (hT.below (bthen HL.out (lowR hR))) (SG.out.below (lowR hR)) hs3.out).mono ?_)
      rintro e w6 ⟨rfl, hB⟩
      exact ⟨_, rfl, RN.of_low hB (sizeR hR), rfl⟩
    refine RegHead.cons (fun wr hR h => ?_) ?_
    · exact relAt.pure (RN.refl _) (by kernel_rfl) (by kernel_rfl)
    refine RegHead.cons (fun wr hR h => ?_) ?_
    · exact relAt.pure (RN.refl _) (by kernel_rfl) (by kernel_rfl)
    refine RegHead.cons (fun wr hR h => ?_) ?_
    · exact relAt.pureS (RN.refl _) (by kernel_rfl) (by kernel_rfl) (run_load_box_sum wr rb _ _ r (bblk (lowR hR) H5.out) Lr.out)
    refine RegHead.cons (fun wr hR h => ?_) ?_
    · exact relAt.pureS (RN.refl _) (by kernel_rfl) (by kernel_rfl) (run_load_box_sum wr rb _ _ r (bblk (lowR hR) H5.out) Lr.out)
    refine RegHead.cons (fun wr hR h => ?_) ?_
    · exact relAt.pure (RN.refl _) (by kernel_rfl) (by kernel_rfl)
    refine RegHead.cons (fun wr hR h => ?_) ?_
    · refine relAt.call (by kernel_rfl) (by kernel_rfl) ((extends_is false r r lc B4 C4 wr HF4.out Lr.out Lr.out (hT.below (bthen HL.out (lowR hR))) (SG.out.below (lowR hR)) hs3.out).mono ?_)
      rintro e w6 ⟨rfl, hB⟩
      exact ⟨_, rfl, RN.of_low hB (sizeR hR), rfl⟩
    refine RegHead.cons (fun wr hR h => ?_) ?_
    · exact relAt.pure (RN.refl _) (by kernel_rfl) (by kernel_rfl)
    refine RegHead.cons (fun wr hR h => ?_) ?_
    · exact relAt.pure (RN.refl _) (by kernel_rfl) (by kernel_rfl)
    exact trivial
  · have hlast := bthen HL.out (lowR hR)
    refine wp_frame (new := [(.int .i64 0 : Value), (.int .i64 0 : Value), (.bool true : Value), (.bool true : Value), (.slice B2 1 C2 : Value), (.int .i64 1 : Value), (.bool true : Value), (.bool true : Value), (.bool true : Value), (.int .i64 0 : Value), (.int .i64 0 : Value), (.bool true : Value), (.bool true : Value), (.bool true : Value), (.slice B4 1 C4 : Value), (.int .i64 1 : Value), (.bool true : Value), (.bool true : Value), (.bool true : Value), vs 19, vs 20, sumV la, (.slice (some ⟨b, o, none⟩) 3 C1 : Value), (.pointer (some ⟨b, o + 0 * 32, none⟩) : Value), sumV la, (.bool true : Value), (.bool true : Value), (.bool true : Value), sumV r, (.slice (some ⟨b, o, none⟩) 3 C1 : Value), (.pointer (some ⟨b, o + 2 * 32, none⟩) : Value), sumV lc, (.slice B2 1 C2 : Value), (.bool true : Value), (.bool true : Value), (.bool true : Value), sumV r, (.slice (some ⟨b, o, none⟩) 3 C1 : Value), (.pointer (some ⟨b, o + 1 * 32, none⟩) : Value), sumV lb, (.slice B2 1 C2 : Value), (.bool false : Value), (.bool true : Value), (.bool true : Value), (.bool true : Value), (.slice (some ⟨b, o, none⟩) 3 C1 : Value), (.slice (some ⟨b, o, none⟩) 2 C1 : Value), sumV p0, sumV r, (.slice B4 1 C4 : Value), (.bool true : Value), (.bool true : Value), (.bool true : Value), sumV r, sumV r, (.slice B4 1 C4 : Value), (.bool false : Value), (.bool true : Value), (.bool true : Value)]) 21 80 (by kernel_rfl) ?_
    simp only [List.take, List.cons_append, List.nil_append, List.drop]
    clear h hR
    go_wp2
    go_ret
    exact ⟨rfl, hlast⟩
end Go.Proofs.YtpdhgijeanbmcaaDoor

/- Kept -/
namespace Go.Proofs.YtpdhgijeanbmcaaDoor
open Go.RowKit Go.Great

theorem marks_len (k : Nat) : (marks k).length = k := by simp [marks]
theorem marks_get (k i : Nat) (h : i < (marks k).length) : (marks k)[i] = mark i := by simp [marks]

set_option maxRecDepth 100000 in
set_option maxHeartbeats 2000000 in
theorem kept_any (L : List (List UInt8)) (B a : Option Addr) (n C c : Nat) (w : World) (SB : Sums w B (n + 8) C (L ++ marks 8)) (S : Sums w a n c L) (hn : n < 1099511627776) :
    Calls Tryd.prog 23 #[.slice B n C, .slice a n c] w fun e w' => e = .returned (.bool true) ∧ Below w.heap.size w w' := by
  have hnl := S.len
  have hcap := SB.cap
  have hnC : (n : Int) + 8 ≤ (C : Int) := by omega
  obtain ⟨b, o, hb, hget⟩ := SB.get
  obtain rfl := hb (by omega)
  have Hget := Lib.hid hget
  have sl := SB.take n (by omega)
  rw [List.take_append_of_le_length (by omega), List.take_of_length_le (by omega)] at sl
  have hsums := Lib.hid fun W hB => sums_eq L (some ⟨b, o, none⟩) a n C c W (sl.below hB) (S.below hB) (by omega)
  have Hnl := Lib.hid hnl
  clear SB S sl hget hb hnl
  go_enter Tryd.func23, Tryd.ntmps23
  go_wp2
  go_loopw [6] (fun i wr => ∃ k : Nat, k ≤ 8 ∧ i = .int .i64 k ∧ Below w.heap.size w wr) (fun i _ => 8 - (intOf i).toNat)
  case atStart => exact ⟨0, by omega, rfl, Below.refl _ _⟩
  case round =>
    obtain ⟨k, hk, rfl, hB⟩ := hrel
    have HB := Lib.hid hB
    clear hB
    by_cases hlt : k < 8
    · have hki : (k : Int) < 8 := by omega
      have hki0 : (0 : Int) ≤ (k : Int) := by omega
      have hidx : (n : Int) + (k : Int) < (n : Int) + 8 := by omega
      have hr : w.rangeAt b (o + (n + k) * 32) ((mark k).map V8) := by
        have hlen : n + k < (L ++ marks 8).length := by rw [List.length_append, marks_len, ← Hnl.out]; omega
        have h := Hget.out (n + k) hlen
        rw [List.getElem_append_right (by have := Hnl.out; omega), marks_get] at h
        rw [show n + k - L.length = k by have := Hnl.out; omega] at h
        exact h
      have HR := Lib.hid hr
      have hmv := mark_val k hlt
      have hne : ∀ W, (binOp .neq 29 (sumV (mark k)) (Value.agg (markA k))).run Tryd.prog W = .ok (.bool false) W := fun W => by
        rw [hmv, neq_sumV _ _ _ (mark_len k) (mark_len k), beq_self_eq_true]; rfl
      have heg : ∀ (X Y : Operand) W, (eqGuard .neq 29 X Y (sumV (mark k)) (Value.agg (markA k))).run Tryd.prog W = .ok () W := fun X Y W => run_eqGuard_agg W .neq 29 X Y _ _ guard_sum
      unfold markA at hne heg
      clear hr hmv
      go_wp2_with (refine wpList_load_mid_sum rfl 29 _ rfl b (o + (n + k) * 32) rfl (mark k) 32 _ (range_low HR.out HB.out) Tryd.underlying29 (by kernel_rfl) (mark_len k) ?_)
      go_roundw
      case rel => exact ⟨k + 1, by omega, by go_num, HB.out⟩
      case measure => simp [intOf]; omega
    · obtain rfl : k = 8 := by omega
      go_wp2_with (go_at_call 28; refine (hsums.out _ HB.out).mono ?_; rintro e w3 ⟨rfl, hB⟩; have HB3 := Lib.hid hB; clear hB)
      go_ret
      exact ⟨rfl, bthen HB.out HB3.out⟩
end Go.Proofs.YtpdhgijeanbmcaaDoor

/- Cp -/
namespace Go.Proofs.YtpdhgijeanbmcaaDoor
open Go.RowKit Go.Great

theorem leaf_each (l : List (List UInt8)) : ∀ u ∈ l.map Tree.leaf, u.length = 32 := fun u hu => by
  obtain ⟨t, _, rfl⟩ := List.mem_map.1 hu
  rfl
theorem leaves_len {w : World} {a : Option Addr} {n : Nat} {l : List (List UInt8)} (h : Strs w a n l) : (l.map Tree.leaf).length = n := by rw [List.length_map, h.len]
theorem own_each (L : List (List UInt8)) (h : ∀ x ∈ L, x.length = 32) : ∀ x ∈ L ++ marks 8, x.length = 32 := fun x hx => by
  rcases List.mem_append.1 hx with hx | hx
  · exact h x hx
  · obtain ⟨i, _, rfl⟩ := List.mem_map.1 hx
    rfl
set_option maxRecDepth 100000 in
set_option maxHeartbeats 8000000 in
theorem cp_law (ts : List (List UInt8)) (a : Option Addr) (n c : Nat) (i : Int) (w : World) (hT : Tabs w) (S : Strs w a n ts) (hc : n ≤ c) (hts : ∀ t ∈ ts, t.length < 1099511627776) :
    Calls Tryd.prog 6 #[.slice a n c, .int .i64 i] w fun e w' => e = .returned (.bool true) ∧ Below w.heap.size w w' := by
  have hfew := Lib.hid (few_any ts a n c w S hc)
  have Hts := Lib.hid hts
  clear S hts
  go_enter Tryd.func6, Tryd.ntmps6
  go_wp2_with fail
  go_at_call 15
  refine hfew.out.mono ?_
  rintro e w1 ⟨n1, hn1, rfl, hS, rfl⟩
  have HS := Lib.hid hS
  clear hS
  go_wp2_with fail
  go_at_call 16
  refine (leaves_any (ts.take 300) a n1 c w hT HS.out (by omega) (fun t ht => Hts.out t (List.mem_of_mem_take ht))).mono ?_
  rintro e w2 ⟨B1, C1, rfl, hA⟩
  rw [leaves_len HS.out] at hA ⊢
  have HL1 := Lib.hid (Lies.of_acc hA (leaf_each _))
  have HB2 := Lib.hid hA.low
  obtain ⟨L, hL⟩ : ∃ L, L = (ts.take 300).map Tree.leaf := ⟨_, rfl⟩
  have hLe : ∀ x ∈ L, x.length = 32 := by rw [hL]; exact leaf_each _
  have hLl : L.length = n1 := by rw [hL]; exact leaves_len HS.out
  rw [← hL] at HL1
  have HLe := Lib.hid hLe
  have HLl := Lib.hid hLl
  have hT2 := Lib.hid (hT.below hA.low)
  have hn40 : n1 < 1099511627776 := by omega
  clear hA hL hLe hLl HS hfew Hts
  go_wp2_with fail
  go_at_call 18
  refine (own_any L B1 n1 C1 w2 HL1.out.sums (by omega)).mono ?_
  rintro e w3 ⟨B2, C2, rfl, hA⟩
  have HF3 := Lib.hid hA
  clear hA
  have hfull := (HF3.out.sums (own_each L HLe.out)).take n1 (by omega)
  rw [List.take_append_of_le_length (by have := HLl.out; omega), List.take_of_length_le (by have := HLl.out; omega)] at hfull
  have HFull := Lib.hid hfull
  obtain ⟨M1, k1, hM1⟩ : ∃ M1 k1, pathOf L i = (M1, k1) := ⟨_, _, rfl⟩
  obtain ⟨M2, k2, hM2⟩ : ∃ M2 k2, growthOf L i = (M2, k2) := ⟨_, _, rfl⟩
  have he1 := pathOf_each L i HLe.out
  have he2 := growthOf_each L i HLe.out
  rw [hM1] at he1
  rw [hM2] at he2
  have HE1 := Lib.hid he1.1
  have HE2 := Lib.hid he2.1
  have hl1 : M1.length < 1099511627776 := by have := he1.2; have := HLl.out; simp at *; omega
  have hl2 : M2.length < 1099511627776 := by have := he2.2; have := HLl.out; simp at *; omega
  have HM1 := Lib.hid hM1
  have HM2 := Lib.hid hM2
  clear hfull he1 he2 hM1 hM2
  go_wp2_with fail
  go_at_call 24
  refine (path_all L B2 n1 C2 i _ hn40 (hT2.out.below (HF3.out.low)) (HFull.out.below (Below.refl _ _))).mono ?_
  rw [HM1.out]
  rintro e w4 ⟨D4, E4, rfl, hA⟩
  have HB4 := Lib.hid hA.low
  have HA4 := Lib.hid hA
  clear hA
  go_wp2_with fail
  go_at_call 24
  refine (path_all L B2 n1 C2 i _ hn40 (hT2.out.below (bthen (HF3.out.low) (HB4.out))) (HFull.out.below (HB4.out))).mono ?_
  rw [HM1.out]
  rintro e w5 ⟨D5, E5, rfl, hA⟩
  have HB5 := Lib.hid hA.low
  have HA5 := Lib.hid hA
  clear hA
  go_wp2_with fail
  go_at_call 25
  refine (rpath_all L B1 n1 C1 i _ hn40 (hT2.out.below (bthen (bthen (HF3.out.low) (HB4.out)) (HB5.out))) (HL1.out.sums.below (bthen (bthen (HF3.out.low) (HB4.out)) (HB5.out)))).mono ?_
  rw [HM1.out]
  rintro e w6 ⟨D6, E6, rfl, hA⟩
  have HB6 := Lib.hid hA.low
  have HA6 := Lib.hid hA
  clear hA
  go_wp2_with fail
  go_at_call 26
  refine (growth_all L B2 n1 C2 i _ hn40 (hT2.out.below (bthen (bthen (bthen (HF3.out.low) (HB4.out)) (HB5.out)) (HB6.out))) (HFull.out.below (bthen (bthen (HB4.out) (HB5.out)) (HB6.out)))).mono ?_
  rw [HM2.out]
  rintro e w7 ⟨D7, E7, rfl, hA⟩
  have HB7 := Lib.hid hA.low
  have HA7 := Lib.hid hA
  clear hA
  go_wp2_with fail
  go_at_call 26
  refine (growth_all L B2 n1 C2 i _ hn40 (hT2.out.below (bthen (bthen (bthen (bthen (HF3.out.low) (HB4.out)) (HB5.out)) (HB6.out)) (HB7.out))) (HFull.out.below (bthen (bthen (bthen (HB4.out) (HB5.out)) (HB6.out)) (HB7.out)))).mono ?_
  rw [HM2.out]
  rintro e w8 ⟨D8, E8, rfl, hA⟩
  have HB8 := Lib.hid hA.low
  have HA8 := Lib.hid hA
  clear hA
  go_wp2_with fail
  go_at_call 27
  refine (rgrowth_all L B1 n1 C1 i _ hn40 (hT2.out.below (bthen (bthen (bthen (bthen (bthen (HF3.out.low) (HB4.out)) (HB5.out)) (HB6.out)) (HB7.out)) (HB8.out))) (HL1.out.sums.below (bthen (bthen (bthen (bthen (bthen (HF3.out.low) (HB4.out)) (HB5.out)) (HB6.out)) (HB7.out)) (HB8.out)))).mono ?_
  rw [HM2.out]
  rintro e w9 ⟨D9, E9, rfl, hA⟩
  have HB9 := Lib.hid hA.low
  have HA9 := Lib.hid hA
  clear hA
  dsimp only
  have hl4_9 := (Lies.of_acc HA4.out HE1.out).below (bthen (bthen (bthen (bthen (HB5.out) (HB6.out)) (HB7.out)) (HB8.out)) (HB9.out))
  have hl5_9 := (Lies.of_acc HA5.out HE1.out).below (bthen (bthen (bthen (HB6.out) (HB7.out)) (HB8.out)) (HB9.out))
  have hl6_9 := (Lies.of_acc HA6.out HE1.out).below (bthen (bthen (HB7.out) (HB8.out)) (HB9.out))
  have hl7_9 := (Lies.of_acc HA7.out HE2.out).below (bthen (HB8.out) (HB9.out))
  have hl8_9 := (Lies.of_acc HA8.out HE2.out).below (HB9.out)
  have hl9_9 := (Lies.of_acc HA9.out HE2.out)
  have hF_9 := HF3.out.below (bthen (bthen (bthen (bthen (bthen (HB4.out) (HB5.out)) (HB6.out)) (HB7.out)) (HB8.out)) (HB9.out))
  have hFl_9 := (Lies.of_acc HF3.out (own_each L HLe.out)).below (bthen (bthen (bthen (bthen (bthen (HB4.out) (HB5.out)) (HB6.out)) (HB7.out)) (HB8.out)) (HB9.out))
  have hlf_9 := HFull.out.below (bthen (bthen (bthen (bthen (bthen (HB4.out) (HB5.out)) (HB6.out)) (HB7.out)) (HB8.out)) (HB9.out))
  have hl_9 := HL1.out.below (bthen (bthen (bthen (bthen (bthen (bthen (HF3.out.low) (HB4.out)) (HB5.out)) (HB6.out)) (HB7.out)) (HB8.out)) (HB9.out))
  have hT_9 := hT2.out.below (bthen (bthen (bthen (bthen (bthen (bthen (HF3.out.low) (HB4.out)) (HB5.out)) (HB6.out)) (HB7.out)) (HB8.out)) (HB9.out))
  have hB_9 := bthen (bthen (bthen (bthen (bthen (bthen (bthen (HB2.out) (HF3.out.low)) (HB4.out)) (HB5.out)) (HB6.out)) (HB7.out)) (HB8.out)) (HB9.out)
  have hp_9 := HA4.out.below (bthen (bthen (bthen (bthen (HB5.out) (HB6.out)) (HB7.out)) (HB8.out)) (HB9.out))
  have hx_9 := HA7.out.below (bthen (HB8.out) (HB9.out))
  have Kl4_9 := Lib.hid hl4_9
  have Kl5_9 := Lib.hid hl5_9
  have Kl6_9 := Lib.hid hl6_9
  have Kl7_9 := Lib.hid hl7_9
  have Kl8_9 := Lib.hid hl8_9
  have Kl9_9 := Lib.hid hl9_9
  have KF_9 := Lib.hid hF_9
  have KFl_9 := Lib.hid hFl_9
  have Klf_9 := Lib.hid hlf_9
  have Kl_9 := Lib.hid hl_9
  have KT_9 := Lib.hid hT_9
  have KB_9 := Lib.hid hB_9
  have Kp_9 := Lib.hid hp_9
  have Kx_9 := Lib.hid hx_9
  have hs34 : w3.heap.size ≤ w4.heap.size := HB4.out.size
  have hs45 : w4.heap.size ≤ w5.heap.size := HB5.out.size
  have hs56 : w5.heap.size ≤ w6.heap.size := HB6.out.size
  have hs67 : w6.heap.size ≤ w7.heap.size := HB7.out.size
  have hs78 : w7.heap.size ≤ w8.heap.size := HB8.out.size
  have hs89 : w8.heap.size ≤ w9.heap.size := HB9.out.size
  have HSZ := Lib.hid (And.intro (Nat.le_refl 0) (And.intro hs34 (And.intro hs45 (And.intro hs56 (And.intro hs67 (And.intro hs78 hs89))))))
  have HS0 := Lib.hid (And.intro HB2.out.size HF3.out.low.size)
  clear hl4_9 hl5_9 hl6_9 hl7_9 hl8_9 hl9_9 hF_9 hFl_9 hlf_9 hl_9 hT_9 hB_9 hp_9 hx_9 hs34 hs45 hs56 hs67 hs78 hs89
  clear HB4 HA4 HB5 HA5 HB6 HA6 HB7 HA7 HB8 HA8 HB9 HA9 HB2 HM1 HM2 HFull hT2
  go_wp2_with fail
  go_at_call 13
  refine (num_any k1 _).mono ?_
  rintro e w0 ⟨rfl, rfl⟩
  go_wp2_with fail
  go_at_call 13
  refine (num_any k1 _).mono ?_
  rintro e w0 ⟨rfl, rfl⟩
  go_wp2_with fail
  go_at_call 13
  refine (num_any k2 _).mono ?_
  rintro e w0 ⟨rfl, rfl⟩
  go_wp2_with fail
  go_at_call 13
  refine (num_any k2 _).mono ?_
  rintro e w0 ⟨rfl, rfl⟩
  go_wp2_with fail
  go_at_call 28
  refine (sums_eq M1 _ _ M1.length _ _ _ (Kl4_9.out.sums.below (Below.refl _ _)) (Kl6_9.out.sums.below (Below.refl _ _)) (by omega)).mono ?_
  rintro e w10 ⟨rfl, hB⟩
  have HB10 := Lib.hid hB
  clear hB
  go_wp2_with fail
  go_at_call 28
  refine (sums_eq M1 _ _ M1.length _ _ _ (Kl5_9.out.sums.below (HB10.out)) (Kl6_9.out.sums.below (HB10.out)) (by omega)).mono ?_
  rintro e w11 ⟨rfl, hB⟩
  have HB11 := Lib.hid hB
  clear hB
  go_wp2_with fail
  go_at_call 28
  refine (sums_eq M2 _ _ M2.length _ _ _ (Kl7_9.out.sums.below (bthen (HB10.out) (HB11.out))) (Kl9_9.out.sums.below (bthen (HB10.out) (HB11.out))) (by omega)).mono ?_
  rintro e w12 ⟨rfl, hB⟩
  have HB12 := Lib.hid hB
  clear hB
  go_wp2_with fail
  go_at_call 28
  refine (sums_eq M2 _ _ M2.length _ _ _ (Kl8_9.out.sums.below (bthen (bthen (HB10.out) (HB11.out)) (HB12.out))) (Kl9_9.out.sums.below (bthen (bthen (HB10.out) (HB11.out)) (HB12.out))) (by omega)).mono ?_
  rintro e w13 ⟨rfl, hB⟩
  have HB13 := Lib.hid hB
  clear hB
  go_wp2_with fail
  go_at_call 23
  refine (kept_any L B2 B1 n1 C2 C1 _ ((KF_9.out.below (bthen (bthen (bthen (HB10.out) (HB11.out)) (HB12.out)) (HB13.out))).sums (own_each L HLe.out)) (Kl_9.out.sums.below (bthen (bthen (bthen (HB10.out) (HB11.out)) (HB12.out)) (HB13.out))) hn40).mono ?_
  rintro e w14 ⟨rfl, hB⟩
  have HB14 := Lib.hid hB
  clear hB
  go_wp2_with fail
  go_at_call 29
  refine (spoil_any M1 _ _ _ D4 M1.length E4 HE1.out hl1 (Kp_9.out.below (bthen (bthen (bthen (bthen (HB10.out) (HB11.out)) (HB12.out)) (HB13.out)) (HB14.out)))).mono ?_
  rintro e w15 ⟨rfl, hG⟩
  have HG15 := Lib.hid hG
  clear hG
  go_wp2_with fail
  go_at_call 29
  refine (spoil_any M2 w14 w15 0 D7 M2.length E7 HE2.out hl2 (((Kx_9.out.below (bthen (bthen (bthen (bthen (HB10.out) (HB11.out)) (HB12.out)) (HB13.out)) (HB14.out))).here).apart HG15.out Kl7_9.out.where_ Kl4_9.out.row (by have := HSZ.out; have := HS0.out; omega))).mono ?_
  rintro e w16 ⟨rfl, hG⟩
  have HG16 := Lib.hid hG
  clear hG
  have J5 := Lib.hid ((((Kl5_9.out).below (bthen (bthen (bthen (bthen (HB10.out) (HB11.out)) (HB12.out)) (HB13.out)) (HB14.out))).other HG15.out Kl4_9.out.row (by have := HSZ.out; have := HS0.out; omega)).other HG16.out Kl7_9.out.row (by have := HSZ.out; have := HS0.out; omega))
  have J6 := Lib.hid ((((Kl6_9.out).below (bthen (bthen (bthen (bthen (HB10.out) (HB11.out)) (HB12.out)) (HB13.out)) (HB14.out))).other HG15.out Kl4_9.out.row (by have := HSZ.out; have := HS0.out; omega)).other HG16.out Kl7_9.out.row (by have := HSZ.out; have := HS0.out; omega))
  have J8 := Lib.hid ((((Kl8_9.out).below (bthen (bthen (bthen (bthen (HB10.out) (HB11.out)) (HB12.out)) (HB13.out)) (HB14.out))).other HG15.out Kl4_9.out.row (by have := HSZ.out; have := HS0.out; omega)).other HG16.out Kl7_9.out.row (by have := HSZ.out; have := HS0.out; omega))
  have J9 := Lib.hid ((((Kl9_9.out).below (bthen (bthen (bthen (bthen (HB10.out) (HB11.out)) (HB12.out)) (HB13.out)) (HB14.out))).other HG15.out Kl4_9.out.row (by have := HSZ.out; have := HS0.out; omega)).other HG16.out Kl7_9.out.row (by have := HSZ.out; have := HS0.out; omega))
  have JF := Lib.hid ((((KFl_9.out).below (bthen (bthen (bthen (bthen (HB10.out) (HB11.out)) (HB12.out)) (HB13.out)) (HB14.out))).other HG15.out Kl4_9.out.row (by have := HSZ.out; have := HS0.out; omega)).other HG16.out Kl7_9.out.row (by have := HSZ.out; have := HS0.out; omega))
  have JL := Lib.hid ((((Kl_9.out).below (bthen (bthen (bthen (bthen (HB10.out) (HB11.out)) (HB12.out)) (HB13.out)) (HB14.out))).other HG15.out Kl4_9.out.row (by have := HSZ.out; have := HS0.out; omega)).other HG16.out Kl7_9.out.row (by have := HSZ.out; have := HS0.out; omega))
  have hB16 := below_row (below_row (bthen KB_9.out (bthen (bthen (bthen (bthen (HB10.out) (HB11.out)) (HB12.out)) (HB13.out)) (HB14.out))) HG15.out Kl4_9.out.row (by have := HSZ.out; have := HS0.out; omega)) HG16.out Kl7_9.out.row (by have := HSZ.out; have := HS0.out; omega)
  have JB := Lib.hid hB16
  clear hB16 HG15 HG16 Kl4_9 Kl5_9 Kl6_9 Kl7_9 Kl8_9 Kl9_9 KF_9 KFl_9 Kl_9 Klf_9 Kp_9 Kx_9 KT_9 KB_9 HB10 HB11 HB12 HB13 HB14
  go_wp2_with fail
  go_at_call 28
  refine (sums_eq M1 _ _ M1.length _ _ _ (J5.out.sums.below (Below.refl _ _)) (J6.out.sums.below (Below.refl _ _)) (by omega)).mono ?_
  rintro e w17 ⟨rfl, hB⟩
  have HB17 := Lib.hid hB
  clear hB
  go_wp2_with fail
  go_at_call 28
  refine (sums_eq M2 _ _ M2.length _ _ _ (J8.out.sums.below (HB17.out)) (J9.out.sums.below (HB17.out)) (by omega)).mono ?_
  rintro e w18 ⟨rfl, hB⟩
  have HB18 := Lib.hid hB
  clear hB
  go_wp2_with fail
  go_at_call 23
  refine (kept_any L B2 B1 n1 C2 C1 _ (JF.out.sums.below (bthen (HB17.out) (HB18.out))) (JL.out.sums.below (bthen (HB17.out) (HB18.out))) hn40).mono ?_
  rintro e w19 ⟨rfl, hB⟩
  have HB19 := Lib.hid hB
  clear hB
  go_wp2_with fail
  go_at_call 14
  refine (live_any _ (hT.below (bthen JB.out (bthen (bthen (HB17.out) (HB18.out)) (HB19.out))))).mono ?_
  rintro e w20 ⟨rfl, hB⟩
  have HB20 := Lib.hid hB
  clear hB
  go_wp2
  go_ret
  exact ⟨rfl, bthen JB.out (bthen (bthen (bthen (HB17.out) (HB18.out)) (HB19.out)) (HB20.out))⟩
end Go.Proofs.YtpdhgijeanbmcaaDoor

/- CpCard -/
namespace Go.Proofs.YtpdhgijeanbmcaaDoor.chainPaths
open Go.ChangeShapes Go.WideShapes Go.ChangeAt Go.RowKit

theorem contract (H : Type) (enc : TypeId × Value → H) (W : World) (base : Nat) (args : Array Value) (ds gs : List (DataW H)) (before : List MemPlace)
    (hval : ∀ (j : Nat) t v, Tryd.f6.params[j]? = some t → args[j]? = some v → Value.okWide Tryd.prog W .any base t v)
    (hW : DataW.Whole enc Tryd.prog Tryd.f6.params.toList Rows.chainPathsSpec.vars false W args.toList ds gs before) (hL : laidMetH Tryd.prog laidL W) (hk : Rows.uptoSmall H (ds ++ gs) = true) :
    Calls Tryd.prog 6 args W fun e W' => ∃ v, e = .returned v ∧ Rows.chainPathsSpec.post enc Tryd.prog Tryd.f6 false true false false W args v W' := by
  have hW' := hW
  obtain ⟨p, q, hA0, hV, rfl, hfz, hnd⟩ := hW
  have hA : DataW.TrodAll enc Tryd.prog W 0 (fun _ => true) true Tryd.f6.params.toList args.toList ds p := hA0
  rw [Tryd.params6] at hA hval
  obtain ⟨v0, vs0, d0, ds0, p0, q0, hargs0, rfl, rfl, h0, r0⟩ := trodAll_cons hA
  obtain ⟨v1, vs1, d1, ds1, p1, q1, hargs1, rfl, rfl, h1, r1⟩ := trodAll_cons r0
  obtain ⟨rfl, rfl, rfl⟩ := trodAll_nil r1
  obtain rfl : args = #[v0, v1] := by cases args; simp_all
  obtain ⟨rfl, rfl⟩ := trodVars_none hV
  obtain ⟨a0, n0, c0, ts0, rfl, S0, hnc0, hts0⟩ := open_strs (hval 0 28 v0 rfl rfl) h0
  obtain ⟨i1, rfl, hi1⟩ := open_i64 (hval 1 3 v1 rfl rfl)
  have hbulk : Rows.uptoBulk d0 + Rows.uptoBulk d1 ≤ 1048576 := by
    have h := of_decide_eq_true hk
    simp only [List.append_nil, Rows.uptoBulkAll] at h
    omega
  refine (cp_law ts0 a0 n0 c0 i1 W (tabs_of_laid hL) S0 hnc0 (fun t ht => by have := hts0 t ht; omega)).mono fun e W' ⟨he, hB⟩ => ?_
  subst he
  exact ⟨_, rfl, post_law rfl hW' rfl rfl rfl (by kernel_rfl) hB (fun t ht => by
    have h : t ∈ [28, 3] := ht
    simp only [List.mem_cons, List.not_mem_nil, or_false] at h
    rcases h with rfl | rfl <;> exact ⟨by kernel_rfl, of_decide_eq_true (by kernel_rfl)⟩)⟩

theorem reads (os : Os) {H : Type} (enc : TypeId × Value → H) : ∃ places, DataW.whole enc Tryd.prog ((laidWorld os).forCall (fun _ _ => 0) ⟨#[], (#[.slice none 0 0, .int .i64 0] : Array Value), []⟩).memory Tryd.f6.params.toList Rows.chainPathsSpec.vars false (#[.slice none 0 0, .int .i64 0] : Array Value).toList 8 = some ([.nil, .lit (.int .i64 0)], [], places) :=
  ⟨[], by kernel_rfl⟩

set_option maxRecDepth 100000 in
theorem liftedUpto (os : Os) (started : os.Started) (H : Type) (enc : TypeId × Value → H) (F : Stop.Interp) :
    ReturnsInHanded {} Tryd.checked os 6 .any ((Rows.OpenSpec.upto Rows.chainPathsSpec).preRow enc Tryd.prog Tryd.f6 Rows.chainPathsUptoRow.domain false Rows.chainPathsUptoRow.laid) (((Rows.OpenSpec.upto Rows.chainPathsSpec).at F).post enc Tryd.prog Tryd.f6 false true false false) := by
  obtain ⟨places, hx⟩ := reads os enc
  refine returnsInHanded_of_row (C := Tryd.checked) (s := Rows.OpenSpec.upto Rows.chainPathsSpec) own started (by kernel_rfl) Tryd.func6
    (witness_row_at (enc := enc) (C := Tryd.checked) false (laidWorld os) #[.slice none 0 0, .int .i64 0] rfl (by kernel_rfl) (by kernel_rfl) (by kernel_rfl)
      (OpenSpec.preRow_of_cond 8 hx (by kernel_rfl) (fun k hk => by cases hk; kernel_rfl) (by kernel_rfl) (laid_met os _))) ?_
  intro W base args ds gs before hval hW _ hcond _ hL _ _
  exact contract H enc W base args ds gs before hval hW hL (hcond _ rfl)

theorem saidUpto : Rows.ChainPathsUptoSaid :=
  OpenClaim.holds_of_cond 6 Tryd.f6 rfl rfl rfl rfl rfl rfl rfl ⟨rfl, rfl, rfl, rfl, rfl⟩ rfl rfl rfl rfl rfl (by kernel_rfl) Tryd.func6 (by kernel_rfl)
    (of_decide_eq_true (by kernel_rfl)) (by unfold Func.isWrapper; first | (rw [if_pos (by decide +kernel)]; kernel_rfl) | (rw [if_neg (by decide +kernel)]; exact ⟨rfl, rfl⟩))
    (fun os started H enc _ F => by rw [OpenClaim.pre_eq_preRow]; exact liftedUpto os started H enc F)

theorem plain (f : FuncId) (fn : Func) (hf : Tryd.pinned.checked.prog.funcNamed "wicket/wicketlaw25.ChainPaths" = some f) (hfn : Tryd.pinned.checked.prog.funcs[f]? = some fn) :
    false = Tryd.pinned.checked.prog.looks [] ∧ ∀ (j : Nat) t, fn.params[j]? = some t → Tryd.pinned.checked.prog.wantsStandIn t = false := by
  obtain rfl : f = 6 := Option.some.inj ((show Tryd.prog.funcNamed "wicket/wicketlaw25.ChainPaths" = some 6 by kernel_rfl).symm.trans hf) |>.symm
  obtain rfl : fn = Tryd.f6 := (Option.some.inj (Tryd.func6.symm.trans hfn)).symm
  refine ⟨by kernel_rfl, fun j t ht => ?_⟩
  rw [Tryd.params6] at ht
  have hm := Array.mem_of_getElem? ht
  simp only [List.mem_toArray, List.mem_cons, List.not_mem_nil, or_false] at hm
  rcases hm with rfl | rfl
  · exact (show Tryd.prog.wantsStandIn 28 = false by kernel_rfl)
  · exact (show Tryd.prog.wantsStandIn 3 = false by kernel_rfl)

/-- THE CARD, second form. -/
theorem cardUpto : Rows.ChainPathsUptoCardSaid :=
  Claim7.holds_tied_plain_at .later [] _ _ _ _ saidUpto (fun _ h => by cases h) (by kernel_rfl) (fun _ h => by cases h) chainPathsUpto_row_tie rfl ⟨rfl, rfl⟩ (by kernel_rfl) rfl plain (by kernel_rfl)
end Go.Proofs.YtpdhgijeanbmcaaDoor.chainPaths
