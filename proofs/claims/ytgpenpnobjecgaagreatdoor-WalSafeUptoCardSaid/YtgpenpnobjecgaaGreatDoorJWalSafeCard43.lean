/- wicketlaw06: fits. Printed by gen_fits.py. -/
import Derived.BigQuiet
import Derived.Test.YtgpenpnobjecgaaGreatDoorJWalSafeCard42
/- Fits -/
namespace Go.Proofs.YtgpenpnobjecgaaGreatDoor
set_option maxRecDepth 100000
open Go.RowKit Dk

set_option maxRecDepth 100000 in
set_option maxHeartbeats 4000000 in
theorem l6fits_any {w w1 : World} {g dg : Nat} {d : DiskS} {L : LogS} {s : Bs} {rs : List Bs} {b : BookS} {sA rA nA : Option Addr} {sC rC nC : Nat} {G : Nat → Prop} (h : Run w w1 g dg d L) (hs : L.state = s) (hr : L.records = rs)
    (X : Txt w1 sA b.state.length sC b.state) (Y : RowsAt w1 rA b.records.length rC b.records G) (N : Txt w1 nA b.new.length nC b.new) (hf : FitsB b s rs) :
    Calls Tryz.prog 44 #[bookV sA b.state.length sC rA b.records.length rC b.safe nA b.new.length nC b.maybe, ptrV g] w1 fun e w' => e = .returned (.bool true) ∧ RowKit.Below w1.heap.size w1 w' := by
  obtain ⟨st, recs, sf, nw, mb⟩ := b
  simp only at X Y N
  obtain ⟨w2, hw2⟩ : ∃ w2, w2 = w1.alloc (.cells #[.slice sA st.length sC, .slice rA recs.length rC, .int .i64 sf, .slice nA nw.length nC, .bool mb] 89) := ⟨_, rfl⟩
  have hb0 : RowKit.Below w1.heap.size w1 w2 := by rw [hw2]; exact low1 _ _
  have hblk : w2.heap[w1.heap.size]? = some (.cells #[.slice sA st.length sC, .slice rA recs.length rC, .int .i64 sf, .slice nA nw.length nC, .bool mb] 89 (0, 0)) := by rw [hw2]; exact blk1 _ _
  have H2 := Lib.hid (h.below hb0)
  have HK2 := Lib.hid hblk
  have HX2 := Lib.hid (X.below hb0)
  have HY2 := Lib.hid (Y.below hb0)
  have HN2 := Lib.hid (N.below hb0)
  have HS0 := Lib.hid hs
  have HR0 := Lib.hid hr
  have HL2 := Lib.hid hb0
  have HFB := Lib.hid hf
  have hrc := run_recordsS H2.out HR0.out
  unfold ptrV at hrc
  have HRC := Lib.hid hrc
  clear h hs hr X Y N hf hb0 hblk hrc
  unfold ptrV bookV
  go_enter Tryz.func44, Tryz.ntmps44
  go_wp2_with fail
  rw [← hw2]
  clear hw2
  go_at_call 21
  refine HRC.out.mono ?_
  rintro e w3 ⟨A, C, rfl, ⟨blk, qs, hS⟩, hb3⟩
  have HK3 := Lib.hid (bblk hb3 HK2.out)
  have HL := Lib.hid (bthen HL2.out hb3)
  have H3 := Lib.hid (H2.out.below hb3)
  have HS := Lib.hid (HX2.out.below hb3)
  have HN := Lib.hid (HN2.out.below hb3)
  have hrl : rs.length ≤ 4611686018427387904 := by
    have h := H3.out.lok
    have h1 := h.many
    have h2 := h.size
    rw [HR0.out] at h1
    omega
  have HROW := Lib.hid (show RowsAt w3 A rs.length C rs (fun b => w2.heap.size ≤ b) ∧ RowsAt w3 rA recs.length rC recs G ∧ rs.length ≤ 4611686018427387904 from ⟨hS.rows, HY2.out.below hb3, hrl⟩)
  have HST3 : Hid (∀ W, Low w3 W → Calls Tryz.prog 19 #[.pointer (some ⟨g, 0, none⟩)] W fun e w' => ∃ k C, RetOwn W s e w' k C) := Lib.hid fun W hW => run_stateS (H3.out.below hW) HS0.out
  clear hS hb3 hrl HRC
  have HZ0 : ∀ x, Hid (((rs.length : Int) == 0) = x) → True := fun _ _ => trivial
  clear HZ0
  by_cases hc : mb = true ∧ rs = [] ∧ s = nw
  · obtain ⟨rfl, hr0, hs0⟩ := hc
    have HZ : Hid (((rs.length : Int) == 0) = true) := Lib.hid (by rw [hr0]; rfl)
    have HE : Hid ((s == nw) = true) := Lib.hid (by rw [hs0]; simp)
    have HST := HST3
    clear hr0 hs0
    go_wp2_with fail
    refine wp_region_reg 13 51 (Low) (by kernel_rfl) (by kernel_rfl) (by kernel_rfl) (by kernel_rfl) (by kernel_rfl) (Low.refl) (Low.trans) [.is (.pointer (some ⟨w1.heap.size, 4, none⟩) : Value), .is (.bool true : Value), .is (.bool true : Value), .is (.slice A rs.length C : Value), .is (.int .i64 rs.length : Value), .is (.bool true : Value), .is (.bool true : Value), .is (.bool true : Value), .is (.pointer (some ⟨g, 0, none⟩) : Value), yTxt s, .is (.pointer (some ⟨w1.heap.size, 3, none⟩) : Value), .is (.slice nA nw.length nC : Value), .is (.bool true : Value)] rfl (fun vs => ?_) (fun vs wr hR h => ?_)
    · refine RegHead.cons (fun wr hR h => ?_) ?_
      · exact relAt.pure (Low.refl) (by kernel_rfl) (by kernel_rfl)
      refine RegHead.cons (fun wr hR h => ?_) ?_
      · exact relAt.pureS (Low.refl) (by kernel_rfl) (by kernel_rfl) (run_load_bool (cell_block (j := 4) (bblk (bthen (Low.drew _) hR) HK3.out) rfl))
      refine RegHead.cons (fun wr hR h => ?_) ?_
      · exact relAt.pure (Low.refl) (by kernel_rfl) (by kernel_rfl)
      refine RegHead.cons (fun wr hR h => ?_) ?_
      · exact relAt.pure (Low.refl) (by kernel_rfl) (by kernel_rfl)
      refine RegHead.cons (fun wr hR h => ?_) ?_
      · exact relAt.pure (Low.refl) (by kernel_rfl) (by kernel_rfl)
      refine RegHead.cons (fun wr hR h => ?_) ?_
      · exact relAt.pureS (Low.refl) (by kernel_rfl) (by kernel_rfl) (run_len_zero_of wr 3 (.tmp 12) (.const (.int .i64 0)) HZ.out)
      refine RegHead.cons (fun wr hR h => ?_) ?_
      · exact relAt.pure (Low.refl) (by kernel_rfl) (by kernel_rfl)
      refine RegHead.cons (fun wr hR h => ?_) ?_
      · exact relAt.pure (Low.refl) (by kernel_rfl) (by kernel_rfl)
      refine RegHead.cons (fun wr hR h => ?_) ?_
      · exact relAt.pure (Low.refl) (by kernel_rfl) (by kernel_rfl)
      refine RegHead.cons (fun wr hR h => ?_) ?_
      · refine relAt.call (by kernel_rfl) (by kernel_rfl) ((HST.out wr (bthen (Low.drew _) hR)).mono ?_)
        rintro e w9 ⟨k9, C9, ⟨rfl, hown9, _, hlow9⟩⟩
        exact ⟨_, rfl, hlow9, _, C9, rfl, hown9.txt⟩
      refine RegHead.cons (fun wr hR h => ?_) ?_
      · exact relAt.pure (Low.refl) (by kernel_rfl) (by kernel_rfl)
      refine RegHead.cons (fun wr hR h => ?_) ?_
      · exact relAt.pureS (Low.refl) (by kernel_rfl) (by kernel_rfl) (run_load_bytes (cell_block (j := 3) (bblk (bthen (Low.drew _) hR) HK3.out) rfl))
      refine RegHead.cons (fun wr hR h => ?_) ?_
      · obtain ⟨B9, C9, hv9, hT9⟩ : ∃ B C, vs 9 = .slice B s.length C ∧ Txt wr B s.length C s := allOf_iff.1 h 9 (by decide)
        refine relAt.call (f := 18) (args := #[vs 9, .slice nA nw.length nC]) (by kernel_rfl) (by kernel_rfl) ?_
        rw [hv9]
        refine (l6same_any s nw B9 _ C9 _ wr hT9 (HN.out.below (bthen (Low.drew _) hR))).mono ?_
        rintro e w9 ⟨rfl, rfl⟩
        exact ⟨_, rfl, Low.refl _, by rw [HE.out]; rfl⟩
      exact trivial
    · have HL9 := Lib.hid (bthen HL.out (bthen (Low.drew _) hR))
      clear h hR
      refine wp_frame (new := [(.pointer (some ⟨w1.heap.size, 4, none⟩)), (.bool true), (.bool true), (.slice A rs.length C), (.int .i64 rs.length), (.bool true), (.bool true), (.bool true), (.pointer (some ⟨g, 0, none⟩)), vs 9, (.pointer (some ⟨w1.heap.size, 3, none⟩)), (.slice nA nw.length nC), (.bool true)]) 8 21 (by kernel_rfl) ?_
      simp only [List.take, List.drop, List.cons_append, List.nil_append]
      go_wp2
      go_ret
      exact ⟨rfl, HL9.out⟩
  · have hf2 : sf ≤ rs.length ∧ rs.length ≤ recs.length ∧ s = st ∧ rs = recs.take rs.length := HFB.out.resolve_left hc
    have HF := Lib.hid hf2
    have HR3 : Hid (RowsAt w3 rA recs.length rC recs G ∧ RowsAt w3 A rs.length C rs (fun b => w2.heap.size ≤ b) ∧ RowsAt w3 rA rs.length rC rs G ∧ rs.length ≤ 4611686018427387904) := Lib.hid ⟨HROW.out.2.1, HROW.out.1, by rw [hf2.2.2.2, List.length_take, Nat.min_eq_left hf2.2.1]; exact HROW.out.2.1.part hf2.2.1, HROW.out.2.2⟩
    cases mb
    · clear hc hf2
      go_wp2_with fail
      refine wp_region_reg 13 51 (Low) (by kernel_rfl) (by kernel_rfl) (by kernel_rfl) (by kernel_rfl) (by kernel_rfl) (Low.refl) (Low.trans) [.is (.pointer (some ⟨w1.heap.size, 4, none⟩) : Value), .is (.bool false : Value), .is (.bool false : Value), .is undef, .is undef, .is undef, .is (.bool false : Value), .is (.bool false : Value), .is undef, .is undef, .is undef, .is undef, .is undef] rfl (fun vs => ?_) (fun vs wr hR h => ?_)
      · refine RegHead.cons (fun wr hR h => ?_) ?_
        · exact relAt.pure (Low.refl) (by kernel_rfl) (by kernel_rfl)
        refine RegHead.cons (fun wr hR h => ?_) ?_
        · exact relAt.pureS (Low.refl) (by kernel_rfl) (by kernel_rfl) (run_load_bool (cell_block (j := 4) (bblk (bthen (Low.drew _) hR) HK3.out) rfl))
        refine RegHead.cons (fun wr hR h => ?_) ?_
        · exact relAt.pure (Low.refl) (by kernel_rfl) (by kernel_rfl)
        refine RegHead.cons (fun wr hR h => ?_) ?_
        · exact relAt.skip (by kernel_rfl)
        refine RegHead.cons (fun wr hR h => ?_) ?_
        · exact relAt.skip (by kernel_rfl)
        refine RegHead.cons (fun wr hR h => ?_) ?_
        · exact relAt.skip (by kernel_rfl)
        refine RegHead.cons (fun wr hR h => ?_) ?_
        · exact relAt.pure (Low.refl) (by kernel_rfl) (by kernel_rfl)
        refine RegHead.cons (fun wr hR h => ?_) ?_
        · exact relAt.pure (Low.refl) (by kernel_rfl) (by kernel_rfl)
        refine RegHead.cons (fun wr hR h => ?_) ?_
        · exact relAt.skip (by kernel_rfl)
        refine RegHead.cons (fun wr hR h => ?_) ?_
        · exact relAt.skip (by kernel_rfl)
        refine RegHead.cons (fun wr hR h => ?_) ?_
        · exact relAt.skip (by kernel_rfl)
        refine RegHead.cons (fun wr hR h => ?_) ?_
        · exact relAt.skip (by kernel_rfl)
        refine RegHead.cons (fun wr hR h => ?_) ?_
        · exact relAt.skip (by kernel_rfl)
        exact trivial
      · rename World => w4
        have HL4 := Lib.hid (bthen (Low.drew _) hR)
        clear h hR
        refine wp_frame (new := [(.pointer (some ⟨w1.heap.size, 4, none⟩)), (.bool false), (.bool false), undef, undef, undef, (.bool false), (.bool false), undef, undef, undef, undef, undef]) 8 21 (by kernel_rfl) ?_
        simp only [List.take, List.drop, List.cons_append, List.nil_append]
        have HE : Hid ((s == st) = true) := Lib.hid (by rw [HF.out.2.2.1]; simp)
        have HST := Lib.hid (fun (W : World) (hW : Low w4 W) => HST3.out W (bthen HL4.out hW))
        have HK3 := Lib.hid (bblk HL4.out HK3.out)
        have HR3 := Lib.hid (show _ ∧ _ ∧ _ ∧ _ from ⟨HR3.out.1, HR3.out.2.1.below HL4.out, HR3.out.2.2.1.below HL4.out, HR3.out.2.2.2⟩)
        have HS := Lib.hid (HS.out.below HL4.out)
        have HL := Lib.hid (bthen HL.out HL4.out)
        go_wp2_with fail
        refine wp_region_reg 29 51 (Low) (by kernel_rfl) (by kernel_rfl) (by kernel_rfl) (by kernel_rfl) (by kernel_rfl) (Low.refl) (Low.trans) [.is (.slice A rs.length C : Value), .is (.int .i64 rs.length : Value), .is (.pointer (some ⟨w1.heap.size, 2, none⟩) : Value), .is (.int .i64 sf : Value), .is (.bool true : Value), .is (.bool true : Value), .is (.slice A rs.length C : Value), .is (.int .i64 rs.length : Value), .is (.pointer (some ⟨w1.heap.size, 1, none⟩) : Value), .is (.slice rA recs.length rC : Value), .is (.int .i64 recs.length : Value), .is (.bool true : Value), .is (.bool true : Value), .is (.bool true : Value), .is (.pointer (some ⟨g, 0, none⟩) : Value), yTxt s, .is (.pointer (some ⟨w1.heap.size, 0, none⟩) : Value), .is (.slice sA st.length sC : Value), .is (.bool true : Value), .is (.bool true : Value), .is (.bool true : Value), .is (.slice A rs.length C : Value), .is (.pointer (some ⟨w1.heap.size, 1, none⟩) : Value), .is (.slice rA recs.length rC : Value), .is (.slice A rs.length C : Value), .is (.int .i64 rs.length : Value), .is (.slice rA rs.length rC : Value), .is (.bool true : Value), .is (.bool true : Value)] rfl (fun vs => ?_) (fun vs wr hR h => ?_)
        · refine RegHead.cons (fun wr hR h => ?_) ?_
          · exact relAt.pure (Low.refl) (by kernel_rfl) (by kernel_rfl)
          refine RegHead.cons (fun wr hR h => ?_) ?_
          · exact relAt.pure (Low.refl) (by kernel_rfl) (by kernel_rfl)
          refine RegHead.cons (fun wr hR h => ?_) ?_
          · exact relAt.pure (Low.refl) (by kernel_rfl) (by kernel_rfl)
          refine RegHead.cons (fun wr hR h => ?_) ?_
          · exact relAt.pureS (Low.refl) (by kernel_rfl) (by kernel_rfl) (run_load_n (cell_block (j := 2) (bblk (bthen (Low.drew _) hR) HK3.out) rfl))
          refine RegHead.cons (fun wr hR h => ?_) ?_
          · exact relAt.pureS (Low.refl) (by kernel_rfl) (by kernel_rfl) (run_geq_int wr 3 (.tmp 23) (.tmp 25) (a := rs.length) (b := sf) (by have := HF.out.1; omega))
          refine RegHead.cons (fun wr hR h => ?_) ?_
          · exact relAt.pure (Low.refl) (by kernel_rfl) (by kernel_rfl)
          refine RegHead.cons (fun wr hR h => ?_) ?_
          · exact relAt.pure (Low.refl) (by kernel_rfl) (by kernel_rfl)
          refine RegHead.cons (fun wr hR h => ?_) ?_
          · exact relAt.pure (Low.refl) (by kernel_rfl) (by kernel_rfl)
          refine RegHead.cons (fun wr hR h => ?_) ?_
          · exact relAt.pure (Low.refl) (by kernel_rfl) (by kernel_rfl)
          refine RegHead.cons (fun wr hR h => ?_) ?_
          · exact relAt.pureS (Low.refl) (by kernel_rfl) (by kernel_rfl) (run_load_byteses (cell_block (j := 1) (bblk (bthen (Low.drew _) hR) HK3.out) rfl))
          refine RegHead.cons (fun wr hR h => ?_) ?_
          · exact relAt.pure (Low.refl) (by kernel_rfl) (by kernel_rfl)
          refine RegHead.cons (fun wr hR h => ?_) ?_
          · exact relAt.pureS (Low.refl) (by kernel_rfl) (by kernel_rfl) (run_leq_int wr 3 (.tmp 29) (.tmp 32) (a := rs.length) (b := recs.length) (by have := HF.out.2.1; omega))
          refine RegHead.cons (fun wr hR h => ?_) ?_
          · exact relAt.pure (Low.refl) (by kernel_rfl) (by kernel_rfl)
          refine RegHead.cons (fun wr hR h => ?_) ?_
          · exact relAt.pure (Low.refl) (by kernel_rfl) (by kernel_rfl)
          refine RegHead.cons (fun wr hR h => ?_) ?_
          · exact relAt.pure (Low.refl) (by kernel_rfl) (by kernel_rfl)
          refine RegHead.cons (fun wr hR h => ?_) ?_
          · refine relAt.call (by kernel_rfl) (by kernel_rfl) ((HST.out wr (bthen (Low.drew _) hR)).mono ?_)
            rintro e w9 ⟨k9, C9, ⟨rfl, hown9, _, hlow9⟩⟩
            exact ⟨_, rfl, hlow9, _, C9, rfl, hown9.txt⟩
          refine RegHead.cons (fun wr hR h => ?_) ?_
          · exact relAt.pure (Low.refl) (by kernel_rfl) (by kernel_rfl)
          refine RegHead.cons (fun wr hR h => ?_) ?_
          · exact relAt.pureS (Low.refl) (by kernel_rfl) (by kernel_rfl) (run_load_bytes (cell_block (j := 0) (bblk (bthen (Low.drew _) hR) HK3.out) rfl))
          refine RegHead.cons (fun wr hR h => ?_) ?_
          · obtain ⟨B9, C9, hv9, hT9⟩ : ∃ B C, vs 15 = .slice B s.length C ∧ Txt wr B s.length C s := allOf_iff.1 h 15 (by decide)
            refine relAt.call (f := 18) (args := #[vs 15, .slice sA st.length sC]) (by kernel_rfl) (by kernel_rfl) ?_
            rw [hv9]
            refine (l6same_any s st B9 _ C9 _ wr hT9 (HS.out.below (bthen (Low.drew _) hR))).mono ?_
            rintro e w9 ⟨rfl, rfl⟩
            exact ⟨_, rfl, Low.refl _, by rw [HE.out]; rfl⟩
          refine RegHead.cons (fun wr hR h => ?_) ?_
          · exact relAt.pure (Low.refl) (by kernel_rfl) (by kernel_rfl)
          refine RegHead.cons (fun wr hR h => ?_) ?_
          · exact relAt.pure (Low.refl) (by kernel_rfl) (by kernel_rfl)
          refine RegHead.cons (fun wr hR h => ?_) ?_
          · exact relAt.pure (Low.refl) (by kernel_rfl) (by kernel_rfl)
          refine RegHead.cons (fun wr hR h => ?_) ?_
          · exact relAt.pure (Low.refl) (by kernel_rfl) (by kernel_rfl)
          refine RegHead.cons (fun wr hR h => ?_) ?_
          · exact relAt.pureS (Low.refl) (by kernel_rfl) (by kernel_rfl) (run_load_byteses (cell_block (j := 1) (bblk (bthen (Low.drew _) hR) HK3.out) rfl))
          refine RegHead.cons (fun wr hR h => ?_) ?_
          · exact relAt.pure (Low.refl) (by kernel_rfl) (by kernel_rfl)
          refine RegHead.cons (fun wr hR h => ?_) ?_
          · exact relAt.pure (Low.refl) (by kernel_rfl) (by kernel_rfl)
          refine RegHead.cons (fun wr hR h => ?_) ?_
          · exact relAt.pureS (Low.refl) (by kernel_rfl) (by kernel_rfl) (run_slice_rows HR3.out.1 (by have := HF.out.2.1; omega) wr)
          refine RegHead.cons (fun wr hR h => ?_) ?_
          · refine relAt.call (by kernel_rfl) (by kernel_rfl) ((l6lists_any rs rs A rA C rC _ _ wr (HR3.out.2.1.below (bthen (Low.drew _) hR)) (HR3.out.2.2.1.below (bthen (Low.drew _) hR)) HR3.out.2.2.2).mono ?_)
            rintro e w9 ⟨rfl, hB9⟩
            exact ⟨_, rfl, hB9, by rw [show (rs == rs) = true by simp]; rfl⟩
          refine RegHead.cons (fun wr hR h => ?_) ?_
          · exact relAt.pure (Low.refl) (by kernel_rfl) (by kernel_rfl)
          exact trivial
        · rename World => w5
          have HL9 := Lib.hid (bthen HL.out (bthen (Low.drew _) hR))
          clear h hR
          refine wp_frame (new := [(.slice A rs.length C), (.int .i64 rs.length), (.pointer (some ⟨w1.heap.size, 2, none⟩)), (.int .i64 sf), (.bool true), (.bool true), (.slice A rs.length C), (.int .i64 rs.length), (.pointer (some ⟨w1.heap.size, 1, none⟩)), (.slice rA recs.length rC), (.int .i64 recs.length), (.bool true), (.bool true), (.bool true), (.pointer (some ⟨g, 0, none⟩)), vs 15, (.pointer (some ⟨w1.heap.size, 0, none⟩)), (.slice sA st.length sC), (.bool true), (.bool true), (.bool true), (.slice A rs.length C), (.pointer (some ⟨w1.heap.size, 1, none⟩)), (.slice rA recs.length rC), (.slice A rs.length C), (.int .i64 rs.length), (.slice rA rs.length rC), (.bool true), (.bool true)]) 22 51 (by kernel_rfl) ?_
          simp only [List.take, List.drop, List.cons_append, List.nil_append]
          go_wp2
          go_ret
          exact ⟨rfl, HL9.out⟩
    · by_cases hz : rs = []
      · have HZ : Hid (((rs.length : Int) == 0) = true) := Lib.hid (by rw [hz]; rfl)
        have HE : Hid ((s == nw) = false) := Lib.hid (by simpa using fun e => hc ⟨rfl, hz, e⟩)
        have HST := HST3
        clear hc hf2 hz
        go_wp2_with fail
        refine wp_region_reg 13 51 (Low) (by kernel_rfl) (by kernel_rfl) (by kernel_rfl) (by kernel_rfl) (by kernel_rfl) (Low.refl) (Low.trans) [.is (.pointer (some ⟨w1.heap.size, 4, none⟩) : Value), .is (.bool true : Value), .is (.bool true : Value), .is (.slice A rs.length C : Value), .is (.int .i64 rs.length : Value), .is (.bool true : Value), .is (.bool true : Value), .is (.bool true : Value), .is (.pointer (some ⟨g, 0, none⟩) : Value), yTxt s, .is (.pointer (some ⟨w1.heap.size, 3, none⟩) : Value), .is (.slice nA nw.length nC : Value), .is (.bool false : Value)] rfl (fun vs => ?_) (fun vs wr hR h => ?_)
        · refine RegHead.cons (fun wr hR h => ?_) ?_
          · exact relAt.pure (Low.refl) (by kernel_rfl) (by kernel_rfl)
          refine RegHead.cons (fun wr hR h => ?_) ?_
          · exact relAt.pureS (Low.refl) (by kernel_rfl) (by kernel_rfl) (run_load_bool (cell_block (j := 4) (bblk (bthen (Low.drew _) hR) HK3.out) rfl))
          refine RegHead.cons (fun wr hR h => ?_) ?_
          · exact relAt.pure (Low.refl) (by kernel_rfl) (by kernel_rfl)
          refine RegHead.cons (fun wr hR h => ?_) ?_
          · exact relAt.pure (Low.refl) (by kernel_rfl) (by kernel_rfl)
          refine RegHead.cons (fun wr hR h => ?_) ?_
          · exact relAt.pure (Low.refl) (by kernel_rfl) (by kernel_rfl)
          refine RegHead.cons (fun wr hR h => ?_) ?_
          · exact relAt.pureS (Low.refl) (by kernel_rfl) (by kernel_rfl) (run_len_zero_of wr 3 (.tmp 12) (.const (.int .i64 0)) HZ.out)
          refine RegHead.cons (fun wr hR h => ?_) ?_
          · exact relAt.pure (Low.refl) (by kernel_rfl) (by kernel_rfl)
          refine RegHead.cons (fun wr hR h => ?_) ?_
          · exact relAt.pure (Low.refl) (by kernel_rfl) (by kernel_rfl)
          refine RegHead.cons (fun wr hR h => ?_) ?_
          · exact relAt.pure (Low.refl) (by kernel_rfl) (by kernel_rfl)
          refine RegHead.cons (fun wr hR h => ?_) ?_
          · refine relAt.call (by kernel_rfl) (by kernel_rfl) ((HST.out wr (bthen (Low.drew _) hR)).mono ?_)
            rintro e w9 ⟨k9, C9, ⟨rfl, hown9, _, hlow9⟩⟩
            exact ⟨_, rfl, hlow9, _, C9, rfl, hown9.txt⟩
          refine RegHead.cons (fun wr hR h => ?_) ?_
          · exact relAt.pure (Low.refl) (by kernel_rfl) (by kernel_rfl)
          refine RegHead.cons (fun wr hR h => ?_) ?_
          · exact relAt.pureS (Low.refl) (by kernel_rfl) (by kernel_rfl) (run_load_bytes (cell_block (j := 3) (bblk (bthen (Low.drew _) hR) HK3.out) rfl))
          refine RegHead.cons (fun wr hR h => ?_) ?_
          · obtain ⟨B9, C9, hv9, hT9⟩ : ∃ B C, vs 9 = .slice B s.length C ∧ Txt wr B s.length C s := allOf_iff.1 h 9 (by decide)
            refine relAt.call (f := 18) (args := #[vs 9, .slice nA nw.length nC]) (by kernel_rfl) (by kernel_rfl) ?_
            rw [hv9]
            refine (l6same_any s nw B9 _ C9 _ wr hT9 (HN.out.below (bthen (Low.drew _) hR))).mono ?_
            rintro e w9 ⟨rfl, rfl⟩
            exact ⟨_, rfl, Low.refl _, by rw [HE.out]; rfl⟩
          exact trivial
        · rename World => w4
          have HL4 := Lib.hid (bthen (Low.drew _) hR)
          clear h hR
          refine wp_frame (new := [(.pointer (some ⟨w1.heap.size, 4, none⟩)), (.bool true), (.bool true), (.slice A rs.length C), (.int .i64 rs.length), (.bool true), (.bool true), (.bool true), (.pointer (some ⟨g, 0, none⟩)), vs 9, (.pointer (some ⟨w1.heap.size, 3, none⟩)), (.slice nA nw.length nC), (.bool false)]) 8 21 (by kernel_rfl) ?_
          simp only [List.take, List.drop, List.cons_append, List.nil_append]
          clear HE HST
          have HE : Hid ((s == st) = true) := Lib.hid (by rw [HF.out.2.2.1]; simp)
          have HST := Lib.hid (fun (W : World) (hW : Low w4 W) => HST3.out W (bthen HL4.out hW))
          have HK3 := Lib.hid (bblk HL4.out HK3.out)
          have HR3 := Lib.hid (show _ ∧ _ ∧ _ ∧ _ from ⟨HR3.out.1, HR3.out.2.1.below HL4.out, HR3.out.2.2.1.below HL4.out, HR3.out.2.2.2⟩)
          have HS := Lib.hid (HS.out.below HL4.out)
          have HL := Lib.hid (bthen HL.out HL4.out)
          go_wp2_with fail
          refine wp_region_reg 29 51 (Low) (by kernel_rfl) (by kernel_rfl) (by kernel_rfl) (by kernel_rfl) (by kernel_rfl) (Low.refl) (Low.trans) [.is (.slice A rs.length C : Value), .is (.int .i64 rs.length : Value), .is (.pointer (some ⟨w1.heap.size, 2, none⟩) : Value), .is (.int .i64 sf : Value), .is (.bool true : Value), .is (.bool true : Value), .is (.slice A rs.length C : Value), .is (.int .i64 rs.length : Value), .is (.pointer (some ⟨w1.heap.size, 1, none⟩) : Value), .is (.slice rA recs.length rC : Value), .is (.int .i64 recs.length : Value), .is (.bool true : Value), .is (.bool true : Value), .is (.bool true : Value), .is (.pointer (some ⟨g, 0, none⟩) : Value), yTxt s, .is (.pointer (some ⟨w1.heap.size, 0, none⟩) : Value), .is (.slice sA st.length sC : Value), .is (.bool true : Value), .is (.bool true : Value), .is (.bool true : Value), .is (.slice A rs.length C : Value), .is (.pointer (some ⟨w1.heap.size, 1, none⟩) : Value), .is (.slice rA recs.length rC : Value), .is (.slice A rs.length C : Value), .is (.int .i64 rs.length : Value), .is (.slice rA rs.length rC : Value), .is (.bool true : Value), .is (.bool true : Value)] rfl (fun vs => ?_) (fun vs wr hR h => ?_)
          · refine RegHead.cons (fun wr hR h => ?_) ?_
            · exact relAt.pure (Low.refl) (by kernel_rfl) (by kernel_rfl)
            refine RegHead.cons (fun wr hR h => ?_) ?_
            · exact relAt.pure (Low.refl) (by kernel_rfl) (by kernel_rfl)
            refine RegHead.cons (fun wr hR h => ?_) ?_
            · exact relAt.pure (Low.refl) (by kernel_rfl) (by kernel_rfl)
            refine RegHead.cons (fun wr hR h => ?_) ?_
            · exact relAt.pureS (Low.refl) (by kernel_rfl) (by kernel_rfl) (run_load_n (cell_block (j := 2) (bblk (bthen (Low.drew _) hR) HK3.out) rfl))
            refine RegHead.cons (fun wr hR h => ?_) ?_
            · exact relAt.pureS (Low.refl) (by kernel_rfl) (by kernel_rfl) (run_geq_int wr 3 (.tmp 23) (.tmp 25) (a := rs.length) (b := sf) (by have := HF.out.1; omega))
            refine RegHead.cons (fun wr hR h => ?_) ?_
            · exact relAt.pure (Low.refl) (by kernel_rfl) (by kernel_rfl)
            refine RegHead.cons (fun wr hR h => ?_) ?_
            · exact relAt.pure (Low.refl) (by kernel_rfl) (by kernel_rfl)
            refine RegHead.cons (fun wr hR h => ?_) ?_
            · exact relAt.pure (Low.refl) (by kernel_rfl) (by kernel_rfl)
            refine RegHead.cons (fun wr hR h => ?_) ?_
            · exact relAt.pure (Low.refl) (by kernel_rfl) (by kernel_rfl)
            refine RegHead.cons (fun wr hR h => ?_) ?_
            · exact relAt.pureS (Low.refl) (by kernel_rfl) (by kernel_rfl) (run_load_byteses (cell_block (j := 1) (bblk (bthen (Low.drew _) hR) HK3.out) rfl))
            refine RegHead.cons (fun wr hR h => ?_) ?_
            · exact relAt.pure (Low.refl) (by kernel_rfl) (by kernel_rfl)
            refine RegHead.cons (fun wr hR h => ?_) ?_
            · exact relAt.pureS (Low.refl) (by kernel_rfl) (by kernel_rfl) (run_leq_int wr 3 (.tmp 29) (.tmp 32) (a := rs.length) (b := recs.length) (by have := HF.out.2.1; omega))
            refine RegHead.cons (fun wr hR h => ?_) ?_
            · exact relAt.pure (Low.refl) (by kernel_rfl) (by kernel_rfl)
            refine RegHead.cons (fun wr hR h => ?_) ?_
            · exact relAt.pure (Low.refl) (by kernel_rfl) (by kernel_rfl)
            refine RegHead.cons (fun wr hR h => ?_) ?_
            · exact relAt.pure (Low.refl) (by kernel_rfl) (by kernel_rfl)
            refine RegHead.cons (fun wr hR h => ?_) ?_
            · refine relAt.call (by kernel_rfl) (by kernel_rfl) ((HST.out wr (bthen (Low.drew _) hR)).mono ?_)
              rintro e w9 ⟨k9, C9, ⟨rfl, hown9, _, hlow9⟩⟩
              exact ⟨_, rfl, hlow9, _, C9, rfl, hown9.txt⟩
            refine RegHead.cons (fun wr hR h => ?_) ?_
            · exact relAt.pure (Low.refl) (by kernel_rfl) (by kernel_rfl)
            refine RegHead.cons (fun wr hR h => ?_) ?_
            · exact relAt.pureS (Low.refl) (by kernel_rfl) (by kernel_rfl) (run_load_bytes (cell_block (j := 0) (bblk (bthen (Low.drew _) hR) HK3.out) rfl))
            refine RegHead.cons (fun wr hR h => ?_) ?_
            · obtain ⟨B9, C9, hv9, hT9⟩ : ∃ B C, vs 15 = .slice B s.length C ∧ Txt wr B s.length C s := allOf_iff.1 h 15 (by decide)
              refine relAt.call (f := 18) (args := #[vs 15, .slice sA st.length sC]) (by kernel_rfl) (by kernel_rfl) ?_
              rw [hv9]
              refine (l6same_any s st B9 _ C9 _ wr hT9 (HS.out.below (bthen (Low.drew _) hR))).mono ?_
              rintro e w9 ⟨rfl, rfl⟩
              exact ⟨_, rfl, Low.refl _, by rw [HE.out]; rfl⟩
            refine RegHead.cons (fun wr hR h => ?_) ?_
            · exact relAt.pure (Low.refl) (by kernel_rfl) (by kernel_rfl)
            refine RegHead.cons (fun wr hR h => ?_) ?_
            · exact relAt.pure (Low.refl) (by kernel_rfl) (by kernel_rfl)
            refine RegHead.cons (fun wr hR h => ?_) ?_
            · exact relAt.pure (Low.refl) (by kernel_rfl) (by kernel_rfl)
            refine RegHead.cons (fun wr hR h => ?_) ?_
            · exact relAt.pure (Low.refl) (by kernel_rfl) (by kernel_rfl)
            refine RegHead.cons (fun wr hR h => ?_) ?_
            · exact relAt.pureS (Low.refl) (by kernel_rfl) (by kernel_rfl) (run_load_byteses (cell_block (j := 1) (bblk (bthen (Low.drew _) hR) HK3.out) rfl))
            refine RegHead.cons (fun wr hR h => ?_) ?_
            · exact relAt.pure (Low.refl) (by kernel_rfl) (by kernel_rfl)
            refine RegHead.cons (fun wr hR h => ?_) ?_
            · exact relAt.pure (Low.refl) (by kernel_rfl) (by kernel_rfl)
            refine RegHead.cons (fun wr hR h => ?_) ?_
            · exact relAt.pureS (Low.refl) (by kernel_rfl) (by kernel_rfl) (run_slice_rows HR3.out.1 (by have := HF.out.2.1; omega) wr)
            refine RegHead.cons (fun wr hR h => ?_) ?_
            · refine relAt.call (by kernel_rfl) (by kernel_rfl) ((l6lists_any rs rs A rA C rC _ _ wr (HR3.out.2.1.below (bthen (Low.drew _) hR)) (HR3.out.2.2.1.below (bthen (Low.drew _) hR)) HR3.out.2.2.2).mono ?_)
              rintro e w9 ⟨rfl, hB9⟩
              exact ⟨_, rfl, hB9, by rw [show (rs == rs) = true by simp]; rfl⟩
            refine RegHead.cons (fun wr hR h => ?_) ?_
            · exact relAt.pure (Low.refl) (by kernel_rfl) (by kernel_rfl)
            exact trivial
          · rename World => w5
            have HL9 := Lib.hid (bthen HL.out (bthen (Low.drew _) hR))
            clear h hR
            refine wp_frame (new := [(.slice A rs.length C), (.int .i64 rs.length), (.pointer (some ⟨w1.heap.size, 2, none⟩)), (.int .i64 sf), (.bool true), (.bool true), (.slice A rs.length C), (.int .i64 rs.length), (.pointer (some ⟨w1.heap.size, 1, none⟩)), (.slice rA recs.length rC), (.int .i64 recs.length), (.bool true), (.bool true), (.bool true), (.pointer (some ⟨g, 0, none⟩)), vs 15, (.pointer (some ⟨w1.heap.size, 0, none⟩)), (.slice sA st.length sC), (.bool true), (.bool true), (.bool true), (.slice A rs.length C), (.pointer (some ⟨w1.heap.size, 1, none⟩)), (.slice rA recs.length rC), (.slice A rs.length C), (.int .i64 rs.length), (.slice rA rs.length rC), (.bool true), (.bool true)]) 22 51 (by kernel_rfl) ?_
            simp only [List.take, List.drop, List.cons_append, List.nil_append]
            go_wp2
            go_ret
            exact ⟨rfl, HL9.out⟩
      · have HZ : Hid (((rs.length : Int) == 0) = false) := Lib.hid (by have : rs.length ≠ 0 := fun h => hz (List.eq_nil_of_length_eq_zero h); simp; omega)
        clear hc hf2 hz
        go_wp2_with fail
        refine wp_region_reg 13 51 (Low) (by kernel_rfl) (by kernel_rfl) (by kernel_rfl) (by kernel_rfl) (by kernel_rfl) (Low.refl) (Low.trans) [.is (.pointer (some ⟨w1.heap.size, 4, none⟩) : Value), .is (.bool true : Value), .is (.bool true : Value), .is (.slice A rs.length C : Value), .is (.int .i64 rs.length : Value), .is (.bool false : Value), .is (.bool false : Value), .is (.bool false : Value), .is undef, .is undef, .is undef, .is undef, .is undef] rfl (fun vs => ?_) (fun vs wr hR h => ?_)
        · refine RegHead.cons (fun wr hR h => ?_) ?_
          · exact relAt.pure (Low.refl) (by kernel_rfl) (by kernel_rfl)
          refine RegHead.cons (fun wr hR h => ?_) ?_
          · exact relAt.pureS (Low.refl) (by kernel_rfl) (by kernel_rfl) (run_load_bool (cell_block (j := 4) (bblk (bthen (Low.drew _) hR) HK3.out) rfl))
          refine RegHead.cons (fun wr hR h => ?_) ?_
          · exact relAt.pure (Low.refl) (by kernel_rfl) (by kernel_rfl)
          refine RegHead.cons (fun wr hR h => ?_) ?_
          · exact relAt.pure (Low.refl) (by kernel_rfl) (by kernel_rfl)
          refine RegHead.cons (fun wr hR h => ?_) ?_
          · exact relAt.pure (Low.refl) (by kernel_rfl) (by kernel_rfl)
          refine RegHead.cons (fun wr hR h => ?_) ?_
          · exact relAt.pureS (Low.refl) (by kernel_rfl) (by kernel_rfl) (run_len_zero_of wr 3 (.tmp 12) (.const (.int .i64 0)) HZ.out)
          refine RegHead.cons (fun wr hR h => ?_) ?_
          · exact relAt.pure (Low.refl) (by kernel_rfl) (by kernel_rfl)
          refine RegHead.cons (fun wr hR h => ?_) ?_
          · exact relAt.pure (Low.refl) (by kernel_rfl) (by kernel_rfl)
          refine RegHead.cons (fun wr hR h => ?_) ?_
          · exact relAt.skip (by kernel_rfl)
          refine RegHead.cons (fun wr hR h => ?_) ?_
          · exact relAt.skip (by kernel_rfl)
          refine RegHead.cons (fun wr hR h => ?_) ?_
          · exact relAt.skip (by kernel_rfl)
          refine RegHead.cons (fun wr hR h => ?_) ?_
          · exact relAt.skip (by kernel_rfl)
          refine RegHead.cons (fun wr hR h => ?_) ?_
          · exact relAt.skip (by kernel_rfl)
          exact trivial
        · rename World => w4
          have HL4 := Lib.hid (bthen (Low.drew _) hR)
          clear h hR
          refine wp_frame (new := [(.pointer (some ⟨w1.heap.size, 4, none⟩)), (.bool true), (.bool true), (.slice A rs.length C), (.int .i64 rs.length), (.bool false), (.bool false), (.bool false), undef, undef, undef, undef, undef]) 8 21 (by kernel_rfl) ?_
          simp only [List.take, List.drop, List.cons_append, List.nil_append]
          have HE : Hid ((s == st) = true) := Lib.hid (by rw [HF.out.2.2.1]; simp)
          have HST := Lib.hid (fun (W : World) (hW : Low w4 W) => HST3.out W (bthen HL4.out hW))
          have HK3 := Lib.hid (bblk HL4.out HK3.out)
          have HR3 := Lib.hid (show _ ∧ _ ∧ _ ∧ _ from ⟨HR3.out.1, HR3.out.2.1.below HL4.out, HR3.out.2.2.1.below HL4.out, HR3.out.2.2.2⟩)
          have HS := Lib.hid (HS.out.below HL4.out)
          have HL := Lib.hid (bthen HL.out HL4.out)
          go_wp2_with fail
          refine wp_region_reg 29 51 (Low) (by kernel_rfl) (by kernel_rfl) (by kernel_rfl) (by kernel_rfl) (by kernel_rfl) (Low.refl) (Low.trans) [.is (.slice A rs.length C : Value), .is (.int .i64 rs.length : Value), .is (.pointer (some ⟨w1.heap.size, 2, none⟩) : Value), .is (.int .i64 sf : Value), .is (.bool true : Value), .is (.bool true : Value), .is (.slice A rs.length C : Value), .is (.int .i64 rs.length : Value), .is (.pointer (some ⟨w1.heap.size, 1, none⟩) : Value), .is (.slice rA recs.length rC : Value), .is (.int .i64 recs.length : Value), .is (.bool true : Value), .is (.bool true : Value), .is (.bool true : Value), .is (.pointer (some ⟨g, 0, none⟩) : Value), yTxt s, .is (.pointer (some ⟨w1.heap.size, 0, none⟩) : Value), .is (.slice sA st.length sC : Value), .is (.bool true : Value), .is (.bool true : Value), .is (.bool true : Value), .is (.slice A rs.length C : Value), .is (.pointer (some ⟨w1.heap.size, 1, none⟩) : Value), .is (.slice rA recs.length rC : Value), .is (.slice A rs.length C : Value), .is (.int .i64 rs.length : Value), .is (.slice rA rs.length rC : Value), .is (.bool true : Value), .is (.bool true : Value)] rfl (fun vs => ?_) (fun vs wr hR h => ?_)
          · refine RegHead.cons (fun wr hR h => ?_) ?_
            · exact relAt.pure (Low.refl) (by kernel_rfl) (by kernel_rfl)
            refine RegHead.cons (fun wr hR h => ?_) ?_
            · exact relAt.pure (Low.refl) (by kernel_rfl) (by kernel_rfl)
            refine RegHead.cons (fun wr hR h => ?_) ?_
            · exact relAt.pure (Low.refl) (by kernel_rfl) (by kernel_rfl)
            refine RegHead.cons (fun wr hR h => ?_) ?_
            · exact relAt.pureS (Low.refl) (by kernel_rfl) (by kernel_rfl) (run_load_n (cell_block (j := 2) (bblk (bthen (Low.drew _) hR) HK3.out) rfl))
            refine RegHead.cons (fun wr hR h => ?_) ?_
            · exact relAt.pureS (Low.refl) (by kernel_rfl) (by kernel_rfl) (run_geq_int wr 3 (.tmp 23) (.tmp 25) (a := rs.length) (b := sf) (by have := HF.out.1; omega))
            refine RegHead.cons (fun wr hR h => ?_) ?_
            · exact relAt.pure (Low.refl) (by kernel_rfl) (by kernel_rfl)
            refine RegHead.cons (fun wr hR h => ?_) ?_
            · exact relAt.pure (Low.refl) (by kernel_rfl) (by kernel_rfl)
            refine RegHead.cons (fun wr hR h => ?_) ?_
            · exact relAt.pure (Low.refl) (by kernel_rfl) (by kernel_rfl)
            refine RegHead.cons (fun wr hR h => ?_) ?_
            · exact relAt.pure (Low.refl) (by kernel_rfl) (by kernel_rfl)
            refine RegHead.cons (fun wr hR h => ?_) ?_
            · exact relAt.pureS (Low.refl) (by kernel_rfl) (by kernel_rfl) (run_load_byteses (cell_block (j := 1) (bblk (bthen (Low.drew _) hR) HK3.out) rfl))
            refine RegHead.cons (fun wr hR h => ?_) ?_
            · exact relAt.pure (Low.refl) (by kernel_rfl) (by kernel_rfl)
            refine RegHead.cons (fun wr hR h => ?_) ?_
            · exact relAt.pureS (Low.refl) (by kernel_rfl) (by kernel_rfl) (run_leq_int wr 3 (.tmp 29) (.tmp 32) (a := rs.length) (b := recs.length) (by have := HF.out.2.1; omega))
            refine RegHead.cons (fun wr hR h => ?_) ?_
            · exact relAt.pure (Low.refl) (by kernel_rfl) (by kernel_rfl)
            refine RegHead.cons (fun wr hR h => ?_) ?_
            · exact relAt.pure (Low.refl) (by kernel_rfl) (by kernel_rfl)
            refine RegHead.cons (fun wr hR h => ?_) ?_
            · exact relAt.pure (Low.refl) (by kernel_rfl) (by kernel_rfl)
            refine RegHead.cons (fun wr hR h => ?_) ?_
            · refine relAt.call (by kernel_rfl) (by kernel_rfl) ((HST.out wr (bthen (Low.drew _) hR)).mono ?_)
              rintro e w9 ⟨k9, C9, ⟨rfl, hown9, _, hlow9⟩⟩
              exact ⟨_, rfl, hlow9, _, C9, rfl, hown9.txt⟩
            refine RegHead.cons (fun wr hR h => ?_) ?_
            · exact relAt.pure (Low.refl) (by kernel_rfl) (by kernel_rfl)
            refine RegHead.cons (fun wr hR h => ?_) ?_
            · exact relAt.pureS (Low.refl) (by kernel_rfl) (by kernel_rfl) (run_load_bytes (cell_block (j := 0) (bblk (bthen (Low.drew _) hR) HK3.out) rfl))
            refine RegHead.cons (fun wr hR h => ?_) ?_
            · obtain ⟨B9, C9, hv9, hT9⟩ : ∃ B C, vs 15 = .slice B s.length C ∧ Txt wr B s.length C s := allOf_iff.1 h 15 (by decide)
              refine relAt.call (f := 18) (args := #[vs 15, .slice sA st.length sC]) (by kernel_rfl) (by kernel_rfl) ?_
              rw [hv9]
              refine (l6same_any s st B9 _ C9 _ wr hT9 (HS.out.below (bthen (Low.drew _) hR))).mono ?_
              rintro e w9 ⟨rfl, rfl⟩
              exact ⟨_, rfl, Low.refl _, by rw [HE.out]; rfl⟩
            refine RegHead.cons (fun wr hR h => ?_) ?_
            · exact relAt.pure (Low.refl) (by kernel_rfl) (by kernel_rfl)
            refine RegHead.cons (fun wr hR h => ?_) ?_
            · exact relAt.pure (Low.refl) (by kernel_rfl) (by kernel_rfl)
            refine RegHead.cons (fun wr hR h => ?_) ?_
            · exact relAt.pure (Low.refl) (by kernel_rfl) (by kernel_rfl)
            refine RegHead.cons (fun wr hR h => ?_) ?_
            · exact relAt.pure (Low.refl) (by kernel_rfl) (by kernel_rfl)
            refine RegHead.cons (fun wr hR h => ?_) ?_
            · exact relAt.pureS (Low.refl) (by kernel_rfl) (by kernel_rfl) (run_load_byteses (cell_block (j := 1) (bblk (bthen (Low.drew _) hR) HK3.out) rfl))
            refine RegHead.cons (fun wr hR h => ?_) ?_
            · exact relAt.pure (Low.refl) (by kernel_rfl) (by kernel_rfl)
            refine RegHead.cons (fun wr hR h => ?_) ?_
            · exact relAt.pure (Low.refl) (by kernel_rfl) (by kernel_rfl)
            refine RegHead.cons (fun wr hR h => ?_) ?_
            · exact relAt.pureS (Low.refl) (by kernel_rfl) (by kernel_rfl) (run_slice_rows HR3.out.1 (by have := HF.out.2.1; omega) wr)
            refine RegHead.cons (fun wr hR h => ?_) ?_
            · refine relAt.call (by kernel_rfl) (by kernel_rfl) ((l6lists_any rs rs A rA C rC _ _ wr (HR3.out.2.1.below (bthen (Low.drew _) hR)) (HR3.out.2.2.1.below (bthen (Low.drew _) hR)) HR3.out.2.2.2).mono ?_)
              rintro e w9 ⟨rfl, hB9⟩
              exact ⟨_, rfl, hB9, by rw [show (rs == rs) = true by simp]; rfl⟩
            refine RegHead.cons (fun wr hR h => ?_) ?_
            · exact relAt.pure (Low.refl) (by kernel_rfl) (by kernel_rfl)
            exact trivial
          · rename World => w5
            have HL9 := Lib.hid (bthen HL.out (bthen (Low.drew _) hR))
            clear h hR
            refine wp_frame (new := [(.slice A rs.length C), (.int .i64 rs.length), (.pointer (some ⟨w1.heap.size, 2, none⟩)), (.int .i64 sf), (.bool true), (.bool true), (.slice A rs.length C), (.int .i64 rs.length), (.pointer (some ⟨w1.heap.size, 1, none⟩)), (.slice rA recs.length rC), (.int .i64 recs.length), (.bool true), (.bool true), (.bool true), (.pointer (some ⟨g, 0, none⟩)), vs 15, (.pointer (some ⟨w1.heap.size, 0, none⟩)), (.slice sA st.length sC), (.bool true), (.bool true), (.bool true), (.slice A rs.length C), (.pointer (some ⟨w1.heap.size, 1, none⟩)), (.slice rA recs.length rC), (.slice A rs.length C), (.int .i64 rs.length), (.slice rA rs.length rC), (.bool true), (.bool true)]) 22 51 (by kernel_rfl) ?_
            simp only [List.take, List.drop, List.cons_append, List.nil_append]
            go_wp2
            go_ret
            exact ⟨rfl, HL9.out⟩
end Go.Proofs.YtgpenpnobjecgaaGreatDoor
