/- (*wal.Log).Snapshot. -/
import Derived.Test.YtgpenpnobjecgaaGreatDoorJWalSafeCard25
/- WSnap -/
namespace Go.Proofs.YtgpenpnobjecgaaGreatDoor
set_option maxRecDepth 100000
open Go.RowKit Dk

section
variable {w0 w : World} {g dg : Nat} {d : DiskS} {L : LogS} {own : Nat → Option DTag} {lf : Nat → Prop}
/-- Where the disk is behind the steps. -/
def snapR (d : DiskS) (L : LogS) (b : Bs) : Nat → DiskS × Nat
  | 0 => (d, 0)
  | 1 => make1W d (L.epoch + 1) b
  | 2 => next (make1W d (L.epoch + 1) b) (Dk.remove · (nameW L.epoch))
  | _ => next (next (make1W d (L.epoch + 1) b) (Dk.remove · (nameW L.epoch))) syncDir
theorem snapR_stays (d : DiskS) (L : LogS) (b : Bs) : ∀ i, (snapR d L b i).2 ≠ 0 → snapR d L b (i + 1) = snapR d L b i
  | 0, h => absurd rfl h
  | 1, h => by
    show next (make1W d (L.epoch + 1) b) (Dk.remove · (nameW L.epoch)) = make1W d (L.epoch + 1) b
    have h' : (make1W d (L.epoch + 1) b).2 ≠ 0 := h
    unfold next
    rw [if_neg h']
  | 2, h => by
    show next (next (make1W d (L.epoch + 1) b) (Dk.remove · (nameW L.epoch))) syncDir = next (make1W d (L.epoch + 1) b) (Dk.remove · (nameW L.epoch))
    have h' : (next (make1W d (L.epoch + 1) b) (Dk.remove · (nameW L.epoch))).2 ≠ 0 := h
    generalize next (make1W d (L.epoch + 1) b) (Dk.remove · (nameW L.epoch)) = r at h'
    unfold next
    rw [if_neg h']
  | _ + 3, _ => rfl
set_option maxRecDepth 100000 in
set_option maxHeartbeats 2000000 in
theorem wsnap_any (hP : PairAt w g dg d L own lf) (hH : Home w0 w (both own lf)) (p : Bs) (A : Option Addr) (C : Nat) (X : Txt w A p.length C p) (hp : p.length ≤ 4611686018427387904) (hpf : ∀ ad, A = some ad → ¬ both own lf ad.block) (hfs : L.broken = false → free d + L.size ≤ 9223372036854775807) :
    Calls Tryz.prog 25 #[ptrV g, .slice A p.length C] w (PPost w g dg own lf (snapW d L p)) := by
  have HP := Lib.hid hP
  have HH := Lib.hid hH
  have HX := Lib.hid X
  have HPF := Lib.hid hpf
  obtain ⟨recs, hd⟩ := hP.dat
  have HFT := Lib.hid hd.lt
  have HLF := Lib.hid hP.log.lt
  obtain ⟨sA, sC, rA, rC, rblk, qs, M⟩ := hP.log
  have hgl := in_heap M.row
  have q6 : w.cell? ⟨g, 6, none⟩ = some (.bool L.broken) := cell_block M.row rfl
  have q1 : w.cell? ⟨g, 1, none⟩ = some (.int .i64 L.epoch) := cell_block M.row rfl
  have HL := Lib.hid hP.lok
  clear hP hH X hd M hpf
  by_cases h1 : 1048576 < p.length
  · have hr := Lib.hid (show snapW d L p = ((d, L), 1) by unfold snapW; rw [if_pos h1])
    have h1' : (1048576 : Int) < p.length := by omega
    clear h1
    unfold ptrV at *
    go_enter Tryz.func25, Tryz.ntmps25
    go_wp2
    go_ret
    rw [hr.out]
    exact ⟨rfl, own, lf, HP.out.below (low1 _ _), .below (low1 _ _)⟩
  · have h1' : ¬ (1048576 : Int) < p.length := by omega
    by_cases h2 : L.broken = true
    · have hr := Lib.hid (show snapW d L p = ((d, L), 60) by unfold snapW; rw [if_neg h1, if_pos h2])
      rw [h2] at q6
      clear h1 h2
      unfold ptrV at *
      go_enter Tryz.func25, Tryz.ntmps25
      go_wp2
      go_ret
      rw [hr.out]
      exact ⟨rfl, own, lf, HP.out.below (low1 _ _), .below (low1 _ _)⟩
    · have h2f : L.broken = false := by simpa using h2
      rw [h2f] at q6
      have hfs2 := hfs h2f
      by_cases h3 : 1099511627776 ≤ L.epoch
      · have hr := Lib.hid (show snapW d L p = ((d, L), 5) by unfold snapW; rw [if_neg h1, if_neg h2, if_pos h3])
        have h3' : (1099511627776 : Int) ≤ L.epoch := by omega
        clear h1 h2 h3
        unfold ptrV at *
        go_enter Tryz.func25, Tryz.ntmps25
        go_wp2
        go_ret
        rw [hr.out]
        exact ⟨rfl, own, lf, HP.out.below (low1 _ _), .below (low1 _ _)⟩
      · have h3' : ¬ (1099511627776 : Int) ≤ L.epoch := by omega
        obtain ⟨b, hb⟩ : ∃ b, bytesW (L.epoch + 1) p [] = b := ⟨_, rfl⟩
        have Hr := Lib.hid (show snapW d L p = if free d < b.length ∨ free d + L.size < b.length + b.length then ((d, L), 5) else
            if (snapR d L b 3).2 = 0 then (((snapR d L b 3).1, { epoch := L.epoch + 1, state := p, records := [], size := b.length, cut := L.cut, broken := L.broken }), 0) else (((snapR d L b 3).1, L.broke), (snapR d L b 3).2) by
          unfold snapW
          rw [if_neg h1, if_neg h2, if_neg h3, hb]
          rfl)
        have hs := Lib.hid (fun (W : World) (hW : RowKit.Below w.heap.size w W) => wbytes_any (L.epoch + 1) p [] A C none 0 W (fun _ => False) (HX.out.below hW) (RowsAt.none _ _) (by omega) (by omega) (fun r h => by cases h) (by simp) ((HH.out.tab.sums).low hW))
        have hbl : b.length ≤ 1048595 := by
          rw [← hb]
          unfold bytesW
          rw [List.length_append, sealW_len]
          have := groups_len (L.epoch + 1) (by omega)
          simp [recsW]
          omega
        have HBL := Lib.hid hbl
        have hb0 : b.length ≠ 0 := by rw [← hb]; unfold bytesW; rw [List.length_append, sealW_len]; omega
        rw [hb] at hs
        have Hb := Lib.hid hb
        have HN1 := Lib.hid h1
        have HN3 := Lib.hid h3
        have he0 : (0 : Int) ≤ L.epoch := by omega
        have he9 : (L.epoch : Int) + 1 ≤ 9223372036854775807 := by omega
        simp only [Int.natCast_add, Int.natCast_one, List.length_nil] at hs
        clear h1 h2 h3 h2f hb
        unfold ptrV
        go_enter Tryz.func25, Tryz.ntmps25
        go_wp2_with fail
        go_at_call 60
        refine (hs.out _ (low1 w (.cells #[.pointer (some ⟨g, 0, none⟩)] 38))).mono ?_
        rintro e w2 ⟨B2, C2, b2, rfl, F2⟩
        have HF2 := Lib.hid F2
        clear hs F2 q6 q1
        go_upto_region 10 with (fail)
        obtain ⟨bb, hbb⟩ : ∃ bb, bb = w2.heap.size := ⟨_, rfl⟩
        obtain ⟨w3, hw3⟩ : ∃ w3, w3 = w2.alloc (.cells #[.slice B2 b.length C2] 22) := ⟨_, rfl⟩
        have hlow2 : RowKit.Below w.heap.size w w2 := bthen (low1 w (.cells #[.pointer (some ⟨g, 0, none⟩)] 38)) HF2.out.low
        have hlow : RowKit.Below w.heap.size w w3 := by rw [hw3]; exact bthen hlow2 (low1 _ _)
        have hbk : w3.heap[bb]? = some (.cells #[.slice B2 b.length C2] 22 (0, 0)) := by rw [hw3, hbb]; exact blk1 _ _
        have hlk2 : w2.heap[w.heap.size]? = some (.cells #[ptrV g] 38 (0, 0)) := bblk HF2.out.low (blk1 w _)
        have hlk : w3.heap[w.heap.size]? = some (.cells #[ptrV g] 38 (0, 0)) := by rw [hw3]; exact bblk (low1 _ _) hlk2
        have hX3 : Txt w3 B2 b.length C2 b := by rw [hw3]; exact HF2.out.txt.below (low1 _ _)
        have hbb2 : w.heap.size < bb := by rw [hbb]; exact in_heap hlk2
        have HBB : Hid (∀ ad, B2 = some ad → w.heap.size ≤ ad.block) := Lib.hid fun ad had => by
          rcases HF2.out.own.form with ⟨_, h0, _⟩ | ⟨k, _, h1, h2, _⟩
          · exact absurd h0 hb0
          · rw [h1] at had
            have := HF2.out.fresh k h2
            simp at this
            rw [← Option.some.inj had]
            show w.heap.size ≤ k
            omega
        rw [← hbb, ← hw3]
        obtain ⟨lb, hlb⟩ : ∃ lb, lb = w.heap.size := ⟨_, rfl⟩
        rw [← hlb] at hlk ⊢
        have HLow := Lib.hid hlow
        have HBK := Lib.hid hbk
        have HLK := Lib.hid hlk
        have HX3 := Lib.hid hX3
        have HP3 := Lib.hid (HP.out.below hlow)
        have HLB2 := Lib.hid (show w.heap.size ≤ lb ∧ w.heap.size ≤ bb ∧ bb ≠ lb from ⟨by omega, by omega, by omega⟩)
        obtain ⟨sA, sC, rA, rC, rblk, qs, M3⟩ := HP3.out.log
        have c0 : w3.cell? ⟨g, 0, none⟩ = some (.pointer (some ⟨dg, 0, none⟩)) := cell_block M3.row rfl
        have c4 : w3.cell? ⟨g, 4, none⟩ = some (.int .i64 L.size) := cell_block M3.row rfl
        have c1 : w3.cell? ⟨g, 1, none⟩ = some (.int .i64 L.epoch) := cell_block M3.row rfl
        have cb : w3.cell? ⟨bb, 0, none⟩ = some (.slice B2 b.length C2) := cell_block hbk rfl
        have cl : w3.cell? ⟨lb, 0, none⟩ = some (.pointer (some ⟨g, 0, none⟩)) := cell_block hlk rfl
        obtain ⟨recs3, hd3⟩ := HP3.out.dat
        have hfr := Lib.hid (free_quiet hd3 HP3.out.ok)
        have hz := HL.out.size
        have hfl : free d ≤ 9223372036854775807 := by unfold free; split <;> (have := HP.out.ok.room; omega)
        clear HF2 hw3 hbb hlb hlow hlow2 hbk hlk hlk2 hX3 hbb2 M3 hd3
        go_wp2_with fail
        go_at_call 65
        unfold ptrV at hfr
        refine hfr.out.mono ?_
        rintro e w4 ⟨rfl, m, hw4⟩
        have h34 : RowKit.Below w3.heap.size w3 w4 := by rw [hw4]; exact below_drewN _ _
        have mv : ∀ {a v}, w3.cell? a = some v → w4.cell? a = some v := fun h => by rw [hw4]; simpa using h
        have c0' := mv c0
        have c1' := mv c1
        have c4' := mv c4
        have cb' := mv cb
        have cl' := mv cl
        have HLow4 := Lib.hid (bthen HLow.out h34)
        have HBK4 : Hid (w4.heap[bb]? = some (.cells #[.slice B2 b.length C2] 22 (0, 0))) := Lib.hid (bblk h34 HBK.out)
        have HLK4 : Hid (w4.heap[lb]? = some (.cells #[ptrV g] 38 (0, 0))) := Lib.hid (bblk h34 HLK.out)
        have HX4 := Lib.hid (HX3.out.below h34)
        have HP4 := Lib.hid (HP3.out.below h34)
        have j1 : (free d : Int) - b.length ≤ 9223372036854775807 := by omega
        have j2 : (-9223372036854775808 : Int) ≤ (free d : Int) - b.length := by omega
        clear c0 c1 c4 cb cl hw4 mv h34 HLow HBK HLK HX3 HP3 hfr
        by_cases hfull : free d < b.length ∨ free d + L.size < b.length + b.length
        · have hr := Hr.out
          rw [if_pos hfull] at hr
          have HRR := Lib.hid hr
          have key : (decide (free d < b.length) = true) ∨ (decide (free d < b.length) = false ∧ (free d : Int) - b.length + L.size ≤ 9223372036854775807 ∧ -9223372036854775808 ≤ (free d : Int) - b.length + L.size ∧ decide ((free d : Int) - b.length + L.size < b.length) = true) := by
            simp only [decide_eq_true_eq, decide_eq_false_iff_not]
            omega
          clear hr hfull Hr
          rcases key with k1 | ⟨k1, k3, k4, k2⟩
          all_goals
            go_upto_region 11 with (fail)
            go_quiet (fail)
            go_wp2
            go_ret
            rw [HRR.out]
            exact ⟨rfl, own, lf, HP4.out.below (below_drewN _ _), .below (bthen HLow4.out (below_drewN _ _))⟩
        · have hr := Hr.out
          rw [if_neg hfull] at hr
          have k1 : decide (free d < b.length) = false := by simp; omega
          have k2 : decide ((free d : Int) - b.length + L.size < b.length) = false := by simp; omega
          have hro := HP.out.ok.room
          have k3 : (free d : Int) - b.length + L.size ≤ 9223372036854775807 := by omega
          have k4 : -9223372036854775808 ≤ (free d : Int) - b.length + L.size := by omega
          have Hr := Lib.hid hr
          clear hr hfull
          go_upto_region 11 with (fail)
          go_quiet (fail)
          obtain ⟨w5, hw5⟩ : ∃ w5, w5 = w4.drewN nq := ⟨_, rfl⟩
          have h45 : RowKit.Below w4.heap.size w4 w5 := by rw [hw5]; exact below_drewN _ _
          have mv : ∀ {a v}, w4.cell? a = some v → w5.cell? a = some v := fun h => by rw [hw5]; simpa using h
          have c0 := mv c0'
          have c1 := mv c1'
          have cl := mv cl'
          have HLow5 := Lib.hid (bthen HLow4.out h45)
          have HBK5 : Hid (w5.heap[bb]? = some (.cells #[.slice B2 b.length C2] 22 (0, 0))) := Lib.hid (bblk h45 HBK4.out)
          have HLK5 : Hid (w5.heap[lb]? = some (.cells #[ptrV g] 38 (0, 0))) := Lib.hid (bblk h45 HLK4.out)
          have HX5 := Lib.hid (HX4.out.below h45)
          have HP5 := Lib.hid (HP4.out.below h45)
          have hnm := Lib.hid (wname_any L.epoch (by omega) w5 (HH.out.tab.low HLow5.out))
          have hmf : ∀ (fn : Fn) (first cap : Array Value) (w : World), (Instr.makeFunc fn first cap).run Tryz.prog w = .ok (.func fn first cap) w := fun _ _ _ _ => rfl
          rw [← hw5]
          clear c0' c1' c4' cb' cl' hw5 mv h45 HLow4 HBK4 HLK4 HX4 HP4 k1 k2 k3 k4 hro hfs2 j1 j2 hfl hz hfs
          go_wp2_with fail
          go_at_call 64
          obtain ⟨nm, hnmv⟩ : ∃ nm, nameW L.epoch = nm := ⟨_, rfl⟩
          rw [hnmv] at hnm
          have HNV := Lib.hid hnmv
          clear hnmv
          refine hnm.out.mono ?_
          rintro e w6 ⟨rfl, h56⟩
          have hgl5 : g < w5.heap.size := by obtain ⟨_, _, _, _, _, _, M⟩ := HP5.out.log; exact in_heap M.row
          have hll5 := in_heap HLK5.out
          have d0 := (h56.cell (p := ⟨g, 0, none⟩) hgl5).trans c0
          have dl := (h56.cell (p := ⟨lb, 0, none⟩) hll5).trans cl
          have hgl6 : g < w6.heap.size := Nat.lt_of_lt_of_le hgl5 h56.size
          have hll6 : lb < w6.heap.size := Nat.lt_of_lt_of_le hll5 h56.size
          have H56 := Lib.hid h56
          clear hnm h56 c0 c1 cl
          unfold strV
          go_upto_region 14 with (fail)
          obtain ⟨nb, hnb⟩ : ∃ nb, nb = w6.heap.size := ⟨_, rfl⟩
          obtain ⟨w7, hw7⟩ : ∃ w7, w7 = w6.alloc (.cells #[.string ⟨nm.toArray⟩] 9) := ⟨_, rfl⟩
          have h57 : RowKit.Below w5.heap.size w5 w7 := by rw [hw7]; exact bthen H56.out (low1 _ _)
          have hnbk : w7.heap[nb]? = some (.cells #[strV nm] 9 (0, 0)) := by rw [hw7, hnb]; exact blk1 _ _
          have hnl : w.heap.size ≤ nb := by rw [hnb]; exact Nat.le_trans HLow5.out.size H56.out.size
          have e0 : w7.cell? ⟨g, 0, none⟩ = some (.pointer (some ⟨dg, 0, none⟩)) := (h57.cell (p := ⟨g, 0, none⟩) hgl5).trans ((H56.out.cell (p := ⟨g, 0, none⟩) hgl5).symm.trans d0)
          have el : w7.cell? ⟨lb, 0, none⟩ = some (.pointer (some ⟨g, 0, none⟩)) := (h57.cell (p := ⟨lb, 0, none⟩) hll5).trans ((H56.out.cell (p := ⟨lb, 0, none⟩) hll5).symm.trans dl)
          have hgl7 : g < w7.heap.size := Nat.lt_of_lt_of_le hgl5 h57.size
          have hll7 : lb < w7.heap.size := Nat.lt_of_lt_of_le hll5 h57.size
          rw [← hnb, ← hw7]
          obtain ⟨w8, hw8⟩ : ∃ w8, w8 = w7.drew.alloc (.cells #[.func (.func 67) #[] #[.pointer (some ⟨lb, 0, none⟩), .pointer (some ⟨bb, 0, none⟩)], .func (.func 68) #[] #[.pointer (some ⟨lb, 0, none⟩), .pointer (some ⟨nb, 0, none⟩)], .func (.func 45) #[.pointer (some ⟨dg, 0, none⟩)] #[]] 91) := ⟨_, rfl⟩
          have hall : ∀ l W, seqW1 w7.drew w8 l W → W.cell? ⟨lb, 0, none⟩ = some (.pointer (some ⟨g, 0, none⟩)) ∧ W.cell? ⟨g, 0, none⟩ = some (.pointer (some ⟨dg, 0, none⟩)) := fun l W h => by
            have key : ∀ {W}, RowKit.Below w7.heap.size w7 W → W.cell? ⟨lb, 0, none⟩ = some (.pointer (some ⟨g, 0, none⟩)) ∧ W.cell? ⟨g, 0, none⟩ = some (.pointer (some ⟨dg, 0, none⟩)) := fun hb => ⟨(hb.cell (p := ⟨lb, 0, none⟩) hll7).trans el, (hb.cell (p := ⟨g, 0, none⟩) hgl7).trans e0⟩
            rcases seqW1_one h with rfl | rfl
            · exact key ((Below.refl _ _).drew)
            · rw [hw8]; exact key (bthen ((Below.refl _ _).drew) (low1 _ _))
          have HALL := Lib.hid hall
          have HW8 := Lib.hid hw8
          have h58 : RowKit.Below w5.heap.size w5 w8 := by rw [hw8]; exact bthen (bthen h57 ((Below.refl _ _).drew)) (low1 _ _)
          have hc8 : w8.heap[w7.drew.heap.size]? = some (.cells #[.func (.func 67) #[] #[.pointer (some ⟨lb, 0, none⟩), .pointer (some ⟨bb, 0, none⟩)], .func (.func 68) #[] #[.pointer (some ⟨lb, 0, none⟩), .pointer (some ⟨nb, 0, none⟩)], .func (.func 45) #[.pointer (some ⟨dg, 0, none⟩)] #[]] 91 (0, 0)) := by rw [hw8]; exact blk1 _ _
          have HC8 := Lib.hid hc8
          have H58 := Lib.hid h58
          have HNB : Hid (w8.heap[nb]? = some (.cells #[strV nm] 9 (0, 0))) := Lib.hid (by rw [hw8]; exact bblk (bthen ((Below.refl _ _).drew) (low1 _ _)) hnbk)
          have HNL := Lib.hid hnl
          have HS7 : Hid (w.heap.size ≤ w7.drew.heap.size) := Lib.hid (Nat.le_trans HLow5.out.size h57.size)
          clear hnb hw7 h57 hnbk hnl d0 dl e0 el hgl6 hll6 hgl7 hll7 hw8 hall h58 hc8 H56 hgl5 hll5
          -- REGION14
          refine wp_region_inv 9 96 (fun _ _ => True) [8] (seqW1 w7.drew w8) (by kernel_rfl) (by kernel_rfl) (by kernel_rfl) (by kernel_rfl) (by kernel_rfl) [.is (.pointer (some ⟨g, 0, none⟩) : Value), .is (.func (.func 67) #[] #[.pointer (some ⟨lb, 0, none⟩), .pointer (some ⟨bb, 0, none⟩)] : Value), .is (.func (.func 68) #[] #[.pointer (some ⟨lb, 0, none⟩), .pointer (some ⟨nb, 0, none⟩)] : Value), .is (.pointer (some ⟨g, 0, none⟩) : Value), .is (.pointer (some ⟨g, 0, none⟩) : Value), .is (.pointer (some ⟨g, 0, none⟩) : Value), .is (.pointer (some ⟨dg, 0, none⟩) : Value), .is (.func (.func 45) #[.pointer (some ⟨dg, 0, none⟩)] #[] : Value), .is (.slice (some ⟨w7.drew.heap.size, 0, none⟩) 3 3 : Value)] rfl (rfl) (fun vs => ?_) (fun vs wr hI h => ?_)
          · refine RegHeadI.cons (fun S wr hd hSk hSd hI h => ?_) ?_
            · exact relAtI.pureS ⟨trivial, keepI (by decide) hI⟩ (by kernel_rfl) (by kernel_rfl) (run_load_plog (HALL.out _ _ hI).1)
            refine RegHeadI.cons (fun S wr hd hSk hSd hI h => ?_) ?_
            · exact relAtI.pure ⟨trivial, keepI (by decide) hI⟩ (by kernel_rfl) (by kernel_rfl)
            refine RegHeadI.cons (fun S wr hd hSk hSd hI h => ?_) ?_
            · exact relAtI.pure ⟨trivial, keepI (by decide) hI⟩ (by kernel_rfl) (by kernel_rfl)
            refine RegHeadI.cons (fun S wr hd hSk hSd hI h => ?_) ?_
            · exact relAtI.pureS ⟨trivial, keepI (by decide) hI⟩ (by kernel_rfl) (by kernel_rfl) (run_load_plog (HALL.out _ _ hI).1)
            refine RegHeadI.cons (fun S wr hd hSk hSd hI h => ?_) ?_
            · exact relAtI.pure ⟨trivial, keepI (by decide) hI⟩ (by kernel_rfl) (by kernel_rfl)
            refine RegHeadI.cons (fun S wr hd hSk hSd hI h => ?_) ?_
            · exact relAtI.pure ⟨trivial, keepI (by decide) hI⟩ (by kernel_rfl) (by kernel_rfl)
            refine RegHeadI.cons (fun S wr hd hSk hSd hI h => ?_) ?_
            · exact relAtI.pureS ⟨trivial, keepI (by decide) hI⟩ (by kernel_rfl) (by kernel_rfl) (run_load_pdisk (HALL.out _ _ hI).2)
            refine RegHeadI.cons (fun S wr hd hSk hSd hI h => ?_) ?_
            · exact relAtI.pure ⟨trivial, keepI (by decide) hI⟩ (by kernel_rfl) (by kernel_rfl)
            refine RegHeadI.cons (fun S wr hd hSk hSd hI h => ?_) ?_
            · have hw : wr = w7.drew := by have hI := hI; simp only [List.map, hSk] at hI; exact hI
              subst hw
              exact relAtI.valueS (by kernel_rfl) (by kernel_rfl) (run_build_funs _ _ _ _ _ _ _ _ _ _) ⟨trivial, by simp only [List.map, setB, if_true]; exact HW8.out.symm⟩ rfl
            exact trivial
          · have hw : wr = w8 := hI
            subst hw
            clear h hI HALL HW8
            refine wp_frame (new := [(.pointer (some ⟨g, 0, none⟩) : Value), (.func (.func 67) #[] #[.pointer (some ⟨lb, 0, none⟩), .pointer (some ⟨bb, 0, none⟩)] : Value), (.func (.func 68) #[] #[.pointer (some ⟨lb, 0, none⟩), .pointer (some ⟨nb, 0, none⟩)] : Value), (.pointer (some ⟨g, 0, none⟩) : Value), (.pointer (some ⟨g, 0, none⟩) : Value), (.pointer (some ⟨g, 0, none⟩) : Value), (.pointer (some ⟨dg, 0, none⟩) : Value), (.func (.func 45) #[.pointer (some ⟨dg, 0, none⟩)] #[] : Value), (.slice (some ⟨w7.drew.heap.size, 0, none⟩) 3 3 : Value)]) 62 71 (by kernel_rfl) ?_
            simp only [List.take, List.drop, List.cons_append, List.nil_append]
            -- END14
            go_wp2_with fail
            go_at_call 66
            obtain ⟨fb, hfb⟩ : ∃ fb, fb = w7.drew.heap.size := ⟨_, rfl⟩
            have hfb2 : w7.heap.size = fb := hfb.symm
            have hc8 := HC8.out
            have hs7 := HS7.out
            rw [← hfb] at hc8 hs7
            rw [hfb2]
            have hnf : ∀ b, w.heap.size ≤ b → ¬ foot own b := fun b hb hf => by have := HFT.out b hf; omega
            have hP8 := HP5.out.below H58.out
            have hL8 := bthen HLow5.out H58.out
            have hB2 := HBB.out
            have hdo := does_disk hP8 [(67, #[], #[ptrV lb, ptrV bb]), (68, #[], #[ptrV lb, ptrV nb]), (45, #[ptrV dg], #[])] (some ⟨fb, 0, none⟩) 3 (CellsAt.of_block hc8) (fun ad had hf => by
                refine hnf _ ?_ hf
                rw [← Option.some.inj had]
                exact hs7) (snapR d L b) rfl (snapR_stays d L b) (fun i f wx hf hq hst => by
                obtain ⟨hO, recs', own', hdx, htx⟩ := hst
                have hpx := hP8.disk hdx hO htx
                obtain ⟨sA', sC', rA', rC', rblk', qs', Mx⟩ := hpx.log
                have hhx : Home w0 wx (foot own') := by
                  have h1 : Home w0 w (foot own) := ⟨HH.out.tabs, HH.out.low, fun b hb => HH.out.foot b (.inl hb)⟩
                  exact (h1.next hL8).turned htx
                have hlbx := htx.kept.blk (bblk H58.out HLK5.out) (hnf _ HLB2.out.1)
                have hbbx := htx.kept.blk (bblk H58.out HBK5.out) (hnf _ HLB2.out.2.1)
                have hnbx := htx.kept.blk HNB.out (hnf _ HNL.out)
                have hX8 := HX5.out.below H58.out
                have hlt3 := (List.getElem?_eq_some_iff.1 hf).1
                simp only [List.length_cons, List.length_nil] at hlt3
                have hend : ∀ {r : DiskS × Nat} {e : Ending} {w' : World}, DPost wx dg own' r e w' → e = .returned (.int .i64 r.2) ∧ DSt _ dg own r.1 w' := fun h => by
                  obtain ⟨h0, h1, recs2, own2, h2, h3⟩ := h
                  exact ⟨h0, h1, recs2, own2, h2, htx.trans h3⟩
                match i, hlt3 with
                | 0, _ =>
                  obtain rfl := Option.some.inj hf
                  exact (snap1_any hdx hO hhx Mx hlbx b B2 C2 hbbx (hX8.kept htx.kept fun ad had _ => hnf _ (hB2 ad had)) (by omega) (fun ad had hf => by
                    obtain ⟨b', o', rfl, hlt⟩ := hX8.src.plain ad had
                    exact hnf _ (hB2 _ had) (htx.foot _ hlt hf)) (by have := HL.out.epoch; omega)).mono fun e w' h => hend h
                | 1, _ =>
                  obtain rfl := Option.some.inj hf
                  have hr2 : snapR d L b (1 + 1) = Dk.remove (snapR d L b 1).1 (nameW L.epoch) := by
                    show next (make1W d (L.epoch + 1) b) (Dk.remove · (nameW L.epoch)) = Dk.remove (make1W d (L.epoch + 1) b).1 (nameW L.epoch)
                    have hq2 : (make1W d (L.epoch + 1) b).2 = 0 := hq
                    unfold next
                    rw [if_pos hq2]
                  rw [hr2]
                  exact (snap2_any hdx hO Mx hlbx (nameW L.epoch) (by rw [HNV.out]; exact hnbx) (by have := nameW_len L.epoch (by have := HL.out.epoch; omega); unfold maxLen; omega)).mono fun e w' h => hend h
                | 2, _ =>
                  obtain rfl := Option.some.inj hf
                  have hr2 : snapR d L b (2 + 1) = syncDir (snapR d L b 2).1 := by
                    show next (next (make1W d (L.epoch + 1) b) (Dk.remove · (nameW L.epoch))) syncDir = syncDir (next (make1W d (L.epoch + 1) b) (Dk.remove · (nameW L.epoch))).1
                    have hq2 : (next (make1W d (L.epoch + 1) b) (Dk.remove · (nameW L.epoch))).2 = 0 := hq
                    generalize next (make1W d (L.epoch + 1) b) (Dk.remove · (nameW L.epoch)) = r at hq2
                    unfold next
                    rw [if_pos hq2]
                  rw [hr2]
                  exact (syncdir_any hdx hO).mono fun e w' h => hend h) (fun f hf args w => by
                simp only [List.mem_cons, List.not_mem_nil, or_false] at hf
                rcases hf with rfl | rfl | rfl <;> kernel_rfl) (by simp)
            refine hdo.mono ?_
            clear hdo
            rintro e w9 ⟨rfl, own7, hp7, ht7⟩
            rw [show ([(67, #[], #[ptrV lb, ptrV bb]), (68, #[], #[ptrV lb, ptrV nb]), (45, #[ptrV dg], #[])] : List (Nat × Array Value × Array Value)).length = 3 from rfl] at hp7 ⊢
            generalize hra : snapR d L b 3 = r at hp7 Hr ⊢
            obtain ⟨d7, q⟩ := r
            simp only [] at hp7 Hr ⊢
            have HT7 := Lib.hid ((Turned.below hL8).trans ht7)
            have HP7 := Lib.hid hp7
            have hnb : ∀ b, w.heap.size ≤ b → ¬ both own lf b := fun b hb hf => hf.elim (hnf b hb) fun h => by have := HLF.out b h; omega
            have hlk7 := ht7.kept.blk (bblk H58.out HLK5.out) (hnb _ HLB2.out.1)
            have hbk7 := ht7.kept.blk (bblk H58.out HBK5.out) (hnb _ HLB2.out.2.1)
            have cl7 : w9.cell? ⟨lb, 0, none⟩ = some (.pointer (some ⟨g, 0, none⟩)) := cell_block hlk7 rfl
            have cb7 : w9.cell? ⟨bb, 0, none⟩ = some (.slice B2 b.length C2) := cell_block hbk7 rfl
            have hll7 := in_heap hlk7
            have hbl7 := in_heap hbk7
            clear hp7 ht7 hc8 hs7 hfb hfb2 hnf hP8 hL8 hB2 hlk7 hbk7 hnb HP5 HX5 HBK5 HLK5 HC8 HS7
            by_cases hq : q = 0
            · subst hq
              rw [if_pos rfl] at HP7
              have hr := Hr.out
              rw [if_pos rfl] at hr
              have HRR := Lib.hid hr
              obtain ⟨sA, sC, rA, rC, rblk, qs, M7⟩ := HP7.out.log
              have HM7 := Lib.hid M7
              have c1 : w9.cell? ⟨g, 1, none⟩ = some (.int .i64 L.epoch) := cell_block M7.row rfl
              have fz := frozen_row M7.row
              have hg7 := in_heap M7.row
              clear hr M7
              simp only [Int.natCast_zero] at *
              go_upto_region 18 with (fail)
              have hk1 : Kept (· = g) w9 (w9.setCell ⟨g, 1, none⟩ (.int .i64 ((L.epoch : Int) + 1))) := (Kept.refl (· = g) w9).setCell _ _ (.inl rfl)
              have M11 := HM7.out.rerow hk1 (fun b _ hn => hn) { L with epoch := L.epoch + 1 } rfl rfl (by rw [setCell_one HM7.out.row]; simp [logRow])
              have hlg : ¬ lb = g := fun e => by have := HLF.out _ (e ▸ HM7.out.me); have := HLB2.out.1; omega
              have hbg : ¬ bb = g := fun e => by have := HLF.out _ (e ▸ HM7.out.me); have := HLB2.out.2.1; omega
              have hX11 : Txt (w9.setCell ⟨g, 1, none⟩ (.int .i64 ((L.epoch : Int) + 1))) A p.length C p := (HX.out.kept HT7.out.kept fun ad had _ => HPF.out ad had).kept hk1 fun ad had _ e => HPF.out ad had (.inr (e ▸ HM7.out.me))
              have cl11 : (w9.setCell ⟨g, 1, none⟩ (.int .i64 ((L.epoch : Int) + 1))).cell? ⟨lb, 0, none⟩ = some (.pointer (some ⟨g, 0, none⟩)) := hk1.cell cl7 hlg
              have cb11 : (w9.setCell ⟨g, 1, none⟩ (.int .i64 ((L.epoch : Int) + 1))).cell? ⟨bb, 0, none⟩ = some (.slice B2 b.length C2) := hk1.cell cb7 hbg
              have HK1 := Lib.hid hk1
              obtain ⟨w11, hw11⟩ : ∃ w11, w11 = w9.setCell ⟨g, 1, none⟩ (.int .i64 ((L.epoch : Int) + 1)) := ⟨_, rfl⟩
              rw [← hw11] at M11 hX11 cl11 cb11 HK1 ⊢
              have hg11 := in_heap M11.row
              have hl11 : lb < w11.heap.size := Nat.lt_of_lt_of_le hll7 HK1.out.size
              have hb11 : bb < w11.heap.size := Nat.lt_of_lt_of_le hbl7 HK1.out.size
              have z1 : 0 + p.length ≤ maxLen := by unfold maxLen; omega
              have z2 : (0 + p.length) * 1 ≤ 140737488355328 := by omega
              have h1d : RowKit.Below w11.heap.size w11 w11.drew := (Below.refl _ _).drew
              obtain ⟨w12, hw12⟩ : ∃ W, W = w11.drew.alloc (.cells #[] 5) := ⟨_, rfl⟩
              have h12 : RowKit.Below w11.heap.size w11 w12 := by rw [hw12]; exact bthen h1d (low1 _ _)
              have hbl12 : w12.heap[w11.drew.heap.size]? = some (.cells #[] 5 (0, 0)) := by rw [hw12]; exact blk1 _ _
              obtain ⟨B9, D9, w13, b9, hrun9, ho9, hg9, hb9⟩ := run_app (P := Tryz.prog) 22 22 _ Tryz.underlying22 info_u8r rfl (by decide) (OwnR.of_row hbl12 (Nat.le_refl _) (Nat.zero_le _) rfl rfl) A p.length C (p.map V8) (by simp) (hX11.below h12).src.at_.cells hX11.src.nil hX11.src.od (bone p) z1 z2
              simp only [Nat.zero_add] at hrun9 ho9
              have h13 : RowKit.Below w11.heap.size w11 w13 := ((Kept.of_below (F := fun b => b = w11.drew.heap.size) h12).grown hg9 fun b hb => .inl (Option.some.inj hb).symm).below fun b hlt e => by have := h1d.size; omega
              have hall : ∀ l W, seqW2 w11.drew w12 w13 l W → W.cell? ⟨lb, 0, none⟩ = some (.pointer (some ⟨g, 0, none⟩)) := fun l W h => by
                have key : ∀ {W}, RowKit.Below w11.heap.size w11 W → W.cell? ⟨lb, 0, none⟩ = some (.pointer (some ⟨g, 0, none⟩)) := fun hb => (hb.cell (p := ⟨lb, 0, none⟩) hl11).trans cl11
                rcases seqW2_one h with rfl | rfl | rfl
                · exact key h1d
                · exact key h12
                · exact key h13
              obtain ⟨k, hk, hkn⟩ : ∃ k, b9 = some k ∧ w11.heap.size ≤ k := by
                rcases hb9 with e | e
                · exact ⟨_, e, h1d.size⟩
                · exact ⟨_, e, by rw [hw12]; simp⟩
              have M13 := M11.kept (Kept.of_below (F := fun _ => False) h13) (fun _ _ => id)
              have cl13 : w13.cell? ⟨lb, 0, none⟩ = some (.pointer (some ⟨g, 0, none⟩)) := (h13.cell (p := ⟨lb, 0, none⟩) hl11).trans cl11
              have cb13 : w13.cell? ⟨bb, 0, none⟩ = some (.slice B2 b.length C2) := (h13.cell (p := ⟨bb, 0, none⟩) hb11).trans cb11
              have c2 : w13.cell? ⟨g, 2, none⟩ = some (.slice sA L.state.length sC) := cell_block M13.row rfl
              have c3 : w13.cell? ⟨g, 3, none⟩ = some (.slice rA L.records.length rC) := cell_block M13.row rfl
              have c4 : w13.cell? ⟨g, 4, none⟩ = some (.int .i64 L.size) := cell_block M13.row rfl
              have fz13 := frozen_row M13.row
              have hg13 := in_heap M13.row
              have hl13 : lb < w13.heap.size := Nat.lt_of_lt_of_le hl11 h13.size
              have hb13 : bb < w13.heap.size := Nat.lt_of_lt_of_le hb11 h13.size
              have HALL2 := Lib.hid hall
              have HW12 := Lib.hid hw12
              have HRUN9 := Lib.hid hrun9
              have HO9 := Lib.hid ho9
              have HK := Lib.hid hk
              have HKN := Lib.hid hkn
              have HM13 := Lib.hid M13
              have H13 := Lib.hid h13
              have HG11 := Lib.hid hg11
              have hlg' : ¬ g = lb := fun e => hlg e.symm
              have hbg' : ¬ g = bb := fun e => hbg e.symm
              clear hk1 M11 hX11 cl11 cb11 hw11 hl11 hb11 h1d hw12 h12 hbl12 hrun9 ho9 hg9 hb9 h13 hall hk hkn M13 c1 fz hg7 cl7 cb7 hll7 hbl7 he0 he9 h1' h3' hbl hb0 z1 z2 hg11
              -- REGION18
              refine wp_region_inv 6 96 (fun _ _ => True) [1, 3] (seqW2 w11.drew w12 w13) (by kernel_rfl) (by kernel_rfl) (by kernel_rfl) (by kernel_rfl) (by kernel_rfl) [.is (.pointer (some ⟨g, 0, none⟩) : Value), .is (.slice (some ⟨w11.drew.heap.size, 0, none⟩) 0 0 : Value), .is (.slice A p.length C : Value), .is (.slice B9 p.length D9 : Value), .is (.pointer (some ⟨g, 0, none⟩) : Value), .is (.pointer (some ⟨g, 2, none⟩) : Value)] rfl (rfl) (fun vs => ?_) (fun vs wr hI h => ?_)
              · refine RegHeadI.cons (fun S wr hd hSk hSd hI h => ?_) ?_
                · exact relAtI.pureS ⟨trivial, keepI (by decide) hI⟩ (by kernel_rfl) (by kernel_rfl) (run_load_plog (HALL2.out _ _ hI))
                refine RegHeadI.cons (fun S wr hd hSk hSd hI h => ?_) ?_
                · have s3 : S 3 = false := hd.not 6 hSk (by decide) (by decide)
                  have hw : wr = w11.drew := by have hI := hI; simp only [List.map, hSk] at hI; exact hI
                  subst hw
                  exact relAtI.valueS (by kernel_rfl) (by kernel_rfl) (run_build_none _) ⟨trivial, by simp only [List.map, setB, s3]; exact HW12.out.symm⟩ rfl
                refine RegHeadI.cons (fun S wr hd hSk hSd hI h => ?_) ?_
                · exact relAtI.pure ⟨trivial, keepI (by decide) hI⟩ (by kernel_rfl) (by kernel_rfl)
                refine RegHeadI.cons (fun S wr hd hSk hSd hI h => ?_) ?_
                · have s1 : S 1 = true := hSd 1 (by decide)
                  have hw : wr = w12 := by have hI := hI; simp only [List.map, hSk, s1] at hI; exact hI
                  subst hw
                  exact relAtI.valueS (by kernel_rfl) (by kernel_rfl) HRUN9.out ⟨trivial, by simp only [List.map, setB, s1]; rfl⟩ rfl
                refine RegHeadI.cons (fun S wr hd hSk hSd hI h => ?_) ?_
                · exact relAtI.pure ⟨trivial, keepI (by decide) hI⟩ (by kernel_rfl) (by kernel_rfl)
                refine RegHeadI.cons (fun S wr hd hSk hSd hI h => ?_) ?_
                · exact relAtI.pure ⟨trivial, keepI (by decide) hI⟩ (by kernel_rfl) (by kernel_rfl)
                exact trivial
              · have hw : wr = w13 := hI
                subst hw
                clear h hI HALL2
                refine wp_frame (new := [(.pointer (some ⟨g, 0, none⟩) : Value), (.slice (some ⟨w11.drew.heap.size, 0, none⟩) 0 0 : Value), (.slice A p.length C : Value), (.slice B9 p.length D9 : Value), (.pointer (some ⟨g, 0, none⟩) : Value), (.pointer (some ⟨g, 2, none⟩) : Value)]) 82 88 (by kernel_rfl) ?_
                simp only [List.take, List.drop, List.cons_append, List.nil_append]
                -- END18
                go_wp2_with fail
                go_ret
                rw [HRR.out]
                have HO := HO9.out
                simp only [List.take_nil, List.nil_append] at HO
                have hk := HK.out
                subst hk
                have hBk := own_addr HO
                subst hBk
                have hkn := HKN.out
                have hrl : ∀ b, rblk = some b → b < w11.heap.size := fun b e => Nat.lt_of_lt_of_le (HM7.out.recs.row.lt b e) HK1.out.size
                have Ma := HM13.out.setState (base := w11.heap.size) HG11.out H13.out.size HO.txt (fun ad had => by rw [← Option.some.inj had]; exact hkn) (fun ad had e => by
                  have h1 := hrl _ e
                  rw [← Option.some.inj had] at h1
                  have h2 : k < w11.heap.size := h1
                  omega)
                have hsz2 : (wr.setCell ⟨g, 2, none⟩ (.slice (some ⟨k, 0, none⟩) p.length D9)).heap.size = wr.heap.size := by simp [World.setCell]
                have Mb := Ma.setRecs (base := w11.heap.size) (l := []) (A := none) (C := 0) (blk := none) (qs' := []) (Bunch.nil _ _ _ _) rfl (fun b h => by cases h) (fun _ => rfl) (fun q h => by cases h) HG11.out (fun _ _ e => by cases e)
                have hk4 : Kept (· = g) ((wr.setCell ⟨g, 2, none⟩ (.slice (some ⟨k, 0, none⟩) p.length D9)).setCell ⟨g, 3, none⟩ (.slice none 0 0)) (((wr.setCell ⟨g, 2, none⟩ (.slice (some ⟨k, 0, none⟩) p.length D9)).setCell ⟨g, 3, none⟩ (.slice none 0 0)).setCell ⟨g, 4, none⟩ (.int .i64 b.length)) := (Kept.refl (· = g) _).setCell _ _ (.inl rfl)
                have Mc := Mb.rerow hk4 (fun b _ hn => hn) { epoch := L.epoch + 1, state := p, records := [], size := b.length, cut := L.cut, broken := L.broken } rfl rfl (by refine (setCell_one Mb.row (.int .i64 b.length)).trans ?_; simp [logRow])
                have hkE : Kept (· = g) wr (((wr.setCell ⟨g, 2, none⟩ (.slice (some ⟨k, 0, none⟩) p.length D9)).setCell ⟨g, 3, none⟩ (.slice none 0 0)).setCell ⟨g, 4, none⟩ (.int .i64 b.length)) := (((Kept.refl (· = g) _).setCell _ _ (.inl rfl)).setCell _ _ (.inl rfl)).setCell _ _ (.inl rfl)
                have hkT := (HK1.out.low H13.out).then hkE
                obtain ⟨recs7, hd7⟩ := HP7.out.dat
                have hap := HP7.out.apart
                have hl := HL.out
                have hs11 := HK1.out.size
                refine ⟨rfl, own7, _, ⟨⟨recs7, hd7.kept hkT fun b hb e => hap b (e ▸ HM7.out.me) hb⟩, HP7.out.ok, ⟨_, _, _, _, _, _, Mc⟩, fun b hb hf => ?_, ⟨?_, ?_, fun r hr => (by cases hr), Nat.zero_le _, ?_, hl.cut⟩⟩, HT7.out.trans ⟨hkT.mono fun b _ e => .inr (e ▸ HM7.out.me), fun b hlt hb => ?_⟩⟩
                · have h9 := hd7.lt b hf
                  rcases hb with (h | h) | h
                  · exact hap b h hf
                  · omega
                  · omega
                · have h1 := HN3.out
                  have h2 := hl.epoch
                  show 1 ≤ L.epoch + 1 ∧ L.epoch + 1 ≤ 1099511627776
                  omega
                · have := HN1.out
                  show p.length ≤ 1048576
                  omega
                · have := HBL.out
                  show b.length ≤ 4194304
                  omega
                · rcases hb with h | (h | h) | h
                  · exact .inl h
                  · exact .inr h
                  · omega
                  · omega
            · have hr := Hr.out
              rw [if_neg hq] at hr HP7
              have HRR := Lib.hid hr
              have hq' : ¬ (q : Int) = 0 := by omega
              clear hr hq Hr
              clear he0 he9 h1' h3' hbl hb0
              go_wp2
              go_ret
              rw [HRR.out]
              exact ⟨rfl, own7, lf, HP7.out, HT7.out⟩
end
end Go.Proofs.YtgpenpnobjecgaaGreatDoor
