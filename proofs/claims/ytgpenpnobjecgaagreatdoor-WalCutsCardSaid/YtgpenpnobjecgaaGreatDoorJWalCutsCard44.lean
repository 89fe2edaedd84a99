/- WalCuts: the law tells true. -/
import Derived.Test.YtgpenpnobjecgaaGreatDoorJWalCutsCard42
import Derived.Test.YtgpenpnobjecgaaGreatDoorJWalCutsCard43
/- LawCuts -/
namespace Go.Proofs.YtgpenpnobjecgaaGreatDoor
set_option maxRecDepth 100000
open Go.RowKit Dk

theorem rem_nat (a b : Nat) (hb : ¬ b = 0) (t : TypeId) : binOp .rem t (.int .i64 a) (.int .i64 b) = pure (.int .i64 ((a % b : Nat) : Int)) := by
  show Op.intDiv .rem .i64 (a : Int) (b : Int) = _
  unfold Op.intDiv
  rw [if_neg (by simpa using hb)]
  show pure (Value.int .i64 ((a : Int).tmod b)) = _
  rw [Int.tmod_eq_emod_of_nonneg (by omega)]
  rfl
set_option maxRecDepth 100000 in
set_option maxHeartbeats 4000000 in
theorem cuts_in {n : Nat} {torn : Int} {st p : Bs} {rs : List Bs} {A B R : Option Addr} {C D K : Nat} {w : World} (hT : Tabs6 w) (h1 : 1 ≤ n) (h2 : n < 1099511627776) (hs : st.length ≤ 1048576) (hp : p.length ≤ 65536) (hc : rs.length ≤ 10000)
    (ht : -9223372036854775808 ≤ torn ∧ torn ≤ 9223372036854775807) (X : TxtW w A st.length C st) (Y : RowsW w R rs.length rs) (Z : TxtW w B p.length D p) :
    Calls Tryz.prog 3 #[tornV n torn A B R st.length p.length rs.length C D K] w fun e w' => e = .returned (.bool true) ∧ RowKit.Below w.heap.size w w' := by
  have HT := Lib.hid hT
  have HX := Lib.hid X
  have HY := Lib.hid Y
  have HZ := Lib.hid Z
  have HN := Lib.hid (show 1 ≤ n ∧ n < 1099511627776 ∧ st.length ≤ 1048576 ∧ p.length ≤ 65536 ∧ rs.length ≤ 10000 from ⟨h1, h2, hs, hp, hc⟩)
  have HTN := Lib.hid ht
  have k1 : decide ((n : Int) < 1) = false := by simp; omega
  have k2 : decide ((1099511627776 : Int) ≤ n) = false := by simp; omega
  have k3 : decide ((1048576 : Int) < st.length) = false := by simp; omega
  have k4 : decide ((65536 : Int) < p.length) = false := by simp; omega
  have k5 : decide ((10000 : Int) < rs.length) = false := by simp; omega
  clear hT X Y Z h1 h2 hs hp hc ht
  unfold tornV
  go_enter Tryz.func3, Tryz.ntmps3
  go_wp2
  go_quiet (fail)
  have HB := Lib.hid (bthen (low1 w (.cells #[Value.int .i64 n, .slice A st.length C, .slice R rs.length K, .slice B p.length D, .int .i64 torn] 25)) (below_drewN _ nq))
  go_wp2
  clear k1 k2 k3 k4 k5
  generalize (w.alloc (.cells #[Value.int .i64 n, .slice A st.length C, .slice R rs.length K, .slice B p.length D, .int .i64 torn] 25)).drewN nq = wa at HB ⊢
  go_loopw [8] (fun iv wr => ∃ i : Nat, iv = .int .i64 i ∧ Hid (i ≤ rs.length ∧ (∀ j r, j < i → rs[j]? = some r → r.length ≤ 65536) ∧ RowKit.Below w.heap.size w wr)) (fun iv _ => rs.length - (intOf iv).toNat)
  case atStart => exact ⟨0, rfl, Lib.hid ⟨Nat.zero_le _, fun j r h => absurd h (Nat.not_lt_zero _), HB.out⟩⟩
  case round =>
    obtain ⟨i, rfl, hI⟩ := hrel
    by_cases hlt : i < rs.length
    · have h1 : (i : Int) < rs.length := by omega
      obtain ⟨r, hr⟩ : ∃ r, rs[i]? = some r := ⟨_, List.getElem?_eq_getElem hlt⟩
      obtain ⟨b, o, Br, cr, rfl, q1, q2⟩ := (HY.out.below hI.out.2.2).each i r hr
      have Hr := Lib.hid hr
      clear q2 hr
      by_cases hl : 65536 < r.length
      · have h2 : (65536 : Int) < r.length := by omega
        clear hl
        go_wp2_with (go_at_call 10; refine (l6live_any (HT.out.low hI.out.2.2)).mono ?_; rintro e w9 ⟨rfl, h9⟩; have H9 := Lib.hid (bthen hI.out.2.2 h9); clear h9)
        go_ret
        exact ⟨rfl, H9.out⟩
      · have h2 : ¬ (65536 : Int) < r.length := by omega
        have HL := Lib.hid hl
        clear hl
        have hi : i < 10000 := by have := HN.out; omega
        go_wp2
        go_roundw
        case rel =>
          refine ⟨i + 1, by go_num, Lib.hid ⟨by omega, fun j x hj hx => ?_, hI.out.2.2⟩⟩
          rcases Nat.lt_or_ge j i with h | h
          · exact hI.out.2.1 j x h hx
          · obtain rfl : j = i := by omega
            rw [Hr.out] at hx
            obtain rfl := Option.some.inj hx
            have := HL.out
            omega
        case measure => simp [intOf]; omega
    · obtain rfl : i = rs.length := by have := hI.out.1; omega
      have h1 : ¬ (rs.length : Int) < (rs.length : Int) := by omega
      have HR : Hid (∀ r ∈ rs, r.length ≤ 65536) := Lib.hid fun r hr => by
        obtain ⟨j, hj⟩ := List.getElem?_of_mem hr
        exact hI.out.2.1 j r (List.getElem?_eq_some_iff.1 hj).1 hj
      have HBr := Lib.hid hI.out.2.2
      clear hI hlt HB
      have hby := Lib.hid (r6bytes_any n st rs A C R K wr (HX.out.below HBr.out) (HY.out.below HBr.out) (by have := HN.out; omega) HN.out.2.2.1 HR.out (by have := HN.out; omega))
      go_wp2_with fail
      go_at_call 11
      refine hby.out.mono ?_
      rintro e w2 ⟨B2, C2, b2, rfl, F2⟩
      have F2 := Lib.hid (F2.since HBr.out)
      clear hby
      have hfr := Lib.hid (r6frame_any 2 (rs.length + 1) p B D w2 (HZ.out.below F2.out.low) (by decide) (by have := HN.out; omega) (by have := HN.out; omega))
      rw [show (V8 2) = .int .u8 2 from rfl, Int.natCast_add, Int.natCast_one] at hfr
      have hlb := recsW_len rs 1 (by have := HN.out; omega) HR.out
      have hlen1 : (bytesW n st rs).length ≤ 700000000 := by
        unfold bytesW
        rw [List.length_append, sealW_len]
        have := groups_len n (by have := HN.out; omega)
        have := HN.out
        omega
      have hlen2 : (sealW 2 (rs.length + 1) p).length ≤ 70000 := by
        rw [sealW_len]
        have := groups_len (rs.length + 1) (by have := HN.out; omega)
        have := HN.out
        omega
      have hlen3 : 10 ≤ (sealW 2 (rs.length + 1) p).length := by
        rw [sealW_len]
        have : 1 ≤ (groups (rs.length + 1)).length := by
          by_cases h : rs.length + 1 < 128
          · rw [groups_small h]; simp
          · rw [groups_more h]; simp
        omega
      have hplain := fun (cut : Nat) => cuts_plain (n := n) (st := st) (rs := rs) (p := p) (cut := cut) HN.out.1 HN.out.2.1 HN.out.2.2.1 HR.out HN.out.2.2.2.2 HN.out.2.2.2.1
      have HPL := Lib.hid hplain
      obtain ⟨bb, hbb⟩ : ∃ bb, bb = bytesW n st rs := ⟨_, rfl⟩
      obtain ⟨ff, hff⟩ : ∃ ff, ff = sealW 2 (rs.length + 1) p := ⟨_, rfl⟩
      rw [← hbb] at F2 hlen1 ⊢
      rw [← hff] at hfr hlen2 hlen3
      have HBB := Lib.hid hbb
      have HFF := Lib.hid hff
      have HL3 := Lib.hid hlen3
      have HBN := Lib.hid (show bb ≠ [] from fun e => by
        have := congrArg List.length (hbb.symm.trans e)
        unfold bytesW at this
        rw [List.length_append, sealW_len] at this
        simp at this)
      clear hplain hlb hbb hff hlen3
      have hrl : rs.length ≤ 10000 := HN.out.2.2.2.2
      go_wp2_with fail
      go_at_call 12
      refine hfr.out.mono ?_
      rintro e w3 ⟨B3, C3, b3, rfl, F3⟩
      have F3' := Lib.hid (F3.since F2.out.low)
      have F2 := Lib.hid (F2.out.next F3.low)
      clear F3
      have F3 := F3'
      clear F3'
      clear hfr hrl
      by_cases hsum : 4194304 < bb.length + ff.length
      · have h2 : (4194304 : Int) < (bb.length : Int) + ff.length := by omega
        clear hsum
        go_wp2_with (go_at_call 10; refine (l6live_any (HT.out.low F3.out.low)).mono ?_; rintro e w9 ⟨rfl, h9⟩; have H9 := Lib.hid (bthen F3.out.low h9); clear h9)
        go_ret
        exact ⟨rfl, H9.out⟩
      · have h2 : ¬ (4194304 : Int) < (bb.length : Int) + ff.length := by omega
        have HSM := Lib.hid (show bb.length + ff.length ≤ 4194304 by omega)
        clear hsum
        go_upto_if 81 with (fail)
        go_cut [11] from 12 (fun s11 wx => ∃ cut : Nat, s11 = .int .i64 cut ∧ Hid (cut < ff.length ∧ w3 = wx))
        case first =>
          by_cases hc : 0 < torn
          · obtain ⟨tn, rfl⟩ : ∃ tn : Nat, torn = tn := ⟨torn.toNat, by omega⟩
            have hz : ¬ ff.length = 0 := by have := HL3.out; omega
            have hrem := rem_nat tn ff.length hz
            have HC := Lib.hid (Nat.mod_lt tn (show ff.length > 0 by omega))
            clear hz
            go_wp2
            go_meet
            exact ⟨tn % ff.length, by simp, Lib.hid ⟨HC.out, rfl⟩⟩
          · have h3 : ¬ (0 : Int) < torn := hc
            go_wp2
            go_meet
            exact ⟨0, rfl, Lib.hid ⟨by have := HL3.out; omega, rfl⟩⟩
        case rest =>
          obtain ⟨cut, rfl, hcw⟩ := hcut
          have HC := Lib.hid hcw.out.1
          obtain rfl := hcw.out.2
          clear hcw h2
          go_wp2
          obtain ⟨g2, rfl⟩ : ∃ g, B2 = some ⟨g, 0, none⟩ := by
            rcases F2.out.own.form with ⟨_, h0, _⟩ | ⟨g, _, hg, _⟩
            · exact absurd (List.eq_nil_of_length_eq_zero h0) HBN.out
            · exact ⟨g, hg⟩
          obtain ⟨g3, rfl⟩ : ∃ g, B3 = some ⟨g, 0, none⟩ := by
            rcases F3.out.own.form with ⟨_, h0, _⟩ | ⟨g, _, hg, _⟩
            · have := HL3.out; omega
            · exact ⟨g, hg⟩
          have HTL := Lib.hid (show (ff.take cut).length = cut by rw [List.length_take]; have := HC.out; omega)
          have HNF := Lib.hid (show ¬ Flagged w3.drew.heap.size w3.drew from fun ⟨g, _, _, h1, h2⟩ => by have := (Array.getElem?_eq_some_iff.1 h2).1; omega)
          have HSL := Lib.hid (fun W => show (Instr.sliceAt 22 (.slice (some ⟨g3, 0, none⟩) ff.length C3) none (some (.int .i64 (cut : Int))) none).run Tryz.prog W = .ok (.slice (some ⟨g3, 0, none⟩) cut C3) W from (run_sliceAt_slice (P := Tryz.prog) (w := W) 22 _ _ _ _ Tryz.underlying22).trans <| run_sl_h W g3 0 ff.length C3 (cut : Int) cut (by omega) (by omega) (by have := HC.out; have := F3.out.own.cap.1; omega) (by have := HC.out; have := F3.out.own.cap.1; omega))
          have HBB2 := Lib.hid (fun W (hW : RowKit.Below w3.drew.heap.size w3.drew W) => (F2.out.txt.below (Below.refl _ _).drew).below hW)
          have HFF2 := Lib.hid (fun W (hW : RowKit.Below w3.drew.heap.size w3.drew W) => show Txt W (some ⟨g3, 0, none⟩) (ff.take cut).length C3 (ff.take cut) by rw [HTL.out]; exact ((F3.out.txt.below (Below.refl _ _).drew).below hW).take (by have := HC.out; omega))
          obtain ⟨d, hnew, hopen⟩ := HPL.out cut (by rw [← HBB.out, ← HFF.out]; exact HSM.out) (by rw [← HFF.out]; exact HC.out)
          rw [← HBB.out, ← HFF.out] at hnew
          have HOP := Lib.hid hopen
          have HNW := Lib.hid (fun W b g C (hW : RowKit.Below w3.drew.heap.size w3.drew W) (hb : w3.drew.heap.size ≤ b) (hrow : W.heap[b]? = some (.cells #[strV (nameW n), .slice (some ⟨g, 0, none⟩) (bb ++ ff.take cut).length C] 35 (0, 0))) (ho : OwnB W w3.drew.heap.size g C (bb ++ ff.take cut)) =>
            show Calls Tryz.prog 13 #[.slice (some ⟨b, 0, none⟩) 1 1, .int .i64 (3 * (bb.length + ff.length : Int))] W (fun e w9 => ∃ dg, e = .returned (.tuple #[ptrV dg, .int .i64 0]) ∧ DRun w w9 dg d ∧ RowKit.Below W.heap.size W w9) from by
              have h1 : (3 * (bb.length + ff.length : Int)) = ((3 * (bb.length + ff.length) : Nat) : Int) := by omega
              rw [h1]
              exact run_new2 (l := [(nameW n, bb ++ ff.take cut)]) (bthen (bthen F2.out.low (Below.refl _ _).drew) hW) (files_one hb hrow ho) ⟨by omega, by have := HSM.out; omega⟩ (fun p hp => by rw [List.mem_singleton.1 hp]; have := nameW_len n (by have := HN.out; omega); show (nameW n).length ≤ maxLen; unfold maxLen; omega) (by simp) hnew)
          clear hnew hopen
          -- REGION17
          refine wp_region_inv 17 186 (Two w3.drew.heap.size bb (bb ++ ff.take cut) (nameW n)) [10] (cutI w3.drew) (by kernel_rfl) (by kernel_rfl) (by kernel_rfl) (by kernel_rfl) (by kernel_rfl) [.is (.int .i64 n : Value), .is (strV (nameW n)), yNil, .is (.slice (some ⟨g2, 0, none⟩) bb.length C2 : Value), yOne, .is (.slice (some ⟨g3, 0, none⟩) ff.length C3 : Value), .is (.int .i64 cut : Value), .is (.slice (some ⟨g3, 0, none⟩) cut C3 : Value), yTwo, yAgg, yRowF, .is (.int .i64 (3 * (bb.length + ff.length : Int)) : Value), yNew w d, yNew w d, yPtr w d, .is (.int .i64 0 : Value), yPtr w d] rfl (⟨Below.refl _ _, fun _ => HNF.out⟩) (fun vs => ?_) (fun vs wr hI h => ?_)
          · refine RegHeadI.cons (fun S wr hd hSk hSd hI h => ?_) ?_
            · exact relAtI.pure ⟨Two.refl _, keepI (by decide) hI⟩ (by kernel_rfl) (by kernel_rfl)
            refine RegHeadI.cons (fun S wr hd hSk hSd hI h => ?_) ?_
            · exact relAtI.call (by kernel_rfl) (by kernel_rfl) ((r6name_u n (by have := HN.out; omega) wr).mono fun e w9 h9 => ⟨_, h9.1, ⟨.of_low h9.2.low, keepI (by decide) (hI.lowU h9.2)⟩, rfl⟩)
            refine RegHeadI.cons (fun S wr hd hSk hSd hI h => ?_) ?_
            · exact relAtI.valueS (by kernel_rfl) (by kernel_rfl) (run_build_none wr) ⟨.of_low (low1 _ _), keepI (by decide) (hI.lowU (lowU1 _ _))⟩ ⟨_, rfl, hI.1.size, blk1 _ _⟩
            refine RegHeadI.cons (fun S wr hd hSk hSd hI h => ?_) ?_
            · exact relAtI.pure ⟨Two.refl _, keepI (by decide) hI⟩ (by kernel_rfl) (by kernel_rfl)
            refine RegHeadI.cons (fun S wr hd hSk hSd hI h => ?_) ?_
            · obtain ⟨g9, hv9, hn9, hb9⟩ : ∃ g, vs 2 = .slice (some ⟨g, 0, none⟩) 0 0 ∧ w3.drew.heap.size ≤ g ∧ wr.heap[g]? = some (.cells #[] 5 (0, 0)) := allOf_iff.1 h 2 (by decide)
              obtain ⟨g8, C8, w8, hr8, ho8, hl8, hn8⟩ := app_first wr g9 hb9 (HBB2.out wr hI.1) (by have := HSM.out; omega) HBN.out 22
              rw [← hv9] at hr8
              exact relAtI.valueS (s := Builtin.append_ #[22, 22] 22 #[vs 2, .slice (some ⟨g2, 0, none⟩) bb.length C2]) (by kernel_rfl) (by kernel_rfl) hr8 ⟨.of_low hl8.low, keepI (by decide) (hI.lowU hl8)⟩ ⟨g8, C8, rfl, Nat.le_trans hI.1.size hn8, ho8⟩
            refine RegHeadI.cons (fun S wr hd hSk hSd hI h => ?_) ?_
            · exact relAtI.pure ⟨Two.refl _, keepI (by decide) hI⟩ (by kernel_rfl) (by kernel_rfl)
            refine RegHeadI.cons (fun S wr hd hSk hSd hI h => ?_) ?_
            · exact relAtI.pure ⟨Two.refl _, keepI (by decide) hI⟩ (by kernel_rfl) (by kernel_rfl)
            refine RegHeadI.cons (fun S wr hd hSk hSd hI h => ?_) ?_
            · exact relAtI.pureS ⟨Two.refl _, keepI (by decide) hI⟩ (by kernel_rfl) (by kernel_rfl) (HSL.out wr)
            refine RegHeadI.cons (fun S wr hd hSk hSd hI h => ?_) ?_
            · obtain ⟨g9, C9, hv9, ho9⟩ : ∃ g C, vs 4 = .slice (some ⟨g, 0, none⟩) bb.length C ∧ OwnB wr w3.drew.heap.size g C bb := allOf_iff.1 h 4 (by decide)
              have h10 : S 10 = false := hd.not 17 hSk (by decide) (by decide)
              have hnf : ¬ Flagged w3.drew.heap.size wr := hI.2 (by simp only [List.map, h10])
              obtain ⟨g8, C8, w8, hr8, ho8, htwo, hlow, hnf8⟩ := app_second (s := nameW n) wr hI.1.size hnf ho9 (HFF2.out wr hI.1) HBN.out (by rw [HTL.out]; have := HSM.out; have := HC.out; omega) 22
              rw [← hv9, HTL.out] at hr8
              exact relAtI.valueS (s := Builtin.append_ #[22, 22] 22 #[vs 4, .slice (some ⟨g3, 0, none⟩) cut C3]) (by kernel_rfl) (by kernel_rfl) hr8 ⟨htwo, keepI (by decide) ⟨hI.1.trans hlow, fun _ => hnf8⟩⟩ ⟨g8, C8, by rw [List.length_append, HTL.out], ho8⟩
            refine RegHeadI.cons (fun S wr hd hSk hSd hI h => ?_) ?_
            · obtain ⟨g9, C9, hv9, ho9⟩ : ∃ g C, vs 8 = .slice (some ⟨g, 0, none⟩) (bb ++ ff.take cut).length C ∧ OwnB wr w3.drew.heap.size g C (bb ++ ff.take cut) := allOf_iff.1 h 8 (by decide)
              have hrun : (Instr.build 35 #[(0, strV (nameW n)), (1, vs 8)]).run Tryz.prog wr = .ok (.agg #[strV (nameW n), .slice (some ⟨g9, 0, none⟩) (bb ++ ff.take cut).length C9]) wr := by rw [hv9]; exact run_build_file wr _ _ _ _
              exact relAtI.valueS (by kernel_rfl) (by kernel_rfl) hrun ⟨Two.refl _, keepI (by decide) hI⟩ ⟨g9, C9, rfl, ho9⟩
            refine RegHeadI.cons (fun S wr hd hSk hSd hI h => ?_) ?_
            · obtain ⟨g9, C9, hv9, ho9⟩ : ∃ g C, vs 9 = .agg #[strV (nameW n), .slice (some ⟨g, 0, none⟩) (bb ++ ff.take cut).length C] ∧ OwnB wr w3.drew.heap.size g C (bb ++ ff.take cut) := allOf_iff.1 h 9 (by decide)
              have hrun : (Instr.buildSlice 36 1 #[(0, vs 9)]).run Tryz.prog wr = .ok (.slice (some ⟨wr.heap.size, 0, none⟩) 1 1) (wr.alloc (.cells #[strV (nameW n), .slice (some ⟨g9, 0, none⟩) (bb ++ ff.take cut).length C9] 35)) := by rw [hv9]; exact run_build_afile wr _ _ _ _
              exact relAtI.valueS (by kernel_rfl) (by kernel_rfl) hrun ⟨.of_low (low1 _ _), by simp only [List.map, setB, if_true]; exact ⟨bthen hI.1 (low1 _ _), fun e => (by cases e)⟩⟩ ⟨_, g9, C9, rfl, hI.1.size, blk1 _ _, ho9.1, ho9.2.below (low1 _ _)⟩
            refine RegHeadI.cons (fun S wr hd hSk hSd hI h => ?_) ?_
            · exact relAtI.pure ⟨Two.refl _, keepI (by decide) hI⟩ (by kernel_rfl) (by kernel_rfl)
            refine RegHeadI.cons (fun S wr hd hSk hSd hI h => ?_) ?_
            · obtain ⟨b9, g9, C9, hv9, hn9, hb9, ho9⟩ : ∃ b g C, vs 10 = .slice (some ⟨b, 0, none⟩) 1 1 ∧ w3.drew.heap.size ≤ b ∧ wr.heap[b]? = some (.cells #[strV (nameW n), .slice (some ⟨g, 0, none⟩) (bb ++ ff.take cut).length C] 35 (0, 0)) ∧ OwnB wr w3.drew.heap.size g C (bb ++ ff.take cut) := allOf_iff.1 h 10 (by decide)
              refine relAtI.call (f := 13) (args := #[vs 10, .int .i64 (3 * (bb.length + ff.length : Int))]) (by kernel_rfl) (by kernel_rfl) ?_
              rw [hv9]
              refine (HNW.out wr b9 g9 C9 hI.1 hn9 hb9 ho9).mono ?_
              rintro e w9 ⟨dg, rfl, hD9, hl9⟩
              have hf9 : Flagged w3.drew.heap.size wr := ⟨b9, _, _, hn9, hb9⟩
              exact ⟨_, rfl, ⟨.of_low hl9, keepI (by decide) ⟨bthen hI.1 hl9, fun e hf => hI.2 e hf9⟩⟩, dg, rfl, hD9, hf9.below hl9⟩
            refine RegHeadI.cons (fun S wr hd hSk hSd hI h => ?_) ?_
            · exact relAtI.value (u := vs 12) (w' := wr) (by kernel_rfl) (by kernel_rfl) ⟨Two.refl _, keepI (by decide) hI⟩ (allOf_iff.1 h 12 (by decide))
            refine RegHeadI.cons (fun S wr hd hSk hSd hI h => ?_) ?_
            · obtain ⟨dg9, hv9, hD9⟩ : ∃ dg, vs 13 = .tuple #[ptrV dg, .int .i64 0] ∧ DRun w wr dg d ∧ Flagged w3.drew.heap.size wr := allOf_iff.1 h 13 (by decide)
              have hrun : (Instr.extract (vs 13) 0).run Tryz.prog wr = .ok (ptrV dg9) wr := by rw [hv9]; kernel_rfl
              exact relAtI.valueS (by kernel_rfl) (by kernel_rfl) hrun ⟨Two.refl _, keepI (by decide) hI⟩ ⟨dg9, rfl, hD9⟩
            refine RegHeadI.cons (fun S wr hd hSk hSd hI h => ?_) ?_
            · obtain ⟨dg9, hv9, hD9⟩ : ∃ dg, vs 13 = .tuple #[ptrV dg, .int .i64 0] ∧ DRun w wr dg d ∧ Flagged w3.drew.heap.size wr := allOf_iff.1 h 13 (by decide)
              have hrun : (Instr.extract (vs 13) 1).run Tryz.prog wr = .ok (.int .i64 0) wr := by rw [hv9]; kernel_rfl
              exact relAtI.valueS (by kernel_rfl) (by kernel_rfl) hrun ⟨Two.refl _, keepI (by decide) hI⟩ rfl
            refine RegHeadI.cons (fun S wr hd hSk hSd hI h => ?_) ?_
            · exact relAtI.value (u := vs 14) (w' := wr) (by kernel_rfl) (by kernel_rfl) ⟨Two.refl _, keepI (by decide) hI⟩ (allOf_iff.1 h 14 (by decide))
            exact trivial
          · obtain ⟨dg, hv, hD, _⟩ : ∃ dg, vs 16 = ptrV dg ∧ DRun w wr dg d ∧ Flagged w3.drew.heap.size wr := allOf_iff.1 h 16 (by decide)
            have HD := Lib.hid hD
            have HV := Lib.hid hv
            clear h hI hv hD
            refine wp_frame2 (ps := [(13, [vs 16]), (92, [vs 13, (.int .i64 n : Value), (strV (nameW n)), vs 2, (.slice (some ⟨g2, 0, none⟩) bb.length C2 : Value), vs 4, (.slice (some ⟨g3, 0, none⟩) ff.length C3 : Value), (.int .i64 cut : Value), (.slice (some ⟨g3, 0, none⟩) cut C3 : Value), vs 8, vs 9, vs 10, (.int .i64 (3 * (bb.length + ff.length : Int)) : Value), vs 12, vs 14, (.int .i64 0 : Value)])]) (by kernel_rfl) ?_
            simp only [overlay, List.take, List.drop, List.cons_append, List.nil_append, List.length_cons, List.length_nil, Nat.reduceAdd]
            rw [HV.out]
          -- END17
            unfold ptrV
            go_wp2_with (go_at_call 15; refine (l6num_any _ _).mono ?_; rintro e w99 ⟨rfl, rfl⟩)
            obtain ⟨d2, sz, hop2, hlf2⟩ := HOP.out HD.out.ok
            obtain ⟨E, hE⟩ : ∃ E, E = if 0 < cut then n + 1 else n := ⟨_, rfl⟩
            rw [← hE] at hop2 hlf2
            have HE := Lib.hid hE
            have HOP2 := Lib.hid hop2
            have HLF2 := Lib.hid hlf2
            have hro := run_open HT.out HD.out hop2
            clear hE hop2 hlf2
            unfold ptrV at hro
            go_at_call 16
            refine hro.mono ?_
            clear hro
            rintro e w4 ⟨g, rfl, hR4⟩
            have HR4 := Lib.hid hR4
            have hcu := run_cut hR4
            have hst := run_state hR4
            clear hR4
            unfold ptrV at hcu hst
            have HCU := Lib.hid hcu
            have HST := Lib.hid hst
            clear hcu hst
            go_wp2_with (first | (go_at_call 15; refine (l6num_any _ _).mono ?_; rintro e w99 ⟨rfl, rfl⟩) | (go_at_call 17; refine HCU.out.mono ?_; rintro e w99 ⟨rfl, rfl⟩))
            go_at_call 19
            refine HST.out.mono ?_
            rintro e w5 ⟨k5, C5, ⟨rfl, hown5, hnew5, hlow5⟩⟩
            have HR5 := Lib.hid (HR4.out.below hlow5)
            have hsm := Lib.hid (l6same_wide st st (some ⟨k5, 0, none⟩) A C5 C w5 hown5.txt.wide (HX.out.below HR5.out.low))
            rw [show (st == st) = true by simp] at hsm
            have hrc := run_records HR5.out
            unfold ptrV at hrc
            have HRC := Lib.hid hrc
            clear hown5 hnew5 hlow5 hrc HST HCU
            go_wp2_with (go_at_call 18; refine hsm.out.mono ?_; rintro e w99 ⟨rfl, rfl⟩)
            go_at_call 21
            refine HRC.out.mono ?_
            rintro e w6 ⟨A6, C6, rfl, ⟨bk6, q6, hs6⟩, hb6⟩
            have HR6 := Lib.hid (HR5.out.below hb6)
            have hli := Lib.hid (l6lists_wide rs rs A6 R C6 K w6 hs6.rows.wide (HY.out.below HR6.out.low) (by have := HN.out; omega))
            rw [show (rs == rs) = true by simp] at hli
            clear hs6 hb6 HRC hsm
            go_wp2_with fail
            go_at_call 20
            refine hli.out.mono ?_
            rintro e w7 ⟨rfl, hb7⟩
            have HR7 := Lib.hid (HR6.out.below hb7)
            clear hb7 hli
            go_upto_if 149 with (fail)
            have HEN := Lib.hid (show E ≤ 1099511627776 by rw [HE.out]; have := HN.out; split <;> omega)
            go_cut [17] from 18 (fun s17 wx => s17 = .int .i64 E ∧ Hid (w7 = wx))
            case first =>
              by_cases hc : 0 < cut
              · have h3 : (0 : Int) < (cut : Int) := by omega
                have h4 : (E : Int) = (n : Int) + 1 := by rw [HE.out, if_pos hc]; omega
                have H4 := Lib.hid h4
                have hwr : IntKind.i64.wrap ((n : Int) + 1) = (n : Int) + 1 := IntWalk.i64_in _ (by have := HN.out; omega)
                clear h4
                go_wp2
                go_meet
                exact ⟨by rw [H4.out], Lib.hid rfl⟩
              · have h3 : ¬ (0 : Int) < (cut : Int) := by omega
                have h4 : E = n := by rw [HE.out, if_neg hc]
                have H4 := Lib.hid h4
                clear h4
                go_wp2
                go_meet
                exact ⟨by rw [H4.out], Lib.hid rfl⟩
            case rest =>
              obtain ⟨rfl, hcw⟩ := hcut
              obtain rfl := hcw.out
              have hdu := run_durable HR7.out.disk
              rw [HLF2.out] at hdu
              unfold ptrV at hdu
              simp only [List.length_singleton] at hdu
              have HDU := Lib.hid hdu
              clear hdu
              go_wp2_with fail
              go_at_call 22
              refine HDU.out.mono ?_
              rintro e w8 ⟨A8, A8C, rfl, hF8, hb8⟩
              have HR8 := Lib.hid (HR7.out.below hb8)
              obtain ⟨fb, fo, B8, c8, rfl, hc0, hc1, hX8, _⟩ := hF8.each 0 _ rfl
              have HF8 : Hid (FileOne w8 fb fo (nameW E) (bytesW E st rs) B8 c8) := Lib.hid ⟨by simpa using hc0, by simpa using hc1, hX8⟩
              have hby2 := fun W (hW : Low w8 W) => r6bytes_any E st rs A C R K W (HX.out.below (bthen HR8.out.low hW)) (HY.out.below (bthen HR8.out.low hW)) (by have := HEN.out; omega) HN.out.2.2.1 HR.out (by have := HN.out; omega)
              have hnm2 := fun W => r6name_any E (by have := HEN.out; omega) W
              clear hF8 hb8 hc0 hc1 hX8 HDU
              obtain ⟨y, hy⟩ : ∃ y, y = bytesW E st rs := ⟨_, rfl⟩
              obtain ⟨nm, hnm⟩ : ∃ nm, nm = nameW E := ⟨_, rfl⟩
              rw [← hy, ← hnm] at HF8
              rw [← hy] at hby2
              rw [← hnm] at hnm2
              have HBY := Lib.hid hby2
              have HNM := Lib.hid hnm2
              clear hy hnm hby2 hnm2 HLF2 HOP2 HNW HPL
              go_wp2_with fail
              -- REGION27
              refine wp_region_reg 32 186 (Low) (by kernel_rfl) (by kernel_rfl) (by kernel_rfl) (by kernel_rfl) (by kernel_rfl) (Low.refl) (Low.trans) [.is (.bool true : Value), .is (.bool true : Value), .is (.pointer (some ⟨g, 0, none⟩) : Value), .is (.int .i64 (E : Int) : Value), .is (.int .i64 (E : Int) : Value), .is (.bool true : Value), .is (.bool true : Value), .is (.bool true : Value), .is (.slice (some ⟨fb, fo, none⟩) 1 A8C : Value), .is (.int .i64 1 : Value), .is (.bool true : Value), .is (.bool true : Value), .is (.bool true : Value), .is (.slice (some ⟨fb, fo, none⟩) 1 A8C : Value), .is (.pointer (some ⟨fb, fo, none⟩) : Value), .is (.pointer (some ⟨fb, fo, none⟩) : Value), .is (strV nm), .is (.int .i64 (E : Int) : Value), .is (strV nm), .is (.bool true : Value), .is (.bool true : Value), .is (.bool true : Value), .is (.slice (some ⟨fb, fo, none⟩) 1 A8C : Value), .is (.pointer (some ⟨fb, fo, none⟩) : Value), .is (.pointer (some ⟨fb, fo + 1, none⟩) : Value), .is (.slice B8 y.length c8 : Value), .is (.int .i64 (E : Int) : Value), .is (.slice A st.length C : Value), .is (.slice R rs.length K : Value), yTxt y, .is (.bool true : Value), .is (.bool true : Value)] rfl (fun vs => ?_) (fun vs wr hR h => ?_)
              · refine RegHead.cons (fun wr hR h => ?_) ?_
                · refine relAt.call (by kernel_rfl) (by kernel_rfl) ((l6live_any (HT.out.low (bthen HR8.out.low (bthen (Low.drew _) hR)))).mono ?_)
                  rintro e w9 ⟨rfl, hB9⟩
                  exact ⟨_, rfl, hB9, rfl⟩
                refine RegHead.cons (fun wr hR h => ?_) ?_
                · exact relAt.pure (Low.refl) (by kernel_rfl) (by kernel_rfl)
                refine RegHead.cons (fun wr hR h => ?_) ?_
                · exact relAt.pure (Low.refl) (by kernel_rfl) (by kernel_rfl)
                refine RegHead.cons (fun wr hR h => ?_) ?_
                · refine relAt.call (by kernel_rfl) (by kernel_rfl) ((run_epoch (HR8.out.below (bthen (Low.drew _) hR))).mono ?_)
                  rintro e w9 ⟨rfl, rfl⟩
                  exact ⟨_, rfl, Low.refl _, rfl⟩
                refine RegHead.cons (fun wr hR h => ?_) ?_
                · exact relAt.pure (Low.refl) (by kernel_rfl) (by kernel_rfl)
                refine RegHead.cons (fun wr hR h => ?_) ?_
                · exact relAt.pureS (Low.refl) (by kernel_rfl) (by kernel_rfl) (run_eql_int_same wr 3 (.tmp 157) (.tmp 158) (E : Int))
                refine RegHead.cons (fun wr hR h => ?_) ?_
                · exact relAt.pure (Low.refl) (by kernel_rfl) (by kernel_rfl)
                refine RegHead.cons (fun wr hR h => ?_) ?_
                · exact relAt.pure (Low.refl) (by kernel_rfl) (by kernel_rfl)
                refine RegHead.cons (fun wr hR h => ?_) ?_
                · exact relAt.pure (Low.refl) (by kernel_rfl) (by kernel_rfl)
                refine RegHead.cons (fun wr hR h => ?_) ?_
                · exact relAt.pure (Low.refl) (by kernel_rfl) (by kernel_rfl)
                refine RegHead.cons (fun wr hR h => ?_) ?_
                · exact relAt.pureS (Low.refl) (by kernel_rfl) (by kernel_rfl) (run_eql_int_same wr 3 (.tmp 163) (.const (.int .i64 1)) 1)
                refine RegHead.cons (fun wr hR h => ?_) ?_
                · exact relAt.pure (Low.refl) (by kernel_rfl) (by kernel_rfl)
                refine RegHead.cons (fun wr hR h => ?_) ?_
                · exact relAt.pure (Low.refl) (by kernel_rfl) (by kernel_rfl)
                refine RegHead.cons (fun wr hR h => ?_) ?_
                · exact relAt.pure (Low.refl) (by kernel_rfl) (by kernel_rfl)
                refine RegHead.cons (fun wr hR h => ?_) ?_
                · exact relAt.pureS (Low.refl) (by kernel_rfl) (by kernel_rfl) (run_index_afile wr fb fo A8C)
                refine RegHead.cons (fun wr hR h => ?_) ?_
                · exact relAt.pure (Low.refl) (by kernel_rfl) (by kernel_rfl)
                refine RegHead.cons (fun wr hR h => ?_) ?_
                · exact relAt.pureS (Low.refl) (by kernel_rfl) (by kernel_rfl) (run_load_str1 ((HF8.out.below (bthen (Low.drew _) hR)).1))
                refine RegHead.cons (fun wr hR h => ?_) ?_
                · exact relAt.pure (Low.refl) (by kernel_rfl) (by kernel_rfl)
                refine RegHead.cons (fun wr hR h => ?_) ?_
                · refine relAt.call (by kernel_rfl) (by kernel_rfl) ((HNM.out wr).mono ?_)
                  rintro e w9 ⟨rfl, hB9⟩
                  exact ⟨_, rfl, hB9, rfl⟩
                refine RegHead.cons (fun wr hR h => ?_) ?_
                · exact relAt.pureS (Low.refl) (by kernel_rfl) (by kernel_rfl) (run_eql_str_same wr (.tmp 170) (.tmp 172) nm)
                refine RegHead.cons (fun wr hR h => ?_) ?_
                · exact relAt.pure (Low.refl) (by kernel_rfl) (by kernel_rfl)
                refine RegHead.cons (fun wr hR h => ?_) ?_
                · exact relAt.pure (Low.refl) (by kernel_rfl) (by kernel_rfl)
                refine RegHead.cons (fun wr hR h => ?_) ?_
                · exact relAt.pure (Low.refl) (by kernel_rfl) (by kernel_rfl)
                refine RegHead.cons (fun wr hR h => ?_) ?_
                · exact relAt.pureS (Low.refl) (by kernel_rfl) (by kernel_rfl) (run_index_afile wr fb fo A8C)
                refine RegHead.cons (fun wr hR h => ?_) ?_
                · exact relAt.pure (Low.refl) (by kernel_rfl) (by kernel_rfl)
                refine RegHead.cons (fun wr hR h => ?_) ?_
                · exact relAt.pureS (Low.refl) (by kernel_rfl) (by kernel_rfl) (run_load_bytes ((HF8.out.below (bthen (Low.drew _) hR)).2.1))
                refine RegHead.cons (fun wr hR h => ?_) ?_
                · exact relAt.pure (Low.refl) (by kernel_rfl) (by kernel_rfl)
                refine RegHead.cons (fun wr hR h => ?_) ?_
                · exact relAt.pure (Low.refl) (by kernel_rfl) (by kernel_rfl)
                refine RegHead.cons (fun wr hR h => ?_) ?_
                · exact relAt.pure (Low.refl) (by kernel_rfl) (by kernel_rfl)
                refine RegHead.cons (fun wr hR h => ?_) ?_
                · refine relAt.call (by kernel_rfl) (by kernel_rfl) ((HBY.out wr (bthen (Low.drew _) hR)).mono ?_)
                  rintro e w9 ⟨B9, C9, b9, rfl, F9⟩
                  exact ⟨_, rfl, F9.low, B9, C9, rfl, F9.txt⟩
                refine RegHead.cons (fun wr hR h => ?_) ?_
                · obtain ⟨B9, C9, hv9, hT9⟩ : ∃ B C, vs 29 = .slice B y.length C ∧ Txt wr B y.length C y := allOf_iff.1 h 29 (by decide)
                  refine relAt.call (f := 18) (args := #[.slice B8 y.length c8, vs 29]) (by kernel_rfl) (by kernel_rfl) ?_
                  rw [hv9]
                  refine (l6same_any y y B8 B9 c8 C9 wr (HF8.out.below (bthen (Low.drew _) hR)).2.2 hT9).mono ?_
                  rintro e w9 ⟨rfl, rfl⟩
                  exact ⟨_, rfl, Low.refl _, by rw [show (y == y) = true by simp]; rfl⟩
                refine RegHead.cons (fun wr hR h => ?_) ?_
                · exact relAt.pure (Low.refl) (by kernel_rfl) (by kernel_rfl)
                exact trivial
              · rename World => w9
                have HR9 := Lib.hid (HR8.out.below (bthen (Low.drew _) hR))
                clear h hR
                refine wp_frame2 (ps := [(154, [(.bool true : Value), (.bool true : Value), (.pointer (some ⟨g, 0, none⟩) : Value), (.int .i64 (E : Int) : Value), (.int .i64 (E : Int) : Value), (.bool true : Value), (.bool true : Value), (.bool true : Value), (.slice (some ⟨fb, fo, none⟩) 1 A8C : Value), (.int .i64 1 : Value), (.bool true : Value), (.bool true : Value), (.bool true : Value), (.slice (some ⟨fb, fo, none⟩) 1 A8C : Value), (.pointer (some ⟨fb, fo, none⟩) : Value), (.pointer (some ⟨fb, fo, none⟩) : Value), (strV nm), (.int .i64 (E : Int) : Value), (strV nm), (.bool true : Value), (.bool true : Value), (.bool true : Value), (.slice (some ⟨fb, fo, none⟩) 1 A8C : Value), (.pointer (some ⟨fb, fo, none⟩) : Value), (.pointer (some ⟨fb, fo + 1, none⟩) : Value), (.slice B8 y.length c8 : Value), (.int .i64 (E : Int) : Value), (.slice A st.length C : Value), (.slice R rs.length K : Value), vs 29, (.bool true : Value), (.bool true : Value)])]) (by kernel_rfl) ?_
                simp only [overlay, List.take, List.drop, List.cons_append, List.nil_append, List.length_cons, List.length_nil, Nat.reduceAdd]
              -- END27
                go_wp2
                go_ret
                exact ⟨rfl, HR9.out.low⟩
theorem cuts_law {n torn : Int} {st p : Bs} {rs : List Bs} {A B R : Option Addr} {C D K : Nat} {w : World} (hT : Tabs6 w) (ht : -9223372036854775808 ≤ torn ∧ torn ≤ 9223372036854775807) (X : TxtW w A st.length C st) (Y : RowsW w R rs.length rs) (Z : TxtW w B p.length D p) :
    Calls Tryz.prog 3 #[tornV n torn A B R st.length p.length rs.length C D K] w fun e w' => e = .returned (.bool true) ∧ RowKit.Below w.heap.size w w' := by
  by_cases hb : n < 1 ∨ 1099511627776 ≤ n ∨ 1048576 < st.length ∨ 65536 < p.length ∨ 10000 < rs.length
  · exact cuts_past hT hb
  · obtain ⟨m, rfl⟩ : ∃ m : Nat, n = m := ⟨n.toNat, by omega⟩
    exact cuts_in hT (by omega) (by omega) (by omega) (by omega) (by omega) ht X Y Z
end Go.Proofs.YtgpenpnobjecgaaGreatDoor
