/- WalAgain: the law tells true. -/
import Derived.BigQuiet
import Derived.Test.YtgpenpnobjecgaaGreatDoorJWalSafeCard33
import Derived.Test.YtgpenpnobjecgaaGreatDoorJWalSafeCard36
import Derived.Test.YtgpenpnobjecgaaGreatDoorJWalSafeCard38
/- LawAgain -/
namespace Go.Proofs.YtgpenpnobjecgaaGreatDoor
set_option maxRecDepth 100000
open Go.RowKit Dk

/-- The law's argument. -/
def againV (FA : Option Addr) (fl FC : Nat) (room n cd : Int) (TA : Option Addr) (tl TC : Nat) : Value := .agg #[.slice FA fl FC, .int .i64 room, .int .i64 n, .int .i64 cd, .slice TA tl TC]
set_option maxRecDepth 100000 in
set_option maxHeartbeats 4000000 in
theorem again_law {fs : List (Bs × Bs)} {room n cd : Int} {tails : List Int} {FA TA : Option Addr} {FC TC : Nat} {w : World} (hT : Tabs6 w) (X : FilesW w FA fs.length fs) (hfl : fs.length ≤ 1048576) (hfb : ∀ p ∈ fs, p.1.length ≤ 1048576 ∧ p.2.length ≤ 1048576)
    (hroom : -9223372036854775808 ≤ room ∧ room ≤ 9223372036854775807) (hn : -9223372036854775808 ≤ n ∧ n ≤ 9223372036854775807) (hcd : -9223372036854775808 ≤ cd ∧ cd ≤ 9223372036854775807) (Y : IntsW w TA tails.length tails) :
    Calls Tryz.prog 5 #[againV FA fs.length FC room n cd TA tails.length TC] w fun e w' => e = .returned (.bool true) ∧ RowKit.Below w.heap.size w w' := by
  have HT := Lib.hid hT
  have HX := Lib.hid X
  have HY := Lib.hid Y
  have HB := Lib.hid (show fs.length ≤ 1048576 ∧ ∀ p ∈ fs, p.1.length ≤ 1048576 ∧ p.2.length ≤ 1048576 from ⟨hfl, hfb⟩)
  have HN := Lib.hid (show (-9223372036854775808 ≤ room ∧ room ≤ 9223372036854775807) ∧ (-9223372036854775808 ≤ n ∧ n ≤ 9223372036854775807) ∧ (-9223372036854775808 ≤ cd ∧ cd ≤ 9223372036854775807) from ⟨hroom, hn, hcd⟩)
  clear hT X Y hfl hfb hroom hn hcd
  unfold againV
  go_enter Tryz.func5, Tryz.ntmps5
  go_wp2
  go_region
  have hb1 := blk1 (w.alloc (.cells #[Value.slice FA fs.length FC, Value.int .i64 room, Value.int .i64 n, Value.int .i64 cd, Value.slice TA tails.length TC] 58)) (.cells #[Value.int .i64 cd, Value.slice TA tails.length TC] 56)
  have hl1 : RowKit.Below w.heap.size w ((w.alloc (.cells #[Value.slice FA fs.length FC, Value.int .i64 room, Value.int .i64 n, Value.int .i64 cd, Value.slice TA tails.length TC] 58)).alloc (.cells #[Value.int .i64 cd, Value.slice TA tails.length TC] 56)).drew := (bthen (low1 _ _) (low1 _ _)).drew
  obtain ⟨cb, hcb⟩ : ∃ cb, cb = (w.alloc (.cells #[Value.slice FA fs.length FC, Value.int .i64 room, Value.int .i64 n, Value.int .i64 cd, Value.slice TA tails.length TC] 58)).heap.size := ⟨_, rfl⟩
  have hcb2 : w.heap.size + 1 = cb := by rw [hcb]; simp
  have hb2 : ((w.alloc (.cells #[Value.slice FA fs.length FC, Value.int .i64 room, Value.int .i64 n, Value.int .i64 cd, Value.slice TA tails.length TC] 58)).alloc (.cells #[Value.int .i64 cd, Value.slice TA tails.length TC] 56)).drew.heap[cb]? = some (.cells #[Value.int .i64 cd, Value.slice TA tails.length TC] 56 (0, 0)) := by rw [hcb]; exact hb1
  clear hb1 hcb
  generalize ((w.alloc (.cells #[Value.slice FA fs.length FC, Value.int .i64 room, Value.int .i64 n, Value.int .i64 cd, Value.slice TA tails.length TC] 58)).alloc (.cells #[Value.int .i64 cd, Value.slice TA tails.length TC] 56)).drew = w1 at hl1 hb2 ⊢
  simp only [hcb2]
  have HL1 := Lib.hid hl1
  have HCB := Lib.hid hb2
  clear hl1 hb2 hcb2
  have HT0 := Lib.hid (HT.out.low HL1.out)
  have hour := Lib.hid (l6ours_any (C := FC) (HX.out.below HL1.out) HB.out.1 fun p hp => (HB.out.2 p hp).2)
  go_wp2_with fail
  go_at_call 29
  refine hour.out.mono ?_
  rintro e w2 ⟨A2, D2, rfl, hF2, hb2⟩
  have HF2 := Lib.hid hF2
  have HL2 := Lib.hid hb2
  have HNL := Lib.hid (show ∀ p ∈ fs, p.1.length ≤ maxLen from fun p hp => Nat.le_trans (HB.out.2 p hp).1 (by unfold maxLen; omega))
  clear hF2 hb2 hour
  rcases new_code fs room with ⟨d0, hd0⟩ | ⟨q, hq, hd0⟩
  case inr =>
    have hnw := Lib.hid (run_new_none HF2.out HN.out.1 HNL.out (by have := HB.out.1; omega) hd0)
    have hq1 : ((q : Int) != 0) = true := by simp; omega
    clear hd0 hq
    go_wp2_with fail
    go_at_call 13
    refine hnw.out.mono ?_
    rintro e w3 ⟨rfl, hb3⟩
    have HL3 := Lib.hid (bthen HL2.out hb3)
    clear hb3 hnw
    go_wp2_with fail
    go_at_call 10
    refine (l6live_any (HT0.out.low HL3.out)).mono ?_
    rintro e w4 ⟨rfl, hb4⟩
    have HL4 := Lib.hid (bthen HL3.out hb4)
    clear hb4
    go_wp2_with (go_at_call 15; refine (l6num_any _ _).mono ?_; rintro e w99 ⟨rfl, rfl⟩)
    go_at_call 10
    refine (l6live_any (HT0.out.low HL4.out)).mono ?_
    rintro e w5 ⟨rfl, hb5⟩
    have HL5 := Lib.hid (bthen HL4.out hb5)
    clear hb5
    go_wp2
    go_ret
    exact ⟨rfl, bthen HL1.out HL5.out⟩
  have hnw := Lib.hid (run_newZ (Z := fun _ => False) HL2.out (fun _ h => h.elim) HF2.out HN.out.1 HNL.out (by have := HB.out.1; omega) hd0)
  have HD0 := Lib.hid hd0
  have HC0 := Lib.hid (new_calm hd0)
  clear hd0
  go_wp2_with fail
  go_at_call 13
  refine hnw.out.mono ?_
  rintro e w3 ⟨dg, rfl, hD3, hb3⟩
  have HD3 := Lib.hid hD3
  clear hD3 hb3 hnw
  unfold ptrV
  go_wp2_with fail
  go_at_call 10
  refine (l6live_any (HT0.out.low HD3.out.low)).mono ?_
  rintro e w4 ⟨rfl, hb4⟩
  have HD4 := Lib.hid (HD3.out.below hb4)
  clear hb4
  rcases openW_code d0 with ⟨L1, h1⟩ | ⟨q, hq, h1⟩
  case inr =>
    have hop := Lib.hid (run_open_noneZ HT0.out HD4.out (fun _ h => h.elim) (pair_eq h1))
    have hq1 : ((q : Int) != 0) = true := by simp; omega
    clear h1 hq
    unfold ptrV at hop
    go_wp2_with (go_at_call 15; refine (l6num_any _ _).mono ?_; rintro e w99 ⟨rfl, rfl⟩)
    go_at_call 16
    refine hop.out.mono ?_
    rintro e w5 ⟨rfl, hD5, _⟩
    have HD5 := Lib.hid hD5
    clear hD5 hop
    go_wp2_with (go_at_call 15; refine (l6num_any _ _).mono ?_; rintro e w99 ⟨rfl, rfl⟩)
    go_ret
    exact ⟨rfl, bthen HL1.out HD5.out.low⟩
  obtain ⟨hT1, ho1⟩ := again_one (pair_eq h1) HD4.out.ok HC0.out.1 HC0.out.2.1
  obtain ⟨s, hs⟩ : ∃ s, s = L1.state := ⟨_, rfl⟩
  obtain ⟨rs, hrs⟩ : ∃ rs, rs = L1.records := ⟨_, rfl⟩
  rw [← hs, ← hrs] at hT1 ho1
  have HO1 := Lib.hid (show _ ∧ _ from ⟨hT1, ho1⟩)
  have hop := Lib.hid (run_openZ HT0.out HD4.out (fun _ h => h.elim) (pair_eq h1))
  have HS1 := Lib.hid hs.symm
  have HRS1 := Lib.hid hrs.symm
  clear h1 hT1 ho1 hs hrs
  generalize (openW d0).1 = d1 at HO1 hop
  unfold ptrV at hop
  go_wp2_with (go_at_call 15; refine (l6num_any _ _).mono ?_; rintro e w99 ⟨rfl, rfl⟩)
  go_at_call 16
  refine hop.out.mono ?_
  rintro e w5 ⟨g, rfl, hR5, hk5⟩
  have HR5 := Lib.hid hR5
  have hst := run_stateS hR5.run HS1.out
  unfold ptrV at hst
  have HST := Lib.hid hst
  clear hR5 hk5 hop hst
  go_wp2_with (go_at_call 15; refine (l6num_any _ _).mono ?_; rintro e w99 ⟨rfl, rfl⟩)
  go_at_call 19
  refine HST.out.mono ?_
  rintro e w6 ⟨k6, C6, ⟨rfl, hown6, hnew6, hlow6⟩⟩
  have hrc := run_recordsS (HR5.out.below hlow6).run HRS1.out
  unfold ptrV at hrc
  have HRC := Lib.hid hrc
  have HX6 := Lib.hid (show Txt w6 (some ⟨k6, 0, none⟩) s.length C6 s ∧ w5.heap.size ≤ k6 ∧ RowKit.Below w5.heap.size w5 w6 from ⟨hown6.txt, hnew6, hlow6⟩)
  clear hown6 hnew6 hlow6 hrc HST
  go_wp2_with fail
  go_at_call 21
  refine HRC.out.mono ?_
  rintro e w7 ⟨A7, C7, rfl, ⟨bk7, q7, hs7⟩, hb7⟩
  have hb57 := bthen HX6.out.2.2 hb7
  obtain ⟨Z, hZ⟩ : ∃ Z : Nat → Prop, Z = fun b => False ∨ (w5.heap.size ≤ b ∧ b < w7.heap.size) := ⟨_, rfl⟩
  have hD7 := HR5.out.disk.wide hb57
  rw [← hZ] at hD7
  have HD7 := Lib.hid hD7
  have HSV7 : Hid (Saved Z w7 (some ⟨k6, 0, none⟩) C6 A7 C7 s rs) := Lib.hid ⟨HX6.out.1.below hb7, fun ad had => by
    rw [← Option.some.inj had, hZ]
    have h1 := HX6.out.2.1
    have h2 := HX6.out.1.src.lt ⟨k6, 0, none⟩ rfl
    have h3 := hb7.size
    exact .inr (show w5.heap.size ≤ k6 ∧ k6 < w7.heap.size from ⟨h1, by simp only at h2; omega⟩), hs7.rows.mono fun b hlt hg => by rw [hZ]; have := HX6.out.2.2.size; exact .inr ⟨by omega, hlt⟩, fun b hb => by rw [hZ] at hb; exact hb.elim False.elim fun h => h.2⟩
  clear hs7 hb7 hb57 hD7 hZ HRC
  obtain ⟨d2, L2, ho2, hs2, hr2⟩ := again_two HO1.out.2 HD7.out.ok (by decide)
  have hop := Lib.hid (run_openZ HT0.out HD7.out HSV7.out.lt ho2)
  have HS2 := Lib.hid hs2
  have HRS2 := Lib.hid hr2
  clear ho2 hs2 hr2
  unfold ptrV at hop
  go_wp2_with fail
  go_at_call 16
  refine hop.out.mono ?_
  rintro e w8 ⟨g2, rfl, hR8, hk8⟩
  have HR8 := Lib.hid hR8.run
  have HSV8 := Lib.hid (HSV7.out.kept hk8)
  have hst := run_stateS hR8.run HS2.out
  unfold ptrV at hst
  have HST := Lib.hid hst
  clear hR8 hk8 hop hst
  go_wp2_with (go_at_call 15; refine (l6num_any _ _).mono ?_; rintro e w99 ⟨rfl, rfl⟩)
  go_at_call 19
  refine HST.out.mono ?_
  rintro e w9 ⟨k9, C9, ⟨rfl, hown9, hnew9, hlow9⟩⟩
  have HSV9 := Lib.hid (HSV8.out.below hlow9)
  have hsm := Lib.hid (l6same_any s s (some ⟨k9, 0, none⟩) (some ⟨k6, 0, none⟩) C9 C6 w9 hown9.txt HSV9.out.txt)
  rw [show (s == s) = true by simp] at hsm
  have HR9 := Lib.hid (HR8.out.below hlow9)
  have hrc := run_recordsS HR9.out HRS2.out
  unfold ptrV at hrc
  have HRC := Lib.hid hrc
  clear hown9 hnew9 hlow9 hrc HST
  go_wp2_with (go_at_call 18; refine hsm.out.mono ?_; rintro e w99 ⟨rfl, rfl⟩)
  go_at_call 21
  refine HRC.out.mono ?_
  rintro e w10 ⟨A10, C10, rfl, ⟨bk10, q10, hs10⟩, hb10⟩
  have HSV10 := Lib.hid (HSV9.out.below hb10)
  have HR10 := Lib.hid (HR9.out.below hb10)
  have hli := Lib.hid (l6lists_any rs rs A10 A7 C10 C7 _ _ w10 hs10.rows HSV10.out.rows (by have h := HR10.out.lok; have h1 := h.many; have h2 := h.size; rw [HRS2.out] at h1; omega))
  rw [show (rs == rs) = true by simp] at hli
  clear hs10 hb10 HRC hsm
  go_wp2_with fail
  go_at_call 20
  refine hli.out.mono ?_
  rintro e w11 ⟨rfl, hb11⟩
  have HSV11 := Lib.hid (HSV10.out.below hb11)
  have HL11 := Lib.hid (HR10.out.below hb11).low
  clear hb11 hli
  have hour := Lib.hid (l6ours_any (C := FC) ((HX.out.below HL1.out).below HL11.out) HB.out.1 fun p hp => (HB.out.2 p hp).2)
  go_wp2_with fail
  go_at_call 29
  refine hour.out.mono ?_
  rintro e w12 ⟨A12, D12, rfl, hF12, hb12⟩
  have HF12 := Lib.hid hF12
  have HL12 := Lib.hid (bthen HL11.out hb12)
  have HSV12 := Lib.hid (HSV11.out.below hb12)
  clear hF12 hb12 hour
  have hnw := Lib.hid (run_newZ HL12.out HSV12.out.lt HF12.out HN.out.1 HNL.out (by have := HB.out.1; omega) HD0.out)
  go_wp2_with fail
  go_at_call 13
  refine hnw.out.mono ?_
  rintro e w13 ⟨qg, rfl, hD13, hb13⟩
  have HSV13 := Lib.hid (HSV12.out.below hb13)
  have har := Lib.hid (run_armZ hD13 n (by have := HN.out.2.1; omega))
  clear hD13 hb13 hnw
  unfold ptrV at har
  unfold ptrV
  go_wp2_with (go_at_call 15; refine (l6num_any _ _).mono ?_; rintro e w99 ⟨rfl, rfl⟩)
  go_at_call 30
  refine har.out.mono ?_
  rintro e w14 ⟨rfl, hD14, hk14⟩
  have HD14 := Lib.hid hD14
  have HSV14 := Lib.hid (HSV13.out.kept hk14)
  clear hD14 hk14 har
  obtain ⟨d3, r3, q3, ho3, hal3, hc3⟩ := again_arm (n := n) HO1.out.1 HD14.out.ok HC0.out.1
  have HAL3 := Lib.hid hal3
  have HRL := Lib.hid (show rs.length ≤ 4611686018427387904 from by have h := HR10.out.lok; have h1 := h.many; have h2 := h.size; rw [HRS2.out] at h1; omega)
  have HC3 := Lib.hid hc3
  clear hal3 hc3
  rcases HC3.out with ⟨rfl, L3, rfl, hs3, hr3⟩ | ⟨rfl, rfl⟩
  · have hop := Lib.hid (run_openZ HT0.out HD14.out HSV14.out.lt ho3)
    have HS3 := Lib.hid hs3
    have HRS3 := Lib.hid hr3
    clear ho3 hs3 hr3
    unfold ptrV at hop
    go_wp2_with fail
    go_at_call 16
    refine hop.out.mono ?_
    rintro e w15 ⟨g3, rfl, hR15, hk15⟩
    have HRZ15 := Lib.hid hR15
    have HSV15a := Lib.hid (HSV14.out.kept hk15)
    have hst := run_stateS hR15.run HS3.out
    unfold ptrV at hst
    have HST := Lib.hid hst
    clear hR15 hk15 hop hst
    go_wp2_with (go_at_call 15; refine (l6num_any _ _).mono ?_; rintro e w99 ⟨rfl, rfl⟩)
    go_at_call 19
    refine HST.out.mono ?_
    rintro e w16 ⟨k16, C16, ⟨rfl, hown16, hnew16, hlow16⟩⟩
    have HSV16 := Lib.hid (HSV15a.out.below hlow16)
    have hsm := Lib.hid (l6same_any s s (some ⟨k16, 0, none⟩) (some ⟨k6, 0, none⟩) C16 C6 w16 hown16.txt HSV16.out.txt)
    rw [show (s == s) = true by simp] at hsm
    have HR16 := Lib.hid (HRZ15.out.below hlow16)
    have hrc := run_recordsS HR16.out.run HRS3.out
    unfold ptrV at hrc
    have HRC := Lib.hid hrc
    clear hown16 hnew16 hlow16 hrc HST
    go_wp2_with (go_at_call 18; refine hsm.out.mono ?_; rintro e w99 ⟨rfl, rfl⟩)
    go_at_call 21
    refine HRC.out.mono ?_
    rintro e w17 ⟨A17, C17, rfl, ⟨bk17, q17, hs17⟩, hb17⟩
    have HSV17 := Lib.hid (HSV16.out.below hb17)
    have HR17 := Lib.hid (HR16.out.below hb17)
    have hli := Lib.hid (l6lists_any rs rs A17 A7 C17 C7 _ _ w17 hs17.rows HSV17.out.rows HRL.out)
    rw [show (rs == rs) = true by simp] at hli
    clear hs17 hb17 HRC hsm
    go_wp2_with fail
    go_at_call 20
    refine hli.out.mono ?_
    rintro e w18 ⟨rfl, hb18⟩
    have hD15 := (HR17.out.below hb18).disk.run
    have hsv15 := HSV17.out.below hb18
    clear hb18 hli
    have HD15D := Lib.hid hD15
    have HSV15 := Lib.hid hsv15
    have hcb15 := bblk hD15.low HCB.out
    have hc150 := cell_block (j := 0) hcb15 rfl
    have hc151 := cell_block (j := 1) hcb15 rfl
    clear hcb15
    have hg := HAL3.out hD15.ok cd tails
    obtain ⟨d4, hn4, ho4⟩ := again_left hg
    rw [HC0.out.2.2] at hn4
    have hlf := Lib.hid (run_left (tc := TC) hD15 cd (by have := HN.out.2.2; omega) (Below.refl _ _) (((HY.out.below HL1.out).below hD15.low)))
    have HN4 := Lib.hid hn4
    have HO4 := Lib.hid ho4
    have HGN := Lib.hid (show (Dk.left d3 cd tails).length ≤ 4611686018427387904 ∧ ∀ p ∈ Dk.left d3 cd tails, p.1.length ≤ maxLen from ⟨by have := hg.1.many; omega, fun p hp => by have := (named_len (hg.1.nam p hp)).2; unfold maxLen; omega⟩)
    generalize Dk.left d3 cd tails = lf at hlf HN4 HGN
    clear hD15 hsv15 hg hn4 ho4
    unfold ptrV at hlf
    go_wp2_with fail
    go_at_call 31
    refine hlf.out.mono ?_
    rintro e w20 ⟨A20, C20, rfl, hF20, hb20⟩
    have HF20 := Lib.hid hF20
    have HL20 := Lib.hid (bthen HD15D.out.low hb20)
    have HSV20 := Lib.hid (HSV15.out.below hb20)
    clear hF20 hb20 hlf hc150 hc151
    have hnw := Lib.hid (run_newZ HL20.out HSV20.out.lt HF20.out HN.out.1 HGN.out.2 HGN.out.1 HN4.out)
    go_wp2_with fail
    go_at_call 13
    refine hnw.out.mono ?_
    rintro e w21 ⟨rg, rfl, hD21, hb21⟩
    have HSV21 := Lib.hid (HSV20.out.below hb21)
    obtain ⟨d5, L5, ho5, hs5, hr5, _⟩ := HO4.out hD21.ok
    have hop := Lib.hid (run_openZ HT0.out hD21 HSV21.out.lt ho5)
    have HS5 := Lib.hid hs5
    have HRS5 := Lib.hid hr5
    clear hD21 hb21 hnw ho5 hs5 hr5
    unfold ptrV at hop
    unfold ptrV
    go_wp2_with (go_at_call 15; refine (l6num_any _ _).mono ?_; rintro e w99 ⟨rfl, rfl⟩)
    go_at_call 16
    refine hop.out.mono ?_
    rintro e w22 ⟨g5, rfl, hR22, hk22⟩
    have HR22 := Lib.hid hR22.run
    have HSV22 := Lib.hid (HSV21.out.kept hk22)
    have hst := run_stateS hR22.run HS5.out
    unfold ptrV at hst
    have HST := Lib.hid hst
    clear hR22 hk22 hop hst
    go_wp2_with (go_at_call 15; refine (l6num_any _ _).mono ?_; rintro e w99 ⟨rfl, rfl⟩)
    go_at_call 19
    refine HST.out.mono ?_
    rintro e w23 ⟨k23, C23, ⟨rfl, hown23, hnew23, hlow23⟩⟩
    have HSV23 := Lib.hid (HSV22.out.below hlow23)
    have hsm := Lib.hid (l6same_any s s (some ⟨k23, 0, none⟩) (some ⟨k6, 0, none⟩) C23 C6 w23 hown23.txt HSV23.out.txt)
    rw [show (s == s) = true by simp] at hsm
    have HR23 := Lib.hid (HR22.out.below hlow23)
    have hrc := run_recordsS HR23.out HRS5.out
    unfold ptrV at hrc
    have HRC := Lib.hid hrc
    clear hown23 hnew23 hlow23 hrc HST
    go_wp2_with (go_at_call 18; refine hsm.out.mono ?_; rintro e w99 ⟨rfl, rfl⟩)
    go_at_call 21
    refine HRC.out.mono ?_
    rintro e w24 ⟨A24, C24, rfl, ⟨bk24, q24, hs24⟩, hb24⟩
    have HSV24 := Lib.hid (HSV23.out.below hb24)
    have HR24 := Lib.hid (HR23.out.below hb24)
    have hli := Lib.hid (l6lists_any rs rs A24 A7 C24 C7 _ _ w24 hs24.rows HSV24.out.rows HRL.out)
    rw [show (rs == rs) = true by simp] at hli
    clear hs24 hb24 HRC hsm
    go_wp2_with fail
    go_at_call 20
    refine hli.out.mono ?_
    rintro e w25 ⟨rfl, hb25⟩
    have HL25 := Lib.hid (HR24.out.below hb25).low
    clear hb25 hli
    go_wp2
    go_ret
    exact ⟨rfl, bthen HL1.out HL25.out⟩
  · have hop := Lib.hid (run_open_noneZ HT0.out HD14.out HSV14.out.lt ho3)
    clear ho3
    unfold ptrV at hop
    go_wp2_with fail
    go_at_call 16
    refine hop.out.mono ?_
    rintro e w15 ⟨rfl, hDz15, hk15⟩
    have hD15 := hDz15.run
    have hsv15 := HSV14.out.kept hk15
    clear hDz15 hk15 hop
    have HD15D := Lib.hid hD15
    have HSV15 := Lib.hid hsv15
    have hcb15 := bblk hD15.low HCB.out
    have hc150 := cell_block (j := 0) hcb15 rfl
    have hc151 := cell_block (j := 1) hcb15 rfl
    clear hcb15
    have hg := HAL3.out hD15.ok cd tails
    obtain ⟨d4, hn4, ho4⟩ := again_left hg
    rw [HC0.out.2.2] at hn4
    have hlf := Lib.hid (run_left (tc := TC) hD15 cd (by have := HN.out.2.2; omega) (Below.refl _ _) (((HY.out.below HL1.out).below hD15.low)))
    have HN4 := Lib.hid hn4
    have HO4 := Lib.hid ho4
    have HGN := Lib.hid (show (Dk.left d3 cd tails).length ≤ 4611686018427387904 ∧ ∀ p ∈ Dk.left d3 cd tails, p.1.length ≤ maxLen from ⟨by have := hg.1.many; omega, fun p hp => by have := (named_len (hg.1.nam p hp)).2; unfold maxLen; omega⟩)
    generalize Dk.left d3 cd tails = lf at hlf HN4 HGN
    clear hD15 hsv15 hg hn4 ho4
    unfold ptrV at hlf
    go_wp2_with (go_at_call 15; refine (l6num_any _ _).mono ?_; rintro e w99 ⟨rfl, rfl⟩)
    go_at_call 31
    refine hlf.out.mono ?_
    rintro e w20 ⟨A20, C20, rfl, hF20, hb20⟩
    have HF20 := Lib.hid hF20
    have HL20 := Lib.hid (bthen HD15D.out.low hb20)
    have HSV20 := Lib.hid (HSV15.out.below hb20)
    clear hF20 hb20 hlf hc150 hc151
    have hnw := Lib.hid (run_newZ HL20.out HSV20.out.lt HF20.out HN.out.1 HGN.out.2 HGN.out.1 HN4.out)
    go_wp2_with fail
    go_at_call 13
    refine hnw.out.mono ?_
    rintro e w21 ⟨rg, rfl, hD21, hb21⟩
    have HSV21 := Lib.hid (HSV20.out.below hb21)
    obtain ⟨d5, L5, ho5, hs5, hr5, _⟩ := HO4.out hD21.ok
    have hop := Lib.hid (run_openZ HT0.out hD21 HSV21.out.lt ho5)
    have HS5 := Lib.hid hs5
    have HRS5 := Lib.hid hr5
    clear hD21 hb21 hnw ho5 hs5 hr5
    unfold ptrV at hop
    unfold ptrV
    go_wp2_with (go_at_call 15; refine (l6num_any _ _).mono ?_; rintro e w99 ⟨rfl, rfl⟩)
    go_at_call 16
    refine hop.out.mono ?_
    rintro e w22 ⟨g5, rfl, hR22, hk22⟩
    have HR22 := Lib.hid hR22.run
    have HSV22 := Lib.hid (HSV21.out.kept hk22)
    have hst := run_stateS hR22.run HS5.out
    unfold ptrV at hst
    have HST := Lib.hid hst
    clear hR22 hk22 hop hst
    go_wp2_with (go_at_call 15; refine (l6num_any _ _).mono ?_; rintro e w99 ⟨rfl, rfl⟩)
    go_at_call 19
    refine HST.out.mono ?_
    rintro e w23 ⟨k23, C23, ⟨rfl, hown23, hnew23, hlow23⟩⟩
    have HSV23 := Lib.hid (HSV22.out.below hlow23)
    have hsm := Lib.hid (l6same_any s s (some ⟨k23, 0, none⟩) (some ⟨k6, 0, none⟩) C23 C6 w23 hown23.txt HSV23.out.txt)
    rw [show (s == s) = true by simp] at hsm
    have HR23 := Lib.hid (HR22.out.below hlow23)
    have hrc := run_recordsS HR23.out HRS5.out
    unfold ptrV at hrc
    have HRC := Lib.hid hrc
    clear hown23 hnew23 hlow23 hrc HST
    go_wp2_with (go_at_call 18; refine hsm.out.mono ?_; rintro e w99 ⟨rfl, rfl⟩)
    go_at_call 21
    refine HRC.out.mono ?_
    rintro e w24 ⟨A24, C24, rfl, ⟨bk24, q24, hs24⟩, hb24⟩
    have HSV24 := Lib.hid (HSV23.out.below hb24)
    have HR24 := Lib.hid (HR23.out.below hb24)
    have hli := Lib.hid (l6lists_any rs rs A24 A7 C24 C7 _ _ w24 hs24.rows HSV24.out.rows HRL.out)
    rw [show (rs == rs) = true by simp] at hli
    clear hs24 hb24 HRC hsm
    go_wp2_with fail
    go_at_call 20
    refine hli.out.mono ?_
    rintro e w25 ⟨rfl, hb25⟩
    have HL25 := Lib.hid (HR24.out.below hb25).low
    clear hb25 hli
    go_wp2
    go_ret
    exact ⟨rfl, bthen HL1.out HL25.out⟩
end Go.Proofs.YtgpenpnobjecgaaGreatDoor
