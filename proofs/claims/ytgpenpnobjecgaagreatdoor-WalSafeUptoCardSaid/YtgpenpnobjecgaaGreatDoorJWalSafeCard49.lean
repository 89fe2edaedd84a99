/- WalSafe: the law tells true (UNFINISHED). -/
import Derived.BigQuiet
import Derived.Test.YtgpenpnobjecgaaGreatDoorJWalSafeCard48
/- LawSafe -/
namespace Go.Proofs.YtgpenpnobjecgaaGreatDoor
set_option maxRecDepth 100000
open Go.RowKit Dk

set_option maxRecDepth 100000 in
set_option maxHeartbeats 4000000 in
theorem safe_law {fl FC SC : Nat} {FA SA : Option Addr} {room : Int} {acts : List ActS} {w : World} (hT : Tabs6 w) (X : ActsW w SA acts.length acts) (hal : acts.length ≤ 1048576) (hap : ∀ a ∈ acts, a.p.length ≤ 1048576) (hroom : I64 room) :
    Calls Tryz.prog 7 #[storyV FA fl FC room SA acts.length SC] w fun e w' => e = .returned (.bool true) ∧ RowKit.Below w.heap.size w w' := by
  obtain ⟨R, hR, hR1, hR2⟩ : ∃ R : Nat, (R : Int) = (if room < 64 then 64 else room) ∧ 10 ≤ R ∧ R ≤ 9223372036854775807 := ⟨(if room < 64 then 64 else room).toNat, by have := hroom.2; split <;> omega, by split <;> omega, by have := hroom.2; split <;> omega⟩
  have HT := Lib.hid hT
  have HX := Lib.hid X
  have HN := Lib.hid (show acts.length ≤ 1048576 ∧ (∀ a ∈ acts, a.p.length ≤ 1048576) ∧ I64 room ∧ 10 ≤ R ∧ R ≤ 9223372036854775807 from ⟨hal, hap, hroom, hR1, hR2⟩)
  obtain ⟨w1, hw1⟩ : ∃ w1, w1 = w.alloc (.cells #[.slice FA fl FC, .int .i64 room, .slice SA acts.length SC] 65) := ⟨_, rfl⟩
  obtain ⟨sb, hsb⟩ : ∃ sb, sb = w.heap.size := ⟨_, rfl⟩
  have HL1 : Hid (RowKit.Below w.heap.size w w1) := Lib.hid (by rw [hw1]; exact low1 _ _)
  have HB1 : Hid (w1.heap[sb]? = some (.cells #[.slice FA fl FC, .int .i64 room, .slice SA acts.length SC] 65 (0, 0))) := Lib.hid (by rw [hsb, hw1]; exact blk1 _ _)
  have hbe := Lib.hid (run_begun (HT.out.low HL1.out) R hR1 hR2)
  have c1 : w1.cell? ⟨sb, 1, none⟩ = some (.int .i64 room) := cell_block HB1.out rfl
  clear hT X hal hap hroom hR1 hR2
  unfold storyV
  go_enter Tryz.func7, Tryz.ntmps7
  go_upto_region 1 with (fail)
  rw [← hw1]
  simp only [← hsb]
  clear hw1 hsb
  go_upto_if 17 with (fail)
  have HRR := Lib.hid hR
  clear hR
  go_cut [3] (fun s3 wx => s3 = .int .i64 R ∧ wx = w1)
  case first =>
    by_cases hr : room < 64
    · have hR2 : (R : Int) = 64 := by rw [HRR.out, if_pos hr]
      go_wp2
      go_meet
      exact ⟨by rw [hR2], rfl⟩
    · have hR2 : (R : Int) = room := by rw [HRR.out, if_neg hr]
      go_wp2
      go_meet
      exact ⟨by rw [hR2], rfl⟩
  case rest =>
    obtain ⟨rfl, rfl⟩ := hcut
    go_wp2_with fail
    refine hbe.out.mono ?_
    rintro e w2 ⟨g, dg, d2, rfl, hR2, hS2, ho2, hr2⟩
    have HR2 := Lib.hid hR2
    have HI2 := Lib.hid (safe_begun hS2 (by have := HN.out; omega))
    have HRM := Lib.hid hr2
    clear hR2 hS2 ho2 hr2 hbe
    unfold ptrV
    go_wp2_with fail
    go_at_call 10
    refine (l6live_any ((HT.out.low HL1.out).low HR2.out.low)).mono ?_
    rintro e w3 ⟨rfl, hb3⟩
    have HR3 := Lib.hid (HR2.out.below hb3)
    clear hb3
    obtain ⟨s0, hs0⟩ : ∃ s0 : Bs, s0 = [] := ⟨_, rfl⟩
    obtain ⟨rs0, hrs0⟩ : ∃ rs0 : List Bs, rs0 = [] := ⟨_, rfl⟩
    have htl := l6told_any (s := s0) (rs := rs0) HR3.out (by rw [hs0]; rfl) (by rw [hrs0]; rfl)
    have HS0 := Lib.hid (show _ ∧ _ from ⟨hs0, hrs0⟩)
    unfold ptrV at htl
    have HTL := Lib.hid htl
    clear htl hs0 hrs0
    go_wp2_with fail
    go_at_call 40
    refine HTL.out.mono ?_
    rintro e w4 ⟨k, sC, rA, rC, blk, qs, rfl, hown, hk, hkb, hS, hb4⟩
    unfold bookV
    obtain ⟨w5, hw5⟩ : ∃ w5, w5 = w4.alloc (.cells #[.slice (some ⟨k, 0, none⟩) s0.length sC, .slice rA rs0.length rC, .int .i64 rs0.length, .slice none 0 0, .bool false] 89) := ⟨_, rfl⟩
    obtain ⟨bb, hbb⟩ : ∃ bb, bb = w4.heap.size := ⟨_, rfl⟩
    have hb5 : RowKit.Below w4.heap.size w4 w5 := by rw [hw5]; exact low1 _ _
    have hs5 : w5.heap.size = bb + 1 := by rw [hw5, hbb]; simp
    have hsz := hb4.size
    have hlw := HR3.out.low.size
    have hr5 := HR3.out.add (Z := fun x => w3.heap.size ≤ x ∧ x < w5.heap.size) (bthen hb4 hb5) (fun x h => h.1)
    have hbk := BookR.told (Z := fun x => w3.heap.size ≤ x ∧ x < w5.heap.size) (w := wc) (bb := bb) (w' := w5) hlw hown hk hkb hS (.inr (by omega)) (by omega) ⟨by omega, by omega⟩ (fun x h1 h2 => ⟨h1, by omega⟩) (Kept.of_below hb5) (by rw [hbb, hw5]; exact blk1 _ _)
    have hi5 : SafeI R 1 d2 (newLog 1 [] [] 0) (toldB s0 rs0) := by
      have h := HI2.out
      rw [HRM.out] at h
      rw [HS0.out.1, HS0.out.2]
      exact h
    have HAT : Hid (SafeAt wc w5 R 1 bb g dg) := Lib.hid ⟨_, _, _, _, _, _, _, _, _, _, _, _, hr5, fun x h => h.2, hi5, hbk⟩
    clear hown hk hkb hS hb4 hb5 hs5 hsz hlw hr5 hbk hi5 HTL
    go_wp2
    simp only [← hw5, ← hbb]
    clear hw5 hbb
    go_loopw [4, 5, 7] (fun dv lv iv wr => ∃ (i g dg : Nat), dv = .pointer (some ⟨dg, 0, none⟩) ∧ lv = .pointer (some ⟨g, 0, none⟩) ∧ iv = .int .i64 i ∧ Hid (i ≤ acts.length ∧ ∃ E, E ≤ 1 + 5 * i ∧ SafeAt wc wr R E bb g dg)) (fun _ _ iv _ => acts.length - (intOf iv).toNat)
    case atStart => exact ⟨0, g, dg, rfl, rfl, rfl, Lib.hid ⟨Nat.zero_le _, 1, by omega, HAT.out⟩⟩
    case round =>
      obtain ⟨i, g, dg, rfl, rfl, rfl, hI⟩ := hrel
      obtain ⟨E, hE, Z, d, L, b, sA, sC, rA, rC, nA, nC, vals, rblk, hrun, hZ, hsafe, hbk⟩ := hI.out.2
      have HE := Lib.hid (show i ≤ acts.length ∧ E ≤ 1 + 5 * i from ⟨hI.out.1, hE⟩)
      have c2 : wr.cell? ⟨sb, 2, none⟩ = some (.slice SA acts.length SC) := cell_block (bblk hrun.low HB1.out) rfl
      have HRUN := Lib.hid hrun
      have HZ := Lib.hid hZ
      have HSAFE := Lib.hid hsafe
      have HBK := Lib.hid hbk
      clear hE hrun hZ hsafe hbk hI
      by_cases hlt : i < acts.length
      · have l1 : (i : Int) < acts.length := by omega
        have l0 : (0 : Int) ≤ (i : Int) := by omega
        have hiw : IntKind.i64.wrap ((i : Int) + 1) = (i : Int) + 1 := IntWalk.i64_in _ (by have := HN.out.1; omega)
        obtain ⟨a, ha⟩ : ∃ a, acts[i]? = some a := ⟨_, List.getElem?_eq_getElem hlt⟩
        obtain ⟨ab, ao, PA, PC, TA, TC, rfl, a0, a1, a2, a3, a4, aP, aT, aI⟩ := (HX.out.below HL1.out).each i a ha
        have HTW := Lib.hid aT
        have HPW := Lib.hid aP
        have kk := fun {c : Nat} {v : Value} (hc : wc.cell? ⟨ab, c, none⟩ = some v) => (HRUN.out.low.cell (p := ⟨ab, c, none⟩) (World.block_lt_of_cell? wc _ hc)).trans hc
        replace a0 := kk a0
        replace a1 := kk a1
        replace a2 := kk a2
        replace a3 := kk a3
        replace a4 := kk a4
        replace aP := aP.below HRUN.out.low
        replace aT := aT.below HRUN.out.low
        clear kk
        have HA := Lib.hid (show TxtW wr PA a.p.length PC a.p ∧ IntsW wr TA a.tails.length a.tails ∧ I64 a.kind ∧ I64 a.n ∧ I64 a.cd ∧ i < acts.length ∧ a ∈ acts from ⟨aP, aT, aI.1, aI.2.1, aI.2.2, hlt, List.mem_of_getElem? ha⟩)
        clear aP aT aI hlt ha
        go_upto_region 13 with (fail)
        obtain ⟨w6, hw6⟩ : ∃ w6, w6 = wr.alloc (.cells #[.int .i64 a.kind, .slice PA a.p.length PC, .int .i64 a.n, .int .i64 a.cd, .slice TA a.tails.length TC] 86) := ⟨_, rfl⟩
        obtain ⟨qb, hqb⟩ : ∃ qb, qb = wr.heap.size := ⟨_, rfl⟩
        have hb6 : RowKit.Below wr.heap.size wr w6 := by rw [hw6]; exact low1 _ _
        have hq6 : w6.heap[qb]? = some (.cells #[.int .i64 a.kind, .slice PA a.p.length PC, .int .i64 a.n, .int .i64 a.cd, .slice TA a.tails.length TC] 86 (0, 0)) := by rw [hqb, hw6]; exact blk1 _ _
        have HQ6 := Lib.hid hq6
        have q1 : w6.cell? ⟨qb, 1, none⟩ = some (.slice PA a.p.length PC) := cell_block hq6 rfl
        have q2 : w6.cell? ⟨qb, 2, none⟩ = some (.int .i64 a.n) := cell_block hq6 rfl
        have HR6 := Lib.hid (HRUN.out.below hb6)
        have HRQ := Lib.hid (HRUN.out.add (Z' := fun x => Z x ∨ (wr.heap.size ≤ x ∧ x < w6.heap.size)) hb6 fun x h => h.imp id fun h => h.1)
        have HZQ := Lib.hid (show ∀ x, Z x → x ≠ qb from fun x hx e => by have := HZ.out x hx; omega)
        have HQB := Lib.hid (show wr.heap.size ≤ qb by omega)
        have HZ6 := Lib.hid (show ∀ x, Z x → x < w6.heap.size from fun x hx => Nat.lt_of_lt_of_le (HZ.out x hx) hb6.size)
        have HBK6 := Lib.hid (HBK.out.below hb6)
        have HP6 := Lib.hid (HA.out.1.below hb6)
        rw [← hw6]
        simp only [← hqb]
        clear hw6 hqb hb6 hq6 a0 a1 a2 a3 a4 c2 HRUN HZ HBK
        by_cases k4 : a.kind = 4
        · have t1 : ((4 : Int) == 1) = false := rfl
          have har := Lib.hid (run_armL HR6.out a.n HA.out.2.2.2.1.2)
          have HSF := Lib.hid (HSAFE.out.arm a.n)
          rw [k4]
          clear k4 t1
          unfold ptrV at har
          go_wp2_with fail
          go_at_call 30
          refine har.out.mono ?_
          rintro e w7 ⟨rfl, hR7, hk7⟩
          have HAT7 : Hid (SafeAt wc w7 R E bb g dg) := Lib.hid ⟨Z, _, _, b, _, _, _, _, _, _, _, _, hR7, fun x hx => Nat.lt_of_lt_of_le (HZ6.out x hx) hk7.size, HSF.out, HBK6.out.kept hk7 fun x hx hn => hn hx⟩
          clear hR7 hk7 har
          go_wp2
          refine ⟨⟨i + 1, g, dg, rfl, rfl, by simp, Lib.hid ⟨HA.out.2.2.2.2.2.1, E, by have := HE.out.2; omega, HAT7.out⟩⟩, by have := HA.out.2.2.2.2.2.1; simp [intOf]; omega⟩
        by_cases k1 : a.kind = 1
        -- K1
        · obtain ⟨d', L', q, hap, hcs⟩ := append_safe HSAFE.out (by have := HE.out; have := HN.out.1; omega) a.p
          have HAP := Lib.hid hap
          have HCS := Lib.hid hcs
          have Z1 := Lib.hid (show 0 + a.p.length ≤ maxLen by have := HN.out.2.1 a HA.out.2.2.2.2.2.2; unfold maxLen; omega)
          have Z2 := Lib.hid (show (0 + a.p.length) * 1 ≤ 140737488355328 by have := HN.out.2.1 a HA.out.2.2.2.2.2.2; omega)
          have hgq : qb < w6.heap.size := in_heap HQ6.out
          obtain ⟨bw, hbw⟩ : ∃ bw, bw = L.broken := ⟨_, rfl⟩
          have hbr := run_broken HR6.out.run
          rw [← hbw] at hbr
          unfold ptrV at hbr
          have HBR := Lib.hid hbr
          have HBW := Lib.hid hbw
          rw [k1]
          clear k1 k4 hbr hap hcs hbw
          go_wp2_with (first | (at_builtin; refine wpList_app0 rfl _ _ 22 rfl 5 1 1 _ Tryz.underlying22 info_u8r rfl (by decide) (some ⟨w6.heap.size, 0, none⟩) 0 0 [] (some w6.heap.size) rfl (OwnR.of_row (blk1 _ _) (Nat.le_refl _) (Nat.zero_le _) rfl rfl) PA a.p.length PC (a.p.map V8) rfl (by simp) (HP6.out.below (low1 _ _)).cells HP6.out.nil (bone a.p) Z1.out Z2.out ?_; intro B3 D3 w7 b3 h3 h4 h5; have H3 := Lib.hid h3; have H4 := Lib.hid h4; have H5 := Lib.hid h5; clear h3 h4 h5) | (go_at_call 41; refine HBR.out.mono ?_; rintro e w99 ⟨rfl, rfl⟩))
          obtain ⟨k7, rfl, hk7, hown7, hlow7⟩ := newB H3.out H4.out H5.out
          have hrz := HRQ.out.add (Z' := fun x => (Z x ∨ (wr.heap.size ≤ x ∧ x < w6.heap.size)) ∨ (w6.heap.size ≤ x ∧ x < w7.heap.size)) hlow7 (fun x h => h.imp id fun h => h.1)
          have hzl : ∀ x, ((Z x ∨ (wr.heap.size ≤ x ∧ x < w6.heap.size)) ∨ (w6.heap.size ≤ x ∧ x < w7.heap.size)) → x < w7.heap.size := fun x h => h.elim (fun h => h.elim (fun h => Nat.lt_of_lt_of_le (HZ6.out x h) hlow7.size) fun h => Nat.lt_of_lt_of_le h.2 hlow7.size) fun h => h.2
          have hru := run_appendZ (HT.out.low HL1.out) hrz hzl hown7.txt (fun ad had => by rw [← Option.some.inj had]; exact .inr ⟨hk7, hown7.lt _ rfl⟩) (by have := HN.out.2.1 a HA.out.2.2.2.2.2.2; omega) HAP.out
          unfold ptrV at hru
          have HRU := Lib.hid hru
          have HBK7 := Lib.hid (HBK6.out.below hlow7)
          have HQ7 := Lib.hid ((hlow7.cell (p := ⟨qb, 1, none⟩) hgq).trans q1)
          have HQL := Lib.hid (show wr.heap.size ≤ qb ∧ qb < w6.heap.size from ⟨HQB.out, hgq⟩)
          have HW7 := Lib.hid hlow7.size
          clear hrz hzl hown7 hlow7 hk7 hru H3 H4 H5 hgq q1 q2 HBR
          refine HRU.out.mono ?_
          rintro e w8 ⟨rfl, hR8, hk8⟩
          have hbk8 := HBK7.out.kept hk8 fun x hx hn => hn (.inl (.inl hx))
          have q1 : w8.cell? ⟨qb, 1, none⟩ = some (.slice PA a.p.length PC) := hk8.cell HQ7.out fun hn => hn (.inl (.inr HQL.out))
          have HR8 := Lib.hid (hR8.weak (Z' := Z) fun x hx => .inl (.inl hx))
          have HZ8 := Lib.hid (show ∀ x, Z x → x < w8.heap.size from fun x hx => Nat.lt_of_lt_of_le (HZ6.out x hx) (Nat.le_trans HW7.out hk8.size))
          have HBK8 := Lib.hid hbk8
          have HQ8 := Lib.hid q1
          have hgq8 : qb < w8.heap.size := World.block_lt_of_cell? _ _ q1
          have hbr := run_broken hR8.run
          unfold ptrV at hbr
          have HP8 := Lib.hid (HPW.out.below hR8.low)
          clear hR8 hk8 hbk8 hbr HRU HBK7 HQ7 HW7
          simp only [Int.natCast_zero]
          rcases HCS.out with ⟨rfl, hbq, hsf⟩ | ⟨hq, rfl, hbq, hsf⟩ | ⟨hq, rfl, hsf⟩
          · have HSF := Lib.hid hsf
            have HFEW := Lib.hid (HSAFE.out.few (append_whole HAP.out))
            clear hbq hsf HCS
            go_upto_region 17 with (go_at_call 15; refine (l6num_any _ _).mono ?_; rintro e w99 ⟨rfl, rfl⟩)
            obtain ⟨k9, D9, v2, v3, v4, v5, B8, D8, hv2, hrun3, hv4, hrun5, hall, hc1, fz, hsa⟩ := push_worlds HR8.out HZ8.out HBK8.out HSF.out HPW.out (HN.out.2.1 a HA.out.2.2.2.2.2.2) HFEW.out HQ8.out HZQ.out
            have HV2 := Lib.hid hv2
            have HRUN3 := Lib.hid hrun3
            have HV4 := Lib.hid hv4
            have HRUN5 := Lib.hid hrun5
            have HALL := Lib.hid hall
            have HAT := Lib.hid hsa
            obtain ⟨u1, hc1⟩ := hc1
            clear hv2 hrun3 hv4 hrun5 hall hsa q1
            refine wp_region_inv 9 177 (fun _ _ => True) [2, 5, 6, 7] (seqW w8.drew v2 v3 v4 v5) (by kernel_rfl) (by kernel_rfl) (by kernel_rfl) (by kernel_rfl) (by kernel_rfl) [.is (.pointer (some ⟨bb, 1, none⟩) : Value), .is (.slice rA b.records.length rC : Value), .is (.slice (some ⟨w8.drew.heap.size, 0, none⟩) 0 0 : Value), .is (.pointer (some ⟨qb, 1, none⟩) : Value), .is (.slice PA a.p.length PC : Value), .is (.slice (some ⟨k9, 0, none⟩) a.p.length D9 : Value), .is (.slice (some ⟨v3.heap.size, 0, none⟩) 1 1 : Value), .is (.slice B8 (b.records.length + 1) D8 : Value), .is (.pointer (some ⟨bb, 1, none⟩) : Value)] rfl (rfl) (fun vs => ?_) (fun vs wv hI h => ?_)
            · refine RegHeadI.cons (fun S wv hd hSk hSd hI h => ?_) ?_
              · exact relAtI.pure ⟨trivial, keepI (by decide) hI⟩ (by kernel_rfl) (by kernel_rfl)
              refine RegHeadI.cons (fun S wv hd hSk hSd hI h => ?_) ?_
              · exact relAtI.pureS ⟨trivial, keepI (by decide) hI⟩ (by kernel_rfl) (by kernel_rfl) (run_load_byteses (HALL.out _ _ hI).1)
              refine RegHeadI.cons (fun S wv hd hSk hSd hI h => ?_) ?_
              · have s2 : S 5 = false := hd.not 9 hSk (by decide) (by decide)
                have hw : wv = w8.drew := by have hI := hI; simp only [List.map, hSk] at hI; exact hI
                subst hw
                exact relAtI.valueS (by kernel_rfl) (by kernel_rfl) (run_build_none _) ⟨trivial, by simp only [List.map, setB, s2]; exact HV2.out.symm⟩ rfl
              refine RegHeadI.cons (fun S wv hd hSk hSd hI h => ?_) ?_
              · exact relAtI.pure ⟨trivial, keepI (by decide) hI⟩ (by kernel_rfl) (by kernel_rfl)
              refine RegHeadI.cons (fun S wv hd hSk hSd hI h => ?_) ?_
              · exact relAtI.pureS ⟨trivial, keepI (by decide) hI⟩ (by kernel_rfl) (by kernel_rfl) (run_load_bytes (HALL.out _ _ hI).2)
              refine RegHeadI.cons (fun S wv hd hSk hSd hI h => ?_) ?_
              · have s1 : S 2 = true := hSd 2 (by decide)
                have s3 : S 6 = false := hd.not 9 hSk (by decide) (by decide)
                have hw : wv = v2 := by have hI := hI; simp only [List.map, hSk, s1] at hI; exact hI
                subst hw
                exact relAtI.valueS (by kernel_rfl) (by kernel_rfl) HRUN3.out ⟨trivial, by simp only [List.map, setB, s1, s3]; rfl⟩ rfl
              refine RegHeadI.cons (fun S wv hd hSk hSd hI h => ?_) ?_
              · have s2 : S 5 = true := hSd 5 (by decide)
                have s1 : S 2 = true := hd.come 9 5 2 (by decide) s2 (by decide)
                have s4 : S 7 = false := hd.not 9 hSk (by decide) (by decide)
                have hw : wv = v3 := by have hI := hI; simp only [List.map, hSk, s1, s2] at hI; exact hI
                subst hw
                exact relAtI.valueS (by kernel_rfl) (by kernel_rfl) (run_build_row1 _ _ _ _) ⟨trivial, by simp only [List.map, setB, s1, s2, s4]; exact HV4.out.symm⟩ rfl
              refine RegHeadI.cons (fun S wv hd hSk hSd hI h => ?_) ?_
              · have s3 : S 6 = true := hSd 6 (by decide)
                have s2 : S 5 = true := hd.come 9 6 5 (by decide) s3 (by decide)
                have s1 : S 2 = true := hd.come 9 5 2 (by decide) s2 (by decide)
                have hw : wv = v4 := by have hI := hI; simp only [List.map, hSk, s1, s2, s3] at hI; exact hI
                subst hw
                exact relAtI.valueS (by kernel_rfl) (by kernel_rfl) HRUN5.out ⟨trivial, by simp only [List.map, setB, s1, s2, s3]; rfl⟩ rfl
              refine RegHeadI.cons (fun S wv hd hSk hSd hI h => ?_) ?_
              · exact relAtI.pure ⟨trivial, keepI (by decide) hI⟩ (by kernel_rfl) (by kernel_rfl)
              exact trivial
            · have hw : wv = v5 := hI
              subst hw
              clear h hI
              refine wp_frame2 (ps := [(70, [(.pointer (some ⟨bb, 1, none⟩) : Value), (.slice rA b.records.length rC : Value), (.slice (some ⟨w8.drew.heap.size, 0, none⟩) 0 0 : Value), (.pointer (some ⟨qb, 1, none⟩) : Value), (.slice PA a.p.length PC : Value), (.slice (some ⟨k9, 0, none⟩) a.p.length D9 : Value), (.slice (some ⟨v3.heap.size, 0, none⟩) 1 1 : Value), (.slice B8 (b.records.length + 1) D8 : Value), (.pointer (some ⟨bb, 1, none⟩) : Value)])]) (by kernel_rfl) ?_
              simp only [overlay, List.take, List.drop, List.cons_append, List.nil_append, List.length_cons, List.length_nil, Nat.reduceAdd]
              go_wp2
              refine ⟨⟨i + 1, g, dg, rfl, rfl, by simp, Lib.hid ⟨HA.out.2.2.2.2.2.1, E, by have := HE.out.2; omega, HAT.out⟩⟩, by have := HA.out.2.2.2.2.2.1; simp [intOf]; omega⟩
          · have HSF := Lib.hid hsf
            have HFEW := Lib.hid (HSAFE.out.few hbq)
            have hq1 : ((q : Int) == 0) = false := by simp; omega
            obtain rfl : bw = false := HBW.out.trans hbq
            have HBR := Lib.hid (run_broken HR8.out.run)
            unfold ptrV at HBR
            rw [show (LogS.broke L).broken = true from rfl] at HBR
            clear hbq hsf hq HCS HBW
            go_upto_region 17 with (first | (go_at_call 41; refine HBR.out.mono ?_; rintro e w99 ⟨rfl, rfl⟩) | (go_at_call 15; refine (l6num_any _ _).mono ?_; rintro e w99 ⟨rfl, rfl⟩))
            obtain ⟨k9, D9, v2, v3, v4, v5, B8, D8, hv2, hrun3, hv4, hrun5, hall, hc1, fz, hsa⟩ := push_worlds HR8.out HZ8.out HBK8.out HSF.out HPW.out (HN.out.2.1 a HA.out.2.2.2.2.2.2) HFEW.out HQ8.out HZQ.out
            have HV2 := Lib.hid hv2
            have HRUN3 := Lib.hid hrun3
            have HV4 := Lib.hid hv4
            have HRUN5 := Lib.hid hrun5
            have HALL := Lib.hid hall
            have HAT := Lib.hid hsa
            obtain ⟨u1, hc1⟩ := hc1
            clear hv2 hrun3 hv4 hrun5 hall hsa q1
            refine wp_region_inv 9 177 (fun _ _ => True) [2, 5, 6, 7] (seqW w8.drew v2 v3 v4 v5) (by kernel_rfl) (by kernel_rfl) (by kernel_rfl) (by kernel_rfl) (by kernel_rfl) [.is (.pointer (some ⟨bb, 1, none⟩) : Value), .is (.slice rA b.records.length rC : Value), .is (.slice (some ⟨w8.drew.heap.size, 0, none⟩) 0 0 : Value), .is (.pointer (some ⟨qb, 1, none⟩) : Value), .is (.slice PA a.p.length PC : Value), .is (.slice (some ⟨k9, 0, none⟩) a.p.length D9 : Value), .is (.slice (some ⟨v3.heap.size, 0, none⟩) 1 1 : Value), .is (.slice B8 (b.records.length + 1) D8 : Value), .is (.pointer (some ⟨bb, 1, none⟩) : Value)] rfl (rfl) (fun vs => ?_) (fun vs wv hI h => ?_)
            · refine RegHeadI.cons (fun S wv hd hSk hSd hI h => ?_) ?_
              · exact relAtI.pure ⟨trivial, keepI (by decide) hI⟩ (by kernel_rfl) (by kernel_rfl)
              refine RegHeadI.cons (fun S wv hd hSk hSd hI h => ?_) ?_
              · exact relAtI.pureS ⟨trivial, keepI (by decide) hI⟩ (by kernel_rfl) (by kernel_rfl) (run_load_byteses (HALL.out _ _ hI).1)
              refine RegHeadI.cons (fun S wv hd hSk hSd hI h => ?_) ?_
              · have s2 : S 5 = false := hd.not 9 hSk (by decide) (by decide)
                have hw : wv = w8.drew := by have hI := hI; simp only [List.map, hSk] at hI; exact hI
                subst hw
                exact relAtI.valueS (by kernel_rfl) (by kernel_rfl) (run_build_none _) ⟨trivial, by simp only [List.map, setB, s2]; exact HV2.out.symm⟩ rfl
              refine RegHeadI.cons (fun S wv hd hSk hSd hI h => ?_) ?_
              · exact relAtI.pure ⟨trivial, keepI (by decide) hI⟩ (by kernel_rfl) (by kernel_rfl)
              refine RegHeadI.cons (fun S wv hd hSk hSd hI h => ?_) ?_
              · exact relAtI.pureS ⟨trivial, keepI (by decide) hI⟩ (by kernel_rfl) (by kernel_rfl) (run_load_bytes (HALL.out _ _ hI).2)
              refine RegHeadI.cons (fun S wv hd hSk hSd hI h => ?_) ?_
              · have s1 : S 2 = true := hSd 2 (by decide)
                have s3 : S 6 = false := hd.not 9 hSk (by decide) (by decide)
                have hw : wv = v2 := by have hI := hI; simp only [List.map, hSk, s1] at hI; exact hI
                subst hw
                exact relAtI.valueS (by kernel_rfl) (by kernel_rfl) HRUN3.out ⟨trivial, by simp only [List.map, setB, s1, s3]; rfl⟩ rfl
              refine RegHeadI.cons (fun S wv hd hSk hSd hI h => ?_) ?_
              · have s2 : S 5 = true := hSd 5 (by decide)
                have s1 : S 2 = true := hd.come 9 5 2 (by decide) s2 (by decide)
                have s4 : S 7 = false := hd.not 9 hSk (by decide) (by decide)
                have hw : wv = v3 := by have hI := hI; simp only [List.map, hSk, s1, s2] at hI; exact hI
                subst hw
                exact relAtI.valueS (by kernel_rfl) (by kernel_rfl) (run_build_row1 _ _ _ _) ⟨trivial, by simp only [List.map, setB, s1, s2, s4]; exact HV4.out.symm⟩ rfl
              refine RegHeadI.cons (fun S wv hd hSk hSd hI h => ?_) ?_
              · have s3 : S 6 = true := hSd 6 (by decide)
                have s2 : S 5 = true := hd.come 9 6 5 (by decide) s3 (by decide)
                have s1 : S 2 = true := hd.come 9 5 2 (by decide) s2 (by decide)
                have hw : wv = v4 := by have hI := hI; simp only [List.map, hSk, s1, s2, s3] at hI; exact hI
                subst hw
                exact relAtI.valueS (by kernel_rfl) (by kernel_rfl) HRUN5.out ⟨trivial, by simp only [List.map, setB, s1, s2, s3]; rfl⟩ rfl
              refine RegHeadI.cons (fun S wv hd hSk hSd hI h => ?_) ?_
              · exact relAtI.pure ⟨trivial, keepI (by decide) hI⟩ (by kernel_rfl) (by kernel_rfl)
              exact trivial
            · have hw : wv = v5 := hI
              subst hw
              clear h hI
              refine wp_frame2 (ps := [(70, [(.pointer (some ⟨bb, 1, none⟩) : Value), (.slice rA b.records.length rC : Value), (.slice (some ⟨w8.drew.heap.size, 0, none⟩) 0 0 : Value), (.pointer (some ⟨qb, 1, none⟩) : Value), (.slice PA a.p.length PC : Value), (.slice (some ⟨k9, 0, none⟩) a.p.length D9 : Value), (.slice (some ⟨v3.heap.size, 0, none⟩) 1 1 : Value), (.slice B8 (b.records.length + 1) D8 : Value), (.pointer (some ⟨bb, 1, none⟩) : Value)])]) (by kernel_rfl) ?_
              simp only [overlay, List.take, List.drop, List.cons_append, List.nil_append, List.length_cons, List.length_nil, Nat.reduceAdd]
              go_wp2
              refine ⟨⟨i + 1, g, dg, rfl, rfl, by simp, Lib.hid ⟨HA.out.2.2.2.2.2.1, E, by have := HE.out.2; omega, HAT.out⟩⟩, by have := HA.out.2.2.2.2.2.1; simp [intOf]; omega⟩
          · have hq1 : ((q : Int) == 0) = false := by simp; omega
            have HAT := Lib.hid (show SafeAt wc w8 R E bb g dg from ⟨Z, _, _, b, _, _, _, _, _, _, _, _, HR8.out, HZ8.out, hsf, HBK8.out⟩)
            have HBR := Lib.hid (run_broken HR8.out.run)
            unfold ptrV at HBR
            rw [← HBW.out] at HBR
            clear hsf hq HCS HBW q1
            cases bw
            · go_wp2_with (first | (go_at_call 41; refine HBR.out.mono ?_; rintro e w99 ⟨rfl, rfl⟩) | (go_at_call 15; refine (l6num_any _ _).mono ?_; rintro e w99 ⟨rfl, rfl⟩))
              refine ⟨⟨i + 1, g, dg, rfl, rfl, by simp, Lib.hid ⟨HA.out.2.2.2.2.2.1, E, by have := HE.out.2; omega, HAT.out⟩⟩, by have := HA.out.2.2.2.2.2.1; simp [intOf]; omega⟩
            · go_wp2_with (first | (go_at_call 41; refine HBR.out.mono ?_; rintro e w99 ⟨rfl, rfl⟩) | (go_at_call 15; refine (l6num_any _ _).mono ?_; rintro e w99 ⟨rfl, rfl⟩))
              refine ⟨⟨i + 1, g, dg, rfl, rfl, by simp, Lib.hid ⟨HA.out.2.2.2.2.2.1, E, by have := HE.out.2; omega, HAT.out⟩⟩, by have := HA.out.2.2.2.2.2.1; simp [intOf]; omega⟩
        -- ENDK1
        by_cases k2 : a.kind = 2
        · obtain ⟨d', L', q, hsy, hsc⟩ := sync_safe HSAFE.out
          have hru := Lib.hid (run_syncZ (HT.out.low HL1.out) HR6.out HZ6.out hsy)
          have HSC := Lib.hid hsc
          rw [k2]
          clear k1 k2 k4 hsy hsc
          unfold ptrV at hru
          go_wp2_with fail
          go_at_call 42
          refine hru.out.mono ?_
          rintro e w7 ⟨rfl, hR7, hk7⟩
          have HR7 := Lib.hid hR7
          have HZ7 := Lib.hid (show ∀ x, Z x → x < w7.heap.size from fun x hx => Nat.lt_of_lt_of_le (HZ6.out x hx) hk7.size)
          have hbk7 := HBK6.out.kept hk7 fun x hx hn => hn hx
          have HBK7 := Lib.hid hbk7
          rcases HSC.out with ⟨rfl, hsf⟩ | ⟨hq, hsf⟩
          · have HSF := Lib.hid hsf
            have b1 : w7.cell? ⟨bb, 1, none⟩ = some (.slice rA b.records.length rC) := cell_block hbk7.row rfl
            have b2 : w7.cell? ⟨bb, 2, none⟩ = some (.int .i64 b.safe) := cell_block hbk7.row rfl
            have fz := frozen_row hbk7.row
            clear hR7 hk7 hru hsf hbk7 HSC
            go_wp2_with (go_at_call 15; refine (l6num_any _ _).mono ?_; rintro e w99 ⟨rfl, rfl⟩)
            have hk8 := Kept.setCell (Kept.refl (fun x => x = bb) w7) ⟨bb, 2, none⟩ (.int .i64 b.records.length) (.inl rfl)
            have hrow8 := setCell_one (k := 2) HBK7.out.row (.int .i64 b.records.length)
            have hbk8 := HBK7.out.turn (b' := { b with safe := b.records.length }) hk8 hrow8 rfl rfl (HBK7.out.nw.kept hk8 fun ad had _ e => (HBK7.out.nz ad had).2.1 e) HBK7.out.nz
            have HAT8 : Hid (SafeAt wc (w7.setCell ⟨bb, 2, none⟩ (.int .i64 b.records.length)) R E bb g dg) := Lib.hid ⟨Z, _, _, _, _, _, _, _, _, _, _, _, HR7.out.other hk8 (fun x e => e ▸ HBK7.out.bz), fun x hx => Nat.lt_of_lt_of_le (HZ7.out x hx) hk8.size, HSF.out, hbk8⟩
            clear hk8 hrow8 hbk8
            refine ⟨⟨i + 1, g, dg, rfl, rfl, by simp, Lib.hid ⟨HA.out.2.2.2.2.2.1, E, by have := HE.out.2; omega, HAT8.out⟩⟩, by have := HA.out.2.2.2.2.2.1; simp [intOf]; omega⟩
          · have hq1 : ((q : Int) == 0) = false := by simp; omega
            have HAT7 : Hid (SafeAt wc w7 R E bb g dg) := Lib.hid ⟨Z, _, _, b, _, _, _, _, _, _, _, _, HR7.out, HZ7.out, hsf, HBK7.out⟩
            clear hR7 hk7 hru hsf hbk7 HSC hq
            go_wp2_with (go_at_call 15; refine (l6num_any _ _).mono ?_; rintro e w99 ⟨rfl, rfl⟩)
            refine ⟨⟨i + 1, g, dg, rfl, rfl, by simp, Lib.hid ⟨HA.out.2.2.2.2.2.1, E, by have := HE.out.2; omega, HAT7.out⟩⟩, by have := HA.out.2.2.2.2.2.1; simp [intOf]; omega⟩
        by_cases k3 : a.kind = 3
        -- K3
        · obtain ⟨d', L', q, hap, hcs⟩ := snap_safe HSAFE.out (by have := HE.out; have := HN.out.1; omega) a.p
          have HAP := Lib.hid hap
          have HCS := Lib.hid hcs
          have Z1 := Lib.hid (show 0 + a.p.length ≤ maxLen by have := HN.out.2.1 a HA.out.2.2.2.2.2.2; unfold maxLen; omega)
          have Z2 := Lib.hid (show (0 + a.p.length) * 1 ≤ 140737488355328 by have := HN.out.2.1 a HA.out.2.2.2.2.2.2; omega)
          have hgq : qb < w6.heap.size := in_heap HQ6.out
          obtain ⟨bw, hbw⟩ : ∃ bw, bw = L.broken := ⟨_, rfl⟩
          have hbr := run_broken HR6.out.run
          rw [← hbw] at hbr
          unfold ptrV at hbr
          have HBR := Lib.hid hbr
          have HBW := Lib.hid hbw
          rw [k3]
          clear k1 k2 k3 k4 hbr hap hcs hbw
          go_wp2_with (first | (at_builtin; refine wpList_app0 rfl _ _ 22 rfl 5 1 1 _ Tryz.underlying22 info_u8r rfl (by decide) (some ⟨w6.heap.size, 0, none⟩) 0 0 [] (some w6.heap.size) rfl (OwnR.of_row (blk1 _ _) (Nat.le_refl _) (Nat.zero_le _) rfl rfl) PA a.p.length PC (a.p.map V8) rfl (by simp) (HP6.out.below (low1 _ _)).cells HP6.out.nil (bone a.p) Z1.out Z2.out ?_; intro B3 D3 w7 b3 h3 h4 h5; have H3 := Lib.hid h3; have H4 := Lib.hid h4; have H5 := Lib.hid h5; clear h3 h4 h5) | (go_at_call 41; refine HBR.out.mono ?_; rintro e w99 ⟨rfl, rfl⟩))
          obtain ⟨k7, rfl, hk7, hown7, hlow7⟩ := newB H3.out H4.out H5.out
          have hrz := HRQ.out.add (Z' := fun x => (Z x ∨ (wr.heap.size ≤ x ∧ x < w6.heap.size)) ∨ (w6.heap.size ≤ x ∧ x < w7.heap.size)) hlow7 (fun x h => h.imp id fun h => h.1)
          have hzl : ∀ x, ((Z x ∨ (wr.heap.size ≤ x ∧ x < w6.heap.size)) ∨ (w6.heap.size ≤ x ∧ x < w7.heap.size)) → x < w7.heap.size := fun x h => h.elim (fun h => h.elim (fun h => Nat.lt_of_lt_of_le (HZ6.out x h) hlow7.size) fun h => Nat.lt_of_lt_of_le h.2 hlow7.size) fun h => h.2
          have hru := run_snapZ (HT.out.low HL1.out) hrz hzl hown7.txt (fun ad had => by rw [← Option.some.inj had]; exact .inr ⟨hk7, hown7.lt _ rfl⟩) (by have := HN.out.2.1 a HA.out.2.2.2.2.2.2; omega) (fun hb => HSAFE.out.room_left HN.out.2.2.2.2 hb) HAP.out
          unfold ptrV at hru
          have HRU := Lib.hid hru
          have HBK7 := Lib.hid (HBK6.out.below hlow7)
          have HQ7 := Lib.hid ((hlow7.cell (p := ⟨qb, 1, none⟩) hgq).trans q1)
          have HQL := Lib.hid (show wr.heap.size ≤ qb ∧ qb < w6.heap.size from ⟨HQB.out, hgq⟩)
          have HW7 := Lib.hid hlow7.size
          clear hrz hzl hown7 hlow7 hk7 hru H3 H4 H5 hgq q1 q2 HBR
          refine HRU.out.mono ?_
          rintro e w8 ⟨rfl, hR8, hk8⟩
          have hbk8 := HBK7.out.kept hk8 fun x hx hn => hn (.inl (.inl hx))
          have q1 : w8.cell? ⟨qb, 1, none⟩ = some (.slice PA a.p.length PC) := hk8.cell HQ7.out fun hn => hn (.inl (.inr HQL.out))
          have HR8 := Lib.hid (hR8.weak (Z' := Z) fun x hx => .inl (.inl hx))
          have HZ8 := Lib.hid (show ∀ x, Z x → x < w8.heap.size from fun x hx => Nat.lt_of_lt_of_le (HZ6.out x hx) (Nat.le_trans HW7.out hk8.size))
          have HBK8 := Lib.hid hbk8
          have HQ8 := Lib.hid q1
          have hgq8 : qb < w8.heap.size := World.block_lt_of_cell? _ _ q1
          have hbr := run_broken hR8.run
          unfold ptrV at hbr
          have HP8 := Lib.hid (HPW.out.below hR8.low)
          clear hR8 hk8 hbk8 hbr HRU HBK7 HQ7 HW7
          simp only [Int.natCast_zero]
          rcases HCS.out with ⟨rfl, hbq, hsf⟩ | ⟨hq, rfl, hbq, hsf⟩ | ⟨hq, rfl, hsf⟩
          · have HSF := Lib.hid hsf
            clear hbq hsf HCS HBW
            go_wp2_with (first | (at_builtin; refine wpList_app0 rfl _ _ 22 rfl 5 1 1 _ Tryz.underlying22 info_u8r rfl (by decide) (some ⟨w8.heap.size, 0, none⟩) 0 0 [] (some w8.heap.size) rfl (OwnR.of_row (blk1 _ _) (Nat.le_refl _) (Nat.zero_le _) rfl rfl) PA a.p.length PC (a.p.map V8) rfl (by simp) (HP8.out.below (low1 _ _)).cells HP8.out.nil (bone a.p) Z1.out Z2.out ?_; intro B3 D3 w9 b3 h3 h4 h5; obtain ⟨k9, rfl, hk9, hown9, hlow9⟩ := newB h3 h4 h5; obtain ⟨hc, fz, hsa⟩ := snap_fresh HR8.out HZ8.out HBK8.out HSF.out hlow9 hk9 hown9; obtain ⟨u0, c0⟩ := hc 0 (by decide); obtain ⟨u1, c1⟩ := hc 1 (by decide); obtain ⟨u2, c2⟩ := hc 2 (by decide); obtain ⟨u3, c3⟩ := hc 3 (by decide); obtain ⟨u4, c4⟩ := hc 4 (by decide); have HAT := Lib.hid hsa; clear hc hsa h3 h4 h5 hk9 hown9 hlow9) | (go_at_call 15; refine (l6num_any _ _).mono ?_; rintro e w99 ⟨rfl, rfl⟩))
            refine ⟨⟨i + 1, g, dg, rfl, rfl, by simp, Lib.hid ⟨HA.out.2.2.2.2.2.1, E + 1, by have := HE.out.2; omega, HAT.out⟩⟩, by have := HA.out.2.2.2.2.2.1; simp [intOf]; omega⟩
          · have HSF := Lib.hid hsf
            have hq1 : ((q : Int) == 0) = false := by simp; omega
            have hq2 : ((q : Int) != 0) = true := by simp; omega
            obtain rfl : bw = false := HBW.out.trans hbq
            have HBR := Lib.hid (run_broken HR8.out.run)
            unfold ptrV at HBR
            rw [show (LogS.broke L).broken = true from rfl] at HBR
            clear hbq hsf hq HCS HBW
            go_wp2_with (first | (at_builtin; refine wpList_app0 rfl _ _ 22 rfl 5 1 1 _ Tryz.underlying22 info_u8r rfl (by decide) (some ⟨w8.heap.size, 0, none⟩) 0 0 [] (some w8.heap.size) rfl (OwnR.of_row (blk1 _ _) (Nat.le_refl _) (Nat.zero_le _) rfl rfl) PA a.p.length PC (a.p.map V8) rfl (by simp) (HP8.out.below (low1 _ _)).cells HP8.out.nil (bone a.p) Z1.out Z2.out ?_; intro B3 D3 w9 b3 h3 h4 h5; obtain ⟨k9, rfl, hk9, hown9, hlow9⟩ := newB h3 h4 h5; obtain ⟨⟨u3, c3⟩, fz, ⟨u4, c4⟩, fz2, hsa⟩ := snap_turned HR8.out HZ8.out HBK8.out HSF.out hlow9 hk9 hown9; have HAT := Lib.hid hsa; clear hsa h3 h4 h5 hk9 hown9 hlow9) | (go_at_call 41; refine HBR.out.mono ?_; rintro e w99 ⟨rfl, rfl⟩) | (go_at_call 15; refine (l6num_any _ _).mono ?_; rintro e w99 ⟨rfl, rfl⟩))
            refine ⟨⟨i + 1, g, dg, rfl, rfl, by simp, Lib.hid ⟨HA.out.2.2.2.2.2.1, E + 1, by have := HE.out.2; omega, HAT.out⟩⟩, by have := HA.out.2.2.2.2.2.1; simp [intOf]; omega⟩
          · have hq1 : ((q : Int) == 0) = false := by simp; omega
            have hq2 : ((q : Int) != 0) = true := by simp; omega
            have HAT := Lib.hid (show SafeAt wc w8 R (E + 1) bb g dg from ⟨Z, _, _, b, _, _, _, _, _, _, _, _, HR8.out, HZ8.out, hsf, HBK8.out⟩)
            have HBR := Lib.hid (run_broken HR8.out.run)
            unfold ptrV at HBR
            rw [← HBW.out] at HBR
            clear hsf hq HCS HBW q1
            cases bw
            · go_wp2_with (first | (go_at_call 41; refine HBR.out.mono ?_; rintro e w99 ⟨rfl, rfl⟩) | (go_at_call 15; refine (l6num_any _ _).mono ?_; rintro e w99 ⟨rfl, rfl⟩))
              refine ⟨⟨i + 1, g, dg, rfl, rfl, by simp, Lib.hid ⟨HA.out.2.2.2.2.2.1, E + 1, by have := HE.out.2; omega, HAT.out⟩⟩, by have := HA.out.2.2.2.2.2.1; simp [intOf]; omega⟩
            · go_wp2_with (first | (go_at_call 41; refine HBR.out.mono ?_; rintro e w99 ⟨rfl, rfl⟩) | (go_at_call 15; refine (l6num_any _ _).mono ?_; rintro e w99 ⟨rfl, rfl⟩))
              refine ⟨⟨i + 1, g, dg, rfl, rfl, by simp, Lib.hid ⟨HA.out.2.2.2.2.2.1, E + 1, by have := HE.out.2; omega, HAT.out⟩⟩, by have := HA.out.2.2.2.2.2.1; simp [intOf]; omega⟩
        -- ENDK3
        by_cases k6 : a.kind = 6
        · have q3 : w6.cell? ⟨qb, 3, none⟩ = some (.int .i64 a.cd) := cell_block HQ6.out rfl
          have q4 : w6.cell? ⟨qb, 4, none⟩ = some (.slice TA a.tails.length TC) := cell_block HQ6.out rfl
          by_cases hn : 0 < a.n
          · have hba : Calls Tryz.prog 43 #[.pointer (some ⟨dg, 0, none⟩), .agg #[.int .i64 a.cd, .slice TA a.tails.length TC], .int .i64 a.n, .int .i64 3, .int .i64 R] w6 (BackRet Z wc w6 R (E + 3 + 1) b) :=
              l6back_any (times := 3) (HT.out.low HL1.out) HR6.out.disk HZ6.out HSAFE.out.left HN.out.2.2.2.2 (by omega) (by have := HE.out; have := HN.out.1; omega) HA.out.2.2.2.2.1 HTW.out HA.out.2.2.2.1.2
            have HBA := Lib.hid hba
            rw [k6]
            clear hba k1 k2 k3 k4 k6
            go_wp2_with fail
            go_at_call 43
            refine HBA.out.mono ?_
            rintro e w8 ⟨dg8, g8, d8, L8, s8, rs8, rfl, hR8, hk8, hf8, hs8, hr8, hsf8⟩
            have hbk8 := HBK6.out.kept hk8 fun x hx hn => hn hx
            have b0 : w8.cell? ⟨bb, 0, none⟩ = some (.slice sA b.state.length sC) := cell_block hbk8.row rfl
            have b1 : w8.cell? ⟨bb, 1, none⟩ = some (.slice rA b.records.length rC) := cell_block hbk8.row rfl
            have b2 : w8.cell? ⟨bb, 2, none⟩ = some (.int .i64 b.safe) := cell_block hbk8.row rfl
            have b3 : w8.cell? ⟨bb, 3, none⟩ = some (.slice nA b.new.length nC) := cell_block hbk8.row rfl
            have b4 : w8.cell? ⟨bb, 4, none⟩ = some (.bool b.maybe) := cell_block hbk8.row rfl
            have hft := l6fits_any hR8.run hs8 hr8 hbk8.st hbk8.rows hbk8.nw hf8
            unfold ptrV bookV at hft
            have HFT := Lib.hid hft
            have HR8 := Lib.hid hR8
            have HBK8 := Lib.hid hbk8
            have HL8 := Lib.hid (show _ ∧ _ ∧ _ from ⟨hs8, hr8, hsf8⟩)
            have HZ8 := Lib.hid (show ∀ x, Z x → x < w8.heap.size from fun x hx => Nat.lt_of_lt_of_le (HZ6.out x hx) hk8.size)
            clear hft hR8 hk8 hf8 hs8 hr8 hsf8 hbk8 HBA
            unfold ptrV
            go_wp2_with fail
            go_at_call 44
            refine HFT.out.mono ?_
            rintro e w9 ⟨rfl, hb9⟩
            have HR9 := Lib.hid (HR8.out.below hb9)
            have HBK9 := Lib.hid (HBK8.out.below hb9)
            have HZ9 := Lib.hid (show ∀ x, Z x → x < w9.heap.size from fun x hx => Nat.lt_of_lt_of_le (HZ8.out x hx) hb9.size)
            have htl := l6told_any HR9.out.run HL8.out.1 HL8.out.2.1
            unfold ptrV at htl
            have HTL := Lib.hid htl
            clear hb9 HFT b0 b1 b2 b3 b4 htl
            go_wp2_with fail
            go_at_call 40
            refine HTL.out.mono ?_
            rintro e w10 ⟨k, sC', rA', rC', blk, qs, rfl, hown, hk, hkb, hS, hb10⟩
            have hbk10 := HBK9.out.below hb10
            have b0 : w10.cell? ⟨bb, 0, none⟩ = some (.slice sA b.state.length sC) := cell_block hbk10.row rfl
            have b1 : w10.cell? ⟨bb, 1, none⟩ = some (.slice rA b.records.length rC) := cell_block hbk10.row rfl
            have b2 : w10.cell? ⟨bb, 2, none⟩ = some (.int .i64 b.safe) := cell_block hbk10.row rfl
            have b3 : w10.cell? ⟨bb, 3, none⟩ = some (.slice nA b.new.length nC) := cell_block hbk10.row rfl
            have b4 : w10.cell? ⟨bb, 4, none⟩ = some (.bool b.maybe) := cell_block hbk10.row rfl
            have fz := frozen_row hbk10.row
            have hk11 := Kept.setCell (Kept.setCell (Kept.setCell (Kept.setCell (Kept.setCell (Kept.refl (fun b => b = bb) w10) ⟨bb, 0, none⟩ (.slice (some ⟨k, 0, none⟩) s8.length sC') (.inl rfl)) ⟨bb, 1, none⟩ (.slice rA' rs8.length rC') (.inl rfl)) ⟨bb, 2, none⟩ (.int .i64 rs8.length) (.inl rfl)) ⟨bb, 3, none⟩ (.slice none 0 0) (.inl rfl)) ⟨bb, 4, none⟩ (.bool false) (.inl rfl)
            have hrow11 := setCell_one (k := 4) (setCell_one (k := 3) (setCell_one (k := 2) (setCell_one (k := 1) (setCell_one (k := 0) hbk10.row (.slice (some ⟨k, 0, none⟩) s8.length sC')) (.slice rA' rs8.length rC')) (.int .i64 rs8.length)) (.slice none 0 0)) (.bool false)
            have hbb := HZ9.out bb hbk10.bz.1
            have hZZ : ∀ x, w9.heap.size ≤ x → x < w10.heap.size → Z x ∨ (w9.heap.size ≤ x ∧ x < w10.heap.size) := fun x h1 h2 => .inr ⟨h1, h2⟩
            have hbk11 := BookR.told (Z := fun x => Z x ∨ (w9.heap.size ≤ x ∧ x < w10.heap.size)) HR9.out.low.size hown hk hkb hS (.inl hbb) hbk10.bz.2 (.inl hbk10.bz.1) hZZ hk11 hrow11
            have hr11 := (HR9.out.add (Z' := fun x => Z x ∨ (w9.heap.size ≤ x ∧ x < w10.heap.size)) hb10 fun x h => h.imp id fun h => h.1).other hk11 (fun x e => ⟨.inl (e ▸ hbk10.bz.1), e ▸ hbk10.bz.2⟩)
            have hz11 : ∀ x, (Z x ∨ (w9.heap.size ≤ x ∧ x < w10.heap.size)) → x < w10.heap.size := fun x h => h.elim (fun h => Nat.lt_of_lt_of_le (HZ9.out x h) hb10.size) fun h => h.2
            have HAT : Hid (SafeAt wc _ R (E + 3 + 1) bb g8 dg8) := Lib.hid ⟨_, _, _, _, _, _, _, _, _, _, _, _, hr11, fun x h => Nat.lt_of_lt_of_le (hz11 x h) hk11.size, HL8.out.2.2, hbk11⟩
            clear hown hk hkb hS hb10 hbk10 hk11 hrow11 hbb hZZ hbk11 hr11 hz11 HTL
            unfold bookV
            go_wp2
            refine ⟨⟨i + 1, g8, dg8, rfl, rfl, by simp, Lib.hid ⟨HA.out.2.2.2.2.2.1, _, by have := HE.out.2; omega, HAT.out⟩⟩, by have := HA.out.2.2.2.2.2.1; simp [intOf]; omega⟩
          · have hba : Calls Tryz.prog 43 #[.pointer (some ⟨dg, 0, none⟩), .agg #[.int .i64 a.cd, .slice TA a.tails.length TC], .int .i64 a.n, .int .i64 0, .int .i64 R] w6 (BackRet Z wc w6 R (E + 0 + 1) b) :=
              l6back_any (times := 0) (HT.out.low HL1.out) HR6.out.disk HZ6.out HSAFE.out.left HN.out.2.2.2.2 (by omega) (by have := HE.out; have := HN.out.1; omega) HA.out.2.2.2.2.1 HTW.out HA.out.2.2.2.1.2
            have HBA := Lib.hid hba
            rw [k6]
            clear hba k1 k2 k3 k4 k6
            go_wp2_with fail
            go_at_call 43
            refine HBA.out.mono ?_
            rintro e w8 ⟨dg8, g8, d8, L8, s8, rs8, rfl, hR8, hk8, hf8, hs8, hr8, hsf8⟩
            have hbk8 := HBK6.out.kept hk8 fun x hx hn => hn hx
            have b0 : w8.cell? ⟨bb, 0, none⟩ = some (.slice sA b.state.length sC) := cell_block hbk8.row rfl
            have b1 : w8.cell? ⟨bb, 1, none⟩ = some (.slice rA b.records.length rC) := cell_block hbk8.row rfl
            have b2 : w8.cell? ⟨bb, 2, none⟩ = some (.int .i64 b.safe) := cell_block hbk8.row rfl
            have b3 : w8.cell? ⟨bb, 3, none⟩ = some (.slice nA b.new.length nC) := cell_block hbk8.row rfl
            have b4 : w8.cell? ⟨bb, 4, none⟩ = some (.bool b.maybe) := cell_block hbk8.row rfl
            have hft := l6fits_any hR8.run hs8 hr8 hbk8.st hbk8.rows hbk8.nw hf8
            unfold ptrV bookV at hft
            have HFT := Lib.hid hft
            have HR8 := Lib.hid hR8
            have HBK8 := Lib.hid hbk8
            have HL8 := Lib.hid (show _ ∧ _ ∧ _ from ⟨hs8, hr8, hsf8⟩)
            have HZ8 := Lib.hid (show ∀ x, Z x → x < w8.heap.size from fun x hx => Nat.lt_of_lt_of_le (HZ6.out x hx) hk8.size)
            clear hft hR8 hk8 hf8 hs8 hr8 hsf8 hbk8 HBA
            unfold ptrV
            go_wp2_with fail
            go_at_call 44
            refine HFT.out.mono ?_
            rintro e w9 ⟨rfl, hb9⟩
            have HR9 := Lib.hid (HR8.out.below hb9)
            have HBK9 := Lib.hid (HBK8.out.below hb9)
            have HZ9 := Lib.hid (show ∀ x, Z x → x < w9.heap.size from fun x hx => Nat.lt_of_lt_of_le (HZ8.out x hx) hb9.size)
            have htl := l6told_any HR9.out.run HL8.out.1 HL8.out.2.1
            unfold ptrV at htl
            have HTL := Lib.hid htl
            clear hb9 HFT b0 b1 b2 b3 b4 htl
            go_wp2_with fail
            go_at_call 40
            refine HTL.out.mono ?_
            rintro e w10 ⟨k, sC', rA', rC', blk, qs, rfl, hown, hk, hkb, hS, hb10⟩
            have hbk10 := HBK9.out.below hb10
            have b0 : w10.cell? ⟨bb, 0, none⟩ = some (.slice sA b.state.length sC) := cell_block hbk10.row rfl
            have b1 : w10.cell? ⟨bb, 1, none⟩ = some (.slice rA b.records.length rC) := cell_block hbk10.row rfl
            have b2 : w10.cell? ⟨bb, 2, none⟩ = some (.int .i64 b.safe) := cell_block hbk10.row rfl
            have b3 : w10.cell? ⟨bb, 3, none⟩ = some (.slice nA b.new.length nC) := cell_block hbk10.row rfl
            have b4 : w10.cell? ⟨bb, 4, none⟩ = some (.bool b.maybe) := cell_block hbk10.row rfl
            have fz := frozen_row hbk10.row
            have hk11 := Kept.setCell (Kept.setCell (Kept.setCell (Kept.setCell (Kept.setCell (Kept.refl (fun b => b = bb) w10) ⟨bb, 0, none⟩ (.slice (some ⟨k, 0, none⟩) s8.length sC') (.inl rfl)) ⟨bb, 1, none⟩ (.slice rA' rs8.length rC') (.inl rfl)) ⟨bb, 2, none⟩ (.int .i64 rs8.length) (.inl rfl)) ⟨bb, 3, none⟩ (.slice none 0 0) (.inl rfl)) ⟨bb, 4, none⟩ (.bool false) (.inl rfl)
            have hrow11 := setCell_one (k := 4) (setCell_one (k := 3) (setCell_one (k := 2) (setCell_one (k := 1) (setCell_one (k := 0) hbk10.row (.slice (some ⟨k, 0, none⟩) s8.length sC')) (.slice rA' rs8.length rC')) (.int .i64 rs8.length)) (.slice none 0 0)) (.bool false)
            have hbb := HZ9.out bb hbk10.bz.1
            have hZZ : ∀ x, w9.heap.size ≤ x → x < w10.heap.size → Z x ∨ (w9.heap.size ≤ x ∧ x < w10.heap.size) := fun x h1 h2 => .inr ⟨h1, h2⟩
            have hbk11 := BookR.told (Z := fun x => Z x ∨ (w9.heap.size ≤ x ∧ x < w10.heap.size)) HR9.out.low.size hown hk hkb hS (.inl hbb) hbk10.bz.2 (.inl hbk10.bz.1) hZZ hk11 hrow11
            have hr11 := (HR9.out.add (Z' := fun x => Z x ∨ (w9.heap.size ≤ x ∧ x < w10.heap.size)) hb10 fun x h => h.imp id fun h => h.1).other hk11 (fun x e => ⟨.inl (e ▸ hbk10.bz.1), e ▸ hbk10.bz.2⟩)
            have hz11 : ∀ x, (Z x ∨ (w9.heap.size ≤ x ∧ x < w10.heap.size)) → x < w10.heap.size := fun x h => h.elim (fun h => Nat.lt_of_lt_of_le (HZ9.out x h) hb10.size) fun h => h.2
            have HAT : Hid (SafeAt wc _ R (E + 0 + 1) bb g8 dg8) := Lib.hid ⟨_, _, _, _, _, _, _, _, _, _, _, _, hr11, fun x h => Nat.lt_of_lt_of_le (hz11 x h) hk11.size, HL8.out.2.2, hbk11⟩
            clear hown hk hkb hS hb10 hbk10 hk11 hrow11 hbb hZZ hbk11 hr11 hz11 HTL
            unfold bookV
            go_wp2
            refine ⟨⟨i + 1, g8, dg8, rfl, rfl, by simp, Lib.hid ⟨HA.out.2.2.2.2.2.1, _, by have := HE.out.2; omega, HAT.out⟩⟩, by have := HA.out.2.2.2.2.2.1; simp [intOf]; omega⟩
        have t1 : (a.kind == 1) = false := by simpa using k1
        have t2 : (a.kind == 2) = false := by simpa using k2
        have t3 : (a.kind == 3) = false := by simpa using k3
        have t4 : (a.kind == 4) = false := by simpa using k4
        have t6 : (a.kind == 6) = false := by simpa using k6
        have HAT6 : Hid (SafeAt wc w6 R E bb g dg) := Lib.hid ⟨Z, d, L, b, _, _, _, _, _, _, _, _, HR6.out, HZ6.out, HSAFE.out, HBK6.out⟩
        clear k1 k2 k3 k4 k6
        go_wp2
        refine ⟨⟨i + 1, g, dg, rfl, rfl, by simp, Lib.hid ⟨HA.out.2.2.2.2.2.1, E, by have := HE.out.2; omega, HAT6.out⟩⟩, by have := HA.out.2.2.2.2.2.1; simp [intOf]; omega⟩
      · obtain rfl : i = acts.length := by have := HE.out.1; omega
        have l1 : ¬ (acts.length : Int) < (acts.length : Int) := by omega
        have hba : Calls Tryz.prog 43 #[.pointer (some ⟨dg, 0, none⟩), .agg #[.int .i64 0, .slice none 0 0], .int .i64 0, .int .i64 0, .int .i64 R] wr (BackRet Z wc wr R (E + 0 + 1) b) :=
          l6back_any (times := 0) (n := 0) (cd := 0) (TA := none) (TC := 0) (tails := []) (HT.out.low HL1.out) HRUN.out.disk HZ.out HSAFE.out.left HN.out.2.2.2.2 (by omega) (by have := HE.out; have := HN.out.1; omega) ⟨by omega, by omega⟩ ⟨rfl, fun i x h => by simp at h⟩ (by omega)
        have HBA := Lib.hid hba
        clear hba hlt
        go_wp2_with fail
        go_at_call 43
        refine HBA.out.mono ?_
        rintro e w8 ⟨dg8, g8, d8, L8, s8, rs8, rfl, hR8, hk8, hf8, hs8, hr8, _⟩
        have hbk8 := HBK.out.kept hk8 fun x hx hn => hn hx
        have b0 : w8.cell? ⟨bb, 0, none⟩ = some (.slice sA b.state.length sC) := cell_block hbk8.row rfl
        have b1 : w8.cell? ⟨bb, 1, none⟩ = some (.slice rA b.records.length rC) := cell_block hbk8.row rfl
        have b2 : w8.cell? ⟨bb, 2, none⟩ = some (.int .i64 b.safe) := cell_block hbk8.row rfl
        have b3 : w8.cell? ⟨bb, 3, none⟩ = some (.slice nA b.new.length nC) := cell_block hbk8.row rfl
        have b4 : w8.cell? ⟨bb, 4, none⟩ = some (.bool b.maybe) := cell_block hbk8.row rfl
        have hft := l6fits_any hR8.run hs8 hr8 hbk8.st hbk8.rows hbk8.nw hf8
        unfold ptrV bookV at hft
        have HFT := Lib.hid hft
        have HLW := Lib.hid hR8.low
        clear hft hR8 hk8 hf8 hs8 hr8 hbk8 HBA
        unfold ptrV
        go_wp2_with fail
        go_at_call 44
        refine HFT.out.mono ?_
        rintro e w9 ⟨rfl, hb9⟩
        have HEND := Lib.hid (bthen HL1.out (bthen HLW.out hb9))
        clear hb9 HFT b0 b1 b2 b3 b4
        go_wp2
        go_ret
        exact ⟨rfl, HEND.out⟩
end Go.Proofs.YtgpenpnobjecgaaGreatDoor
