/- (*wal.Log).Append. -/
import Derived.Test.YtgpenpnobjecgaaGreatDoorJWalSafeCard24
/- WApp -/
namespace Go.Proofs.YtgpenpnobjecgaaGreatDoor
set_option maxRecDepth 100000
open Go.RowKit Dk

section
variable {w0 w : World} {g dg : Nat} {d : DiskS} {L : LogS} {own : Nat → Option DTag} {lf : Nat → Prop}
set_option maxRecDepth 100000 in
set_option maxHeartbeats 1000000 in
theorem wappend_any (hP : PairAt w g dg d L own lf) (hH : Home w0 w (both own lf)) (p : Bs) (A : Option Addr) (C : Nat) (X : Txt w A p.length C p) (hp : p.length ≤ 4611686018427387904) (hpf : ∀ ad, A = some ad → ¬ both own lf ad.block) :
    Calls Tryz.prog 27 #[ptrV g, .slice A p.length C] w (PPost w g dg own lf (appendW d L p)) := by
  have HP := Lib.hid hP
  have HH := Lib.hid hH
  have HX := Lib.hid X
  obtain ⟨recs, hd⟩ := hP.dat
  have HD := Lib.hid hd
  obtain ⟨sA, sC, rA, rC, rblk, qs, M⟩ := hP.log
  have HM := Lib.hid M
  have hgl := in_heap M.row
  have q6 : w.cell? ⟨g, 6, none⟩ = some (.bool L.broken) := cell_block M.row rfl
  have q3 : w.cell? ⟨g, 3, none⟩ = some (.slice rA L.records.length rC) := cell_block M.row rfl
  have HL := Lib.hid hP.lok
  have HPF := Lib.hid hpf
  clear hpf
  clear hP hH X hd M
  by_cases h1 : 65536 < p.length
  · have hr := Lib.hid (show appendW d L p = ((d, L), 1) by unfold appendW; rw [if_pos h1])
    have h1' : (65536 : Int) < p.length := by omega
    clear h1
    unfold ptrV at *
    go_enter Tryz.func27, Tryz.ntmps27
    go_wp2
    go_ret
    rw [hr.out]
    exact ⟨rfl, own, lf, HP.out.below (low1 _ _), .below (low1 _ _)⟩
  · have h1' : ¬ (65536 : Int) < p.length := by omega
    by_cases h2 : L.broken = true
    · have hr := Lib.hid (show appendW d L p = ((d, L), 60) by unfold appendW; rw [if_neg h1, if_pos h2])
      rw [h2] at q6
      clear h1 h2
      unfold ptrV at *
      go_enter Tryz.func27, Tryz.ntmps27
      go_wp2
      go_ret
      rw [hr.out]
      exact ⟨rfl, own, lf, HP.out.below (low1 _ _), .below (low1 _ _)⟩
    · have h2f : L.broken = false := by simpa using h2
      rw [h2f] at q6
      have Hr := Lib.hid (show appendW d L p = if 4194304 < L.size + (sealW 2 (L.records.length + 1) p).length ∨ free d < L.size + (sealW 2 (L.records.length + 1) p).length + (sealW 2 (L.records.length + 1) p).length then ((d, L), 5) else
          if (Dk.append d (nameW L.epoch) (sealW 2 (L.records.length + 1) p)).2 = 0 then (((Dk.append d (nameW L.epoch) (sealW 2 (L.records.length + 1) p)).1, { L with records := L.records ++ [p], size := L.size + (sealW 2 (L.records.length + 1) p).length }), 0) else (((Dk.append d (nameW L.epoch) (sealW 2 (L.records.length + 1) p)).1, L.broke), (Dk.append d (nameW L.epoch) (sealW 2 (L.records.length + 1) p)).2) by unfold appendW; rw [if_neg h1, if_neg h2])
      have hmany : L.records.length ≤ 4194304 := Nat.le_trans HL.out.many HL.out.size
      have hs := Lib.hid (fun (W : World) (hW : RowKit.Below w.heap.size w W) => wsealed_any 2 (L.records.length + 1) p A C W (HX.out.below hW) (by decide) (by omega) (by omega) ((HH.out.tab.sums).low hW))
      rw [show (V8 2) = .int .u8 2 from rfl] at hs
      have hcv := conv_u64 (L.records.length + 1) (by omega)
      rw [Int.natCast_add, Int.natCast_one] at hcv
      have hsl : (sealW 2 (L.records.length + 1) p).length ≤ 65555 := by
        rw [sealW_len]
        have := groups_len (L.records.length + 1) (by omega)
        omega
      have hs0 : (sealW 2 (L.records.length + 1) p).length ≠ 0 := by rw [sealW_len]; omega
      obtain ⟨b, hb⟩ : ∃ b, sealW 2 (L.records.length + 1) p = b := ⟨_, rfl⟩
      rw [hb] at hs Hr hsl hs0
      have Hb := Lib.hid hb
      clear h1 h2 h2f hb
      unfold ptrV
      go_enter Tryz.func27, Tryz.ntmps27
      go_wp2_with fail
      go_at_call 69
      have hs3 := hs.out _ (low1 w (.cells #[.pointer (some ⟨g, 0, none⟩)] 38))
      rw [Int.natCast_add, Int.natCast_one] at hs3
      refine hs3.mono ?_
      rintro e w2 ⟨B2, C2, b2, rfl, F2⟩
      have hlb : w2.heap[w.heap.size]? = some (.cells #[ptrV g] 38 (0, 0)) := bblk F2.low (blk1 w _)
      have hb2 : ∀ ad, B2 = some ad → w.heap.size < ad.block := fun ad had => by
        rcases F2.own.form with ⟨_, h0, _⟩ | ⟨k, _, h1, h2, _⟩
        · exact absurd h0 hs0
        · rw [h1] at had
          have := F2.fresh k h2
          simp at this
          rw [← Option.some.inj had]
          show _ < k
          omega
      have HB2 := Lib.hid hb2
      have HLB := Lib.hid hlb
      have HF2 := Lib.hid F2
      clear hs hs3 hcv F2 hlb hb2 q6 q3
      go_upto_region 8 with (fail)
      obtain ⟨bb, hbb⟩ : ∃ bb, bb = w2.heap.size := ⟨_, rfl⟩
      obtain ⟨w3, hw3⟩ : ∃ w3, w3 = w2.alloc (.cells #[.slice B2 b.length C2] 22) := ⟨_, rfl⟩
      have hlow : RowKit.Below w.heap.size w w3 := by rw [hw3]; exact bthen (bthen (low1 w (.cells #[.pointer (some ⟨g, 0, none⟩)] 38)) HF2.out.low) (low1 _ _)
      have hbk : w3.heap[bb]? = some (.cells #[.slice B2 b.length C2] 22 (0, 0)) := by rw [hw3, hbb]; exact blk1 _ _
      have hlk : w3.heap[w.heap.size]? = some (.cells #[ptrV g] 38 (0, 0)) := by rw [hw3]; exact bblk (low1 _ _) HLB.out
      have hX3 : Txt w3 B2 b.length C2 b := by rw [hw3]; exact HF2.out.txt.below (low1 _ _)
      have hne : bb ≠ w.heap.size := fun e => by have := in_heap HLB.out; omega
      have hbb2 : w.heap.size ≤ bb := by have := in_heap HLB.out; omega
      rw [← hbb, ← hw3]
      obtain ⟨lb, hlb⟩ : ∃ lb, lb = w.heap.size := ⟨_, rfl⟩
      rw [← hlb] at hlk hne ⊢
      have HLow := Lib.hid hlow
      have HBK := Lib.hid hbk
      have HLK := Lib.hid hlk
      have HX3 := Lib.hid hX3
      have HP3 := Lib.hid (HP.out.below hlow)
      have HLB2 := Lib.hid (show w.heap.size ≤ lb ∧ w.heap.size ≤ bb ∧ bb ≠ lb from ⟨by omega, hbb2, hne⟩)
      obtain ⟨sA, sC, rA, rC, rblk, qs, M3⟩ := HP3.out.log
      have c0 : w3.cell? ⟨g, 0, none⟩ = some (ptrV dg) := cell_block M3.row rfl
      have c1 : w3.cell? ⟨g, 1, none⟩ = some (.int .i64 L.epoch) := cell_block M3.row rfl
      have c4 : w3.cell? ⟨g, 4, none⟩ = some (.int .i64 L.size) := cell_block M3.row rfl
      have cb : w3.cell? ⟨bb, 0, none⟩ = some (.slice B2 b.length C2) := cell_block hbk rfl
      have cl : w3.cell? ⟨lb, 0, none⟩ = some (.pointer (some ⟨g, 0, none⟩)) := cell_block hlk rfl
      have hz := HL.out.size
      have hfl : free d ≤ 9223372036854775807 := by unfold free; split <;> (have := HP.out.ok.room; omega)
      have j1 : (L.size : Int) + b.length ≤ 9223372036854775807 := by omega
      have j2 : (0 : Int) ≤ (L.size : Int) + b.length := by omega
      have j3 : (free d : Int) - b.length ≤ 9223372036854775807 := by omega
      have j4 : (-9223372036854775808 : Int) ≤ (free d : Int) - b.length := by omega
      have HBB : Hid (∀ ad, B2 = some ad → w.heap.size ≤ ad.block) := Lib.hid fun ad had => Nat.le_of_lt (HB2.out ad had)
      clear HF2 HLB HB2 hw3 hbb hlb hlow hbk hlk hX3 hne hbb2 M3 HM HD
      unfold ptrV at c0
      go_quiet (fail)
      obtain ⟨w4, hw4⟩ : ∃ w4, w4 = w3.drewN nq := ⟨_, rfl⟩
      have h34 : RowKit.Below w3.heap.size w3 w4 := by rw [hw4]; exact below_drewN _ _
      have mv : ∀ {a v}, w3.cell? a = some v → w4.cell? a = some v := fun h => by rw [hw4]; simpa using h
      have c0' := mv c0
      have c1' := mv c1
      have cb' := mv cb
      have cl' := mv cl
      have HLow4 := Lib.hid (bthen HLow.out h34)
      have HBK4 : Hid (w4.heap[bb]? = some (.cells #[.slice B2 b.length C2] 22 (0, 0))) := Lib.hid (bblk h34 HBK.out)
      have HLK4 : Hid (w4.heap[lb]? = some (.cells #[ptrV g] 38 (0, 0))) := Lib.hid (bblk h34 HLK.out)
      have HX4 := Lib.hid (HX3.out.below h34)
      have HP4 := Lib.hid (HP3.out.below h34)
      obtain ⟨recs4, hd4⟩ := HP4.out.dat
      have hfr := Lib.hid (fun k => free_quiet (hd4.below (below_drewN w4 k)) HP4.out.ok)
      rw [← hw4]
      clear c0 c1 c4 cb cl hw4 mv h34 hd4 HLow HBK HLK HX3 HP3
      by_cases hfull : 4194304 < L.size + b.length ∨ free d < L.size + b.length + b.length
      · have hr := Hr.out
        rw [if_pos hfull] at hr
        have HRR := Lib.hid hr
        have key : (decide ((4194304 : Int) < (L.size : Int) + b.length) = true) ∨ (decide ((4194304 : Int) < (L.size : Int) + b.length) = false ∧ decide ((free d : Int) - b.length < (L.size : Int) + b.length) = true) := by
          simp only [decide_eq_true_eq, decide_eq_false_iff_not]
          omega
        clear hr hfull Hr
        unfold ptrV at hfr
        rcases key with k1 | ⟨k1, k2⟩
        all_goals
          go_wp2
          go_quiet ((go_at_call 65; exact Calls.quiet_of (hfr.out _)))
          go_wp2
          go_ret
          rw [HRR.out]
          exact ⟨rfl, own, lf, HP4.out.below (below_drewN _ _), .below (bthen HLow4.out (below_drewN _ _))⟩
      · have hr := Hr.out
        rw [if_neg hfull] at hr
        have k1 : decide ((4194304 : Int) < (L.size : Int) + b.length) = false := by simp; omega
        have k2 : decide ((free d : Int) - b.length < (L.size : Int) + b.length) = false := by simp; omega
        have Hr := Lib.hid hr
        have HSZ := Lib.hid hfull
        clear hr hfull
        unfold ptrV at hfr
        go_wp2
        go_quiet ((go_at_call 65; exact Calls.quiet_of (hfr.out _)))
        obtain ⟨w5, hw5⟩ : ∃ w5, w5 = w4.drewN nq := ⟨_, rfl⟩
        have h45 : RowKit.Below w4.heap.size w4 w5 := by rw [hw5]; exact below_drewN _ _
        have mv : ∀ {a v}, w4.cell? a = some v → w5.cell? a = some v := fun h => by rw [hw5]; simpa using h
        have cb := mv cb'
        have cl := mv cl'
        have HLow5 := Lib.hid (bthen HLow4.out h45)
        have HBK5 : Hid (w5.heap[bb]? = some (.cells #[.slice B2 b.length C2] 22 (0, 0))) := Lib.hid (bblk h45 HBK4.out)
        have HLK5 : Hid (w5.heap[lb]? = some (.cells #[ptrV g] 38 (0, 0))) := Lib.hid (bblk h45 HLK4.out)
        have HX5 := Lib.hid (HX4.out.below h45)
        have HP5 := Lib.hid (HP4.out.below h45)
        have hmf : ∀ (fn : Fn) (first cap : Array Value) (w : World), (Instr.makeFunc fn first cap).run Tryz.prog w = .ok (.func fn first cap) w := fun _ _ _ _ => rfl
        rw [← hw5]
        clear c0' c1' cb' cl' hw5 mv h45 HLow4 HBK4 HLK4 HX4 HP4 hfr k1 k2
        go_wp2_with fail
        go_at_call 66
        have hlow6 := low1 w5 (.cells #[.func (.func 70) #[] #[.pointer (some ⟨lb, 0, none⟩), .pointer (some ⟨bb, 0, none⟩)]] 91)
        have hc6 := blk1 w5 (.cells #[.func (.func 70) #[] #[.pointer (some ⟨lb, 0, none⟩), .pointer (some ⟨bb, 0, none⟩)]] 91)
        have hfoot : ∀ b, foot own b → b < w.heap.size := by
          obtain ⟨recs, fA, fC, fb, mb, sb, cA, cC, cb, M⟩ := HP.out.dat
          exact M.lt
        have hlf := HP.out.log.lt
        have HFT := Lib.hid hfoot
        have HLF := Lib.hid hlf
        have hdo := does_disk (HP5.out.below hlow6) [(70, #[], #[ptrV lb, ptrV bb])] (some ⟨w5.heap.size, 0, none⟩) 1 (CellsAt.of_block hc6) (fun ad had hf => by
            have h1 := hfoot _ hf
            rw [← Option.some.inj had] at h1
            have := HLow5.out.size
            simp at h1
            omega) (fun i => if i = 0 then (d, 0) else Dk.append d (nameW L.epoch) b) rfl (fun i hi => by
            by_cases h0 : i = 0
            · subst h0; exact absurd rfl hi
            · simp [h0]) (fun i f wx hf hq hst => by
            have hi0 : i = 0 := by have := (List.getElem?_eq_some_iff.1 hf).1; simp at this; exact this
            subst hi0
            obtain rfl := Option.some.inj hf
            obtain ⟨hO, recs', own', hdx, htx⟩ := hst
            have hpx := (HP5.out.below hlow6).disk hdx hO htx
            obtain ⟨sA', sC', rA', rC', rblk', qs', Mx⟩ := hpx.log
            have hnf : ∀ b, w.heap.size ≤ b → ¬ foot own b := fun b hb hf => by have := hfoot b hf; omega
            have hhx : Home w0 wx (foot own') := by
              have h1 : Home w0 w (foot own) := ⟨HH.out.tabs, HH.out.low, fun b hb => HH.out.foot b (.inl hb)⟩
              have h2 : RowKit.Below w.heap.size w _ := bthen HLow5.out hlow6
              exact (h1.next h2).turned htx
            have hb4 : ∀ ad, B2 = some ad → w.heap.size ≤ ad.block := HBB.out
            have hX6 := HX5.out.below hlow6
            refine (append1_any hdx hO hhx Mx (htx.kept.blk (bblk hlow6 HLK5.out) (hnf lb HLB2.out.1)) b B2 C2 (htx.kept.blk (bblk hlow6 HBK5.out) (hnf bb HLB2.out.2.1)) (hX6.kept htx.kept fun ad had _ => hnf _ (hb4 ad had)) (by omega) (fun ad had hf => by
              obtain ⟨b', o', rfl, hlt⟩ := hX6.src.plain ad had
              exact hnf _ (hb4 _ had) (htx.foot _ hlt hf)) (by have := HL.out.epoch; omega)).mono ?_
            rintro e w' ⟨rfl, h1, recs2, own2, h2, h3⟩
            exact ⟨rfl, h1, recs2, own2, h2, htx.trans h3⟩) (fun f hf args w => by
            obtain rfl := List.mem_singleton.1 hf
            kernel_rfl) (by simp)
        refine hdo.mono ?_
        clear hdo
        rintro e w7 ⟨rfl, own7, hp7, ht7⟩
        simp only [List.length_singleton, Nat.one_ne_zero, if_false] at hp7 ⊢
        generalize hra : Dk.append d (nameW L.epoch) b = r at hp7 Hr ⊢
        obtain ⟨d7, q⟩ := r
        simp only [] at hp7 Hr ⊢
        have HT7 := Lib.hid ((Turned.below (bthen HLow5.out hlow6)).trans ht7)
        have hl7 := HT7.out.kept.size
        have HP7 := Lib.hid hp7
        have hlk7 : w7.heap[lb]? = some (.cells #[ptrV g] 38 (0, 0)) := ht7.kept.blk (bblk hlow6 HLK5.out) (fun h => by
          have := HLB2.out.1
          rcases h with h | h
          · have := hfoot _ h; omega
          · have := hlf _ h; omega)
        have cl7 : w7.cell? ⟨lb, 0, none⟩ = some (.pointer (some ⟨g, 0, none⟩)) := cell_block hlk7 rfl
        have hlb7 := in_heap hlk7
        have HLN := Lib.hid (show ¬ lf lb from fun h => by have := hlf _ h; have := HLB2.out.1; omega)
        clear hp7 hlow6 hc6 ht7 HP5 HX5 HBK5 HLK5 HLow5 cb cl hlk7
        by_cases hq : q = 0
        · subst hq
          rw [if_pos rfl] at HP7
          have hr := Hr.out
          rw [if_pos rfl] at hr
          have HRR := Lib.hid hr
          clear hr Hr
          obtain ⟨sA, sC, rA, rC, rblk, qs, M7⟩ := HP7.out.log
          have HM7 := Lib.hid M7
          have c3 : w7.cell? ⟨g, 3, none⟩ = some (.slice rA L.records.length rC) := cell_block M7.row rfl
          have hg7 := in_heap M7.row
          have HX7 : Hid (Txt w7 A p.length C p) := Lib.hid (HX.out.kept HT7.out.kept fun ad had _ => HPF.out ad had)
          have z1 : 0 + p.length ≤ maxLen := by unfold maxLen; omega
          have z2 : (0 + p.length) * 1 ≤ 140737488355328 := by omega
          have z3 : L.records.length + 1 ≤ maxLen := by unfold maxLen; omega
          have z4 : (L.records.length + 1) * 24 ≤ 140737488355328 := by omega
          have HG7 := Lib.hid hgl
          simp only [Int.natCast_zero] at *
          clear M7 hfoot hlf
          go_upto_region 14 with (fail)
          have h7d : RowKit.Below w7.heap.size w7 w7.drew := (Below.refl _ _).drew
          obtain ⟨w71, hw71⟩ : ∃ W, W = w7.drew.alloc (.cells #[] 5) := ⟨_, rfl⟩
          have h71 : RowKit.Below w7.heap.size w7 w71 := by rw [hw71]; exact bthen h7d (low1 _ _)
          have hb71 : w71.heap[w7.drew.heap.size]? = some (.cells #[] 5 (0, 0)) := by rw [hw71]; exact blk1 _ _
          obtain ⟨B9, D9, w9, b9, hrun9, ho9, hg9, hb9⟩ := run_app (P := Tryz.prog) 22 22 _ Tryz.underlying22 info_u8r rfl (by decide) (OwnR.of_row hb71 (Nat.le_refl _) (Nat.zero_le _) rfl rfl) A p.length C (p.map V8) (by simp) (HX7.out.below h71).src.at_.cells HX7.out.src.nil HX7.out.src.od (bone p) z1 z2
          simp only [Nat.zero_add] at hrun9 ho9
          have h79 : RowKit.Below w7.heap.size w7 w9 := ((Kept.of_below (F := fun b => b = w7.drew.heap.size) h71).grown hg9 fun b hb => .inl (Option.some.inj hb).symm).below fun b hlt e => by have := h7d.size; omega
          obtain ⟨w73, hw73⟩ : ∃ W, W = w9.alloc (.cells #[.slice B9 p.length D9] 22) := ⟨_, rfl⟩
          have h73 : RowKit.Below w7.heap.size w7 w73 := by rw [hw73]; exact bthen h79 (low1 _ _)
          have hb73 : w73.heap[w9.heap.size]? = some (.cells #[.slice B9 p.length D9] 22 (0, 0)) := by rw [hw73]; exact blk1 _ _
          obtain ⟨B8, D8, w8, b8, hrun8, ho8, hg8, hb8⟩ := run_app (P := Tryz.prog) 23 23 (.slice none 0 0) Tryz.underlying23 (by kernel_rfl) rfl (by decide) (HM7.out.recs.row.below h73) (some ⟨w9.heap.size, 0, none⟩) 1 1 [.slice B9 p.length D9] rfl (CellsAt.of_block hb73) (fun h => by cases h) (fun ad h => ⟨_, _, (Option.some.inj h).symm⟩) (by simp; rfl) z3 z4
          have hk8 : Kept (fun b => rblk = some b) w7 w8 := (Kept.of_below h73).grown hg8 (fun k e => .inl e)
          have hr8 := hk8.blk HM7.out.row (fun e => (HM7.out.rf _ e).2 rfl)
          have hall : ∀ l W, seqW w7.drew w71 w9 w73 w8 l W → W.cell? ⟨lb, 0, none⟩ = some (.pointer (some ⟨g, 0, none⟩)) ∧ W.cell? ⟨g, 3, none⟩ = some (.slice rA L.records.length rC) := fun l W h => by
            have key : ∀ {W}, RowKit.Below w7.heap.size w7 W → W.cell? ⟨lb, 0, none⟩ = some (.pointer (some ⟨g, 0, none⟩)) ∧ W.cell? ⟨g, 3, none⟩ = some (.slice rA L.records.length rC) := fun hb => ⟨(hb.cell (p := ⟨lb, 0, none⟩) hlb7).trans cl7, (hb.cell (p := ⟨g, 3, none⟩) hg7).trans c3⟩
            rcases seqW_one h with rfl | rfl | rfl | rfl | rfl
            · exact key h7d
            · exact key h71
            · exact key h79
            · exact key h73
            · exact ⟨hk8.cell cl7 (fun e => HLN.out (HM7.out.rf _ e).1), cell_block hr8 rfl⟩
          have cl8 : w8.cell? ⟨lb, 0, none⟩ = some (.pointer (some ⟨g, 0, none⟩)) := hk8.cell cl7 (fun e => HLN.out (HM7.out.rf _ e).1)
          have fz8 := frozen_row hr8
          have hg8l := in_heap hr8
          have c48 : w8.cell? ⟨g, 4, none⟩ = some (.int .i64 L.size) := cell_block hr8 rfl
          have c38 : w8.cell? ⟨g, 3, none⟩ = some (.slice rA L.records.length rC) := cell_block hr8 rfl
          have HALL := Lib.hid hall
          have HW71 := Lib.hid hw71
          have HW73 := Lib.hid hw73
          have HRUN9 := Lib.hid hrun9
          have HRUN8 := Lib.hid hrun8
          have HO9 := Lib.hid ho9
          have HO8 := Lib.hid ho8
          have HG8 := Lib.hid hg8
          have HB9 := Lib.hid hb9
          have HB8 := Lib.hid hb8
          have HK8 := Lib.hid hk8
          have HR8 := Lib.hid hr8
          have H73 := Lib.hid h73
          have H7D := Lib.hid h7d
          clear h7d hw71 h71 hb71 hrun9 ho9 hg9 hb9 h79 hw73 h73 hb73 hrun8 ho8 hg8 hb8 hk8 hr8 hall c3
          -- REGION14
          refine wp_region_inv 12 70 (fun _ _ => True) [5, 7, 8, 9] (seqW w7.drew w71 w9 w73 w8) (by kernel_rfl) (by kernel_rfl) (by kernel_rfl) (by kernel_rfl) (by kernel_rfl) [.is (.pointer (some ⟨g, 0, none⟩) : Value), .is (.pointer (some ⟨g, 0, none⟩) : Value), .is (.pointer (some ⟨g, 0, none⟩) : Value), .is (.pointer (some ⟨g, 3, none⟩) : Value), .is (.slice rA L.records.length rC : Value), .is (.slice (some ⟨w7.drew.heap.size, 0, none⟩) 0 0 : Value), .is (.slice A p.length C : Value), .is (.slice B9 p.length D9 : Value), .is (.slice (some ⟨w9.heap.size, 0, none⟩) 1 1 : Value), .is (.slice B8 (L.records.length + 1) D8 : Value), .is (.pointer (some ⟨g, 0, none⟩) : Value), .is (.pointer (some ⟨g, 3, none⟩) : Value)] rfl (rfl) (fun vs => ?_) (fun vs wr hI h => ?_)
          · refine RegHeadI.cons (fun S wr hd hSk hSd hI h => ?_) ?_
            · exact relAtI.pureS ⟨trivial, keepI (by decide) hI⟩ (by kernel_rfl) (by kernel_rfl) (run_load_plog (HALL.out _ _ hI).1)
            refine RegHeadI.cons (fun S wr hd hSk hSd hI h => ?_) ?_
            · exact relAtI.pureS ⟨trivial, keepI (by decide) hI⟩ (by kernel_rfl) (by kernel_rfl) (run_load_plog (HALL.out _ _ hI).1)
            refine RegHeadI.cons (fun S wr hd hSk hSd hI h => ?_) ?_
            · exact relAtI.pure ⟨trivial, keepI (by decide) hI⟩ (by kernel_rfl) (by kernel_rfl)
            refine RegHeadI.cons (fun S wr hd hSk hSd hI h => ?_) ?_
            · exact relAtI.pure ⟨trivial, keepI (by decide) hI⟩ (by kernel_rfl) (by kernel_rfl)
            refine RegHeadI.cons (fun S wr hd hSk hSd hI h => ?_) ?_
            · exact relAtI.pureS ⟨trivial, keepI (by decide) hI⟩ (by kernel_rfl) (by kernel_rfl) (run_load_byteses (HALL.out _ _ hI).2)
            refine RegHeadI.cons (fun S wr hd hSk hSd hI h => ?_) ?_
            · have s7 : S 7 = false := hd.not 12 hSk (by decide) (by decide)
              have hw : wr = w7.drew := by have hI := hI; simp only [List.map, hSk] at hI; exact hI
              subst hw
              exact relAtI.valueS (by kernel_rfl) (by kernel_rfl) (run_build_none _) ⟨trivial, by simp only [List.map, setB, s7]; exact HW71.out.symm⟩ rfl
            refine RegHeadI.cons (fun S wr hd hSk hSd hI h => ?_) ?_
            · exact relAtI.pure ⟨trivial, keepI (by decide) hI⟩ (by kernel_rfl) (by kernel_rfl)
            refine RegHeadI.cons (fun S wr hd hSk hSd hI h => ?_) ?_
            · have s5 : S 5 = true := hSd 5 (by decide)
              have s8 : S 8 = false := hd.not 12 hSk (by decide) (by decide)
              have hw : wr = w71 := by have hI := hI; simp only [List.map, hSk, s5] at hI; exact hI
              subst hw
              exact relAtI.valueS (by kernel_rfl) (by kernel_rfl) HRUN9.out ⟨trivial, by simp only [List.map, setB, s5, s8]; rfl⟩ rfl
            refine RegHeadI.cons (fun S wr hd hSk hSd hI h => ?_) ?_
            · have s7 : S 7 = true := hSd 7 (by decide)
              have s5 : S 5 = true := hd.come 12 7 5 (by decide) s7 (by decide)
              have s9 : S 9 = false := hd.not 12 hSk (by decide) (by decide)
              have hw : wr = w9 := by have hI := hI; simp only [List.map, hSk, s5, s7] at hI; exact hI
              subst hw
              exact relAtI.valueS (by kernel_rfl) (by kernel_rfl) (run_build_bytes _ _ _ _) ⟨trivial, by simp only [List.map, setB, s5, s7, s9]; exact HW73.out.symm⟩ rfl
            refine RegHeadI.cons (fun S wr hd hSk hSd hI h => ?_) ?_
            · have s8 : S 8 = true := hSd 8 (by decide)
              have s7 : S 7 = true := hd.come 12 8 7 (by decide) s8 (by decide)
              have s5 : S 5 = true := hd.come 12 7 5 (by decide) s7 (by decide)
              have hw : wr = w73 := by have hI := hI; simp only [List.map, hSk, s5, s7, s8] at hI; exact hI
              subst hw
              exact relAtI.valueS (by kernel_rfl) (by kernel_rfl) HRUN8.out ⟨trivial, by simp only [List.map, setB, s5, s7, s8]; rfl⟩ rfl
            refine RegHeadI.cons (fun S wr hd hSk hSd hI h => ?_) ?_
            · exact relAtI.pure ⟨trivial, keepI (by decide) hI⟩ (by kernel_rfl) (by kernel_rfl)
            refine RegHeadI.cons (fun S wr hd hSk hSd hI h => ?_) ?_
            · exact relAtI.pure ⟨trivial, keepI (by decide) hI⟩ (by kernel_rfl) (by kernel_rfl)
            exact trivial
          · have hw : wr = w8 := hI
            subst hw
            clear h hI
            refine wp_frame (new := [(.pointer (some ⟨g, 0, none⟩) : Value), (.pointer (some ⟨g, 0, none⟩) : Value), (.pointer (some ⟨g, 0, none⟩) : Value), (.pointer (some ⟨g, 3, none⟩) : Value), (.slice rA L.records.length rC : Value), (.slice (some ⟨w7.drew.heap.size, 0, none⟩) 0 0 : Value), (.slice A p.length C : Value), (.slice B9 p.length D9 : Value), (.slice (some ⟨w9.heap.size, 0, none⟩) 1 1 : Value), (.slice B8 (L.records.length + 1) D8 : Value), (.pointer (some ⟨g, 0, none⟩) : Value), (.pointer (some ⟨g, 3, none⟩) : Value)]) 54 66 (by kernel_rfl) ?_
            simp only [List.take, List.drop, List.cons_append, List.nil_append]
            -- END14
            go_wp2_with fail
            go_ret
            rw [HRR.out]
            obtain ⟨k, hk, hkn⟩ : ∃ k, b9 = some k ∧ w7.heap.size ≤ k := by
              rcases HB9.out with e | e
              · exact ⟨_, e, H7D.out.size⟩
              · exact ⟨_, e, by rw [HW71.out]; simp⟩
            subst hk
            have hkl := HO9.out.lt k rfl
            have hBk := own_addr HO9.out
            subst hBk
            have hsz73 : w9.heap.size < w73.heap.size := by rw [HW73.out]; simp
            have hX9 : Txt w73 (some ⟨k, 0, none⟩) p.length D9 p := by rw [HW73.out]; exact HO9.out.txt.below (low1 _ _)
            have hrl : ∀ b, rblk = some b → b < w7.heap.size := fun b e => HM7.out.recs.row.lt b e
            have hbn := (HM7.out.recs.below H73.out).push (recEl p (some ⟨k, 0, none⟩, D9)) HG8.out HO8.out HB8.out (Nat.zero_le _) (fun q hq => by
              obtain rfl := List.mem_singleton.1 (show q ∈ [(some ⟨k, 0, none⟩, D9, p)] from hq)
              refine ⟨hX9, fun ad had => ⟨Nat.zero_le _, fun e => ?_⟩⟩
              have h1 := hrl _ e
              rw [← Option.some.inj had] at h1
              have h2 : k < w7.heap.size := h1
              omega)
            rw [zip_push recEl HM7.out.qlen] at hbn
            have hsz8 := HG8.out.size
            have hM8 := HM7.out.pushed HK8.out p hbn (fun b e => by
              rcases HB8.out with e2 | e2
              · exact .inl (e2 ▸ e)
              · rw [e2] at e
                have := Option.some.inj e
                have := H73.out.size
                exact .inr (by omega)) (fun ad had => by
              rw [← Option.some.inj had]
              have h1 : w7.heap.size ≤ k ∧ k < wr.heap.size := ⟨hkn, by omega⟩
              exact h1) (fun e => by
              rcases HO8.out.form with ⟨_, h0, _⟩ | ⟨_, _, _, h2, _⟩
              · exact absurd h0 (by omega)
              · rw [e] at h2; cases h2)
            have hgw7 : g < w7.heap.size := hg7
            have hk4 : Kept (· = g) (wr.setCell ⟨g, 3, none⟩ (.slice B8 (L.records.length + 1) D8)) ((wr.setCell ⟨g, 3, none⟩ (.slice B8 (L.records.length + 1) D8)).setCell ⟨g, 4, none⟩ (.int .i64 ((L.size : Int) + b.length))) := (Kept.refl (· = g) _).setCell _ _ (.inl rfl)
            have hM9 := hM8.rerow hk4 (fun b _ hn => hn) { L with records := L.records ++ [p], size := L.size + b.length } rfl rfl (by rw [setCell_one hM8.row]; simp [logRow])
            have hkE : Kept (fun b => rblk = some b ∨ b = g) w7 ((wr.setCell ⟨g, 3, none⟩ (.slice B8 (L.records.length + 1) D8)).setCell ⟨g, 4, none⟩ (.int .i64 ((L.size : Int) + b.length))) := ((HK8.out.mono fun b _ e => .inl e).setCell _ _ (.inl (.inr rfl))).setCell _ _ (.inl (.inr rfl))
            have hFl : ∀ b, rblk = some b ∨ b = g → lf b := fun b hb => hb.elim (fun e => (HM7.out.rf b e).1) fun e => e ▸ HM7.out.me
            obtain ⟨recs7, hd7⟩ := HP7.out.dat
            have hl := HL.out
            have hap := HP7.out.apart
            refine ⟨rfl, own7, _, ⟨⟨recs7, hd7.kept hkE fun b hb e => hap b (hFl b e) hb⟩, HP7.out.ok, ⟨_, _, _, _, _, _, hM9⟩, fun b hb hf => ?_, ⟨hl.epoch, hl.state, fun r hr => ?_, ?_, ?_, hl.cut⟩⟩, HT7.out.trans ⟨hkE.mono fun b _ e => .inr (hFl b e), fun b hlt hb => ?_⟩⟩
            · rcases hb with h | h
              · exact hap b h hf
              · have := hd7.lt b hf; omega
            · rcases List.mem_append.1 hr with hr | hr
              · exact hl.recs r hr
              · rw [List.mem_singleton.1 hr]
                omega
            · have := hl.many
              simp
              omega
            · show L.size + b.length ≤ 4194304
              have := HSZ.out
              omega
            · rcases hb with h | h | h
              · exact .inl h
              · exact .inr h
              · omega
        · have hr := Hr.out
          rw [if_neg hq] at hr HP7
          have HRR := Lib.hid hr
          have hq' : ¬ (q : Int) = 0 := by omega
          clear hr hq
          go_wp2
          go_ret
          rw [HRR.out]
          exact ⟨rfl, own7, lf, HP7.out, HT7.out⟩
end
end Go.Proofs.YtgpenpnobjecgaaGreatDoor
