/- disk.named. -/
import Derived.OwnWalk
import Derived.StillTailTactics
import Derived.Deep.Cut
import Derived.Test.YtgpenpnobjecgaaGreatDoorJWalSafeCard10
import Derived.Test.YtgpenpnobjecgaaGreatDoorJWalSafeCard12
import Derived.Test.YtgpenpnobjecgaaGreatDoorJWalSafeCard15
/- DNote -/
namespace Go.Proofs.YtgpenpnobjecgaaGreatDoor
set_option maxRecDepth 100000
open Go.RowKit Go.Maps Dk

def nameAt (frm to : Bs) (k : Nat) : Bs := if k = 0 then frm else to
def lessAt (d : DiskS) (frm to : Bs) (k : Nat) : Nat := if k = 0 then 0 else if k = 1 then lenAt d.files d.dir frm else lenAt d.files d.dir frm + lenAt d.files d.dir to

theorem lessAt_next (d : DiskS) (frm to : Bs) {k : Nat} (hk : k < 2) : lessAt d frm to (k + 1) = lessAt d frm to k + lenAt d.files d.dir (nameAt frm to k) := by
  have : k = 0 ∨ k = 1 := by omega
  rcases this with rfl | rfl
  · simp [lessAt, nameAt]
  · simp [lessAt, nameAt]
theorem lessAt_le {d : DiskS} (hO : Ok d) {frm to : Bs} (hne : frm ≠ to) (k : Nat) : lessAt d frm to k ≤ d.used := by
  have := usedIn_two d.files hO.dirR hne
  unfold lessAt DiskS.used
  split
  · omega
  · split <;> omega

set_option maxRecDepth 100000 in
theorem wpList_eql_chg {ops : Array Oper} {rest : List Oper} {o : Oper} {a : Act} {w : World} {Q : Exit → Act → World → Prop} (hgd : o.guard = none) (x y : Operand) (ho : o.op = .binOp .eql 126 x y 126) (frm to : Bs) (fl : Nat)
    (hx : a.eval x = .agg #[.string ⟨frm.toArray⟩, .string ⟨to.toArray⟩, .int .i64 fl]) (hy : a.eval y = .agg #[.string ⟨#[]⟩, .string ⟨#[]⟩, .int .i64 0]) (hne : frm ≠ to)
    (h : wpList Tryz.prog ops Q rest (a.put o.dst (.bool false)) w) : wpList Tryz.prog ops Q (o :: rest) a w := by
  refine wpList_plain hgd fun K hK => ?_
  unfold Oper.wp execOp
  simp only [ho, hx, hy]
  by_cases e1 : frm = []
  · by_cases e2 : to = []
    · exact absurd (e1.trans e2.symm) hne
    · go_simp
      exact hK _ _ h
  · go_simp
    exact hK _ _ h

set_option maxRecDepth 100000 in
set_option maxHeartbeats 1000000 in
theorem note_any {w : World} {g : Nat} {d : DiskS} {recs : List Nat} {own : Nat → Option DTag} (hd : DAt w g d recs own) (hO : Ok d) (frm to : Bs) (fl : Nat)
    (h1 : frm.length ≤ 32) (h2 : to.length ≤ 32) (hne : frm ≠ to) (_hl : d.dir.length ≤ 64) (hfl : to ≠ [] → fl < d.files.length) (hfl0 : to = [] → fl = 0) (hU : usedIn d.files (turn d.dir ⟨frm, to, fl⟩) ≤ d.room) :
    Calls Tryz.prog 93 #[ptrV g, chgV ⟨frm, to, fl⟩] w fun e w' => e = .returned (.tuple #[]) ∧ ∃ own', DAt w' g (note d ⟨frm, to, fl⟩) recs own' ∧ Turned (foot own) (foot own') w w' := by
  have hgl : g < w.heap.size := hd.lt _ hd.mine
  have hD0 := Lib.hid hd
  have HO := Lib.hid hO
  have H1 := Lib.hid h1
  have H2 := Lib.hid h2
  have HN := Lib.hid hne
  have HF := Lib.hid hfl
  have HF0 := Lib.hid hfl0
  have HU := Lib.hid hU
  clear hd hO h1 h2 _hl hfl hfl0 hU hne
  unfold chgV ptrV
  unfold strV at *
  go_enter Tryz.func93, Tryz.ntmps93
  go_wp2_with (refine wpList_eql_chg rfl _ _ rfl frm to fl rfl rfl HN.out ?_)
  have hD2 : DAtU ((w.alloc (.cells #[strV frm, strV to, .int .i64 fl] 126)).alloc (.cells #[strV frm, strV to] 9)) g d d.used recs own := (DAtU.below hD0.out (low2 _ _ _))
  have hB2 := blk2 w (.cells #[strV frm, strV to, .int .i64 fl] 126) (.cells #[strV frm, strV to] 9)
  obtain ⟨w2, hw2⟩ : ∃ w2, w2 = (w.alloc (.cells #[strV frm, strV to, .int .i64 fl] 126)).alloc (.cells #[strV frm, strV to] 9) := ⟨_, rfl⟩
  unfold strV at hw2
  have HW2 : Hid (Kept (foot own) w w2) := Lib.hid (by rw [hw2]; exact ((Kept.refl _ _).alloc _).alloc _)
  rw [← hw2]
  go_loopw [16] (fun i wr => ∃ k : Nat, k ≤ 2 ∧ i = .int .i64 k ∧ Hid (DAtU wr g d (d.used - lessAt d frm to k) recs own ∧ Kept (· = g) w2 wr)) (fun i _ => 2 - (intOf i).toNat)
  case atStart => exact ⟨0, by omega, rfl, Lib.hid ⟨by simpa [lessAt] using hw2 ▸ hD2, Kept.refl _ _⟩⟩
  case round =>
    obtain ⟨k, hk, rfl, hI⟩ := hrel
    by_cases hlt : k < 2
    · have hki : (k : Int) < 2 := by omega
      have hki0 : (0 : Int) ≤ (k : Int) := by omega
      have hc : wr.cell? ⟨w.heap.size + 1, k, none⟩ = some (.string ⟨(nameAt frm to k).toArray⟩) := by
        refine hI.out.2.cell (a := ⟨w.heap.size + 1, k, none⟩) ?_ (show ¬ w.heap.size + 1 = g by omega)
        rw [hw2]
        have : k = 0 ∨ k = 1 := by omega
        rcases this with rfl | rfl
        · exact cell_block hB2.2 rfl
        · exact cell_block hB2.2 rfl
      have hnl : (nameAt frm to k).length ≤ maxLen := by unfold nameAt maxLen; have := H1.out; have := H2.out; split <;> omega
      obtain ⟨s, hs⟩ : ∃ s, s = nameAt frm to k := ⟨_, rfl⟩
      rw [← hs] at hc hnl
      have hcall := find_any hI.out.1 (fun p hp => (HO.out.dirF p hp).1) s hnl
      unfold ptrV strV at hcall
      have HS := Lib.hid hs
      have HL := Lib.hid hlt
      clear hs hlt hw2 hD2 hB2
      cases hg : dget d.dir s with
      | none =>
        rw [hg] at hcall
        have hnx := lessAt_next d frm to HL.out
        rw [← HS.out, show lenAt d.files d.dir s = 0 by unfold lenAt; rw [hg], Nat.add_zero] at hnx
        have HX := Lib.hid hnx
        clear hg hnx hnl
        go_wp2_with (go_at_call 92; refine hcall.mono ?_; rintro e w3 ⟨rfl, rfl⟩)
        refine ⟨⟨k + 1, by have := HL.out; omega, by simp, ?_⟩, by simp [intOf]; omega⟩
        rw [HX.out]
        exact hI
      | some i =>
        obtain ⟨fA, fC, fb, mb, sb, cA, cC, cb, M⟩ := hI.out.1
        have hil : i < d.files.length := (HO.out.dirF _ (dget_mem hg)).1
        obtain ⟨r, A, C, blk, hri, hfa⟩ := M.fil i _ (List.getElem?_eq_getElem hil)
        have hri' : recs.getD i 0 = r := by simp [hri]
        rw [hg] at hcall
        simp only [hri'] at hcall
        obtain ⟨f, hf⟩ : ∃ f, f = d.files[i] := ⟨_, rfl⟩
        rw [← hf] at hfa
        have hlen : lenAt d.files d.dir s = f.b.length := by unfold lenAt; rw [hg, hf]; simp [fileAt, hil]
        have hnx := lessAt_next d frm to HL.out
        rw [← HS.out, hlen] at hnx
        have hle := lessAt_le HO.out HN.out (k + 1)
        have hup := HO.out.used
        have hup2 := HO.out.room
        obtain ⟨u, hu⟩ : ∃ u, u = d.used - lessAt d frm to k := ⟨_, rfl⟩
        rw [← hu] at M
        have c0 : wr.cell? ⟨r, 0, none⟩ = some (.slice A f.b.length C) := cell_block hfa.row rfl
        have c1 : wr.cell? ⟨g, 1, none⟩ = some (.int .i64 u) := cell_block M.row rfl
        have fz := frozen_row M.row
        have i1 : f.b.length ≤ u := by omega
        have i2 : u ≤ 9223372036854775807 := by omega
        have i3 : (f.b.length : Int) ≤ u := by omega
        have hnew : d.used - lessAt d frm to (k + 1) = u - f.b.length := by omega
        have HM := Lib.hid M
        have HFA := Lib.hid hfa
        have HNEW := Lib.hid hnew
        clear hg M hfa hri hri' hf hnl hnew hu hlen hnx hle hup hup2
        go_wp2_with (go_at_call 92; refine hcall.mono ?_; rintro e w3 ⟨rfl, rfl⟩)
        go_region
        go_wp2
        refine ⟨⟨k + 1, by have := HL.out; omega, by simp, Lib.hid ⟨?_, ?_⟩⟩, by simp [intOf]; omega⟩
        · rw [HNEW.out, show (u : Int) - (f.b.length : Int) = ((u - f.b.length : Nat) : Int) by omega]
          exact DAtU.below ⟨fA, fC, fb, mb, sb, cA, cC, cb, HM.out.setUsed _⟩ ((Below.refl _ _).drew)
        · exact (hI.out.2.setCell _ _ (.inl rfl)).drew
    · obtain rfl : k = 2 := by omega
      obtain ⟨fA, fC, fb, mb, sb, cA, cC, cb, M⟩ := hI.out.1
      have c3 : wr.cell? ⟨g, 3, none⟩ = some (.map (some mb)) := cell_block M.row rfl
      have hb0 : wr.heap[w.heap.size]? = some (.cells #[strV frm, strV to, .int .i64 fl] 126 (0, 0)) := hI.out.2.blk (by rw [hw2]; exact hB2.1) (show ¬ w.heap.size = g by omega)
      have hturn := fun W h => dturn_any (w := W) (b := mb) (l := d.dir) h ⟨frm, to, fl⟩ (by have := H1.out; show frm.length ≤ _; omega) (by have := H2.out; show to.length ≤ _; omega) (by have := HO.out.ndir; omega) (by show fl ≤ _; have h1 := HO.out.nfiles; have h2 := HO.out.ops; by_cases e : to = []; (rw [HF0.out e]; omega); (have := HF.out e; omega))
      have hc0 : wr.cell? ⟨w.heap.size, 0, none⟩ = some (.string ⟨frm.toArray⟩) := cell_block hb0 rfl
      have hc1 : wr.cell? ⟨w.heap.size, 1, none⟩ = some (.string ⟨to.toArray⟩) := cell_block hb0 rfl
      have hc2 : wr.cell? ⟨w.heap.size, 2, none⟩ = some (.int .i64 fl) := cell_block hb0 rfl
      unfold chgV strV at hturn
      have HM := Lib.hid M
      have HB0 := Lib.hid hb0
      have HT := Lib.hid hturn
      clear hw2 hD2 hB2 hlt M hb0 hturn
      go_wp2
      go_still_tail 5, (by kernel_rfl)
      change wpList _ _ _ _ _ wr.drew
      go_upto_if 46 with (go_at_call 72; refine (HT.out _ (HM.out.dir.below ((Below.refl _ _).drew))).mono ?_; rintro e w4 ⟨rfl, hdir, hk4⟩; have hc4 : w4.cell? ⟨w.heap.size, 1, none⟩ = some (.string ⟨to.toArray⟩) := hk4.cell (a := ⟨w.heap.size, 1, none⟩) hc1 (by show ¬ w.heap.size = mb; have := hD0.out.lt mb (by rw [foot, HM.out.td]; simp); omega); have HD4 := Lib.hid hdir; have HK4 := Lib.hid hk4; clear hdir hk4)
      have hM4 := (HM.out.kept (F := fun _ => False) (Kept.of_below ((Below.refl _ _).drew)) (fun _ _ => id)).redir HK4.out _ HD4.out
      have hk4 : Kept (fun b => b = g ∨ b = mb) wr w4 := ((Kept.refl _ wr).drew).then (HK4.out.mono fun b _ h => .inr h)
      have hut := usedIn_turn d.files (c := ⟨frm, to, fl⟩) HO.out.dirR HN.out HO.out.dget_nil
      have hle := lessAt_le HO.out HN.out 2
      have hl2 : lessAt d frm to 2 = lenAt d.files d.dir frm + lenAt d.files d.dir to := rfl
      simp only [← hl2] at hut
      have HM4 := Lib.hid hM4
      have HK := Lib.hid hk4
      have HUT := Lib.hid hut
      have HLE := Lib.hid hle
      clear hM4 hk4 hut hle hl2 c3 hc0 hc2
      have HC1 := Lib.hid hc1
      have HB4 := Lib.hid (show w4.heap[w.heap.size]? = some (.cells #[strV frm, strV to, .int .i64 fl] 126 (0, 0)) from HK4.out.blk (b := w.heap.size) HB0.out (by show ¬ w.heap.size = mb; have := hD0.out.lt mb (by rw [foot, HM.out.td]; simp); omega))
      clear hc1 hc4
      go_cut [] from 46 (fun wx => Hid (DAtU wx g { d with dir := turn d.dir ⟨frm, to, fl⟩ } (usedIn d.files (turn d.dir ⟨frm, to, fl⟩)) recs own ∧ Kept (fun b => b = g ∨ b = mb) wr wx))
      case first =>
        by_cases e2 : to = []
        · have hM := HM4.out
          rw [show d.used - lessAt d frm to 2 = usedIn d.files (turn d.dir ⟨frm, to, fl⟩) by have h := HUT.out; have := HLE.out; rw [if_pos e2] at h; unfold DiskS.used at *; omega] at hM
          have HX := Lib.hid hM
          have i2 : to.isEmpty = true := by simp [e2]
          clear hM e2
          simp only [i2, Bool.not_true]
          go_wp2
          go_meet
          exact Lib.hid ⟨⟨fA, fC, fb, mb, sb, cA, cC, cb, HX.out⟩, HK.out⟩
        · have i2 : to.isEmpty = false := by simpa using e2
          have hfl := HF.out e2
          obtain ⟨r, A, C, blk, hri, hfa⟩ := HM4.out.fil fl _ (List.getElem?_eq_getElem hfl)
          obtain ⟨f, hf⟩ : ∃ f, f = d.files[fl] := ⟨_, rfl⟩
          have hfl' : (fileAt d.files fl).b.length = f.b.length := by rw [hf]; simp [fileAt, hfl]
          change FileAt w4 own fl d.files[fl] r A C blk at hfa
          rw [← hf] at hfa
          have hu := HUT.out
          rw [if_neg e2, hfl'] at hu
          have hroom := HO.out.room
          have hused := HO.out.used
          have hlen := (HO.out.len f (by rw [hf]; simp)).1
          obtain ⟨u, hu2⟩ : ∃ u, u = d.used - lessAt d frm to 2 := ⟨_, rfl⟩
          have hM := HM4.out
          rw [← hu2] at hM
          obtain ⟨b, rfl, _, hc⟩ := hM.files.cell (j := fl) (v := ptrV r) (by rw [List.getElem?_map, hri]; rfl)
          unfold ptrV at hc
          have c0 : w4.cell? ⟨r, 0, none⟩ = some (.slice A f.b.length C) := cell_block hfa.row rfl
          have c1 : w4.cell? ⟨g, 1, none⟩ = some (.int .i64 u) := cell_block hM.row rfl
          have c2 : w4.cell? ⟨g, 2, none⟩ = some (.slice (some ⟨b, 0, none⟩) d.files.length fC) := cell_block hM.row rfl
          have b2 : w4.cell? ⟨w.heap.size, 2, none⟩ = some (.int .i64 fl) := cell_block HB4.out rfl
          have fz := frozen_row hM.row
          have i3 : (0 : Int) ≤ fl := by omega
          have i4 : (fl : Int) < d.files.length := by omega
          have hnew : usedIn d.files (turn d.dir ⟨frm, to, fl⟩) = u + f.b.length := by have := HLE.out; unfold DiskS.used at *; omega
          have i5 : (u : Int) + f.b.length ≤ 9223372036854775807 := by have := HU.out; omega
          have i6 : (0 : Int) ≤ (u : Int) + f.b.length := by omega
          simp only [i2, Bool.not_false]
          have HX := Lib.hid hM
          have HNEW := Lib.hid hnew
          clear hM hnew hu hu2 hf hfl' hfa hri hfl e2 hroom hused hlen
          go_wp2
          go_region
          go_wp2
          go_meet
          refine Lib.hid ⟨⟨some ⟨b, 0, none⟩, fC, fb, mb, sb, cA, cC, cb, ?_⟩, (HK.out.setCell _ _ (.inl (.inl rfl))).drew⟩
          rw [HNEW.out, show (u : Int) + (f.b.length : Int) = ((u + f.b.length : Nat) : Int) by omega]
          exact (HX.out.setUsed _).kept (F := fun _ => False) (Kept.of_below ((Below.refl _ _).drew)) (fun _ _ => id)
      case rest =>
        have hX := hcut.out.1
        obtain ⟨gA, gC, gb, nb, tb, eA, eC, eb, M⟩ := hX
        have hb5 : wc.heap[w.heap.size]? = some (.cells #[strV frm, strV to, .int .i64 fl] 126 (0, 0)) := hcut.out.2.blk HB0.out (by show ¬ (w.heap.size = g ∨ w.heap.size = mb); have := hD0.out.lt mb (by rw [foot, HM.out.td]; simp); omega)
        have c5 : wc.cell? ⟨g, 5, none⟩ = some (.slice eA d.chg.length eC) := cell_block M.row rfl
        have b0 : wc.cell? ⟨w.heap.size, 0, none⟩ = some (.string ⟨frm.toArray⟩) := cell_block hb5 rfl
        have b1 : wc.cell? ⟨w.heap.size, 1, none⟩ = some (.string ⟨to.toArray⟩) := cell_block hb5 rfl
        have b2 : wc.cell? ⟨w.heap.size, 2, none⟩ = some (.int .i64 fl) := cell_block hb5 rfl
        have fz := frozen_row M.row
        have HX := Lib.hid M
        have hlen : d.chg.length ≤ 1048576 := by have := HO.out.nchg; have := HO.out.ops; omega
        have z1 : d.chg.length + 1 ≤ maxLen := by unfold maxLen; omega
        have z2 : (d.chg.length + 1) * 40 ≤ 140737488355328 := by omega
        have hgl5 : g < wc.heap.size := in_heap HX.out.row
        clear M hb5
        go_wp2
        go_region_law (refine step_app rfl _ _ 101 rfl 126 3 40 (.agg #[.string ⟨#[]⟩, .string ⟨#[]⟩, .int .i64 0]) Tryz.underlying101 (by kernel_rfl) rfl (by decide) eA d.chg.length eC (chgCells d.chg) eb rfl (HX.out.chg.below (by repeat (first | exact Below.refl _ _ | refine Below.drew ?_ | refine Below.alloc ?_ (by simp) _))) (some ⟨wc.heap.size, 0, none⟩) 1 1 [.string ⟨frm.toArray⟩, .string ⟨to.toArray⟩, .int .i64 fl] rfl rfl (CellsAt.of_block (by first | exact blk1 _ _ | exact at_new _ _ rfl)) (fun h => by cases h) (fun ad h => ⟨_, _, (Option.some.inj h).symm⟩) (by simp; exact ⟨rfl, rfl, rfl⟩) z1 z2 ?_; intro B D w5 blk' h1 h2 h3; have hk5 : Kept (fun b => eb = some b) wc w5 := (Kept.of_below (by repeat (first | exact Below.refl _ _ | refine Below.drew ?_ | refine Below.alloc ?_ (by simp) _))).grown h2 (fun k e => .inl e); have hg5 := hk5.blk HX.out.row (fun e => absurd (HX.out.tc _ e) (by rw [HX.out.tg]; simp)); have c55 : w5.cell? ⟨g, 5, none⟩ = some (.slice eA d.chg.length eC) := cell_block hg5 rfl; have fz5 := frozen_row hg5; have HK5 := Lib.hid hk5; clear hk5 hg5; have HA1 := Lib.hid h1; have HA2 := Lib.hid h2; have HA3 : Hid (∃ k, (blk' = eb ∨ blk' = some k) ∧ wc.heap.size ≤ k) := Lib.hid ⟨_, h3, Below.size (B := wc.heap.size) (by repeat (first | exact Below.refl _ _ | refine Below.drew ?_ | refine Below.alloc ?_ (by simp) _))⟩; clear h1 h2 h3)
        all_goals
          go_wp2
          go_end0
          have hk9 : Kept (fun b => b = g ∨ b = mb ∨ eb = some b) w2 (w5.setCell ⟨g, 5, none⟩ (.slice B (d.chg.length + 1) D)) := ((((hI.out.2.mono fun b _ h => .inl h).then (hcut.out.2.mono fun b _ h => h.elim .inl fun h => .inr (.inl h))).then (HK5.out.mono fun b _ h => .inr (.inr h)))).setCell _ _ (.inl (.inl rfl))
          have hf9 : ∀ b, (b = g ∨ b = mb ∨ eb = some b) → foot own b := by
            rintro b (rfl | rfl | h)
            · exact foot_of HM.out.tg
            · exact foot_of HM.out.td
            · exact foot_of (HX.out.tc b h)
          have hs9 : w.heap.size ≤ wc.heap.size := Nat.le_trans HW2.out.size (Nat.le_trans hI.out.2.size hcut.out.2.size)
          have hA9 : OwnR w5 126 3 B (d.chg.length + 1) D (chgCells (d.chg ++ [⟨frm, to, fl⟩])) blk' := by
            have h := HA1.out
            simp only [chgCells, List.flatMap_append, List.flatMap_cons, List.flatMap_nil, List.append_nil] at h ⊢
            exact h
          obtain ⟨k9, hk91, hk92⟩ := HA3.out
          refine ⟨rfl, grow own .chg blk', ⟨gA, gC, gb, nb, tb, B, D, blk', HX.out.rechg ⟨frm, to, fl⟩ HK5.out hA9 hk91 hk92⟩, ⟨HW2.out.then (hk9.mono fun b _ h => hf9 b h), fun b hb hf => ?_⟩⟩
          unfold foot at hf ⊢
          rwa [grow_old (m := w.heap.size) hk91 HX.out.tc (by omega) hb] at hf
end Go.Proofs.YtgpenpnobjecgaaGreatDoor

/- DNamed -/
namespace Go.Proofs.YtgpenpnobjecgaaGreatDoor
set_option maxRecDepth 100000
open Go.RowKit Go.Maps Dk

theorem named_no {s : Bs} {i : Nat} (h : i < s.length) (hb : nameByte (s[i]) = false) : named s = false := by
  unfold named
  have : s.all nameByte = false := by
    rw [List.all_eq_false]
    exact ⟨s[i], by simp, by simp [hb]⟩
  rw [this]; rfl
set_option maxRecDepth 100000 in
set_option maxHeartbeats 2000000 in
theorem named_any (s : Bs) (w : World) (hs : s.length ≤ 9223372036854775807) : Calls Tryz.prog 50 #[strV s] w fun e w' => e = .returned (.bool (named s)) ∧ w = w' := by
  unfold strV
  have hsz : (⟨s.toArray⟩ : ByteArray).size = s.length := by simp [ByteArray.size]
  go_enter Tryz.func50, Tryz.ntmps50
  go_wp2
  go_loopw [7] (fun i wr => ∃ k : Nat, i = .int .i64 k ∧ Hid (k ≤ s.length ∧ ∀ j (h : j < s.length), j < k → nameByte s[j] = true) ∧ wr = w) (fun i _ => s.length - (intOf i).toNat)
  case atStart => exact ⟨0, rfl, Lib.hid ⟨by omega, fun j _ h => by omega⟩, rfl⟩
  case round =>
    obtain ⟨k, rfl, hI, rfl⟩ := hrel
    by_cases hlt : k < s.length
    · have hki : (k : Int) < (s.length : Int) := by omega
      have hki0 : (0 : Int) ≤ (k : Int) := by omega
      obtain ⟨c, hc⟩ : ∃ c, c = s[k] := ⟨_, rfl⟩
      have hget : (⟨s.toArray⟩ : ByteArray)[k]'(by rw [hsz]; exact hlt) = c := by rw [hc]; rfl
      have HC := Lib.hid hc
      clear hc
      go_wp2
      all_goals first
        | (have hb : nameByte c = true := by
             simp only [nameByte, Bool.or_eq_true, Bool.and_eq_true, decide_eq_true_eq, beq_iff_eq]
             try simp only [Bool.not_eq_false', Bool.not_eq_true', decide_eq_true_eq, decide_eq_false_iff_not, beq_iff_eq, beq_eq_false_iff_ne] at *
             omega
           refine ⟨⟨k + 1, by simp, Lib.hid ⟨by omega, fun j hj hjk => ?_⟩, trivial⟩, by simp [intOf]; omega⟩
           by_cases e : j = k
           · subst e; rw [← HC.out]; exact hb
           · exact hI.out.2 j hj (by omega))
        | (have hb : nameByte c = false := by
             rw [Bool.eq_false_iff]
             simp only [nameByte, ne_eq, Bool.or_eq_true, Bool.and_eq_true, decide_eq_true_eq, beq_iff_eq]
             try simp only [Bool.not_eq_true', decide_eq_false_iff_not, beq_eq_false_iff_ne] at *
             omega
           go_ret
           refine ⟨?_, rfl⟩
           rw [named_no hlt (by rw [← HC.out]; exact hb)]
           rfl)
    · have hki : ¬ (k : Int) < (s.length : Int) := by omega
      have hall : s.all nameByte = true := by
        rw [List.all_eq_true]
        intro c hc
        obtain ⟨j, hj, rfl⟩ := List.mem_iff_getElem.1 hc
        exact hI.out.2 j hj (by omega)
      have HA := Lib.hid hall
      clear hall
      go_wp2
      all_goals
        go_ret
        refine ⟨?_, rfl⟩
        first
          | (rw [show named s = decide ((s.length : Int) ≤ 32) by unfold named; rw [HA.out, Bool.eq_iff_iff]; simp; omega]; rfl)
          | (rw [show named s = false by unfold named; rw [HA.out, Bool.eq_false_iff]; simp; omega]; rfl)
end Go.Proofs.YtgpenpnobjecgaaGreatDoor
