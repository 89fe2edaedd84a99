/- live. -/
import Derived.Test.YtgpenpnobjecgaaGreatDoorJWalSafeCard31
import Derived.Test.YtgpenpnobjecgaaGreatDoorJWalSafeCard32
/- LawD -/
namespace Go.Proofs.YtgpenpnobjecgaaGreatDoor
set_option maxRecDepth 100000
open Go.RowKit Dk

def DRun (w w' : World) (dg : Nat) (d : DiskS) : Prop := ∃ recs own, DAt w' dg d recs own ∧ Ok d ∧ (∀ b, foot own b → w.heap.size ≤ b) ∧ RowKit.Below w.heap.size w w'
def Run (w w' : World) (g dg : Nat) (d : DiskS) (L : LogS) : Prop := ∃ own lf, PairAt w' g dg d L own lf ∧ (∀ b, both own lf b → w.heap.size ≤ b) ∧ RowKit.Below w.heap.size w w'
section
variable {w w1 W : World} {g dg : Nat} {d d' : DiskS} {L L' : LogS} {q : Nat}
theorem Run.below (h : Run w w1 g dg d L) (hb : RowKit.Below w1.heap.size w1 W) : Run w W g dg d L := by
  obtain ⟨own, lf, hp, hf, hl⟩ := h
  exact ⟨own, lf, hp.below hb, hf, bthen hl hb⟩
theorem DRun.below (h : DRun w w1 dg d) (hb : RowKit.Below w1.heap.size w1 W) : DRun w W dg d := by
  obtain ⟨recs, own, hd, hO, hf, hl⟩ := h
  exact ⟨recs, own, hd.below hb, hO, hf, bthen hl hb⟩
theorem Run.low (h : Run w w1 g dg d L) : RowKit.Below w.heap.size w w1 := by obtain ⟨_, _, _, _, hl⟩ := h; exact hl
theorem DRun.low (h : DRun w w1 dg d) : RowKit.Below w.heap.size w w1 := by obtain ⟨_, _, _, _, _, hl⟩ := h; exact hl
theorem Run.ok (h : Run w w1 g dg d L) : Ok d := by obtain ⟨own, lf, hp, _⟩ := h; exact hp.ok
theorem DRun.ok (h : DRun w w1 dg d) : Ok d := by obtain ⟨_, _, _, hO, _⟩ := h; exact hO
theorem Run.lok (h : Run w w1 g dg d L) : LOk L := by obtain ⟨own, lf, hp, _⟩ := h; exact hp.lok
theorem Run.disk (h : Run w w1 g dg d L) : DRun w w1 dg d := by
  obtain ⟨own, lf, hp, hf, hl⟩ := h
  obtain ⟨recs, hd⟩ := hp.dat
  exact ⟨recs, own, hd, hp.ok, fun b hb => hf b (.inl hb), hl⟩
theorem Run.next {own own' : Nat → Option DTag} {lf lf' : Nat → Prop} (hf : ∀ b, both own lf b → w.heap.size ≤ b) (hl : RowKit.Below w.heap.size w w1) (hp : PairAt W g dg d L own' lf') (ht : Turned (both own lf) (both own' lf') w1 W) : Run w W g dg d L := by
  refine ⟨own', lf', hp, fun b hb => ?_, ((Kept.of_below (F := both own lf) hl).then ht.kept).below fun b hlt h => by have := hf b h; omega⟩
  rcases Nat.lt_or_ge b w1.heap.size with h | h
  · exact hf b (ht.foot b h hb)
  · exact Nat.le_trans hl.size h
theorem run_append (hT : Tabs6 w) (h : Run w w1 g dg d L) (hW : RowKit.Below w1.heap.size w1 W) {p : Bs} {A : Option Addr} {C : Nat} (X : Txt W A p.length C p) (hA : ∀ ad, A = some ad → w1.heap.size ≤ ad.block) (hp : p.length ≤ 4611686018427387904) (hr : appendW d L p = ((d', L'), q)) :
    Calls Tryz.prog 27 #[ptrV g, .slice A p.length C] W fun e w' => e = .returned (.int .i64 q) ∧ Run w w' g dg d' L' := by
  obtain ⟨own, lf, hP, hf, hl⟩ := h
  have hlt : ∀ b, both own lf b → b < w1.heap.size := fun b hb => by
    obtain ⟨recs, hd⟩ := hP.dat
    exact hb.elim (hd.lt b) (hP.log.lt b)
  refine (wappend_any (hP.below hW) (w0 := w) ⟨hT, bthen hl hW, hf⟩ p A C X hp (fun ad had hb => by have := hA ad had; have := hlt _ hb; omega)).mono ?_
  rintro e w' ⟨he, own', lf', hp', ht⟩
  rw [hr] at he hp'
  exact ⟨he, Run.next hf (bthen hl hW) hp' ht⟩
theorem run_sync (hT : Tabs6 w) (h : Run w w1 g dg d L) (hr : syncW d L = ((d', L'), q)) :
    Calls Tryz.prog 42 #[ptrV g] w1 fun e w' => e = .returned (.int .i64 q) ∧ Run w w' g dg d' L' := by
  obtain ⟨own, lf, hP, hf, hl⟩ := h
  refine (wsync_any hP (w0 := w) ⟨hT, hl, hf⟩).mono ?_
  rintro e w' ⟨he, own', lf', hp', ht⟩
  rw [hr] at he hp'
  exact ⟨he, Run.next hf hl hp' ht⟩
theorem run_snap (hT : Tabs6 w) (h : Run w w1 g dg d L) (hW : RowKit.Below w1.heap.size w1 W) {p : Bs} {A : Option Addr} {C : Nat} (X : Txt W A p.length C p) (hA : ∀ ad, A = some ad → w1.heap.size ≤ ad.block) (hp : p.length ≤ 4611686018427387904) (hfs : L.broken = false → free d + L.size ≤ 9223372036854775807) (hr : snapW d L p = ((d', L'), q)) :
    Calls Tryz.prog 25 #[ptrV g, .slice A p.length C] W fun e w' => e = .returned (.int .i64 q) ∧ Run w w' g dg d' L' := by
  obtain ⟨own, lf, hP, hf, hl⟩ := h
  have hlt : ∀ b, both own lf b → b < w1.heap.size := fun b hb => by
    obtain ⟨recs, hd⟩ := hP.dat
    exact hb.elim (hd.lt b) (hP.log.lt b)
  refine (wsnap_any (hP.below hW) (w0 := w) ⟨hT, bthen hl hW, hf⟩ p A C X hp (fun ad had hb => by have := hA ad had; have := hlt _ hb; omega) hfs).mono ?_
  rintro e w' ⟨he, own', lf', hp', ht⟩
  rw [hr] at he hp'
  exact ⟨he, Run.next hf (bthen hl hW) hp' ht⟩
theorem run_new {l : List (Bs × Bs)} {A : Option Addr} {C : Nat} {G : Nat → Prop} (hl : RowKit.Below w.heap.size w W) (hF : FilesAt W A l.length C l G) {R : Int} (hR : -9223372036854775808 ≤ R ∧ R ≤ 9223372036854775807) (hn : ∀ p ∈ l, p.1.length ≤ maxLen) (hll : l.length ≤ 4611686018427387904) (hr : Dk.new l R = (some d, 0)) :
    Calls Tryz.prog 13 #[.slice A l.length C, .int .i64 R] W fun e w' => ∃ dg, e = .returned (.tuple #[ptrV dg, .int .i64 0]) ∧ DRun w w' dg d := by
  refine (new_any l A C G hF R hR hn hll).mono ?_
  rw [hr]
  rintro e w' ⟨hb, _, hO, dg, recs, own, rfl, hd, hf⟩
  exact ⟨dg, rfl, recs, own, hd, hO, fun b h => Nat.le_trans hl.size (hf b h), bthen hl hb⟩
theorem run_open (hT : Tabs6 w) (h : DRun w w1 dg d) (hr : openW d = (d', some L, 0)) :
    Calls Tryz.prog 16 #[ptrV dg] w1 fun e w' => ∃ g, e = .returned (.tuple #[ptrV g, .int .i64 0]) ∧ Run w w' g dg d' L := by
  obtain ⟨recs, own, hd, hO, hf, hl⟩ := h
  have hop := wopen_any hd hO (w0 := w) ⟨hT, hl, hf⟩
  rw [hr] at hop
  refine hop.mono ?_
  rintro e w2 ⟨hO2, recs2, own2, hd2, ht2, g, lf, rfl, hl2, hap, hlk⟩
  refine ⟨g, rfl, own2, lf, ⟨⟨recs2, hd2⟩, hO2, hl2, fun b hb => (hap b hb).2, hlk⟩, fun b hb => ?_, ((Kept.of_below (F := foot own) hl).then ht2.kept).below fun b hlt hf2 => by have := hf b hf2; omega⟩
  rcases hb with hb | hb
  · rcases Nat.lt_or_ge b w1.heap.size with h | h
    · exact hf b (ht2.foot b h hb)
    · exact Nat.le_trans hl.size h
  · exact Nat.le_trans hl.size (hap b hb).1
theorem run_left (h : DRun w w1 dg d) (cd : Int) (hc : -9223372036854775808 ≤ cd ∧ cd ≤ 9223372036854775807) {ta : Option Addr} {tc : Nat} {tails : List Int} (hW : RowKit.Below w1.heap.size w1 W) (hT : IntsW W ta tails.length tails) :
    Calls Tryz.prog 31 #[ptrV dg, .agg #[.int .i64 cd, .slice ta tails.length tc]] W fun e w' => ∃ A C, e = .returned (.slice A (Dk.left d cd tails).length C) ∧ FilesAt w' A (Dk.left d cd tails).length C (Dk.left d cd tails) (fun b => W.heap.size ≤ b) ∧ RowKit.Below W.heap.size W w' := by
  obtain ⟨recs, own, hd, hO, hf, hl⟩ := h
  exact left_any (hd.below hW) hO cd hc ta tc tails hT
theorem run_durable (h : DRun w w1 dg d) :
    Calls Tryz.prog 22 #[ptrV dg] w1 fun e w' => ∃ A C, e = .returned (.slice A (Dk.left d 0 []).length C) ∧ FilesAt w' A (Dk.left d 0 []).length C (Dk.left d 0 []) (fun b => w1.heap.size ≤ b) ∧ RowKit.Below w1.heap.size w1 w' := by
  obtain ⟨recs, own, hd, hO, hf, hl⟩ := h
  exact durable_any hd hO
theorem run_state (h : Run w w1 g dg d L) : Calls Tryz.prog 19 #[ptrV g] w1 fun e w' => ∃ k C, RetOwn w1 L.state e w' k C := by
  obtain ⟨own, lf, hP, hf, hl⟩ := h
  obtain ⟨_, _, _, _, _, _, M⟩ := hP.log
  exact wstate_any M hP.lok.state
theorem run_records (h : Run w w1 g dg d L) : Calls Tryz.prog 21 #[ptrV g] w1 fun e w' => ∃ A C, e = .returned (.slice A L.records.length C) ∧ (∃ blk qs', Sole w1 w' L.records A C blk qs') ∧ RowKit.Below w1.heap.size w1 w' := by
  obtain ⟨own, lf, hP, hf, hl⟩ := h
  obtain ⟨_, _, _, _, _, _, M⟩ := hP.log
  exact wrecords_any M hP.lok.recs (Nat.le_trans hP.lok.many hP.lok.size)
theorem run_epoch (h : Run w w1 g dg d L) : Calls Tryz.prog 23 #[ptrV g] w1 fun e w' => e = .returned (.int .i64 L.epoch) ∧ w1 = w' := by
  obtain ⟨own, lf, hP, hf, hl⟩ := h
  obtain ⟨_, _, _, _, _, _, M⟩ := hP.log
  exact epoch_any M
theorem run_cut (h : Run w w1 g dg d L) : Calls Tryz.prog 17 #[ptrV g] w1 fun e w' => e = .returned (.int .i64 L.cut) ∧ w1 = w' := by
  obtain ⟨own, lf, hP, hf, hl⟩ := h
  obtain ⟨_, _, _, _, _, _, M⟩ := hP.log
  exact wcut_any M
theorem run_count (h : Run w w1 g dg d L) : Calls Tryz.prog 46 #[ptrV g] w1 fun e w' => e = .returned (.int .i64 L.records.length) ∧ w1 = w' := by
  obtain ⟨own, lf, hP, hf, hl⟩ := h
  obtain ⟨_, _, _, _, _, _, M⟩ := hP.log
  exact wcount_any M
theorem run_begun (hT : Tabs6 w) (R : Nat) (h10 : 10 ≤ R) (hR : R ≤ 9223372036854775807) :
    Calls Tryz.prog 24 #[.int .i64 R] w fun e w' => ∃ g dg d, e = .returned (.tuple #[ptrV dg, ptrV g]) ∧ Run w w' g dg d (newLog 1 [] [] 0) ∧ Solo d 1 (bytesW 1 [] []) (bytesW 1 [] []).length 0 ∧ d.ops = 5 ∧ d.room = R := by
  refine (begun_any hT R h10 hR).mono ?_
  rintro e w' ⟨g, dg, d, own, lf, he, hp, hs, ho, hr, hb, hf⟩
  exact ⟨g, dg, d, he, ⟨own, lf, hp, hf, hb⟩, hs, ho, hr⟩
/-- Sole slices as a row. -/
theorem Sole.rows {l : List Bs} {A : Option Addr} {C : Nat} {blk : Option Nat} {qs : List (Nat × Nat)} (h : Sole w W l A C blk qs) : RowsAt W A l.length C l (fun b => w.heap.size ≤ b) := by
  refine ⟨rfl, h.row.cap.1, h.row.nilcap, fun ad had => ?_, fun i p hp => ?_⟩
  · rcases h.row.form with ⟨h0, _⟩ | ⟨b, cur, hb, hk, _⟩
    · rw [h.rnil h0] at had; cases had
    · rw [hb] at had
      exact ⟨b, 0, (Option.some.inj had).symm, h.row.lt b hk, h.rnew b hk⟩
  · have hi : i < l.length := (List.getElem?_eq_some_iff.1 hp).1
    obtain ⟨q, hqi⟩ : ∃ q, qs[i]? = some q := ⟨_, List.getElem?_eq_getElem (by rw [h.len]; exact hi)⟩
    obtain ⟨b, hb, _, c0⟩ := h.row.cell (j := i) (v := soleV p q) (by rw [List.getElem?_zipWith, hp, hqi])
    have ho := h.own i p q hp hqi
    exact ⟨b, 0, some ⟨q.1, 0, none⟩, q.2, hb, by rw [Nat.zero_add]; exact c0, ho.txt, fun ad had => by rw [← Option.some.inj had]; exact (h.new q (List.mem_of_getElem? hqi)).1⟩
end
theorem seal_len (k : UInt8) (n : Nat) (hn : n < 128) (p : Bs) : (sealW k n p).length = 10 + p.length := by
  rw [sealW_len, groups_small hn]
  simp
theorem gen_len (n : Nat) (hn : n < 128) (s : Bs) : (bytesW n s []).length = 10 + s.length := by
  unfold bytesW
  rw [List.length_append, seal_len 1 n hn]
  simp [recsW]
end Go.Proofs.YtgpenpnobjecgaaGreatDoor

/- LawLive -/
namespace Go.Proofs.YtgpenpnobjecgaaGreatDoor
set_option maxRecDepth 100000
open Go.RowKit Dk

/-- A row of one literal. -/
theorem lit_row (W : World) (l : Bs) : RowsAt ((litW W (l.map V8).toArray).alloc (.cells #[.slice (some ⟨W.heap.size, 0, none⟩) l.length l.length] 22)) (some ⟨(litW W (l.map V8).toArray).heap.size, 0, none⟩) 1 1 [l] (fun _ => True) := by
  refine ⟨rfl, Nat.le_refl _, fun h => (by cases h), fun ad had => ⟨_, 0, (Option.some.inj had).symm, by simp, trivial⟩, fun i p hp => ?_⟩
  have hi : i = 0 := by have := (List.getElem?_eq_some_iff.1 hp).1; simp at this; exact this
  subst hi
  obtain rfl := Option.some.inj hp
  exact ⟨_, 0, some ⟨W.heap.size, 0, none⟩, l.length, rfl, cell_block (blk1 _ _) rfl, (lit_txt W l l.length rfl).below (low1 _ _), fun _ _ => trivial⟩
set_option maxRecDepth 100000 in
set_option maxHeartbeats 4000000 in
theorem l6live_any {w : World} (hT : Tabs6 w) : Calls Tryz.prog 10 #[] w fun e w' => e = .returned (.bool true) ∧ RowKit.Below w.heap.size w w' := by
  have HT := Lib.hid hT
  have hc2 := fun (W : World) (cs : Array Value) => lit_conv W cs 2 2
  have hc1 := fun (W : World) (cs : Array Value) => lit_conv W cs 1 1
  clear hT
  go_enter Tryz.func10, Tryz.ntmps10
  go_wp2_with fail
  go_at_call 24
  refine (run_begun HT.out 1000 (by omega) (by omega)).mono ?_
  rintro e w1 ⟨g, dg, d1, rfl, hR1, hS1, ho1, hr1⟩
  have hL1 : newLog 1 [] [] 0 = ⟨1, [], [], 10, 0, false⟩ := by unfold newLog; rw [bytes_one]
  rw [hL1] at hR1
  obtain ⟨b1, hb1⟩ : ∃ b1, bytesW 1 [] [] = b1 := ⟨_, rfl⟩
  obtain ⟨s1, hs1⟩ : ∃ s1, sealW 2 1 [97, 98] = s1 := ⟨_, rfl⟩
  obtain ⟨s2, hs2⟩ : ∃ s2, sealW 2 2 [99, 100] = s2 := ⟨_, rfl⟩
  have l1 : b1.length = 10 := by rw [← hb1, bytes_one]
  have l2 : s1.length = 12 := by rw [← hs1, seal_len 2 1 (by omega)]; rfl
  have l3 : s2.length = 12 := by rw [← hs2, seal_len 2 2 (by omega)]; rfl
  rw [hb1, l1] at hS1
  obtain ⟨d2, e2, S2, o2, r2⟩ := append_solo (L := ⟨1, [], [], 10, 0, false⟩) hS1 l1.symm rfl (by omega) (p := [97, 98]) (by simp) (by show b1.length + (sealW 2 1 [97, 98]).length ≤ _; rw [hs1]; omega) (by show b1.length + b1.length + (sealW 2 1 [97, 98]).length + (sealW 2 1 [97, 98]).length ≤ _; rw [hs1]; omega)
  simp only [List.length_nil, Nat.zero_add, hs1, l1, l2, List.nil_append, Nat.reduceAdd] at e2 S2
  obtain ⟨d3, e3, S3, o3, r3⟩ := sync_solo (L := ⟨1, [], [[97, 98]], 22, 0, false⟩) S2 rfl (by omega)
  have l4 : (b1 ++ s1).length = 22 := by rw [List.length_append]; omega
  rw [l4] at S3
  obtain ⟨d4, e4, S4, o4, r4⟩ := append_solo (L := ⟨1, [], [[97, 98]], 22, 0, false⟩) S3 l4.symm rfl (by omega) (p := [99, 100]) (by simp) (by show (b1 ++ s1).length + (sealW 2 2 [99, 100]).length ≤ _; rw [hs2]; omega) (by show (b1 ++ s1).length + (b1 ++ s1).length + (sealW 2 2 [99, 100]).length + (sealW 2 2 [99, 100]).length ≤ _; rw [hs2]; omega)
  simp only [List.length_singleton, hs2, l4, l3, List.singleton_append, Nat.reduceAdd] at e4 S4
  have hlf : Dk.left d4 0 [3] = [(nameW 1, (b1 ++ s1) ++ s2.take 3)] := by
    rw [solo_left S4]
    simp only [List.length_singleton, Nat.zero_lt_one, dif_pos, List.length_append, l1, l2, l3]
    rw [show (22 + min (([3] : List Int)[0]).toNat (10 + 12 + 12 - 22)) = (b1 ++ s1).length + 3 by rw [l4]; rfl, List.take_append, List.take_of_length_le (by omega), show (b1 ++ s1).length + 3 - (b1 ++ s1).length = 3 by omega]
  have hgen : b1 ++ s1 = bytesW 1 [] [[97, 98]] := by rw [← hb1, ← hs1]; simp [bytesW, recsW]
  have htorn : Torn (s2.take 3) := by
    rw [← hs2]
    exact torn_take 2 _ 3 (by simp; omega) (by rw [List.length_append, groups_small (by omega)]; simp)
  have hread : readB ((b1 ++ s1) ++ s2.take 3) 1 = some ⟨[], [[97, 98]], 22, 3⟩ := by
    have := readB_bytes (n := 1) (s := []) (rs := [[97, 98]]) ⟨by omega, by simp, fun r hr => by rw [List.mem_singleton.1 hr]; simp, by simp⟩ htorn
    rw [← hgen, l4] at this
    rw [this, List.length_take, l3]
    rfl
  have HR1 := Lib.hid hR1
  have HE2 := Lib.hid e2
  have HE3 := Lib.hid e3
  have HE4 := Lib.hid e4
  have HLF := Lib.hid hlf
  have HRD := Lib.hid hread
  have HX5 := Lib.hid (show ((b1 ++ s1) ++ s2.take 3).length = 25 by rw [List.length_append, l4, List.length_take, l3]; rfl)
  obtain ⟨x5, hx5⟩ : ∃ x5, (b1 ++ s1) ++ s2.take 3 = x5 := ⟨_, rfl⟩
  rw [hx5] at HLF HRD HX5
  have hB2 : (bytesW 2 [] [[97, 98]]).length = 22 := by
    unfold bytesW
    rw [List.length_append, seal_len 1 2 (by omega)]
    show 10 + 0 + (sealW 2 1 [97, 98] ++ []).length = 22
    rw [List.append_nil, hs1, l2]
  have HB2 := Lib.hid hB2
  clear hL1 hb1 hs1 hs2 l1 l2 l3 hR1 hS1 ho1 hr1 e2 S2 o2 r2 e3 S3 o3 r3 l4 e4 S4 o4 r4 hlf hgen htorn hread hx5 hB2
  unfold ptrV
  go_wp2_with fail
  go_at_call 27
  refine (run_append HT.out HR1.out (lit_low _ _) (p := [97, 98]) (lit_txt w1 [97, 98] 2 rfl) (fun ad had => by rw [← Option.some.inj had]; exact Nat.le_refl _) (by simp) HE2.out).mono ?_
  rintro e w2 ⟨rfl, hR2⟩
  have HR2 := Lib.hid hR2
  clear hR2
  simp only [Int.natCast_zero]
  go_wp2_with (go_at_call 15; refine (l6num_any _ _).mono ?_; rintro e w9 ⟨rfl, rfl⟩)
  go_at_call 42
  refine (run_sync HT.out HR2.out HE3.out).mono ?_
  rintro e w3 ⟨rfl, hR3⟩
  have HR3 := Lib.hid hR3
  clear hR3
  simp only [Int.natCast_zero]
  go_wp2_with (go_at_call 15; refine (l6num_any _ _).mono ?_; rintro e w9 ⟨rfl, rfl⟩)
  go_at_call 27
  refine (run_append HT.out HR3.out (lit_low _ _) (p := [99, 100]) (lit_txt w3 [99, 100] 2 rfl) (fun ad had => by rw [← Option.some.inj had]; exact Nat.le_refl _) (by simp) HE4.out).mono ?_
  rintro e w4 ⟨rfl, hR4⟩
  have HR4 := Lib.hid hR4
  clear hR4
  simp only [Int.natCast_zero]
  go_wp2_with (go_at_call 15; refine (l6num_any _ _).mono ?_; rintro e w9 ⟨rfl, rfl⟩)
  have hin : IntsAt (w4.alloc (.cells #[.int .i64 3] 3)) (some ⟨w4.heap.size, 0, none⟩) ([3] : List Int).length 1 [3] := ⟨rfl, Nat.le_refl _, fun h => (by cases h), fun ad had => ⟨w4.heap.size, 0, (Option.some.inj had).symm, by simp⟩, fun i x hx => by
    have hi : i = 0 := by have := (List.getElem?_eq_some_iff.1 hx).1; simp at this; exact this
    subst hi
    obtain rfl := Option.some.inj hx
    exact ⟨w4.heap.size, 0, rfl, cell_block (blk1 w4 _) rfl, by omega, by omega⟩⟩
  have hle := Lib.hid (run_left (tc := 1) HR4.out.disk 0 ⟨by omega, by omega⟩ (low1 w4 (.cells #[.int .i64 3] 3)) hin.wide)
  clear hin
  rw [HLF.out] at hle
  simp only [List.length_singleton] at hle
  go_at_call 31
  unfold ptrV at hle
  refine hle.out.mono ?_
  rintro e w5 ⟨A5, C5, rfl, hF5, hb5⟩
  have HF5 := Lib.hid hF5
  have HB5 := Lib.hid (bthen (low1 w4 (.cells #[.int .i64 3] 3)) hb5)
  clear hF5 hb5 hle
  obtain ⟨d5, e5, S5, o5, r5⟩ := solo_new (n := 1) (by omega) (x := x5) (R := 1000) (by have := HX5.out; omega) (by have := HX5.out; omega)
  have hnw := Lib.hid (run_new (w := w) (l := [(nameW 1, x5)]) (bthen HR4.out.low HB5.out) HF5.out (R := ((1000 : Nat) : Int)) ⟨by omega, by omega⟩ (fun p hp => by rw [List.mem_singleton.1 hp]; show (nameW 1).length ≤ maxLen; have := nameW_len 1 (by omega); unfold maxLen; omega) (by simp) e5)
  have HS5 := Lib.hid (show _ ∧ d5.ops = 0 ∧ d5.room = 1000 from ⟨S5, o5, r5⟩)
  clear e5 S5 o5 r5
  simp only [List.length_singleton] at hnw
  go_wp2_with fail
  go_at_call 13
  refine hnw.out.mono ?_
  rintro e w6 ⟨dg2, rfl, hD6⟩
  have HD6 := Lib.hid hD6
  obtain ⟨d6, e6, S6, o6, r6⟩ := open_torn HS5.out.1 hD6.ok (by omega) (by omega) (by have := HS5.out.2.1; omega) (by omega) HRD.out (by rw [HB2.out]; omega) (by rw [HB2.out, HX5.out, HS5.out.2.2]; omega)
  rw [show newLog (1 + 1) [] [[97, 98]] 3 = ⟨2, [], [[97, 98]], 22, 3, false⟩ by unfold newLog; rw [HB2.out]] at e6
  have HE6 := Lib.hid e6
  have HS6 := Lib.hid (show Solo d6 2 (bytesW 2 [] [[97, 98]]) 22 d5.files.length ∧ d6.ops = 7 ∧ d6.room = 1000 from ⟨by rw [HB2.out] at S6; exact S6, by have := HS5.out.2.1; omega, by rw [r6]; exact HS5.out.2.2⟩)
  clear hD6 e6 S6 o6 r6 hnw
  unfold ptrV
  go_wp2_with (go_at_call 15; refine (l6num_any _ _).mono ?_; rintro e w9 ⟨rfl, rfl⟩)
  go_at_call 16
  have hop := run_open HT.out HD6.out HE6.out
  unfold ptrV at hop
  refine hop.mono ?_
  clear hop
  rintro e w7 ⟨g2, rfl, hR7⟩
  have HR7 := Lib.hid hR7
  clear hR7
  go_wp2_with (go_at_call 15; refine (l6num_any _ _).mono ?_; rintro e w9 ⟨rfl, rfl⟩)
  go_at_call 21
  have hrc := run_records HR7.out
  unfold ptrV at hrc
  simp only [List.length_singleton] at hrc
  refine hrc.mono ?_
  clear hrc
  rintro e w8 ⟨A8, C8, rfl, ⟨bk8, q8, hs8⟩, hb8⟩
  have HRW := Lib.hid hs8.rows
  have HB8 := Lib.hid hb8
  clear hs8 hb8
  simp only [List.length_singleton] at HRW
  go_wp2_with fail
  go_at_call 20
  have hbl := bthen (lit_low w8 #[.int .u8 97, .int .u8 98]) (low1 (litW w8 #[.int .u8 97, .int .u8 98]) (.cells #[.slice (some ⟨w8.heap.size, 0, none⟩) 2 2] 22))
  have hli := l6lists_any [[97, 98]] [[97, 98]] A8 (some ⟨(litW w8 #[.int .u8 97, .int .u8 98]).heap.size, 0, none⟩) C8 1 _ _ _ (HRW.out.below hbl) (lit_row w8 [97, 98]) (by simp)
  simp only [List.length_singleton] at hli
  refine hli.mono ?_
  clear hli
  rintro e w9 ⟨rfl, hb9⟩
  have HB9 := Lib.hid (bthen HB8.out (bthen hbl hb9))
  have HR9 := Lib.hid (HR7.out.below HB9.out)
  clear hbl hb9
  rw [show (([[97, 98]] : List Bs) == [[97, 98]]) = true by simp]
  have hcu := run_cut HR9.out
  have hep := run_epoch HR9.out
  unfold ptrV at hcu hep
  have HCU := Lib.hid hcu
  have HEP := Lib.hid hep
  clear hcu hep
  go_wp2_with (first | (go_at_call 17; refine HCU.out.mono ?_; rintro e w99 ⟨rfl, rfl⟩) | (go_at_call 23; refine HEP.out.mono ?_; rintro e w99 ⟨rfl, rfl⟩))
  have hB3 : (bytesW 3 [83] []).length = 11 := by rw [gen_len 3 (by omega)]; rfl
  obtain ⟨d7, e7, S7, o7, r7⟩ := snap_solo (L := ⟨2, [], [[97, 98]], 22, 3, false⟩) HS6.out.1 HR9.out.ok HB2.out.symm rfl (by show 2 < _; omega) (by have := HS6.out.2.1; omega) (p := [83]) (by simp) (by show (bytesW 3 [83] []).length ≤ _; omega) (by show (bytesW 2 [] [[97, 98]]).length + (bytesW 3 [83] []).length ≤ _; rw [HB2.out, hB3, HS6.out.2.2]; omega) (by show (bytesW 3 [83] []).length + (bytesW 3 [83] []).length ≤ _; rw [hB3, HS6.out.2.2]; omega)
  obtain ⟨b3, hb3⟩ : ∃ b3, bytesW 3 [83] [] = b3 := ⟨_, rfl⟩
  have e7' : snapW d6 ⟨2, [], [[97, 98]], 22, 3, false⟩ [83] = ((d7, ⟨3, [83], [], 11, 3, false⟩), 0) := by
    rw [e7]
    show ((d7, LogS.mk 3 [83] [] (bytesW 3 [83] []).length 3 false), 0) = _
    rw [hB3]
  have HE7 := Lib.hid e7'
  have S7' : Solo d7 3 b3 b3.length d6.files.length := by rw [← hb3]; exact S7
  have HB3 := Lib.hid (show b3.length = 11 by rw [← hb3]; exact hB3)
  have hrd3 : readB b3 3 = some ⟨[83], [], 11, 0⟩ := by
    have := readB_bytes (n := 3) (s := [83]) (rs := []) ⟨by omega, by simp, (fun r hr => by cases hr), by simp⟩ (tail := []) (.inl rfl)
    rw [List.append_nil, hb3, HB3.out] at this
    exact this
  have HRD3 := Lib.hid hrd3
  have HLF7 : Hid (Dk.left d7 0 [] = [(nameW 3, b3)]) := Lib.hid (by
    rw [solo_left S7']
    simp)
  have HO7 := Lib.hid (show d7.ops = 14 ∧ d7.room = 1000 from ⟨by have := HS6.out.2.1; omega, by rw [r7]; exact HS6.out.2.2⟩)
  clear hB3 e7 S7 o7 r7 hb3 e7' S7' hrd3 HCU HEP
  go_at_call 25
  have hsn := run_snap HT.out HR9.out (lit_low w9 #[.int .u8 83]) (p := [83]) (lit_txt w9 [83] 1 rfl) (fun ad had => by rw [← Option.some.inj had]; exact Nat.le_refl _) (by simp) (fun _ => by
    rw [HS6.out.1.fr, HS6.out.2.2]
    show 1000 - _ + 22 ≤ _
    omega) HE7.out
  refine hsn.mono ?_
  clear hsn
  rintro e w10 ⟨rfl, hR10⟩
  have HR10 := Lib.hid hR10
  clear hR10
  simp only [Int.natCast_zero]
  have hne : ∀ W : World, (binOp .neq 9 (.string ⟨([83] : Bs).toArray⟩) (.string ⟨#[83]⟩)).run Tryz.prog W = .ok (.bool false) W := fun W => by kernel_rfl
  have heq : ∀ W : World, (binOp .eql 9 (.string ⟨([83] : Bs).toArray⟩) (.string ⟨#[83]⟩)).run Tryz.prog W = .ok (.bool true) W := fun W => by kernel_rfl
  have hst := run_state HR10.out
  unfold ptrV at hst
  have HST := Lib.hid hst
  clear hst
  go_wp2_with (first | (go_at_call 15; refine (l6num_any _ _).mono ?_; rintro e w99 ⟨rfl, rfl⟩) | (go_at_call 19; refine HST.out.mono ?_; rintro e w11 ⟨k11, C11, ⟨rfl, hown, hnew, hlow⟩⟩; have htx := text_of (W := w11) (l := [83]) (a := some ⟨k11, 0, none⟩) (m := 1) (c := C11) rfl hown.txt.src; have HR11 := Lib.hid (HR10.out.below hlow); clear hown hnew hlow))
  have hct := run_count HR11.out
  unfold ptrV at hct
  go_at_call 46
  refine hct.mono ?_
  clear hct HST htx
  rintro e w99 ⟨rfl, rfl⟩
  simp only [List.length_nil, Int.natCast_zero]
  have hdu := run_durable HR11.out.disk
  rw [HLF7.out] at hdu
  unfold ptrV at hdu
  simp only [List.length_singleton] at hdu
  have HDU := Lib.hid hdu
  clear hdu
  go_wp2_with fail
  go_at_call 22
  refine HDU.out.mono ?_
  rintro e w12 ⟨A12, C12, rfl, hF12, hb12⟩
  have HF12 := Lib.hid hF12
  have HB12 := Lib.hid hb12
  clear hF12 hb12 HDU
  obtain ⟨d13, e13, S13, o13, r13⟩ := solo_new (n := 3) (by omega) (x := b3) (R := 1000) (by have := HB3.out; omega) (by have := HB3.out; omega)
  have hnw := Lib.hid (run_new (w := w) (l := [(nameW 3, b3)]) (bthen HR11.out.low HB12.out) HF12.out (R := ((1000 : Nat) : Int)) ⟨by omega, by omega⟩ (fun p hp => by rw [List.mem_singleton.1 hp]; show (nameW 3).length ≤ maxLen; have := nameW_len 3 (by omega); unfold maxLen; omega) (by simp) e13)
  obtain ⟨d14, e14, _, _, _⟩ := open_whole S13 (by omega) (by omega) (by omega) HRD3.out
  have HE14 := Lib.hid e14
  clear e13 S13 o13 r13 e14
  simp only [List.length_singleton] at hnw
  go_wp2_with fail
  go_at_call 13
  refine hnw.out.mono ?_
  rintro e w13 ⟨dg3, rfl, hD13⟩
  have HD13 := Lib.hid hD13
  clear hD13 hnw
  unfold ptrV
  go_wp2_with (go_at_call 15; refine (l6num_any _ _).mono ?_; rintro e w99 ⟨rfl, rfl⟩)
  go_at_call 16
  have hop := run_open HT.out HD13.out HE14.out
  unfold ptrV at hop
  refine hop.mono ?_
  clear hop
  rintro e w14 ⟨g3, rfl, hR14⟩
  have hst2 := run_state hR14
  unfold ptrV at hst2
  have HR14 := Lib.hid hR14
  have HST2 := Lib.hid hst2
  clear hR14 hst2
  go_wp2_with (first | (go_at_call 15; refine (l6num_any _ _).mono ?_; rintro e w99 ⟨rfl, rfl⟩) | (go_at_call 19; refine HST2.out.mono ?_; rintro e w15 ⟨k15, C15, ⟨rfl, hown, hnew, hlow⟩⟩; have htx := text_of (W := w15) (l := [83]) (a := some ⟨k15, 0, none⟩) (m := 1) (c := C15) rfl hown.txt.src; have HR15 := Lib.hid (HR14.out.below hlow); clear hown hnew hlow))
  have hep := run_epoch HR15.out
  unfold ptrV at hep
  go_at_call 23
  refine hep.mono ?_
  clear hep
  rintro e w99 ⟨rfl, rfl⟩
  go_wp2_with fail
  go_ret
  exact ⟨rfl, HR15.out.low⟩
end Go.Proofs.YtgpenpnobjecgaaGreatDoor
