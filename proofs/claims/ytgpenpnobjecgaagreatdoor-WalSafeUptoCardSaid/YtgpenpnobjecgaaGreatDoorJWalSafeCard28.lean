/- wal.Open. -/
import Derived.Deep.CutRange
import Derived.Test.YtgpenpnobjecgaaGreatDoorJWalSafeCard27
/- WOpen -/
namespace Go.Proofs.YtgpenpnobjecgaaGreatDoor
set_option maxRecDepth 100000
open Go.RowKit Dk

section
variable {w0 w : World} {dg : Nat} {d : DiskS} {recs : List Nat} {own : Nat → Option DTag}
set_option maxRecDepth 100000 in
theorem open_nil (w : World) : Calls Tryz.prog 16 #[.pointer none] w fun e w' => e = .returned (.tuple #[.pointer none, .int .i64 2]) ∧ RowKit.Below w.heap.size w w' := by
  go_enter_defers Tryz.func16, Tryz.ntmps16
  go_wp2
  have hl : ((w.alloc (.cells #[.pointer none] 38)).alloc (.cells #[.int .i64 2] 30)).heap[w.heap.size]? = some (.cells #[.pointer none] 38 (0, 0)) := bblk (low1 _ _) (blk1 w _)
  have he : ((w.alloc (.cells #[.pointer none] 38)).alloc (.cells #[.int .i64 2] 30)).heap[w.heap.size + 1]? = some (.cells #[.int .i64 2] 30 (0, 0)) := by simpa using blk1 (w.alloc (.cells #[.pointer none] 38)) (.cells #[.int .i64 2] 30)
  exact ⟨_, results_open rfl rfl hl he, rfl, bthen (low1 _ _) (low1 _ _)⟩
set_option maxRecDepth 100000 in
set_option maxHeartbeats 2000000 in
theorem wopen_any (hd : DAt w dg d recs own) (hO : Ok d) (hH : Home w0 w (foot own)) : Calls Tryz.prog 16 #[ptrV dg] w (OpenPost w dg own (openW d)) := by
  have HD := Lib.hid hd
  have HO := Lib.hid hO
  have HH := Lib.hid hH
  have hlow := low2 w (.cells #[.pointer none] 38) (.cells #[.int .i64 0] 30)
  have hdd := dead_any (hd.below hlow)
  obtain ⟨lb, hlb⟩ : ∃ lb, lb = w.heap.size := ⟨_, rfl⟩
  obtain ⟨eb, heb⟩ : ∃ eb, eb = w.heap.size + 1 := ⟨_, rfl⟩
  have hmf : ∀ (fn : Fn) (first cap : Array Value) (w : World), (Instr.makeFunc fn first cap).run Tryz.prog w = .ok (.func fn first cap) w := fun _ _ _ _ => rfl
  by_cases hdead : d.dead = true
  · have hr := Lib.hid (show openW d = (d, none, 2) by unfold openW; rw [if_pos hdead])
    rw [hdead] at hdd
    have HDD := Lib.hid hdd
    clear hd hO hH hdead hdd
    unfold ptrV at *
    go_enter_defers Tryz.func16, Tryz.ntmps16
    go_wp2_with fail
    go_at_call 38
    refine HDD.out.mono ?_
    rintro e w1 ⟨rfl, hw1⟩
    have hl1 : w1.heap[w.heap.size]? = some (.cells #[.pointer none] 38 (0, 0)) := by rw [← hw1]; exact bblk (low1 _ _) (blk1 w _)
    have he1 : w1.heap[w.heap.size + 1]? = some (.cells #[.int .i64 0] 30 (0, 0)) := by rw [← hw1]; simpa using blk1 (w.alloc (.cells #[.pointer none] 38)) (.cells #[.int .i64 0] 30)
    have H1 : Hid (RowKit.Below w.heap.size w w1) := Lib.hid (by rw [← hw1]; exact hlow)
    have cl : w1.cell? ⟨w.heap.size, 0, none⟩ = some (.pointer none) := cell_block hl1 rfl
    have ce : w1.cell? ⟨w.heap.size + 1, 0, none⟩ = some (.int .i64 0) := cell_block he1 rfl
    have fl := frozen_row hl1
    have fe := frozen_row he1
    have ll := in_heap hl1
    have le := in_heap he1
    have HL1 := Lib.hid hl1
    have HE1 := Lib.hid he1
    clear hw1 hlow hl1 he1 HDD hlb heb lb eb
    go_wp2_with fail
    have hk : Kept (fun b => b = w.heap.size ∨ b = w.heap.size + 1) w1 ((w1.setCell ⟨w.heap.size, 0, none⟩ (.pointer none)).setCell ⟨w.heap.size + 1, 0, none⟩ (.int .i64 2)) := ((Kept.refl _ w1).setCell _ _ (.inl (.inl rfl))).setCell _ _ (.inl (.inr rfl))
    have hl2 : (w1.setCell ⟨w.heap.size, 0, none⟩ (.pointer none)).heap[w.heap.size]? = some (.cells #[.pointer none] 38 (0, 0)) := by rw [setCell_one HL1.out]; rfl
    have he2 : (w1.setCell ⟨w.heap.size, 0, none⟩ (.pointer none)).heap[w.heap.size + 1]? = some (.cells #[.int .i64 0] 30 (0, 0)) := ((Kept.refl (· = w.heap.size) w1).setCell ⟨w.heap.size, 0, none⟩ _ (.inl rfl)).blk HE1.out (by omega)
    have hl3 : ((w1.setCell ⟨w.heap.size, 0, none⟩ (.pointer none)).setCell ⟨w.heap.size + 1, 0, none⟩ (.int .i64 2)).heap[w.heap.size]? = some (.cells #[.pointer none] 38 (0, 0)) := ((Kept.refl (· = w.heap.size + 1) _).setCell ⟨w.heap.size + 1, 0, none⟩ _ (.inl rfl)).blk hl2 (by omega)
    have he3 : ((w1.setCell ⟨w.heap.size, 0, none⟩ (.pointer none)).setCell ⟨w.heap.size + 1, 0, none⟩ (.int .i64 2)).heap[w.heap.size + 1]? = some (.cells #[.int .i64 2] 30 (0, 0)) := by rw [setCell_one he2]; rfl
    have hb : RowKit.Below w.heap.size w ((w1.setCell ⟨w.heap.size, 0, none⟩ (.pointer none)).setCell ⟨w.heap.size + 1, 0, none⟩ (.int .i64 2)) := ((Kept.of_below (F := fun b => b = w.heap.size ∨ b = w.heap.size + 1) H1.out).then hk).below fun b hlt e => by omega
    refine ⟨_, results_open rfl rfl hl3 he3, ?_⟩
    rw [hr.out]
    exact ⟨HO.out, recs, own, HD.out.below hb, .below hb, rfl⟩
  · have hdf : d.dead = false := by simpa using hdead
    have Hr := Lib.hid (show openW d = if (tempGone d).2 = 0 then openBody (tempGone d).1 else ((tempGone d).1, none, (tempGone d).2) by unfold openW; rw [if_neg hdead])
    rw [hdf] at hdd
    have HDD := Lib.hid hdd
    clear hd hO hH hdead hdd hdf
    unfold ptrV at *
    go_enter_defers Tryz.func16, Tryz.ntmps16
    go_wp2_with fail
    go_at_call 38
    refine HDD.out.mono ?_
    rintro e w1 ⟨rfl, hw1⟩
    have hl1 : w1.heap[w.heap.size]? = some (.cells #[.pointer none] 38 (0, 0)) := by rw [← hw1]; exact bblk (low1 _ _) (blk1 w _)
    have he1 : w1.heap[w.heap.size + 1]? = some (.cells #[.int .i64 0] 30 (0, 0)) := by rw [← hw1]; simpa using blk1 (w.alloc (.cells #[.pointer none] 38)) (.cells #[.int .i64 0] 30)
    have h1 : RowKit.Below w.heap.size w w1 := by rw [← hw1]; exact hlow
    have hnf : ∀ b, w.heap.size ≤ b → ¬ foot own b := fun b hb hf => by have := HD.out.lt b hf; omega
    have D1 : OD w w1 dg w.heap.size (w.heap.size + 1) (.pointer none) d own own := ⟨⟨recs, HD.out.below h1⟩, HO.out, .below h1, hl1, he1, ⟨Nat.le_refl _, hnf _ (Nat.le_refl _)⟩, ⟨Nat.le_succ _, hnf _ (Nat.le_succ _)⟩, by omega⟩
    rw [← heb, ← hlb] at D1 ⊢
    have HD1 := Lib.hid D1
    have HLB := Lib.hid (show lb = w.heap.size ∧ eb = w.heap.size + 1 from ⟨hlb, heb⟩)
    have cl : w1.cell? ⟨lb, 0, none⟩ = some (.pointer none) := cell_block D1.lrow rfl
    have fl := frozen_row D1.lrow
    have ll := in_heap D1.lrow
    clear hw1 hlow hl1 he1 HDD hlb heb h1 hnf D1
    go_upto_region 6 with (fail)
    obtain ⟨g, hg⟩ : ∃ g, g = w1.heap.size := ⟨_, rfl⟩
    obtain ⟨w2, hw2⟩ : ∃ w2, w2 = (w1.setCell ⟨lb, 0, none⟩ (.pointer (some ⟨w1.heap.size, 0, none⟩))).alloc (.cells #[.pointer (some ⟨dg, 0, none⟩), .int .i64 0, .slice none 0 0, .slice none 0 0, .int .i64 0, .int .i64 0, .bool false] 114) := ⟨_, rfl⟩
    have hsz1 : (w1.setCell ⟨lb, 0, none⟩ (.pointer (some ⟨w1.heap.size, 0, none⟩))).heap.size = w1.heap.size := by simp [World.setCell]
    have hS2 : OS w w2 dg lb eb g d own own ⟨0, [], [], 0, 0, false⟩ (· = g) := by
      have D1 := HD1.out
      obtain ⟨recs1, hd1⟩ := D1.dat
      have hk : Kept (· = lb) w1 w2 := by rw [hw2]; exact ((Kept.refl (· = lb) w1).setCell _ _ (.inl rfl)).alloc _
      have h1 := in_heap D1.lrow
      have h2 := in_heap D1.erow
      have hs := D1.turned.kept.size
      have hrow : w2.heap[g]? = some (.cells (logRow dg ⟨0, [], [], 0, 0, false⟩ none 0 none 0) 114 (0, 0)) := by
        have h := blk1 (w1.setCell ⟨lb, 0, none⟩ (.pointer (some ⟨w1.heap.size, 0, none⟩))) (.cells #[.pointer (some ⟨dg, 0, none⟩), .int .i64 0, .slice none 0 0, .slice none 0 0, .int .i64 0, .int .i64 0, .bool false] 114)
        rw [hsz1] at h
        rw [hw2, hg]
        exact h
      have hl2 : w2.heap[lb]? = some (.cells #[ptrV g] 38 (0, 0)) := by
        rw [hw2, hg]
        exact bblk (low1 _ _) (by rw [setCell_one D1.lrow]; rfl)
      refine ⟨⟨⟨recs1, hd1.kept hk fun b hb e => D1.lnew.2 (e ▸ hb)⟩, D1.ok, ⟨D1.turned.kept.trans hk fun b e => .inr (e ▸ D1.lnew.1), fun _ _ => id⟩, hl2, hk.blk D1.erow (fun e => D1.ne e.symm), D1.lnew, D1.enew, D1.ne⟩, ⟨none, 0, none, 0, none, [], ⟨hrow, ⟨rfl, ⟨fun h => absurd h (by simp)⟩, Nat.le_refl _, fun _ => rfl, fun ad h => by cases h⟩, (fun ad h => by cases h), Bunch.nil _ _ _ _, rfl, (fun b h => by cases h), (fun _ => rfl), (fun q h => by cases h), rfl, (fun b e => ?_), (fun ad h => by cases h)⟩⟩, fun b e => ?_⟩
      · rw [e]; exact in_heap hrow
      · subst e
        exact ⟨by omega, by omega, by omega, fun hf => by have := hd1.lt _ hf; omega⟩
    rw [← hg] at hw2
    rw [← hg, ← hw2]
    have HS2 := Lib.hid hS2
    clear hS2 hw2 hsz1 cl fl ll HD1 hg
    obtain ⟨recs2, hd2⟩ := HS2.out.od.dat
    have HRD := Lib.hid (read_any hd2 HS2.out.od.ok tempW (by decide))
    have HD2 := Lib.hid hd2
    obtain ⟨x, q, hx⟩ : ∃ x q, Dk.read d tempW = (x, q) := ⟨_, _, rfl⟩
    have HTG := Lib.hid (show tempGone d = if q = 0 then Dk.remove d tempW else (d, 0) by unfold tempGone; rw [hx])
    rw [hx] at HRD
    clear hd2 hx
    unfold ptrV at HRD
    go_wp2_with fail
    go_at_call 56
    refine HRD.out.mono ?_
    rintro e w3 ⟨B3, C3, b3, rfl, h1, h2, h3⟩
    have HS3 := Lib.hid (HS2.out.below h3)
    clear h1 h2 h3 HRD
    go_upto_if 29 with (fail)
    go_cut [] from 4 (fun wx => Hid (∃ own', (tempGone d).2 = 0 ∧ OS w wx dg lb eb g (tempGone d).1 own own' ⟨0, [], [], 0, 0, false⟩ (· = g)))
    case first =>
      by_cases hq : q = 0
      · subst hq
        have htg := HTG.out
        rw [if_pos rfl] at htg
        obtain ⟨recs3, hd3⟩ := HS3.out.od.dat
        have HRM := Lib.hid (remove_any hd3 HS3.out.od.ok tempW (by decide))
        rw [← htg] at HRM
        clear hd3 htg
        simp only [Int.natCast_zero]
        unfold ptrV at HRM
        go_wp2_with fail
        go_at_call 58
        refine HRM.out.mono ?_
        rintro e w4 ⟨rfl, hO, recs4, own4, hd, ht⟩
        have HS4 := Lib.hid (HS3.out.disk hd hO ht)
        clear hd ht hO HRM HTG
        obtain ⟨d4, q4, htg⟩ : ∃ d4 q4, tempGone d = (d4, q4) := ⟨_, _, rfl⟩
        rw [htg] at HS4 Hr ⊢
        simp only [] at HS4 Hr ⊢
        have HTG := Lib.hid htg
        clear htg
        by_cases hq : q4 ≠ 0
        · have hr := Hr.out
          rw [if_neg hq] at hr
          have HRR := Lib.hid hr
          clear hr
          go_wp2_with (go_at_call 57; refine (must_stops q4 hq w4).mono ?_; rintro e w9 ⟨rfl, hw9⟩)
          subst hw9
          refine OD.stop HS4.out.od hq HRR.out ?_ ?_ <;> rfl
        · obtain rfl : q4 = 0 := by omega
          clear hq
          simp only [Int.natCast_zero]
          go_wp2_with (go_at_call 57; refine (must_ok w4).mono ?_; rintro e w9 ⟨rfl, hw9⟩; subst hw9)
          go_meet
          exact Lib.hid ⟨own4, by rw [HTG.out], by rw [HTG.out]; exact HS4.out⟩
      · have hq' : ¬ (q : Int) = 0 := by omega
        have htg := HTG.out
        rw [if_neg hq] at htg
        have HT2 := Lib.hid htg
        clear htg HTG hq
        go_wp2_with fail
        go_meet
        rw [HT2.out]
        exact Lib.hid ⟨own, rfl, HS3.out⟩
    case rest =>
      obtain ⟨own4, htg, hS⟩ := hcut.out
      have hr := Hr.out
      rw [if_pos htg] at hr
      generalize (tempGone d).1 = d4 at hS hr
      have HR := Lib.hid hr
      have HS := Lib.hid hS
      clear hcut htg hr hS Hr HS2 HD HO
      have hlist : (Dk.list d4).length ≤ 64 ∧ ∀ s ∈ Dk.list d4, s.length ≤ 32 := by
        have hO := HS.out.od.ok
        unfold Dk.list
        split
        · exact ⟨by simp, fun s hs => by cases hs⟩
        · refine ⟨by rw [List.length_map]; exact hO.ndir, fun s hs => ?_⟩
          obtain ⟨p, hp, rfl⟩ := List.mem_map.1 hs
          exact (named_len (hO.dirF p hp).2).2
      obtain ⟨recs4, hd4⟩ := HS.out.od.dat
      have hge := Lib.hid (wgens_any hd4 HS.out.od.ok (HS.out.od.home HH.out) (by omega) hlist.2)
      have HLI := Lib.hid hlist
      obtain ⟨all, hall⟩ : ∃ all, all = gensW (Dk.list d4) := ⟨_, rfl⟩
      rw [← hall] at hge
      have HALL := Lib.hid hall
      clear hd4 hlist hall
      unfold ptrV at hge
      go_wp2_with fail
      go_at_call 59
      refine hge.out.mono ?_
      rintro e w5 ⟨B5, C5, rfl, h1, h2, h3⟩
      have HI5 := Lib.hid h1
      have HB5 := Lib.hid h2
      have HS5 := Lib.hid (HS.out.below h3)
      have HNB : Hid (∀ ad, B5 = some ad → ¬ foot own4 ad.block ∧ ad.block ≠ g ∧ ad.block ≠ lb ∧ ad.block ≠ eb) := Lib.hid fun ad had => by
        have h4 := h2 ad had
        obtain ⟨recs9, hd9⟩ := HS.out.od.dat
        have h5 := in_heap HS.out.od.lrow
        have h6 := in_heap HS.out.od.erow
        obtain ⟨_, _, _, _, _, _, M⟩ := HS.out.log
        have h7 := in_heap M.row
        exact ⟨fun hf => by have := hd9.lt _ hf; omega, by omega, by omega, by omega⟩
      clear h1 h2 h3 hge HS
      simp only [List.length_map] at HI5 ⊢
      cases hal : all.getLast? with
      | none =>
        have hnil : all = [] := by
          cases all with
          | nil => rfl
          | cons x l => simp [List.getLast?_cons] at hal
        obtain ⟨b, hb⟩ : ∃ b, bytesW 1 [] [] = b := ⟨_, rfl⟩
        have hr := HR.out
        rw [show openBody d4 = closeW (make1W d4 1 b) [] (newLog 1 [] [] 0) by
          unfold openBody
          rw [← HALL.out, hal, hb], closeW_nil] at hr
        have HRR := Lib.hid hr
        have hbl : b.length ≤ 29 := by
          rw [← hb]
          unfold bytesW
          rw [List.length_append, sealW_len]
          have := groups_len 1 (by omega)
          simp [recsW]
          omega
        have hb0 : b.length ≠ 0 := by rw [← hb]; unfold bytesW; rw [List.length_append, sealW_len]; omega
        have HBL := Lib.hid hbl
        have HNL : Hid (newLog 1 [] [] 0 = ⟨1, [], [], b.length, 0, false⟩) := Lib.hid (by unfold newLog; rw [hb])
        have hTn : Txt w5 none 0 0 ([] : Bs) := ⟨rfl, ⟨fun h => absurd h (by simp)⟩, Nat.le_refl _, fun _ => rfl, fun ad h => by cases h⟩
        have hwb := Lib.hid (wbytes_any 1 [] [] none 0 none 0 w5 (fun _ => False) hTn (RowsAt.none _ _) (by omega) (by simp) (fun r h => by cases h) (by simp) (HS5.out.od.home HH.out).tab.sums)
        rw [hb] at hwb
        subst hnil
        clear hr hb hTn hal HR
        simp only [List.length_nil, Int.natCast_one] at hwb ⊢
        go_wp2_with fail
        go_at_call 60
        refine hwb.out.mono ?_
        rintro e w6 ⟨B6, C6, b6, rfl, F6⟩
        have HF6 := Lib.hid F6
        have HS6 := Lib.hid (HS5.out.below F6.low)
        obtain ⟨recs6, hd6⟩ := HS6.out.od.dat
        have hmk := Lib.hid (wmake_any hd6 HS6.out.od.ok (HS6.out.od.home HH.out) 1 (by omega) b B6 C6 F6.txt (by omega) (fun ad had hf => by
          rcases F6.own.form with ⟨_, h0, _⟩ | ⟨k, _, h1, h2, _⟩
          · exact hb0 h0
          · rw [h1] at had
            have h3 := F6.fresh k h2
            rw [← Option.some.inj had] at hf
            obtain ⟨recs5, hd5⟩ := HS5.out.od.dat
            have h4 : k < w5.heap.size := hd5.lt k hf
            omega))
        simp only [Int.natCast_one] at hmk
        unfold ptrV at hmk
        clear F6 hwb hb0 hd6 HS5
        go_wp2_with fail
        go_at_call 61
        refine hmk.out.mono ?_
        intro e w7 h
        obtain ⟨he, hO7, recs7, own7, hd7, ht7⟩ := h
        have HS7 := Lib.hid (HS6.out.disk hd7 hO7 ht7)
        clear hmk hO7 hd7 ht7
        generalize make1W d4 1 b = r at he HS7 HRR
        obtain ⟨d7, q7⟩ := r
        simp only [] at he HS7 HRR
        by_cases hq : q7 = 0
        · subst hq
          rw [if_pos rfl] at he
          have hr := HRR.out
          rw [if_pos rfl] at hr
          have HR2 := Lib.hid hr
          subst he
          obtain ⟨sA, sC, rA, rC, rblk, qs, M7⟩ := HS7.out.log
          have HM7 := Lib.hid M7
          have cl : w7.cell? ⟨lb, 0, none⟩ = some (.pointer (some ⟨g, 0, none⟩)) := cell_block HS7.out.od.lrow rfl
          have ce : w7.cell? ⟨eb, 0, none⟩ = some (.int .i64 0) := cell_block HS7.out.od.erow rfl
          have c1 : w7.cell? ⟨g, 1, none⟩ = some (.int .i64 0) := cell_block M7.row rfl
          have c4 : w7.cell? ⟨g, 4, none⟩ = some (.int .i64 0) := cell_block M7.row rfl
          have fg := frozen_row M7.row
          have fl := frozen_row HS7.out.od.lrow
          have fe := frozen_row HS7.out.od.erow
          have gg := in_heap M7.row
          have gl := in_heap HS7.out.od.lrow
          have ge := in_heap HS7.out.od.erow
          have hap := HS7.out.apart g M7.me
          have n1 : ¬ lb = g := fun e => hap.2.1 e.symm
          have n2 : ¬ eb = g := fun e => hap.2.2.1 e.symm
          have n3 : ¬ g = lb := hap.2.1
          have n4 : ¬ g = eb := hap.2.2.1
          have n5 : ¬ lb = eb := HS7.out.od.ne
          have n6 : ¬ eb = lb := fun e => HS7.out.od.ne e.symm
          clear hr M7 hap
          go_wp2_with fail
          have hk1 : Kept (· = g) w7 (w7.setCell ⟨g, 1, none⟩ (.int .i64 1)) := (Kept.refl (· = g) w7).setCell _ _ (.inl rfl)
          have M8 := HM7.out.rerow hk1 (fun b _ hn => hn) ⟨1, [], [], 0, 0, false⟩ rfl rfl (by rw [setCell_one HM7.out.row]; rfl)
          have S8 := HS7.out.row HM7.out hk1 ⟨1, [], [], 0, 0, false⟩ rfl rfl M8.row
          have hk2 : Kept (· = g) (w7.setCell ⟨g, 1, none⟩ (.int .i64 1)) ((w7.setCell ⟨g, 1, none⟩ (.int .i64 1)).setCell ⟨g, 4, none⟩ (.int .i64 b.length)) := (Kept.refl (· = g) _).setCell _ _ (.inl rfl)
          have S9 := S8.row M8 hk2 ⟨1, [], [], b.length, 0, false⟩ rfl rfl (by rw [setCell_one M8.row]; rfl)
          refine OS.done S9.touch ⟨⟨Nat.le_refl _, by show 1 ≤ 1099511627776; omega⟩, Nat.zero_le _, fun r hr => (by cases hr), Nat.zero_le _, by have := HBL.out; show b.length ≤ 4194304; omega, Nat.zero_le _⟩ (by rw [HR2.out, HNL.out]) ?_ ?_ <;> rfl
        · rw [if_neg hq] at he
          have hr := HRR.out
          rw [if_neg hq] at hr
          have HR2 := Lib.hid hr
          subst he
          clear hr
          unfold stopped
          go_wp2_with fail
          refine OD.stop HS7.out.od hq HR2.out ?_ ?_ <;> rfl
      | some m =>
        have hne : all ≠ [] := fun e => by rw [e] at hal; cases hal
        obtain ⟨n, hn⟩ : ∃ n, all.length = n + 1 := ⟨all.length - 1, by have := List.length_pos_iff.2 hne; omega⟩
        have hlast : all[n]? = some m := by rw [List.getLast?_eq_getElem?, hn] at hal; exact hal
        have hm : 1 ≤ m ∧ m ≤ 1099511627776 := by
          have h1 : m ∈ gensW (Dk.list d4) := by rw [← HALL.out]; exact List.mem_of_getElem? hlast
          unfold gensW at h1
          obtain ⟨s, _, hs⟩ := List.mem_filterMap.1 (List.mem_mergeSort.1 h1)
          unfold genOf at hs
          split at hs
          · split at hs
            · split at hs
              · next h => injection hs with hs; omega
              · cases hs
            · cases hs
          · cases hs
        have hr := HR.out
        rw [show openBody d4 = openOf d4 all m by unfold openBody; rw [← HALL.out, hal]] at hr
        have HRR := Lib.hid hr
        have hI := HI5.out
        rw [hn] at hI
        have hlen : n ≤ 63 := by
          have h1 := (List.length_filterMap_le genOf (Dk.list d4))
          have h2 : all.length = ((Dk.list d4).filterMap genOf).length := by rw [HALL.out]; unfold gensW; rw [List.length_mergeSort]
          have := HLI.out.1
          omega
        obtain ⟨bb, bo, rfl, cm, _⟩ := hI.each n (m : Int) (by rw [List.getElem?_map, hlast]; rfl)
        have cl : w5.cell? ⟨lb, 0, none⟩ = some (.pointer (some ⟨g, 0, none⟩)) := cell_block HS5.out.od.lrow rfl
        have HI := Lib.hid hI
        have HAL := Lib.hid hal
        have HN := Lib.hid hn
        have HM := Lib.hid hm
        rw [hn]
        clear hr hI hal hn hlast hne HR HI5
        have hn63 : (n : Int) ≤ 63 := by omega
        have hne0 : ¬ (n : Int) + 1 = 0 := by omega
        clear hlen hm
        go_upto_region 17 with (fail)
        have h5d : RowKit.Below w5.heap.size w5 w5.drew := (Below.refl _ _).drew
        have HSD := Lib.hid (HS5.out.below h5d)
        have HA5 : Hid (OA w w5.drew dg lb eb g d4 own own4 ⟨0, [], [], 0, 0, false⟩ (· = g) bb bo (n + 1) C5 all) := Lib.hid (by
          have hnb := HNB.out _ rfl
          exact ⟨HSD.out, HI.out.below h5d, hnb.1, hnb.2.1, hnb.2.2⟩)
        have hrd : Hid (∀ W, w5.drew = W → Calls Tryz.prog 62 #[.pointer (some ⟨g, 0, none⟩), .int .i64 m] W (RPost W g dg ⟨0, [], [], 0, 0, false⟩ (· = g) m (readW d4 m))) := Lib.hid fun W hW => by
          subst hW
          obtain ⟨recs9, hd9⟩ := HSD.out.od.dat
          have hnew := fun b hb => (HSD.out.apart b hb)
          exact wread_any hd9 HSD.out.od.ok (HSD.out.od.home HH.out) HSD.out.log (fun b hb => (hnew b hb).2.2.2) (fun b hb => Nat.le_trans HH.out.low.size (hnew b hb).1) m (by have := HM.out; omega)
        clear h5d HS5
        obtain ⟨o, q, hoq⟩ : ∃ o q, readW d4 m = (o, q) := ⟨_, _, rfl⟩
        have HOQ := Lib.hid hoq
        rw [hoq] at hrd
        clear hoq
        cases o with
        | none =>
          have HQ0 := Lib.hid (readW_none HOQ.out)
          have HR2 : Hid (openW d = (d4, none, q)) := Lib.hid (by rw [HRR.out]; unfold openOf; rw [HOQ.out])
          have hcl : Hid (∀ W, w5.drew = W → W.cell? ⟨lb, 0, none⟩ = some (.pointer (some ⟨g, 0, none⟩))) := Lib.hid fun W h => by subst h; exact cl
          -- REGION17N
          refine wp_region_regS (S := fun ch w' => ch = [{ v := stopV q, recovered := false }] ∧ Kept (· = g) w5.drew w') 6 136 (fun w w' : World => w = w') (by kernel_rfl) (by kernel_rfl) (by kernel_rfl) (by kernel_rfl) (by kernel_rfl) (fun _ => rfl) (fun _ _ _ h h2 => h.trans h2) [.is (.pointer (some ⟨g, 0, none⟩) : Value), .is (.pointer (some ⟨g, 0, none⟩) : Value), .is (.int .i64 m : Value), Yld.pr (fun _ _ => False) (fun _ _ _ h _ => h), .is (.pointer (some ⟨g, 0, none⟩) : Value), .is (.pointer (some ⟨g, 5, none⟩) : Value)] rfl (fun vs => ?_) (fun ch w' a' hS hdf hfr => ?_) (fun vs wr hR h => ?_)
          · refine RegHeadS.cons (fun wr hR h => ?_) ?_
            · exact .inl (relAt.pureS (fun _ => rfl) (by kernel_rfl) (by kernel_rfl) (run_load_plog (hcl.out _ hR)))
            refine RegHeadS.cons (fun wr hR h => ?_) ?_
            · exact .inl (relAt.pureS (fun _ => rfl) (by kernel_rfl) (by kernel_rfl) (run_load_plog (hcl.out _ hR)))
            refine RegHeadS.cons (fun wr hR h => ?_) ?_
            · exact .inl (relAt.pure (fun _ => rfl) (by kernel_rfl) (by kernel_rfl))
            refine RegHeadS.cons (fun wr hR h => ?_) ?_
            · exact .inr ⟨(by kernel_rfl), 62, #[.pointer (some ⟨g, 0, none⟩), .int .i64 m], (by kernel_rfl), (hrd.out _ hR).mono fun e w' h => ⟨_, h.1, rfl, by rw [hR]; exact h.2⟩⟩
            refine RegHeadS.cons (fun wr hR h => ?_) ?_
            · exact .inl (relAt.pure (fun _ => rfl) (by kernel_rfl) (by kernel_rfl))
            refine RegHeadS.cons (fun wr hR h => ?_) ?_
            · exact .inl (relAt.pure (fun _ => rfl) (by kernel_rfl) (by kernel_rfl))
            exact trivial
          · obtain ⟨rfl, hk⟩ := hS
            obtain ⟨t', df'⟩ := a'
            simp only [] at hdf hfr
            subst hdf
            have t2 := hfr 2 (by kernel_rfl)
            have t3 := hfr 3 (by kernel_rfl)
            refine OD.stop (HSD.out.half hk) HQ0.out HR2.out ?_ ?_
            · rw [Array.getD_eq_getD_getElem?, t2]; rfl
            · rw [Array.getD_eq_getD_getElem?, t3]; rfl
          · exact (allOf_iff.1 h 3 (by decide)).elim
          -- END17N
        | some s =>
          have hcl : Hid (∀ W, (W = w5.drew ∨ ∃ lf', OA w W dg lb eb g d4 own own4 (readL ⟨0, [], [], 0, 0, false⟩ m s) lf' bb bo (n + 1) C5 all) → W.cell? ⟨lb, 0, none⟩ = some (.pointer (some ⟨g, 0, none⟩))) := Lib.hid fun W h => by
            rcases h with rfl | ⟨lf', h⟩
            · exact cl
            · exact cell_block h.os.od.lrow rfl
          -- REGION17S
          refine wp_region_inv 6 136 (fun _ _ => True) [3] (callI (fun w => w = w5.drew) (fun x => ∃ lf', OA w x dg lb eb g d4 own own4 (readL ⟨0, [], [], 0, 0, false⟩ m s) lf' bb bo (n + 1) C5 all)) (by kernel_rfl) (by kernel_rfl) (by kernel_rfl) (by kernel_rfl) (by kernel_rfl) [.is (.pointer (some ⟨g, 0, none⟩) : Value), .is (.pointer (some ⟨g, 0, none⟩) : Value), .is (.int .i64 m : Value), .is (.int .i64 s.cut : Value), .is (.pointer (some ⟨g, 0, none⟩) : Value), .is (.pointer (some ⟨g, 5, none⟩) : Value)] rfl (rfl) (fun vs => ?_) (fun vs wr hI h => ?_)
          · refine RegHeadI.cons (fun S wr hd hSk hSd hI h => ?_) ?_
            · exact relAtI.pureS ⟨trivial, keepI (by decide) hI⟩ (by kernel_rfl) (by kernel_rfl) (run_load_plog (hcl.out _ (callI_one hI)))
            refine RegHeadI.cons (fun S wr hd hSk hSd hI h => ?_) ?_
            · exact relAtI.pureS ⟨trivial, keepI (by decide) hI⟩ (by kernel_rfl) (by kernel_rfl) (run_load_plog (hcl.out _ (callI_one hI)))
            refine RegHeadI.cons (fun S wr hd hSk hSd hI h => ?_) ?_
            · exact relAtI.pure ⟨trivial, keepI (by decide) hI⟩ (by kernel_rfl) (by kernel_rfl)
            refine RegHeadI.cons (fun S wr hd hSk hSd hI h => ?_) ?_
            · have hw : wr = w5.drew := by have hI := hI; simp only [List.map, hSk] at hI; exact hI
              exact relAtI.call (by kernel_rfl) (by kernel_rfl) ((hrd.out _ hw.symm).mono fun e w' h => ⟨_, h.1, ⟨trivial, by simp only [List.map, setB, if_true]; obtain ⟨lf', h1, h2⟩ := h.2; rw [hw] at h2; exact ⟨lf', HA5.out.relog h1 h2⟩⟩, rfl⟩)
            refine RegHeadI.cons (fun S wr hd hSk hSd hI h => ?_) ?_
            · exact relAtI.pure ⟨trivial, keepI (by decide) hI⟩ (by kernel_rfl) (by kernel_rfl)
            refine RegHeadI.cons (fun S wr hd hSk hSd hI h => ?_) ?_
            · exact relAtI.pure ⟨trivial, keepI (by decide) hI⟩ (by kernel_rfl) (by kernel_rfl)
            exact trivial
          · obtain ⟨lf6, hS6⟩ := (show ∃ lf', OA w wr dg lb eb g d4 own own4 (readL ⟨0, [], [], 0, 0, false⟩ m s) lf' bb bo (n + 1) C5 all from hI)
            have HS6 := Lib.hid hS6
            clear h hI hS6 hcl hrd HSD HA5
            refine wp_frame (new := [(.pointer (some ⟨g, 0, none⟩) : Value), (.pointer (some ⟨g, 0, none⟩) : Value), (.int .i64 m : Value), (.int .i64 s.cut : Value), (.pointer (some ⟨g, 0, none⟩) : Value), (.pointer (some ⟨g, 5, none⟩) : Value)]) 57 63 (by kernel_rfl) ?_
            simp only [List.take, List.drop, List.cons_append, List.nil_append]
          -- END17S
            obtain ⟨sA6, sC6, rA6, rC6, rb6, qs6, M6⟩ := HS6.out.os.log
            have fz6 := frozen_row M6.row
            have c56 : wr.cell? ⟨g, 5, none⟩ = some (.int .i64 0) := cell_block M6.row rfl
            have gg6 := in_heap M6.row
            have hk6 : Kept (· = g) wr (wr.setCell ⟨g, 5, none⟩ (.int .i64 s.cut)) := (Kept.refl (· = g) wr).setCell _ _ (.inl rfl)
            have HA7 := Lib.hid (HS6.out.row M6 hk6 ⟨m, s.state, s.records, s.whole, s.cut, false⟩ rfl rfl (by rw [setCell_one M6.row]; rfl))
            clear M6 hk6
            go_upto_region 18 with (fail)
            generalize wr.setCell ⟨g, 5, none⟩ (.int .i64 s.cut) = w7 at HA7 ⊢
            have HBD := Lib.hid (readW_bound HA7.out.os.od.ok HOQ.out)
            have HRO : Hid (openW d = if 0 < s.cut then
                if m = 1099511627776 then (d4, none, 5) else closeW (make1W d4 (m + 1) (bytesW (m + 1) s.state s.records)) all (newLog (m + 1) s.state s.records s.cut)
              else closeW (next (Dk.sync d4 (nameW m)) syncDir) all.dropLast ⟨m, s.state, s.records, s.whole, 0, false⟩) := Lib.hid (by rw [HRR.out]; unfold openOf; rw [HOQ.out])
            have cl7 : w7.cell? ⟨lb, 0, none⟩ = some (.pointer (some ⟨g, 0, none⟩)) := cell_block HA7.out.os.od.lrow rfl
            obtain ⟨sA, sC, rA, rC, rblk, qs, M7⟩ := HA7.out.os.log
            have HM7 := Lib.hid M7
            have c5 : w7.cell? ⟨g, 5, none⟩ = some (.int .i64 s.cut) := cell_block M7.row rfl
            clear fz6 gg6 HS6 cl cm hne0 M7 HRR c56
            go_upto_if 67 with (fail)
            go_cut [] from 9 (fun wx => Hid (∃ own' lf' L' d', OA w wx dg lb eb g d' own own' L' lf' bb bo (n + 1) C5 all ∧ LOk L' ∧ openW d = closeW (d', 0) (if L'.epoch = m then all.dropLast else all) L'))
            case first =>
              by_cases hcut : 0 < s.cut
              · have hc' : ((0 : Int) < s.cut) := by omega
                have hro := HRO.out
                rw [if_pos hcut] at hro
                by_cases hmx : m = 1099511627776
                · rw [if_pos hmx] at hro
                  have HR5 := Lib.hid hro
                  have hmx' : ((m : Int) == 1099511627776) = true := by simp; omega
                  clear hro hcut hmx
                  go_wp2_with (go_at_call 57; refine (must_stops 5 (by decide) w7).mono ?_; rintro e w9 ⟨rfl, hw9⟩)
                  subst hw9
                  refine OD.stop HA7.out.os.od (by decide) HR5.out ?_ ?_ <;> rfl
                · rw [if_neg hmx] at hro
                  have HR5 := Lib.hid hro
                  have hmx' : ((m : Int) == 1099511627776) = false := by simp; omega
                  clear hro hcut hmx
                  go_upto_region 21 with (fail)
                  have hcl : Hid (∀ W, w7.drew = W → W.cell? ⟨lb, 0, none⟩ = some (.pointer (some ⟨g, 0, none⟩)) ∧ W.cell? ⟨g, 2, none⟩ = some (.slice sA s.state.length sC) ∧ W.cell? ⟨g, 3, none⟩ = some (.slice rA s.records.length rC)) := Lib.hid fun W h => by subst h; exact ⟨cl7, cell_block HM7.out.row rfl, cell_block HM7.out.row rfl⟩
                  have h7d : RowKit.Below w7.heap.size w7 w7.drew := (Below.refl _ _).drew
                  have HA8 := Lib.hid (HA7.out.below h7d)
                  have M8 := HM7.out.kept (Kept.of_below (F := fun _ => False) h7d) (fun _ _ => id)
                  have hbd := HBD.out
                  obtain ⟨b, hb⟩ : ∃ b, bytesW (m + 1) s.state s.records = b := ⟨_, rfl⟩
                  have hbl : b.length ≤ 4611686018427387904 := by
                    rw [← hb]
                    unfold bytesW
                    rw [List.length_append, sealW_len]
                    have h1 := recsW_len s.records 1 (by omega) hbd.2.1
                    have h2 := groups_len (m + 1) (by have := HM.out; omega)
                    omega
                  have hbc : s.records.length ≤ b.length := by
                    rw [← hb]
                    unfold bytesW
                    rw [List.length_append]
                    have := recsW_count s.records 1
                    omega
                  have hb0 : b.length ≠ 0 := by rw [← hb]; unfold bytesW; rw [List.length_append, sealW_len]; omega
                  have hwb := Lib.hid (fun W (hW : w7.drew = W) => wbytes_any (m + 1) s.state s.records sA sC rA rC W (fun b => lf6 b ∧ b ≠ g) (hW ▸ M8.st) (hW ▸ M8.rows) (by have := HM.out; omega) hbd.1 hbd.2.1 (by omega) (by rw [← hW]; exact (HA8.out.os.od.home HH.out).tab.sums))
                  rw [hb] at hwb HR5
                  have HNL : Hid (newLog (m + 1) s.state s.records s.cut = ⟨m + 1, s.state, s.records, b.length, s.cut, false⟩) := Lib.hid (by unfold newLog; rw [hb])
                  have HBB := Lib.hid (show b.length ≤ 4611686018427387904 ∧ s.records.length ≤ b.length ∧ b.length ≠ 0 from ⟨hbl, hbc, hb0⟩)
                  have hm0 : (0 : Int) ≤ m := by omega
                  have hm9 : (m : Int) ≤ 1099511627776 := by have := HM.out; omega
                  clear hbd hb hbl hbc hb0 M8 h7d cl7 c5
                  simp only [Int.natCast_add, Int.natCast_one] at hwb
                  -- REGION21
                  refine wp_region_reg 10 136 (fun w w' : World => w = w') (by kernel_rfl) (by kernel_rfl) (by kernel_rfl) (by kernel_rfl) (by kernel_rfl) (fun _ => rfl) (fun _ _ _ h h2 => h.trans h2) [.is (.int .i64 m : Value), .is (.int .i64 ((m : Int) + 1) : Value), .is (.pointer (some ⟨g, 0, none⟩) : Value), .is (.pointer (some ⟨g, 0, none⟩) : Value), .is (.pointer (some ⟨g, 2, none⟩) : Value), .is (.slice sA s.state.length sC : Value), .is (.pointer (some ⟨g, 0, none⟩) : Value), .is (.pointer (some ⟨g, 0, none⟩) : Value), .is (.pointer (some ⟨g, 3, none⟩) : Value), .is (.slice rA s.records.length rC : Value)] rfl (fun vs => ?_) (fun vs wr hR h => ?_)
                  · refine RegHead.cons (fun wr hR h => ?_) ?_
                    · exact relAt.pure (fun _ => rfl) (by kernel_rfl) (by kernel_rfl)
                    refine RegHead.cons (fun wr hR h => ?_) ?_
                    · exact relAt.pureS (fun _ => rfl) (by kernel_rfl) (by kernel_rfl) (run_addW wr 3 (.tmp 71) (.const (.int .i64 1)) _ _ (by omega))
                    refine RegHead.cons (fun wr hR h => ?_) ?_
                    · exact relAt.pureS (fun _ => rfl) (by kernel_rfl) (by kernel_rfl) (run_load_plog (hcl.out _ hR).1)
                    refine RegHead.cons (fun wr hR h => ?_) ?_
                    · exact relAt.pure (fun _ => rfl) (by kernel_rfl) (by kernel_rfl)
                    refine RegHead.cons (fun wr hR h => ?_) ?_
                    · exact relAt.pure (fun _ => rfl) (by kernel_rfl) (by kernel_rfl)
                    refine RegHead.cons (fun wr hR h => ?_) ?_
                    · exact relAt.pureS (fun _ => rfl) (by kernel_rfl) (by kernel_rfl) (run_load_bytes (hcl.out _ hR).2.1)
                    refine RegHead.cons (fun wr hR h => ?_) ?_
                    · exact relAt.pureS (fun _ => rfl) (by kernel_rfl) (by kernel_rfl) (run_load_plog (hcl.out _ hR).1)
                    refine RegHead.cons (fun wr hR h => ?_) ?_
                    · exact relAt.pure (fun _ => rfl) (by kernel_rfl) (by kernel_rfl)
                    refine RegHead.cons (fun wr hR h => ?_) ?_
                    · exact relAt.pure (fun _ => rfl) (by kernel_rfl) (by kernel_rfl)
                    refine RegHead.cons (fun wr hR h => ?_) ?_
                    · exact relAt.pureS (fun _ => rfl) (by kernel_rfl) (by kernel_rfl) (run_load_byteses (hcl.out _ hR).2.2)
                    exact trivial
                  · obtain rfl := hR
                    clear h hcl
                    refine wp_frame (new := [(.int .i64 m : Value), (.int .i64 ((m : Int) + 1) : Value), (.pointer (some ⟨g, 0, none⟩) : Value), (.pointer (some ⟨g, 0, none⟩) : Value), (.pointer (some ⟨g, 2, none⟩) : Value), (.slice sA s.state.length sC : Value), (.pointer (some ⟨g, 0, none⟩) : Value), (.pointer (some ⟨g, 0, none⟩) : Value), (.pointer (some ⟨g, 3, none⟩) : Value), (.slice rA s.records.length rC : Value)]) 71 81 (by kernel_rfl) ?_
                    simp only [List.take, List.drop, List.cons_append, List.nil_append]
                  -- END21
                    go_wp2_with fail
                    go_at_call 60
                    refine (hwb.out _ rfl).mono ?_
                    rintro e w9 ⟨B9, C9, b9, rfl, F9⟩
                    have HF9 := Lib.hid F9
                    have HA9 := Lib.hid (HA8.out.below F9.low)
                    obtain ⟨recs9, hd9⟩ := HA9.out.os.od.dat
                    have hmk := Lib.hid (wmake_any hd9 HA9.out.os.od.ok (HA9.out.os.od.home HH.out) (m + 1) (by have := HM.out; omega) b B9 C9 F9.txt HBB.out.1 (fun ad had hf => by
                      rcases F9.own.form with ⟨_, h0, _⟩ | ⟨k, _, h1, h2, _⟩
                      · exact HBB.out.2.2 h0
                      · rw [h1] at had
                        have h3 := F9.fresh k h2
                        rw [← Option.some.inj had] at hf
                        obtain ⟨recs8, hd8⟩ := HA8.out.os.od.dat
                        have h4 : k < w7.drew.heap.size := hd8.lt k hf
                        omega))
                    simp only [Int.natCast_add, Int.natCast_one] at hmk
                    unfold ptrV at hmk
                    clear F9 hwb hd9 HA8 HA7 HM7
                    go_wp2_with fail
                    go_at_call 61
                    refine hmk.out.mono ?_
                    intro e w10 h
                    obtain ⟨he, hO10, recs10, own10, hd10, ht10⟩ := h
                    have HA10 := Lib.hid (HA9.out.disk hd10 hO10 ht10)
                    have HLEN := Lib.hid (fun h => make1W_len (d := d4) (n := m + 1) (b := b) h)
                    clear hmk hO10 hd10 ht10
                    generalize make1W d4 (m + 1) b = r at he HA10 HR5 HLEN
                    obtain ⟨d10, q10⟩ := r
                    simp only [] at he HA10 HR5 HLEN
                    by_cases hq : q10 = 0
                    · subst hq
                      rw [if_pos rfl] at he
                      subst he
                      obtain ⟨sA1, sC1, rA1, rC1, rblk1, qs1, M10⟩ := HA10.out.os.log
                      have HM10 := Lib.hid M10
                      have cl : w10.cell? ⟨lb, 0, none⟩ = some (.pointer (some ⟨g, 0, none⟩)) := cell_block HA10.out.os.od.lrow rfl
                      have c1 : w10.cell? ⟨g, 1, none⟩ = some (.int .i64 m) := cell_block M10.row rfl
                      have c4 : w10.cell? ⟨g, 4, none⟩ = some (.int .i64 s.whole) := cell_block M10.row rfl
                      have fg := frozen_row M10.row
                      have gg := in_heap M10.row
                      have gl := in_heap HA10.out.os.od.lrow
                      have hap := HA10.out.os.apart g M10.me
                      have n1 : ¬ lb = g := fun e => hap.2.1 e.symm
                      have n3 : ¬ g = lb := hap.2.1
                      clear M10 hap
                      go_wp2_with fail
                      go_meet
                      have hk1 : Kept (· = g) w10 (w10.setCell ⟨g, 1, none⟩ (.int .i64 ((m : Int) + 1))) := (Kept.refl (· = g) w10).setCell _ _ (.inl rfl)
                      have M11 := HM10.out.rerow hk1 (fun b _ hn => hn) ⟨m + 1, s.state, s.records, s.whole, s.cut, false⟩ rfl rfl (by rw [setCell_one HM10.out.row]; simp [logRow])
                      have A11 := HA10.out.row HM10.out hk1 ⟨m + 1, s.state, s.records, s.whole, s.cut, false⟩ rfl rfl M11.row
                      have hk2 : Kept (· = g) (w10.setCell ⟨g, 1, none⟩ (.int .i64 ((m : Int) + 1))) ((w10.setCell ⟨g, 1, none⟩ (.int .i64 ((m : Int) + 1))).setCell ⟨g, 4, none⟩ (.int .i64 b.length)) := (Kept.refl (· = g) _).setCell _ _ (.inl rfl)
                      have A12 := A11.row M11 hk2 ⟨m + 1, s.state, s.records, b.length, s.cut, false⟩ rfl rfl (by rw [setCell_one M11.row]; simp [logRow])
                      have hbd := HBD.out
                      refine Lib.hid ⟨own10, _, ⟨m + 1, s.state, s.records, b.length, s.cut, false⟩, d10, A12, ⟨?_, hbd.1, hbd.2.1, HBB.out.2.1, HLEN.out trivial, hbd.2.2.2.2⟩, ?_⟩
                      · have h1 := HM.out
                        have h2 : ¬ m = 1099511627776 := by simp at hmx'; omega
                        show 1 ≤ m + 1 ∧ m + 1 ≤ 1099511627776
                        omega
                      · rw [HR5.out, HNL.out, if_neg (show ¬ m + 1 = m by omega)]
                    · rw [if_neg hq] at he
                      have HR6 : Hid (openW d = (d10, none, q10)) := Lib.hid (by rw [HR5.out]; exact closeW_err hq _ _)
                      subst he
                      unfold stopped
                      go_wp2_with fail
                      refine OD.stop HA10.out.os.od hq HR6.out ?_ ?_ <;> rfl
              · have hc' : ¬ ((0 : Int) < s.cut) := by omega
                have hro := HRO.out
                rw [if_neg hcut] at hro
                have HR5 := Lib.hid hro
                have hcz := Lib.hid (show s.cut = 0 by omega)
                clear hro hcut
                obtain ⟨recs7, hd7⟩ := HA7.out.os.od.dat
                have hnm := Lib.hid (wname_any m (by have := HM.out; omega) w7 (HA7.out.os.od.home HH.out).tab)
                clear hd7
                go_wp2_with fail
                go_at_call 64
                refine hnm.out.mono ?_
                rintro e w8 ⟨rfl, h78⟩
                have HA8 := Lib.hid (HA7.out.below h78)
                obtain ⟨recs8, hd8⟩ := HA8.out.os.od.dat
                have hsy := Lib.hid (sync_any hd8 HA8.out.os.od.ok (nameW m) (by have := nameW_len m (by have := HM.out; omega); unfold maxLen; omega))
                clear hnm h78 hd8 HM7 HA7
                unfold ptrV at hsy
                go_wp2_with fail
                go_at_call 63
                refine hsy.out.mono ?_
                rintro e w9 ⟨rfl, hO9, recs9, own9, hd9, ht9⟩
                have HA9 := Lib.hid (HA8.out.disk hd9 hO9 ht9)
                clear hsy hO9 hd9 ht9 HA8
                generalize Dk.sync d4 (nameW m) = r at HA9 HR5 ⊢
                obtain ⟨d9, q9⟩ := r
                simp only [] at HA9 HR5 ⊢
                by_cases hq : q9 ≠ 0
                · have HR6 : Hid (openW d = (d9, none, q9)) := Lib.hid (by
                    rw [HR5.out, show next (d9, q9) syncDir = (d9, q9) by unfold next; rw [if_neg hq]]
                    exact closeW_err hq _ _)
                  go_wp2_with (go_at_call 57; refine (must_stops q9 hq w9).mono ?_; rintro e w99 ⟨rfl, hw9⟩)
                  subst hw9
                  refine OD.stop HA9.out.os.od hq HR6.out ?_ ?_ <;> rfl
                · obtain rfl : q9 = 0 := by omega
                  clear hq
                  obtain ⟨recs9, hd9⟩ := HA9.out.os.od.dat
                  have hsd := Lib.hid (syncdir_any hd9 HA9.out.os.od.ok)
                  have HR6 : Hid (openW d = closeW (syncDir d9) all.dropLast ⟨m, s.state, s.records, s.whole, 0, false⟩) := Lib.hid (by rw [HR5.out]; rfl)
                  clear hd9 HR5
                  simp only [Int.natCast_zero]
                  unfold ptrV at hsd
                  go_wp2_with (go_at_call 57; refine (must_ok w9).mono ?_; rintro e w99 ⟨rfl, hw9⟩; subst hw9)
                  go_at_call 45
                  refine hsd.out.mono ?_
                  rintro e w10 ⟨rfl, hO10, recs10, own10, hd10, ht10⟩
                  have HA10 := Lib.hid (HA9.out.disk hd10 hO10 ht10)
                  clear hsd hO10 hd10 ht10 HA9
                  generalize syncDir d9 = r at HA10 HR6 ⊢
                  obtain ⟨d10, q10⟩ := r
                  simp only [] at HA10 HR6 ⊢
                  by_cases hq : q10 ≠ 0
                  · have HR7 : Hid (openW d = (d10, none, q10)) := Lib.hid (by rw [HR6.out]; exact closeW_err hq _ _)
                    go_wp2_with (go_at_call 57; refine (must_stops q10 hq w10).mono ?_; rintro e w99 ⟨rfl, hw9⟩)
                    subst hw9
                    refine OD.stop HA10.out.os.od hq HR7.out ?_ ?_ <;> rfl
                  · obtain rfl : q10 = 0 := by omega
                    clear hq
                    simp only [Int.natCast_zero]
                    go_wp2_with (go_at_call 57; refine (must_ok w10).mono ?_; rintro e w99 ⟨rfl, hw9⟩; subst hw9)
                    go_meet
                    have hbd := HBD.out
                    have hA := HA10.out
                    rw [hcz.out] at hA
                    refine Lib.hid ⟨own10, _, ⟨m, s.state, s.records, s.whole, 0, false⟩, d10, hA, ⟨?_, hbd.1, hbd.2.1, hbd.2.2.1, hbd.2.2.2.1, Nat.zero_le _⟩, ?_⟩
                    · have h1 := HM.out
                      show 1 ≤ m ∧ m ≤ 1099511627776
                      omega
                    · rw [HR6.out, if_pos rfl]
            case rest =>
              obtain ⟨own1, lf1, L1, d1, hA1, hL1, hro⟩ := hcut.out
              have HA1 := Lib.hid hA1
              have HL1 := Lib.hid hL1
              have HR1 := Lib.hid hro
              have cl1 : wc.cell? ⟨lb, 0, none⟩ = some (.pointer (some ⟨g, 0, none⟩)) := cell_block hA1.os.od.lrow rfl
              have c11 : wc.cell? ⟨g, 1, none⟩ = some (.int .i64 L1.epoch) := by
                obtain ⟨_, _, _, _, _, _, M⟩ := hA1.os.log
                exact cell_block M.row rfl
              clear hcut hA1 hL1 hro HA7 HM7 HBD HRO cl7 c5
              obtain ⟨older, holder⟩ : ∃ older, older = (if L1.epoch = m then all.dropLast else all) := ⟨_, rfl⟩
              rw [← holder] at HR1
              have HOL := Lib.hid holder
              have HR2 : Hid (openW d = finW (removeAll d1 older) older L1) := Lib.hid (by rw [HR1.out]; rfl)
              clear holder HR1
              go_upto_if 111 with (fail)
              go_cut [10] from 11 (fun s10 wx => ∃ k : Nat, s10 = .slice (some ⟨bb, bo, none⟩) k C5 ∧ Hid (k ≤ n + 1 ∧ older = all.take k ∧ wc = wx))
              case first =>
                by_cases he : L1.epoch = m
                · have he' : ((L1.epoch : Int) == (m : Int)) = true := by simp; omega
                  have HO2 : Hid (older = all.take n) := Lib.hid (by
                    rw [HOL.out, if_pos he, List.dropLast_eq_take, HN.out]
                    rfl)
                  clear he
                  have hcap := HA1.out.ints.cap
                  go_wp2_with fail
                  go_meet
                  exact ⟨n, rfl, Lib.hid ⟨Nat.le_succ n, HO2.out, rfl⟩⟩
                · have he' : ((L1.epoch : Int) == (m : Int)) = false := by simp; omega
                  have HO2 : Hid (older = all.take (n + 1)) := Lib.hid (by
                    rw [HOL.out, if_neg he, ← HN.out, List.take_length])
                  clear he
                  go_wp2_with fail
                  go_meet
                  exact ⟨n + 1, rfl, Lib.hid ⟨Nat.le_refl _, HO2.out, rfl⟩⟩
              case rest =>
                obtain ⟨k, rfl, hcut2⟩ := hcut
                obtain ⟨hk, hold, rfl⟩ := hcut2.out
                have HK := Lib.hid hk
                have HOLD := Lib.hid hold
                have hkl : older.length = k := by rw [hold, List.length_take, HN.out]; omega
                have HKL := Lib.hid hkl
                have HBND : Hid (∀ x ∈ older, 1 ≤ x ∧ x ≤ 1099511627776) := Lib.hid fun x hx => by
                  rw [hold] at hx
                  exact gens_bound (d := d4) (by rw [← HALL.out]; exact List.mem_of_mem_take hx)
                have hk64 : (k : Int) ≤ 64 := by omega
                clear hk hold hkl hcut2 cl1 c11 HOL
                go_wp2
                go_loopw [119] (fun iv wr => ∃ (i : Nat) (own2 : Nat → Option DTag) (d2 : DiskS), iv = .int .i64 i ∧ Hid (i ≤ k ∧ OA w wr dg lb eb g d2 own own2 L1 lf1 bb bo (n + 1) C5 all ∧ openW d = finW (removeAll d2 (older.drop i)) older L1)) (fun iv _ => k - (intOf iv).toNat)
                case atStart => exact ⟨0, own1, d1, rfl, Lib.hid ⟨Nat.zero_le _, HA1.out, HR2.out⟩⟩
                case round =>
                  obtain ⟨i, own2, d2, rfl, hJ⟩ := hrel
                  by_cases hlt : i < k
                  · have h1 : (i : Int) < k := by omega
                    obtain ⟨x, hx⟩ : ∃ x, older[i]? = some x := ⟨_, List.getElem?_eq_getElem (by rw [HKL.out]; exact hlt)⟩
                    have hxa : all[i]? = some x := by
                      rw [HOLD.out, List.getElem?_take, if_pos hlt] at hx
                      exact hx
                    obtain ⟨b2, o2, he, cx, _⟩ := hJ.out.2.1.ints.each i (x : Int) (by rw [List.getElem?_map, hxa]; rfl)
                    simp only [Option.some.injEq, Addr.mk.injEq, and_true] at he
                    obtain ⟨rfl, rfl⟩ := he
                    have HX := Lib.hid (HBND.out x (List.mem_of_getElem? hx))
                    have hdr : older.drop i = x :: older.drop (i + 1) := by
                      rw [List.drop_eq_getElem_cons (by rw [HKL.out]; exact hlt)]
                      congr 1
                      exact (List.getElem?_eq_some_iff.1 hx).2
                    have HDR := Lib.hid hdr
                    obtain ⟨recs9, hd9⟩ := hJ.out.2.1.os.od.dat
                    have hnm := Lib.hid (wname_any x (by have := HX.out; omega) wr (hJ.out.2.1.os.od.home HH.out).tab)
                    clear hd9 hx hxa hdr
                    go_wp2_with fail
                    go_at_call 64
                    refine hnm.out.mono ?_
                    rintro e w8 ⟨rfl, h78⟩
                    have HA8 := Lib.hid (hJ.out.2.1.below h78)
                    obtain ⟨recs8, hd8⟩ := HA8.out.os.od.dat
                    have hrm := Lib.hid (remove_any hd8 HA8.out.os.od.ok (nameW x) (by have := nameW_len x (by have := HX.out; omega); unfold maxLen; omega))
                    clear hnm h78 hd8 cx
                    unfold ptrV at hrm
                    go_wp2_with fail
                    go_at_call 58
                    refine hrm.out.mono ?_
                    rintro e w9 ⟨rfl, hO9, recs9, own9, hd9, ht9⟩
                    have HA9 := Lib.hid (HA8.out.disk hd9 hO9 ht9)
                    have HFI := Lib.hid hJ.out.2.2
                    rw [HDR.out] at HFI
                    clear hrm hO9 hd9 ht9 HA8
                    obtain ⟨d9, q9, hrr⟩ : ∃ d9 q9, Dk.remove d2 (nameW x) = (d9, q9) := ⟨_, _, rfl⟩
                    rw [hrr] at HA9 ⊢
                    have HRR := Lib.hid hrr
                    simp only [] at HA9 ⊢
                    clear hrr
                    by_cases hq : q9 ≠ 0
                    · have HR6 : Hid (openW d = (d9, none, q9)) := Lib.hid (by rw [HFI.out, removeAll_err HRR.out hq]; exact finW_err hq _ _)
                      go_wp2_with (go_at_call 57; refine (must_stops q9 hq w9).mono ?_; rintro e w99 ⟨rfl, hw9⟩)
                      subst hw9
                      refine OD.stop HA9.out.os.od hq HR6.out ?_ ?_ <;> rfl
                    · obtain rfl : q9 = 0 := by omega
                      clear hq
                      have HR6 : Hid (openW d = finW (removeAll d9 (older.drop (i + 1))) older L1) := Lib.hid (by rw [HFI.out, removeAll_ok HRR.out])
                      simp only [Int.natCast_zero]
                      go_wp2_with (go_at_call 57; refine (must_ok w9).mono ?_; rintro e w99 ⟨rfl, hw9⟩; subst hw9)
                      refine ⟨⟨i + 1, own9, d9, by simp, Lib.hid ⟨by omega, HA9.out, HR6.out⟩⟩, by simp [intOf]; omega⟩
                  · obtain rfl : i = k := by have := hJ.out.1; omega
                    have hi : ¬ (i : Int) < (i : Int) := by omega
                    have HFI : Hid (openW d = finW (d2, 0) older L1) := Lib.hid (by
                      have := hJ.out.2.2
                      rw [List.drop_eq_nil_of_le (by rw [HKL.out]; exact Nat.le_refl _)] at this
                      exact this)
                    have HA := Lib.hid hJ.out.2.1
                    clear hJ
                    by_cases hk0 : i = 0
                    · subst hk0
                      have hnil : older = [] := List.eq_nil_of_length_eq_zero HKL.out
                      have HR6 : Hid (openW d = (d2, some L1, 0)) := Lib.hid (by rw [HFI.out, hnil]; rfl)
                      obtain ⟨_, _, _, _, _, _, M9⟩ := HA.out.os.log
                      have hap := HA.out.os.apart g M9.me
                      have cl : wr.cell? ⟨lb, 0, none⟩ = some (.pointer (some ⟨g, 0, none⟩)) := cell_block HA.out.os.od.lrow rfl
                      have ce : wr.cell? ⟨eb, 0, none⟩ = some (.int .i64 0) := cell_block HA.out.os.od.erow rfl
                      have fl := frozen_row HA.out.os.od.lrow
                      have fe := frozen_row HA.out.os.od.erow
                      have gl := in_heap HA.out.os.od.lrow
                      have ge := in_heap HA.out.os.od.erow
                      have n5 : ¬ lb = eb := HA.out.os.od.ne
                      have n6 : ¬ eb = lb := fun e => HA.out.os.od.ne e.symm
                      clear M9 hap hnil hk64 hn63
                      simp only [Int.natCast_zero] at *
                      go_wp2_with fail
                      refine OS.done HA.out.os.touch HL1.out HR6.out ?_ ?_ <;> rfl
                    · have hne : older ≠ [] := fun e => by have := HKL.out; rw [e] at this; simp at this; omega
                      have HF2 : Hid (openW d = if (syncDir d2).2 = 0 then ((syncDir d2).1, some L1, 0) else ((syncDir d2).1, none, (syncDir d2).2)) := Lib.hid (by
                        rw [HFI.out]
                        unfold finW
                        simp only [if_neg hne]
                        rfl)
                      obtain ⟨recs9, hd9⟩ := HA.out.os.od.dat
                      have hsd := Lib.hid (syncdir_any hd9 HA.out.os.od.ok)
                      have hi0 : (0 : Int) < i := by omega
                      clear hd9 hne HFI hk0
                      unfold ptrV at hsd
                      go_wp2_with fail
                      go_at_call 45
                      refine hsd.out.mono ?_
                      rintro e w10 ⟨rfl, hO10, recs10, own10, hd10, ht10⟩
                      have HA10 := Lib.hid (HA.out.disk hd10 hO10 ht10)
                      clear hsd hO10 hd10 ht10 HA
                      generalize syncDir d2 = r at HA10 HF2 ⊢
                      obtain ⟨d10, q10⟩ := r
                      simp only [] at HA10 HF2 ⊢
                      by_cases hq : q10 ≠ 0
                      · have HR7 : Hid (openW d = (d10, none, q10)) := Lib.hid (by rw [HF2.out, if_neg hq])
                        go_wp2_with (go_at_call 57; refine (must_stops q10 hq w10).mono ?_; rintro e w99 ⟨rfl, hw9⟩)
                        subst hw9
                        refine OD.stop HA10.out.os.od hq HR7.out ?_ ?_ <;> rfl
                      · obtain rfl : q10 = 0 := by omega
                        clear hq
                        have HR7 : Hid (openW d = (d10, some L1, 0)) := Lib.hid (by rw [HF2.out, if_pos rfl])
                        simp only [Int.natCast_zero]
                        have cl : w10.cell? ⟨lb, 0, none⟩ = some (.pointer (some ⟨g, 0, none⟩)) := cell_block HA10.out.os.od.lrow rfl
                        have ce : w10.cell? ⟨eb, 0, none⟩ = some (.int .i64 0) := cell_block HA10.out.os.od.erow rfl
                        have fl := frozen_row HA10.out.os.od.lrow
                        have fe := frozen_row HA10.out.os.od.erow
                        have gl := in_heap HA10.out.os.od.lrow
                        have ge := in_heap HA10.out.os.od.erow
                        have n5 : ¬ lb = eb := HA10.out.os.od.ne
                        have n6 : ¬ eb = lb := fun e => HA10.out.os.od.ne e.symm
                        go_wp2_with (go_at_call 57; refine (must_ok w10).mono ?_; rintro e w99 ⟨rfl, hw9⟩; subst hw9)
                        go_wp2_with fail
                        refine OS.done HA10.out.os.touch HL1.out HR7.out ?_ ?_ <;> rfl
end
end Go.Proofs.YtgpenpnobjecgaaGreatDoor
