/- WalOwn: the law tells true. -/
import Derived.BigQuiet
import Derived.Test.YtgpenpnobjecgaaGreatDoorJWalSafeCard33
import Derived.Test.YtgpenpnobjecgaaGreatDoorJWalSafeCard45
/- LawOwn -/
namespace Go.Proofs.YtgpenpnobjecgaaGreatDoor
set_option maxRecDepth 100000
open Go.RowKit Dk

/-- The log behind i records. -/
structure OwnI (st : Bs) (rs : List Bs) (i : Nat) (d : DiskS) (L : LogS) : Prop where
  solo : ∃ s k, Solo d 2 (bytesW 2 st (rs.take i)) s k
  log : L = ⟨2, st, rs.take i, (bytesW 2 st (rs.take i)).length, 0, false⟩
  ops : d.ops ≤ 12 + i
  room : d.room = 4194304
  small : (bytesW 2 st (rs.take i)).length ≤ 4106 + 4106 * i
theorem own_start {d : DiskS} {st : Bs} {rs : List Bs} (h : Solo d 1 (bytesW 1 [] []) (bytesW 1 [] []).length 0) (hO : Ok d) (ho : d.ops = 5) (hr : d.room = 4194304) (hs : st.length ≤ 4096) :
    ∃ d' L', snapW d (newLog 1 [] [] 0) st = ((d', L'), 0) ∧ OwnI st rs 0 d' L' ∧ free d + (newLog 1 [] [] 0).size ≤ 9223372036854775807 := by
  have h1 : (bytesW 1 [] []).length = 10 := bytes_one
  have h2 : (bytesW 2 st []).length = 10 + st.length := gen_len 2 (by omega) st
  obtain ⟨d', e, S, o, r⟩ := snap_solo (L := newLog 1 [] [] 0) h hO rfl rfl (by show 1 < _; omega) (by omega) (p := st) (by omega) (by show (bytesW 2 st []).length ≤ _; omega) (by show (bytesW 1 [] []).length + (bytesW 2 st []).length ≤ _; omega) (by show (bytesW 2 st []).length + (bytesW 2 st []).length ≤ _; omega)
  refine ⟨d', _, e, ⟨⟨_, _, (show Solo d' 2 (bytesW 2 st []) _ _ from S)⟩, by simp [newLog], by omega, by omega, by simp; omega⟩, ?_⟩
  rw [h.fr, hr]
  show 4194304 - _ + (bytesW 1 [] []).length ≤ _
  omega
theorem own_step {d : DiskS} {L : LogS} {st r : Bs} {rs : List Bs} {i : Nat} (h : OwnI st rs i d L) (hi : i < 40) (hr : rs[i]? = some r) (hl : r.length ≤ 4096) : ∃ d' L', appendW d L r = ((d', L'), 0) ∧ OwnI st rs (i + 1) d' L' := by
  obtain ⟨s, k, S⟩ := h.solo
  have hlt : i < rs.length := (List.getElem?_eq_some_iff.1 hr).1
  have htl : (rs.take i).length = i := by rw [List.length_take]; omega
  have hsl : (sealW 2 ((rs.take i).length + 1) r).length = 10 + r.length := by rw [htl]; exact seal_len 2 (i + 1) (by omega) r
  have hnx : bytesW 2 st (rs.take (i + 1)) = bytesW 2 st (rs.take i) ++ sealW 2 ((rs.take i).length + 1) r := by
    rw [List.take_add_one, hr]
    unfold bytesW
    rw [Option.toList_some, recsW_push, List.append_assoc, Nat.add_comm 1]
  have hlog := h.log
  have hsm := h.small
  have hrm := h.room
  have hop := h.ops
  subst hlog
  obtain ⟨d', e, S', o, r'⟩ := append_solo (L := ⟨2, st, rs.take i, (bytesW 2 st (rs.take i)).length, 0, false⟩) S rfl rfl (by omega) (p := r) (by omega) (by show _ + (sealW 2 ((rs.take i).length + 1) r).length ≤ _; omega) (by show _ + _ + (sealW 2 ((rs.take i).length + 1) r).length + (sealW 2 ((rs.take i).length + 1) r).length ≤ _; omega)
  refine ⟨d', _, e, ⟨s, k, by rw [hnx]; exact S'⟩, ?_, by omega, by omega, by rw [hnx, List.length_append]; omega⟩
  rw [hnx, List.length_append, List.take_add_one, hr]
  rfl
/-- Bytes copied lie in a block of their own. -/
theorem newB {w2 w3 : World} {y : Bs} {B : Option Addr} {D : Nat} {b3 : Option Nat} (H : OwnR w3 5 1 B (0 + y.length) D ([] ++ y.map V8) b3) (hg : (w2.alloc (.cells #[] 5)).grownBy w3 (some w2.heap.size)) (hb : b3 = some w2.heap.size ∨ b3 = some (w2.alloc (.cells #[] 5)).heap.size) :
    ∃ k, B = some ⟨k, 0, none⟩ ∧ w2.heap.size ≤ k ∧ OwnR w3 5 1 (some ⟨k, 0, none⟩) y.length D (y.map V8) (some k) ∧ RowKit.Below w2.heap.size w2 w3 := by
  obtain ⟨k, hk, hkn⟩ : ∃ k, b3 = some k ∧ w2.heap.size ≤ k := by
    rcases hb with e | e
    · exact ⟨_, e, Nat.le_refl _⟩
    · exact ⟨_, e, by simp⟩
  subst hk
  have hB := own_addr H
  subst hB
  simp only [Nat.zero_add, List.nil_append] at H
  exact ⟨k, rfl, hkn, H, ((Kept.of_below (F := fun b => b = w2.heap.size) (low1 w2 (.cells #[] 5))).grown hg fun b hb => .inl (Option.some.inj hb).symm).below fun b hlt e => by omega⟩
theorem mem_zipW {l : List Bs} {qs : List (Nat × Nat)} {u : Value} (h : u ∈ List.zipWith soleV l qs) : ∃ (i : Nat) (p : Bs) (q : Nat × Nat), l[i]? = some p ∧ qs[i]? = some q ∧ u = soleV p q := by
  obtain ⟨i, hi⟩ := List.getElem?_of_mem h
  rw [List.getElem?_zipWith] at hi
  cases hp : l[i]? with
  | none => rw [hp] at hi; simp at hi
  | some p =>
    cases hq : qs[i]? with
    | none => rw [hp, hq] at hi; simp at hi
    | some q =>
      rw [hp, hq] at hi
      exact ⟨i, p, q, hp, hq, (Option.some.inj hi).symm⟩
set_option maxRecDepth 100000 in
set_option maxHeartbeats 4000000 in
theorem own_law {st : Bs} {rs : List Bs} {A R : Option Addr} {C K : Nat} {w : World} (hT : Tabs6 w) (X : TxtW w A st.length C st) (Y : RowsW w R rs.length rs) :
    Calls Tryz.prog 4 #[.slice R rs.length K, .slice A st.length C] w fun e w' => e = .returned (.bool true) ∧ RowKit.Below w.heap.size w w' := by
  have HT := Lib.hid hT
  have HX := Lib.hid X
  have HY := Lib.hid Y
  clear hT X Y
  go_enter Tryz.func4, Tryz.ntmps4
  have hbe := Lib.hid (run_begun HT.out 4194304 (by omega) (by omega))
  go_wp2_with fail
  go_at_call 24
  refine hbe.out.mono ?_
  rintro e w1 ⟨g, dg, d1, rfl, hR1, hS1, ho1, hr1⟩
  have HR1 := Lib.hid hR1
  have HS1 := Lib.hid (show _ ∧ _ ∧ _ from ⟨hS1, ho1, hr1⟩)
  clear hR1 hS1 ho1 hr1 hbe
  unfold ptrV
  go_wp2_with fail
  go_at_call 10
  refine (l6live_any (HT.out.low HR1.out.low)).mono ?_
  rintro e w2 ⟨rfl, hb2⟩
  have HR2 := Lib.hid (HR1.out.below hb2)
  clear hb2
  by_cases hfew : 40 < rs.length
  · have h1 : decide ((40 : Int) < rs.length) = true := by simp; omega
    go_wp2
    go_ret
    exact ⟨rfl, HR2.out.low⟩
  have h1 : decide ((40 : Int) < rs.length) = false := by simp; omega
  by_cases hlong : 4096 < st.length
  · have h2 : decide ((4096 : Int) < st.length) = true := by simp; omega
    go_wp2
    go_ret
    exact ⟨rfl, HR2.out.low⟩
  have h2 : decide ((4096 : Int) < st.length) = false := by simp; omega
  have HB := Lib.hid (show rs.length ≤ 40 ∧ st.length ≤ 4096 from ⟨by omega, by omega⟩)
  obtain ⟨d3, L3, e3, hI3, hfs3⟩ := own_start (rs := rs) HS1.out.1 HR1.out.ok HS1.out.2.1 HS1.out.2.2 HB.out.2
  have HE3 := Lib.hid e3
  have HI3 := Lib.hid hI3
  have HFS3 := Lib.hid hfs3
  clear hfew hlong e3 hI3 hfs3
  have Z1 := Lib.hid (show 0 + st.length ≤ maxLen by have := HB.out; unfold maxLen; omega)
  have Z2 := Lib.hid (show (0 + st.length) * 1 ≤ 140737488355328 by have := HB.out; omega)
  go_wp2_with (at_builtin; refine wpList_app0 rfl _ _ 22 rfl 5 1 1 _ Tryz.underlying22 info_u8r rfl (by decide) (some ⟨w2.heap.size, 0, none⟩) 0 0 [] (some w2.heap.size) rfl (OwnR.of_row (blk1 _ _) (Nat.le_refl _) (Nat.zero_le _) rfl rfl) A st.length C (st.map V8) rfl (by simp) ((HX.out.below HR2.out.low).below (low1 _ _)).cells HX.out.nil (bone st) Z1.out Z2.out ?_; intro B3 D3 w3 b3 h3 h4 h5; have H3 := Lib.hid h3; have H4 := Lib.hid h4; have H5 := Lib.hid h5; clear h3 h4 h5)
  obtain ⟨k3, rfl, hk3, hown3, hlow3⟩ := newB H3.out H4.out H5.out
  have hrz := HR2.out.add (Z := fun b => b = k3) hlow3 (fun b e => e ▸ hk3)
  have hsn := Lib.hid (run_snapZ HT.out hrz (fun b e => e ▸ hown3.lt _ rfl) hown3.txt (fun ad had => by rw [← Option.some.inj had]) (by have := HB.out; omega) (fun _ => HFS3.out) HE3.out)
  have HOWN3 := Lib.hid hown3
  have HK3 := Lib.hid (show w.heap.size ≤ k3 from Nat.le_trans HR2.out.low.size hk3)
  clear hrz hown3 hlow3 hk3 H3 H4 H5 Z1 Z2
  unfold ptrV at hsn
  refine hsn.out.mono ?_
  rintro e w4 ⟨rfl, hR4, hkp4⟩
  have HR4 := Lib.hid hR4
  have hsp := Lib.hid (l6spoil_any (HOWN3.out.kept hkp4 fun b hb hn => hn (Option.some.inj hb).symm))
  clear hR4 hkp4 hsn
  simp only [Int.natCast_zero]
  go_wp2_with (go_at_call 15; refine (l6num_any _ _).mono ?_; rintro e w99 ⟨rfl, rfl⟩)
  go_at_call 26
  refine hsp.out.mono ?_
  rintro e w5 ⟨rfl, hk5, _⟩
  have HR5 := Lib.hid (HR4.out.other hk5 fun b e => ⟨e, e ▸ HK3.out⟩).run
  clear hk5 hsp
  go_wp2
  go_loopw [8] (fun iv wr => ∃ (i : Nat) (d : DiskS) (L : LogS), iv = .int .i64 i ∧ Hid (i ≤ rs.length ∧ Run w wr g dg d L ∧ OwnI st rs i d L ∧ ∀ j r, j < i → rs[j]? = some r → r.length ≤ 4096)) (fun iv _ => rs.length - (intOf iv).toNat)
  case atStart => exact ⟨0, d3, L3, rfl, Lib.hid ⟨Nat.zero_le _, HR5.out, HI3.out, fun j r h => absurd h (Nat.not_lt_zero _)⟩⟩
  case round =>
    obtain ⟨i, d, L, rfl, hI⟩ := hrel
    by_cases hlt : i < rs.length
    · have l1 : (i : Int) < rs.length := by omega
      have l0 : (0 : Int) ≤ (i : Int) := by omega
      have hiw : IntKind.i64.wrap ((i : Int) + 1) = (i : Int) + 1 := IntWalk.i64_in _ (by have := HB.out; omega)
      obtain ⟨r, hr⟩ : ∃ r, rs[i]? = some r := ⟨_, List.getElem?_eq_getElem hlt⟩
      obtain ⟨b, o, Br, cr, rfl, q1, q2⟩ := (HY.out.below hI.out.2.1.low).each i r hr
      have HQ2 := Lib.hid q2
      have Hr := Lib.hid hr
      clear q2 hr
      by_cases hl : 4096 < r.length
      · have l2 : (4096 : Int) < r.length := by omega
        clear hl
        go_wp2
        go_ret
        exact ⟨rfl, hI.out.2.1.low⟩
      · have l2 : ¬ (4096 : Int) < r.length := by omega
        have HL := Lib.hid (show r.length ≤ 4096 by omega)
        obtain ⟨d', L', e', hI'⟩ := own_step hI.out.2.2.1 (by have := HB.out; omega) Hr.out HL.out
        have HE' := Lib.hid e'
        have HI' := Lib.hid hI'
        have Z1 := Lib.hid (show 0 + r.length ≤ maxLen by have := HL.out; unfold maxLen; omega)
        have Z2 := Lib.hid (show (0 + r.length) * 1 ≤ 140737488355328 by have := HL.out; omega)
        have hg1 := World.block_lt_of_cell? _ _ q1
        clear hl e' hI'
        go_wp2_with (at_builtin; refine wpList_app0 rfl _ _ 22 rfl 5 1 1 _ Tryz.underlying22 info_u8r rfl (by decide) (some ⟨wr.heap.size, 0, none⟩) 0 0 [] (some wr.heap.size) rfl (OwnR.of_row (blk1 _ _) (Nat.le_refl _) (Nat.zero_le _) rfl rfl) Br r.length cr (r.map V8) rfl (by simp) (HQ2.out.below (low1 _ _)).cells HQ2.out.nil (bone r) Z1.out Z2.out ?_; intro B3 D3 w6 b3 h3 h4 h5; have H3 := Lib.hid h3; have H4 := Lib.hid h4; have H5 := Lib.hid h5; clear h3 h4 h5)
        obtain ⟨k6, rfl, hk6, hown6, hlow6⟩ := newB H3.out H4.out H5.out
        have hrz := hI.out.2.1.add (Z := fun b => b = k6) hlow6 (fun b e => e ▸ hk6)
        have hap := Lib.hid (run_appendZ HT.out hrz (fun b e => e ▸ hown6.lt _ rfl) hown6.txt (fun ad had => by rw [← Option.some.inj had]) (by have := HL.out; omega) HE'.out)
        have HOWN6 := Lib.hid hown6
        have HK6 := Lib.hid (show w.heap.size ≤ k6 from Nat.le_trans hI.out.2.1.low.size hk6)
        clear hrz hown6 hlow6 hk6 H3 H4 H5 Z1 Z2 hg1 q1
        unfold ptrV at hap
        refine hap.out.mono ?_
        rintro e w7 ⟨rfl, hR7, hkp7⟩
        have HR7 := Lib.hid hR7
        have hsp := Lib.hid (l6spoil_any (HOWN6.out.kept hkp7 fun b hb hn => hn (Option.some.inj hb).symm))
        clear hR7 hkp7 hap
        simp only [Int.natCast_zero]
        go_wp2_with (go_at_call 15; refine (l6num_any _ _).mono ?_; rintro e w99 ⟨rfl, rfl⟩)
        go_at_call 26
        refine hsp.out.mono ?_
        rintro e w8 ⟨rfl, hk8, _⟩
        have HR8 := Lib.hid (HR7.out.other hk8 fun b e => ⟨e, e ▸ HK6.out⟩).run
        clear hk8 hsp
        go_wp2
        refine ⟨⟨i + 1, d', L', by simp, Lib.hid ⟨by omega, HR8.out, HI'.out, fun j x hj hx => ?_⟩⟩, by simp [intOf]; omega⟩
        by_cases hji : j = i
        · subst hji
          rw [Hr.out] at hx
          obtain rfl := Option.some.inj hx
          exact HL.out
        · exact hI.out.2.2.2 j x (by omega) hx
    · obtain rfl : i = rs.length := by have := hI.out.1; omega
      have l1 : ¬ (rs.length : Int) < (rs.length : Int) := by omega
      rename World => w10
      have hlog := hI.out.2.2.1.log
      rw [List.take_length] at hlog
      have HLS := Lib.hid (show L.state = st ∧ L.records = rs by rw [hlog]; exact ⟨rfl, rfl⟩)
      have HR10 := Lib.hid hI.out.2.1
      have HSM := Lib.hid (show ∀ r ∈ rs, r.length ≤ 4096 from fun r hr => by
        obtain ⟨j, hj⟩ := List.getElem?_of_mem hr
        exact hI.out.2.2.2 j r (List.getElem?_eq_some_iff.1 hj).1 hj)
      clear hI hlog hlt
      have hrc := run_recordsS HR10.out HLS.out.2
      unfold ptrV at hrc
      go_wp2_with fail
      go_at_call 21
      refine hrc.mono ?_
      clear hrc
      rintro e w11 ⟨A1, C1, rfl, ⟨bk1, qs1, hs1⟩, hb11⟩
      have HS1a := Lib.hid hs1
      have HR11 := Lib.hid (HR10.out.below hb11)
      have HB11 := Lib.hid hb11
      clear hs1 hb11
      have hrc := run_recordsS HR11.out HLS.out.2
      unfold ptrV at hrc
      go_wp2_with fail
      go_at_call 21
      refine hrc.mono ?_
      clear hrc
      rintro e w12 ⟨A2, C2, rfl, ⟨bk2, qs2, hs2⟩, hb12⟩
      have HS2a := Lib.hid hs2
      have HR12 := Lib.hid (HR11.out.below hb12)
      have HB12 := Lib.hid hb12
      clear hs2 hb12
      have hst := run_stateS HR12.out HLS.out.1
      unfold ptrV at hst
      go_wp2_with fail
      go_at_call 19
      refine hst.mono ?_
      clear hst
      rintro e w13 ⟨k13, C13, ⟨rfl, hown13, hnew13, hlow13⟩⟩
      have HO13 := Lib.hid (show OwnR w13 5 1 (some ⟨k13, 0, none⟩) st.length C13 (st.map V8) (some k13) ∧ w12.heap.size ≤ k13 from ⟨hown13, hnew13⟩)
      have HR13 := Lib.hid (HR12.out.below hlow13)
      have HB13 := Lib.hid hlow13
      clear hown13 hnew13 hlow13
      have hst := run_stateS HR13.out HLS.out.1
      unfold ptrV at hst
      go_wp2_with fail
      go_at_call 19
      refine hst.mono ?_
      clear hst
      rintro e w14 ⟨k14, C14, ⟨rfl, hown14, hnew14, hlow14⟩⟩
      have HO14 := Lib.hid (show OwnR w14 5 1 (some ⟨k14, 0, none⟩) st.length C14 (st.map V8) (some k14) ∧ w13.heap.size ≤ k14 from ⟨hown14, hnew14⟩)
      have HR14 := Lib.hid (HR13.out.below hlow14)
      have HB14 := Lib.hid hlow14
      clear hown14 hnew14 hlow14
      have hli := l6lists_wide rs rs A1 R C1 K w14 ((((HS1a.out.below HB12.out).below HB13.out).below HB14.out).rows.wide) (HY.out.below HR14.out.low) (by have := HB.out; omega)
      rw [show (rs == rs) = true by simp] at hli
      go_wp2_with fail
      go_at_call 20
      refine hli.mono ?_
      clear hli
      rintro e w15 ⟨rfl, hb15⟩
      have HR15 := Lib.hid (HR14.out.below hb15)
      have HB15 := Lib.hid hb15
      clear hb15
      have hli := l6lists_wide rs rs A2 R C2 K w15 ((((HS2a.out.below HB13.out).below HB14.out).below HB15.out).rows.wide) (HY.out.below HR15.out.low) (by have := HB.out; omega)
      rw [show (rs == rs) = true by simp] at hli
      go_wp2_with fail
      go_at_call 20
      refine hli.mono ?_
      clear hli
      rintro e w16 ⟨rfl, hb16⟩
      have HR16 := Lib.hid (HR15.out.below hb16)
      have HB16 := Lib.hid hb16
      clear hb16
      have hs1 := Lib.hid (l6same_wide st st (some ⟨k13, 0, none⟩) A C13 C w16 (((HO13.out.1.below HB14.out).below HB15.out).below HB16.out).txt.wide (HX.out.below HR16.out.low))
      have hs2 := Lib.hid (l6same_wide st st (some ⟨k14, 0, none⟩) A C14 C w16 ((HO14.out.1.below HB15.out).below HB16.out).txt.wide (HX.out.below HR16.out.low))
      rw [show (st == st) = true by simp] at hs1 hs2
      go_upto_region 24 with (first | (go_at_call 18; refine hs2.out.mono ?_; rintro e w99 ⟨rfl, rfl⟩) | (go_at_call 18; refine hs1.out.mono ?_; rintro e w99 ⟨rfl, rfl⟩))
      have hal := (((HS1a.out.below HB12.out).below HB13.out).below HB14.out)
      have S1 := Lib.hid ((hal.below HB15.out).below HB16.out)
      have S2 := Lib.hid ((((HS2a.out.below HB13.out).below HB14.out).below HB15.out).below HB16.out)
      clear hal hs1 hs2
      have I0 := Lib.hid (AllI.nil w16)
      have Z1 := Lib.hid (show 0 + rs.length ≤ maxLen ∧ (0 + rs.length) * 24 ≤ 140737488355328 by have := HB.out; unfold maxLen; omega)
      go_upto_region 25 with (at_builtin; refine wpList_app0 rfl _ _ 23 rfl 22 1 24 (.slice none 0 0) Tryz.underlying23 (by kernel_rfl) rfl (by decide) none 0 0 [] none rfl I0.out.own A1 rs.length C1 (List.zipWith soleV rs qs1) rfl (by rw [List.length_zipWith, S1.out.len]; omega) S1.out.row.at_ S1.out.row.nilcap (fun u hu => by obtain ⟨i, p, q, _, _, rfl⟩ := mem_zipW hu; rfl) Z1.out.1 Z1.out.2 ?_; intro B17 D17 w17 b17 h2 h3 h4; have I17 := Lib.hid (I0.out.next h2 h3 h4); clear h2 h3 h4)
      have J17 : Hid (AllI w16 w17 B17 rs.length D17 (List.zipWith soleV rs qs1) b17) := Lib.hid (by have h := I17.out; simp only [Nat.zero_add, List.nil_append] at h; exact h)
      have T1 := Lib.hid (S1.out.below J17.out.low)
      have T2 := Lib.hid (S2.out.below J17.out.low)
      clear I0 I17
      have Z2 := Lib.hid (show rs.length + rs.length ≤ maxLen ∧ (rs.length + rs.length) * 24 ≤ 140737488355328 by have := HB.out; unfold maxLen; omega)
      go_upto_region 26 with (at_builtin; refine wpList_app0 rfl _ _ 23 rfl 22 1 24 (.slice none 0 0) Tryz.underlying23 (by kernel_rfl) rfl (by decide) B17 rs.length D17 _ b17 rfl J17.out.own A2 rs.length C2 (List.zipWith soleV rs qs2) rfl (by rw [List.length_zipWith, T2.out.len]; omega) T2.out.row.at_ T2.out.row.nilcap (fun u hu => by obtain ⟨i, p, q, _, _, rfl⟩ := mem_zipW hu; rfl) Z2.out.1 Z2.out.2 ?_; intro B18 D18 w18 b18 h2 h3 h4; have I18 := Lib.hid (J17.out.next h2 h3 h4); clear h2 h3 h4)
      have Z3 := Lib.hid (show rs.length + rs.length + 1 ≤ maxLen ∧ (rs.length + rs.length + 1) * 24 ≤ 140737488355328 by have := HB.out; unfold maxLen; omega)
      go_upto_region 27 with (at_builtin; refine wpList_app0 rfl _ _ 23 rfl 22 1 24 (.slice none 0 0) Tryz.underlying23 (by kernel_rfl) rfl (by decide) B18 (rs.length + rs.length) D18 _ b18 rfl (I18.out.own.below (low1 _ _)) (some ⟨w18.heap.size, 0, none⟩) 1 1 [own3V (st, k13, C13)] rfl rfl (CellsAt.of_block (blk1 _ _)) (fun h => by cases h) (by simp [own3V]; rfl) Z3.out.1 Z3.out.2 ?_; intro B19 D19 w19 b19 h2 h3 h4; have I19 := Lib.hid ((I18.out.below (low1 _ _)).next h2 h3 h4); clear h2 h3 h4)
      have Z4 := Lib.hid (show rs.length + rs.length + 1 + 1 ≤ maxLen ∧ (rs.length + rs.length + 1 + 1) * 24 ≤ 140737488355328 by have := HB.out; unfold maxLen; omega)
      go_upto_region 28 with (at_builtin; refine wpList_app0 rfl _ _ 23 rfl 22 1 24 (.slice none 0 0) Tryz.underlying23 (by kernel_rfl) rfl (by decide) B19 (rs.length + rs.length + 1) D19 _ b19 rfl (I19.out.own.below (low1 _ _)) (some ⟨w19.heap.size, 0, none⟩) 1 1 [own3V (st, k14, C14)] rfl rfl (CellsAt.of_block (blk1 _ _)) (fun h => by cases h) (by simp [own3V]; rfl) Z4.out.1 Z4.out.2 ?_; intro B20 D20 w20 b20 h2 h3 h4; have I20 := Lib.hid ((I19.out.below (low1 _ _)).next h2 h3 h4); clear h2 h3 h4)
      clear J17 I18 I19 Z1 Z2 Z3 Z4 T1 T2
      obtain ⟨bb, rfl, hb20⟩ : ∃ bb, B20 = some ⟨bb, 0, none⟩ ∧ b20 = some bb := by
        rcases I20.out.own.form with ⟨_, h0, _⟩ | ⟨bb, _, h1, h2, _⟩
        · omega
        · exact ⟨bb, h1, h2⟩
      obtain ⟨Q, hQ⟩ : ∃ Q, Q = soleQ rs qs1 ++ (soleQ rs qs2 ++ [((st, k13, C13) : Own3), (st, k14, C14)]) := ⟨_, rfl⟩
      have hQl : Q.length = rs.length + rs.length + 1 + 1 := by
        rw [hQ, List.length_append, List.length_append, soleQ_len HS1a.out, soleQ_len HS2a.out]
        simp
        omega
      have hQv : List.zipWith soleV rs qs1 ++ List.zipWith soleV rs qs2 ++ [own3V (st, k13, C13)] ++ [own3V (st, k14, C14)] = Q.map own3V := by
        rw [hQ, List.map_append, List.map_append, soleQ_vals, soleQ_vals]
        simp
      have hb1 := HB11.out.size
      have hb2 := HB12.out.size
      have hb3 := HB13.out.size
      have hb4 := HB14.out.size
      have hb5 := HB15.out.size
      have hb6 := HB16.out.size
      have hk13 : k13 < w13.heap.size := HO13.out.1.lt _ rfl
      have hk14 : k14 < w14.heap.size := HO14.out.1.lt _ rfl
      have hQm : ∀ q ∈ Q, OwnR w20 5 1 (some ⟨q.2.1, 0, none⟩) q.1.length q.2.2 (q.1.map V8) (some q.2.1) ∧ w10.heap.size ≤ q.2.1 ∧ q.2.1 < w16.heap.size ∧ q.1.length ≤ 4096 ∧ bk1 ≠ some q.2.1 := fun q hq => by
        have hrn := HS1a.out.row.lt
        rw [hQ] at hq
        rcases List.mem_append.1 hq with hq | hq
        · obtain ⟨a1, _, _, a4⟩ := soleQ_get (S1.out.below I20.out.low) hq
          obtain ⟨_, a2, a3, _⟩ := soleQ_get HS1a.out hq
          refine ⟨a1, a2, by omega, HSM.out _ a4, ?_⟩
          obtain ⟨i, hi⟩ := List.getElem?_of_mem hq
          unfold soleQ at hi
          rw [List.getElem?_zipWith] at hi
          cases hp : rs[i]? with
          | none => rw [hp] at hi; simp at hi
          | some p =>
            cases hq2 : qs1[i]? with
            | none => rw [hp, hq2] at hi; simp at hi
            | some y =>
              rw [hp, hq2] at hi
              obtain rfl := Option.some.inj hi
              exact (HS1a.out.new y (List.mem_of_getElem? hq2)).2
        · rcases List.mem_append.1 hq with hq | hq
          · obtain ⟨a1, _, _, a4⟩ := soleQ_get (S2.out.below I20.out.low) hq
            obtain ⟨_, a2, a3, _⟩ := soleQ_get HS2a.out hq
            exact ⟨a1, by omega, by omega, HSM.out _ a4, fun e => by have := hrn _ e; omega⟩
          · simp only [List.mem_cons, List.not_mem_nil, or_false] at hq
            have h3 := HO13.out.2
            have h4 := HO14.out.2
            rcases hq with rfl | rfl
            · exact ⟨((((HO13.out.1.below HB14.out).below HB15.out).below HB16.out)).below I20.out.low, by show _ ≤ k13; omega, by show k13 < _; omega, HB.out.2, fun e => by have := hrn _ e; show False; simp only at this; omega⟩
            · exact ⟨((HO14.out.1.below HB15.out).below HB16.out).below I20.out.low, by show _ ≤ k14; omega, by show k14 < _; omega, HB.out.2, fun e => by have := hrn _ e; show False; simp only at this; omega⟩
      have hbbn := I20.out.new bb hb20
      have hnd : (Q.map (·.2.1)).Nodup := by
        rw [hQ]
        exact four_apart HS1a.out HS2a.out hb2 ⟨HO13.out.2, hk13⟩ HO14.out.2
      have hown20 := I20.out.own
      rw [hQv] at hown20
      have hal := l6alone_list (w := w20) (b := bb) (C := D20) Q (fun i q hq => by
        obtain ⟨x, hx, _, hc⟩ := hown20.cell (j := i) (v := own3V q) (by rw [List.getElem?_map, hq]; rfl)
        obtain rfl : bb = x := by cases hx; rfl
        exact hc) (fun q hq => (hQm q hq).1) hnd (fun q hq e => by have := (hQm q hq).2.2.1; omega) (fun q hq => (hQm q hq).2.2.2.1) (by rw [hQl]; have := HB.out; omega)
      rw [hQl] at hal
      have HQM := Lib.hid hQm
      have hz20 : RunZ (fun b => w10.heap.size ≤ b) w w20 g dg d L := HR10.out.add (bthen HB11.out (bthen HB12.out (bthen HB13.out (bthen HB14.out (bthen HB15.out (bthen HB16.out I20.out.low)))))) fun _ h => h
      have HZ20 := Lib.hid hz20
      have HROW20 := Lib.hid (S1.out.row.below I20.out.low)
      have HBN := Lib.hid (show ∀ x, bk1 = some x → w10.heap.size ≤ x from HS1a.out.rnew)
      have HWW := Lib.hid HR10.out.low.size
      clear hQv hQl hnd hown20 hbbn hQm hb20 hz20 hb1 hb2 hb3 hb4 hb5 hb6 hk13 hk14 hQ S1 S2 I20
      go_wp2_with fail
      go_at_call 28
      refine hal.mono ?_
      clear hal
      rintro e w21 ⟨rfl, hk21⟩
      have HZ21 := Lib.hid (HZ20.out.other hk21 fun b ⟨q, hq, e⟩ => by
        have := (HQM.out q hq).2.1
        have := HWW.out
        exact ⟨by show _ ≤ b; omega, by omega⟩)
      have HROW21 := Lib.hid (HROW20.out.kept hk21 fun b hb ⟨q, hq, e⟩ => (HQM.out q hq).2.2.2.2 (by rw [hb, e]))
      clear hk21
      go_wp2
      go_loopw [15] (fun iv wr => ∃ i : Nat, iv = .int .i64 i ∧ Hid (i ≤ rs.length ∧ (∃ vals, OwnR wr 22 1 A1 rs.length C1 vals bk1) ∧ Kept (fun x => bk1 = some x) w21 wr)) (fun iv _ => rs.length - (intOf iv).toNat)
      case atStart => exact ⟨0, rfl, Lib.hid ⟨Nat.zero_le _, ⟨_, HROW21.out⟩, Kept.refl _ _⟩⟩
      case round =>
        obtain ⟨i, rfl, hI⟩ := hrel
        by_cases hlt : i < rs.length
        · have l2 : (i : Int) < rs.length := by omega
          have l0 : (0 : Int) ≤ (i : Int) := by omega
          have hiw : IntKind.i64.wrap ((i : Int) + 1) = (i : Int) + 1 := IntWalk.i64_in _ (by have := HB.out; omega)
          obtain ⟨vals, hv⟩ := hI.out.2.1
          obtain ⟨ba, rfl, rfl⟩ : ∃ ba, A1 = some ⟨ba, 0, none⟩ ∧ bk1 = some ba := by
            rcases hv.form with ⟨_, h0, _⟩ | ⟨ba, _, h1, h2, _⟩
            · omega
            · exact ⟨ba, h1, h2⟩
          obtain ⟨p1, p2, fz, ⟨u, _, c0⟩, p5⟩ := hv.put hlt (.slice none 0 0)
          have P1 := Lib.hid p1
          have P2 := Lib.hid p2
          clear hv p1 p2 p5
          go_wp2
          exact ⟨⟨i + 1, by simp, Lib.hid ⟨by omega, ⟨_, P1.out⟩, hI.out.2.2.then (P2.out.mono fun x _ e => by rw [e])⟩⟩, by simp [intOf]; omega⟩
        · have l2 : ¬ (i : Int) < rs.length := by omega
          rename World => w22
          obtain ⟨vals, hv⟩ := hI.out.2.1
          have HV := Lib.hid hv
          have hz22 := HZ21.out.other hI.out.2.2 fun b e => by
            have := HBN.out b e
            have := HWW.out
            exact ⟨by show _ ≤ b; omega, by omega⟩
          have HZ22 := Lib.hid hz22
          have Z5 := Lib.hid (show rs.length + 1 ≤ maxLen ∧ (rs.length + 1) * 24 ≤ 140737488355328 by have := HB.out; unfold maxLen; omega)
          clear hv hz22 hI
          go_upto_region 35 with (at_builtin; refine wpList_app0 rfl _ _ 23 rfl 22 1 24 (.slice none 0 0) Tryz.underlying23 (by kernel_rfl) rfl (by decide) A1 rs.length C1 _ bk1 rfl (HV.out.below (low1 _ _)) (some ⟨w22.heap.size, 0, none⟩) 1 1 [.slice none 0 0] rfl rfl (CellsAt.of_block (blk1 _ _)) (fun h => by cases h) (by simp; rfl) Z5.out.1 Z5.out.2 ?_; intro B23 D23 w23 b23 h2 h3 h4; have H23 := Lib.hid h3; clear h2 h3 h4)
          have hz23 := HZ22.out.other (F := fun x => bk1 = some x) (((Kept.refl (fun x => bk1 = some x) w22).alloc _).grown H23.out fun x e => .inl e) fun b e => by
            have := HBN.out b e
            have := HWW.out
            exact ⟨by show _ ≤ b; omega, by omega⟩
          have HR23 := Lib.hid hz23.run
          clear hz23
          have hst := run_stateS HR23.out HLS.out.1
          unfold ptrV at hst
          go_wp2_with fail
          go_at_call 19
          refine hst.mono ?_
          clear hst
          rintro e w24 ⟨k24, C24, ⟨rfl, hown24, hnew24, hlow24⟩⟩
          have HR24 := Lib.hid (HR23.out.below hlow24)
          have hsm := Lib.hid (l6same_wide st st (some ⟨k24, 0, none⟩) A C24 C w24 hown24.txt.wide (HX.out.below HR24.out.low))
          rw [show (st == st) = true by simp] at hsm
          have hrc := run_recordsS HR24.out HLS.out.2
          unfold ptrV at hrc
          have HRC := Lib.hid hrc
          clear hown24 hnew24 hlow24 hrc
          go_wp2_with (go_at_call 18; refine hsm.out.mono ?_; rintro e w99 ⟨rfl, rfl⟩)
          go_at_call 21
          refine HRC.out.mono ?_
          rintro e w25 ⟨A25, C25, rfl, ⟨bk25, qs25, hs25⟩, hb25⟩
          have HR25 := Lib.hid (HR24.out.below hb25)
          have hli := Lib.hid (l6lists_wide rs rs A25 R C25 K w25 hs25.rows.wide (HY.out.below HR25.out.low) (by have := HB.out; omega))
          rw [show (rs == rs) = true by simp] at hli
          clear hs25 hb25 HRC hsm
          go_wp2_with fail
          go_at_call 20
          refine hli.out.mono ?_
          rintro e w26 ⟨rfl, hb26⟩
          have HL26 := Lib.hid (HR25.out.below hb26).low
          clear hb26 hli
          go_wp2
          go_ret
          exact ⟨rfl, HL26.out⟩
end Go.Proofs.YtgpenpnobjecgaaGreatDoor
