/- A disk of a law's own, step by step: armed; opened without a log; files that came in. -/
import Derived.Test.YtgpenpnobjecgaaGreatDoorJWalOwnCard15
import Derived.Test.YtgpenpnobjecgaaGreatDoorJWalOwnCard24
import Derived.Test.YtgpenpnobjecgaaGreatDoorJWalOwnCard26
import Derived.Test.YtgpenpnobjecgaaGreatDoorJWalOwnCard40
import Derived.Test.YtgpenpnobjecgaaGreatDoorJWalOwnCard42
/- Ours -/
namespace Go.Proofs.YtgpenpnobjecgaaGreatDoor
set_option maxRecDepth 100000
open Go.RowKit Dk

/-- Files that came in. -/
structure FilesW (w : World) (A : Option Addr) (n : Nat) (l : List (Bs × Bs)) : Prop where
  len : n = l.length
  each : ∀ i p, l[i]? = some p → ∃ b o B c, A = some ⟨b, o, none⟩ ∧ w.cell? ⟨b, o + i * 2, none⟩ = some (strV p.1) ∧ w.cell? ⟨b, o + i * 2 + 1, none⟩ = some (.slice B p.2.length c) ∧ TxtW w B p.2.length c p.2
theorem FilesW.below {w w' : World} {A : Option Addr} {n : Nat} {l : List (Bs × Bs)} (h : FilesW w A n l) (hb : RowKit.Below w.heap.size w w') : FilesW w' A n l :=
  ⟨h.len, fun i p hp => by
    obtain ⟨b, o, B, c, h1, h2, h3, h4⟩ := h.each i p hp
    exact ⟨b, o, B, c, h1, (hb.cell (p := ⟨b, o + i * 2, none⟩) (World.block_lt_of_cell? w _ h2)).trans h2, (hb.cell (p := ⟨b, o + i * 2 + 1, none⟩) (World.block_lt_of_cell? w _ h3)).trans h3, h4.below hb⟩⟩
theorem run_index_files (w : World) (b o n C i : Nat) (hi : i < n) : (Instr.indexAt 36 (.slice (some ⟨b, o, none⟩) n C) (.int .i64 (i : Int))).run Tryz.prog w = .ok (.pointer (some ⟨b, o + i * 2, none⟩)) w := by
  have h := run_indexAt_slice (P := Tryz.prog) (w := w) 36 ⟨b, o, none⟩ n C .i64 i Tryz.underlying36
  rw [if_pos ⟨by omega, by omega⟩, show (sizeOf (Tryz.prog.elem 36)).run Tryz.prog w = .ok 2 w by kernel_rfl] at h
  rw [h]
  simp [Result.andThen, Addr.add_lit]
theorem run_build_afileW (w : World) (s : Bs) (A : Option Addr) (n C : Nat) : (Instr.buildSlice 36 1 #[(0, .agg #[strV s, .slice A n C])]).run Tryz.prog w = .ok (.slice (some ⟨w.heap.size, 0, none⟩) 1 1) (w.alloc (.cells #[strV s, .slice A n C] 35)) := by kernel_rfl
set_option maxRecDepth 100000 in
set_option maxHeartbeats 4000000 in
theorem l6ours_any {w : World} {A : Option Addr} {C : Nat} {l : List (Bs × Bs)} (X : FilesW w A l.length l) (hl : l.length ≤ 1048576) (hb : ∀ p ∈ l, p.2.length ≤ 1048576) :
    Calls Tryz.prog 29 #[.slice A l.length C] w fun e w' => ∃ B D, e = .returned (.slice B l.length D) ∧ FilesAt w' B l.length D l (fun b => w.heap.size ≤ b) ∧ RowKit.Below w.heap.size w w' := by
  have HX := Lib.hid X
  have HLB := Lib.hid hb
  have HLL := Lib.hid hl
  clear X hb hl
  go_enter Tryz.func29, Tryz.ntmps29
  go_wp2
  go_loopw [3, 4] (fun mv iv wr => ∃ (i : Nat) (B : Option Addr) (D : Nat) (qs : List (Option Addr × Nat)) (bk : Option Nat), mv = .slice B i D ∧ iv = .int .i64 i ∧ Hid (i ≤ l.length ∧ Bunch wr w.heap.size 35 2 B i D (List.zipWith fileEl (l.take i) qs) bk ∧ qs.length = i ∧ (i = 0 → B = none) ∧ RowKit.Below w.heap.size w wr)) (fun _ iv _ => l.length - (intOf iv).toNat)
  case atStart => exact ⟨0, none, 0, [], none, rfl, rfl, Lib.hid ⟨Nat.zero_le _, Bunch.nil _ _ _ _, rfl, fun _ => rfl, Below.refl _ _⟩⟩
  case round =>
    obtain ⟨i, B, D, qs, bk, rfl, rfl, hI⟩ := hrel
    by_cases hlt : i < l.length
    · have h1 : (i : Int) < l.length := by omega
      obtain ⟨p, hp⟩ : ∃ p, l[i]? = some p := ⟨_, List.getElem?_eq_getElem hlt⟩
      obtain ⟨b, o, Bp, cp, rfl, q1, q2, q3⟩ := (HX.out.below hI.out.2.2.2.2).each i p hp
      obtain ⟨s, y⟩ := p
      simp only at q1 q2 q3
      have HQ1 := Lib.hid q1
      have HQ2 := Lib.hid q2
      have HQ3 := Lib.hid q3
      have HP := Lib.hid hp
      have HYL := Lib.hid (show y.length ≤ 1048576 from HLB.out _ (List.mem_of_getElem? hp))
      have hil : i < 1048576 := by have := HLL.out; omega
      clear q1 q2 q3 hp
      go_upto_region 5 with (fail)
      have z1 : 0 + y.length ≤ maxLen := by have := HYL.out; unfold maxLen; omega
      have z2 : (0 + y.length) * 1 ≤ 140737488355328 := by have := HYL.out; omega
      have z3 : i + 1 ≤ maxLen := by unfold maxLen; omega
      have z4 : (i + 1) * 40 ≤ 140737488355328 := by omega
      have h7d : RowKit.Below wr.heap.size wr wr.drew := (Below.refl _ _).drew
      obtain ⟨w71, hw71⟩ : ∃ W, W = wr.drew.alloc (.cells #[] 5) := ⟨_, rfl⟩
      have h71 : RowKit.Below wr.heap.size wr w71 := by rw [hw71]; exact bthen h7d (low1 _ _)
      have hb71 : w71.heap[wr.drew.heap.size]? = some (.cells #[] 5 (0, 0)) := by rw [hw71]; exact blk1 _ _
      obtain ⟨B9, D9, w9, b9, hrun9, ho9, hg9, hb9⟩ := run_app0 (P := Tryz.prog) 22 22 _ Tryz.underlying22 info_u8r rfl (by decide) (OwnR.of_row hb71 (Nat.le_refl _) (Nat.zero_le _) rfl rfl) Bp y.length cp (y.map V8) (by simp) (HQ3.out.below h71).cells HQ3.out.nil (bone y) z1 z2
      simp only [Nat.zero_add] at hrun9 ho9
      have h79 : RowKit.Below wr.heap.size wr w9 := ((Kept.of_below (F := fun b => b = wr.drew.heap.size) h71).grown hg9 fun b hb => .inl (Option.some.inj hb).symm).below fun b hlt e => by have := h7d.size; omega
      obtain ⟨w73, hw73⟩ : ∃ W, W = w9.alloc (.cells #[strV s, .slice B9 y.length D9] 35) := ⟨_, rfl⟩
      have h73 : RowKit.Below wr.heap.size wr w73 := by rw [hw73]; exact bthen h79 (low1 _ _)
      have hb73 : w73.heap[w9.heap.size]? = some (.cells #[strV s, .slice B9 y.length D9] 35 (0, 0)) := by rw [hw73]; exact blk1 _ _
      obtain ⟨B8, D8, w8, b8, hrun8, ho8, hg8, hb8⟩ := run_app0 (P := Tryz.prog) 36 36 (.agg #[.string ⟨#[]⟩, .slice none 0 0]) Tryz.underlying36 (by kernel_rfl) rfl (by decide) (hI.out.2.1.row.below h73) (some ⟨w9.heap.size, 0, none⟩) 1 1 [strV s, .slice B9 y.length D9] rfl (CellsAt.of_block hb73) (fun h => by cases h) (by simp; exact ⟨rfl, rfl⟩) z3 z4
      have hk8 : Kept (fun k => bk = some k) wr w8 := (Kept.of_below h73).grown hg8 (fun k e => .inl e)
      have hbb : ¬ bk = some b ∨ ¬ bk = some b := .inl fun e => by
        have h1 := hI.out.2.1.fresh _ e
        have h2 := World.block_lt_of_cell? _ _ HQ1.out
        have h3 := HX.out.each i _ HP.out
        obtain ⟨b4, o4, _, _, e4, h4, _⟩ := h3
        have h5 := World.block_lt_of_cell? _ _ h4
        injection e4 with e4
        injection e4 with e4 _
        simp only at h5
        omega
      have hall : ∀ k W, seqW wr.drew w71 w9 w73 w8 k W → W.cell? ⟨b, o + i * 2, none⟩ = some (strV s) ∧ W.cell? ⟨b, o + i * 2 + 1, none⟩ = some (.slice Bp y.length cp) := fun k W h => by
        have key : ∀ {W}, RowKit.Below wr.heap.size wr W → W.cell? ⟨b, o + i * 2, none⟩ = some (strV s) ∧ W.cell? ⟨b, o + i * 2 + 1, none⟩ = some (.slice Bp y.length cp) := fun hb => ⟨(hb.cell (p := ⟨b, o + i * 2, none⟩) (World.block_lt_of_cell? _ _ HQ1.out)).trans HQ1.out, (hb.cell (p := ⟨b, o + i * 2 + 1, none⟩) (World.block_lt_of_cell? _ _ HQ2.out)).trans HQ2.out⟩
        rcases seqW_one h with rfl | rfl | rfl | rfl | rfl
        · exact key h7d
        · exact key h71
        · exact key h79
        · exact key h73
        · exact ⟨hk8.cell HQ1.out (fun e => hbb.elim (· e) (· e)), hk8.cell HQ2.out (fun e => hbb.elim (· e) (· e))⟩
      have HALL := Lib.hid hall
      have HW71 := Lib.hid hw71
      have HW73 := Lib.hid hw73
      have HRUN9 := Lib.hid hrun9
      have HRUN8 := Lib.hid hrun8
      have HO9 := Lib.hid ho9
      have HO8 := Lib.hid ho8
      have HG8 := Lib.hid hg8
      have HB9 := Lib.hid hb9
      have HB8 := Lib.hid hb8
      have HK8 := Lib.hid hk8
      have H79 := Lib.hid h79
      have H73 := Lib.hid h73
      clear h7d hw71 h71 hb71 hrun9 ho9 hg9 hb9 h79 hw73 h73 hb73 hrun8 ho8 hg8 hb8 hk8 hall hbb
      -- REGION5
      refine wp_region_inv 16 28 (fun _ _ => True) [6, 12, 14, 15] (seqW wr.drew w71 w9 w73 w8) (by kernel_rfl) (by kernel_rfl) (by kernel_rfl) (by kernel_rfl) (by kernel_rfl) [.is (.slice B i D : Value), .is (.slice (some ⟨b, o, none⟩) l.length C : Value), .is (.int .i64 (i : Int) : Value), .is (.pointer (some ⟨b, o + i * 2, none⟩) : Value), .is (.pointer (some ⟨b, o + i * 2, none⟩) : Value), .is (strV s), .is (.slice (some ⟨wr.drew.heap.size, 0, none⟩) 0 0 : Value), .is (.slice (some ⟨b, o, none⟩) l.length C : Value), .is (.int .i64 (i : Int) : Value), .is (.pointer (some ⟨b, o + i * 2, none⟩) : Value), .is (.pointer (some ⟨b, o + i * 2 + 1, none⟩) : Value), .is (.slice Bp y.length cp : Value), .is (.slice B9 y.length D9 : Value), .is (.agg #[strV s, .slice B9 y.length D9] : Value), .is (.slice (some ⟨w9.heap.size, 0, none⟩) 1 1 : Value), .is (.slice B8 (i + 1) D8 : Value)] rfl (rfl) (fun vs => ?_) (fun vs wv hI h => ?_)
      · refine RegHeadI.cons (fun S wv hd hSk hSd hI h => ?_) ?_
        · exact relAtI.pure ⟨trivial, keepI (by decide) hI⟩ (by kernel_rfl) (by kernel_rfl)
        refine RegHeadI.cons (fun S wv hd hSk hSd hI h => ?_) ?_
        · exact relAtI.pure ⟨trivial, keepI (by decide) hI⟩ (by kernel_rfl) (by kernel_rfl)
        refine RegHeadI.cons (fun S wv hd hSk hSd hI h => ?_) ?_
        · exact relAtI.pure ⟨trivial, keepI (by decide) hI⟩ (by kernel_rfl) (by kernel_rfl)
        refine RegHeadI.cons (fun S wv hd hSk hSd hI h => ?_) ?_
        · exact relAtI.pureS ⟨trivial, keepI (by decide) hI⟩ (by kernel_rfl) (by kernel_rfl) (run_index_files wv b o l.length C i hlt)
        refine RegHeadI.cons (fun S wv hd hSk hSd hI h => ?_) ?_
        · exact relAtI.pure ⟨trivial, keepI (by decide) hI⟩ (by kernel_rfl) (by kernel_rfl)
        refine RegHeadI.cons (fun S wv hd hSk hSd hI h => ?_) ?_
        · exact relAtI.pureS ⟨trivial, keepI (by decide) hI⟩ (by kernel_rfl) (by kernel_rfl) (run_load_str1 (HALL.out _ _ hI).1)
        refine RegHeadI.cons (fun S wv hd hSk hSd hI h => ?_) ?_
        · have s2 : S 12 = false := hd.not 16 hSk (by decide) (by decide)
          have hw : wv = wr.drew := by have hI := hI; simp only [List.map, hSk] at hI; exact hI
          subst hw
          exact relAtI.valueS (by kernel_rfl) (by kernel_rfl) (run_build_none _) ⟨trivial, by simp only [List.map, setB, s2]; exact HW71.out.symm⟩ rfl
        refine RegHeadI.cons (fun S wv hd hSk hSd hI h => ?_) ?_
        · exact relAtI.pure ⟨trivial, keepI (by decide) hI⟩ (by kernel_rfl) (by kernel_rfl)
        refine RegHeadI.cons (fun S wv hd hSk hSd hI h => ?_) ?_
        · exact relAtI.pure ⟨trivial, keepI (by decide) hI⟩ (by kernel_rfl) (by kernel_rfl)
        refine RegHeadI.cons (fun S wv hd hSk hSd hI h => ?_) ?_
        · exact relAtI.pureS ⟨trivial, keepI (by decide) hI⟩ (by kernel_rfl) (by kernel_rfl) (run_index_files wv b o l.length C i hlt)
        refine RegHeadI.cons (fun S wv hd hSk hSd hI h => ?_) ?_
        · exact relAtI.pure ⟨trivial, keepI (by decide) hI⟩ (by kernel_rfl) (by kernel_rfl)
        refine RegHeadI.cons (fun S wv hd hSk hSd hI h => ?_) ?_
        · exact relAtI.pureS ⟨trivial, keepI (by decide) hI⟩ (by kernel_rfl) (by kernel_rfl) (run_load_bytes (HALL.out _ _ hI).2)
        refine RegHeadI.cons (fun S wv hd hSk hSd hI h => ?_) ?_
        · have s1 : S 6 = true := hSd 6 (by decide)
          have s3 : S 14 = false := hd.not 16 hSk (by decide) (by decide)
          have hw : wv = w71 := by have hI := hI; simp only [List.map, hSk, s1] at hI; exact hI
          subst hw
          exact relAtI.valueS (by kernel_rfl) (by kernel_rfl) HRUN9.out ⟨trivial, by simp only [List.map, setB, s1, s3]; rfl⟩ rfl
        refine RegHeadI.cons (fun S wv hd hSk hSd hI h => ?_) ?_
        · exact relAtI.pure ⟨trivial, keepI (by decide) hI⟩ (by kernel_rfl) (by kernel_rfl)
        refine RegHeadI.cons (fun S wv hd hSk hSd hI h => ?_) ?_
        · have s2 : S 12 = true := hd.come 16 13 12 (by decide) (hSd 13 (by decide)) (by decide)
          have s1 : S 6 = true := hd.come 16 12 6 (by decide) s2 (by decide)
          have s4 : S 15 = false := hd.not 16 hSk (by decide) (by decide)
          have hw : wv = w9 := by have hI := hI; simp only [List.map, hSk, s1, s2] at hI; exact hI
          subst hw
          exact relAtI.valueS (by kernel_rfl) (by kernel_rfl) (run_build_afileW _ _ _ _ _) ⟨trivial, by simp only [List.map, setB, s1, s2, s4]; exact HW73.out.symm⟩ rfl
        refine RegHeadI.cons (fun S wv hd hSk hSd hI h => ?_) ?_
        · have s3 : S 14 = true := hSd 14 (by decide)
          have s2 : S 12 = true := hd.come 16 14 12 (by decide) s3 (by decide)
          have s1 : S 6 = true := hd.come 16 12 6 (by decide) s2 (by decide)
          have hw : wv = w73 := by have hI := hI; simp only [List.map, hSk, s1, s2, s3] at hI; exact hI
          subst hw
          exact relAtI.valueS (by kernel_rfl) (by kernel_rfl) HRUN8.out ⟨trivial, by simp only [List.map, setB, s1, s2, s3]; rfl⟩ rfl
        exact trivial
      · have hw : wv = w8 := hI
        subst hw
        clear h hI
        refine wp_frame2 (ps := [(11, [(.slice B i D : Value), (.slice (some ⟨b, o, none⟩) l.length C : Value), (.int .i64 (i : Int) : Value), (.pointer (some ⟨b, o + i * 2, none⟩) : Value), (.pointer (some ⟨b, o + i * 2, none⟩) : Value), (strV s), (.slice (some ⟨wr.drew.heap.size, 0, none⟩) 0 0 : Value), (.slice (some ⟨b, o, none⟩) l.length C : Value), (.int .i64 (i : Int) : Value), (.pointer (some ⟨b, o + i * 2, none⟩) : Value), (.pointer (some ⟨b, o + i * 2 + 1, none⟩) : Value), (.slice Bp y.length cp : Value), (.slice B9 y.length D9 : Value), (.agg #[strV s, .slice B9 y.length D9] : Value), (.slice (some ⟨w9.heap.size, 0, none⟩) 1 1 : Value), (.slice B8 (i + 1) D8 : Value)])]) (by kernel_rfl) ?_
        simp only [overlay, List.take, List.drop, List.cons_append, List.nil_append, List.length_cons, List.length_nil, Nat.reduceAdd]
      -- END5
        go_wp2
        have ho9 : OwnR w9 5 1 B9 y.length D9 (y.map V8) b9 := by simpa using HO9.out
        have hT9 : Txt w73 B9 y.length D9 y := (ho9.txt).below (by rw [HW73.out]; exact low1 _ _)
        have hb9 : ∀ ad, B9 = some ad → wr.heap.size ≤ ad.block := fun ad had => by
          obtain ⟨k, hk, hkl⟩ : ∃ k, b9 = some k ∧ wr.heap.size ≤ k := by
            rcases HB9.out with e | e
            · exact ⟨_, e, Nat.le_refl _⟩
            · exact ⟨_, e, by rw [HW71.out]; simp⟩
          rw [hk] at ho9
          rw [own_addr ho9] at had
          rw [← Option.some.inj had]
          exact hkl
        have hbs : w.heap.size ≤ wr.heap.size := hI.out.2.2.2.2.size
        have hbn := (hI.out.2.1.below H73.out).push (fileEl (s, y) (B9, D9)) HG8.out (by have := HO8.out; exact this) HB8.out (Nat.le_trans hbs H73.out.size) (fun q hq => by
          obtain rfl := List.mem_singleton.1 (show q ∈ [(B9, D9, y)] from hq)
          refine ⟨hT9, fun ad had => ⟨Nat.le_trans hbs (hb9 ad had), fun e => ?_⟩⟩
          have h1 := hI.out.2.1.row.lt _ e
          have h2 := hb9 ad had
          omega)
        rw [zip_next fileEl HP.out hI.out.2.2.1] at hbn
        have hlow8 : RowKit.Below w.heap.size w wv := (bthen hI.out.2.2.2.2 H73.out).grown HG8.out (Nat.le_trans hbs H73.out.size) (fun b hb => hI.out.2.1.fresh b hb)
        exact ⟨⟨i + 1, B8, D8, qs ++ [(B9, D9)], b8, rfl, by simp, Lib.hid ⟨by omega, hbn, by simp [hI.out.2.2.1], fun h => by omega, hlow8⟩⟩, by simp [intOf]; omega⟩
    · obtain rfl : i = l.length := by have := hI.out.1; omega
      have h1 : ¬ (l.length : Int) < (l.length : Int) := by omega
      go_wp2
      go_ret
      have hq := hI.out.2.1
      rw [List.take_length] at hq
      exact ⟨B, D, rfl, hq.files hI.out.2.2.1 rfl (fun ad had e => by
        rcases hq.row.form with ⟨_, h0, _⟩ | ⟨g2, _, _, h2, _⟩
        · have := hI.out.2.2.2.1 h0
          rw [this] at had; cases had
        · rw [e] at h2; cases h2), hI.out.2.2.2.2⟩
end Go.Proofs.YtgpenpnobjecgaaGreatDoor

/- LawE -/
namespace Go.Proofs.YtgpenpnobjecgaaGreatDoor
set_option maxRecDepth 100000
open Go.RowKit Dk

section
variable {w w1 W : World} {g dg : Nat} {d d' : DiskS} {q : Nat}
theorem run_arm (h : DRun w w1 dg d) (n : Int) (hn : n ≤ 9223372036854775807) : Calls Tryz.prog 30 #[ptrV dg, .int .i64 n] w1 fun e w' => e = .returned (.tuple #[]) ∧ DRun w w' dg (Dk.arm d n) := by
  obtain ⟨recs, own, hd, hO, hf, hl⟩ := h
  have hm : foot own dg := DAtU.mine hd
  refine (arm_any hd hO n hn).mono ?_
  rintro e w2 ⟨rfl, hd2, hO2, hk⟩
  exact ⟨rfl, recs, own, hd2, hO2, hf, ((Kept.of_below (F := foot own) hl).then (hk.mono fun b _ e => e ▸ hm)).below fun b hlt h => by have := hf b h; omega⟩
theorem run_open_none (hT : Tabs6 w) (h : DRun w w1 dg d) (hr : openW d = (d', none, q)) :
    Calls Tryz.prog 16 #[ptrV dg] w1 fun e w' => e = .returned (.tuple #[.pointer none, .int .i64 q]) ∧ DRun w w' dg d' := by
  obtain ⟨recs, own, hd, hO, hf, hl⟩ := h
  have hop := wopen_any hd hO (w0 := w) ⟨hT, hl, hf⟩
  rw [hr] at hop
  refine hop.mono ?_
  rintro e w2 ⟨hO2, recs2, own2, hd2, ht2, he⟩
  have he' : e = .returned (.tuple #[.pointer none, .int .i64 q]) := he
  subst he'
  refine ⟨rfl, recs2, own2, hd2, hO2, fun b hb => ?_, ((Kept.of_below (F := foot own) hl).then ht2.kept).below fun b hlt hf2 => by have := hf b hf2; omega⟩
  rcases Nat.lt_or_ge b w1.heap.size with h | h
  · exact hf b (ht2.foot b h hb)
  · exact Nat.le_trans hl.size h
theorem run_new_none {l : List (Bs × Bs)} {A : Option Addr} {C : Nat} {G : Nat → Prop} (hF : FilesAt W A l.length C l G) {R : Int} (hR : -9223372036854775808 ≤ R ∧ R ≤ 9223372036854775807) (hn : ∀ p ∈ l, p.1.length ≤ maxLen) (hll : l.length ≤ 4611686018427387904) (hr : Dk.new l R = (none, q)) :
    Calls Tryz.prog 13 #[.slice A l.length C, .int .i64 R] W fun e w' => e = .returned (.tuple #[.pointer none, .int .i64 q]) ∧ RowKit.Below W.heap.size W w' := by
  refine (new_any l A C G hF R hR hn hll).mono ?_
  rw [hr]
  rintro e w' ⟨hb, he⟩
  exact ⟨he, hb⟩
end
end Go.Proofs.YtgpenpnobjecgaaGreatDoor
