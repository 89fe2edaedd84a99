/- (*wal.Log).read. -/
import Derived.Deep.Cut
import Derived.Deep.RegionLaw
import Derived.Test.YtgpenpnobjecgaaGreatDoorJWalSafeCard21
/- WRead -/
namespace Go.Proofs.YtgpenpnobjecgaaGreatDoor
set_option maxRecDepth 100000
open Go.RowKit Dk

def loadsF : Nat → List FrameS → Option (List Bs)
  | _, [] => some []
  | i, f :: t => match loadF f 2 i 65536 with
    | none => none
    | some r => (loadsF (i + 1) t).map (r :: ·)
/-- What a generation's file tells. -/
structure ReadS where
  state : Bs
  records : List Bs
  whole : Nat
  cut : Nat
def readB (b : Bs) (n : Nat) : Option ReadS :=
  match (scanF b).1 with
  | [] => none
  | f :: t => if (scanF b).2.2 ≠ 0 ∧ (scanF b).2.2 ≠ 3 then none else
    match loadF f 1 n 1048576 with
    | none => none
    | some st => match loadsF 1 t with
      | none => none
      | some rs => some ⟨st, rs, (scanF b).2.1, b.length - (scanF b).2.1⟩
/-- (*wal.Log).read. -/
def readW (d : DiskS) (n : Nat) : Option ReadS × Nat :=
  if (Dk.read d (nameW n)).2 ≠ 0 then (none, (Dk.read d (nameW n)).2) else
  match readB (Dk.read d (nameW n)).1 n with
  | none => (none, 61)
  | some r => (some r, 0)
def readL (L : LogS) (n : Nat) (r : ReadS) : LogS := { L with epoch := n, state := r.state, records := r.records, size := r.whole }
def RPost (w : World) (g dg : Nat) (L : LogS) (lf : Nat → Prop) (n : Nat) (r : Option ReadS × Nat) (e : Ending) (w' : World) : Prop :=
  match r.1 with
  | some s => e = .returned (.int .i64 s.cut) ∧ ∃ lf', LogAt w' g dg (readL L n s) lf' ∧ Turned lf lf' w w'
  | none => e = stopped r.2 ∧ Kept lf w w'
theorem read_len {d : DiskS} (hO : Ok d) (s : Bs) : (Dk.read d s).1.length ≤ 4194304 := by
  unfold Dk.read
  split
  · simp
  · cases h : dget d.dir s with
    | none => simp
    | some i =>
      have := (hO.dget_lt h).1
      exact (hO.len (fileAt d.files i) (by rw [fileAt_eq this]; simp)).1
theorem openF_load (x : Bs) : (openF x).1.2.length ≤ 2097152 := by
  unfold openF
  split
  · next h =>
    obtain ⟨_, _, _, h4, _⟩ := sizeF_code x h
    simp only [List.length_drop, List.length_take, frameLen]
    omega
  · simp
theorem scanFrom_mem : ∀ (k : Nat) (x : Bs) (n : Nat) (acc : List FrameS), (∀ f ∈ acc, f.2.length ≤ 2097152) → acc.length ≤ n → n ≤ x.length → (∀ f ∈ (scanFrom k x n acc).1, f.2.length ≤ 2097152) ∧ (scanFrom k x n acc).1.length ≤ x.length ∧ (scanFrom k x n acc).2.1 ≤ x.length
  | 0, x, n, acc, h, h1, h2 => ⟨h, Nat.le_trans h1 h2, h2⟩
  | k + 1, x, n, acc, h, h1, h2 => by
    unfold scanFrom
    split
    · split
      · next h3 =>
        have hl := openF_len (x.drop n) h3
        rw [List.length_drop] at hl
        refine scanFrom_mem k x _ _ (fun f hf => ?_) (by simp; omega) (by omega)
        rcases List.mem_append.1 hf with hf | hf
        · exact h f hf
        · rw [List.mem_singleton.1 hf]; exact openF_load _
      · exact ⟨h, Nat.le_trans h1 h2, h2⟩
    · exact ⟨h, Nat.le_trans h1 h2, h2⟩
theorem scanF_mem (x : Bs) : (∀ f ∈ (scanF x).1, f.2.length ≤ 2097152) ∧ (scanF x).1.length ≤ x.length ∧ (scanF x).2.1 ≤ x.length := scanFrom_mem _ x 0 [] (fun f h => by cases h) (Nat.le_refl _) (Nat.zero_le _)
/-- A call that does not come back, as one step of a region that draws: what would follow is to be shown under False. -/
theorem step_stops {P : Program} {ops : Array Oper} {o : Oper} {a : Act} {w : World} {K : Act → World → Prop} {Q : Exit → Act → World → Prop} {E : Prop} (v : Value) (hgd : o.guard = none) (hs : Oper.wp P o a w K Q) (_ : Hid False → K (a.put o.dst v) w) : if Region.wanted o (yielded ops a.tmps) = true then Oper.wp P o a w K Q else E := by
  have hw : Region.wanted o (yielded ops a.tmps) = true := by simp [Region.wanted, hgd]
  rw [if_pos hw]
  exact hs
theorem FramesAt.tail {w : World} {A : Option Addr} {n C : Nat} {l : List FrameS} {G : Nat → Prop} (h : FramesAt w A n C l G) (h0 : 0 < n) : ∃ ra, FramesAt w ra (n - 1) (C - 1) l.tail G ∧ ∀ w : World, (Instr.slice 169 (.slice A n C) (some (.int .i64 1)) none none).run Tryz.prog w = .ok (.slice ra (n - 1) (C - 1)) w := by
  have hl := h.len
  have hc := h.cap
  have hrun : ∀ w : World, (Instr.slice 169 (.slice A n C) (some (.int .i64 1)) none none).run Tryz.prog w = .ok (.slice (if C = 1 then A else A.map (·.add 2)) (n - 1) (C - 1)) w := fun w => by
    rw [run_slice_l w 169 _ n C (by kernel_rfl) .i64 1 (by omega) (by omega), show (sizeOf (Tryz.prog.elem 169)).run Tryz.prog w = .ok 2 w by kernel_rfl]
    rfl
  refine ⟨_, ⟨by simp; omega, by omega, fun e => ?_, fun ad had => ?_, fun i p hp => ?_⟩, hrun⟩
  · split at e
    · omega
    · cases A with
      | none => have := h.nil rfl; omega
      | some a => cases e
  · split at had
    · exact h.plain ad had
    · cases A with
      | none => cases had
      | some a =>
        obtain ⟨b, o, rfl, hlt, hg⟩ := h.plain a rfl
        exact ⟨b, o + 2, by rw [← Option.some.inj had]; exact Addr.add_lit .., hlt, hg⟩
  · have hp2 : l[i + 1]? = some p := by rw [List.getElem?_tail] at hp; exact hp
    obtain ⟨b, o, B, c, rfl, h1, h2, h3, h4⟩ := h.each (i + 1) p hp2
    have hi : i + 1 < l.length := (List.getElem?_eq_some_iff.1 hp2).1
    refine ⟨b, o + 2, B, c, ?_, ?_, ?_, h3, h4⟩
    · rw [if_neg (by omega), Option.map_some, Addr.add_lit]
    · rw [show o + 2 + i * 2 = o + (i + 1) * 2 by omega]; exact h1
    · rw [show o + 2 + i * 2 + 1 = o + (i + 1) * 2 + 1 by omega]; exact h2
set_option maxRecDepth 100000 in
set_option maxHeartbeats 1000000 in
theorem wread_any {w0 w : World} {g dg : Nat} {d : DiskS} {recs : List Nat} {own : Nat → Option DTag} {L : LogS} {lf : Nat → Prop} (hd : DAt w dg d recs own) (hO : Ok d) (hH : Home w0 w (foot own)) (hL : LogAt w g dg L lf) (hdl : ∀ b, lf b → ¬ foot own b) (hl0 : ∀ b, lf b → w0.heap.size ≤ b) (n : Nat) (hn : n < 9223372036854775808) :
    Calls Tryz.prog 62 #[ptrV g, .int .i64 n] w (RPost w g dg L lf n (readW d n)) := by
  obtain ⟨sA, sC, rA, rC, rblk, qs, M⟩ := hL
  have q0 : w.cell? ⟨g, 0, none⟩ = some (ptrV dg) := cell_block M.row rfl
  have hgl := in_heap M.row
  have hw := Lib.hid (fun W hW => wname_any n hn W (hH.tab.low (w' := W) hW))
  have hrd := Lib.hid (fun W hW => read_any (hd.below (w' := W) hW) hO (nameW n) (by have := nameW_len n hn; unfold maxLen; omega))
  have HM := Lib.hid M
  have HH := Lib.hid hH
  have HD := Lib.hid hd
  have HDL := Lib.hid hdl
  have HL0 := Lib.hid hl0
  obtain ⟨x, q, hxq⟩ : ∃ x q, Dk.read d (nameW n) = (x, q) := ⟨_, _, rfl⟩
  have HRW := Lib.hid (show readW d n = if q ≠ 0 then (none, q) else match readB x n with | none => (none, 61) | some r => (some r, 0) by unfold readW; rw [hxq])
  have hxl : x.length ≤ 4194304 := by have := read_len hO (nameW n); rw [hxq] at this; exact this
  rw [hxq] at hrd
  clear M hH hd hdl hO hxq hl0
  unfold ptrV at q0 ⊢
  go_enter Tryz.func62, Tryz.ntmps62
  go_upto_region 1 with (fail)
  go_cut [5, 6] from 12 (fun s5 s6 wx => ∃ B2 C2 b2, s5 = .slice B2 x.length C2 ∧ s6 = .int .i64 q ∧ Hid (OwnR wx 5 1 B2 x.length C2 (x.map V8) b2 ∧ (∀ b, b2 = some b → w.heap.size ≤ b) ∧ RowKit.Below w.heap.size w wx))
  case first =>
    go_region_law (first
      | (go_simp; go_at_call 56; refine (hrd.out _ HB1.out).mono ?_; rintro e w2 ⟨B2, C2, b2, rfl, h1, h2, h3⟩; have H21 := Lib.hid h1; have H22 := Lib.hid h2; have H23 := Lib.hid h3; clear h1 h2 h3)
      | (go_simp; go_at_call 64; refine (hw.out _ ((Below.refl _ _).drew)).mono ?_; rintro e w1 ⟨rfl, h1⟩; have HB1 : Hid (RowKit.Below w.heap.size w w1) := Lib.hid (bthen ((Below.refl _ _).drew) h1); have q01 : w1.cell? ⟨g, 0, none⟩ = some (.pointer (some ⟨dg, 0, none⟩)) := (HB1.out.cell (p := ⟨g, 0, none⟩) hgl).trans q0; have hgl1 : g < w1.heap.size := Nat.lt_of_lt_of_le hgl HB1.out.size; clear h1))
    all_goals
      go_wp2_with fail
      go_meet
      exact ⟨B2, C2, b2, rfl, rfl, Lib.hid ⟨H21.out, fun b hb => Nat.le_trans HB1.out.size (H22.out b hb), bthen HB1.out H23.out⟩⟩
  case rest =>
    obtain ⟨B2, C2, b2, rfl, rfl, HX⟩ := hcut
    clear hw hrd
    by_cases hq : q ≠ 0
    · go_wp2_with (go_at_call 57; refine (must_stops q hq wc).mono ?_; rintro e w9 ⟨rfl, hw9⟩)
      refine ⟨rfl, ?_⟩
      subst hw9
      rw [HRW.out, if_pos hq]
      exact ⟨rfl, Kept.of_below HX.out.2.2⟩
    · obtain rfl : q = 0 := by omega
      clear hq
      simp only [Int.natCast_zero]
      go_wp2_with (go_at_call 57; refine (must_ok wc).mono ?_; rintro e w9 ⟨rfl, hw9⟩; subst hw9)
      go_at_call 100
      have hsc := scan_any x B2 x.length C2 wc HX.out.1.txt (by omega) (HH.out.tab.low HX.out.2.2).sums
      obtain ⟨fr, wh, why, hfr⟩ : ∃ fr wh why, scanF x = (fr, wh, why) := ⟨_, _, _, rfl⟩
      have hmem := scanF_mem x
      rw [hfr] at hsc hmem
      simp only [] at hmem
      have HRB := Lib.hid (show readW d n = match readB x n with | none => (none, 61) | some r => (some r, 0) by rw [HRW.out]; rfl)
      have HFR := Lib.hid hfr
      have HMEM := Lib.hid hmem
      refine hsc.mono ?_
      rintro e w3 ⟨fA, fC, rfl, h1, h2⟩
      simp only [] at h1 ⊢
      have H31 := Lib.hid h1
      have HB3 := Lib.hid (bthen HX.out.2.2 h2)
      clear h1 h2 hsc hfr hmem HRW
      by_cases hbad : fr = [] ∨ (why ≠ 0 ∧ why ≠ 3)
      · have hnone : Hid (readW d n = (none, 61)) := Lib.hid (by
          rw [HRB.out]
          have : readB x n = none := by
            unfold readB
            rw [HFR.out]
            rcases hbad with h | h
            · rw [h]
            · cases fr with
              | nil => rfl
              | cons f t => simp only []; rw [if_pos h]
          rw [this])
        have hend : ∀ w', w3 = w' → RPost w g dg L lf n (readW d n) (stopped 61) w' := fun w' e => by
          subst e
          rw [hnone.out]
          exact ⟨rfl, Kept.of_below HB3.out⟩
        have HEND := Lib.hid hend
        clear hend
        cases fr with
        | nil =>
          clear hbad
          go_wp2_with (go_at_call 57; refine (must_stops 61 (by decide) w3).mono ?_; rintro e w9 ⟨rfl, hw9⟩)
          exact ⟨rfl, HEND.out _ hw9⟩
        | cons f t =>
          have hf0 : (((f :: t).length : Int) == 0) = false := by simp; omega
          have hw1 : ((why : Int) != 0) = true := by rcases hbad with h | h; cases h; simp; omega
          have hw2 : ((why : Int) != 3) = true := by rcases hbad with h | h; cases h; simp; omega
          generalize hft : f :: t = fr at hf0 H31 ⊢
          clear hbad hft
          go_wp2_with (go_at_call 57; refine (must_stops 61 (by decide) w3).mono ?_; rintro e w9 ⟨rfl, hw9⟩)
          exact ⟨rfl, HEND.out _ hw9⟩
      · cases fr with
        | nil => exact absurd (.inl rfl) hbad
        | cons f t =>
          have hf0 : (((f :: t).length : Int) == 0) = false := by simp; omega
          obtain ⟨bw, hbw⟩ : ∃ bw : Bool, ((why : Int) != 0) = bw := ⟨_, rfl⟩
          have hw3 : bw = true → ((why : Int) != 3) = false := fun h => by
            rw [h] at hbw
            simp at hbw
            simp
            have : ¬ (why ≠ 0 ∧ why ≠ 3) := fun h => hbad (.inr h)
            omega
          have hgood : ¬ (why ≠ 0 ∧ why ≠ 3) := fun h => hbad (.inr h)
          have HRC := Lib.hid (show readW d n = match (match loadF f 1 n 1048576 with | none => none | some st => match loadsF 1 t with | none => none | some rs => some (ReadS.mk st rs wh (x.length - wh))) with | none => (none, 61) | some r => (some r, 0) by
            rw [HRB.out]
            have : readB x n = (match loadF f 1 n 1048576 with | none => none | some st => match loadsF 1 t with | none => none | some rs => some (ReadS.mk st rs wh (x.length - wh))) := by
              unfold readB
              rw [HFR.out]
              simp only []
              rw [if_neg hgood]
            rw [this])
          have HFT := Lib.hid (show (f :: t).tail = t ∧ (f :: t)[0]? = some f from ⟨rfl, rfl⟩)
          generalize hft : f :: t = fr at hf0 H31 HMEM HFT ⊢
          clear hbad hgood HRB HFR hft
          go_upto_region 4 with (fail)
          go_cut [40] from 30 (fun c wx => c = .bool false ∧ Hid (w3 = wx))
          case first =>
            cases bw with
            | false =>
              go_wp2_with fail
              go_meet
              exact ⟨rfl, Lib.hid rfl⟩
            | true =>
              have hw4 := hw3 rfl
              go_wp2_with fail
              go_meet
              exact ⟨rfl, Lib.hid rfl⟩
          case rest =>
            obtain ⟨rfl, HW⟩ := hcut
            obtain ⟨fb, fo, Bf, cf, rfl, y0, y1, y2, y3⟩ := H31.out.each 0 f HFT.out.2
            have hwe := HW.out
            subst hwe
            simp only [Nat.zero_mul, Nat.add_zero] at y0 y1
            have hfb : wc.heap.size ≤ fb := by obtain ⟨b', o', e, _, h⟩ := H31.out.plain _ rfl; simp only [Addr.mk.injEq, and_true] at e; rw [e.1]; exact h
            have hgc : g < wc.heap.size := Nat.lt_of_lt_of_le hgl HX.out.2.2.size
            have hne : ¬ fb = g := by omega
            have hne' : ¬ g = fb := by omega
            have M3 := HM.out.kept (Kept.of_below (F := fun _ => False) HB3.out) (fun _ _ => id)
            have c1 : w3.cell? ⟨g, 1, none⟩ = some (.int .i64 L.epoch) := cell_block M3.row rfl
            have fz := frozen_row M3.row
            have hg3 := in_heap M3.row
            have hfr0 : 0 < fr.length := (List.getElem?_eq_some_iff.1 HFT.out.2).1
            have hfl := HMEM.out.1 f (List.mem_of_getElem? HFT.out.2)
            have hk4 : Kept (· = g) w3 (w3.setCell ⟨g, 1, none⟩ (.int .i64 n)) := (Kept.refl (· = g) w3).setCell _ _ (.inl rfl)
            have M4 : LMem (w3.setCell ⟨g, 1, none⟩ (.int .i64 n)) g dg { L with epoch := n } lf sA sC rA rC rblk qs := M3.rerow hk4 (fun b _ hn => hn) _ rfl rfl (by rw [setCell_one M3.row]; rfl)
            have Y4 : Txt (w3.setCell ⟨g, 1, none⟩ (.int .i64 n)) Bf f.2.length cf f.2 := y2.kept hk4 fun ad had _ e => by have := y3 ad had; omega
            have F4 : FramesAt (w3.setCell ⟨g, 1, none⟩ (.int .i64 n)) (some ⟨fb, fo, none⟩) fr.length fC fr (fun b => wc.heap.size ≤ b) := H31.out.kept hk4 fun b hb _ e => by omega
            have hlo := wload_any f Bf cf 1 n 1048576 _ Y4 (by omega) hn (by decide)
            rw [show (V8 1) = .int .u8 1 from rfl] at hlo
            have hcv := conv_u64 n hn
            have HLO := Lib.hid hlo
            have H4 := Lib.hid M4
            have HF4 := Lib.hid F4
            have HK4 : Hid (Kept (· = g) w (w3.setCell ⟨g, 1, none⟩ (.int .i64 n))) := Lib.hid ((Kept.of_below HB3.out).then hk4)
            clear hbw hw3 hf0 HW hfb M3 hfl hk4 M4 Y4 F4 hlo y2 y3 H31
            go_wp2_with fail
            go_at_call 101
            refine HLO.out.mono ?_
            generalize w3.setCell ⟨g, 1, none⟩ (.int .i64 n) = w4 at H4 HF4 HK4 ⊢
            intro e w5 hre
            clear HLO
            cases hlf : loadF f 1 n 1048576 with
            | none =>
              rw [hlf] at hre HRC
              obtain ⟨rfl, hb5⟩ := hre
              have hend : RPost w g dg L lf n (readW d n) (stopped 61) w5 := by
                rw [HRC.out]
                exact ⟨rfl, (HK4.out.mono fun b _ e => by subst e; exact HM.out.me).low hb5⟩
              have HEND := Lib.hid hend
              clear hend hlf
              unfold stopped
              go_wp2_with fail
              exact ⟨rfl, HEND.out⟩
            | some st =>
              rw [hlf] at hre HRC
              obtain ⟨B5, D5, b5, rfl, F5, hn5⟩ := hre
              have hgw4 : g < w4.heap.size := in_heap H4.out.row
              have M5 := H4.out.kept (Kept.of_below (F := fun _ => False) F5.low) (fun _ _ => id)
              have c2 : w5.cell? ⟨g, 2, none⟩ = some (.slice sA L.state.length sC) := cell_block M5.row rfl
              have fz5 := frozen_row M5.row
              have hg5 := in_heap M5.row
              have M6 := M5.setState hgw4 F5.low.size F5.txt (F5.addr hn5) (fun ad had e => by have := H4.out.lt _ (H4.out.rf _ e).1; have := F5.addr hn5 ad had; omega)
              have hk6 : Kept (· = g) w5 (w5.setCell ⟨g, 2, none⟩ (.slice B5 st.length D5)) := (Kept.refl (· = g) w5).setCell _ _ (.inl rfl)
              have F6 : FramesAt (w5.setCell ⟨g, 2, none⟩ (.slice B5 st.length D5)) (some ⟨fb, fo, none⟩) fr.length fC fr (fun b => wc.heap.size ≤ b) := (HF4.out.below F5.low).kept hk6 fun b hb _ e => by omega
              have c3 : (w5.setCell ⟨g, 2, none⟩ (.slice B5 st.length D5)).cell? ⟨g, 3, none⟩ = some (.slice rA L.records.length rC) := cell_block M6.row rfl
              have hK6 : Kept (· = g) w (w5.setCell ⟨g, 2, none⟩ (.slice B5 st.length D5)) := (HK4.out.low F5.low).then hk6
              have M7 := M6.setRecs (base := w5.heap.size) (l := []) (A := none) (C := 0) (blk := none) (qs' := []) (Bunch.nil _ _ _ _) rfl (fun b h => by cases h) (fun _ => rfl) (fun q h => by cases h) hg5 (fun _ _ e => by cases e)
              have hk7 : Kept (· = g) (w5.setCell ⟨g, 2, none⟩ (.slice B5 st.length D5)) ((w5.setCell ⟨g, 2, none⟩ (.slice B5 st.length D5)).setCell ⟨g, 3, none⟩ (.slice none 0 0)) := (Kept.refl (· = g) _).setCell _ _ (.inl rfl)
              have F7 : FramesAt ((w5.setCell ⟨g, 2, none⟩ (.slice B5 st.length D5)).setCell ⟨g, 3, none⟩ (.slice none 0 0)) (some ⟨fb, fo, none⟩) fr.length fC fr (fun b => wc.heap.size ≤ b) := F6.kept hk7 fun b hb _ e => by omega
              have HM7 := Lib.hid M7
              have HF7 := Lib.hid F7
              have HK7 := Lib.hid (hK6.then hk7)
              have hs7 : ((w5.setCell ⟨g, 2, none⟩ (.slice B5 st.length D5)).setCell ⟨g, 3, none⟩ (.slice none 0 0)).heap.size = w5.heap.size := by simp [World.setCell]
              have hs6 : (w5.setCell ⟨g, 2, none⟩ (.slice B5 st.length D5)).heap.size = w5.heap.size := by simp [World.setCell]
              rw [hs6] at HM7
              have hw4s : w.heap.size ≤ w4.heap.size := HK4.out.size
              obtain ⟨ra, FT, hsl⟩ := F7.tail hfr0
              rw [HFT.out.1] at FT
              have HFTA := Lib.hid (FT.mono (H := fun b => b ≠ g ∧ b < w5.heap.size) fun b hlt hb => ⟨by omega, by rw [hs7] at hlt; exact hlt⟩)
              have htl : fr.length - 1 = t.length := by rw [← HFT.out.1]; simp
              rw [htl] at HFTA hsl
              have hi1 : (1 : Int) ≤ fr.length := by omega
              have Hs7 := Lib.hid hs7
              clear hk6 hk7 F6 F7 M6 M7 M5 F5 hlf hK6 hs7 hs6 FT HF7
              go_wp2_with fail
              generalize (w5.setCell ⟨g, 2, none⟩ (.slice B5 st.length D5)).setCell ⟨g, 3, none⟩ (.slice none 0 0) = w7 at HM7 HFTA HK7 Hs7 ⊢
              have htll : t.length ≤ 4194304 := by have := HMEM.out.2.1; omega
              clear y0 y1 hgc hne hne' c1 fz hg3 hcv c2 fz5 hg5 c3 hsl hfr0 htl H4 HF4 HK4
              go_loopw [61] (fun iv wr => ∃ (i : Nat) (acc : List Bs) (rA' : Option Addr) (rC' : Nat) (bk' : Option Nat) (qs' : List (Option Addr × Nat)), iv = .int .i64 i ∧ Hid (i ≤ t.length ∧ acc.length = i ∧ loadsF 1 t = (loadsF (i + 1) (t.drop i)).map (acc ++ ·) ∧ Kept (· = g) w7 wr ∧ wr.heap[g]? = some (.cells (logRow dg { L with epoch := n, state := st, records := acc } B5 D5 rA' rC') 114 (0, 0)) ∧ Bunch wr w5.heap.size 22 1 rA' acc.length rC' (List.zipWith recEl acc qs') bk' ∧ qs'.length = acc.length ∧ (bk' = none → rA' = none))) (fun iv _ => t.length - (intOf iv).toNat)
              case atStart =>
                refine ⟨0, [], none, 0, none, [], rfl, Lib.hid ⟨Nat.zero_le _, rfl, ?_, Kept.refl _ _, HM7.out.row, Bunch.nil _ _ _ _, rfl, fun _ => rfl⟩⟩
                have : ∀ o : Option (List Bs), o = o.map ([] ++ ·) := fun o => by cases o <;> rfl
                exact this _
              case round =>
                obtain ⟨i, acc, rA', rC', bk', qs', rfl, hJ⟩ := hrel
                by_cases hlt : i < t.length
                · have hi : (i : Int) < t.length := by omega
                  obtain ⟨fi, hfi⟩ : ∃ fi, t[i]? = some fi := ⟨_, List.getElem?_eq_getElem hlt⟩
                  have hFr := HFTA.out.kept hJ.out.2.2.2.1 (fun b hb _ e => hb.1 e)
                  obtain ⟨rb, ro, Bi, ci, rfl, y0, y1, y2, y3⟩ := hFr.each i fi hfi
                  have hgr := in_heap hJ.out.2.2.2.2.1
                  have c3 : wr.cell? ⟨g, 3, none⟩ = some (.slice rA' acc.length rC') := cell_block hJ.out.2.2.2.2.1 rfl
                  have fz := frozen_row hJ.out.2.2.2.2.1
                  have hfl := HMEM.out.1 fi (by have := List.mem_of_getElem? hfi; rw [← HFT.out.1] at this; exact List.mem_of_mem_tail this)
                  have hlo := fun W (hW : RowKit.Below wr.heap.size wr W) => wload_any fi Bi ci 2 (i + 1) 65536 W (y2.below hW) (by omega) (by omega) (by decide)
                  rw [show (V8 2) = .int .u8 2 from rfl] at hlo
                  have hcv := conv_u64 (i + 1) (by omega)
                  rw [Int.natCast_add, Int.natCast_one] at hcv
                  simp only [Int.natCast_add, Int.natCast_one] at hlo
                  have HLO := Lib.hid hlo
                  have Hfi := Lib.hid hfi
                  have hwrap : IntKind.i64.wrap ((i : Int) + 1) = (i : Int) + 1 := IntWalk.i64_in _ (by omega)
                  have hlow : RowKit.Below w.heap.size w w5 → True := fun _ => trivial
                  have hnx : loadsF (i + 1) (t.drop i) = (match loadF fi 2 (i + 1) 65536 with | none => none | some r => (loadsF (i + 1 + 1) (t.drop (i + 1))).map (r :: ·)) := by
                    rw [List.drop_eq_getElem_cons hlt]
                    have : t[i] = fi := by have := (List.getElem?_eq_some_iff.1 hfi).2; exact this
                    rw [this]
                    rfl
                  have hgw5 : g < w5.heap.size := by rw [← Hs7.out]; exact in_heap HM7.out.row
                  have HGW := Lib.hid hgw5
                  have hkw : Kept (· = g) w wr := HK7.out.then hJ.out.2.2.2.1
                  have HKW := Lib.hid hkw
                  have Hnx := Lib.hid hnx
                  clear hlo hFr y2 y3 hfi hfl hlow hnx hkw hgw5
                  cases hlf : loadF fi 2 (i + 1) 65536 with
                  | none =>
                    have hno : Hid (readW d n = (none, 61)) := Lib.hid (by
                      rw [HRC.out, hJ.out.2.2.1, Hnx.out, hlf]
                      rfl)
                    have hend : ∀ w', RowKit.Below wr.heap.size wr w' → RPost w g dg L lf n (readW d n) (stopped 61) w' := fun w' hb => by
                      rw [hno.out]
                      exact ⟨rfl, (HKW.out.mono fun b _ e => by subst e; exact HM.out.me).low hb⟩
                    have HEND := Lib.hid hend
                    rw [hlf] at HLO
                    clear hend hlf
                    go_wp2_with fail
                    have HLX : Hid (∀ W, RowKit.Below wr.heap.size wr W → Calls Tryz.prog 101 #[.agg #[V8 fi.1, .slice Bi fi.2.length ci], .int .u8 2, .int .u64 ((i : Int) + 1), .int .i64 65536] W fun e w' => e = .panicked [{ v := stopV 61, recovered := false }] ∧ RPost w g dg L lf n (readW d n) (.panicked [{ v := stopV 61, recovered := false }]) w') := Lib.hid fun W hW => (HLO.out W hW).mono fun e w' h => ⟨h.1, HEND.out _ (bthen hW h.2)⟩
                    clear HLO HEND
                    go_region_law (first | (refine step_app rfl _ _ 23 rfl 22 1 24 (.slice none 0 0) Tryz.underlying23 (by kernel_rfl) rfl (by decide) rA' acc.length rC' [] bk' rfl (by exact hno.out.elim) _ 1 1 [.slice none 0 0] rfl rfl (by exact hno.out.elim) (by exact hno.out.elim) (by exact hno.out.elim) (by exact hno.out.elim) (by exact hno.out.elim) (by exact hno.out.elim) ?_; intro B8 D8 w8 b8 h1 h2 h3; have c38 : w8.cell? ⟨g, 3, none⟩ = some (.slice rA' acc.length rC') := hno.out.elim; have fz8 : ∀ k : Nat, w8.frozen? ⟨g, k, none⟩ = false := hno.out.elim; have hg8 : g < w8.heap.size := hno.out.elim; clear h1 h2 h3) | (refine step_stops (.slice none 0 0) rfl ?_ (fun hno => ?_); · (go_simp; go_at_call 101; refine (HLX.out _ (by repeat (first | exact Below.refl _ _ | refine Below.drew ?_ | refine Below.alloc ?_ (by simp) _))).mono ?_; rintro e w6 ⟨rfl, hb6⟩; go_wp2_with fail; exact ⟨rfl, hb6⟩)))
                    all_goals exact hno.out.elim
                  | some r =>
                    rw [hlf] at HLO Hnx
                    clear hlf
                    have z1 : acc.length + 1 ≤ maxLen := by have := hJ.out.2.1; unfold maxLen; omega
                    have z2 : (acc.length + 1) * 24 ≤ 140737488355328 := by have := hJ.out.2.1; omega
                    go_wp2_with fail
                    go_region_law (first
                      | (refine step_app rfl _ _ 23 rfl 22 1 24 (.slice none 0 0) Tryz.underlying23 (by kernel_rfl) rfl (by decide) rA' acc.length rC' _ bk' rfl (hJ.out.2.2.2.2.2.1.row.below (bthen HB6.out (low1 _ _))) (some ⟨w6.heap.size, 0, none⟩) 1 1 [.slice B6 r.length D6] rfl rfl (CellsAt.of_block (blk1 _ _)) (fun h => by cases h) (fun ad h => ⟨_, _, (Option.some.inj h).symm⟩) (by simp; rfl) z1 z2 ?_; intro B8 D8 w8 b8 h1 h2 h3; have hk8 : Kept (fun b => bk' = some b) wr w8 := (Kept.of_below (bthen HB6.out (low1 _ _))).grown h2 (fun k e => .inl e); have hgb : ¬ bk' = some g := (fun e => by have := hJ.out.2.2.2.2.2.1.fresh g e; have := hgw4; have := HGW.out; omega); have hr8 := hk8.blk hJ.out.2.2.2.2.1 hgb; have c38 : w8.cell? ⟨g, 3, none⟩ = some (.slice rA' acc.length rC') := cell_block hr8 rfl; have fz8 := frozen_row hr8; have hg8 := in_heap hr8; have H81 := Lib.hid h1; have H82 := Lib.hid h2; have H83 := Lib.hid h3; have HK8 := Lib.hid hk8; have HR8 := Lib.hid hr8; clear h1 h2 h3 hk8 hr8 hgb)
                      | (go_simp; go_at_call 101; refine (HLO.out _ (by repeat (first | exact Below.refl _ _ | refine Below.drew ?_ | refine Below.alloc ?_ (by simp) _))).mono ?_; rintro e w6 ⟨B6, D6, b6, rfl, F6, hn6⟩; have HF6 := Lib.hid F6; have HB6 : Hid (RowKit.Below wr.heap.size wr w6) := Lib.hid (bthen (by repeat (first | exact Below.refl _ _ | refine Below.drew ?_ | refine Below.alloc ?_ (by simp) _)) F6.low); have c36 : w6.cell? ⟨g, 3, none⟩ = some (.slice rA' acc.length rC') := (HB6.out.cell (p := ⟨g, 3, none⟩) hgr).trans c3; have hg6 : g < w6.heap.size := Nat.lt_of_lt_of_le hgr HB6.out.size; clear F6))
                    all_goals
                      go_wp2_with fail
                      have hb := hJ.out.2.2.2.2.2.1
                      have hbase : w5.heap.size ≤ wr.heap.size := by have := hJ.out.2.2.2.1.size; rw [Hs7.out] at this; exact this
                      have hlow := bthen HB6.out (low1 w6 (.cells #[.slice B6 r.length D6] 22))
                      have hbn := (hb.below hlow).push (recEl r (B6, D6)) H82.out H81.out H83.out (Nat.le_trans hbase hlow.size) (fun q hq => by
                        obtain rfl := List.mem_singleton.1 (show q ∈ [(B6, D6, r)] from hq)
                        refine ⟨(HF6.out.txt).below (low1 _ _), fun ad had => ?_⟩
                        have h4 : wr.heap.size ≤ ad.block := by have := HF6.out.addr hn6 ad had; simp at this; omega
                        refine ⟨Nat.le_trans hbase h4, fun e => ?_⟩
                        have := hb.row.lt _ e
                        omega)
                      rw [zip_push recEl hJ.out.2.2.2.2.2.2.1] at hbn
                      have hk9 : Kept (· = g) w8 (w8.setCell ⟨g, 3, none⟩ (.slice B8 (acc.length + 1) D8)) := (Kept.refl (· = g) w8).setCell _ _ (.inl rfl)
                      have hbn9 := hbn.kept hk9 (fun b hb2 _ e => by have := HGW.out; omega)
                      have hkk : Kept (· = g) w7 (w8.setCell ⟨g, 3, none⟩ (.slice B8 (acc.length + 1) D8)) := (hJ.out.2.2.2.1.trans HK8.out (fun b hb2 => .inr (by rw [Hs7.out]; exact hb.fresh b hb2))).then hk9
                      have hrow9 := setCell_one (k := 3) HR8.out (.slice B8 (acc.length + 1) D8)
                      have hlds : loadsF 1 t = (loadsF (i + 1 + 1) (t.drop (i + 1))).map ((acc ++ [r]) ++ ·) := by
                        rw [hJ.out.2.2.1, Hnx.out, Option.map_map]
                        congr 1
                        funext y
                        simp
                      have hb8 : b8 = none → B8 = none := fun e => by
                        rcases hbn.row.form with ⟨_, h0, _⟩ | ⟨g2, _, _, h2, _⟩
                        · exact absurd h0 (by omega)
                        · rw [e] at h2; cases h2
                      have hlen1 : (acc ++ [r]).length = acc.length + 1 := by simp
                      refine ⟨?_, by simp [intOf]; omega⟩
                      exact ⟨i + 1, acc ++ [r], B8, D8, b8, qs' ++ [(B6, D6)], by simp, Lib.hid ⟨by omega, by have := hJ.out.2.1; simp; omega, hlds, hkk, by unfold logRow; simp only [hlen1]; exact hrow9, by rw [List.length_append, List.length_singleton]; exact hbn9, by have := hJ.out.2.2.2.2.2.2.1; simp; omega, hb8⟩⟩
                · obtain rfl : i = t.length := by have := hJ.out.1; omega
                  have hi : ¬ (t.length : Int) < (t.length : Int) := by omega
                  have hrow := hJ.out.2.2.2.2.1
                  have c4 : wr.cell? ⟨g, 4, none⟩ = some (.int .i64 L.size) := cell_block hrow rfl
                  have fz := frozen_row hrow
                  have hgr := in_heap hrow
                  have hwh : (wh : Int) ≤ x.length := by have := HMEM.out.2.2; omega
                  have hsome : readW d n = (some ⟨st, acc, wh, x.length - wh⟩, 0) := by
                    have h := hJ.out.2.2.1
                    rw [List.drop_length, loadsF, Option.map_some, List.append_nil] at h
                    rw [HRC.out, h]
                  have HSO := Lib.hid hsome
                  have Hwh := Lib.hid hwh
                  clear hsome
                  go_wp2
                  go_ret
                  rw [HSO.out]
                  have hb := hJ.out.2.2.2.2.2.1
                  have hk9 : Kept (· = g) wr (wr.setCell ⟨g, 4, none⟩ (.int .i64 wh)) := (Kept.refl (· = g) wr).setCell _ _ (.inl rfl)
                  have hk7 := hJ.out.2.2.2.1.then hk9
                  have hgw := in_heap HM7.out.row
                  have hs79 : w5.heap.size ≤ (wr.setCell ⟨g, 4, none⟩ (.int .i64 wh)).heap.size := by have := hk7.size; rw [Hs7.out] at this; exact this
                  have hgw5 : g < w5.heap.size := by rw [← Hs7.out]; exact hgw
                  have hb9 := hb.kept hk9 (fun b hb2 _ e => by omega)
                  refine ⟨?_, from_ (from_ (from_ lf w4.heap.size w5.heap.size) w5.heap.size w5.heap.size) w5.heap.size (wr.setCell ⟨g, 4, none⟩ (.int .i64 wh)).heap.size, ⟨B5, D5, rA', rC', bk', qs', ⟨?_, HM7.out.st.kept hk7 (fun ad had _ => (HM7.out.stf ad had).2), fun ad had => ⟨.inl (HM7.out.stf ad had).1, (HM7.out.stf ad had).2⟩, ⟨hb9.row, fun _ _ => Nat.zero_le _, fun y hy q hq => ⟨(hb9.part y hy q hq).1, fun ad had => ⟨Nat.zero_le _, ((hb9.part y hy q hq).2 ad had).2⟩⟩⟩, hJ.out.2.2.2.2.2.2.1, fun b hb2 => ⟨.inr ⟨hb.fresh b hb2, hb9.row.lt b hb2⟩, by have := hb.fresh b hb2; omega⟩, hJ.out.2.2.2.2.2.2.2, fun q hq ad had => ?_, .inl HM7.out.me, fun b hb2 => ?_, fun ad had e => by obtain ⟨b2, o2, he, hlt⟩ := HM7.out.st.src.plain ad had; have h5 := hb.fresh _ e; rw [Hs7.out] at hlt; rw [he] at h5; have h6 : w5.heap.size ≤ b2 := h5; omega⟩⟩, ?_⟩
                  · show _ = Ending.returned (.int .i64 ((x.length - wh : Nat) : Int))
                    rw [Int.ofNat_sub (by have := Hwh.out; omega)]
                    rfl
                  · rw [setCell_one hrow]; rfl
                  · obtain ⟨k, hk, rfl⟩ := List.mem_iff_getElem.1 hq
                    have hlq := hJ.out.2.2.2.2.2.2.1
                    have hel : recEl (acc[k]'(by omega)) qs'[k] ∈ List.zipWith recEl acc qs' := by
                      have h1 : k < (List.zipWith recEl acc qs').length := by simp; omega
                      have h2 := List.getElem_mem h1
                      rwa [List.getElem_zipWith] at h2
                    have hp := hb9.part _ hel (qs'[k].1, qs'[k].2, acc[k]'(by omega)) (by simp [recEl])
                    have h3 := (hp.2 ad had).1
                    obtain ⟨b2, o2, he, hlt2⟩ := hp.1.src.plain ad had
                    refine ⟨.inr ⟨h3, ?_⟩, by omega⟩
                    rw [he]
                    exact hlt2
                  · rcases hb2 with h1 | h1
                    · have := HM7.out.lt b h1; rw [Hs7.out] at this; omega
                    · exact h1.2
                  · refine ⟨(HK7.out.then hk7).mono (fun b _ e => by subst e; exact HM.out.me), fun b hb2 h => ?_⟩
                    have h5 := HK7.out.size
                    rw [Hs7.out] at h5
                    rcases h with ((h | h) | h) | h
                    · exact h
                    · have := h.1; omega
                    · have := h.1; omega
                    · have := h.1; omega
end Go.Proofs.YtgpenpnobjecgaaGreatDoor
