/- wal.name; the variables that the log's code reads. -/
import Derived.WalkLawsBesides
import Derived.Test.YtgpenpnobjecgaaGreatDoorShelf
import Derived.Lib.ItoaLen
import Derived.Test.YtgpenpnobjecgaaGreatDoorJWalSafeCard10
/- ScanF -/
namespace Go.Proofs.YtgpenpnobjecgaaGreatDoor
set_option maxRecDepth 100000
open Go.RowKit

/-- A frame as an element. -/
def frameEl (p : FrameS) (q : Option Addr × Nat) : El := ⟨[V8 p.1, .slice q.1 p.2.length q.2], [(q.1, q.2, p.2)]⟩
/-- A slice of frames; all its blocks are in G. -/
structure FramesAt (w : World) (A : Option Addr) (n C : Nat) (l : List FrameS) (G : Nat → Prop) : Prop where
  len : n = l.length
  cap : n ≤ C
  nil : A = none → C = 0
  plain : ∀ ad, A = some ad → ∃ b o, ad = ⟨b, o, none⟩ ∧ b < w.heap.size ∧ G b
  each : ∀ i p, l[i]? = some p → ∃ b o B c, A = some ⟨b, o, none⟩ ∧ w.cell? ⟨b, o + i * 2, none⟩ = some (V8 p.1) ∧ w.cell? ⟨b, o + i * 2 + 1, none⟩ = some (.slice B p.2.length c) ∧ Txt w B p.2.length c p.2 ∧ ∀ ad, B = some ad → G ad.block
theorem FramesAt.kept {F G : Nat → Prop} {w w' : World} {A : Option Addr} {n C : Nat} {l : List FrameS} (h : FramesAt w A n C l G) (hk : Kept F w w') (hF : ∀ b, G b → b < w.heap.size → ¬ F b) : FramesAt w' A n C l G := by
  refine ⟨h.len, h.cap, h.nil, fun ad had => ?_, fun i p hp => ?_⟩
  · obtain ⟨b, o, e, hlt, hg⟩ := h.plain ad had
    exact ⟨b, o, e, Nat.lt_of_lt_of_le hlt hk.size, hg⟩
  · obtain ⟨b, o, B, c, hA, h1, h2, h3, h4⟩ := h.each i p hp
    obtain ⟨b', o', e, hlt, hg⟩ := h.plain _ hA
    simp only [Addr.mk.injEq, and_true] at e
    obtain ⟨rfl, rfl⟩ := e
    refine ⟨b, o, B, c, hA, hk.cell h1 (hF b hg hlt), hk.cell h2 (hF b hg hlt), h3.kept hk fun ad had _ => ?_, h4⟩
    obtain ⟨b2, o2, rfl, hlt2⟩ := h3.src.plain ad had
    exact hF b2 (h4 _ had) hlt2
theorem FramesAt.below {G : Nat → Prop} {w w' : World} {A : Option Addr} {n C : Nat} {l : List FrameS} (h : FramesAt w A n C l G) (hb : Below w.heap.size w w') : FramesAt w' A n C l G := h.kept (Kept.of_below (F := fun _ => False) hb) fun _ _ _ => id
theorem FramesAt.mono {G H : Nat → Prop} {w : World} {A : Option Addr} {n C : Nat} {l : List FrameS} (h : FramesAt w A n C l G) (hG : ∀ b, b < w.heap.size → G b → H b) : FramesAt w A n C l H :=
  ⟨h.len, h.cap, h.nil, fun ad had => by obtain ⟨b, o, e, hlt, hg⟩ := h.plain ad had; exact ⟨b, o, e, hlt, hG b hlt hg⟩, fun i p hp => by
    obtain ⟨b, o, B, c, hA, h1, h2, h3, h4⟩ := h.each i p hp
    refine ⟨b, o, B, c, hA, h1, h2, h3, fun ad had => ?_⟩
    obtain ⟨b2, o2, rfl, hlt2⟩ := h3.src.plain ad had
    exact hG _ hlt2 (h4 _ had)⟩
theorem Bunch.frames {w : World} {base : Nat} {A : Option Addr} {n C : Nat} {l : List FrameS} {qs : List (Option Addr × Nat)} {blk : Option Nat} (h : Bunch w base 174 2 A n C (List.zipWith frameEl l qs) blk) (hq : qs.length = l.length) (hn : n = l.length) (hA0 : ∀ ad, A = some ad → blk ≠ none) : FramesAt w A n C l (fun b => base ≤ b) := by
  refine ⟨hn, h.row.cap.1, h.row.nilcap, fun ad had => ?_, fun i p hp => ?_⟩
  · obtain ⟨b, o, e, hlt⟩ := h.row.plain ad had
    refine ⟨b, o, e, hlt, ?_⟩
    rcases h.row.form with ⟨h0, _⟩ | ⟨g, cur, hg, hb, _⟩
    · exact absurd h0 (hA0 ad had)
    · rw [hg] at had
      obtain rfl := Option.some.inj had
      simp only [Addr.mk.injEq, and_true] at e
      obtain ⟨rfl, _⟩ := e
      exact h.fresh _ hb
  · have hi : i < l.length := (List.getElem?_eq_some_iff.1 hp).1
    obtain ⟨q, hqi⟩ : ∃ q, qs[i]? = some q := ⟨_, List.getElem?_eq_getElem (by omega)⟩
    have hel : (List.zipWith frameEl l qs)[i]? = some (frameEl p q) := by rw [List.getElem?_zipWith, hp, hqi]
    have hsz : ∀ x ∈ List.zipWith frameEl l qs, x.cells.length = 2 := fun x hx => by
      rw [List.zipWith_eq_zipWith_take_min] at hx
      obtain ⟨j, hj, rfl⟩ := List.mem_iff_getElem.1 hx
      rw [List.getElem_zipWith]; rfl
    have hget : ∀ j, j < 2 → (elCells (List.zipWith frameEl l qs))[i * 2 + j]? = (frameEl p q).cells[j]? := fun j hj => getElem_flat El.cells 2 _ hsz i j _ hel hj
    obtain ⟨g, hg, _, c0⟩ := h.row.cell (j := i * 2) (v := V8 p.1) (by rw [show i * 2 = i * 2 + 0 by omega, hget 0 (by omega)]; rfl)
    obtain ⟨g2, hg2, _, c1⟩ := h.row.cell (j := i * 2 + 1) (v := .slice q.1 p.2.length q.2) (by rw [hget 1 (by omega)]; rfl)
    obtain rfl : g = g2 := by rw [hg] at hg2; simpa using hg2
    obtain ⟨h3, h4⟩ := h.part (frameEl p q) (List.mem_of_getElem? hel) (q.1, q.2, p.2) (by simp [frameEl])
    exact ⟨g, 0, q.1, q.2, hg, by rw [Nat.zero_add]; exact c0, by rw [Nat.zero_add]; exact c1, h3, fun ad had => (h4 ad had).1⟩
theorem zip_push {α β γ : Type} (f : α → β → γ) {l : List α} {qs : List β} (h : qs.length = l.length) (x : α) (q : β) : List.zipWith f l qs ++ [f x q] = List.zipWith f (l ++ [x]) (qs ++ [q]) := by
  rw [List.zipWith_append h.symm]
  rfl
theorem openF_len (x : List UInt8) (h : (openF x).2.2 = 0) : 9 ≤ (openF x).2.1 ∧ (openF x).2.1 ≤ x.length := by
  have hs := openF_ok x h
  obtain ⟨h1, h2, h3, _⟩ := sizeF_code x hs
  unfold openF
  rw [if_pos hs]
  exact ⟨by show 9 ≤ frameLen x; omega, h3⟩
/-- What Scan answers. -/
def RetScan (w : World) (r : List FrameS × Nat × Nat) (e : Ending) (w' : World) : Prop :=
  ∃ A C, e = .returned (.tuple #[.slice A r.1.length C, .int .i64 r.2.1, .int .i64 r.2.2]) ∧ FramesAt w' A r.1.length C r.1 (fun b => w.heap.size ≤ b) ∧ Below w.heap.size w w'
set_option maxRecDepth 100000 in
set_option maxHeartbeats 1000000 in
theorem scan_any (x : List UInt8) (a : Option Addr) (n c : Nat) (w : World) (X : Txt w a n c x) (hn : n ≤ 1099511627776) (hT : SumsTab w) :
    Calls Tryz.prog 100 #[.slice a n c] w (RetScan w (scanF x)) := by
  have HX := Lib.hid X
  have HT := Lib.hid hT
  have Hl := Lib.hid X.len
  clear X hT
  go_enter Tryz.func100, Tryz.ntmps100
  go_wp2
  go_loopw [5, 6] (fun sv iv wr => ∃ (acc : List FrameS) (off : Nat) (A : Option Addr) (C : Nat) (qs : List (Option Addr × Nat)) (blk : Option Nat) (k : Nat), sv = .slice A acc.length C ∧ iv = .int .i64 off ∧ Hid (off ≤ n ∧ n < off + k ∧ scanF x = scanFrom k x off acc ∧ Bunch wr w.heap.size 174 2 A acc.length C (List.zipWith frameEl acc qs) blk ∧ qs.length = acc.length ∧ (blk = none → A = none) ∧ acc.length ≤ off ∧ RowKit.Below w.heap.size w wr)) (fun _ iv _ => n - (intOf iv).toNat)
  case atStart => exact ⟨[], 0, none, 0, [], none, x.length + 1, rfl, rfl, Lib.hid ⟨Nat.zero_le _, by have := Hl.out; omega, rfl, Bunch.nil _ _ _ _, rfl, fun _ => rfl, Nat.le_refl _, Below.refl _ _⟩⟩
  case round =>
    obtain ⟨acc, off, A, C, qs, blk, k, rfl, rfl, hJ⟩ := hrel
    by_cases hlt : off < n
    · have h1 : (off : Int) < n := by omega
      have hX := HX.out.below hJ.out.2.2.2.2.2.2.2
      have hT := HT.out.low hJ.out.2.2.2.2.2.2.2
      have hcap := hX.src.cap
      rw [← Hl.out] at hcap
      obtain ⟨b, o, rfl, _⟩ := hX.src.at_.cells.at_ (show 0 < (x.map V8).length by have := Hl.out; simp; omega)
      have hs : ∀ w : World, (Instr.slice 22 (.slice (some ⟨b, o, none⟩) n c) (some (.int .i64 (off : Int))) none none).run Tryz.prog w = .ok (.slice (some ⟨b, o + off, none⟩) (n - off) (c - off)) w := fun w => run_sl_l w b o n c off off (by omega) (by omega) (by omega) (by omega)
      have hP : Txt wr (some ⟨b, o + off, none⟩) (n - off) (c - off) (x.drop off) := by
        have h := hX.part off (n - off) (by omega)
        rw [if_neg (by omega), List.take_of_length_le (by have := Hl.out; simp; omega), Option.map_some, Addr.add_lit] at h
        exact h
      have hO := fopen_any _ _ _ _ _ hP (by omega) hT
      obtain ⟨fk, fl, m, q, hq⟩ : ∃ fk fl m q, openF (x.drop off) = ((fk, fl), m, q) := ⟨_, _, _, _, rfl⟩
      have hlen := openF_len (x.drop off)
      rw [hq] at hO hlen
      simp only [] at hlen
      have HO := Lib.hid hO
      have Hq := Lib.hid hq
      clear hX hT hcap hP hq hO
      go_wp2_with fail
      go_at_call 126
      refine HO.out.mono ?_
      rintro e w1 ⟨B, D, rfl, h2, h3, h4⟩
      simp only [] at h2 ⊢
      have H2 := Lib.hid h2
      have H3 := Lib.hid h3
      have H4 := Lib.hid h4
      clear h2 h3 h4 HO hs
      by_cases hq0 : q = 0
      · subst hq0
        obtain ⟨m9, mle⟩ := hlen rfl
        have hon : off + m ≤ n := by have := Hl.out; simp at mle; omega
        have hon' : (off : Int) + m ≤ n := by omega
        have z1 : acc.length + 1 ≤ maxLen := by have := hJ.out.2.2.2.2.2.2.1; unfold maxLen; omega
        have z2 : (acc.length + 1) * 32 ≤ 140737488355328 := by have := hJ.out.2.2.2.2.2.2.1; omega
        have hlow : RowKit.Below wr.heap.size wr (((w1.alloc (.cells #[V8 fk, .slice B fl.length D] 174)).alloc (.cells #[V8 fk, .slice B fl.length D] 174))) := bthen H4.out (low2 _ _ _)
        have HLOW := Lib.hid hlow
        clear hlen mle hlow
        go_wp2_with (at_builtin; refine wpList_app rfl _ _ 169 rfl 174 2 32 (.agg #[.int .u8 0, .slice none 0 0]) Tryz.underlying169 (by kernel_rfl) rfl (by decide) A acc.length C _ blk rfl (hJ.out.2.2.2.1.row.below HLOW.out) (some ⟨w1.heap.size + 1, 0, none⟩) 1 1 [V8 fk, .slice B fl.length D] rfl rfl (CellsAt.of_block (blk2 _ _ _).2) (fun h => by cases h) (fun ad h => ⟨_, _, (Option.some.inj h).symm⟩) (by simp; exact ⟨rfl, rfl⟩) z1 z2 ?_; intro B8 D8 w8 b8 h1 h2 h3; have H81 := Lib.hid h1; have H82 := Lib.hid h2; have H83 := Lib.hid h3; clear h1 h2 h3)
        obtain ⟨hle, hk, hsc, hb, hqs, hbA, hacc, hlow⟩ := hJ.out
        obtain ⟨k, rfl⟩ : ∃ k', k = k' + 1 := ⟨k - 1, by omega⟩
        rw [scanFrom, if_pos (by have := Hl.out; omega), Hq.out, if_pos rfl] at hsc
        have hfresh : ∀ ad, B = some ad → wr.heap.size ≤ ad.block := H3.out
        have hwr : w.heap.size ≤ wr.heap.size := hlow.size
        have hbn := (hb.below HLOW.out).push (frameEl (fk, fl) (B, D)) H82.out H81.out H83.out (Nat.le_trans hwr HLOW.out.size) (fun q hq => by
          obtain rfl := List.mem_singleton.1 (show q ∈ [(B, D, fl)] from hq)
          refine ⟨H2.out.below (low2 _ _ _), fun ad had => ?_⟩
          have h4 := hfresh ad had
          refine ⟨Nat.le_trans hwr h4, fun e => ?_⟩
          have := hb.row.lt _ e
          omega)
        rw [zip_push frameEl hqs] at hbn
        have hlow8 : RowKit.Below w.heap.size w w8 := (bthen hlow HLOW.out).grown H82.out (bthen hlow HLOW.out).size (fun b hb2 => hb.fresh b hb2)
        have hb8 : b8 = none → B8 = none := fun e => by
          rcases hbn.row.form with ⟨_, h0, _⟩ | ⟨g, _, _, h2, _⟩
          · exact absurd h0 (by omega)
          · rw [e] at h2; cases h2
        exact ⟨⟨acc ++ [(fk, fl)], off + m, B8, D8, qs ++ [(B, D)], b8, k, by simp, by simp, Lib.hid ⟨hon, by omega, hsc, by simpa using hbn, by simp [hqs], hb8, by simp; omega, hlow8⟩⟩, by simp [intOf]; omega⟩
      · have hq0' : ¬ (q : Int) = 0 := by omega
        obtain ⟨hle, hk, hsc, hb, hqs, hbA, _, hlow⟩ := hJ.out
        have hsc' : scanF x = (acc, off, q) := by
          rw [hsc]
          cases k with
          | zero => exact absurd hk (by omega)
          | succ k => rw [scanFrom, if_pos (by have := Hl.out; omega), Hq.out, if_neg hq0]
        have hfin := hb.frames hqs rfl (fun ad had e => by rw [hbA e] at had; cases had)
        have HS := Lib.hid hsc'
        have HF := Lib.hid hfin
        have HL := Lib.hid hlow
        clear hlen hle hk hsc hb hqs hbA hlow hsc' hfin hJ hq0
        go_wp2
        go_ret3
        rw [HS.out]
        exact ⟨A, C, rfl, (HF.out.below H4.out).below (low1 _ _), bthen (bthen HL.out H4.out) (low1 _ _)⟩
    · have h1 : ¬ (off : Int) < n := by omega
      obtain ⟨hle, hk, hsc, hb, hqs, hbA, _, hlow⟩ := hJ.out
      have hsc' : scanF x = (acc, off, 0) := by
        rw [hsc]
        cases k with
        | zero => rfl
        | succ k => rw [scanFrom, if_neg (by have := Hl.out; omega)]
      have hfin := hb.frames hqs rfl (fun ad had e => by rw [hbA e] at had; cases had)
      have HS := Lib.hid hsc'
      have HF := Lib.hid hfin
      have HL := Lib.hid hlow
      clear hle hk hsc hb hqs hbA hlow hsc' hfin hJ
      go_wp2
      go_ret3
      rw [HS.out]
      exact ⟨A, C, rfl, HF.out, HL.out⟩
end Go.Proofs.YtgpenpnobjecgaaGreatDoor

/- WMust -/
namespace Go.Proofs.YtgpenpnobjecgaaGreatDoor
set_option maxRecDepth 100000
open Go.RowKit

/-- What must panics with. -/
def stopV (q : Nat) : Value := .iface 156 (.agg #[.int .i64 q])
def stopped (q : Nat) : Ending := .panicked [{ v := stopV q, recovered := false }]
set_option maxRecDepth 100000 in
theorem must_ok (w : World) : Calls Tryz.prog 57 #[.int .i64 0] w (fun e w' => e = .returned (.tuple #[]) ∧ w = w') := by
  go_enter Tryz.func57, Tryz.ntmps57
  go_wp2
  go_end0
  exact ⟨rfl, rfl⟩
set_option maxRecDepth 100000 in
theorem must_stops (q : Nat) (hq : q ≠ 0) (w : World) : Calls Tryz.prog 57 #[.int .i64 q] w (fun e w' => e = .panicked [{ v := stopV q, recovered := false }] ∧ w = w') := by
  have hq' : ¬ (q : Int) = 0 := by omega
  clear hq
  go_enter Tryz.func57, Tryz.ntmps57
  go_wp2
  exact ⟨rfl, rfl, rfl⟩
end Go.Proofs.YtgpenpnobjecgaaGreatDoor

/- WSeal -/
namespace Go.Proofs.YtgpenpnobjecgaaGreatDoor
set_option maxRecDepth 100000
open Go.RowKit

/-- New bytes. -/
def RetF (w : World) (l : List UInt8) (e : Ending) (w' : World) : Prop := ∃ B C blk, e = .returned (.slice B l.length C) ∧ Fresh w w' B C l blk
theorem RetB.fresh {w w' : World} {n : Nat} {l : List UInt8} {e : Ending} (h : RetB w n l e w') (hn : n = l.length) : ∃ B C blk, e = .returned (.slice B l.length C) ∧ Fresh w w' B C l blk := by
  obtain ⟨B, C, he, hA⟩ := h
  subst hn
  refine ⟨B, C, B.map (·.block), he, ?_, fun b hb => ?_, hA.low⟩
  · refine .inl ⟨rfl, hA.own.1, ?_⟩
    rcases hA.own.2 with h1 | ⟨g, cap, cur, h1, h2, h3⟩
    · exact .inl h1
    · exact .inr ⟨g, cap, cur, h1, Nat.zero_le _, h3⟩
  · cases B with
    | none => cases hb
    | some ad => rw [← Option.some.inj hb]; exact (hA.block ad rfl).1
/-- wal.sealed. -/
def sealW (k : UInt8) (n : Nat) (p : List UInt8) : List UInt8 := sealed k (groups n ++ p)
set_option maxRecDepth 100000 in
set_option maxHeartbeats 1000000 in
theorem wsealed_any (k : UInt8) (n : Nat) (p : List UInt8) (A : Option Addr) (C : Nat) (w : World) (X : Txt w A p.length C p) (hk : k ≠ 0) (hn : n < 18446744073709551616) (hl : p.length ≤ 2097142) (hT : SumsTab w) :
    Calls Tryz.prog 69 #[V8 k, .int .u64 n, .slice A p.length C] w (RetF w (sealW k n p)) := by
  have hgl := groups_len n hn
  have hnil : Txt w none 0 0 [] := ⟨rfl, ⟨⟨fun h => by cases h⟩, Nat.le_refl _, fun _ => rfl, fun ad h => by cases h⟩⟩
  have hpu := Lib.hid (putuint_any [] none 0 0 n w hnil (by decide) hn)
  have HX := Lib.hid X
  have HT := Lib.hid hT
  obtain ⟨G, hG⟩ : ∃ G, G = groups n := ⟨_, rfl⟩
  have hs := Lib.hid (show sealF k (G ++ p) = (sealW k n p, 0) by unfold sealF; rw [if_neg hk, if_neg (by rw [List.length_append, hG]; omega), hG]; rfl)
  rw [← hG, List.nil_append] at hpu
  rw [← hG] at hgl
  clear X hT hnil hG hk
  have z1 : G.length + p.length ≤ maxLen := by unfold maxLen; omega
  have z2 : (G.length + p.length) * 1 ≤ 140737488355328 := by omega
  go_enter Tryz.func69, Tryz.ntmps69
  go_wp2_with fail
  go_at_call 104
  refine hpu.out.mono ?_
  intro e w1 h
  obtain ⟨B1, C1, b1, rfl, F1⟩ := h.fresh (by simp)
  have H1 := Lib.hid F1
  clear h F1 hpu
  go_wp2_with (at_builtin; refine wpList_app rfl _ _ 22 rfl 5 1 1 _ Tryz.underlying22 info_u8r rfl (by decide) B1 G.length C1 (G.map V8) b1 rfl H1.out.own A p.length C (p.map V8) rfl (by simp) (HX.out.below H1.out.low).src.at_.cells HX.out.src.nil HX.out.src.od (bone p) z1 z2 ?_; intro B2 D2 w2 b2 h1 h2 h3; have F2 := Lib.hid (H1.out.app rfl h1 h2 h3); clear h1 h2 h3)
  go_at_call 103
  have hsl : (G ++ p).length = G.length + p.length := List.length_append
  rw [← hsl]
  refine (seal_any k (G ++ p) B2 D2 w2 F2.out.txt (by omega) (HT.out.low F2.out.low)).mono ?_
  rw [hs.out]
  rintro e w3 ⟨B3, C3, b3, rfl, h1, h2, h3⟩
  have F3 : Fresh w w3 B3 C3 (sealW k n p) b3 := ⟨h1, fun b hb => Nat.le_trans F2.out.low.size (h2 b hb), bthen F2.out.low h3⟩
  have F3 := Lib.hid F3
  clear h1 h2 h3 hsl
  go_wp2_with (go_at_call 57; refine (must_ok w3).mono ?_; rintro e w4 ⟨rfl, rfl⟩)
  go_ret
  exact ⟨B3, C3, b3, rfl, F3.out⟩
end Go.Proofs.YtgpenpnobjecgaaGreatDoor

/- WBytes -/
namespace Go.Proofs.YtgpenpnobjecgaaGreatDoor
set_option maxRecDepth 100000
open Go.RowKit

/-- A slice of slices of bytes; all its blocks are in G. -/
structure RowsAt (w : World) (A : Option Addr) (n C : Nat) (l : List (List UInt8)) (G : Nat → Prop) : Prop where
  len : n = l.length
  cap : n ≤ C
  nil : A = none → C = 0
  plain : ∀ ad, A = some ad → ∃ b o, ad = ⟨b, o, none⟩ ∧ b < w.heap.size ∧ G b
  each : ∀ i p, l[i]? = some p → ∃ b o B c, A = some ⟨b, o, none⟩ ∧ w.cell? ⟨b, o + i, none⟩ = some (.slice B p.length c) ∧ Txt w B p.length c p ∧ ∀ ad, B = some ad → G ad.block
theorem RowsAt.kept {F G : Nat → Prop} {w w' : World} {A : Option Addr} {n C : Nat} {l : List (List UInt8)} (h : RowsAt w A n C l G) (hk : Kept F w w') (hF : ∀ b, G b → b < w.heap.size → ¬ F b) : RowsAt w' A n C l G := by
  refine ⟨h.len, h.cap, h.nil, fun ad had => ?_, fun i p hp => ?_⟩
  · obtain ⟨b, o, e, hlt, hg⟩ := h.plain ad had
    exact ⟨b, o, e, Nat.lt_of_lt_of_le hlt hk.size, hg⟩
  · obtain ⟨b, o, B, c, hA, h1, h3, h4⟩ := h.each i p hp
    obtain ⟨b', o', e, hlt, hg⟩ := h.plain _ hA
    simp only [Addr.mk.injEq, and_true] at e
    obtain ⟨rfl, rfl⟩ := e
    refine ⟨b, o, B, c, hA, hk.cell h1 (hF b hg hlt), h3.kept hk fun ad had _ => ?_, h4⟩
    obtain ⟨b2, o2, rfl, hlt2⟩ := h3.src.plain ad had
    exact hF b2 (h4 _ had) hlt2
theorem RowsAt.below {G : Nat → Prop} {w w' : World} {A : Option Addr} {n C : Nat} {l : List (List UInt8)} (h : RowsAt w A n C l G) (hb : Below w.heap.size w w') : RowsAt w' A n C l G := h.kept (Kept.of_below (F := fun _ => False) hb) fun _ _ _ => id
theorem RowsAt.mono {G H : Nat → Prop} {w : World} {A : Option Addr} {n C : Nat} {l : List (List UInt8)} (h : RowsAt w A n C l G) (hG : ∀ b, b < w.heap.size → G b → H b) : RowsAt w A n C l H :=
  ⟨h.len, h.cap, h.nil, fun ad had => by obtain ⟨b, o, e, hlt, hg⟩ := h.plain ad had; exact ⟨b, o, e, hlt, hG b hlt hg⟩, fun i p hp => by
    obtain ⟨b, o, B, c, hA, h1, h3, h4⟩ := h.each i p hp
    refine ⟨b, o, B, c, hA, h1, h3, fun ad had => ?_⟩
    obtain ⟨b2, o2, rfl, hlt2⟩ := h3.src.plain ad had
    exact hG _ hlt2 (h4 _ had)⟩
theorem RowsAt.none (w : World) (G : Nat → Prop) : RowsAt w none 0 0 [] G := ⟨rfl, Nat.le_refl _, fun _ => rfl, (fun ad h => by cases h), (fun i p h => by cases h)⟩
/-- Records, sealed. -/
def recsW : Nat → List (List UInt8) → List UInt8
  | _, [] => []
  | i, r :: t => sealW 2 i r ++ recsW (i + 1) t
theorem recsW_push : ∀ (l : List (List UInt8)) (i : Nat) (x : List UInt8), recsW i (l ++ [x]) = recsW i l ++ sealW 2 (i + l.length) x
  | [], i, x => by simp [recsW]
  | r :: t, i, x => by
    simp only [List.cons_append, recsW, recsW_push t (i + 1) x, List.append_assoc, List.length_cons]
    congr 3
    omega
def bytesW (n : Nat) (state : List UInt8) (records : List (List UInt8)) : List UInt8 := sealW 1 n state ++ recsW 1 records
theorem sealW_len (k : UInt8) (n : Nat) (p : List UInt8) : (sealW k n p).length = 9 + (groups n).length + p.length := by rw [sealW, sealed_len, List.length_append]; omega
theorem recsW_len : ∀ (l : List (List UInt8)) (i : Nat) (_ : i + l.length < 18446744073709551616) (_ : ∀ r ∈ l, r.length ≤ 65536), (recsW i l).length ≤ 65555 * l.length
  | [], _, _, _ => by simp [recsW]
  | r :: t, i, hi, hr => by
    have h1 := recsW_len t (i + 1) (by simp at hi; omega) (fun x hx => hr x (by simp [hx]))
    have h2 := hr r (by simp)
    have h3 := groups_len i (by simp at hi; omega)
    simp only [recsW, List.length_append, sealW_len, List.length_cons]
    omega
theorem conv_u64 (n : Nat) (hn : n < 9223372036854775808) : ∀ w : World, (convert 3 96 (.int .i64 (n : Int))).run Tryz.prog w = .ok (.int .u64 n) w := fun w => by
  have := run_convert_int (P := Tryz.prog) w 3 96 .i64 n (by kernel_rfl) (by kernel_rfl)
  rw [this]
  have : IntKind.wrap (Tryz.prog.intKind 96) (n : Int) = n := by
    rw [show Tryz.prog.intKind 96 = .u64 by kernel_rfl]
    simp only [IntKind.wrap_u64]
    omega
  rw [this]
  rfl
set_option maxRecDepth 100000 in
set_option maxHeartbeats 1000000 in
theorem wbytes_any (n : Nat) (state : List UInt8) (records : List (List UInt8)) (A : Option Addr) (C : Nat) (R : Option Addr) (K : Nat) (w : World) (G : Nat → Prop) (X : Txt w A state.length C state) (Y : RowsAt w R records.length K records G) (hn : n < 9223372036854775808) (hl : state.length ≤ 1048576) (hr : ∀ r ∈ records, r.length ≤ 65536) (hc : records.length ≤ 4194304) (hT : SumsTab w) :
    Calls Tryz.prog 60 #[.int .i64 n, .slice A state.length C, .slice R records.length K] w (RetF w (bytesW n state records)) := by
  have hs := Lib.hid (wsealed_any 1 n state A C w X (by decide) (by omega) (by omega) hT)
  have HY := Lib.hid Y
  have HT := Lib.hid hT
  have HR := Lib.hid hr
  have hv : (V8 1) = .int .u8 1 := rfl
  rw [hv] at hs
  have hcv := conv_u64 n hn
  clear X Y hT hr hv
  go_enter Tryz.func60, Tryz.ntmps60
  go_wp2_with fail
  go_at_call 69
  refine hs.out.mono ?_
  rintro e w1 ⟨B1, C1, b1, rfl, F1⟩
  have F1 := Lib.hid F1
  have HN := Lib.hid hn
  clear hs hcv hn
  go_wp2
  go_loopw [7, 16] (fun sv iv wr => ∃ (i : Nat) (acc : List UInt8) (B : Option Addr) (D : Nat) (blk : Option Nat), sv = .slice B acc.length D ∧ iv = .int .i64 i ∧ Hid (i ≤ records.length ∧ acc = sealW 1 n state ++ recsW 1 (records.take i) ∧ Fresh w wr B D acc blk)) (fun _ iv _ => records.length - (intOf iv).toNat)
  case atStart => exact ⟨0, sealW 1 n state, B1, C1, b1, rfl, rfl, Lib.hid ⟨Nat.zero_le _, by simp [recsW], F1.out⟩⟩
  case round =>
    obtain ⟨i, acc, B, D, blk, rfl, rfl, hI⟩ := hrel
    by_cases hlt : i < records.length
    · have h1 : (i : Int) < records.length := by omega
      obtain ⟨r, hr⟩ : ∃ r, records[i]? = some r := ⟨_, List.getElem?_eq_getElem hlt⟩
      obtain ⟨b, o, Br, cr, rfl, q1, q2, _⟩ := (HY.out.below hI.out.2.2.low).each i r hr
      have hrl := HR.out r (List.mem_of_getElem? hr)
      have hs2 := Lib.hid (fun W (hW : RowKit.Below wr.heap.size wr W) => wsealed_any 2 (i + 1) r Br cr W (q2.below hW) (by decide) (by omega) (by omega) ((HT.out.low hI.out.2.2.low).low hW))
      rw [show (V8 2) = .int .u8 2 from rfl] at hs2
      have hcv := conv_u64 (i + 1) (by omega)
      rw [Int.natCast_add, Int.natCast_one] at hcv
      have Hr := Lib.hid hr
      have Hrl := Lib.hid hrl
      have hal : acc.length ≤ 1048595 + 65555 * i := by
        have h1 := recsW_len (records.take i) 1 (by rw [List.length_take]; omega) (fun x hx => HR.out x (List.mem_of_mem_take hx))
        have h2 := groups_len n (by have := HN.out; omega)
        rw [hI.out.2.1, List.length_append, sealW_len]
        rw [List.length_take, Nat.min_eq_left (by omega)] at h1
        omega
      have hsl : (sealW 2 (i + 1) r).length ≤ 65555 := by
        rw [sealW_len]
        have := groups_len (i + 1) (by omega)
        omega
      have htk : records.take i ++ [r] = records.take (i + 1) := by rw [List.take_add_one, hr]; rfl
      have hnx : acc ++ sealW 2 (i + 1) r = sealW 1 n state ++ recsW 1 (records.take (i + 1)) := by
        rw [hI.out.2.1, ← htk, recsW_push, List.append_assoc, List.length_take, Nat.min_eq_left (by omega), Nat.add_comm 1 i]
      have Hnx := Lib.hid hnx
      obtain ⟨sl, hsl2⟩ : ∃ sl, sl = sealW 2 (i + 1) r := ⟨_, rfl⟩
      rw [← hsl2] at Hnx hs2 hsl
      have z1 : acc.length + sl.length ≤ maxLen := by unfold maxLen; omega
      have z2 : (acc.length + sl.length) * 1 ≤ 140737488355328 := by omega
      clear hr q2 hrl hal hsl htk hnx hsl2
      go_wp2_with fail
      go_at_call 69
      have hs3 := hs2.out wr (Below.refl _ _)
      rw [Int.natCast_add, Int.natCast_one] at hs3
      refine hs3.mono ?_
      rintro e w2 ⟨B2, C2, b2, rfl, F2⟩
      have F2 := Lib.hid F2
      clear hs3 hs2 hcv
      go_wp2_with (at_builtin; refine wpList_app rfl _ _ 22 rfl 5 1 1 _ Tryz.underlying22 info_u8r rfl (by decide) B acc.length D (acc.map V8) blk rfl (hI.out.2.2.own.below F2.out.low) B2 sl.length C2 (sl.map V8) rfl (by simp) F2.out.txt.src.at_.cells F2.out.txt.src.nil F2.out.txt.src.od (bone sl) z1 z2 ?_; intro B3 D3 w3 b3 h1 h2 h3; have F3 := Lib.hid ((hI.out.2.2.next F2.out.low).app rfl h1 h2 h3); clear h1 h2 h3)
      go_roundw
      case rel => exact ⟨i + 1, acc ++ sl, B3, D3, b3, by simp, by go_num, Lib.hid ⟨by omega, Hnx.out, F3.out⟩⟩
      case measure => simp [intOf]; omega
    · obtain rfl : i = records.length := by have := hI.out.1; omega
      have h1 : ¬ (records.length : Int) < (records.length : Int) := by omega
      go_wp2
      go_ret
      have h2 := hI.out.2.1
      rw [List.take_length] at h2
      have F := hI.out.2.2
      rw [h2] at F ⊢
      exact ⟨B, D, blk, rfl, F⟩
end Go.Proofs.YtgpenpnobjecgaaGreatDoor

/- WName -/
namespace Go.Proofs.YtgpenpnobjecgaaGreatDoor
set_option maxRecDepth 100000
open Go.RowKit

/-- The tables and sentinels as they are laid. -/
structure Tabs6 (w : World) : Prop where
  sums : SumsTab w
  pow : Lib.TabIs Tryz.prog w "internal/strconv.uint64pow10" .u64 Lib.pow10Tab
  syn : ∃ tp p, w.var? Tryz.prog "strconv.ErrSyntax" = some #[.iface tp p]
  rng : ∃ tp p, w.var? Tryz.prog "strconv.ErrRange" = some #[.iface tp p]
theorem var_kept {F : Nat → Prop} {w w' : World} {n : String} {g : Nat} {cs : Array Value} (hg : Tryz.prog.globalNamed n = some g) (h : w.var? Tryz.prog n = some cs) (hk : Kept F w w') (hF : ¬ F g) : w'.var? Tryz.prog n = some cs := by
  unfold World.var? at h ⊢
  rw [hg] at h ⊢
  simp only [Option.bind_some] at h ⊢
  have hlt : g < w.heap.size := by
    rcases Nat.lt_or_ge g w.heap.size with h' | h'
    · exact h'
    · rw [Array.getElem?_eq_none h'] at h; cases h
  rw [hk.block g hlt hF]
  exact h
theorem Tabs6.low {w w' : World} (h : Tabs6 w) (hb : Below w.heap.size w w') : Tabs6 w' := by
  have hk : Kept (fun _ => False) w w' := Kept.of_below hb
  refine ⟨h.sums.low hb, var_kept (g := 3) (by kernel_rfl) h.pow hk id, ?_, ?_⟩
  · obtain ⟨tp, p, hs⟩ := h.syn
    exact ⟨tp, p, var_kept (g := 1) (by kernel_rfl) hs hk id⟩
  · obtain ⟨tp, p, hs⟩ := h.rng
    exact ⟨tp, p, var_kept (g := 2) (by kernel_rfl) hs hk id⟩
theorem below_grow' (w : World) (k : Nat) (os : Array Obj) : Below w.heap.size w (Sort.grow (w.drewN k) os) :=
  ⟨rfl, rfl, rfl, by simp [Sort.grow, World.drewN], fun j hj => by simp [Sort.grow, World.drewN, Array.getElem?_append_left hj]⟩
def nameW (n : Nat) : List UInt8 := [119, 97, 108, 45] ++ Lib.itoa n
theorem nameW_len (n : Nat) (hn : n < 9223372036854775808) : (nameW n).length ≤ 25 := by
  have := Lib.itoa_length_le n (by omega) (by omega)
  simp only [nameW, List.length_append, List.length_cons, List.length_nil]
  omega
set_option maxRecDepth 100000 in
theorem wname_any (n : Nat) (hn : n < 9223372036854775808) (w : World) (hT : Tabs6 w) : Calls Tryz.prog 64 #[.int .i64 n] w fun e w' => e = .returned (strV (nameW n)) ∧ Below w.heap.size w w' := by
  have hi := Lib.hid (Tryz.strconv_Itoa n (by omega) (by omega) w hT.pow)
  clear hT
  go_enter Tryz.func64, Tryz.ntmps64
  go_wp2_with fail
  go_at_call 102
  refine hi.out.mono ?_
  rintro e w1 ⟨rfl, k, os, rfl⟩
  generalize hl : Lib.itoa (n : Int) = l
  have Hl := Lib.hid hl
  have hll : l.length ≤ 21 := by rw [← hl]; exact Lib.itoa_length_le n (by omega) (by omega)
  clear hl
  go_wp2
  go_ret
  refine ⟨?_, ?_⟩
  · unfold strV nameW
    rw [Hl.out]
    rfl
  · exact below_grow' _ _ _
end Go.Proofs.YtgpenpnobjecgaaGreatDoor
