/- WalSafe: the worlds in which a record is noted in the book. -/
import Derived.Test.YtgpenpnobjecgaaGreatDoorJWalSafeCard46
import Derived.Test.YtgpenpnobjecgaaGreatDoorJWalSafeCard47
/- RunPush -/
namespace Go.Proofs.YtgpenpnobjecgaaGreatDoor
set_option maxRecDepth 100000
open Go.RowKit Dk

theorem append_whole {d d' : DiskS} {L L' : LogS} {p : Bs} (h : appendW d L p = ((d', L'), 0)) : L.broken = false := by
  cases hb : L.broken with
  | false => rfl
  | true =>
    unfold appendW at h
    rw [hb] at h
    split at h
    · have := congrArg Prod.snd h
      exact absurd this (by simp)
    · have := congrArg Prod.snd h
      exact absurd this (by simp)
theorem SafeI.few {R E : Nat} {d : DiskS} {L : LogS} {b : BookS} (h : SafeI R E d L b) (hb : L.broken = false) : b.records.length ≤ 4194304 := by
  obtain ⟨i, j, h1, _⟩ := h.use hb
  have := bytesW_count L.epoch b.state b.records
  have := h1.len
  omega
theorem SafeI.room_left {R E : Nat} {d : DiskS} {L : LogS} {b : BookS} (h : SafeI R E d L b) (hR : R ≤ 9223372036854775807) (hb : L.broken = false) : free d + L.size ≤ 9223372036854775807 := by
  obtain ⟨i, j, h1, _, _, _, _, h6, _⟩ := h.use hb
  have := h1.free
  have := h1.fits
  omega
theorem run_build_row1 (w : World) (A : Option Addr) (n C : Nat) : (Instr.buildSlice 23 1 #[(0, .slice A n C)]).run Tryz.prog w = .ok (.slice (some ⟨w.heap.size, 0, none⟩) 1 1) (w.alloc (.cells #[.slice A n C] 22)) := by kernel_rfl
/-- The region that notes a record: its worlds, and what holds behind it. -/
theorem push_worlds {Z : Nat → Prop} {wc wa : World} {g dg bb qb R E : Nat} {d : DiskS} {L : LogS} {b : BookS} {sA rA nA PA : Option Addr} {sC rC nC PC : Nat} {vals : List Value} {rblk : Option Nat} {p : Bs}
    (hr : RunZ Z wc wa g dg d L) (hZ : ∀ x, Z x → x < wa.heap.size) (hb : BookR Z wc wa bb b sA sC rA rC nA nC vals rblk) (hs : SafeI R E d L (b.push p)) (X : TxtW wc PA p.length PC p) (hp : p.length ≤ 1048576) (hn : b.records.length ≤ 4194304)
    (hq : wa.cell? ⟨qb, 1, none⟩ = some (.slice PA p.length PC)) (hqz : ∀ x, Z x → x ≠ qb) :
    ∃ (k D9 : Nat) (w2 w3 w4 w5 : World) (B8 : Option Addr) (D8 : Nat), w2 = wa.drew.alloc (.cells #[] 5) ∧
      (Builtin.append_ #[22, 22] 22 #[.slice (some ⟨wa.drew.heap.size, 0, none⟩) 0 0, .slice PA p.length PC]).run Tryz.prog w2 = .ok (.slice (some ⟨k, 0, none⟩) p.length D9) w3 ∧
      w4 = w3.alloc (.cells #[.slice (some ⟨k, 0, none⟩) p.length D9] 22) ∧
      (Builtin.append_ #[23, 23] 23 #[.slice rA b.records.length rC, .slice (some ⟨w3.heap.size, 0, none⟩) 1 1]).run Tryz.prog w4 = .ok (.slice B8 (b.records.length + 1) D8) w5 ∧
      (∀ i W, seqW wa.drew w2 w3 w4 w5 i W → W.cell? ⟨bb, 1, none⟩ = some (.slice rA b.records.length rC) ∧ W.cell? ⟨qb, 1, none⟩ = some (.slice PA p.length PC)) ∧
      (∃ u, w5.cell? ⟨bb, 1, none⟩ = some u) ∧ (∀ k, w5.frozen? ⟨bb, k, none⟩ = false) ∧
      SafeAt wc (w5.setCell ⟨bb, 1, none⟩ (.slice B8 (b.records.length + 1) D8)) R E bb g dg := by
  have h1 : RowKit.Below wa.heap.size wa wa.drew := (Below.refl _ _).drew
  obtain ⟨w2, hw2⟩ : ∃ W, W = wa.drew.alloc (.cells #[] 5) := ⟨_, rfl⟩
  have h2 : RowKit.Below wa.heap.size wa w2 := by rw [hw2]; exact bthen h1 (low1 _ _)
  have hb2 : w2.heap[wa.drew.heap.size]? = some (.cells #[] 5 (0, 0)) := by rw [hw2]; exact blk1 _ _
  have X2 := X.below (bthen hr.low h2)
  obtain ⟨B9, D9, w3, b9, hrun3, ho3, hg3, hb9⟩ := run_app0 (P := Tryz.prog) 22 22 _ Tryz.underlying22 info_u8r rfl (by decide) (OwnR.of_row hb2 (Nat.le_refl _) (Nat.zero_le _) rfl rfl) PA p.length PC (p.map V8) (by simp) X2.cells X2.nil (bone p) (by unfold maxLen; omega) (by omega)
  rw [hw2] at hg3 hb9
  obtain ⟨k, rfl, hk, hown3, hlow3⟩ := newB ho3 hg3 hb9
  rw [Nat.zero_add] at hrun3
  have h3 : RowKit.Below wa.heap.size wa w3 := bthen h1 hlow3
  obtain ⟨w4, hw4⟩ : ∃ W, W = w3.alloc (.cells #[.slice (some ⟨k, 0, none⟩) p.length D9] 22) := ⟨_, rfl⟩
  have hb4 : w4.heap[w3.heap.size]? = some (.cells #[.slice (some ⟨k, 0, none⟩) p.length D9] 22 (0, 0)) := by rw [hw4]; exact blk1 _ _
  have h34 : RowKit.Below w3.heap.size w3 w4 := by rw [hw4]; exact low1 _ _
  have h4 : RowKit.Below wa.heap.size wa w4 := bthen h3 h34
  obtain ⟨B8, D8, w5, b8, hrun5, ho5, hg5, hb8⟩ := run_app0 (P := Tryz.prog) 23 23 (.slice none 0 0) Tryz.underlying23 (by kernel_rfl) rfl (by decide) (hb.rcd.below h4) (some ⟨w3.heap.size, 0, none⟩) 1 1 [.slice (some ⟨k, 0, none⟩) p.length D9] rfl (CellsAt.of_block hb4) (fun h => by cases h) (by simp; rfl) (show b.records.length + 1 ≤ maxLen by unfold maxLen; omega) (show (b.records.length + 1) * 24 ≤ 140737488355328 by omega)
  have hk5 : Kept (fun x => rblk = some x) wa w5 := (Kept.of_below h4).grown hg5 fun x e => .inl e
  have hbb := hZ bb hb.bz.1
  have hrb : rblk ≠ some bb := fun e => (hb.rz bb e).2.2 rfl
  have hrow5 := hk5.blk hb.row hrb
  have hks := Kept.setCell (Kept.refl (fun x => x = bb) w5) ⟨bb, 1, none⟩ (.slice B8 (b.records.length + 1) D8) (.inl rfl)
  have hrow6 := setCell_one (k := 1) hrow5 (.slice B8 (b.records.length + 1) D8)
  have hwa := hr.low.size
  have hs4 := h4.size
  have hs5 := hk5.size
  have hs45 := ((Kept.refl (fun x => rblk = some x) w4).grown hg5 fun x e => .inl e).size
  have hsd := h1.size
  have hk3 := hown3.lt k rfl
  have hs34 := h34.size
  have hlen : (b.push p).records.length = b.records.length + 1 := by show (b.records ++ [p]).length = _; simp
  refine ⟨k, D9, w2, w3, w4, w5, B8, D8, hw2, hrun3, hw4, hrun5, fun i W h => ?_, ⟨_, cell_block hrow5 rfl⟩, frozen_row hrow5, ?_⟩
  · have key : ∀ {W}, RowKit.Below wa.heap.size wa W → W.cell? ⟨bb, 1, none⟩ = some (.slice rA b.records.length rC) ∧ W.cell? ⟨qb, 1, none⟩ = some (.slice PA p.length PC) := fun hbw => ⟨cell_block (bblk hbw hb.row) rfl, (hbw.cell (p := ⟨qb, 1, none⟩) (World.block_lt_of_cell? _ _ hq)).trans hq⟩
    rcases seqW_one h with rfl | rfl | rfl | rfl | rfl
    · exact key h1
    · exact key h2
    · exact key h3
    · exact key h4
    · exact ⟨cell_block hrow5 rfl, hk5.cell hq fun e => hqz _ (hb.rz _ e).1 rfl⟩
  · have hz' : ∀ x, Z x → (Z x ∨ (wa.heap.size ≤ x ∧ x < w5.heap.size)) := fun x h => .inl h
    have hkb : ∀ ad : Addr, (some (⟨k, 0, none⟩ : Addr)) = some ad → ad.block = k := fun ad e => by rw [← Option.some.inj e]
    have hrl := hb.rcd.lt
    have hpush := BookR.push (Z := fun x => Z x ∨ (wa.heap.size ≤ x ∧ x < w5.heap.size)) (p := p) (B := some ⟨k, 0, none⟩) (c := D9) (rA' := B8) (rC' := D8) (rblk' := b8) (w2 := w5) (w' := w5.setCell ⟨bb, 1, none⟩ (.slice B8 (b.records.length + 1) D8)) ((hb.below h4).wide hz') (hown3.below h34).txt
      (fun ad had => by rw [hkb ad had]; exact ⟨.inr ⟨by omega, by omega⟩, by omega, fun e => by have := hrl k e; omega⟩)
      (fun ad had => by
        rw [hkb ad had]
        refine ⟨.inr ⟨by omega, by omega⟩, by omega, fun e => ?_⟩
        rcases hb8 with h | h
        · have := hrl k (h ▸ e); omega
        · rw [h] at e; have := Option.some.inj e; omega)
      ho5 hg5 (hb8.imp id fun h => ⟨_, h, Nat.le_refl _⟩)
      (fun x hx => by
        rcases hb8 with h | h
        · exact .inl (hb.rz x (h ▸ hx)).1
        · have hx2 := ho5.lt x hx
          rw [h] at hx
          have := Option.some.inj hx
          exact .inr ⟨by omega, hx2⟩)
      (by omega)
      (fun hn => by
        rcases ho5.form with ⟨_, h0, _⟩ | ⟨_, _, _, h0, _⟩
        · omega
        · rw [hn] at h0; cases h0)
      hks (by rw [hlen]; exact hrow6)
    have hr4 := hr.add (Z' := fun x => Z x ∨ (wa.heap.size ≤ x ∧ x < w5.heap.size)) h4 fun x h => h.imp id fun h => h.1
    have hr5 := hr4.other (F := fun x => rblk = some x) ((Kept.refl (fun x => rblk = some x) w4).grown hg5 fun x e => .inl e) fun x e => ⟨.inl (hb.rz x e).1, (hb.rz x e).2.1⟩
    have hr6 := hr5.other hks fun x e => ⟨.inl (e ▸ hb.bz.1), e ▸ hb.bz.2⟩
    exact ⟨_, _, _, _, _, _, _, _, _, _, _, _, hr6, fun x h => Nat.lt_of_lt_of_le (h.elim (fun h => Nat.lt_of_lt_of_le (hZ x h) (by omega)) fun h => h.2) hks.size, hs, hpush⟩
/-- A book laid anew: a state, and nothing else. -/
theorem BookR.fresh {Z : Nat → Prop} {w w4 w' : World} {bb k D : Nat} {p : Bs} (hown : OwnR w4 5 1 (some ⟨k, 0, none⟩) p.length D (p.map V8) (some k)) (hkb : k ≠ bb) (hzk : Z k) (hbz : Z bb ∧ w.heap.size ≤ bb)
    (hk : Kept (fun x => x = bb) w4 w') (hrow : w'.heap[bb]? = some (.cells #[.slice (some ⟨k, 0, none⟩) p.length D, .slice none 0 0, .int .i64 0, .slice none 0 0, .bool false] 89 (0, 0))) :
    BookR Z w w' bb ⟨p, [], 0, [], false⟩ (some ⟨k, 0, none⟩) D none 0 none 0 [] none := by
  have h1 : ∀ ad : Addr, (some (⟨k, 0, none⟩ : Addr)) = some ad → ad.block = k := fun ad e => by rw [← Option.some.inj e]
  refine ⟨hrow, hbz, hown.txt.kept hk (fun ad had _ e => ?_), fun ad had => ?_, ⟨rfl, ⟨fun h => absurd h (Nat.lt_irrefl 0)⟩, Nat.le_refl _, fun _ => rfl, fun ad h => by cases h⟩, (fun ad h => by cases h), OwnR.nil _ _ _, (fun i q h => by simp at h), (fun x h => by cases h), fun _ => rfl⟩
  · have := h1 ad had
    exact hkb (this.symm.trans e)
  · rw [h1 ad had]
    exact ⟨hzk, hkb, by simp⟩
section
variable {Z : Nat → Prop} {wc wa w3 : World} {g dg bb k D R E : Nat} {d : DiskS} {L : LogS} {b : BookS} {sA rA nA : Option Addr} {sC rC nC : Nat} {vals : List Value} {rblk : Option Nat} {p : Bs}
theorem snap_fresh (hr : RunZ Z wc wa g dg d L) (hZ : ∀ x, Z x → x < wa.heap.size) (hb : BookR Z wc wa bb b sA sC rA rC nA nC vals rblk) (hs : SafeI R E d L ⟨p, [], 0, [], false⟩)
    (hl : RowKit.Below wa.heap.size wa w3) (hk : wa.heap.size ≤ k) (hown : OwnR w3 5 1 (some ⟨k, 0, none⟩) p.length D (p.map V8) (some k)) :
    (∀ c, c < 5 → ∃ u, w3.cell? ⟨bb, c, none⟩ = some u) ∧ (∀ k, w3.frozen? ⟨bb, k, none⟩ = false) ∧
    SafeAt wc (((((w3.setCell ⟨bb, 0, none⟩ (.slice (some ⟨k, 0, none⟩) p.length D)).setCell ⟨bb, 1, none⟩ (.slice none 0 0)).setCell ⟨bb, 2, none⟩ (.int .i64 0)).setCell ⟨bb, 3, none⟩ (.slice none 0 0)).setCell ⟨bb, 4, none⟩ (.bool false)) R E bb g dg := by
  have hrow3 := bblk hl hb.row
  have hk11 := Kept.setCell (Kept.setCell (Kept.setCell (Kept.setCell (Kept.setCell (Kept.refl (fun b => b = bb) w3) ⟨bb, 0, none⟩ (.slice (some ⟨k, 0, none⟩) p.length D) (.inl rfl)) ⟨bb, 1, none⟩ (.slice none 0 0) (.inl rfl)) ⟨bb, 2, none⟩ (.int .i64 0) (.inl rfl)) ⟨bb, 3, none⟩ (.slice none 0 0) (.inl rfl)) ⟨bb, 4, none⟩ (.bool false) (.inl rfl)
  have hrow11 := setCell_one (k := 4) (setCell_one (k := 3) (setCell_one (k := 2) (setCell_one (k := 1) (setCell_one (k := 0) hrow3 (.slice (some ⟨k, 0, none⟩) p.length D)) (.slice none 0 0)) (.int .i64 0)) (.slice none 0 0)) (.bool false)
  have hbb := hZ bb hb.bz.1
  have hk3 := hown.lt k rfl
  have hs3 := hl.size
  refine ⟨fun c hc => ?_, frozen_row hrow3, ?_⟩
  · match c, hc with
    | 0, _ => exact ⟨_, cell_block hrow3 rfl⟩
    | 1, _ => exact ⟨_, cell_block hrow3 rfl⟩
    | 2, _ => exact ⟨_, cell_block hrow3 rfl⟩
    | 3, _ => exact ⟨_, cell_block hrow3 rfl⟩
    | 4, _ => exact ⟨_, cell_block hrow3 rfl⟩
  · have hf := BookR.fresh (Z := fun x => Z x ∨ (wa.heap.size ≤ x ∧ x < w3.heap.size)) (w := wc) hown (show k ≠ bb by omega) (.inr ⟨hk, hk3⟩) ⟨.inl hb.bz.1, hb.bz.2⟩ hk11 hrow11
    have hr4 := (hr.add (Z' := fun x => Z x ∨ (wa.heap.size ≤ x ∧ x < w3.heap.size)) hl fun x h => h.imp id fun h => h.1).other hk11 fun x e => ⟨.inl (e ▸ hb.bz.1), e ▸ hb.bz.2⟩
    exact ⟨_, _, _, _, _, _, _, _, _, _, _, _, hr4, fun x h => Nat.lt_of_lt_of_le (h.elim (fun h => Nat.lt_of_lt_of_le (hZ x h) (by omega)) fun h => h.2) hk11.size, hs, hf⟩
theorem snap_turned (hr : RunZ Z wc wa g dg d L) (hZ : ∀ x, Z x → x < wa.heap.size) (hb : BookR Z wc wa bb b sA sC rA rC nA nC vals rblk) (hs : SafeI R E d L (b.turned p))
    (hl : RowKit.Below wa.heap.size wa w3) (hk : wa.heap.size ≤ k) (hown : OwnR w3 5 1 (some ⟨k, 0, none⟩) p.length D (p.map V8) (some k)) :
    (∃ u, w3.cell? ⟨bb, 3, none⟩ = some u) ∧ (∀ k, w3.frozen? ⟨bb, k, none⟩ = false) ∧ (∃ u, (w3.setCell ⟨bb, 3, none⟩ (.slice (some ⟨k, 0, none⟩) p.length D)).cell? ⟨bb, 4, none⟩ = some u) ∧ (∀ c, (w3.setCell ⟨bb, 3, none⟩ (.slice (some ⟨k, 0, none⟩) p.length D)).frozen? ⟨bb, c, none⟩ = false) ∧
    SafeAt wc ((w3.setCell ⟨bb, 3, none⟩ (.slice (some ⟨k, 0, none⟩) p.length D)).setCell ⟨bb, 4, none⟩ (.bool true)) R E bb g dg := by
  have hrow3 := bblk hl hb.row
  have hka := Kept.setCell (Kept.refl (fun b => b = bb) w3) ⟨bb, 3, none⟩ (.slice (some ⟨k, 0, none⟩) p.length D) (.inl rfl)
  have hk11 := Kept.setCell hka ⟨bb, 4, none⟩ (.bool true) (.inl rfl)
  have hrowa := setCell_one (k := 3) hrow3 (.slice (some ⟨k, 0, none⟩) p.length D)
  have hrow11 := setCell_one (k := 4) hrowa (.bool true)
  have hbb := hZ bb hb.bz.1
  have hk3 := hown.lt k rfl
  have hs3 := hl.size
  have hkn : ∀ ad : Addr, (some (⟨k, 0, none⟩ : Addr)) = some ad → ad.block = k := fun ad e => by rw [← Option.some.inj e]
  have hrl := hb.rcd.lt
  refine ⟨⟨_, cell_block hrow3 rfl⟩, frozen_row hrow3, ⟨_, cell_block hrowa rfl⟩, frozen_row hrowa, ?_⟩
  have hf := ((hb.below hl).wide (Z' := fun x => Z x ∨ (wa.heap.size ≤ x ∧ x < w3.heap.size)) fun x h => .inl h).turn (b' := b.turned p) (nA' := some ⟨k, 0, none⟩) (nC' := D) hk11 hrow11 rfl rfl (hown.txt.kept hk11 fun ad had _ e => by have := hkn ad had; omega) fun ad had => by
    rw [hkn ad had]
    exact ⟨.inr ⟨hk, hk3⟩, by omega, fun e => by have := hrl k e; omega⟩
  have hr4 := (hr.add (Z' := fun x => Z x ∨ (wa.heap.size ≤ x ∧ x < w3.heap.size)) hl fun x h => h.imp id fun h => h.1).other hk11 fun x e => ⟨.inl (e ▸ hb.bz.1), e ▸ hb.bz.2⟩
  exact ⟨_, _, _, _, _, _, _, _, _, _, _, _, hr4, fun x h => Nat.lt_of_lt_of_le (h.elim (fun h => Nat.lt_of_lt_of_le (hZ x h) (by omega)) fun h => h.2) hk11.size, hs, hf⟩
end
end Go.Proofs.YtgpenpnobjecgaaGreatDoor
