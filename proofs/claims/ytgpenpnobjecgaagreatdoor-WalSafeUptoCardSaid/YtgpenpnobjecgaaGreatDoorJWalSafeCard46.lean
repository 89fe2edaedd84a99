/- Readings of arguments in the Wal laws: a story of acts. -/
import Derived.Test.YtgpenpnobjecgaaGreatDoorJWalSafeCard33
import Derived.Test.YtgpenpnobjecgaaGreatDoorJWalSafeCard40
import Derived.Test.YtgpenpnobjecgaaGreatDoorJWalSafeCard43
import Derived.Test.YtgpenpnobjecgaaGreatDoorJWalSafeCard45
/- BookM -/
namespace Go.Proofs.YtgpenpnobjecgaaGreatDoor
set_option maxRecDepth 100000
open Go.RowKit Dk

/-- Where a text of the book may lie. -/
def Aside (Z : Nat → Prop) (bb : Nat) (rblk : Option Nat) (A : Option Addr) : Prop := ∀ ad, A = some ad → Z ad.block ∧ ad.block ≠ bb ∧ rblk ≠ some ad.block
/-- The book: its five cells in block bb, the row of its records, its texts. -/
structure BookR (Z : Nat → Prop) (w wi : World) (bb : Nat) (b : BookS) (sA : Option Addr) (sC : Nat) (rA : Option Addr) (rC : Nat) (nA : Option Addr) (nC : Nat) (vals : List Value) (rblk : Option Nat) : Prop where
  row : wi.heap[bb]? = some (.cells #[.slice sA b.state.length sC, .slice rA b.records.length rC, .int .i64 b.safe, .slice nA b.new.length nC, .bool b.maybe] 89 (0, 0))
  bz : Z bb ∧ w.heap.size ≤ bb
  st : Txt wi sA b.state.length sC b.state
  sz : Aside Z bb rblk sA
  nw : Txt wi nA b.new.length nC b.new
  nz : Aside Z bb rblk nA
  rcd : OwnR wi 22 1 rA b.records.length rC vals rblk
  each : ∀ (i : Nat) (p : Bs), b.records[i]? = some p → ∃ B c, vals[i]? = some (Value.slice B p.length c) ∧ Txt wi B p.length c p ∧ Aside Z bb rblk B
  rz : ∀ x, rblk = some x → Z x ∧ w.heap.size ≤ x ∧ x ≠ bb
  rnil : rblk = none → rA = none
section
variable {Z Z' : Nat → Prop} {w wi w' : World} {bb : Nat} {b b' : BookS} {sA rA nA nA' : Option Addr} {sC rC nC nC' : Nat} {vals : List Value} {rblk : Option Nat}
theorem Aside.mono {rblk : Option Nat} {A : Option Addr} (h : Aside Z bb rblk A) (hz : ∀ x, Z x → Z' x) : Aside Z' bb rblk A := fun ad had => ⟨hz _ (h ad had).1, (h ad had).2⟩
theorem BookR.wide (h : BookR Z w wi bb b sA sC rA rC nA nC vals rblk) (hz : ∀ x, Z x → Z' x) : BookR Z' w wi bb b sA sC rA rC nA nC vals rblk :=
  ⟨h.row, ⟨hz _ h.bz.1, h.bz.2⟩, h.st, h.sz.mono hz, h.nw, h.nz.mono hz, h.rcd, fun i p hp => by
    obtain ⟨B, c, h1, h2, h3⟩ := h.each i p hp
    exact ⟨B, c, h1, h2, h3.mono hz⟩, fun x hx => ⟨hz _ (h.rz x hx).1, (h.rz x hx).2⟩, h.rnil⟩
/-- What others do leaves it. -/
theorem BookR.kept {F : Nat → Prop} (h : BookR Z w wi bb b sA sC rA rC nA nC vals rblk) (hk : Kept F wi w') (hF : ∀ x, Z x → ¬ F x) : BookR Z w w' bb b sA sC rA rC nA nC vals rblk :=
  ⟨hk.blk h.row (hF _ h.bz.1), h.bz, h.st.kept hk (fun ad had _ => hF _ (h.sz ad had).1), h.sz, h.nw.kept hk (fun ad had _ => hF _ (h.nz ad had).1), h.nz, h.rcd.kept hk fun x hx => hF _ (h.rz x hx).1, fun i p hp => by
    obtain ⟨B, c, h1, h2, h3⟩ := h.each i p hp
    exact ⟨B, c, h1, h2.kept hk (fun ad had _ => hF _ (h3 ad had).1), h3⟩, h.rz, h.rnil⟩
theorem BookR.below (h : BookR Z w wi bb b sA sC rA rC nA nC vals rblk) (hb : RowKit.Below wi.heap.size wi w') : BookR Z w w' bb b sA sC rA rC nA nC vals rblk := h.kept (Kept.of_below (F := fun _ => False) hb) fun _ _ => id
theorem BookR.rows (h : BookR Z w wi bb b sA sC rA rC nA nC vals rblk) : RowsAt wi rA b.records.length rC b.records Z := by
  refine ⟨rfl, h.rcd.cap.1, fun e => h.rcd.nilcap e, fun ad had => ?_, fun i p hp => ?_⟩
  · cases hb : rblk with
    | none => rw [h.rnil hb] at had; cases had
    | some x =>
      rcases h.rcd.form with ⟨h0, _⟩ | ⟨g, cur, e1, e2, e3, _⟩
      · rw [hb] at h0; cases h0
      · rw [e1] at had
        obtain rfl := Option.some.inj had
        exact ⟨g, 0, rfl, in_heap e3, (h.rz g e2).1⟩
  · obtain ⟨B, c, h1, h2, h3⟩ := h.each i p hp
    obtain ⟨g, e1, e2, e3⟩ := h.rcd.cell h1
    exact ⟨g, 0, B, c, e1, by rw [Nat.zero_add]; exact e3, h2, fun ad had => (h3 ad had).1⟩
/-- Cells of it are set: safe, or new and maybe. -/
theorem BookR.turn (h : BookR Z w wi bb b sA sC rA rC nA nC vals rblk) (hk : Kept (fun x => x = bb) wi w') (hrow : w'.heap[bb]? = some (.cells #[.slice sA b'.state.length sC, .slice rA b'.records.length rC, .int .i64 b'.safe, .slice nA' b'.new.length nC', .bool b'.maybe] 89 (0, 0)))
    (e1 : b'.state = b.state) (e2 : b'.records = b.records) (N : Txt w' nA' b'.new.length nC' b'.new) (nz : Aside Z bb rblk nA') : BookR Z w w' bb b' sA sC rA rC nA' nC' vals rblk := by
  refine ⟨hrow, h.bz, ?_, h.sz, N, nz, ?_, fun i p hp => ?_, h.rz, h.rnil⟩
  · rw [e1]; exact h.st.kept hk fun ad had _ e => (h.sz ad had).2.1 e
  · rw [e2]; exact h.rcd.kept hk fun x hx e => (h.rz x hx).2.2 e
  · rw [e2] at hp
    obtain ⟨B, c, h1, h2, h3⟩ := h.each i p hp
    exact ⟨B, c, h1, h2.kept hk (fun ad had _ e => (h3 ad had).2.1 e), h3⟩
/-- A record more: the row was grown (in place or anew), and the cell set. -/
theorem BookR.push {w2 : World} {p : Bs} {B : Option Addr} {c : Nat} {rA' : Option Addr} {rC' : Nat} {rblk' : Option Nat} (h : BookR Z w wi bb b sA sC rA rC nA nC vals rblk) (hP : Txt wi B p.length c p) (hpz : Aside Z bb rblk B) (hpz' : Aside Z bb rblk' B)
    (hown : OwnR w2 22 1 rA' (b.records.length + 1) rC' (vals ++ [Value.slice B p.length c]) rblk') (hg : wi.grownBy w2 rblk) (hb : rblk' = rblk ∨ ∃ x, rblk' = some x ∧ wi.heap.size ≤ x) (hz : ∀ x, rblk' = some x → Z x) (hw : w.heap.size ≤ wi.heap.size) (hnil : rblk' = none → rA' = none)
    (hk : Kept (fun x => x = bb) w2 w') (hrow : w'.heap[bb]? = some (.cells #[.slice sA b.state.length sC, .slice rA' (b.push p).records.length rC', .int .i64 b.safe, .slice nA b.new.length nC, .bool b.maybe] 89 (0, 0))) :
    BookR Z w w' bb (b.push p) sA sC rA' rC' nA nC (vals ++ [Value.slice B p.length c]) rblk' := by
  have hkg : Kept (fun x => x = bb ∨ rblk = some x) wi w' := ((Kept.refl (fun x => x = bb ∨ rblk = some x) wi).grown hg fun k e => .inl (.inr e)).then (hk.mono fun x _ e => .inl e)
  have out : ∀ {A : Option Addr}, Aside Z bb rblk A → ∀ ad, A = some ad → ¬ (ad.block = bb ∨ rblk = some ad.block) := fun hA ad had e => e.elim (hA ad had).2.1 (hA ad had).2.2
  have new : ∀ {A : Option Addr} {n c : Nat} {l : Bs}, Txt wi A n c l → Aside Z bb rblk A → Aside Z bb rblk' A := fun hT hA ad had => ⟨(hA ad had).1, (hA ad had).2.1, fun e => by
    rcases hb with h1 | ⟨x, h1, h2⟩
    · exact (hA ad had).2.2 (h1 ▸ e)
    · rw [h1] at e
      have := hT.src.lt ad had
      have := Option.some.inj e
      omega⟩
  have hbb := in_heap h.row
  have hrb : ∀ x, rblk' = some x → x ≠ bb := fun x hx e => by
    rcases hb with h1 | ⟨y, h1, h2⟩
    · exact (h.rz x (h1 ▸ hx)).2.2 e
    · rw [h1] at hx
      have := Option.some.inj hx
      omega
  have hvl : vals.length = b.records.length := by have := h.rcd.length; omega
  refine ⟨hrow, h.bz, h.st.kept hkg (fun ad had _ => out h.sz ad had), new h.st h.sz, h.nw.kept hkg (fun ad had _ => out h.nz ad had), new h.nw h.nz, ?_, fun i q hq => ?_, fun x hx => ⟨hz x hx, ?_, hrb x hx⟩, hnil⟩
  · show OwnR w' 22 1 rA' (b.records ++ [p]).length rC' _ rblk'
    rw [List.length_append, List.length_singleton]
    exact hown.kept hk fun x hx e => hrb x hx e
  · have hq : (b.records ++ [p])[i]? = some q := hq
    rcases Nat.lt_or_ge i b.records.length with hi | hi
    · rw [List.getElem?_append_left hi] at hq
      obtain ⟨B1, c1, h1, h2, h3⟩ := h.each i q hq
      exact ⟨B1, c1, by rw [List.getElem?_append_left (by omega)]; exact h1, h2.kept hkg (fun ad had _ => out h3 ad had), new h2 h3⟩
    · rw [List.getElem?_append_right hi] at hq
      have hi2 : i - b.records.length = 0 := by
        have := (List.getElem?_eq_some_iff.1 hq).1
        simp at this
        omega
      rw [hi2] at hq
      obtain rfl : p = q := by simpa using hq
      exact ⟨B, c, by rw [List.getElem?_append_right (by omega), hvl, hi2]; rfl, hP.kept hkg (fun ad had _ => out hpz ad had), hpz'⟩
  · rcases hb with h1 | ⟨y, h1, h2⟩
    · exact (h.rz x (h1 ▸ hx)).2.1
    · rw [h1] at hx
      have := Option.some.inj hx
      omega
/-- What was just told. -/
theorem BookR.told {w3 w4 : World} {k : Nat} {s : Bs} {rs : List Bs} {qs : List (Nat × Nat)} (hw : w.heap.size ≤ w3.heap.size) (hown : OwnR w4 5 1 (some ⟨k, 0, none⟩) s.length sC (s.map V8) (some k)) (hk0 : w3.heap.size ≤ k) (hkb : rblk ≠ some k) (hS : Sole w3 w4 rs rA rC rblk qs) (hbb : bb < w3.heap.size ∨ w4.heap.size ≤ bb) (hbw : w.heap.size ≤ bb) (hZ : Z bb) (hZn : ∀ x, w3.heap.size ≤ x → x < w4.heap.size → Z x)
    (hk : Kept (fun x => x = bb) w4 w') (hrow : w'.heap[bb]? = some (.cells #[.slice (some ⟨k, 0, none⟩) s.length sC, .slice rA rs.length rC, .int .i64 rs.length, .slice none 0 0, .bool false] 89 (0, 0))) :
    BookR Z w w' bb (toldB s rs) (some ⟨k, 0, none⟩) sC rA rC none 0 (List.zipWith soleV rs qs) rblk := by
  have hkl := hown.lt k rfl
  have h1 : ∀ ad : Addr, (some (⟨k, 0, none⟩ : Addr)) = some ad → ad.block = k := fun ad e => by rw [← Option.some.inj e]
  refine ⟨hrow, ⟨hZ, hbw⟩, hown.txt.kept hk (fun ad had _ e => ?_), fun ad had => ?_, ⟨rfl, ⟨fun h => absurd h (Nat.lt_irrefl 0)⟩, Nat.le_refl _, fun _ => rfl, fun ad h => by cases h⟩, (fun ad h => by cases h), hS.row.kept hk (fun x hx e => ?_), fun i p hp => ?_, fun x hx => ?_, hS.rnil⟩
  · have := h1 ad had
    omega
  · rw [h1 ad had]
    exact ⟨hZn k hk0 hkl, by omega, hkb⟩
  · have := hS.rnew x hx
    have := hS.row.lt x hx
    omega
  · have hp : rs[i]? = some p := hp
    obtain ⟨q, hq⟩ : ∃ q, qs[i]? = some q := ⟨_, List.getElem?_eq_getElem (by rw [hS.len]; exact (List.getElem?_eq_some_iff.1 hp).1)⟩
    have ho := hS.own i p q hp hq
    have hn := hS.new q (List.mem_of_getElem? hq)
    have hl := ho.lt _ rfl
    have h2 : ∀ ad : Addr, (some (⟨q.1, 0, none⟩ : Addr)) = some ad → ad.block = q.1 := fun ad e => by rw [← Option.some.inj e]
    refine ⟨some ⟨q.1, 0, none⟩, q.2, by rw [List.getElem?_zipWith, hp, hq]; rfl, ho.txt.kept hk (fun ad had _ e => ?_), fun ad had => ?_⟩
    · have := h2 ad had
      omega
    · rw [h2 ad had]
      exact ⟨hZn _ hn.1 hl, by omega, hn.2⟩
  · have a1 := hS.rnew x hx
    have a2 := hS.row.lt x hx
    exact ⟨hZn x a1 a2, by omega, by omega⟩
end
end Go.Proofs.YtgpenpnobjecgaaGreatDoor

/- SafeAt -/
namespace Go.Proofs.YtgpenpnobjecgaaGreatDoor
set_option maxRecDepth 100000
open Go.RowKit Dk

structure ActS where
  kind : Int
  p : Bs
  n : Int
  cd : Int
  tails : List Int
def I64 (n : Int) : Prop := -9223372036854775808 ≤ n ∧ n ≤ 9223372036854775807
/-- A row of acts that came in. -/
structure ActsW (w : World) (A : Option Addr) (n : Nat) (l : List ActS) : Prop where
  len : n = l.length
  each : ∀ (i : Nat) (a : ActS), l[i]? = some a → ∃ b o PA PC TA TC, A = some ⟨b, o, none⟩ ∧ w.cell? ⟨b, o + i * 5, none⟩ = some (.int .i64 a.kind) ∧ w.cell? ⟨b, o + i * 5 + 1, none⟩ = some (.slice PA a.p.length PC) ∧ w.cell? ⟨b, o + i * 5 + 2, none⟩ = some (.int .i64 a.n) ∧ w.cell? ⟨b, o + i * 5 + 3, none⟩ = some (.int .i64 a.cd) ∧ w.cell? ⟨b, o + i * 5 + 4, none⟩ = some (.slice TA a.tails.length TC) ∧
    TxtW w PA a.p.length PC a.p ∧ IntsW w TA a.tails.length a.tails ∧ I64 a.kind ∧ I64 a.n ∧ I64 a.cd
theorem ActsW.below {w w' : World} {A : Option Addr} {n : Nat} {l : List ActS} (h : ActsW w A n l) (hb : RowKit.Below w.heap.size w w') : ActsW w' A n l :=
  ⟨h.len, fun i a ha => by
    obtain ⟨b, o, PA, PC, TA, TC, h0, h1, h2, h3, h4, h5, h6, h7, h8⟩ := h.each i a ha
    have k := fun {c : Nat} {v : Value} (hc : w.cell? ⟨b, c, none⟩ = some v) => (hb.cell (p := ⟨b, c, none⟩) (World.block_lt_of_cell? w _ hc)).trans hc
    exact ⟨b, o, PA, PC, TA, TC, h0, k h1, k h2, k h3, k h4, k h5, h6.below hb, h7.below hb, h8⟩⟩
def storyV (FA : Option Addr) (fl FC : Nat) (room : Int) (SA : Option Addr) (sl SC : Nat) : Value := .agg #[.slice FA fl FC, .int .i64 room, .slice SA sl SC]
/-- Ahead of a round. -/
def SafeAt (w wr : World) (R E bb g dg : Nat) : Prop := ∃ Z d L b sA sC rA rC nA nC vals rblk, RunZ Z w wr g dg d L ∧ (∀ x, Z x → x < wr.heap.size) ∧ SafeI R E d L b ∧ BookR Z w wr bb b sA sC rA rC nA nC vals rblk
theorem run_broken {w w1 : World} {g dg : Nat} {d : DiskS} {L : LogS} (h : Run w w1 g dg d L) : Calls Tryz.prog 41 #[ptrV g] w1 fun e w' => e = .returned (.bool L.broken) ∧ w1 = w' := by
  obtain ⟨own, lf, hP, hf, hl⟩ := h
  obtain ⟨_, _, _, _, _, _, M⟩ := hP.log
  exact wbroken_any M
end Go.Proofs.YtgpenpnobjecgaaGreatDoor

/- DoorS -/
namespace Go.Proofs.YtgpenpnobjecgaaGreatDoor
set_option maxRecDepth 100000
open Go.ChangeShapes Go.WideShapes Go.ChangeAt Go.RowKit

theorem cellsL6act : Tryz.prog.cellsOf 86 = 5 := by kernel_rfl
theorem cellsL6acts : Tryz.prog.cellsOf 63 = 1 := by kernel_rfl
theorem cellsStory : Tryz.prog.cellsOf 65 = 3 := by kernel_rfl
section
variable {H : Type} {enc : TypeId × Value → H}
theorem cells_five {W : World} {a : Addr} {cs : List Value} (h : W.cells? 0 a 5 = some cs) : ∃ v0 v1 v2 v3 v4, cs = [v0, v1, v2, v3, v4] ∧ W.cell? a = some v0 ∧ W.cell? (a.add 1) = some v1 ∧ W.cell? (a.add 2) = some v2 ∧ W.cell? (a.add 3) = some v3 ∧ W.cell? (a.add 4) = some v4 := by
  unfold World.cells? at h
  rw [if_pos (Nat.zero_le _)] at h
  have e : a.add 0 = a := by cases a; rfl
  simp [List.range_succ, e] at h
  cases h0 : W.cell? a with
  | none => rw [h0] at h; simp at h
  | some v0 =>
    rw [h0] at h
    cases h1 : W.cell? (a.add 1) with
    | none => rw [h1] at h; simp at h
    | some v1 =>
      rw [h1] at h
      cases h2 : W.cell? (a.add 2) with
      | none => rw [h2] at h; simp at h
      | some v2 =>
        rw [h2] at h
        cases h3 : W.cell? (a.add 3) with
        | none => rw [h3] at h; simp at h
        | some v3 =>
          rw [h3] at h
          cases h4 : W.cell? (a.add 4) with
          | none => rw [h4] at h; simp at h
          | some v4 => rw [h4] at h; simp at h; exact ⟨v0, v1, v2, v3, v4, h.symm, rfl, rfl, rfl, rfl, rfl⟩
theorem open_l6act {W : World} {fuel : Nat} {cs : List Value} {x : DataW H × List MemPlace} (h : DataW.trod enc Tryz.prog W 0 (fun _ => true) true fuel 86 cs = some x) :
    ∃ (a : ActS) (PA TA : Option Addr) (PC TC : Nat), cs = [.int .i64 a.kind, .slice PA a.p.length PC, .int .i64 a.n, .int .i64 a.cd, .slice TA a.tails.length TC] ∧ TxtW W PA a.p.length PC a.p ∧ IntsW W TA a.tails.length a.tails ∧ I64 a.kind ∧ I64 a.n ∧ I64 a.cd ∧ a.p.length ≤ Rows.uptoBulk x.1 := by
  obtain ⟨xs, m, _, hx, hl, hxl, hi⟩ := DataW.trod_struct Tryz.underlying86 h
  rw [cellsL6act] at hl
  have hx2 : ∀ j, j < 4 → ∃ y, xs[j]? = some y := fun j hj => ⟨xs[j]'(by rw [hxl]; exact hj), List.getElem?_eq_getElem _⟩
  obtain ⟨y0, e0⟩ := hx2 0 (by omega)
  obtain ⟨y1, e1⟩ := hx2 1 (by omega)
  obtain ⟨y2, e2⟩ := hx2 2 (by omega)
  obtain ⟨y3, e3⟩ := hx2 3 (by omega)
  have f0 : DataW.trod enc Tryz.prog W 0 (fun _ => true) true m 3 ((cs.drop 0).take (Tryz.prog.cellsOf 3)) = xs[0]? := hi 0 _ rfl
  have f1 : DataW.trod enc Tryz.prog W 0 (fun _ => true) true m 22 ((cs.drop 1).take (Tryz.prog.cellsOf 22)) = xs[1]? := hi 1 _ rfl
  have f2 : DataW.trod enc Tryz.prog W 0 (fun _ => true) true m 3 ((cs.drop 2).take (Tryz.prog.cellsOf 3)) = xs[2]? := hi 2 _ rfl
  have f3 : DataW.trod enc Tryz.prog W 0 (fun _ => true) true m 56 ((cs.drop 3).take (Tryz.prog.cellsOf 56)) = xs[3]? := hi 3 _ rfl
  rw [e0, cellsInt] at f0
  rw [e1, cellsBytes] at f1
  rw [e2, cellsInt] at f2
  rw [e3, cellsCrash] at f3
  obtain ⟨kd, g0, hk⟩ := trod_i64 f0
  obtain ⟨B, c, y, g1, X, b1⟩ := open_txtW f1
  obtain ⟨n, g2, hn⟩ := trod_i64 f2
  obtain ⟨cd, tails, TA, TC, g3, hcd, Y⟩ := open_crash f3
  have hb : Rows.uptoBulk y1.1 + 1 ≤ Rows.uptoBulk x.1 := by
    rw [hx]
    exact bulk_agg _ (List.mem_map_of_mem (List.mem_of_getElem? e1))
  refine ⟨⟨kd, y, n, cd, tails⟩, B, TA, c, TC, ?_, X, Y, hk, hn, hcd, by show y.length ≤ _; omega⟩
  match cs, hl with
  | [v0, v1, v2, v3, v4], _ =>
    simp at g0 g1 g2 g3
    rw [g0, g1, g2, g3.1, g3.2]
theorem open_l6actsW {W : World} {fuel : Nat} {cs : List Value} {x : DataW H × List MemPlace} (h : DataW.trod enc Tryz.prog W 0 (fun _ => true) true fuel 63 cs = some x) :
    ∃ a c l, cs = [.slice a l.length c] ∧ ActsW W a l.length l ∧ l.length ≤ Rows.uptoBulk x.1 ∧ ∀ p ∈ l, p.p.length ≤ Rows.uptoBulk x.1 := by
  rcases DataW.trod_slice Tryz.underlying63 h with ⟨rfl, rfl⟩ | ⟨a, len, cap, elems, rest, n, rfl, rfl, rfl, _, hl, hm, hlen, hel, _, _⟩
  · exact ⟨none, 0, [], rfl, ⟨rfl, fun i p hp => by simp at hp⟩, Nat.zero_le _, fun p hp => by cases hp⟩
  · rw [cellsL6act] at hel
    have key : ∀ i, i < len → ∃ (p : ActS) (PA TA : Option Addr) (PC TC : Nat) (v : DataW H × List MemPlace), W.cell? (a.add (i * 5)) = some (.int .i64 p.kind) ∧ W.cell? ((a.add (i * 5)).add 1) = some (.slice PA p.p.length PC) ∧ W.cell? ((a.add (i * 5)).add 2) = some (.int .i64 p.n) ∧ W.cell? ((a.add (i * 5)).add 3) = some (.int .i64 p.cd) ∧ W.cell? ((a.add (i * 5)).add 4) = some (.slice TA p.tails.length TC) ∧ (TxtW W PA p.p.length PC p.p ∧ IntsW W TA p.tails.length p.tails ∧ I64 p.kind ∧ I64 p.n ∧ I64 p.cd) ∧ elems[i]? = some v ∧ p.p.length ≤ Rows.uptoBulk v.1 := fun i hi => by
      have h1 := hel i hi
      obtain ⟨v, hv⟩ : ∃ v, elems[i]? = some v := ⟨_, List.getElem?_eq_getElem (by omega)⟩
      rw [hv] at h1
      obtain ⟨cs', h2, h3⟩ := Option.bind_eq_some_iff.1 h1
      obtain ⟨v0, v1, v2, v3, v4, rfl, c0, c1, c2, c3, c4⟩ := cells_five h2
      obtain ⟨p, PA, TA, PC, TC, h5, h6, h7, h8, h9, h10, h11⟩ := open_l6act h3
      simp only [List.cons.injEq, and_true] at h5
      obtain ⟨rfl, rfl, rfl, rfl, rfl⟩ := h5
      exact ⟨p, PA, TA, PC, TC, v, c0, c1, c2, c3, c4, ⟨h6, h7, h8, h9, h10⟩, hv, h11⟩
    have pick : ∃ f : Nat → ActS, ∀ i, i < len → ∃ (PA TA : Option Addr) (PC TC : Nat) (v : DataW H × List MemPlace), W.cell? (a.add (i * 5)) = some (.int .i64 (f i).kind) ∧ W.cell? ((a.add (i * 5)).add 1) = some (.slice PA (f i).p.length PC) ∧ W.cell? ((a.add (i * 5)).add 2) = some (.int .i64 (f i).n) ∧ W.cell? ((a.add (i * 5)).add 3) = some (.int .i64 (f i).cd) ∧ W.cell? ((a.add (i * 5)).add 4) = some (.slice TA (f i).tails.length TC) ∧ (TxtW W PA (f i).p.length PC (f i).p ∧ IntsW W TA (f i).tails.length (f i).tails ∧ I64 (f i).kind ∧ I64 (f i).n ∧ I64 (f i).cd) ∧ elems[i]? = some v ∧ (f i).p.length ≤ Rows.uptoBulk v.1 :=
      ⟨fun i => if h : i < len then (key i h).choose else ⟨0, [], 0, 0, []⟩, fun i hi => by
        have hs := (key i hi).choose_spec
        simp only [dif_pos hi]
        exact hs⟩
    obtain ⟨f, hf⟩ := pick
    have hlf : ((List.range len).map f).length = len := by simp
    have hbig : ∀ v ∈ elems, Rows.uptoBulk v.1 ≤ Rows.uptoBulk (DataW.slice (elems.map (·.1)) (rest.map (·.1))) := fun v hv => by
      have := bulk_part (List.mem_map_of_mem (f := (·.1)) hv)
      simp only [Rows.uptoBulk]
      omega
    refine ⟨some a, cap, (List.range len).map f, by rw [hlf], ⟨rfl, fun i p hp => ?_⟩, ?_, fun p hp => ?_⟩
    · have hi : i < len := by have := (List.getElem?_eq_some_iff.1 hp).1; rwa [hlf] at this
      have hfi : f i = p := by simpa [hi] using hp
      obtain ⟨PA, TA, PC, TC, v, c0, c1, c2, c3, c4, h2, _⟩ := hf i hi
      rw [hfi] at c0 c1 c2 c3 c4 h2
      obtain ⟨_, _, _, _, _, h10, _⟩ := hf 0 (by omega)
      have hb : (a.add (0 * 5)).spot = none := cell_plain h10
      have ha : a = ⟨a.block, a.off, none⟩ := by
        obtain ⟨ab, ao, sp⟩ := a
        cases sp with
        | none => rfl
        | some s => simp [Addr.add] at hb
      rw [ha, Addr.add_lit] at c0 c1 c2 c3 c4
      rw [Addr.add_lit] at c1 c2 c3 c4
      exact ⟨a.block, a.off, PA, PC, TA, TC, by rw [← ha], c0, c1, c2, c3, c4, h2.1, h2.2.1, h2.2.2.1, h2.2.2.2.1, h2.2.2.2.2⟩
    · rw [hlf]
      have h1 := bulk_length (H := H) (elems.map (·.1))
      rw [List.length_map, hlen] at h1
      simp only [Rows.uptoBulk]
      omega
    · obtain ⟨i, hi, rfl⟩ := List.mem_map.1 hp
      obtain ⟨_, _, _, _, v, _, _, _, _, _, _, h3, h4⟩ := hf i (by simpa using hi)
      have := hbig v (List.mem_of_getElem? h3)
      simp only at this ⊢
      omega
set_option maxRecDepth 100000 in
theorem open_storyV {W : World} {base : Nat} {v : Value} {d : DataW H} {p : List MemPlace} (hval : Value.okWide Tryz.prog W .any base 65 v) (h : DataW.Trod enc Tryz.prog W 0 (fun _ => true) true 65 v d p) :
    ∃ (fs : List (List UInt8 × List UInt8)) (room : Int) (acts : List ActS) (FA SA : Option Addr) (FC SC : Nat), v = storyV FA fs.length FC room SA acts.length SC ∧ FilesW W FA fs.length fs ∧ fs.length ≤ Rows.uptoBulk d ∧ (∀ p ∈ fs, p.1.length ≤ Rows.uptoBulk d ∧ p.2.length ≤ Rows.uptoBulk d) ∧
      I64 room ∧ ActsW W SA acts.length acts ∧ acts.length ≤ Rows.uptoBulk d ∧ ∀ a ∈ acts, a.p.length ≤ Rows.uptoBulk d := by
  obtain ⟨cs, rfl, hsz⟩ := okWide_struct Tryz.underlying65 hval
  obtain ⟨fuel, hf⟩ := h
  obtain ⟨xs, m, _, hxx, hl, hxl, hi⟩ := DataW.trod_struct Tryz.underlying65 hf
  have hcl : (Value.agg cs).cells.toList = cs.toList := rfl
  rw [hcl] at hl hi
  obtain ⟨L, hL⟩ : ∃ L, L = cs.toList := ⟨_, rfl⟩
  rw [← hL] at hl hi
  rw [cellsStory] at hl
  have hx : ∀ j, j < 3 → ∃ y, xs[j]? = some y := fun j hj => ⟨xs[j]'(by rw [hxl]; exact hj), List.getElem?_eq_getElem _⟩
  obtain ⟨y0, e0⟩ := hx 0 (by omega)
  obtain ⟨y1, e1⟩ := hx 1 (by omega)
  obtain ⟨y2, e2⟩ := hx 2 (by omega)
  have f0 : DataW.trod enc Tryz.prog W 0 (fun _ => true) true m 36 ((L.drop 0).take (Tryz.prog.cellsOf 36)) = xs[0]? := hi 0 _ rfl
  have f1 : DataW.trod enc Tryz.prog W 0 (fun _ => true) true m 3 ((L.drop 1).take (Tryz.prog.cellsOf 3)) = xs[1]? := hi 1 _ rfl
  have f2 : DataW.trod enc Tryz.prog W 0 (fun _ => true) true m 63 ((L.drop 2).take (Tryz.prog.cellsOf 63)) = xs[2]? := hi 2 _ rfl
  rw [e0, cellsAfiles] at f0
  rw [e1, cellsInt] at f1
  rw [e2, cellsL6acts] at f2
  obtain ⟨FA, FC, fs, g0, X, b1, b2⟩ := open_filesW f0
  obtain ⟨room, g1, hr⟩ := trod_i64 f1
  obtain ⟨SA, SC, acts, g2, Y, b3, b4⟩ := open_l6actsW f2
  have hb : ∀ (j : Nat) (z : DataW H × List MemPlace), xs[j]? = some z → Rows.uptoBulk z.1 + 1 ≤ Rows.uptoBulk d := fun j (z : DataW H × List MemPlace) hz => by
    injection hxx with hxx _
    rw [hxx]
    exact bulk_agg _ (List.mem_map_of_mem (List.mem_of_getElem? hz))
  have q0 := hb 0 _ e0
  have q2 := hb 2 _ e2
  have hrow : L = [.slice FA fs.length FC, .int .i64 room, .slice SA acts.length SC] := by
    match L, hl with
    | [v0, v1, v2], _ =>
      simp at g0 g1 g2
      rw [g0, g1, g2]
  refine ⟨fs, room, acts, FA, SA, FC, SC, ?_, X, by omega, fun p hp => ?_, hr, Y, by omega, fun a ha => ?_⟩
  · unfold storyV
    congr 1
    apply Array.toList_inj.1
    rw [← hL, hrow]
  · have := b2 p hp
    omega
  · have := b4 a ha
    omega
end
end Go.Proofs.YtgpenpnobjecgaaGreatDoor
