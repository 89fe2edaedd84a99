/- What each method makes of a disk is a disk again. -/
import Derived.Test.YtgpenpnobjecgaaGreatDoorJWalOwnCard10
import Derived.Test.YtgpenpnobjecgaaGreatDoorJWalOwnCard12
import Derived.Test.YtgpenpnobjecgaaGreatDoorJWalOwnCard14
/- ArgW -/
namespace Go.Proofs.YtgpenpnobjecgaaGreatDoor
set_option maxRecDepth 100000
open Go.RowKit

def TxtW (w : World) (A : Option Addr) (n c : Nat) (l : List UInt8) : Prop := Txt w A n c l ∨ (n = 0 ∧ c = 0 ∧ l = [])
theorem Txt.wide {w : World} {A : Option Addr} {n c : Nat} {l : List UInt8} (h : Txt w A n c l) : TxtW w A n c l := .inl h
theorem TxtW.below {w w' : World} {A : Option Addr} {n c : Nat} {l : List UInt8} (h : TxtW w A n c l) (hb : Below w.heap.size w w') : TxtW w' A n c l := h.imp (·.below hb) id
theorem TxtW.cells {w : World} {A : Option Addr} {n c : Nat} {l : List UInt8} (h : TxtW w A n c l) : CellsAt w A (l.map V8) := by
  rcases h with h | ⟨_, _, rfl⟩
  · exact h.src.at_.cells
  · exact ⟨fun h => by simp at h⟩
theorem TxtW.nil {w : World} {A : Option Addr} {n c : Nat} {l : List UInt8} (h : TxtW w A n c l) (hA : A = none) : c = 0 := by
  rcases h with h | ⟨_, rfl, _⟩
  · exact h.src.nil hA
  · rfl
theorem TxtW.len {w : World} {A : Option Addr} {n c : Nat} {l : List UInt8} (h : TxtW w A n c l) : n = l.length := by
  rcases h with h | ⟨rfl, _, rfl⟩
  · exact h.len
  · rfl
/-- A row of slices of bytes that came in. -/
structure RowsW (w : World) (A : Option Addr) (n : Nat) (l : List (List UInt8)) : Prop where
  len : n = l.length
  each : ∀ i p, l[i]? = some p → ∃ b o B c, A = some ⟨b, o, none⟩ ∧ w.cell? ⟨b, o + i, none⟩ = some (.slice B p.length c) ∧ TxtW w B p.length c p
theorem RowsAt.wide {w : World} {A : Option Addr} {n C : Nat} {l : List (List UInt8)} {G : Nat → Prop} (h : RowsAt w A n C l G) : RowsW w A n l :=
  ⟨h.len, fun i p hp => by obtain ⟨b, o, B, c, h1, h2, h3, _⟩ := h.each i p hp; exact ⟨b, o, B, c, h1, h2, .inl h3⟩⟩
theorem RowsW.below {w w' : World} {A : Option Addr} {n : Nat} {l : List (List UInt8)} (h : RowsW w A n l) (hb : Below w.heap.size w w') : RowsW w' A n l :=
  ⟨h.len, fun i p hp => by
    obtain ⟨b, o, B, c, h1, h2, h3⟩ := h.each i p hp
    exact ⟨b, o, B, c, h1, (hb.cell (p := ⟨b, o + i, none⟩) (World.block_lt_of_cell? w _ h2)).trans h2, h3.below hb⟩⟩
end Go.Proofs.YtgpenpnobjecgaaGreatDoor

/- WLoad -/
namespace Go.Proofs.YtgpenpnobjecgaaGreatDoor
set_option maxRecDepth 100000
open Go.RowKit

@[go_sem] theorem neq_V8 (t : TypeId) (a b : UInt8) : binOp .neq t (V8 a) (V8 b) = pure (.bool (!decide (a = b))) := by
  have : binOp .neq t (V8 a) (V8 b) = pure (.bool (!decide ((a.toNat : Int) = b.toNat))) := rfl
  have h : ((a.toNat : Int) = b.toNat) = (a = b) := propext ⟨fun h => UInt8.toNat_inj.1 (by omega), fun h => by rw [h]⟩
  rw [this]
  simp only [h]
/-- wal.load: none: it panics. -/
def loadF (f : FrameS) (k : UInt8) (n most : Nat) : Option (List UInt8) :=
  if f.1 = k ∧ (readU 0 0 f.2).2.2 = 0 ∧ (readU 0 0 f.2).1 = n ∧ f.2.length - (readU 0 0 f.2).2.1 ≤ most then some (f.2.drop (readU 0 0 f.2).2.1) else none
theorem Fresh.addr {w w' : World} {B : Option Addr} {C : Nat} {l : List UInt8} {blk : Option Nat} (h : Fresh w w' B C l blk) (hn : blk = none → B = none) : ∀ ad, B = some ad → w.heap.size ≤ ad.block := fun ad had => by
  rcases h.own.form with ⟨h0, _⟩ | ⟨g, _, h1, h2, _⟩
  · rw [hn h0] at had; cases had
  · rw [h1] at had
    rw [← Option.some.inj had]
    exact h.fresh g h2
/-- New bytes, their address new too. -/
def RetG (w : World) (l : List UInt8) (e : Ending) (w' : World) : Prop := ∃ B C blk, e = .returned (.slice B l.length C) ∧ Fresh w w' B C l blk ∧ (blk = none → B = none)
/-- New bytes, or a panic. -/
def RetO (w : World) (q : Nat) (o : Option (List UInt8)) (e : Ending) (w' : World) : Prop :=
  match o with
  | some l => RetG w l e w'
  | none => e = stopped q ∧ Below w.heap.size w w'
theorem run_sl_from {w0 : World} {B : Option Addr} {n c : Nat} {x : List UInt8} (X : Txt w0 B n c x) (j : Nat) (hj : j ≤ n) : ∃ ra, Txt w0 ra (n - j) (c - j) (x.drop j) ∧ ∀ w : World, (Instr.slice 22 (.slice B n c) (some (.int .i64 (j : Int))) none none).run Tryz.prog w = .ok (.slice ra (n - j) (c - j)) w := by
  have h := X.part j (n - j) (by omega)
  have hl := X.len
  rw [List.take_of_length_le (by simp; omega)] at h
  refine ⟨_, h, fun w => ?_⟩
  rw [run_slice_l w 22 _ n c elem_bytes .i64 j (by omega) (by omega), sizeOf_bytes]
  simp only [Result.andThen, sliced, Int.toNat_natCast, Nat.mul_one]
set_option maxRecDepth 100000 in
set_option maxHeartbeats 1000000 in
theorem wload_any (f : FrameS) (B : Option Addr) (C : Nat) (k : UInt8) (n most : Nat) (w : World) (X : Txt w B f.2.length C f.2) (hl : f.2.length ≤ 4194304) (hn : n < 9223372036854775808) (hm : most < 9223372036854775808) :
    Calls Tryz.prog 101 #[.agg #[V8 f.1, .slice B f.2.length C], V8 k, .int .u64 n, .int .i64 most] w (RetO w 61 (loadF f k n most)) := by
  have hu := fun o => uint_any f.2 B f.2.length C (w.alloc o) (X.below (low1 _ _)) (by omega)
  obtain ⟨fk, x⟩ := f
  simp only [] at *
  rw [show uintFrom 0 0 x = castU (readU 0 0 x) from uintFrom_nat x 0 0 (by omega) (by simp)] at hu
  obtain ⟨v, j, er, hr⟩ : ∃ v j er, readU 0 0 x = (v, j, er) := ⟨_, _, _, rfl⟩
  have hv64 := readU_lt x 0 0 v j er (by omega) (by simp) hr
  have hj : er = 0 → 0 < j ∧ j ≤ x.length := fun h => by
    subst h
    have := readU_ok x 0 0 v j hr
    omega
  have hlo : loadF (fk, x) k n most = if fk = k ∧ er = 0 ∧ v = n ∧ x.length - j ≤ most then some (x.drop j) else none := by
    unfold loadF
    rw [hr]
  rw [hr] at hu
  unfold castU retU at hu
  simp only at hu
  have Hu := Lib.hid hu
  have HX := Lib.hid X
  have Hlo := Lib.hid hlo
  have Hj := Lib.hid hj
  clear hu X hr hlo hj
  go_enter Tryz.func101, Tryz.ntmps101
  go_wp2_with fail
  go_at_call 127
  refine (Hu.out _).mono ?_
  rintro e w1 ⟨rfl, hw1⟩
  have hb1 : w1.heap[w.heap.size]? = some (.cells #[V8 fk, .slice B x.length C] 174 (0, 0)) := by rw [← hw1]; exact blk1 _ _
  have q0 : w1.cell? ⟨w.heap.size, 0, none⟩ = some (V8 fk) := cell_block hb1 rfl
  have q1 : w1.cell? ⟨w.heap.size, 1, none⟩ = some (.slice B x.length C) := cell_block hb1 rfl
  have hlow : RowKit.Below w.heap.size w w1 := by rw [← hw1]; exact low1 _ _
  have hgl : w.heap.size < w1.heap.size := in_heap hb1
  have HLOW := Lib.hid hlow
  generalize hg : w.heap.size = g at q0 q1 hgl ⊢
  have Hg := Lib.hid hg
  clear hw1 hb1 hlow Hu hg
  by_cases hc : fk = k ∧ er = 0 ∧ v = n ∧ x.length - j ≤ most
  · obtain ⟨rfl, rfl, rfl, hmo⟩ := hc
    obtain ⟨hj0, hjl⟩ := Hj.out rfl
    have hlo := Hlo.out
    rw [if_pos ⟨rfl, rfl, rfl, hmo⟩] at hlo
    obtain ⟨ra, P, hsl⟩ := run_sl_from HX.out j hjl
    have HP := Lib.hid (P.below HLOW.out)
    obtain ⟨y, hy⟩ : ∃ y, y = x.drop j := ⟨_, rfl⟩
    have hyl : x.length - j = y.length := by rw [hy]; simp
    rw [← hy] at HP hlo
    have hmo' : decide ((most : Int) < (x.length : Int) - j) = false := by simp; omega
    have hjI : (j : Int) ≤ x.length := by omega
    have hfk : decide (fk = fk) = true := by simp
    have HLO := Lib.hid hlo
    have z1 : 0 + y.length ≤ maxLen := by unfold maxLen; omega
    have z2 : (0 + y.length) * 1 ≤ 140737488355328 := by omega
    rw [hyl] at HP hsl
    clear P hy hyl hlo hmo Hlo
    go_wp2_with (at_builtin; refine wpList_app rfl _ _ 22 rfl 5 1 1 _ Tryz.underlying22 info_u8r rfl (by decide) (some ⟨w1.heap.size, 0, none⟩) 0 0 [] (some w1.heap.size) rfl (OwnR.of_row (blk1 _ _) (Nat.le_refl _) (Nat.zero_le _) rfl rfl) ra y.length (C - j) (y.map V8) rfl (by simp) (HP.out.below (low1 _ _)).src.at_.cells HP.out.src.nil HP.out.src.od (bone y) z1 z2 ?_; intro B2 D2 w2 b2 h1 h2 h3; have H1 := Lib.hid h1; have H2 := Lib.hid h2; have H3 := Lib.hid h3; clear h1 h2 h3)
    go_ret
    rw [HLO.out]
    have F0 : Fresh w (w1.alloc (.cells #[] 5)) (some ⟨w1.heap.size, 0, none⟩) 0 [] (some w1.heap.size) := Fresh.start (blk1 _ _) rfl (Nat.zero_le _) (by rw [Hg.out]; omega) (bthen HLOW.out (low1 _ _))
    have F := F0.app (l' := y) rfl H1.out H2.out H3.out
    refine ⟨B2, D2, b2, ?_, F, fun e => ?_⟩
    · simp
    · rcases H3.out with h | h <;> (rw [e] at h; cases h)
  · have hlo := Hlo.out
    rw [if_neg hc] at hlo
    have Hno := Lib.hid hlo
    clear hlo
    have hend : ∀ w' : World, w1 = w' → RetO w 61 (loadF (fk, x) k n most) (stopped 61) w' := fun w' e => by
      subst e
      rw [Hno.out]
      exact ⟨rfl, HLOW.out⟩
    have HEND := Lib.hid hend
    clear hend
    by_cases c1 : fk = k
    · subst c1
      by_cases c2 : er = 0
      · subst c2
        obtain ⟨hj0, hjl⟩ := Hj.out rfl
        have hjI : (j : Int) ≤ x.length := by omega
        by_cases c3 : v = n
        · subst c3
          have c4 : (most : Int) < (x.length : Int) - j := by
            have : ¬ x.length - j ≤ most := fun h => hc ⟨rfl, rfl, rfl, h⟩
            omega
          clear hc hj0 hjl
          go_wp2_with (go_at_call 57; refine (must_stops 61 (by decide) w1).mono ?_; rintro e w2 ⟨rfl, hw2⟩)
          exact ⟨rfl, HEND.out _ hw2⟩
        · have c3' : ¬ (v : Int) = n := by omega
          clear hc c3 hj0 hjl
          go_wp2_with (go_at_call 57; refine (must_stops 61 (by decide) w1).mono ?_; rintro e w2 ⟨rfl, hw2⟩)
          exact ⟨rfl, HEND.out _ hw2⟩
      · have c2' : ¬ (er : Int) = 0 := by omega
        clear hc c2
        go_wp2_with (go_at_call 57; refine (must_stops 61 (by decide) w1).mono ?_; rintro e w2 ⟨rfl, hw2⟩)
        exact ⟨rfl, HEND.out _ hw2⟩
    · have c1' : decide (fk = k) = false := by simpa using c1
      clear hc c1
      go_wp2_with (go_at_call 57; refine (must_stops 61 (by decide) w1).mono ?_; rintro e w2 ⟨rfl, hw2⟩)
      exact ⟨rfl, HEND.out _ hw2⟩
end Go.Proofs.YtgpenpnobjecgaaGreatDoor

/- DiskAt2 -/
namespace Go.Proofs.YtgpenpnobjecgaaGreatDoor
set_option maxRecDepth 100000
open Go.RowKit Go.Maps Dk

/-- Only what belongs to F has turned, and F' is F and new blocks. -/
structure Turned (F F' : Nat → Prop) (w w' : World) : Prop where
  kept : Kept F w w'
  foot : ∀ b, b < w.heap.size → F' b → F b
theorem Turned.refl (F : Nat → Prop) (w : World) : Turned F F w w := ⟨.refl _ _, fun _ _ => id⟩
theorem Turned.trans {F F' F'' : Nat → Prop} {w w' w'' : World} (h : Turned F F' w w') (h2 : Turned F' F'' w' w'') : Turned F F'' w w'' :=
  ⟨h.kept.trans h2.kept fun b hb => (Nat.lt_or_ge b w.heap.size).imp (fun hl => h.foot b hl hb) id, fun b hb hf => h.foot b hb (h2.foot b (Nat.lt_of_lt_of_le hb h.kept.size) hf)⟩
theorem Turned.below {F : Nat → Prop} {w w' : World} (h : Below w.heap.size w w') : Turned F F w w' := ⟨.of_below h, fun _ _ => id⟩
/-- Block blk is t's too. -/
def grow (own : Nat → Option DTag) (t : DTag) (blk : Option Nat) : Nat → Option DTag := fun b => if blk = some b then some t else own b
section
variable {own : Nat → Option DTag} {t : DTag} {blk blk' : Option Nat} {n m : Nat}
theorem grow_old (h : blk' = blk ∨ blk' = some n) (ht : tagged own t blk) (hm : m ≤ n) {b : Nat} (hb : b < m) : grow own t blk' b = own b := by
  unfold grow
  split
  · next e =>
    rcases h with h | h
    · rw [h] at e; exact (ht b e).symm
    · rw [h] at e; have := Option.some.inj e; omega
  · rfl
theorem grow_tag (blk : Option Nat) : tagged (grow own t blk) t blk := fun b hb => by unfold grow; rw [if_pos hb]
theorem tagged.grown {u : DTag} {own' : Nat → Option DTag} (h : tagged own u blk) (ho : ∀ b, b < m → own' b = own b) (hl : ∀ b, blk = some b → b < m) : tagged own' u blk := fun b hb => by rw [ho b (hl b hb)]; exact h b hb
end

section
variable {w w' : World} {g : Nat} {d : DiskS} {u : Nat} {recs : List Nat} {own own' : Nat → Option DTag} {fA : Option Addr} {fC : Nat} {fb : Option Nat} {mb : Nat} {sb : Option Nat} {cA : Option Addr} {cC : Nat} {cb : Option Nat}
theorem FileAt.retag {i : Nat} {f : FileS} {r : Nat} {A : Option Addr} {C : Nat} {blk : Option Nat} (h : FileAt w own i f r A C blk) (ho : ∀ b, b < w.heap.size → own' b = own b) : FileAt w own' i f r A C blk :=
  ⟨h.row, by rw [ho r (in_heap h.row)]; exact h.tag, h.bytes, h.btag.grown ho h.bytes.lt⟩
/-- The row of changes anew. -/
theorem DMem.rechg (M : DMem w g d u recs own fA fC fb mb sb cA cC cb) (c : Chg) {B : Option Addr} {D : Nat} {blk' : Option Nat} {k : Nat} (hk : Kept (fun b => cb = some b) w w') (hr : OwnR w' 126 3 B (d.chg.length + 1) D (chgCells (d.chg ++ [c])) blk') (hb : blk' = cb ∨ blk' = some k) (hw : w.heap.size ≤ k) :
    DMem (w'.setCell ⟨g, 5, none⟩ (.slice B (d.chg.length + 1) D)) g { d with chg := d.chg ++ [c] } u recs (grow own .chg blk') fA fC fb mb sb B D blk' := by
  have hne : ∀ {b t}, own b = some t → t ≠ .chg → ¬ cb = some b := fun h hn e => hn (Option.some.inj (h.symm.trans (M.tc _ e)))
  have ho : ∀ b, b < w.heap.size → grow own .chg blk' b = own b := fun b hlt => grow_old hb M.tc hw hlt
  have hg' := hk.blk M.row (hne M.tg (by simp))
  have hgb : ∀ b, blk' = some b → ¬ b = g := fun b hbb e => by
    subst e
    rcases hb with hb | hb
    · exact hne M.tg (by simp) (hb ▸ hbb)
    · rw [hb] at hbb; have := Option.some.inj hbb; have := in_heap M.row; omega
  have hk2 : Kept (fun b => cb = some b ∨ b = g) w (w'.setCell ⟨g, 5, none⟩ (.slice B (d.chg.length + 1) D)) := (hk.mono fun b _ h => .inl h).setCell _ _ (.inl (.inr rfl))
  have hn2 : ∀ {b t}, own b = some t → t ≠ .chg → t ≠ .disk → ¬ (cb = some b ∨ b = g) := fun h h1 h2 e => e.elim (hne h h1) (ne_of_tag h M.tg h2)
  have tg' : ∀ {b t}, own b = some t → grow own .chg blk' b = some t := fun {b t} h => by rw [ho b (M.lt b (by rw [h]; simp))]; exact h
  have tt : ∀ {blk t}, tagged own t blk → (∀ b, blk = some b → b < w.heap.size) → tagged (grow own .chg blk') t blk := fun h hl => h.grown ho hl
  refine ⟨?_, M.files.kept hk2 fun b hb => hn2 (M.tf b hb) (by simp) (by simp), fun i f hf => ?_, M.dir.kept hk2 (hn2 M.td (by simp) (by simp)), fun b hb => (M.safe b hb).kept hk2 (hn2 (M.ts b hb) (by simp) (by simp)), ?_, ?_, tg' M.tg, tt M.tf M.files.lt, tg' M.td, tt M.ts (fun b hb => (M.safe b hb).lt), grow_tag _⟩
  · rw [setCell_one hg' _]
    simp only [List.length_append, List.length_singleton]
    rfl
  · obtain ⟨r, A, C, blk, e1, e2⟩ := M.fil i f hf
    exact ⟨r, A, C, blk, e1, (e2.retag ho).kept hk2 (hn2 e2.tag (by simp) (by simp)) fun b hb => hn2 (e2.btag b hb) (by simp) (by simp)⟩
  · simp only [List.length_append, List.length_singleton]
    exact hr.kept ((Kept.refl (· = g) w').setCell _ _ (.inl rfl)) hgb
  · intro b hb
    unfold grow at hb
    split at hb
    · next e => have := hr.lt b e; simpa [World.setCell] using this
    · exact Nat.lt_of_lt_of_le (M.lt b hb) hk2.size
end
end Go.Proofs.YtgpenpnobjecgaaGreatDoor

/- DiskOk -/
namespace Go.Proofs.YtgpenpnobjecgaaGreatDoor
set_option maxRecDepth 100000
open Go.RowKit Go.Maps Dk
namespace Dk

theorem fileAt_eq {fs : List FileS} {i : Nat} (h : i < fs.length) : fileAt fs i = fs[i] := by simp [fileAt, h]
theorem usedIn_congr {fs fs' : List FileS} {l : Dir} (h : ∀ p ∈ l, (fileAt fs p.2).b.length = (fileAt fs' p.2).b.length) : usedIn fs l = usedIn fs' l := by
  unfold usedIn
  rw [List.map_congr_left h]
theorem fileAt_push {fs : List FileS} {f : FileS} {i : Nat} (h : i < fs.length) : fileAt (fs ++ [f]) i = fileAt fs i := by
  simp [fileAt, List.getElem?_append_left h]
theorem fileAt_modify {fs : List FileS} {f : FileS → FileS} {i j : Nat} : fileAt (fs.modify i f) j = if i = j ∧ j < fs.length then f (fileAt fs j) else fileAt fs j := by
  unfold fileAt
  simp only [List.getD_eq_getElem?_getD, List.getElem?_modify]
  by_cases hj : j < fs.length
  · by_cases hij : i = j <;> simp [hj, hij]
  · simp [hj]
theorem usedIn_modify {fs : List FileS} {f : FileS → FileS} {i n : Nat} (hi : i < fs.length) (hf : (f (fileAt fs i)).b.length = (fileAt fs i).b.length + n) : ∀ {l : Dir}, (l.map (·.2)).Nodup → (∃ s, (s, i) ∈ l) → usedIn (fs.modify i f) l = usedIn fs l + n
  | [], _, ⟨s, h⟩ => by cases h
  | y :: r, hn, ⟨s, h⟩ => by
    rw [List.map_cons, List.nodup_cons] at hn
    rw [usedIn_cons, usedIn_cons]
    by_cases e : y.2 = i
    · have hr : usedIn (fs.modify i f) r = usedIn fs r := usedIn_congr fun p hp => by
        rw [fileAt_modify, if_neg]
        rintro ⟨h1, _⟩
        exact hn.1 (List.mem_map.2 ⟨p, hp, by rw [← h1, e]⟩)
      rw [hr, fileAt_modify, if_pos ⟨e.symm, by omega⟩, e, hf]
      omega
    · have hm : (s, i) ∈ r := by
        rcases List.mem_cons.1 h with h | h
        · exact absurd (by rw [← h]) e
        · exact h
      rw [usedIn_modify hi hf hn.2 ⟨s, hm⟩, fileAt_modify, if_neg (fun h => e h.1.symm)]
      omega
theorem usedIn_same {fs : List FileS} {f : FileS → FileS} {i : Nat} (hf : ∀ x, (f x).b = x.b) (l : Dir) : usedIn (fs.modify i f) l = usedIn fs l := usedIn_congr fun p _ => by
  rw [fileAt_modify]
  split
  · rw [hf]
  · rfl
theorem nodup_dins {x : Bs × Nat} {l : Dir} (h : (l.map (·.2)).Nodup) (hx : x.2 ∉ l.map (·.2)) : ((dins x l).map (·.2)).Nodup := by
  have := ((perm_dins x l).map (·.2)).nodup_iff
  rw [this, List.map_cons, List.nodup_cons]
  exact ⟨hx, h⟩
theorem nodup_ddel {l : Dir} (h : (l.map (·.2)).Nodup) (s : Bs) : ((ddel l s).map (·.2)).Nodup := h.sublist ((List.filter_sublist).map _)
theorem nodup_turn {l : Dir} {c : Chg} (h : (l.map (·.2)).Nodup) (hc : c.to ≠ [] → ∀ p ∈ l, p.2 = c.file → (p.1 = c.frm ∧ c.frm ≠ []) ∨ p.1 = c.to) : ((turn l c).map (·.2)).Nodup := by
  unfold turn dput
  simp only
  split
  · split
    · exact h
    · exact nodup_ddel h _
  · next e =>
    refine nodup_dins (nodup_ddel ?_ _) ?_
    · split
      · exact h
      · exact nodup_ddel h _
    · intro hm
      obtain ⟨p, hp, hpe⟩ := List.mem_map.1 hm
      obtain ⟨hp1, hp2⟩ := mem_ddel.1 hp
      have hp3 : p ∈ l ∧ (c.frm ≠ [] → p.1 ≠ c.frm) := by
        split at hp1
        · next e2 => exact ⟨hp1, fun h => absurd e2 h⟩
        · exact ⟨(mem_ddel.1 hp1).1, fun _ => (mem_ddel.1 hp1).2⟩
      rcases hc e p hp3.1 hpe with ⟨h1, h2⟩ | h1
      · exact hp3.2 h2 h1
      · exact hp2 h1
theorem length_turn {l : Dir} {c : Chg} (h : c.to = [] ∨ (dget l c.frm).isSome = true ∨ l.length + 1 ≤ 64) (h0 : c.to ≠ [] → (dget l c.frm).isSome = true → c.frm ≠ []) (hl : l.length ≤ 64) : (turn l c).length ≤ 64 := by
  unfold turn dput
  simp only
  have h1 := length_ddel_le l c.frm
  split
  · split <;> omega
  · next e =>
    rw [length_dins]
    rcases h with h | h | h
    · exact absurd h e
    · have h3 : (ddel l c.frm).length + 1 ≤ l.length := by
        obtain ⟨i, hi⟩ := Option.isSome_iff_exists.1 h
        have hm := dget_mem hi
        unfold ddel
        have := List.length_filter_lt_length_iff_exists (p := fun p : Bs × Nat => !(p.1 == c.frm)) (l := l)
        have := this.2 ⟨_, hm, by simp⟩
        omega
      rw [if_neg (h0 e h)]
      have := length_ddel_le (ddel l c.frm) c.to
      omega
    · have := length_ddel_le (if c.frm = [] then l else ddel l c.frm) c.to
      have h4 : (if c.frm = [] then l else ddel l c.frm).length ≤ l.length := by split <;> omega
      omega

theorem Ok.gone {d : DiskS} (h : Ok d) : Ok (Go.Proofs.YtgpenpnobjecgaaGreatDoor.gone d) := ⟨h.room, h.used, h.ops, Nat.zero_le _, h.nfiles, h.nchg, h.ndir, h.nsafe, h.len, h.dirI, h.dirR, h.safeR, h.dirF, h.safeF, h.chgF⟩
theorem Ok.went {d : DiskS} (h : Ok d) (ho : d.ops < 1048576) : Ok (Go.Proofs.YtgpenpnobjecgaaGreatDoor.went d) :=
  ⟨h.room, h.used, by simp only [Go.Proofs.YtgpenpnobjecgaaGreatDoor.went]; omega, by have := h.armed; simp only [Go.Proofs.YtgpenpnobjecgaaGreatDoor.went]; omega, by have := h.nfiles; simp only [Go.Proofs.YtgpenpnobjecgaaGreatDoor.went]; omega, by have := h.nchg; simp only [Go.Proofs.YtgpenpnobjecgaaGreatDoor.went]; omega, h.ndir, h.nsafe, h.len, h.dirI, h.dirR, h.safeR, h.dirF, h.safeF, h.chgF⟩
theorem Ok.armed' {d : DiskS} (h : Ok d) (n : Int) (hn : n ≤ 9223372036854775807) : Ok (arm d n) := by
  unfold arm
  split
  · exact h
  · exact ⟨h.room, h.used, h.ops, by simp only; omega, h.nfiles, h.nchg, h.ndir, h.nsafe, h.len, h.dirI, h.dirR, h.safeR, h.dirF, h.safeF, h.chgF⟩
theorem Ok.note {d : DiskS} (h : Ok d) (c : Chg) (h1 : c.file ≤ d.files.length) (h2 : c.to ≠ [] → c.file < d.files.length ∧ named c.to = true) (h3 : c.frm ≠ [] → named c.frm = true) (h4 : usedIn d.files (turn d.dir c) ≤ d.room) (h5 : (turn d.dir c).length ≤ 64)
    (h6 : d.chg.length + 1 ≤ d.ops) (h7 : c.to ≠ [] → ∀ p ∈ d.dir, p.2 = c.file → (p.1 = c.frm ∧ c.frm ≠ []) ∨ p.1 = c.to) : Ok (note d c) := by
  refine ⟨h.room, h4, h.ops, h.armed, h.nfiles, ?_, h5, h.nsafe, h.len, nodup_turn h.dirI h7, rising_turn h.dirR c, h.safeR, fun p hp => ?_, h.safeF, fun x hx => ?_⟩
  · simp only [Dk.note, List.length_append, List.length_singleton]; omega
  · rcases mem_turn hp with hp | ⟨e, rfl⟩
    · exact h.dirF p hp
    · exact h2 e
  · rcases List.mem_append.1 hx with hx | hx
    · exact h.chgF x hx
    · obtain rfl := List.mem_singleton.1 hx
      exact ⟨h1, h2, h3⟩
theorem Ok.pushed {d : DiskS} (h : Ok d) (hn : d.files.length + 1 ≤ 64 + d.ops) : Ok { d with files := d.files ++ [⟨[], 0⟩] } := by
  refine ⟨h.room, ?_, h.ops, h.armed, by simp only [List.length_append, List.length_singleton]; omega, h.nchg, h.ndir, h.nsafe, fun f hf => ?_, h.dirI, h.dirR, h.safeR, fun p hp => ?_, fun p hp => ?_, fun c hc => ?_⟩
  · have : usedIn (d.files ++ [⟨[], 0⟩]) d.dir = usedIn d.files d.dir := usedIn_congr fun p hp => by rw [fileAt_push (h.dirF p hp).1]
    show usedIn _ _ ≤ _
    rw [this]; exact h.used
  · rcases List.mem_append.1 hf with hf | hf
    · exact h.len f hf
    · obtain rfl := List.mem_singleton.1 hf
      simp
  · have := h.dirF p hp
    exact ⟨by simp only [List.length_append, List.length_singleton]; omega, this.2⟩
  · have := h.safeF p hp
    exact ⟨by simp only [List.length_append, List.length_singleton]; omega, this.2⟩
  · have := h.chgF c hc
    exact ⟨by simp only [List.length_append, List.length_singleton]; omega, fun e => ⟨by have := (this.2.1 e).1; simp only [List.length_append, List.length_singleton]; omega, (this.2.1 e).2⟩, this.2.2⟩
theorem Ok.modified {d : DiskS} (h : Ok d) (i : Nat) (f : FileS → FileS) (hf : ∀ x ∈ d.files, (f x).b.length ≤ 4194304 ∧ (f x).synced ≤ (f x).b.length) (hu : usedIn (d.files.modify i f) d.dir ≤ d.room) : Ok { d with files := d.files.modify i f } := by
  refine ⟨h.room, hu, h.ops, h.armed, by simpa using h.nfiles, h.nchg, h.ndir, h.nsafe, fun x hx => ?_, h.dirI, h.dirR, h.safeR, fun p hp => ?_, fun p hp => ?_, fun c hc => ?_⟩
  · obtain ⟨j, hj, rfl⟩ := List.mem_iff_getElem.1 hx
    rw [List.getElem_modify]
    split
    · exact hf _ (by simp)
    · exact h.len _ (by simp)
  · simpa using h.dirF p hp
  · simpa using h.safeF p hp
  · simpa using h.chgF c hc
theorem Ok.modified' {d : DiskS} (h : Ok d) (i : Nat) (f : FileS → FileS) (hi : i < d.files.length) (hf : (f (fileAt d.files i)).b.length ≤ 4194304 ∧ (f (fileAt d.files i)).synced ≤ (f (fileAt d.files i)).b.length) (hu : usedIn (d.files.modify i f) d.dir ≤ d.room) : Ok { d with files := d.files.modify i f } := by
  refine ⟨h.room, hu, h.ops, h.armed, by simpa using h.nfiles, h.nchg, h.ndir, h.nsafe, fun x hx => ?_, h.dirI, h.dirR, h.safeR, fun p hp => ?_, fun p hp => ?_, fun c hc => ?_⟩
  · obtain ⟨j, hj, rfl⟩ := List.mem_iff_getElem.1 hx
    rw [List.getElem_modify]
    split
    · next e => subst e; rw [← fileAt_eq hi]; exact hf
    · exact h.len _ (by simp)
  · simpa using h.dirF p hp
  · simpa using h.safeF p hp
  · simpa using h.chgF c hc
theorem Ok.synced {d : DiskS} (h : Ok d) : Ok { d with safe := d.dir, chg := [] } :=
  ⟨h.room, h.used, h.ops, h.armed, h.nfiles, Nat.zero_le _, h.ndir, h.ndir, h.len, h.dirI, h.dirR, h.dirR, h.dirF, h.dirF, fun c hc => by cases hc⟩
end Dk
end Go.Proofs.YtgpenpnobjecgaaGreatDoor
