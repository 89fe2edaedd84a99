/- A row of elements, some of whose cells are slices of bytes, made by a call for itself. -/
import Derived.Test.YtgpenpnobjecgaaGreatDoorJWalSafeCard7
import Derived.Test.YtgpenpnobjecgaaGreatDoorJWalSafeCard9
/- DGoes -/
namespace Go.Proofs.YtgpenpnobjecgaaGreatDoor
set_option maxRecDepth 100000
open Go.RowKit Go.Maps Dk

theorem setCell_one {w : World} {g k : Nat} {cs : Array Value} {t : TypeId} {fr : Nat × Nat} (h : w.heap[g]? = some (.cells cs t fr)) (v : Value) : (w.setCell ⟨g, k, none⟩ v).heap[g]? = some (.cells (cs.setIfInBounds k v) t fr) := by
  rw [setCell_row h]
  exact setRow_heap _ _ _ _ _ _ h
theorem frozen_row {w : World} {g : Nat} {cs : Array Value} {t : TypeId} (h : w.heap[g]? = some (.cells cs t (0, 0))) (k : Nat) : w.frozen? ⟨g, k, none⟩ = false := by simp [World.frozen?, h]

def gone (d : DiskS) : DiskS := { d with armed := 0, dead := true }
def went (d : DiskS) : DiskS := { d with armed := d.armed - 1, ops := d.ops + 1 }
theorem op_gone {d : DiskS} (h : d.armed = 1) (f : DiskS → DiskS) : op d f = (gone d, 51) := by unfold op gone; rw [if_pos h]
theorem op_went {d : DiskS} (h : ¬ d.armed = 1) (f : DiskS → DiskS) : op d f = (f (went d), 0) := by unfold op went; rw [if_neg h]
/-- What goes answers. -/
def Went (w : World) (g : Nat) (d : DiskS) (u : Nat) (recs : List Nat) (own : Nat → Option DTag) (e : Ending) (w' : World) : Prop :=
  Kept (· = g) w w' ∧ ((d.armed = 1 ∧ e = .returned (.int .i64 51) ∧ DAtU w' g (gone d) u recs own) ∨ (¬ d.armed = 1 ∧ e = .returned (.int .i64 0) ∧ DAtU w' g (went d) u recs own))

set_option maxRecDepth 100000 in
theorem goes_any {w : World} {g : Nat} {d : DiskS} {u : Nat} {recs : List Nat} {own : Nat → Option DTag} (hd : DAtU w g d u recs own) (hO : d.ops < 1048576) (hA : d.armed ≤ 9223372036854775807) :
    Calls Tryz.prog 86 #[ptrV g] w (Went w g d u recs own) := by
  obtain ⟨fA, fC, fb, mb, sb, cA, cC, cb, M⟩ := hd
  have c6 : w.cell? ⟨g, 6, none⟩ = some (.int .i64 d.ops) := cell_block M.row rfl
  have c7 : w.cell? ⟨g, 7, none⟩ = some (.int .i64 d.armed) := cell_block M.row rfl
  have c8 : w.cell? ⟨g, 8, none⟩ = some (.bool d.dead) := cell_block M.row rfl
  have fz := frozen_row M.row
  have HM := Lib.hid M
  clear M
  have hE : (d.armed = 1 → Went w g d u recs own (.returned (.int .i64 51)) ((w.setCell ⟨g, 7, none⟩ (.int .i64 0)).setCell ⟨g, 8, none⟩ (.bool true))) ∧
      (0 < d.armed → ¬ d.armed = 1 → Went w g d u recs own (.returned (.int .i64 0)) ((w.setCell ⟨g, 7, none⟩ (.int .i64 ((d.armed : Int) - 1))).setCell ⟨g, 6, none⟩ (.int .i64 ((d.ops : Int) + 1)))) ∧
      (d.armed = 0 → Went w g d u recs own (.returned (.int .i64 0)) (w.setCell ⟨g, 6, none⟩ (.int .i64 ((d.ops : Int) + 1)))) := by
    have M := HM.out
    refine ⟨fun h => ?_, fun h0 h => ?_, fun h => ?_⟩
    · have hk : Kept (· = g) w ((w.setCell ⟨g, 7, none⟩ (.int .i64 0)).setCell ⟨g, 8, none⟩ (.bool true)) := ((Kept.refl (· = g) w).setCell _ _ (.inl rfl)).setCell _ _ (.inl rfl)
      refine ⟨hk, .inl ⟨h, rfl, fA, fC, fb, mb, sb, cA, cC, cb, M.rerow hk (gone d) u rfl rfl rfl rfl ?_⟩⟩
      rw [setCell_one (setCell_one M.row _) _]
      rfl
    · have hk : Kept (· = g) w ((w.setCell ⟨g, 7, none⟩ (.int .i64 ((d.armed : Int) - 1))).setCell ⟨g, 6, none⟩ (.int .i64 ((d.ops : Int) + 1))) := ((Kept.refl (· = g) w).setCell _ _ (.inl rfl)).setCell _ _ (.inl rfl)
      refine ⟨hk, .inr ⟨h, rfl, fA, fC, fb, mb, sb, cA, cC, cb, M.rerow hk (went d) u rfl rfl rfl rfl ?_⟩⟩
      rw [setCell_one (setCell_one M.row _) _, show (d.armed : Int) - 1 = ((d.armed - 1 : Nat) : Int) by omega]
      rfl
    · have hk : Kept (· = g) w (w.setCell ⟨g, 6, none⟩ (.int .i64 ((d.ops : Int) + 1))) := (Kept.refl (· = g) w).setCell _ _ (.inl rfl)
      refine ⟨hk, .inr ⟨by omega, rfl, fA, fC, fb, mb, sb, cA, cC, cb, M.rerow hk (went d) u rfl rfl rfl rfl ?_⟩⟩
      rw [setCell_one M.row _]
      have : d.armed - 1 = d.armed := by omega
      simp only [went, this]
      rfl
  have HE := Lib.hid hE
  clear hE
  have e1 : ((d.armed : Int) = 1) = (d.armed = 1) := by rw [eq_iff_iff]; omega
  unfold ptrV
  by_cases h1 : d.armed = 1
  · have H1 := Lib.hid h1
    have z := HE.out.1 h1
    rw [h1] at c7
    clear h1 e1
    go_enter Tryz.func86, Tryz.ntmps86
    go_wp2
    go_ret
    exact HE.out.1 H1.out
  · by_cases h0 : d.armed = 0
    · have H0 := Lib.hid h0
      rw [h0] at c7
      clear h1 h0 e1
      go_enter Tryz.func86, Tryz.ntmps86
      go_wp2
      go_ret
      exact HE.out.2.2 H0.out
    · have H1 := Lib.hid h1
      have H0 : Hid (0 < d.armed) := Lib.hid (by omega)
      have i1 : (0 : Int) < d.armed := by omega
      have i2 : ((d.armed : Int) - 1 == 0) = false := by simp; omega
      clear h1 h0 e1
      go_enter Tryz.func86, Tryz.ntmps86
      go_wp2
      go_ret
      exact HE.out.2.1 H0.out H1.out

section
variable {w : World} {ops : Array Oper} {rest : List Oper} {o : Oper} {a : Act} {Q : Exit → Act → World → Prop}
theorem wpList_del_dir (hg : o.guard = none) (m x : Operand) (hop : o.op = Op.call { callee := Callee.builtin Builtin.delete, args := #[m, x], argTypes := #[99, 9] }) (b : Nat) (l : Dir) (s : Bs) (hm : a.eval m = .map (some b)) (hx : a.eval x = strV s) (h : DirAt w b l) (hs : s.length ≤ maxLen)
    (hK : ∀ w', DirAt w' b (ddel l s) → Kept (· = b) w w' → wpList Tryz.prog ops Q rest (a.put o.dst (.tuple #[])) w') : wpList Tryz.prog ops Q (o :: rest) a w := by
  refine wpList_delete_own w hg m x 99 9 hop 3 key_law Tryz.underlying99 _ b l.length (dirD l) hm h _ _ hx (key_str hs) fun w' h1 h2 => hK w' ?_ ((Kept.refl _ w).grown h2.grown fun k hk => .inl (Option.some.inj hk).symm)
  rw [dirD_del] at h1
  exact .of h1
theorem wpList_put_dir (hg : o.guard = none) (m x v : Operand) (hop : o.op = Op.mapUpdate 99 m x v) (b : Nat) (l : Dir) (s : Bs) (i : Nat) (hm : a.eval m = .map (some b)) (hx : a.eval x = strV s) (hv : a.eval v = .int .i64 i) (h : DirAt w b l) (hs : s.length ≤ maxLen) (hl : l.length < maxLen) (hi : i ≤ 9223372036854775807)
    (hK : ∀ w', DirAt w' b (dput l s i) → Kept (· = b) w w' → wpList Tryz.prog ops Q rest (a.put o.dst undef) w') : wpList Tryz.prog ops Q (o :: rest) a w := by
  refine wpList_mapUpdate_own w hg m x v 99 hop 9 3 key_law Tryz.underlying99 _ b l.length (dirD l) hm h hl _ _ _ hx hv (key_str hs) _ _ (plainElem_int Tryz.underlying3 (wf_nat hi)) fun w' h1 h2 => hK w' ?_ ((Kept.refl _ w).grown h2 fun k hk => .inl (Option.some.inj hk).symm)
  rw [dirD_put] at h1
  exact .of h1
end

/-- A change as a value. -/
def chgV (c : Chg) : Value := .agg #[strV c.frm, strV c.to, .int .i64 c.file]
set_option maxRecDepth 100000 in
theorem dturn_any {w : World} {b : Nat} {l : Dir} (h : DirAt w b l) (c : Chg) (h1 : c.frm.length ≤ 4194304) (h2 : c.to.length ≤ 4194304) (hl : l.length ≤ 16777216) (hf : c.file ≤ 9223372036854775807) :
    Calls Tryz.prog 72 #[.map (some b), chgV c] w fun e w' => e = .returned (.tuple #[]) ∧ DirAt w' b (turn l c) ∧ Kept (· = b) w w' := by
  obtain ⟨frm, to, fl⟩ := c
  simp only at h1 h2 hf ⊢
  have m1 : frm.length ≤ maxLen := by unfold maxLen; omega
  have m2 : to.length ≤ maxLen := by unfold maxLen; omega
  have M3 := Lib.hid (show l.length < maxLen by unfold maxLen; omega)
  have M4 := Lib.hid (show (ddel l frm).length < maxLen from Nat.lt_of_le_of_lt (length_ddel_le _ _) M3.out)
  have HA := Lib.hid (h.below (low1 w (.cells #[strV frm, strV to, .int .i64 fl] 126)))
  have HK := Lib.hid ((Kept.refl (· = b) w).alloc (.cells #[strV frm, strV to, .int .i64 fl] 126))
  have hlt := h.lt
  clear h h1 h2 hl
  unfold chgV
  unfold strV at *
  by_cases e1 : frm = [] <;> by_cases e2 : to = []
  · have hT := Lib.hid (show turn l ⟨frm, to, fl⟩ = l by unfold turn; rw [if_pos e1, if_pos e2])
    subst e1 e2
    go_enter Tryz.func72, Tryz.ntmps72
    go_wp2
    go_end0
    rw [hT.out]
    exact ⟨rfl, HA.out, HK.out⟩
  · have hT := Lib.hid (show turn l ⟨frm, to, fl⟩ = dput l to fl by unfold turn; simp only []; rw [if_pos e1, if_neg e2])
    have i2 : to.isEmpty = false := by simpa using e2
    subst e1
    clear e2
    go_enter Tryz.func72, Tryz.ntmps72
    go_wp2_with (at_mapUpdate; refine wpList_put_dir rfl _ _ _ rfl b l to fl rfl rfl rfl HA.out m2 M3.out hf ?_; intro w1 hd hk; have HD := Lib.hid hd; have HK1 := Lib.hid hk; clear hd hk)
    go_end0
    rw [hT.out]
    exact ⟨rfl, HD.out, HK.out.then HK1.out⟩
  · have hT := Lib.hid (show turn l ⟨frm, to, fl⟩ = ddel l frm by unfold turn; simp only []; rw [if_neg e1, if_pos e2])
    have i1 : frm.isEmpty = false := by simpa using e1
    subst e2
    clear e1
    go_enter Tryz.func72, Tryz.ntmps72
    go_wp2_with (at_delete; refine wpList_del_dir rfl _ _ rfl b l frm rfl rfl HA.out m1 ?_; intro w1 hd hk; have c1 : w1.cell? ⟨w.heap.size, 1, none⟩ = some (.string ⟨([] : List UInt8).toArray⟩) := hk.cell (cell_block (blk1 _ _) rfl) (show ¬ w.heap.size = b by omega); have HD := Lib.hid hd; have HK1 := Lib.hid hk; clear hd hk)
    go_end0
    rw [hT.out]
    exact ⟨rfl, HD.out, HK.out.then HK1.out⟩
  · have hT := Lib.hid (show turn l ⟨frm, to, fl⟩ = dput (ddel l frm) to fl by unfold turn; simp only []; rw [if_neg e1, if_neg e2])
    have i1 : frm.isEmpty = false := by simpa using e1
    have i2 : to.isEmpty = false := by simpa using e2
    clear e1 e2
    go_enter Tryz.func72, Tryz.ntmps72
    go_wp2_with (first
      | (at_mapUpdate; refine wpList_put_dir rfl _ _ _ rfl b (ddel l frm) to fl rfl rfl rfl HD.out m2 M4.out hf ?_; intro w2 hd hk; have HD2 := Lib.hid hd; have HK2 := Lib.hid hk; clear hd hk)
      | (at_delete; refine wpList_del_dir rfl _ _ rfl b l frm rfl rfl HA.out m1 ?_; intro w1 hd hk; have c1 : w1.cell? ⟨w.heap.size, 1, none⟩ = some (.string ⟨to.toArray⟩) := hk.cell (cell_block (blk1 _ _) rfl) (show ¬ w.heap.size = b by omega); have c2 : w1.cell? ⟨w.heap.size, 2, none⟩ = some (.int .i64 fl) := hk.cell (cell_block (blk1 _ _) rfl) (show ¬ w.heap.size = b by omega); have HD := Lib.hid hd; have HK1 := Lib.hid hk; clear hd hk))
    go_end0
    rw [hT.out]
    exact ⟨rfl, HD2.out, (HK.out.then HK1.out).then HK2.out⟩
end Go.Proofs.YtgpenpnobjecgaaGreatDoor

/- OpenF -/
namespace Go.Proofs.YtgpenpnobjecgaaGreatDoor
set_option maxRecDepth 100000
open Go.RowKit

theorem Txt.of_acc {w w' : World} {base : Nat} {A : Option Addr} {C : Nat} {l : List UInt8} (hA : Acc 5 1 w w' base A C l.length (l.map V8)) : Txt w' A l.length C l :=
  ⟨rfl, ⟨hA.at_.bytes, hA.cap, hA.nil, fun ad had => by
    rcases hA.form with ⟨h0, _⟩ | ⟨g, _, hg, _, hs, _⟩
    · rw [had] at h0; cases h0
    · rw [had] at hg
      obtain rfl := Option.some.inj hg
      exact ⟨g, 0, rfl, hs⟩⟩⟩
/-- A frame, how long it is, an error's number. -/
def RetFrame (w : World) (r : FrameS × Nat × Nat) (e : Ending) (w' : World) : Prop :=
  ∃ B C, e = .returned (.tuple #[.agg #[V8 r.1.1, .slice B r.1.2.length C], .int .i64 r.2.1, .int .i64 r.2.2]) ∧ Txt w' B r.1.2.length C r.1.2 ∧ (∀ ad, B = some ad → w.heap.size ≤ ad.block) ∧ Below w.heap.size w w'
set_option maxRecDepth 100000 in
set_option maxHeartbeats 1000000 in
theorem fopen_any (x : List UInt8) (a : Option Addr) (n c : Nat) (w : World) (X : Txt w a n c x) (hn : n ≤ 1099511627776) (hT : SumsTab w) :
    Calls Tryz.prog 126 #[.slice a n c] w (RetFrame w (openF x)) := by
  have hs := Lib.hid (fun o => size_any x a n c (w.alloc o) (X.below (low1 _ _)) hn (hT.low (low1 _ _)))
  by_cases h0 : (sizeF x).2 = 0
  · have hr := Lib.hid (show openF x = ((x.getD 8 0, (x.take (frameLen x)).drop 9), frameLen x, 0) by unfold openF; rw [if_pos h0])
    obtain ⟨k1, k2, k3, k4, k5⟩ := sizeF_code x h0
    have hl := X.len
    have hcap := X.src.cap
    have hsz : sizeF x = (frameLen x, 0) := Prod.ext k2 h0
    rw [hsz] at hs
    have hfl : frameLen x = 9 + (wordOf x).toNat := rfl
    obtain ⟨i, hi⟩ : ∃ i, i = (wordOf x).toNat := ⟨_, rfl⟩
    rw [← hi] at hfl k4
    rw [hfl] at hs hr k3
    obtain ⟨b, o, rfl, hd⟩ := X.src.at_.cells.at_ (show 0 < (x.map V8).length by simp; omega)
    obtain ⟨k, hk⟩ : ∃ k, k = x.getD 8 0 := ⟨_, rfl⟩
    have h8 : w.cell? ⟨b, o + 8, none⟩ = some (V8 k) := by
      have := hd 8 (V8 k) (by simp [hk, show 8 < x.length by omega])
      exact this
    rw [← hk] at hr
    obtain ⟨l, hle⟩ : ∃ l, l = (x.take (9 + i)).drop 9 := ⟨_, rfl⟩
    rw [← hle] at hr
    have P9 : Txt w (if i = 0 then some ⟨b, o, none⟩ else some ⟨b, o + 9, none⟩) i i l := by
      have h := X.part 9 i (by omega)
      have h2 : (x.drop 9).take i = l := by rw [hle, List.drop_take, show 9 + i - 9 = i by omega]
      rw [h2] at h
      by_cases hi0 : i = 0
      · rw [if_pos hi0]
        subst hi0
        have hl0 : l = [] := List.eq_nil_of_length_eq_zero (by rw [← h.len])
        rw [hl0]
        exact ⟨rfl, ⟨⟨fun h => by cases h⟩, Nat.le_refl _, fun h => rfl, X.src.plain⟩⟩
      · rw [if_neg (by omega)] at h
        rw [if_neg hi0]
        exact h.capped (Nat.le_refl _) (fun h => by cases h)
    have s9 : ∀ w : World, (Instr.slice 22 (.slice (some ⟨b, o, none⟩) n c) (some (.int .i64 9)) (some (.int .i64 (9 + (i : Int)))) (some (.int .i64 (9 + (i : Int))))).run Tryz.prog w = .ok (.slice (if i = 0 then some ⟨b, o, none⟩ else some ⟨b, o + 9, none⟩) i i) w := fun w => run_sl_lhm w b o n c 9 (9 + (i : Int)) 9 i rfl (by omega) (by omega) (by omega) (by omega)
    obtain ⟨i0, hi0, hz0, hs0, hb0⟩ := info_u8i
    have hmk : ∀ w : World, (Instr.makeSlice 22 (.int .i64 (i : Int)) (.int .i64 (i : Int))).run Tryz.prog w = .ok (.slice (some ⟨w.heap.size, 0, none⟩) i i) (w.alloc (.cells (madeCells #[Value.int .u8 0] i) 5)) := fun w => by
      have h := run_make (P := Tryz.prog) w 22 5 i0 (.int .u8 0) Tryz.underlying22 hi0 hz0 .i64 .i64 (i : Int) (i : Int) (by omega) (by omega) (by rw [hb0]; omega) (by omega)
      rw [hs0, Int.toNat_natCast, Nat.mul_one] at h
      exact h
    generalize (if i = 0 then some (⟨b, o, none⟩ : Addr) else some ⟨b, o + 9, none⟩) = ra at P9 s9
    have HP9 := Lib.hid P9
    have HX := Lib.hid X
    have hi8 : (8 : Int) < n := by omega
    clear h0 k1 k2 k3 k5 hl hcap hsz hfl hi hd hk hle hi0 hz0 hs0 hb0 P9 hT X
    go_enter Tryz.func126, Tryz.ntmps126
    go_wp2_with fail
    go_at_call 151
    refine (hs.out _).mono ?_
    unfold ret2
    rintro e w1 ⟨rfl, m, hw1⟩
    have hB : RowKit.Below w.heap.size w w1 := by rw [hw1]; exact bthen (low1 _ _) (below_drewN _ m)
    have hg : w1.heap[w.heap.size]? = some (.cells #[.int .u8 0, .slice none 0 0] 174 (0, 0)) := by rw [hw1]; exact blk1 _ _
    have h8' : w1.cell? ⟨b, o + 8, none⟩ = some (V8 k) := (Kept.of_below (F := fun _ => False) hB).cell h8 id
    have hgs : w.heap.size < w1.heap.size := in_heap hg
    generalize hz : w.heap.size = g at *
    have HB := Lib.hid hB
    have HG := Lib.hid hg
    have Hz := Lib.hid hz
    clear hw1 hB hg hz
    simp only [Int.natCast_add, Int.natCast_zero]
    go_wp2_with (refine wpList_copy_splice rfl _ _ 22 22 rfl 5 Tryz.underlying22 (by kernel_rfl) (some ⟨w1.heap.size, 0, none⟩) ra i i i i rfl rfl w1.heap.size 0 (madeCells #[Value.int .u8 0] i).toList 5 (made_blk w1 i) (l.map V8) (by simp [HP9.out.len]) (txt_copy ((HP9.out.below (by rw [Hz.out]; exact HB.out)).below (low1 _ _))) (by rw [made_size]; simp; have := HP9.out.len; omega) (ones' l) w1.heap.size w1 (low1 _ _) (Nat.le_refl _) ?_; intro w2 hh hb; have HA2 := Lib.hid (copied_acc HP9.out.len (Nat.le_refl _) (by unfold maxLen; omega) hb hh.out); have HB2 := Lib.hid hb; have hrow2 : w2.heap[g]? = some (.cells #[.int .u8 0, .slice none 0 0] 174 (0, 0)) := bblk hb HG.out; have HR2 := Lib.hid hrow2; have h82 : w2.cell? ⟨b, o + 8, none⟩ = some (V8 k) := (Kept.of_below (F := fun _ => False) hb).cell h8' id; have hgs2 := in_heap hrow2; have fz := frozen_row hrow2; have g0 : w2.cell? ⟨g, 0, none⟩ = some (.int .u8 0) := cell_block hrow2 rfl; have g1 : w2.cell? ⟨g, 1, none⟩ = some (.slice none 0 0) := cell_block hrow2 rfl; clear hh hb hrow2)
    refine bodyPost_ret (v := .tuple #[.agg #[V8 k, .slice (some ⟨w1.heap.size, 0, none⟩) i i], .int .i64 (9 + (i : Int)), .int .i64 0]) ?_ rfl ?_
    · have e0 := setCell_one (k := 1) (setCell_one (k := 0) HR2.out (V8 k)) (.slice (some ⟨w1.heap.size, 0, none⟩) i i)
      have q0 := cell_block (j := 0) (v := V8 k) e0 rfl
      have q1 := cell_block (j := 1) (v := .slice (some ⟨w1.heap.size, 0, none⟩) i i) e0 rfl
      generalize (w2.setCell ⟨g, 0, none⟩ (V8 k)).setCell ⟨g, 1, none⟩ (.slice (some ⟨w1.heap.size, 0, none⟩) i i) = W at q0 q1 ⊢
      clear e0
      simp [results, Tryz.results126, go_sem, q0, q1]
      done
    · rw [hr.out]
      have hw2 : RowKit.Below w.heap.size w w2 := by rw [Hz.out]; exact HB.out.trans (HB2.out.mono (Nat.le_of_lt hgs))
      have hT2 : Txt w2 (some ⟨w1.heap.size, 0, none⟩) l.length i l := by
        have h := HA2.out
        have he := HP9.out.len
        subst he
        exact Txt.of_acc h
      have hlow := Kept.setCell (Kept.setCell (Kept.refl (fun b => b = g) w2) ⟨g, 0, none⟩ (V8 k) (.inl rfl)) ⟨g, 1, none⟩ (.slice (some ⟨w1.heap.size, 0, none⟩) i i) (.inl rfl)
      refine ⟨some ⟨w1.heap.size, 0, none⟩, i, ?_, hT2.kept hlow (fun ad had _ => ?_), fun ad had => ?_, ?_⟩
      · rw [HP9.out.len]
        rfl
      · rw [← Option.some.inj had]
        show ¬ w1.heap.size = g
        omega
      · rw [← Option.some.inj had]
        exact HB.out.size
      · exact (hw2.setCell (Nat.le_of_eq Hz.out) _).setCell (Nat.le_of_eq Hz.out) _
  · have hr := Lib.hid (show openF x = ((0, []), 0, (sizeF x).2) by unfold openF; rw [if_neg h0])
    obtain ⟨j, q, hq⟩ : ∃ j q, sizeF x = (j, q) := ⟨_, _, rfl⟩
    rw [hq] at hs hr h0
    have h0' : ¬ (q : Int) = 0 := by simp at h0; omega
    clear hT X h0 hq
    go_enter Tryz.func126, Tryz.ntmps126
    go_wp2_with (go_at_call 151; refine (hs.out _).mono ?_; unfold ret2; rintro e w1 ⟨rfl, m, rfl⟩; simp only [])
    refine bodyPost_ret (v := .tuple #[.agg #[V8 0, .slice none 0 0], .int .i64 0, .int .i64 q]) (by simp [results, Tryz.results126, go_sem]; rfl) rfl ?_
    rw [hr.out]
    refine ⟨none, 0, rfl, ⟨rfl, ⟨⟨fun h => by cases h⟩, Nat.le_refl _, fun _ => rfl, fun ad h => by cases h⟩⟩, (fun ad h => by cases h), ?_⟩
    exact (((bthen (low1 _ _) (below_drewN _ m)).setCell (Nat.le_refl _) _).setCell (Nat.le_refl _) _)
end Go.Proofs.YtgpenpnobjecgaaGreatDoor

/- Bunch -/
namespace Go.Proofs.YtgpenpnobjecgaaGreatDoor
set_option maxRecDepth 100000
open Go.RowKit Dk

/-- An element: its cells; the slices of bytes among them (address, capacity, bytes). -/
structure El where
  cells : List Value
  parts : List (Option Addr × Nat × Bs)
def elCells (l : List El) : List Value := l.flatMap El.cells
structure Bunch (w : World) (base : Nat) (e size : Nat) (A : Option Addr) (n C : Nat) (els : List El) (blk : Option Nat) : Prop where
  row : OwnR w e size A n C (elCells els) blk
  fresh : ∀ b, blk = some b → base ≤ b
  part : ∀ x ∈ els, ∀ q ∈ x.parts, Txt w q.1 q.2.2.length q.2.1 q.2.2 ∧ ∀ ad, q.1 = some ad → base ≤ ad.block ∧ blk ≠ some ad.block
section
variable {w w' : World} {base e size : Nat} {A : Option Addr} {n C : Nat} {els : List El} {blk : Option Nat}
theorem Bunch.nil (w : World) (base e size : Nat) : Bunch w base e size none 0 0 [] none := ⟨OwnR.nil _ _ _, fun b h => (by cases h), fun x h => (by cases h)⟩
theorem Bunch.kept {F : Nat → Prop} (h : Bunch w base e size A n C els blk) (hk : Kept F w w') (hF : ∀ b, base ≤ b → b < w.heap.size → ¬ F b) : Bunch w' base e size A n C els blk :=
  ⟨h.row.kept hk fun b hb => hF b (h.fresh b hb) (h.row.lt b hb), h.fresh, fun x hx q hq => by
    obtain ⟨h1, h2⟩ := h.part x hx q hq
    refine ⟨h1.kept hk fun ad had _ => hF _ (h2 ad had).1 ?_, h2⟩
    obtain ⟨b, o, rfl, hlt⟩ := h1.src.plain ad had
    exact hlt⟩
theorem Bunch.below (h : Bunch w base e size A n C els blk) (hb : Below w.heap.size w w') : Bunch w' base e size A n C els blk := h.kept (Kept.of_below (F := fun _ => False) hb) fun _ _ _ => id
theorem Bunch.push (h : Bunch w base e size A n C els blk) (x : El) {B : Option Addr} {D : Nat} {blk' : Option Nat} (hg : w.grownBy w' blk) (hr : OwnR w' e size B (n + 1) D (elCells els ++ x.cells) blk') (hb : blk' = blk ∨ blk' = some w.heap.size) (hbase : base ≤ w.heap.size)
    (hx : ∀ q ∈ x.parts, Txt w q.1 q.2.2.length q.2.1 q.2.2 ∧ ∀ ad, q.1 = some ad → base ≤ ad.block ∧ blk ≠ some ad.block) : Bunch w' base e size B (n + 1) D (els ++ [x]) blk' := by
  refine ⟨?_, fun b hb2 => ?_, fun y hy q hq => ?_⟩
  · simpa [elCells] using hr
  · rcases hb with h1 | h1
    · exact h.fresh b (h1 ▸ hb2)
    · rw [h1] at hb2; obtain rfl := Option.some.inj hb2; exact hbase
  · have key : Txt w q.1 q.2.2.length q.2.1 q.2.2 ∧ ∀ ad, q.1 = some ad → base ≤ ad.block ∧ blk ≠ some ad.block := by
      rcases List.mem_append.1 hy with hy | hy
      · exact h.part y hy q hq
      · obtain rfl := List.mem_singleton.1 hy
        exact hx q hq
    obtain ⟨h1, h2⟩ := key
    refine ⟨h1.kept ((Kept.refl (fun b => blk = some b) w).grown hg fun k e => .inl e) fun ad had _ => (h2 ad had).2, fun ad had => ⟨(h2 ad had).1, ?_⟩⟩
    rcases hb with h3 | h3
    · rw [h3]; exact (h2 ad had).2
    · rw [h3]
      intro e
      have := Option.some.inj e
      obtain ⟨b, o, hb, hlt⟩ := h1.src.plain ad had
      subst hb
      simp at this
      omega
end

/-- A file as an element. -/
def fileEl (p : Bs × Bs) (q : Option Addr × Nat) : El := ⟨[strV p.1, .slice q.1 p.2.length q.2], [(q.1, q.2, p.2)]⟩
/-- A slice of files; all its blocks are in G. -/
structure FilesAt (w : World) (A : Option Addr) (n C : Nat) (l : List (Bs × Bs)) (G : Nat → Prop) : Prop where
  len : n = l.length
  cap : n ≤ C
  nil : A = none → C = 0
  plain : ∀ ad, A = some ad → ∃ b o, ad = ⟨b, o, none⟩ ∧ b < w.heap.size ∧ G b
  each : ∀ i p, l[i]? = some p → ∃ b o B c, A = some ⟨b, o, none⟩ ∧ w.cell? ⟨b, o + i * 2, none⟩ = some (strV p.1) ∧ w.cell? ⟨b, o + i * 2 + 1, none⟩ = some (.slice B p.2.length c) ∧ Txt w B p.2.length c p.2 ∧ ∀ ad, B = some ad → G ad.block
theorem FilesAt.kept {F G : Nat → Prop} {w w' : World} {A : Option Addr} {n C : Nat} {l : List (Bs × Bs)} (h : FilesAt w A n C l G) (hk : Kept F w w') (hF : ∀ b, G b → b < w.heap.size → ¬ F b) : FilesAt w' A n C l G := by
  refine ⟨h.len, h.cap, h.nil, fun ad had => ?_, fun i p hp => ?_⟩
  · obtain ⟨b, o, e, hlt, hg⟩ := h.plain ad had
    exact ⟨b, o, e, Nat.lt_of_lt_of_le hlt hk.size, hg⟩
  · obtain ⟨b, o, B, c, hA, h1, h2, h3, h4⟩ := h.each i p hp
    obtain ⟨b', o', e, hlt, hg⟩ := h.plain _ hA
    simp only [Addr.mk.injEq, and_true] at e
    obtain ⟨rfl, rfl⟩ := e
    refine ⟨b, o, B, c, hA, hk.cell h1 (hF b hg hlt), hk.cell h2 (hF b hg hlt), h3.kept hk fun ad had _ => ?_, h4⟩
    obtain ⟨b2, o2, rfl, hlt2⟩ := h3.src.plain ad had
    exact hF b2 (h4 _ had) hlt2
theorem FilesAt.below {G : Nat → Prop} {w w' : World} {A : Option Addr} {n C : Nat} {l : List (Bs × Bs)} (h : FilesAt w A n C l G) (hb : Below w.heap.size w w') : FilesAt w' A n C l G := h.kept (Kept.of_below (F := fun _ => False) hb) fun _ _ _ => id
theorem FilesAt.mono {G H : Nat → Prop} {w : World} {A : Option Addr} {n C : Nat} {l : List (Bs × Bs)} (h : FilesAt w A n C l G) (hG : ∀ b, b < w.heap.size → G b → H b) : FilesAt w A n C l H :=
  ⟨h.len, h.cap, h.nil, fun ad had => by obtain ⟨b, o, e, hlt, hg⟩ := h.plain ad had; exact ⟨b, o, e, hlt, hG b hlt hg⟩, fun i p hp => by
    obtain ⟨b, o, B, c, hA, h1, h2, h3, h4⟩ := h.each i p hp
    refine ⟨b, o, B, c, hA, h1, h2, h3, fun ad had => ?_⟩
    obtain ⟨b2, o2, rfl, hlt2⟩ := h3.src.plain ad had
    exact hG _ hlt2 (h4 _ had)⟩
theorem getElem_flat {α β : Type} (f : α → List β) (k : Nat) : ∀ (l : List α) (_ : ∀ x ∈ l, (f x).length = k) (i j : Nat) (x : α), l[i]? = some x → j < k → (l.flatMap f)[i * k + j]? = (f x)[j]?
  | [], _, i, j, x, h, _ => by simp at h
  | y :: r, hk, 0, j, x, h, hj => by
    simp only [List.getElem?_cons_zero, Option.some.injEq] at h
    subst h
    rw [List.flatMap_cons, Nat.zero_mul, Nat.zero_add, List.getElem?_append_left (by rw [hk y (by simp)]; exact hj)]
  | y :: r, hk, i + 1, j, x, h, hj => by
    have hy := hk y (by simp)
    rw [List.flatMap_cons, List.getElem?_append_right (by rw [hy, Nat.add_mul]; omega), hy, show (i + 1) * k + j - k = i * k + j by rw [Nat.add_mul]; omega]
    exact getElem_flat f k r (fun x hx => hk x (by simp [hx])) i j x (by simpa using h) hj
theorem Bunch.files {w : World} {base : Nat} {A : Option Addr} {n C : Nat} {l : List (Bs × Bs)} {qs : List (Option Addr × Nat)} {blk : Option Nat} (h : Bunch w base 35 2 A n C (List.zipWith fileEl l qs) blk) (hq : qs.length = l.length) (hn : n = l.length) (hA0 : ∀ ad, A = some ad → blk ≠ none) : FilesAt w A n C l (fun b => base ≤ b) := by
  refine ⟨hn, h.row.cap.1, h.row.nilcap, fun ad had => ?_, fun i p hp => ?_⟩
  · obtain ⟨b, o, e, hlt⟩ := h.row.plain ad had
    refine ⟨b, o, e, hlt, ?_⟩
    rcases h.row.form with ⟨h0, _⟩ | ⟨g, cur, hg, hb, _⟩
    · exact absurd h0 (hA0 ad had)
    · rw [hg] at had
      obtain rfl := Option.some.inj had
      simp only [Addr.mk.injEq, and_true] at e
      obtain ⟨rfl, _⟩ := e
      exact h.fresh _ hb
  · have hi : i < l.length := (List.getElem?_eq_some_iff.1 hp).1
    obtain ⟨q, hqi⟩ : ∃ q, qs[i]? = some q := ⟨_, List.getElem?_eq_getElem (by omega)⟩
    have hel : (List.zipWith fileEl l qs)[i]? = some (fileEl p q) := by rw [List.getElem?_zipWith, hp, hqi]
    have hsz : ∀ x ∈ List.zipWith fileEl l qs, x.cells.length = 2 := fun x hx => by
      rw [List.zipWith_eq_zipWith_take_min] at hx
      obtain ⟨j, hj, rfl⟩ := List.mem_iff_getElem.1 hx
      rw [List.getElem_zipWith]; rfl
    have hget : ∀ j, j < 2 → (elCells (List.zipWith fileEl l qs))[i * 2 + j]? = (fileEl p q).cells[j]? := fun j hj => getElem_flat El.cells 2 _ hsz i j _ hel hj
    obtain ⟨g, hg, _, c0⟩ := h.row.cell (j := i * 2) (v := strV p.1) (by rw [show i * 2 = i * 2 + 0 by omega, hget 0 (by omega)]; rfl)
    obtain ⟨g2, hg2, _, c1⟩ := h.row.cell (j := i * 2 + 1) (v := .slice q.1 p.2.length q.2) (by rw [hget 1 (by omega)]; rfl)
    obtain rfl : g = g2 := by rw [hg] at hg2; simpa using hg2
    obtain ⟨h3, h4⟩ := h.part (fileEl p q) (List.mem_of_getElem? hel) (q.1, q.2, p.2) (by simp [fileEl])
    exact ⟨g, 0, q.1, q.2, hg, by rw [Nat.zero_add]; exact c0, by rw [Nat.zero_add]; exact c1, h3, fun ad had => (h4 ad had).1⟩
end Go.Proofs.YtgpenpnobjecgaaGreatDoor
