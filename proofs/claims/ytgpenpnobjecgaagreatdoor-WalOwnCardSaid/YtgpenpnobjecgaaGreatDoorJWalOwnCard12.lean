/- frame.Open. -/
import Derived.Test.YtgpenpnobjecgaaGreatDoorJWalOwnCard10
import Derived.Test.YtgpenpnobjecgaaGreatDoorJWalOwnCard11
/- DGoes -/
namespace Go.Proofs.YtgpenpnobjecgaaGreatDoor
set_option maxRecDepth 100000
open Go.RowKit Go.Maps Dk

theorem setCell_one {w : World} {g k : Nat} {cs : Array Value} {t : TypeId} {fr : Nat × Nat} (h : w.heap[g]? = some (.cells cs t fr)) (v : Value) : (w.setCell ⟨g, k, none⟩ v).heap[g]? = some (.cells (cs.setIfInBounds k v) t fr) := by
  rw [setCell_row h]
  exact setRow_heap _ _ _ _ _ _ h
theorem frozen_row {w : World} {g : Nat} {cs : Array Value} {t : TypeId} (h : w.heap[g]? = some (.cells cs t (0, 0))) (k : Nat) : w.frozen? ⟨g, k, none⟩ = false := by simp [World.frozen?, h]

def gone (d : DiskS) : DiskS := { d with armed := 0, dead := true }
def went (d : DiskS) : DiskS := { d with armed := d.armed - 1, ops := d.ops + 1 }
theorem op_gone {d : DiskS} (h : d.armed = 1) (f : DiskS → DiskS) : op d f = (gone d, 51) := by unfold op gone; rw [if_pos h]
theorem op_went {d : DiskS} (h : ¬ d.armed = 1) (f : DiskS → DiskS) : op d f = (f (went d), 0) := by unfold op went; rw [if_neg h]
/-- What goes answers. -/
def Went (w : World) (g : Nat) (d : DiskS) (u : Nat) (recs : List Nat) (own : Nat → Option DTag) (e : Ending) (w' : World) : Prop :=
  Kept (· = g) w w' ∧ ((d.armed = 1 ∧ e = .returned (.int .i64 51) ∧ DAtU w' g (gone d) u recs own) ∨ (¬ d.armed = 1 ∧ e = .returned (.int .i64 0) ∧ DAtU w' g (went d) u recs own))

set_option maxRecDepth 100000 in
theorem goes_any {w : World} {g : Nat} {d : DiskS} {u : Nat} {recs : List Nat} {own : Nat → Option DTag} (hd : DAtU w g d u recs own) (hO : d.ops < 1048576) (hA : d.armed ≤ 9223372036854775807) :
    Calls Tryz.prog 86 #[ptrV g] w (Went w g d u recs own) := by
  obtain ⟨fA, fC, fb, mb, sb, cA, cC, cb, M⟩ := hd
  have c6 : w.cell? ⟨g, 6, none⟩ = some (.int .i64 d.ops) := cell_block M.row rfl
  have c7 : w.cell? ⟨g, 7, none⟩ = some (.int .i64 d.armed) := cell_block M.row rfl
  have c8 : w.cell? ⟨g, 8, none⟩ = some (.bool d.dead) := cell_block M.row rfl
  have fz := frozen_row M.row
  have HM := Lib.hid M
  clear M
  have hE : (d.armed = 1 → Went w g d u recs own (.returned (.int .i64 51)) ((w.setCell ⟨g, 7, none⟩ (.int .i64 0)).setCell ⟨g, 8, none⟩ (.bool true))) ∧
      (0 < d.armed → ¬ d.armed = 1 → Went w g d u recs own (.returned (.int .i64 0)) ((w.setCell ⟨g, 7, none⟩ (.int .i64 ((d.armed : Int) - 1))).setCell ⟨g, 6, none⟩ (.int .i64 ((d.ops : Int) + 1)))) ∧
      (d.armed = 0 → Went w g d u recs own (.returned (.int .i64 0)) (w.setCell ⟨g, 6, none⟩ (.int .i64 ((d.ops : Int) + 1)))) := by
    have M := HM.out
    refine ⟨fun h => ?_, fun h0 h => ?_, fun h => ?_⟩
    · have hk : Kept (· = g) w ((w.setCell ⟨g, 7, none⟩ (.int .i64 0)).setCell ⟨g, 8, none⟩ (.bool true)) := ((Kept.refl (· = g) w).setCell _ _ (.inl rfl)).setCell _ _ (.inl rfl)
      refine ⟨hk, .inl ⟨h, rfl, fA, fC, fb, mb, sb, cA, cC, cb, M.rerow hk (gone d) u rfl rfl rfl rfl ?_⟩⟩
      rw [setCell_one (setCell_one M.row _) _]
      rfl
    · have hk : Kept (· = g) w ((w.setCell ⟨g, 7, none⟩ (.int .i64 ((d.armed : Int) - 1))).setCell ⟨g, 6, none⟩ (.int .i64 ((d.ops : Int) + 1))) := ((Kept.refl (· = g) w).setCell _ _ (.inl rfl)).setCell _ _ (.inl rfl)
      refine ⟨hk, .inr ⟨h, rfl, fA, fC, fb, mb, sb, cA, cC, cb, M.rerow hk (went d) u rfl rfl rfl rfl ?_⟩⟩
      rw [setCell_one (setCell_one M.row _) _, show (d.armed : Int) - 1 = ((d.armed - 1 : Nat) : Int) by omega]
      rfl
    · have hk : Kept (· = g) w (w.setCell ⟨g, 6, none⟩ (.int .i64 ((d.ops : Int) + 1))) := (Kept.refl (· = g) w).setCell _ _ (.inl rfl)
      refine ⟨hk, .inr ⟨by omega, rfl, fA, fC, fb, mb, sb, cA, cC, cb, M.rerow hk (went d) u rfl rfl rfl rfl ?_⟩⟩
      rw [setCell_one M.row _]
      have : d.armed - 1 = d.armed := by omega
      simp only [went, this]
      rfl
  have HE := Lib.hid hE
  clear hE
  have e1 : ((d.armed : Int) = 1) = (d.armed = 1) := by rw [eq_iff_iff]; omega
  unfold ptrV
  by_cases h1 : d.armed = 1
  · have H1 := Lib.hid h1
    have z := HE.out.1 h1
    rw [h1] at c7
    clear h1 e1
    go_enter Tryz.func86, Tryz.ntmps86
    go_wp2
    go_ret
    exact HE.out.1 H1.out
  · by_cases h0 : d.armed = 0
    · have H0 := Lib.hid h0
      rw [h0] at c7
      clear h1 h0 e1
      go_enter Tryz.func86, Tryz.ntmps86
      go_wp2
      go_ret
      exact HE.out.2.2 H0.out
    · have H1 := Lib.hid h1
      have H0 : Hid (0 < d.armed) := Lib.hid (by omega)
      have i1 : (0 : Int) < d.armed := by omega
      have i2 : ((d.armed : Int) - 1 == 0) = false := by simp; omega
      clear h1 h0 e1
      go_enter Tryz.func86, Tryz.ntmps86
      go_wp2
      go_ret
      exact HE.out.2.1 H0.out H1.out

section
variable {w : World} {ops : Array Oper} {rest : List Oper} {o : Oper} {a : Act} {Q : Exit → Act → World → Prop}
theorem wpList_del_dir (hg : o.guard = none) (m x : Operand) (hop : o.op = Op.call { callee := Callee.builtin Builtin.delete, args := #[m, x], argTypes := #[99, 9] }) (b : Nat) (l : Dir) (s : Bs) (hm : a.eval m = .map (some b)) (hx : a.eval x = strV s) (h : DirAt w b l) (hs : s.length ≤ maxLen)
    (hK : ∀ w', DirAt w' b (ddel l s) → Kept (· = b) w w' → wpList Tryz.prog ops Q rest (a.put o.dst (.tuple #[])) w') : wpList Tryz.prog ops Q (o :: rest) a w := by
  refine wpList_delete_own w hg m x 99 9 hop 3 key_law Tryz.underlying99 _ b l.length (dirD l) hm h _ _ hx (key_str hs) fun w' h1 h2 => hK w' ?_ ((Kept.refl _ w).grown h2.grown fun k hk => .inl (Option.some.inj hk).symm)
  rw [dirD_del] at h1
  exact .of h1
theorem wpList_put_dir (hg : o.guard = none) (m x v : Operand) (hop : o.op = Op.mapUpdate 99 m x v) (b : Nat) (l : Dir) (s : Bs) (i : Nat) (hm : a.eval m = .map (some b)) (hx : a.eval x = strV s) (hv : a.eval v = .int .i64 i) (h : DirAt w b l) (hs : s.length ≤ maxLen) (hl : l.length < maxLen) (hi : i ≤ 9223372036854775807)
    (hK : ∀ w', DirAt w' b (dput l s i) → Kept (· = b) w w' → wpList Tryz.prog ops Q rest (a.put o.dst undef) w') : wpList Tryz.prog ops Q (o :: rest) a w := by
  refine wpList_mapUpdate_own w hg m x v 99 hop 9 3 key_law Tryz.underlying99 _ b l.length (dirD l) hm h hl _ _ _ hx hv (key_str hs) _ _ (plainElem_int Tryz.underlying3 (wf_nat hi)) fun w' h1 h2 => hK w' ?_ ((Kept.refl _ w).grown h2 fun k hk => .inl (Option.some.inj hk).symm)
  rw [dirD_put] at h1
  exact .of h1
end

/-- A change as a value. -/
def chgV (c : Chg) : Value := .agg #[strV c.frm, strV c.to, .int .i64 c.file]
set_option maxRecDepth 100000 in
theorem dturn_any {w : World} {b : Nat} {l : Dir} (h : DirAt w b l) (c : Chg) (h1 : c.frm.length ≤ 4194304) (h2 : c.to.length ≤ 4194304) (hl : l.length ≤ 16777216) (hf : c.file ≤ 9223372036854775807) :
    Calls Tryz.prog 72 #[.map (some b), chgV c] w fun e w' => e = .returned (.tuple #[]) ∧ DirAt w' b (turn l c) ∧ Kept (· = b) w w' := by
  obtain ⟨frm, to, fl⟩ := c
  simp only at h1 h2 hf ⊢
  have m1 : frm.length ≤ maxLen := by unfold maxLen; omega
  have m2 : to.length ≤ maxLen := by unfold maxLen; omega
  have M3 := Lib.hid (show l.length < maxLen by unfold maxLen; omega)
  have M4 := Lib.hid (show (ddel l frm).length < maxLen from Nat.lt_of_le_of_lt (length_ddel_le _ _) M3.out)
  have HA := Lib.hid (h.below (low1 w (.cells #[strV frm, strV to, .int .i64 fl] 126)))
  have HK := Lib.hid ((Kept.refl (· = b) w).alloc (.cells #[strV frm, strV to, .int .i64 fl] 126))
  have hlt := h.lt
  clear h h1 h2 hl
  unfold chgV
  unfold strV at *
  by_cases e1 : frm = [] <;> by_cases e2 : to = []
  · have hT := Lib.hid (show turn l ⟨frm, to, fl⟩ = l by unfold turn; rw [if_pos e1, if_pos e2])
    subst e1 e2
    go_enter Tryz.func72, Tryz.ntmps72
    go_wp2
    go_end0
    rw [hT.out]
    exact ⟨rfl, HA.out, HK.out⟩
  · have hT := Lib.hid (show turn l ⟨frm, to, fl⟩ = dput l to fl by unfold turn; simp only []; rw [if_pos e1, if_neg e2])
    have i2 : to.isEmpty = false := by simpa using e2
    subst e1
    clear e2
    go_enter Tryz.func72, Tryz.ntmps72
    go_wp2_with (at_mapUpdate; refine wpList_put_dir rfl _ _ _ rfl b l to fl rfl rfl rfl HA.out m2 M3.out hf ?_; intro w1 hd hk; have HD := Lib.hid hd; have HK1 := Lib.hid hk; clear hd hk)
    go_end0
    rw [hT.out]
    exact ⟨rfl, HD.out, HK.out.then HK1.out⟩
  · have hT := Lib.hid (show turn l ⟨frm, to, fl⟩ = ddel l frm by unfold turn; simp only []; rw [if_neg e1, if_pos e2])
    have i1 : frm.isEmpty = false := by simpa using e1
    subst e2
    clear e1
    go_enter Tryz.func72, Tryz.ntmps72
    go_wp2_with (at_delete; refine wpList_del_dir rfl _ _ rfl b l frm rfl rfl HA.out m1 ?_; intro w1 hd hk; have c1 : w1.cell? ⟨w.heap.size, 1, none⟩ = some (.string ⟨([] : List UInt8).toArray⟩) := hk.cell (cell_block (blk1 _ _) rfl) (show ¬ w.heap.size = b by omega); have HD := Lib.hid hd; have HK1 := Lib.hid hk; clear hd hk)
    go_end0
    rw [hT.out]
    exact ⟨rfl, HD.out, HK.out.then HK1.out⟩
  · have hT := Lib.hid (show turn l ⟨frm, to, fl⟩ = dput (ddel l frm) to fl by unfold turn; simp only []; rw [if_neg e1, if_neg e2])
    have i1 : frm.isEmpty = false := by simpa using e1
    have i2 : to.isEmpty = false := by simpa using e2
    clear e1 e2
    go_enter Tryz.func72, Tryz.ntmps72
    go_wp2_with (first
      | (at_mapUpdate; refine wpList_put_dir rfl _ _ _ rfl b (ddel l frm) to fl rfl rfl rfl HD.out m2 M4.out hf ?_; intro w2 hd hk; have HD2 := Lib.hid hd; have HK2 := Lib.hid hk; clear hd hk)
      | (at_delete; refine wpList_del_dir rfl _ _ rfl b l frm rfl rfl HA.out m1 ?_; intro w1 hd hk; have c1 : w1.cell? ⟨w.heap.size, 1, none⟩ = some (.string ⟨to.toArray⟩) := hk.cell (cell_block (blk1 _ _) rfl) (show ¬ w.heap.size = b by omega); have c2 : w1.cell? ⟨w.heap.size, 2, none⟩ = some (.int .i64 fl) := hk.cell (cell_block (blk1 _ _) rfl) (show ¬ w.heap.size = b by omega); have HD := Lib.hid hd; have HK1 := Lib.hid hk; clear hd hk))
    go_end0
    rw [hT.out]
    exact ⟨rfl, HD2.out, (HK.out.then HK1.out).then HK2.out⟩
end Go.Proofs.YtgpenpnobjecgaaGreatDoor

/- OpenF -/
namespace Go.Proofs.YtgpenpnobjecgaaGreatDoor
set_option maxRecDepth 100000
open Go.RowKit

theorem Txt.of_acc {w w' : World} {base : Nat} {A : Option Addr} {C : Nat} {l : List UInt8} (hA : Acc 5 1 w w' base A C l.length (l.map V8)) : Txt w' A l.length C l :=
  ⟨rfl, ⟨hA.at_.bytes, hA.cap, hA.nil, fun ad had => by
    rcases hA.form with ⟨h0, _⟩ | ⟨g, _, hg, _, hs, _⟩
    · rw [had] at h0; cases h0
    · rw [had] at hg
      obtain rfl := Option.some.inj hg
      exact ⟨g, 0, rfl, hs⟩⟩⟩
/-- A frame, how long it is, an error's number. -/
def RetFrame (w : World) (r : FrameS × Nat × Nat) (e : Ending) (w' : World) : Prop :=
  ∃ B C, e = .returned (.tuple #[.agg #[V8 r.1.1, .slice B r.1.2.length C], .int .i64 r.2.1, .int .i64 r.2.2]) ∧ Txt w' B r.1.2.length C r.1.2 ∧ (∀ ad, B = some ad → w.heap.size ≤ ad.block) ∧ Below w.heap.size w w'
set_option maxRecDepth 100000 in
set_option maxHeartbeats 1000000 in
theorem fopen_any (x : List UInt8) (a : Option Addr) (n c : Nat) (w : World) (X : Txt w a n c x) (hn : n ≤ 1099511627776) (hT : SumsTab w) :
    Calls Tryz.prog 126 #[.slice a n c] w (RetFrame w (openF x)) := by
  have hs := Lib.hid (fun o => size_any x a n c (w.alloc o) (X.below (low1 _ _)) hn (hT.low (low1 _ _)))
  by_cases h0 : (sizeF x).2 = 0
  · have hr := Lib.hid (show openF x = ((x.getD 8 0, (x.take (frameLen x)).drop 9), frameLen x, 0) by unfold openF; rw [if_pos h0])
    obtain ⟨k1, k2, k3, k4, k5⟩ := sizeF_code x h0
    have hl := X.len
    have hcap := X.src.cap
    have hsz : sizeF x = (frameLen x, 0) := Prod.ext k2 h0
    rw [hsz] at hs
    have hfl : frameLen x = 9 + (wordOf x).toNat := rfl
    obtain ⟨i, hi⟩ : ∃ i, i = (wordOf x).toNat := ⟨_, rfl⟩
    rw [← hi] at hfl k4
    rw [hfl] at hs hr k3
    obtain ⟨b, o, rfl, hd⟩ := X.src.at_.cells.at_ (show 0 < (x.map V8).length by simp; omega)
    obtain ⟨k, hk⟩ : ∃ k, k = x.getD 8 0 := ⟨_, rfl⟩
    have h8 : w.cell? ⟨b, o + 8, none⟩ = some (V8 k) := by
      have := hd 8 (V8 k) (by simp [hk, show 8 < x.length by omega])
      exact this
    rw [← hk] at hr
    obtain ⟨l, hle⟩ : ∃ l, l = (x.take (9 + i)).drop 9 := ⟨_, rfl⟩
    rw [← hle] at hr
    have P9 : Txt w (if i = 0 then some ⟨b, o, none⟩ else some ⟨b, o + 9, none⟩) i i l := by
      have h := X.part 9 i (by omega)
      have h2 : (x.drop 9).take i = l := by rw [hle, List.drop_take, show 9 + i - 9 = i by omega]
      rw [h2] at h
      by_cases hi0 : i = 0
      · rw [if_pos hi0]
        subst hi0
        have hl0 : l = [] := List.eq_nil_of_length_eq_zero (by rw [← h.len])
        rw [hl0]
        exact ⟨rfl, ⟨⟨fun h => by cases h⟩, Nat.le_refl _, fun h => rfl, X.src.plain⟩⟩
      · rw [if_neg (by omega)] at h
        rw [if_neg hi0]
        exact h.capped (Nat.le_refl _) (fun h => by cases h)
    have s9 : ∀ w : World, (Instr.slice 22 (.slice (some ⟨b, o, none⟩) n c) (some (.int .i64 9)) (some (.int .i64 (9 + (i : Int)))) (some (.int .i64 (9 + (i : Int))))).run Tryz.prog w = .ok (.slice (if i = 0 then some ⟨b, o, none⟩ else some ⟨b, o + 9, none⟩) i i) w := fun w => run_sl_lhm w b o n c 9 (9 + (i : Int)) 9 i rfl (by omega) (by omega) (by omega) (by omega)
    obtain ⟨i0, hi0, hz0, hs0, hb0⟩ := info_u8i
    have hmk : ∀ w : World, (Instr.makeSlice 22 (.int .i64 (i : Int)) (.int .i64 (i : Int))).run Tryz.prog w = .ok (.slice (some ⟨w.heap.size, 0, none⟩) i i) (w.alloc (.cells (madeCells #[Value.int .u8 0] i) 5)) := fun w => by
      have h := run_make (P := Tryz.prog) w 22 5 i0 (.int .u8 0) Tryz.underlying22 hi0 hz0 .i64 .i64 (i : Int) (i : Int) (by omega) (by omega) (by rw [hb0]; omega) (by omega)
      rw [hs0, Int.toNat_natCast, Nat.mul_one] at h
      exact h
    generalize (if i = 0 then some (⟨b, o, none⟩ : Addr) else some ⟨b, o + 9, none⟩) = ra at P9 s9
    have HP9 := Lib.hid P9
    have HX := Lib.hid X
    have hi8 : (8 : Int) < n := by omega
    clear h0 k1 k2 k3 k5 hl hcap hsz hfl hi hd hk hle hi0 hz0 hs0 hb0 P9 hT X
    go_enter Tryz.func126, Tryz.ntmps126
    go_wp2_with fail
    go_at_call 151
    refine (hs.out _).mono ?_
    unfold ret2
    rintro e w1 ⟨rfl, m, hw1⟩
    have hB : RowKit.Below w.heap.size w w1 := by rw [hw1]; exact bthen (low1 _ _) (below_drewN _ m)
    have hg : w1.heap[w.heap.size]? = some (.cells #[.int .u8 0, .slice none 0 0] 174 (0, 0)) := by rw [hw1]; exact blk1 _ _
    have h8' : w1.cell? ⟨b, o + 8, none⟩ = some (V8 k) := (Kept.of_below (F := fun _ => False) hB).cell h8 id
    have hgs : w.heap.size < w1.heap.size := in_heap hg
    generalize hz : w.heap.size = g at *
    have HB := Lib.hid hB
    have HG := Lib.hid hg
    have Hz := Lib.hid hz
    clear hw1 hB hg hz
    simp only [Int.natCast_add, Int.natCast_zero]
    go_wp2_with (refine wpList_copy_splice rfl _ _ 22 22 rfl 5 Tryz.underlying22 (by kernel_rfl) (some ⟨w1.heap.size, 0, none⟩) ra i i i i rfl rfl w1.heap.size 0 (madeCells #[Value.int .u8 0] i).toList 5 (made_blk w1 i) (l.map V8) (by simp [HP9.out.len]) (txt_copy ((HP9.out.below (by rw [Hz.out]; exact HB.out)).below (low1 _ _))) (by rw [made_size]; simp; have := HP9.out.len; omega) (ones' l) w1.heap.size w1 (low1 _ _) (Nat.le_refl _) ?_; intro w2 hh hb; have HA2 := Lib.hid (copied_acc HP9.out.len (Nat.le_refl _) (by unfold maxLen; omega) hb hh.out); have HB2 := Lib.hid hb; have hrow2 : w2.heap[g]? = some (.cells #[.int .u8 0, .slice none 0 0] 174 (0, 0)) := bblk hb HG.out; have HR2 := Lib.hid hrow2; have h82 : w2.cell? ⟨b, o + 8, none⟩ = some (V8 k) := (Kept.of_below (F := fun _ => False) hb).cell h8' id; have hgs2 := in_heap hrow2; have fz := frozen_row hrow2; have g0 : w2.cell? ⟨g, 0, none⟩ = some (.int .u8 0) := cell_block hrow2 rfl; have g1 : w2.cell? ⟨g, 1, none⟩ = some (.slice none 0 0) := cell_block hrow2 rfl; clear hh hb hrow2)
    refine bodyPost_ret (v := .tuple #[.agg #[V8 k, .slice (some ⟨w1.heap.size, 0, none⟩) i i], .int .i64 (9 + (i : Int)), .int .i64 0]) ?_ rfl ?_
    · have e0 := setCell_one (k := 1) (setCell_one (k := 0) HR2.out (V8 k)) (.slice (some ⟨w1.heap.size, 0, none⟩) i i)
      have q0 := cell_block (j := 0) (v := V8 k) e0 rfl
      have q1 := cell_block (j := 1) (v := .slice (some ⟨w1.heap.size, 0, none⟩) i i) e0 rfl
      generalize (w2.setCell ⟨g, 0, none⟩ (V8 k)).setCell ⟨g, 1, none⟩ (.slice (some ⟨w1.heap.size, 0, none⟩) i i) = W at q0 q1 ⊢
      clear e0
      simp [results, Tryz.results126, go_sem, q0, q1]
      done
    · rw [hr.out]
      have hw2 : RowKit.Below w.heap.size w w2 := by rw [Hz.out]; exact HB.out.trans (HB2.out.mono (Nat.le_of_lt hgs))
      have hT2 : Txt w2 (some ⟨w1.heap.size, 0, none⟩) l.length i l := by
        have h := HA2.out
        have he := HP9.out.len
        subst he
        exact Txt.of_acc h
      have hlow := Kept.setCell (Kept.setCell (Kept.refl (fun b => b = g) w2) ⟨g, 0, none⟩ (V8 k) (.inl rfl)) ⟨g, 1, none⟩ (.slice (some ⟨w1.heap.size, 0, none⟩) i i) (.inl rfl)
      refine ⟨some ⟨w1.heap.size, 0, none⟩, i, ?_, hT2.kept hlow (fun ad had _ => ?_), fun ad had => ?_, ?_⟩
      · rw [HP9.out.len]
        rfl
      · rw [← Option.some.inj had]
        show ¬ w1.heap.size = g
        omega
      · rw [← Option.some.inj had]
        exact HB.out.size
      · exact (hw2.setCell (Nat.le_of_eq Hz.out) _).setCell (Nat.le_of_eq Hz.out) _
  · have hr := Lib.hid (show openF x = ((0, []), 0, (sizeF x).2) by unfold openF; rw [if_neg h0])
    obtain ⟨j, q, hq⟩ : ∃ j q, sizeF x = (j, q) := ⟨_, _, rfl⟩
    rw [hq] at hs hr h0
    have h0' : ¬ (q : Int) = 0 := by simp at h0; omega
    clear hT X h0 hq
    go_enter Tryz.func126, Tryz.ntmps126
    go_wp2_with (go_at_call 151; refine (hs.out _).mono ?_; unfold ret2; rintro e w1 ⟨rfl, m, rfl⟩; simp only [])
    refine bodyPost_ret (v := .tuple #[.agg #[V8 0, .slice none 0 0], .int .i64 0, .int .i64 q]) (by simp [results, Tryz.results126, go_sem]; rfl) rfl ?_
    rw [hr.out]
    refine ⟨none, 0, rfl, ⟨rfl, ⟨⟨fun h => by cases h⟩, Nat.le_refl _, fun _ => rfl, fun ad h => by cases h⟩⟩, (fun ad h => by cases h), ?_⟩
    exact (((bthen (low1 _ _) (below_drewN _ m)).setCell (Nat.le_refl _) _).setCell (Nat.le_refl _) _)
end Go.Proofs.YtgpenpnobjecgaaGreatDoor
