/- wal.Open's two deferred calls. -/
import Derived.Deep.QuietTactic
import Derived.BigQuiet
import Derived.Great.BuildSlice
import Derived.Defers
import Derived.Recover
import Derived.Test.YtgpenpnobjecgaaGreatDoorJWalSafeCard9
import Derived.Test.YtgpenpnobjecgaaGreatDoorJWalSafeCard11
import Derived.Test.YtgpenpnobjecgaaGreatDoorJWalSafeCard15
import Derived.Test.YtgpenpnobjecgaaGreatDoorJWalSafeCard22
import Derived.Test.YtgpenpnobjecgaaGreatDoorJWalSafeCard23
/- WMod -/
namespace Go.Proofs.YtgpenpnobjecgaaGreatDoor
set_option maxRecDepth 100000
open Go.RowKit Dk

/-- Generations taken out. -/
def removeAll (d : DiskS) : List Nat → DiskS × Nat
  | [] => (d, 0)
  | n :: t => next (Dk.remove d (nameW n)) (removeAll · t)
abbrev OpenR := DiskS × Option LogS × Nat
/-- The end of an Open: elder generations taken out. -/
def closeW (r : DiskS × Nat) (older : List Nat) (L : LogS) : OpenR :=
  let r1 := next r (removeAll · older)
  let r2 := if older = [] then r1 else next r1 syncDir
  if r2.2 = 0 then (r2.1, some L, 0) else (r2.1, none, r2.2)
def newLog (n : Nat) (s : Bs) (rs : List Bs) (cut : Nat) : LogS := ⟨n, s, rs, (bytesW n s rs).length, cut, false⟩
/-- Open behind the newest generation. -/
def openOf (d : DiskS) (all : List Nat) (m : Nat) : OpenR :=
  match readW d m with
  | (none, q) => (d, none, q)
  | (some s, _) =>
    if 0 < s.cut then
      if m = 1099511627776 then (d, none, 5)
      else closeW (make1W d (m + 1) (bytesW (m + 1) s.state s.records)) all (newLog (m + 1) s.state s.records s.cut)
    else closeW (next (Dk.sync d (nameW m)) syncDir) all.dropLast ⟨m, s.state, s.records, s.whole, 0, false⟩
def openBody (d : DiskS) : OpenR :=
  match (gensW (Dk.list d)).getLast? with
  | none => closeW (make1W d 1 (bytesW 1 [] [])) [] (newLog 1 [] [] 0)
  | some m => openOf d (gensW (Dk.list d)) m
def tempGone (d : DiskS) : DiskS × Nat := if (Dk.read d tempW).2 = 0 then Dk.remove d tempW else (d, 0)
/-- wal.Open of a disk. -/
def openW (d : DiskS) : OpenR :=
  if d.dead then (d, none, 2) else
  if (tempGone d).2 = 0 then openBody (tempGone d).1 else ((tempGone d).1, none, (tempGone d).2)

/-- The disk, the log, the error's number. -/
abbrev ActR := (DiskS × LogS) × Nat
def LogS.broke (L : LogS) : LogS := { L with broken := true }
/-- (*Log).Append. -/
def appendW (d : DiskS) (L : LogS) (p : Bs) : ActR :=
  if 65536 < p.length then ((d, L), 1) else if L.broken then ((d, L), 60) else
  if 4194304 < L.size + (sealW 2 (L.records.length + 1) p).length ∨ free d < L.size + (sealW 2 (L.records.length + 1) p).length + (sealW 2 (L.records.length + 1) p).length then ((d, L), 5) else
  let r := Dk.append d (nameW L.epoch) (sealW 2 (L.records.length + 1) p)
  if r.2 = 0 then ((r.1, { L with records := L.records ++ [p], size := L.size + (sealW 2 (L.records.length + 1) p).length }), 0) else ((r.1, L.broke), r.2)
/-- (*Log).Sync. -/
def syncW (d : DiskS) (L : LogS) : ActR :=
  if L.broken then ((d, L), 60) else
  let r := Dk.sync d (nameW L.epoch)
  if r.2 = 0 then ((r.1, L), 0) else ((r.1, L.broke), r.2)
/-- (*Log).Snapshot. -/
def snapW (d : DiskS) (L : LogS) (s : Bs) : ActR :=
  if 1048576 < s.length then ((d, L), 1) else if L.broken then ((d, L), 60) else if 1099511627776 ≤ L.epoch then ((d, L), 5) else
  if free d < (bytesW (L.epoch + 1) s []).length ∨ free d + L.size < (bytesW (L.epoch + 1) s []).length + (bytesW (L.epoch + 1) s []).length then ((d, L), 5) else
  let r := next (next (make1W d (L.epoch + 1) (bytesW (L.epoch + 1) s [])) (Dk.remove · (nameW L.epoch))) syncDir
  if r.2 = 0 then ((r.1, { epoch := L.epoch + 1, state := s, records := [], size := (bytesW (L.epoch + 1) s []).length, cut := L.cut, broken := L.broken }), 0) else ((r.1, L.broke), r.2)
end Go.Proofs.YtgpenpnobjecgaaGreatDoor

/- WPair -/
namespace Go.Proofs.YtgpenpnobjecgaaGreatDoor
set_option maxRecDepth 100000
open Go.RowKit Dk

section
variable {w : World} {g : Nat} {d : DiskS} {recs : List Nat} {own : Nat → Option DTag}
set_option maxRecDepth 100000 in
theorem free_quiet (hd : DAt w g d recs own) (hO : Ok d) : Calls Tryz.prog 65 #[ptrV g] w fun e w' => e = .returned (.int .i64 (Dk.free d)) ∧ ∃ m, w' = w.drewN m := by
  have c8 := DAtU.dead hd
  by_cases hdd : d.dead = true
  · have hr := Lib.hid (show Dk.free d = 0 by unfold Dk.free; rw [if_pos hdd])
    rw [hdd] at c8
    clear hd hO hdd
    unfold ptrV
    go_enter Tryz.func65, Tryz.ntmps65
    go_wp2
    go_ret
    rw [hr.out]
    exact ⟨rfl, 0, rfl⟩
  · have hdf : d.dead = false := by simpa using hdd
    have hr := Lib.hid (show ((Dk.free d : Nat) : Int) = (d.room : Int) - d.used by unfold Dk.free; rw [if_neg hdd]; have := hO.used; omega)
    rw [hdf] at c8
    obtain ⟨fA, fC, fb, mb, sb, cA, cC, cb, M⟩ := hd
    have c0 : w.cell? ⟨g, 0, none⟩ = some (.int .i64 d.room) := cell_block M.row rfl
    have c1 : w.cell? ⟨g, 1, none⟩ = some (.int .i64 d.used) := cell_block M.row rfl
    have j3 : (0 : Int) ≤ (d.room : Int) - d.used := by have := hO.used; omega
    have j4 : (d.room : Int) - d.used ≤ 9223372036854775807 := by have := hO.room; omega
    clear M hO hdd hdf
    unfold ptrV
    go_enter Tryz.func65, Tryz.ntmps65
    go_wp2
    go_quiet (fail)
    go_wp2
    go_ret
    rw [hr.out]
    exact ⟨rfl, _, rfl⟩
end
/-- What bounds a log. -/
structure LOk (L : LogS) : Prop where
  epoch : 1 ≤ L.epoch ∧ L.epoch ≤ 1099511627776
  state : L.state.length ≤ 1048576
  recs : ∀ r ∈ L.records, r.length ≤ 65536
  many : L.records.length ≤ L.size
  size : L.size ≤ 4194304
  cut : L.cut ≤ 4194304
/-- A disk and a log on it; their blocks. -/
structure PairAt (w : World) (g dg : Nat) (d : DiskS) (L : LogS) (own : Nat → Option DTag) (lf : Nat → Prop) : Prop where
  dat : ∃ recs, DAt w dg d recs own
  ok : Ok d
  log : LogAt w g dg L lf
  apart : ∀ b, lf b → ¬ foot own b
  lok : LOk L
def both (own : Nat → Option DTag) (lf : Nat → Prop) (b : Nat) : Prop := foot own b ∨ lf b
/-- What a method of a log leaves. -/
def PPost (w : World) (g dg : Nat) (own : Nat → Option DTag) (lf : Nat → Prop) (r : ActR) (e : Ending) (w' : World) : Prop :=
  e = .returned (.int .i64 r.2) ∧ ∃ own' lf', PairAt w' g dg r.1.1 r.1.2 own' lf' ∧ Turned (both own lf) (both own' lf') w w'
section
variable {w w' : World} {g dg : Nat} {d : DiskS} {L : LogS} {own own' : Nat → Option DTag} {lf : Nat → Prop}
theorem PairAt.below (h : PairAt w g dg d L own lf) (hb : RowKit.Below w.heap.size w w') : PairAt w' g dg d L own lf := by
  obtain ⟨recs, hd⟩ := h.dat
  exact ⟨⟨recs, hd.below hb⟩, h.ok, h.log.below hb, h.apart, h.lok⟩
theorem LogAt.lt (h : LogAt w g dg L lf) : ∀ b, lf b → b < w.heap.size := by
  obtain ⟨sA, sC, rA, rC, rblk, qs, M⟩ := h
  exact M.lt
/-- The disk turned, the log did not. -/
theorem PairAt.disk (h : PairAt w g dg d L own lf) {d' : DiskS} {recs' : List Nat} (hd : DAt w' dg d' recs' own') (hO : Ok d') (ht : Turned (foot own) (foot own') w w') : PairAt w' g dg d' L own' lf :=
  ⟨⟨recs', hd⟩, hO, h.log.kept ht.kept fun b hb => h.apart b hb, fun b hb hf => h.apart b hb (ht.foot b (h.log.lt b hb) hf), h.lok⟩
theorem both_disk (ht : Turned (foot own) (foot own') w w') : Turned (both own lf) (both own' lf) w w' :=
  ⟨ht.kept.mono fun _ _ h => .inl h, fun b hb h => h.imp (ht.foot b hb) id⟩
end
end Go.Proofs.YtgpenpnobjecgaaGreatDoor

/- WDoes2 -/
namespace Go.Proofs.YtgpenpnobjecgaaGreatDoor
set_option maxRecDepth 100000
open Go.RowKit Dk

section
variable {w w' : World} {g dg : Nat} {d : DiskS} {L : LogS} {own own' : Nat → Option DTag} {lf : Nat → Prop}
/-- The log is broken. -/
theorem PairAt.break (h : PairAt w g dg d L own lf) : PairAt (w.setCell ⟨g, 6, none⟩ (.bool true)) g dg d L.broke own lf ∧ Turned (both own lf) (both own lf) w (w.setCell ⟨g, 6, none⟩ (.bool true)) := by
  obtain ⟨sA, sC, rA, rC, rblk, qs, M⟩ := h.log
  obtain ⟨recs, hd⟩ := h.dat
  have hk : Kept (· = g) w (w.setCell ⟨g, 6, none⟩ (.bool true)) := (Kept.refl (· = g) w).setCell _ _ (.inl rfl)
  have M' : LMem (w.setCell ⟨g, 6, none⟩ (.bool true)) g dg L.broke lf sA sC rA rC rblk qs := M.rerow hk (fun b _ hn => hn) _ rfl rfl (by rw [setCell_one M.row]; rfl)
  exact ⟨⟨⟨recs, hd.kept hk fun b hb e => h.apart b (e ▸ M.me) hb⟩, h.ok, ⟨_, _, _, _, _, _, M'⟩, h.apart, ⟨h.lok.epoch, h.lok.state, h.lok.recs, h.lok.many, h.lok.size, h.lok.cut⟩⟩, hk.mono fun b _ e => .inr (e ▸ M.me), fun _ _ => id⟩
/-- Where the disk is, behind steps. -/
def DSt (w : World) (dg : Nat) (own : Nat → Option DTag) (d : DiskS) (wx : World) : Prop := Ok d ∧ ∃ recs' own', DAt wx dg d recs' own' ∧ Turned (foot own) (foot own') w wx
theorem DSt.below {wx wy : World} (h : DSt w dg own d wx) (hb : RowKit.Below wx.heap.size wx wy) : DSt w dg own d wy := by
  obtain ⟨hO, recs', own', h1, h2⟩ := h
  exact ⟨hO, recs', own', h1.below hb, h2.trans (.below hb)⟩
theorem does_disk (hP : PairAt w g dg d L own lf) (fs : List (Nat × Array Value × Array Value)) (A : Option Addr) (C : Nat) (hc : CellsAt w A (fs.map funV)) (hA : ∀ ad, A = some ad → ¬ foot own ad.block) (r : Nat → DiskS × Nat) (h0 : r 0 = (d, 0)) (hch : ∀ i, (r i).2 ≠ 0 → r (i + 1) = r i)
    (hstep : ∀ i f wx, fs[i]? = some f → (r i).2 = 0 → DSt w dg own (r i).1 wx → Calls Tryz.prog f.1 (f.2.1 ++ f.2.2) wx fun e w' => e = .returned (.int .i64 (r (i + 1)).2) ∧ DSt w dg own (r (i + 1)).1 w')
    (hent : ∀ f ∈ fs, ∀ (args : Array Value) (w : World), (callFunc f.1 args).run Tryz.prog w = .ok (.enter f.1 args) w) (hl : fs.length ≤ 1000) :
    Calls Tryz.prog 66 #[ptrV g, .slice A fs.length C] w fun e w' => e = .returned (.int .i64 (r fs.length).2) ∧ ∃ own', PairAt w' g dg (r fs.length).1 (if (r fs.length).2 = 0 then L else L.broke) own' lf ∧ Turned (both own lf) (both own' lf) w w' := by
  have hrest : ∀ i k, (r i).2 ≠ 0 → r (i + k) = r i := fun i k hq => by
    induction k with
    | zero => rfl
    | succ k ih => rw [← Nat.add_assoc, hch (i + k) (by rw [ih]; exact hq), ih]
  have hfin : ∀ {dx wx}, DSt w dg own dx wx → ∃ own', PairAt wx g dg dx L own' lf ∧ Turned (both own lf) (both own' lf) w wx := fun h => by
    obtain ⟨hO, recs', own', h1, h2⟩ := h
    exact ⟨own', hP.disk h1 hO h2, both_disk h2⟩
  refine (does_any fs A C (fun i wx => (r i).2 = 0 ∧ DSt w dg own (r i).1 wx) (fun q wx => q = (r fs.length).2 ∧ DSt w dg own (r fs.length).1 wx) (fun i wx h => ?_) (fun q wx h => ?_) (fun i wx wy h hb => ⟨h.1, h.2.below hb⟩) (fun i f wx hf h => ?_) hent hl ?_).mono ?_
  · obtain ⟨_, recs', own', h1, h2⟩ := h.2
    refine ⟨fun hlen => ?_⟩
    obtain ⟨b, o, rfl, hcc⟩ := hc.at_ hlen
    exact ⟨b, o, rfl, fun j v hv => h2.kept.cell (hcc j v hv) (show ¬ foot own b from hA ⟨b, o, none⟩ rfl)⟩
  · obtain ⟨own', hp, _⟩ := hfin h.2
    obtain ⟨sA, sC, rA, rC, rblk, qs, M⟩ := hp.log
    exact ⟨_, _, M.row, by simp [logRow]⟩
  · refine (hstep i f wx hf h.1 h.2).mono ?_
    rintro e w' ⟨rfl, h2⟩
    by_cases hq : (r (i + 1)).2 = 0
    · exact .inl ⟨by rw [hq]; rfl, hq, h2⟩
    · have hi := (List.getElem?_eq_some_iff.1 hf).1
      have := hrest (i + 1) (fs.length - (i + 1)) hq
      rw [show i + 1 + (fs.length - (i + 1)) = fs.length by omega] at this
      rw [this]
      exact .inr ⟨_, hq, rfl, rfl, h2⟩
  · rw [h0]
    exact ⟨rfl, hP.ok, by obtain ⟨recs, hd⟩ := hP.dat; exact ⟨recs, own, hd, .refl _ _⟩⟩
  · intro e w' h
    rcases h with ⟨rfl, hq, h2⟩ | ⟨q, wx, hq, rfl, ⟨rfl, h2⟩, rfl⟩
    · rw [hq, if_pos rfl]
      exact ⟨rfl, hfin h2⟩
    · rw [if_neg hq]
      obtain ⟨own', hp, ht⟩ := hfin h2
      have hb := hp.break
      exact ⟨rfl, own', hb.1, ht.trans hb.2⟩
end
end Go.Proofs.YtgpenpnobjecgaaGreatDoor

/- WReg -/
namespace Go.Proofs.YtgpenpnobjecgaaGreatDoor
set_option maxRecDepth 100000
open Go.RowKit Dk

/-- Which of five worlds, by which of four operations have come up. -/
def seqW (w0 w1 w2 w3 w4 : World) : List Bool → World → Prop
  | [false, _, _, _], w => w = w0
  | [true, false, _, _], w => w = w1
  | [true, true, false, _], w => w = w2
  | [true, true, true, false], w => w = w3
  | [true, true, true, true], w => w = w4
  | _, _ => False
theorem seqW_one {w0 w1 w2 w3 w4 : World} {l : List Bool} {w : World} (h : seqW w0 w1 w2 w3 w4 l w) : w = w0 ∨ w = w1 ∨ w = w2 ∨ w = w3 ∨ w = w4 := by
  unfold seqW at h
  split at h <;> simp_all
/-- The like of one operation, and of two. -/
def seqW1 (w0 w1 : World) : List Bool → World → Prop
  | [false], w => w = w0
  | [true], w => w = w1
  | _, _ => False
theorem seqW1_one {w0 w1 : World} {l : List Bool} {w : World} (h : seqW1 w0 w1 l w) : w = w0 ∨ w = w1 := by
  unfold seqW1 at h
  split at h <;> simp_all
def seqW2 (w0 w1 w2 : World) : List Bool → World → Prop
  | [false, _], w => w = w0
  | [true, false], w => w = w1
  | [true, true], w => w = w2
  | _, _ => False
theorem seqW2_one {w0 w1 w2 : World} {l : List Bool} {w : World} (h : seqW2 w0 w1 w2 l w) : w = w0 ∨ w = w1 ∨ w = w2 := by
  unfold seqW2 at h
  split at h <;> simp_all
theorem run_load_plog {w : World} {b o : Nat} {v : Value} (h : w.cell? ⟨b, o, none⟩ = some v) : (Instr.loadAt 38 (.pointer (some ⟨b, o, none⟩))).run Tryz.prog w = .ok v w := by
  simp [Instr.loadAt, go_sem, h]
theorem run_load_byteses {w : World} {b o : Nat} {v : Value} (h : w.cell? ⟨b, o, none⟩ = some v) : (Instr.loadAt 23 (.pointer (some ⟨b, o, none⟩))).run Tryz.prog w = .ok v w := by
  simp [Instr.loadAt, go_sem, h]
theorem run_load_pdisk {w : World} {b o : Nat} {v : Value} (h : w.cell? ⟨b, o, none⟩ = some v) : (Instr.loadAt 29 (.pointer (some ⟨b, o, none⟩))).run Tryz.prog w = .ok v w := by
  simp [Instr.loadAt, go_sem, h]
theorem run_load_bytes {w : World} {b o : Nat} {v : Value} (h : w.cell? ⟨b, o, none⟩ = some v) : (Instr.loadAt 22 (.pointer (some ⟨b, o, none⟩))).run Tryz.prog w = .ok v w := by
  simp [Instr.loadAt, go_sem, h]
theorem run_load_n {w : World} {b o : Nat} {v : Value} (h : w.cell? ⟨b, o, none⟩ = some v) : (Instr.loadAt 3 (.pointer (some ⟨b, o, none⟩))).run Tryz.prog w = .ok v w := by
  simp [Instr.loadAt, go_sem, h]
theorem run_load_str1 {w : World} {b o : Nat} {v : Value} (h : w.cell? ⟨b, o, none⟩ = some v) : (Instr.loadAt 9 (.pointer (some ⟨b, o, none⟩))).run Tryz.prog w = .ok v w := by
  simp [Instr.loadAt, go_sem, h]
/-- An operation on two values, behind the model's own guard. -/
def binW (op : BinOp) (t : TypeId) (x y : Operand) (a b : Value) : Sem Value := do eqGuard op t x y a b; binOp op t a b
section
variable {P : Program} (w : World) (t : TypeId) (p q : Operand) (a b : Int)
theorem run_addW (h : -9223372036854775808 ≤ a + b ∧ a + b ≤ 9223372036854775807) : (binW .add t p q (.int .i64 a) (.int .i64 b)).run P w = .ok (.int .i64 (a + b)) w := by
  have hg : (eqGuard .add t p q (.int .i64 a) (.int .i64 b)).run P w = .ok () w := rfl
  have h2 : (binOp .add t (.int .i64 a) (.int .i64 b)).run P w = .ok (.int .i64 (a + b)) w := by
    rw [binOp_add]
    show Result.ok (Value.int .i64 (IntKind.i64.wrap (a + b))) w = _
    rw [IntWalk.i64_in _ h]
  simp [binW, Sem.run_bind, hg, h2]
end
theorem run_build_funs (w : World) (f1 f2 f3 : Fn) (a1 a2 a3 c1 c2 c3 : Array Value) : (Instr.buildSlice 175 3 #[(0, .func f1 a1 c1), (1, .func f2 a2 c2), (2, .func f3 a3 c3)]).run Tryz.prog w = .ok (.slice (some ⟨w.heap.size, 0, none⟩) 3 3) (w.alloc (.cells #[.func f1 a1 c1, .func f2 a2 c2, .func f3 a3 c3] 91)) := by kernel_rfl
theorem run_build_none (w : World) : (Instr.buildSlice 22 0 #[]).run Tryz.prog w = .ok (.slice (some ⟨w.heap.size, 0, none⟩) 0 0) (w.alloc (.cells #[] 5)) := by kernel_rfl
theorem run_build_bytes (w : World) (B : Option Addr) (n D : Nat) : (Instr.buildSlice 23 1 #[(0, .slice B n D)]).run Tryz.prog w = .ok (.slice (some ⟨w.heap.size, 0, none⟩) 1 1) (w.alloc (.cells #[.slice B n D] 22)) := by kernel_rfl
/-- A record more. -/
theorem LMem.pushed {w0 w : World} {g dg : Nat} {L : LogS} {lf : Nat → Prop} {sA : Option Addr} {sC : Nat} {rA : Option Addr} {rC : Nat} {rblk : Option Nat} {qs : List (Option Addr × Nat)} (h : LMem w0 g dg L lf sA sC rA rC rblk qs) (hk : Kept (fun b => rblk = some b) w0 w) (p : Bs) {B9 B8 : Option Addr} {D9 D8 : Nat} {b8 : Option Nat}
    (hB : Bunch w 0 22 1 B8 (L.records.length + 1) D8 (List.zipWith recEl (L.records ++ [p]) (qs ++ [(B9, D9)])) b8) (hb8 : ∀ b, b8 = some b → rblk = some b ∨ w0.heap.size ≤ b) (hB9 : ∀ ad, B9 = some ad → w0.heap.size ≤ ad.block ∧ ad.block < w.heap.size) (hn : b8 = none → B8 = none) :
    LMem (w.setCell ⟨g, 3, none⟩ (.slice B8 (L.records.length + 1) D8)) g dg { L with records := L.records ++ [p] } (from_ lf w0.heap.size w.heap.size) sA sC B8 D8 b8 (qs ++ [(B9, D9)]) := by
  have hgl := in_heap h.row
  have hk3 : Kept (· = g) w (w.setCell ⟨g, 3, none⟩ (.slice B8 (L.records.length + 1) D8)) := (Kept.refl (· = g) w).setCell _ _ (.inl rfl)
  have hsz : (w.setCell ⟨g, 3, none⟩ (.slice B8 (L.records.length + 1) D8)).heap.size = w.heap.size := by simp [World.setCell]
  have hrow := hk.blk h.row (fun e => (h.rf _ e).2 rfl)
  have ne : ∀ {b}, rblk = some b ∨ w0.heap.size ≤ b → b ≠ g := fun hb => hb.elim (fun e => (h.rf _ e).2) fun e e2 => by omega
  have hll : (L.records ++ [p]).length = L.records.length + 1 := by simp
  refine ⟨?_, ?_, fun ad had => ⟨.inl (h.stf ad had).1, (h.stf ad had).2⟩, ?_, by have := h.qlen; simp; omega, fun b hb => ⟨?_, ne (hb8 b hb)⟩, hn, fun q hq ad had => ?_, .inl h.me, fun b hb => ?_, fun ad had e => ?_⟩
  · rw [setCell_one hrow]
    unfold logRow
    simp only [hll]
    rfl
  · exact (h.st.kept (F := fun b => rblk = some b) hk fun ad had _ => h.sr ad had).kept hk3 fun ad had _ => (h.stf ad had).2
  · simp only [hll]
    refine ⟨hB.row.kept hk3 fun b hb => ne (hb8 b hb), fun _ _ => Nat.zero_le _, fun x hx q hq => ?_⟩
    obtain ⟨h1, h2⟩ := hB.part x hx q hq
    refine ⟨h1.kept hk3 fun ad had _ => ?_, h2⟩
    obtain ⟨_, _, q3, hq3, rfl⟩ := zip_part hx
    obtain rfl := List.mem_singleton.1 (show q ∈ [(q3.1, q3.2, _)] from hq)
    rcases List.mem_append.1 hq3 with hq3 | hq3
    · exact (h.pf q3 hq3 ad had).2
    · obtain rfl := List.mem_singleton.1 hq3
      exact ne (.inr (hB9 ad had).1)
  · rcases hb8 b hb with e | e
    · exact .inl (h.rf b e).1
    · exact .inr ⟨e, hB.row.lt b hb⟩
  · rcases List.mem_append.1 hq with hq | hq
    · exact ⟨.inl (h.pf q hq ad had).1, (h.pf q hq ad had).2⟩
    · obtain rfl := List.mem_singleton.1 hq
      exact ⟨.inr (hB9 ad had), ne (.inr (hB9 ad had).1)⟩
  · rw [hsz]
    rcases hb with hb | hb
    · exact Nat.lt_of_lt_of_le (h.lt b hb) hk.size
    · exact hb.2
  · rcases hb8 _ e with h1 | h1
    · exact h.sr ad had h1
    · have := h.lt _ (h.stf ad had).1
      omega
end Go.Proofs.YtgpenpnobjecgaaGreatDoor

/- WSync -/
namespace Go.Proofs.YtgpenpnobjecgaaGreatDoor
set_option maxRecDepth 100000
open Go.RowKit Dk

/-- One cell is stored into a variable of one cell. -/
theorem wpList_store_fn {P : Program} {ops : Array Oper} {rest : List Oper} {o : Oper} {a : Act} {w : World} {Q : Exit → Act → World → Prop} (hgd : o.guard = none) (ty : TypeId) (x y : Operand) (ho : o.op = .store ty x y)
    (hd : o.dst = none) (g : Nat) (v : Value) (hx : a.eval x = .pointer (some ⟨g, 0, none⟩)) (hy : a.eval y = v) (h1 : v.oneCell' = true)
    (t : TypeId) (old : Value) (hg : w.heap[g]? = some (.cells #[old] t (0, 0))) (hi : (P.info? ty).map (·.size) = some 1)
    (h : ∀ w', w'.heap[g]? = some (.cells #[v] t (0, 0)) → Kept (· = g) w w' → wpList P ops Q rest a w') : wpList P ops Q (o :: rest) a w :=
  wpList_store_oneTo hgd ty x y ho hd g v hx hy h1 t old hg hi (h _ (setRow_heap _ _ _ _ _ _ hg) ((Kept.refl (· = g) w).setRow g _ (.inl rfl)))
section
variable {w0 w : World} {g dg : Nat} {d : DiskS} {recs : List Nat} {own : Nat → Option DTag} {L : LogS} {lf : Nat → Prop} {sA : Option Addr} {sC : Nat} {rA : Option Addr} {rC : Nat} {rblk : Option Nat} {qs : List (Option Addr × Nat)}
set_option maxRecDepth 100000 in
set_option maxHeartbeats 1000000 in
theorem sync1_any (hd : DAt w dg d recs own) (hO : Ok d) (hH : Home w0 w (foot own)) (M : LMem w g dg L lf sA sC rA rC rblk qs) {lb bb : Nat} (hlb : w.heap[lb]? = some (.cells #[ptrV g] 38 (0, 0))) (hbb : w.heap[bb]? = some (.cells #[.func (.func 63) #[ptrV dg] #[]] 118 (0, 0))) (hn : L.epoch < 9223372036854775808) :
    Calls Tryz.prog 85 #[ptrV bb, ptrV lb] w (DPost w dg own (Dk.sync d (nameW L.epoch))) := by
  have q1 : w.cell? ⟨g, 1, none⟩ = some (.int .i64 L.epoch) := cell_block M.row rfl
  have q2 : w.cell? ⟨lb, 0, none⟩ = some (ptrV g) := cell_block hlb rfl
  have q3 : w.cell? ⟨bb, 0, none⟩ = some (.func (.func 63) #[ptrV dg] #[]) := cell_block hbb rfl
  have hgl := in_heap M.row
  have hll := in_heap hlb
  have hbl := in_heap hbb
  have HNM := Lib.hid (fun W hW => wname_any L.epoch hn W (hH.tab.low (w' := W) hW))
  have HAP := Lib.hid (fun W (hW : RowKit.Below w.heap.size w W) => sync_any (hd.below hW) hO (nameW L.epoch) (by have := nameW_len L.epoch hn; unfold maxLen; omega))
  clear hd hO hH M hlb hbb
  unfold ptrV at *
  go_enter Tryz.func85, Tryz.ntmps85
  go_upto_region 1 with (fail)
  go_region_law (first
    | (go_simp; go_at_call 63; refine (HAP.out _ HB1.out).mono ?_; rintro e w2 ⟨rfl, h1⟩; have H2 := Lib.hid h1; clear h1)
    | (go_simp; go_at_call 64; refine (HNM.out _ ((Below.refl _ _).drew)).mono ?_; rintro e w1 ⟨rfl, h1⟩; have HB1 : Hid (RowKit.Below w.heap.size w w1) := Lib.hid (bthen ((Below.refl _ _).drew) h1); have q01 : w1.cell? ⟨bb, 0, none⟩ = some (.func (.func 63) #[.pointer (some ⟨dg, 0, none⟩)] #[]) := (HB1.out.cell (p := ⟨bb, 0, none⟩) hbl).trans q3; have q03 : w1.cell? ⟨lb, 0, none⟩ = some (.pointer (some ⟨g, 0, none⟩)) := (HB1.out.cell (p := ⟨lb, 0, none⟩) hll).trans q2; clear h1))
  all_goals
    go_wp2_with fail
    go_ret
    obtain ⟨h1, recs2, own2, h2, h3⟩ := H2.out
    exact ⟨rfl, h1, recs2, own2, h2, (Turned.below HB1.out).trans h3⟩
set_option maxRecDepth 100000 in
set_option maxHeartbeats 1000000 in
theorem wsync_any (hP : PairAt w g dg d L own lf) (hH : Home w0 w (both own lf)) : Calls Tryz.prog 42 #[ptrV g] w (PPost w g dg own lf (syncW d L)) := by
  have HP := Lib.hid hP
  have HH := Lib.hid hH
  obtain ⟨sA, sC, rA, rC, rblk, qs, M⟩ := hP.log
  have HM := Lib.hid M
  have hgl := in_heap M.row
  have q6 : w.cell? ⟨g, 6, none⟩ = some (.bool L.broken) := cell_block M.row rfl
  have q0 : w.cell? ⟨g, 0, none⟩ = some (ptrV dg) := cell_block M.row rfl
  clear hP hH M
  by_cases h2 : L.broken = true
  · have hr := Lib.hid (show syncW d L = ((d, L), 60) by unfold syncW; rw [if_pos h2])
    rw [h2] at q6
    clear h2
    unfold ptrV at *
    go_enter Tryz.func42, Tryz.ntmps42
    go_wp2
    go_ret
    rw [hr.out]
    exact ⟨rfl, own, lf, HP.out.below (low1 _ _), .below (low1 _ _)⟩
  · have h2f : L.broken = false := by simpa using h2
    rw [h2f] at q6
    have Hr := Lib.hid (show syncW d L = if (Dk.sync d (nameW L.epoch)).2 = 0 then (((Dk.sync d (nameW L.epoch)).1, L), 0) else (((Dk.sync d (nameW L.epoch)).1, L.broke), (Dk.sync d (nameW L.epoch)).2) by unfold syncW; rw [if_neg h2])
    have hmf : ∀ (fn : Fn) (first cap : Array Value) (w : World), (Instr.makeFunc fn first cap).run Tryz.prog w = .ok (.func fn first cap) w := fun _ _ _ _ => rfl
    clear h2 h2f
    unfold ptrV at *
    go_enter Tryz.func42, Tryz.ntmps42
    go_wp2_with (refine wpList_store_fn rfl _ _ _ rfl rfl (w.heap.size + 1) _ rfl rfl rfl _ _ (by simpa using blk1 (w.alloc (.cells #[.pointer (some ⟨g, 0, none⟩)] 38)) (.cells #[.nilFunc] 118)) (by kernel_rfl) ?_; intro w3 h1 h2; have hlk3 : w3.heap[w.heap.size]? = some (.cells #[ptrV g] 38 (0, 0)) := h2.blk (bblk (low1 _ _) (blk1 w (.cells #[.pointer (some ⟨g, 0, none⟩)] 38))) (by omega); have hB3 : Hid (RowKit.Below w.heap.size w w3) := Lib.hid (((Kept.of_below (bthen (low1 w (.cells #[.pointer (some ⟨g, 0, none⟩)] 38)) (low1 _ _))).then h2).below fun b hlt e => by omega); have cl3 : w3.cell? ⟨w.heap.size, 0, none⟩ = some (.pointer (some ⟨g, 0, none⟩)) := cell_block hlk3 rfl; have HLK3 := Lib.hid hlk3; have HBK3 := Lib.hid h1; clear h1 h2 hlk3)
    go_at_call 66
    have hlow6 := low1 w3 (.cells #[.func (.func 85) #[] #[.pointer (some ⟨w.heap.size + 1, 0, none⟩), .pointer (some ⟨w.heap.size, 0, none⟩)]] 91)
    have hc6 := blk1 w3 (.cells #[.func (.func 85) #[] #[.pointer (some ⟨w.heap.size + 1, 0, none⟩), .pointer (some ⟨w.heap.size, 0, none⟩)]] 91)
    have hfoot : ∀ b, foot own b → b < w.heap.size := by
      obtain ⟨recs, hd⟩ := HP.out.dat
      exact hd.lt
    have hnf : ∀ b, w.heap.size ≤ b → ¬ foot own b := fun b hb hf => by have := hfoot b hf; omega
    have hP3 := HP.out.below hB3.out
    have hdo := does_disk (hP3.below hlow6) [(85, #[], #[ptrV (w.heap.size + 1), ptrV w.heap.size])] (some ⟨w3.heap.size, 0, none⟩) 1 (CellsAt.of_block hc6) (fun ad had hf => by
        refine hnf _ ?_ hf
        rw [← Option.some.inj had]
        exact hB3.out.size) (fun i => if i = 0 then (d, 0) else Dk.sync d (nameW L.epoch)) rfl (fun i hi => by
        by_cases h0 : i = 0
        · subst h0; exact absurd rfl hi
        · simp [h0]) (fun i f wx hf hq hst => by
        have hi0 : i = 0 := by have := (List.getElem?_eq_some_iff.1 hf).1; simp at this; exact this
        subst hi0
        obtain rfl := Option.some.inj hf
        obtain ⟨hO, recs', own', hdx, htx⟩ := hst
        have hpx := (hP3.below hlow6).disk hdx hO htx
        obtain ⟨sA', sC', rA', rC', rblk', qs', Mx⟩ := hpx.log
        have hhx : Home w0 wx (foot own') := by
          have h1 : Home w0 w (foot own) := ⟨HH.out.tabs, HH.out.low, fun b hb => HH.out.foot b (.inl hb)⟩
          exact (h1.next (bthen hB3.out hlow6)).turned htx
        refine (sync1_any hdx hO hhx Mx (htx.kept.blk (bblk hlow6 HLK3.out) (hnf _ (Nat.le_refl _))) (htx.kept.blk (bblk hlow6 HBK3.out) (hnf _ (by omega))) (by have := HP.out.lok.epoch; omega)).mono ?_
        rintro e w' ⟨rfl, h1, recs2, own2, h2, h3⟩
        exact ⟨rfl, h1, recs2, own2, h2, htx.trans h3⟩) (fun f hf args w => by
        obtain rfl := List.mem_singleton.1 hf
        kernel_rfl) (by simp)
    refine hdo.mono ?_
    clear hdo
    rintro e w7 ⟨rfl, own7, hp7, ht7⟩
    simp only [List.length_singleton, Nat.one_ne_zero, if_false] at hp7 ⊢
    generalize Dk.sync d (nameW L.epoch) = r at hp7 Hr ⊢
    obtain ⟨d7, q⟩ := r
    simp only [] at hp7 Hr ⊢
    have HT7 := Lib.hid ((Turned.below (bthen hB3.out hlow6)).trans ht7)
    have HP7 := Lib.hid hp7
    clear hp7 ht7 hc6 hlow6 hfoot hnf hP3
    go_wp2_with fail
    go_ret
    rw [Hr.out]
    have hP7 := HP7.out
    by_cases hq : q = 0
    · subst hq
      rw [if_pos rfl] at hP7 ⊢
      exact ⟨rfl, own7, lf, hP7, HT7.out⟩
    · rw [if_neg hq] at hP7 ⊢
      exact ⟨rfl, own7, lf, hP7, HT7.out⟩
end
end Go.Proofs.YtgpenpnobjecgaaGreatDoor

/- WDefer -/
namespace Go.Proofs.YtgpenpnobjecgaaGreatDoor
set_option maxRecDepth 100000
open Go.RowKit Dk

section
variable {w : World} {eb lb : Nat} {x : Int} {q : Nat}
set_option maxRecDepth 100000 in
set_option maxHeartbeats 1000000 in
/-- wal.caught, when something was given up. -/
theorem caught_panic (he : w.heap[eb]? = some (.cells #[.int .i64 x] 30 (0, 0))) (older : List PanicEntry) :
    CallsD Tryz.prog 55 #[ptrV eb] (.panicking ({ v := stopV q, recovered := false } :: older)) w fun e u' w' =>
      e = .returned (.tuple #[]) ∧ u' = .panicking ({ v := stopV q, recovered := true } :: older) ∧ Kept (· = eb) w w' ∧ w'.heap[eb]? = some (.cells #[.int .i64 q] 30 (0, 0)) := by
  have hc : w.cell? ⟨eb, 0, none⟩ = some (.int .i64 x) := cell_block he rfl
  have hf := frozen_row he
  have hl := in_heap he
  have hta : ∀ (v : Value) (w : World), (Instr.typeAssert (.iface 156 v) 20 156 true).run Tryz.prog w = .ok (.tuple #[v, .bool true]) w := fun v w => by kernel_rfl
  unfold ptrV stopV
  refine callsD_of_wpS Tryz.func55 rfl fun c₀ cs hu => ?_
  apply wpS_seq
  apply wpS_region
  simp only [Tryz.ntmps55, List.size_toArray, List.length_cons, List.length_nil, Nat.reduceAdd, Nat.reduceSub, Array.replicate_succ, Array.replicate_zero, List.push_toArray, List.append_toArray, List.nil_append, List.cons_append]
  simp [wpOpsS, go_sem, recoverD, hu, Exit.thenS]
  refine wpS_of_wp ?_
  clear hu
  go_wp2
  unfold bodyPostS
  have hk : Kept (· = eb) w (w.setCell ⟨eb, 0, none⟩ (.int .i64 q)) := (Kept.refl (· = eb) w).setCell _ _ (.inl rfl)
  have h2 : (w.setCell ⟨eb, 0, none⟩ (.int .i64 q)).heap[eb]? = some (.cells #[.int .i64 q] 30 (0, 0)) := by rw [setCell_one he]; rfl
  exact ⟨rfl, _, rfl, .tuple #[], results_none rfl _ _ _, rfl, rfl, hk.alloc _, (Kept.of_below (F := fun _ => False) (low1 _ _)).blk h2 id⟩
set_option maxRecDepth 100000 in
theorem caught_idle (eb : Nat) (w : World) :
    CallsD Tryz.prog 55 #[ptrV eb] .returning w fun e u' w' => e = .returned (.tuple #[]) ∧ u' = .returning ∧ w' = w := by
  unfold ptrV
  refine callsD_of_wpS Tryz.func55 rfl fun c₀ cs hu => ?_
  apply wpS_seq
  apply wpS_region
  simp only [Tryz.ntmps55, List.size_toArray, List.length_cons, List.length_nil, Nat.reduceAdd, Nat.reduceSub, Array.replicate_succ, Array.replicate_zero, List.push_toArray, List.append_toArray, List.nil_append, List.cons_append]
  simp [wpOpsS, go_sem, recoverD, hu, Exit.thenS]
  refine wpS_of_wp ?_
  go_wp2
  cases c₀
  simp_all [bodyPostS, results, Tryz.results55]
set_option maxRecDepth 100000 in
/-- The other one: where an error is told the log is not. -/
theorem open1_err (he : w.heap[eb]? = some (.cells #[.int .i64 x] 30 (0, 0))) {v : Value} (hl : w.heap[lb]? = some (.cells #[v] 38 (0, 0))) (hx : ¬ x = 0) :
    CallsD Tryz.prog 54 #[ptrV eb, ptrV lb] .returning w fun e u' w' => u' = .returning ∧ e = .returned (.tuple #[]) ∧ w' = w.setCell ⟨lb, 0, none⟩ (.pointer none) := by
  have hc : w.cell? ⟨eb, 0, none⟩ = some (.int .i64 x) := cell_block he rfl
  have hc2 : w.cell? ⟨lb, 0, none⟩ = some v := cell_block hl rfl
  have hf := frozen_row hl
  have hlt := in_heap hl
  unfold ptrV
  go_enter_d Tryz.func54, Tryz.ntmps54
  go_wp2
  go_end0
  exact ⟨rfl, rfl⟩
set_option maxRecDepth 100000 in
theorem open1_ok (he : w.heap[eb]? = some (.cells #[.int .i64 0] 30 (0, 0))) :
    CallsD Tryz.prog 54 #[ptrV eb, ptrV lb] .returning w fun e u' w' => u' = .returning ∧ e = .returned (.tuple #[]) ∧ w' = w := by
  have hc : w.cell? ⟨eb, 0, none⟩ = some (.int .i64 0) := cell_block he rfl
  unfold ptrV
  go_enter_d Tryz.func54, Tryz.ntmps54
  go_wp2
  go_end0
  exact ⟨rfl, rfl⟩
end
end Go.Proofs.YtgpenpnobjecgaaGreatDoor
