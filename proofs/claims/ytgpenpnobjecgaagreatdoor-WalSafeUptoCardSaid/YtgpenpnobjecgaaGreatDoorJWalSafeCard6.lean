/- A map of names to numbers in memory, read as a rising list. -/
import Derived.Lib.Hide
import Derived.Maps.OwnSet
import Derived.Maps.OwnOps
import Derived.WalkKit
import Derived.Maps.Views
import Derived.Test.YtgpenpnobjecgaaGreatDoorJWalSafeCard4
/- Keep -/
namespace Go.Proofs.YtgpenpnobjecgaaGreatDoor
set_option maxRecDepth 100000
open Go.RowKit

/-- All blocks but those of F are as they were; none has gone. -/
structure Kept (F : Nat → Prop) (w w' : World) : Prop where
  os : w'.os = w.os
  tape : w'.tape = w.tape
  output : w'.output = w.output
  size : w.heap.size ≤ w'.heap.size
  block : ∀ k, k < w.heap.size → ¬ F k → w'.heap[k]? = w.heap[k]?

section
variable {F G : Nat → Prop} {w w1 w2 w' : World}
theorem Kept.refl (F : Nat → Prop) (w : World) : Kept F w w := ⟨rfl, rfl, rfl, Nat.le_refl _, fun _ _ _ => rfl⟩
theorem Kept.trans (h : Kept F w w1) (h2 : Kept G w1 w2) (hG : ∀ b, G b → F b ∨ w.heap.size ≤ b) : Kept F w w2 :=
  ⟨h2.os.trans h.os, h2.tape.trans h.tape, h2.output.trans h.output, Nat.le_trans h.size h2.size, fun k hk hF => (h2.block k (Nat.lt_of_lt_of_le hk h.size) fun hg => (hG k hg).elim hF fun hs => by omega).trans (h.block k hk hF)⟩
theorem Kept.then (h : Kept F w w1) (h2 : Kept F w1 w2) : Kept F w w2 := h.trans h2 fun _ => .inl
theorem Kept.mono (h : Kept F w w1) (hF : ∀ b, b < w.heap.size → F b → G b) : Kept G w w1 := ⟨h.os, h.tape, h.output, h.size, fun k hk hG => h.block k hk fun hf => hG (hF k hk hf)⟩
theorem Kept.of_below (h : Below w.heap.size w w1) : Kept F w w1 := ⟨h.os, h.tape, h.output, h.size, fun k hk _ => h.block k hk⟩
theorem Kept.below (h : Kept F w w1) (hF : ∀ b, b < w.heap.size → ¬ F b) : Below w.heap.size w w1 := ⟨h.os, h.tape, h.output, h.size, fun k hk => h.block k hk (hF k hk)⟩
theorem Kept.low (h : Kept F w w1) (h2 : Below w1.heap.size w1 w2) : Kept F w w2 := h.then (.of_below h2)
theorem Kept.drew (h : Kept F w w1) : Kept F w w1.drew := h.low ((Below.refl _ _).drew)
theorem Kept.alloc (h : Kept F w w1) (o : Obj) : Kept F w (w1.alloc o) := h.low (low1 _ _)
theorem Kept.setCell (h : Kept F w w1) (a : Addr) (v : Value) (hF : F a.block ∨ w.heap.size ≤ a.block) : Kept F w (w1.setCell a v) :=
  h.trans (G := fun b => b = a.block) ⟨rfl, rfl, rfl, by simp [World.setCell], fun k _ hk => Below.heap_setCell _ _ _ _ hk⟩ fun b hb => by subst hb; exact hF
theorem Kept.setRow (h : Kept F w w1) (g : Nat) (cs : Array Value) (hF : F g ∨ w.heap.size ≤ g) : Kept F w (w1.setRow g cs) :=
  h.trans (G := fun b => b = g) ⟨rfl, rfl, rfl, by simp, fun k _ hk => setRow_other _ _ _ _ hk⟩ fun b hb => by subst hb; exact hF
theorem Kept.grown {row : Option Nat} (h : Kept F w w1) (h2 : w1.grownBy w2 row) (hF : ∀ k, row = some k → F k ∨ w.heap.size ≤ k) : Kept F w w2 :=
  h.trans (G := fun b => row = some b) ⟨h2.os, h2.tape, h2.output, h2.size, fun k hk hn => h2.block k hk fun e => hn e.symm⟩ hF
theorem Kept.blk (h : Kept F w w1) {b : Nat} {o : Obj} (hb : w.heap[b]? = some o) (hF : ¬ F b) : w1.heap[b]? = some o := (h.block b (in_heap hb) hF).trans hb
theorem Kept.cell (h : Kept F w w1) {a : Addr} {v : Value} (hc : w.cell? a = some v) (hF : ¬ F a.block) : w1.cell? a = some v :=
  (World.cell?_of_block (h.block a.block (World.block_lt_of_cell? w a hc) hF)).trans hc
theorem Kept.owns (h : Kept F w w1) {base : Nat} {e : TypeId} {size : Nat} {v : Value} {n : Nat} {xs : List Value} (ho : w.ownsRow base e size v n xs) (hF : ∀ b, v.ownBlock = some b → ¬ F b) : w1.ownsRow base e size v n xs := by
  refine ⟨ho.1, ?_⟩
  rcases ho.2 with hn | ⟨g, cap, cur, rfl, hb, hg, rest⟩
  · exact .inl hn
  · exact .inr ⟨g, cap, cur, rfl, hb, h.blk hg (hF g rfl), rest⟩
theorem Kept.map {P : Program} {k : TypeId} {R : Value → Option (DataW Unit × List MemPlace)} {b n : Nat} {D : DataW Unit} (h : Kept F w w1) (ho : w.ownsMap P k R b n D) (hF : ¬ F b) : w1.ownsMap P k R b n D := by
  obtain ⟨es, clock, hb, rest⟩ := ho
  exact ⟨es, clock, h.blk hb hF, rest⟩
theorem Src.kept {a : Option Addr} {c : Nat} {l : List UInt8} (h : Src w a c l) (hk : Kept F w w1) (hF : ∀ ad, a = some ad → 0 < l.length → ¬ F ad.block) : Src w1 a c l :=
  ⟨⟨fun h0 => by
    obtain ⟨b, o, ha, hc⟩ := h.at_.at_ h0
    exact ⟨b, o, ha, fun j hj => hk.cell (hc j hj) (show ¬ F b from hF _ ha h0)⟩⟩, h.cap, h.nil, fun ad had => by obtain ⟨b, o, e, hlt⟩ := h.plain ad had; exact ⟨b, o, e, Nat.lt_of_lt_of_le hlt hk.size⟩⟩
end
theorem below_drewN (w : World) (n : Nat) : Below w.heap.size w (w.drewN n) := ⟨rfl, rfl, rfl, Nat.le_refl _, fun _ _ => rfl⟩
/-- A cell of a row written: the row. -/
theorem setCell_row {w : World} {g k : Nat} {cs : Array Value} {t : TypeId} {fr : Nat × Nat} (h : w.heap[g]? = some (.cells cs t fr)) (v : Value) : w.setCell ⟨g, k, none⟩ v = w.setRow g (cs.setIfInBounds k v) := by
  have hlt : g < w.heap.size := in_heap h
  have hv : w.heap[g] = .cells cs t fr := (Array.getElem?_eq_some_iff.1 h).2
  unfold World.setCell World.setRow
  have : ∀ f f' : Obj → Obj, f (.cells cs t fr) = f' (.cells cs t fr) → w.heap.modify g f = w.heap.modify g f' := fun f f' e => by
    apply Array.ext_getElem?
    intro i
    rw [Array.getElem?_modify, Array.getElem?_modify]
    by_cases hi : g = i
    · subst hi
      simp [h, e]
    · simp [hi]
  refine congrArg (fun hp : Array Obj => ({ heap := hp, tape := w.tape, drawn := w.drawn, os := w.os, output := w.output } : World)) (this _ _ ?_)
  simp
end Go.Proofs.YtgpenpnobjecgaaGreatDoor

/- DiskM -/
namespace Go.Proofs.YtgpenpnobjecgaaGreatDoor
set_option maxRecDepth 100000
namespace Dk

abbrev Bs := List UInt8
structure FileS where
  b : Bs
  synced : Nat
structure Chg where
  frm : Bs
  to : Bs
  file : Nat
abbrev Dir := List (Bs × Nat)
structure DiskS where
  room : Nat
  files : List FileS
  dir : Dir
  safe : Dir
  chg : List Chg
  ops : Nat
  armed : Nat
  dead : Bool

def dget (l : Dir) (s : Bs) : Option Nat := (l.find? fun p => p.1 == s).map (·.2)
def ddel (l : Dir) (s : Bs) : Dir := l.filter fun p => !(p.1 == s)
def dins (x : Bs × Nat) : Dir → Dir
  | [] => [x]
  | y :: r => if bytesBefore x.1 y.1 then x :: y :: r else y :: dins x r
def dput (l : Dir) (s : Bs) (i : Nat) : Dir := dins (s, i) (ddel l s)
def fileAt (fs : List FileS) (i : Nat) : FileS := fs.getD i ⟨[], 0⟩
def usedIn (fs : List FileS) (l : Dir) : Nat := (l.map fun p => (fileAt fs p.2).b.length).sum
def DiskS.used (d : DiskS) : Nat := usedIn d.files d.dir
def turn (l : Dir) (c : Chg) : Dir :=
  let l1 := if c.frm = [] then l else ddel l c.frm
  if c.to = [] then l1 else dput l1 c.to c.file
def nameByte (c : UInt8) : Bool := 97 ≤ c.toNat && c.toNat ≤ 122 || 48 ≤ c.toNat && c.toNat ≤ 57 || c.toNat == 46 || c.toNat == 45 || c.toNat == 95
def named (s : Bs) : Bool := s.all nameByte && decide (1 ≤ s.length) && decide (s.length ≤ 32)

/-- An operation that nothing refuses. -/
def op (d : DiskS) (f : DiskS → DiskS) : DiskS × Nat :=
  if d.armed = 1 then ({ d with armed := 0, dead := true }, 51) else (f { d with armed := d.armed - 1, ops := d.ops + 1 }, 0)
def note (d : DiskS) (c : Chg) : DiskS := { d with dir := turn d.dir c, chg := d.chg ++ [c] }
def syncF (f : FileS) : FileS := { f with synced := f.b.length }
def appF (p : Bs) (f : FileS) : FileS := { f with b := f.b ++ p }
def create (d : DiskS) (s : Bs) : DiskS × Nat :=
  if d.dead then (d, 51) else if !named s then (d, 50) else if (dget d.dir s).isSome then (d, 8) else if 64 ≤ d.dir.length ∨ 1048576 ≤ d.ops then (d, 5)
  else op d fun d => note { d with files := d.files ++ [⟨[], 0⟩] } ⟨[], s, d.files.length⟩
def append (d : DiskS) (s p : Bs) : DiskS × Nat :=
  if d.dead then (d, 51) else match dget d.dir s with
  | none => (d, 7)
  | some i => if 4194304 < (fileAt d.files i).b.length + p.length ∨ d.room - d.used < p.length ∨ 1048576 ≤ d.ops then (d, 5)
    else op d fun d => { d with files := d.files.modify i (appF p) }
def sync (d : DiskS) (s : Bs) : DiskS × Nat :=
  if d.dead then (d, 51) else match dget d.dir s with
  | none => (d, 7)
  | some i => if 1048576 ≤ d.ops then (d, 5) else op d fun d => { d with files := d.files.modify i syncF }
def rename (d : DiskS) (s t : Bs) : DiskS × Nat :=
  if d.dead then (d, 51) else match dget d.dir s with
  | none => (d, 7)
  | some i => if !named t then (d, 50) else if 1048576 ≤ d.ops then (d, 5) else op d fun d => if s = t then d else note d ⟨s, t, i⟩
def remove (d : DiskS) (s : Bs) : DiskS × Nat :=
  if d.dead then (d, 51) else match dget d.dir s with
  | none => (d, 7)
  | some _ => if 1048576 ≤ d.ops then (d, 5) else op d fun d => note d ⟨s, [], 0⟩
def syncDir (d : DiskS) : DiskS × Nat :=
  if d.dead then (d, 51) else if 1048576 ≤ d.ops then (d, 5) else op d fun d => { d with safe := d.dir, chg := [] }
def read (d : DiskS) (s : Bs) : Bs × Nat :=
  if d.dead then ([], 51) else match dget d.dir s with
  | none => ([], 7)
  | some i => ((fileAt d.files i).b, 0)
def list (d : DiskS) : List Bs := if d.dead then [] else d.dir.map (·.1)
def free (d : DiskS) : Nat := if d.dead then 0 else d.room - d.used
def arm (d : DiskS) (n : Int) : DiskS := if d.dead then d else { d with armed := n.toNat }
def leftDir (d : DiskS) (c : Int) : Dir := (d.chg.take c.toNat).foldl turn d.safe
def leftFile (d : DiskS) (tails : List Int) (i : Nat) : Bs :=
  let f := fileAt d.files i
  f.b.take (f.synced + (if h : i < tails.length then min tails[i].toNat (f.b.length - f.synced) else 0))
def left (d : DiskS) (c : Int) (tails : List Int) : List (Bs × Bs) := (leftDir d c).map fun p => (p.1, leftFile d tails p.2)

def newFrom (room : Nat) : List (Bs × Bs) → DiskS → DiskS × Nat
  | [], d => (d, 0)
  | (s, b) :: r, d => if !named s then (d, 50) else if (dget d.dir s).isSome then (d, 34) else if 4194304 < b.length then (d, 1)
    else newFrom room r { d with dir := dput d.dir s d.files.length, files := d.files ++ [⟨b, b.length⟩] }
def empty (room : Nat) : DiskS := ⟨room, [], [], [], [], 0, 0, false⟩
/-- A disk with these files, all synced; the error's number. -/
def new (fs : List (Bs × Bs)) (room : Int) : Option DiskS × Nat :=
  if room < 0 then (none, 2) else if 64 < fs.length then (none, 32) else
  match newFrom room.toNat fs (empty room.toNat) with
  | (d, 0) => if d.room < d.used then (none, 5) else (some { d with safe := d.dir }, 0)
  | (_, e + 1) => (none, e + 1)

/-! ### directories -/
def Rising (l : Dir) : Prop := l.Pairwise fun p q => bytesBefore p.1 q.1 = true
theorem dget_none {l : Dir} {s : Bs} : dget l s = none ↔ ∀ p ∈ l, p.1 ≠ s := by
  simp [dget]
theorem dget_mem {l : Dir} {s : Bs} {i : Nat} (h : dget l s = some i) : (s, i) ∈ l := by
  unfold dget at h
  obtain ⟨p, hp, rfl⟩ := Option.map_eq_some_iff.1 h
  have h1 := List.find?_some hp
  have h2 := List.mem_of_find?_eq_some hp
  have : p.1 = s := by simpa using h1
  rw [← this]; exact h2
theorem mem_dins {x y : Bs × Nat} : ∀ {l : Dir}, y ∈ dins x l ↔ y = x ∨ y ∈ l
  | [] => by simp [dins]
  | z :: r => by
    unfold dins
    split
    · simp
    · simp [mem_dins (l := r)]
      constructor
      · rintro (h | h | h) <;> simp [h]
      · rintro (h | h | h) <;> simp [h]
theorem mem_ddel {l : Dir} {s : Bs} {y : Bs × Nat} : y ∈ ddel l s ↔ y ∈ l ∧ y.1 ≠ s := by simp [ddel]
theorem mem_dput {l : Dir} {s : Bs} {i : Nat} {y : Bs × Nat} : y ∈ dput l s i ↔ y = (s, i) ∨ (y ∈ l ∧ y.1 ≠ s) := by
  unfold dput
  rw [mem_dins, mem_ddel]
theorem length_dins (x : Bs × Nat) : ∀ l : Dir, (dins x l).length = l.length + 1
  | [] => rfl
  | y :: r => by
    unfold dins
    split <;> simp [length_dins x r]
theorem perm_dins (x : Bs × Nat) : ∀ l : Dir, (dins x l).Perm (x :: l)
  | [] => .refl _
  | y :: r => by
    unfold dins
    split
    · exact .refl _
    · exact ((perm_dins x r).cons y).trans (.swap ..)
theorem length_ddel_le (l : Dir) (s : Bs) : (ddel l s).length ≤ l.length := List.length_filter_le _ _
theorem before_irrefl (a : Bs) : bytesBefore a a = false := WideAt.bytes_irrefl a
theorem before_trans {a b c : Bs} (h1 : bytesBefore a b = true) (h2 : bytesBefore b c = true) : bytesBefore a c = true :=
  WideShapes.before_trans (a := .string a) (b := .string b) (c := .string c) h1 h2
theorem before_total : ∀ (a b : Bs), a ≠ b → bytesBefore a b = true ∨ bytesBefore b a = true
  | [], [], h => absurd rfl h
  | [], _ :: _, _ => .inl rfl
  | _ :: _, [], _ => .inr rfl
  | x :: a, y :: b, h => by
    unfold bytesBefore
    by_cases e : x = y
    · subst e
      rcases before_total a b (fun e => h (by rw [e])) with h1 | h1 <;> simp [h1]
    · have : x < y ∨ y < x := by
        rcases Nat.lt_or_gt_of_ne (fun hn => e (UInt8.toNat_inj.1 hn)) with h1 | h1
        · exact .inl h1
        · exact .inr h1
      rcases this with h1 | h1 <;> simp [h1]
theorem rising_dins {x : Bs × Nat} : ∀ {l : Dir}, Rising l → (∀ p ∈ l, p.1 ≠ x.1) → Rising (dins x l)
  | [], _, _ => by simp [dins, Rising]
  | y :: r, h, hne => by
    obtain ⟨h1, h2⟩ := List.pairwise_cons.1 h
    unfold dins
    split
    · rename_i hb
      refine List.pairwise_cons.2 ⟨fun q hq => ?_, h⟩
      rcases List.mem_cons.1 hq with rfl | hq
      · exact hb
      · exact before_trans hb (h1 q hq)
    · rename_i hb
      have hyx : bytesBefore y.1 x.1 = true := by
        rcases before_total y.1 x.1 (hne y (by simp)) with h' | h'
        · exact h'
        · exact absurd h' hb
      refine List.pairwise_cons.2 ⟨fun q hq => ?_, rising_dins h2 (fun p hp => hne p (by simp [hp]))⟩
      rcases mem_dins.1 hq with rfl | hq
      · exact hyx
      · exact h1 q hq
theorem rising_ddel {l : Dir} (h : Rising l) (s : Bs) : Rising (ddel l s) := h.filter _
theorem rising_dput {l : Dir} (h : Rising l) (s : Bs) (i : Nat) : Rising (dput l s i) := rising_dins (rising_ddel h s) fun _ hp => (mem_ddel.1 hp).2
theorem rising_turn {l : Dir} (h : Rising l) (c : Chg) : Rising (turn l c) := by
  unfold turn
  simp only
  split <;> split
  · exact h
  · exact rising_ddel h _
  · exact rising_dput h _ _
  · exact rising_dput (rising_ddel h _) _ _
theorem mem_turn {l : Dir} {c : Chg} {y : Bs × Nat} (h : y ∈ turn l c) : y ∈ l ∨ (c.to ≠ [] ∧ y = (c.to, c.file)) := by
  unfold turn at h
  simp only at h
  split at h <;> split at h
  · exact .inl h
  · exact .inl (mem_ddel.1 h).1
  · rename_i h2 _
    rcases mem_dput.1 h with h | h
    · exact .inr ⟨h2, h⟩
    · exact .inl h.1
  · rename_i h2 _
    rcases mem_dput.1 h with h | h
    · exact .inr ⟨h2, h⟩
    · exact .inl (mem_ddel.1 h.1).1
theorem dget_of_mem {l : Dir} (h : Rising l) {s : Bs} {i : Nat} (hm : (s, i) ∈ l) : dget l s = some i := by
  cases hg : dget l s with
  | none => exact absurd rfl (dget_none.1 hg _ hm)
  | some j =>
    have hj := dget_mem hg
    by_cases e : i = j
    · rw [e]
    · exfalso
      have hne : ((s, i) : Bs × Nat) ≠ (s, j) := fun h => e (Prod.mk.inj h).2
      have key : ∀ {l : Dir}, Rising l → (s, i) ∈ l → (s, j) ∈ l → False := fun {l} => by
        induction l with
        | nil => intro _ h1; cases h1
        | cons y r ih =>
          intro hr h1 h2
          obtain ⟨a1, a2⟩ := List.pairwise_cons.1 hr
          rcases List.mem_cons.1 h1 with h1 | h1
          · rcases List.mem_cons.1 h2 with h2 | h2
            · exact hne (h1.trans h2.symm)
            · have := a1 _ h2; rw [← h1] at this; simp [before_irrefl] at this
          · rcases List.mem_cons.1 h2 with h2 | h2
            · have := a1 _ h1; rw [← h2] at this; simp [before_irrefl] at this
            · exact ih a2 h1 h2
      exact key h hm hj

/-! ### how much is used -/
def lenAt (fs : List FileS) (l : Dir) (s : Bs) : Nat := match dget l s with
  | some i => (fileAt fs i).b.length
  | none => 0
theorem usedIn_cons (fs : List FileS) (x : Bs × Nat) (l : Dir) : usedIn fs (x :: l) = (fileAt fs x.2).b.length + usedIn fs l := by simp [usedIn]
theorem usedIn_dins (fs : List FileS) (x : Bs × Nat) : ∀ l : Dir, usedIn fs (dins x l) = (fileAt fs x.2).b.length + usedIn fs l
  | [] => usedIn_cons fs x []
  | y :: r => by
    unfold dins
    split
    · exact usedIn_cons fs x _
    · rw [usedIn_cons, usedIn_cons, usedIn_dins fs x r]; omega
theorem ddel_none {l : Dir} {s : Bs} (h : dget l s = none) : ddel l s = l := by
  unfold ddel
  rw [List.filter_eq_self]
  intro p hp
  simpa using dget_none.1 h p hp
theorem dget_cons (y : Bs × Nat) (l : Dir) (s : Bs) : dget (y :: l) s = if y.1 = s then some y.2 else dget l s := by
  unfold dget
  rw [List.find?_cons]
  by_cases h : y.1 = s
  · simp [h]
  · have : (y.1 == s) = false := by simpa using h
    simp [this, h]
theorem ddel_cons (y : Bs × Nat) (l : Dir) (s : Bs) : ddel (y :: l) s = if y.1 = s then ddel l s else y :: ddel l s := by
  unfold ddel
  rw [List.filter_cons]
  by_cases h : y.1 = s <;> simp [h]
theorem usedIn_ddel (fs : List FileS) (s : Bs) : ∀ {l : Dir}, Rising l → usedIn fs (ddel l s) + lenAt fs l s = usedIn fs l
  | [], _ => rfl
  | y :: r, h => by
    obtain ⟨h1, h2⟩ := List.pairwise_cons.1 h
    have ih := usedIn_ddel fs s h2
    unfold lenAt at ih ⊢
    rw [dget_cons, ddel_cons]
    by_cases e : y.1 = s
    · rw [if_pos e, if_pos e, usedIn_cons]
      have hn : dget r s = none := dget_none.2 fun p hp e2 => by
        have := h1 p hp
        rw [e, e2] at this
        simp [before_irrefl] at this
      rw [ddel_none hn]
      dsimp only
      omega
    · rw [if_neg e, if_neg e, usedIn_cons, usedIn_cons]
      omega
theorem dget_ddel_other {l : Dir} {s t : Bs} (h : s ≠ t) : dget (ddel l s) t = dget l t := by
  induction l with
  | nil => rfl
  | cons y r ih =>
    rw [ddel_cons, dget_cons]
    by_cases e : y.1 = s
    · rw [if_pos e, ih, if_neg (fun e2 => h (e.symm.trans e2))]
    · rw [if_neg e, dget_cons, ih]
theorem usedIn_turn (fs : List FileS) {l : Dir} {c : Chg} (h : Rising l) (hne : c.frm ≠ c.to) (h0 : dget l [] = none) :
    usedIn fs (turn l c) + (lenAt fs l c.frm + lenAt fs l c.to) = usedIn fs l + (if c.to = [] then 0 else (fileAt fs c.file).b.length) := by
  have z : ∀ s, s = [] → lenAt fs l s = 0 := fun s e => by rw [e]; unfold lenAt; rw [h0]
  unfold turn
  simp only
  by_cases e1 : c.frm = [] <;> by_cases e2 : c.to = []
  · exact absurd (e1.trans e2.symm) hne
  · rw [if_pos e1, if_neg e2, if_neg e2, z _ e1]
    unfold dput
    rw [usedIn_dins]
    have := usedIn_ddel fs c.to h
    simp only
    omega
  · rw [if_neg e1, if_pos e2, if_pos e2, z _ e2]
    have := usedIn_ddel fs c.frm h
    omega
  · rw [if_neg e1, if_neg e2, if_neg e2]
    unfold dput
    rw [usedIn_dins]
    have a1 := usedIn_ddel fs c.frm h
    have a2 := usedIn_ddel fs c.to (rising_ddel h c.frm)
    have a3 : lenAt fs (ddel l c.frm) c.to = lenAt fs l c.to := by unfold lenAt; rw [dget_ddel_other hne]
    simp only
    omega
theorem usedIn_two (fs : List FileS) {l : Dir} {s t : Bs} (h : Rising l) (hne : s ≠ t) : lenAt fs l s + lenAt fs l t ≤ usedIn fs l := by
  have a1 := usedIn_ddel fs s h
  have a2 := usedIn_ddel fs t (rising_ddel h s)
  have a3 : lenAt fs (ddel l s) t = lenAt fs l t := by unfold lenAt; rw [dget_ddel_other hne]
  omega
theorem length_turn_le (l : Dir) (c : Chg) : (turn l c).length ≤ l.length + 1 := by
  unfold turn dput
  simp only
  have h1 := length_ddel_le l c.frm
  have h2 := length_ddel_le (ddel l c.frm) c.to
  have h3 := length_ddel_le l c.to
  split <;> split <;> (try rw [length_dins]) <;> omega
end Dk
end Go.Proofs.YtgpenpnobjecgaaGreatDoor

/- Dirs -/
namespace Go.Proofs.YtgpenpnobjecgaaGreatDoor
set_option maxRecDepth 100000
open Go.RowKit Go.Maps Go.ChangeShapes Go.WideMaps Dk

/-- Bytes as a string. -/
def strV (l : Bs) : Value := .string ⟨l.toArray⟩
def dirE (p : Bs × Nat) : Lit × DataW Unit := (.string p.1, .lit (.int .i64 p.2))
def dirD (l : Dir) : DataW Unit := .map (l.map dirE)
/-- Block b is a map that reads as l. -/
def DirAt (w : World) (b : Nat) (l : Dir) : Prop := w.ownsMap Tryz.prog 9 (plainElem Tryz.prog 3) b l.length (dirD l)

theorem dirD_size (l : Dir) : Maps.size (dirD l) = l.length := by simp [dirD, Maps.size]
theorem insert_dirE (x : Bs × Nat) : ∀ l : Dir, DataW.insert (dirE x) (l.map dirE) = (dins x l).map dirE
  | [] => rfl
  | y :: r => by
    unfold dins
    simp only [List.map_cons, DataW.insert]
    show (if bytesBefore x.1 y.1 = true then _ else _) = _
    split
    · rfl
    · rw [insert_dirE x r]; rfl
theorem filter_dirE (s : Bs) (l : Dir) : (l.map dirE).filter (fun p => !p.1.sameKey (.string s)) = (ddel l s).map dirE := by
  rw [List.filter_map]
  rfl
theorem dirD_put (l : Dir) (s : Bs) (i : Nat) : (dirD l).put (.string s) (.lit (.int .i64 i)) = dirD (dput l s i) := by
  show DataW.map (DataW.insert (dirE (s, i)) ((l.map dirE).filter _)) = _
  rw [filter_dirE, insert_dirE]
  rfl
theorem dirD_del (l : Dir) (s : Bs) : (dirD l).del (.string s) = dirD (ddel l s) := by
  show DataW.map ((l.map dirE).filter _) = _
  rw [filter_dirE]
  rfl
theorem find_dirE (s : Bs) (l : Dir) : (l.map dirE).find? (fun p => p.1.sameKey (.string s)) = (l.find? fun p => p.1 == s).map dirE := by
  rw [List.find?_map]
  rfl
theorem dirD_at (l : Dir) (s : Bs) : (dirD l).atKey (.string s) (.lit (.int .i64 0)) = .lit (.int .i64 ((dget l s).getD 0 : Nat)) := by
  unfold DataW.atKey dirD
  simp only [find_dirE]
  unfold dget
  cases l.find? (fun p => p.1 == s) <;> rfl
theorem dirD_has (l : Dir) (s : Bs) : Maps.has (dirD l) (.string s) = (dget l s).isSome := by
  show (l.map dirE).any (fun p => p.1.sameKey (.string s)) = _
  unfold dget
  rw [Option.isSome_map, Bool.eq_iff_iff, List.find?_isSome]
  simp [dirE, Lit.sameKey]

theorem key_law : Keyed Tryz.prog 9 := string_keyed Tryz.underlying9
theorem zero_int (w : World) : (zeroValue 3).run Tryz.prog w = .ok (.int .i64 0) w := by kernel_rfl
theorem key_str {s : Bs} (h : s.length ≤ maxLen) : keyOf Tryz.prog 9 (strV s) = some (.string s) := keyOf_string_mk Tryz.underlying9 (s := ⟨s.toArray⟩) (by simpa [ByteArray.size] using h)
theorem wf_nat {n : Nat} (h : n ≤ 9223372036854775807) : (Lit.int .i64 (n : Int)).wf = true := WalkArith.wf_i64 ⟨by omega, by omega⟩

section
variable {w w' : World} {b : Nat} {l : Dir} {s : Bs}
theorem DirAt.of {n : Nat} (h : w.ownsMap Tryz.prog 9 (plainElem Tryz.prog 3) b n (dirD l)) : DirAt w b l := by
  obtain ⟨es, clock, hb, F, hs, hD⟩ := h
  refine ⟨es, clock, hb, F, ?_, hD⟩
  have := congrArg Maps.size hD
  rw [dirD_size] at this
  simp [Maps.size, length_sorted] at this
  omega
theorem DirAt.made (w : World) : DirAt (w.alloc (.map #[] 0)) w.heap.size [] := World.ownsMap_made _ _ _ _
theorem DirAt.lt (h : DirAt w b l) : b < w.heap.size := World.ownsMap.lt h
theorem DirAt.kept {F : Nat → Prop} (h : DirAt w b l) (hk : Kept F w w') (hF : ¬ F b) : DirAt w' b l := hk.map h hF
theorem DirAt.below (h : DirAt w b l) (hb : Below w.heap.size w w') : DirAt w' b l := h.kept (Kept.of_below (F := fun _ => False) hb) id
theorem DirAt.look (h : DirAt w b l) (hs : s.length ≤ maxLen) : (Instr.lookup 99 (.map (some b)) (strV s) false).run Tryz.prog w = .ok (.int .i64 ((dget l s).getD 0 : Nat)) w := by
  obtain ⟨c, hrun, hat, _⟩ := World.ownsMap.lookup_int h key_law Tryz.underlying99 Tryz.underlying3 (zero_int w) (key_str hs)
  rw [dirD_at] at hat
  rw [hrun]
  injection hat with hat
  injection hat with _ hat
  rw [hat]
theorem DirAt.look2 (h : DirAt w b l) (hs : s.length ≤ maxLen) : (Instr.lookup 99 (.map (some b)) (strV s) true).run Tryz.prog w = .ok (.tuple #[.int .i64 ((dget l s).getD 0 : Nat), .bool (dget l s).isSome]) w := by
  obtain ⟨v, ps, hrun, hv⟩ := World.ownsMap.look_ok h key_law Tryz.underlying99 (zero_int w) (plainElem_int Tryz.underlying3 (by decide)) (key_str hs)
  obtain ⟨c, rfl, hc, _⟩ := plainElem_int_inv Tryz.underlying3 hv
  rw [dirD_at] at hc
  rw [hrun, dirD_has]
  simp only [Prod.mk.injEq] at hc
  obtain ⟨hc, _⟩ := hc
  injection hc with hc
  injection hc with _ hc
  rw [hc]
theorem DirAt.put (h : DirAt w b l) (hs : s.length ≤ maxLen) (hl : l.length < maxLen) (i : Nat) (hi : i ≤ 9223372036854775807) :
    ∃ w', (Instr.mapUpdate 99 (.map (some b)) (strV s) (.int .i64 i)).run Tryz.prog w = .ok () w' ∧ DirAt w' b (dput l s i) ∧ w.grownBy w' (some b) := by
  obtain ⟨w', hrun, ho, hg⟩ := World.ownsMap.update h key_law Tryz.underlying99 hl (key_str hs) (plainElem_int Tryz.underlying3 (wf_nat hi))
  rw [dirD_put] at ho
  exact ⟨w', hrun, .of ho, hg⟩
theorem DirAt.del (h : DirAt w b l) (hs : s.length ≤ maxLen) (ty : TypeId) :
    ∃ w', (Builtin.delete_ #[99, 9] ty #[.map (some b), strV s]).run Tryz.prog w = .ok (.tuple #[]) w' ∧ DirAt w' b (ddel l s) ∧ w.grownBy w' (some b) := by
  obtain ⟨w', hrun, ho, hg⟩ := World.ownsMap.drop h key_law Tryz.underlying99 (key_str hs) ty
  rw [dirD_del] at ho
  exact ⟨w', hrun, .of ho, hg.grown⟩
theorem DirAt.len (h : DirAt w b l) (ty : TypeId) : (Builtin.len_ #[99] ty #[.map (some b)]).run Tryz.prog w = .ok (.int .i64 l.length) w := by
  have := World.ownsMap.len h Tryz.underlying99 ty
  rw [dirD_size] at this
  exact this
end
end Go.Proofs.YtgpenpnobjecgaaGreatDoor
