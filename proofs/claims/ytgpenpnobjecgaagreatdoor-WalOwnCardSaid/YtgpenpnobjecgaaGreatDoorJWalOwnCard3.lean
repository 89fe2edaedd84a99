/- Package wicketref02's turn of a block: the same register as the program's. -/
import Derived.Laws.AppendOwnNone
import Derived.Maps.AppendAt
import Derived.Deep.RegionWith
import Derived.Test.YtgpenpnobjecgaaGreatDoorJWalOwnCard2
/- Tabs -/
namespace Go.Proofs.YtgpenpnobjecgaaGreatDoor
set_option maxRecDepth 100000
open Go.RowKit

def rootsCells : Array Value := ((List.range 64).map fun t => V32 (Sha.root t)).toArray
/-- A slice of n bytes at a reads as l. -/
structure BytesAt (w : World) (a : Option Addr) (l : List UInt8) : Prop where
  at_ : 0 < l.length → ∃ b o, a = some ⟨b, o, none⟩ ∧ ∀ j, j < l.length → w.cell? ⟨b, o + j, none⟩ = some (byteF l j)
theorem BytesAt.nil (w : World) (a : Option Addr) : BytesAt w a [] := ⟨fun h => absurd h (by simp)⟩
theorem BytesAt.below {w w' : World} {a : Option Addr} {l : List UInt8} (h : BytesAt w a l) (hb : Below w.heap.size w w') : BytesAt w' a l :=
  ⟨fun h0 => by
    obtain ⟨b, o, ha, hc⟩ := h.at_ h0
    exact ⟨b, o, ha, fun j hj => (hb.cell (p := ⟨b, o + j, none⟩) (World.block_lt_of_cell? w _ (hc j hj))).trans (hc j hj)⟩⟩
theorem BytesAt.grown {w w' : World} {a : Option Addr} {l : List UInt8} {k : Nat} (h : BytesAt w a l) (hg : w.grownBy w' (some k)) (hk : ∀ ad, a = some ad → ad.block ≠ k) : BytesAt w' a l :=
  ⟨fun h0 => by
    obtain ⟨b, o, ha, hc⟩ := h.at_ h0
    refine ⟨b, o, ha, fun j hj => ?_⟩
    have hlt := World.block_lt_of_cell? w _ (hc j hj)
    have hne : some b ≠ some k := fun e => hk _ ha (Option.some.inj e)
    rw [World.cell?_of_block (w := w) (hg.block b hlt hne)]
    exact hc j hj⟩
/-- The same slice without its first k bytes, as Go cuts it. -/
theorem BytesAt.drop {w : World} {a : Option Addr} {l : List UInt8} {C : Nat} (h : BytesAt w a l) (hC : l.length ≤ C) (k : Nat) (hk : k ≤ l.length) :
    BytesAt w (if C = k then a else a.map (·.add k)) (l.drop k) :=
  ⟨fun h0 => by
    simp only [List.length_drop] at h0
    obtain ⟨b, o, ha, hc⟩ := h.at_ (by omega)
    refine ⟨b, o + k, ?_, fun j hj => ?_⟩
    · rw [if_neg (by omega), ha]
      simp [Addr.add_lit]
    · simp only [List.length_drop] at hj
      rw [Nat.add_assoc, hc (k + j) (by omega)]
      simp [byteF, List.getD, List.getElem?_drop]⟩
theorem cell_block {w : World} {b j : Nat} {cs : Array Value} {t : TypeId} {fr : Nat × Nat} {v : Value} (h : w.heap[b]? = some (.cells cs t fr)) (hv : cs[j]? = some v) : w.cell? ⟨b, j, none⟩ = some v := by
  rw [cell_of_row _ _ _ _ _ _ h, hv]
theorem Arr.grown {w w' : World} {b n k : Nat} {f : Nat → Value} (h : Arr w b n f) (hg : w.grownBy w' (some k)) (hb : b ≠ k) : Arr w' b n f := by
  have hs := h.size
  obtain ⟨cs, t, hh, r⟩ := h
  exact ⟨cs, t, by rw [hg.block b hs (fun e => hb (Option.some.inj e))]; exact hh, r⟩
theorem grownBy_below {w w1 : World} (h : Below w.heap.size w w1) (row : Option Nat) : w.grownBy w1 row := ⟨h.os, h.tape, h.output, h.size, fun i hi _ => h.block i hi⟩
theorem grownBy_trans {a b c : World} {k : Nat} (h : a.grownBy b (some k)) (h' : b.grownBy c (some k)) : a.grownBy c (some k) :=
  ⟨h'.os.trans h.os, h'.tape.trans h.tape, h'.output.trans h.output, Nat.le_trans h.size h'.size, fun i hi hne => (h'.block i (Nat.lt_of_lt_of_le hi h.size) hne).trans (h.block i hi hne)⟩
theorem grownBy_setCell (w : World) (b i : Nat) (v : Value) : w.grownBy (w.setCell ⟨b, i, none⟩ v) (some b) :=
  ⟨rfl, rfl, rfl, by simp, fun k _ hne => Below.heap_setCell _ _ _ _ fun e => hne (congrArg some e)⟩
theorem grownBy_drew (w : World) (row : Option Nat) : w.grownBy w.drew row := ⟨rfl, rfl, rfl, Nat.le_refl _, fun _ _ _ => rfl⟩
theorem grownBy_setRow (w : World) (b : Nat) (cs : Array Value) : w.grownBy (w.setRow b cs) (some b) :=
  ⟨rfl, rfl, rfl, by simp, fun k _ hne => setRow_other _ _ _ _ fun e => hne (congrArg some e)⟩
end Go.Proofs.YtgpenpnobjecgaaGreatDoor

/- Acc -/
namespace Go.Proofs.YtgpenpnobjecgaaGreatDoor
set_option maxRecDepth 100000
open Go.RowKit

/-- The cells from address a on are cs (no cell: nothing is said). -/
structure CellsAt (w : World) (a : Option Addr) (cs : List Value) : Prop where
  at_ : 0 < cs.length → ∃ b o, a = some ⟨b, o, none⟩ ∧ ∀ j v, cs[j]? = some v → w.cell? ⟨b, o + j, none⟩ = some v
theorem BytesAt.cells {w : World} {a : Option Addr} {l : List UInt8} (h : BytesAt w a l) : CellsAt w a (l.map V8) :=
  ⟨fun h0 => by
    obtain ⟨b, o, ha, hc⟩ := h.at_ (by simpa using h0)
    refine ⟨b, o, ha, fun j v hv => ?_⟩
    have hj : j < l.length := by
      have := (List.getElem?_eq_some_iff.1 hv).1
      simpa using this
    rw [hc j hj, ← hv]
    simp [byteF, List.getD, List.getElem?_eq_getElem hj]⟩
theorem CellsAt.bytes {w : World} {a : Option Addr} {l : List UInt8} (h : CellsAt w a (l.map V8)) : BytesAt w a l :=
  ⟨fun h0 => by
    obtain ⟨b, o, ha, hc⟩ := h.at_ (by simpa using h0)
    exact ⟨b, o, ha, fun j hj => hc j _ (by simp [byteF, List.getD, List.getElem?_eq_getElem hj])⟩⟩
theorem CellsAt.below {w w' : World} {a : Option Addr} {l : List Value} (h : CellsAt w a l) (hb : Below w.heap.size w w') : CellsAt w' a l :=
  ⟨fun h0 => by
    obtain ⟨b, o, ha, hc⟩ := h.at_ h0
    exact ⟨b, o, ha, fun j v hj => (hb.cell (p := ⟨b, o + j, none⟩) (World.block_lt_of_cell? w _ (hc j v hj))).trans (hc j v hj)⟩⟩

/-- The call owns a row: n elements of type e, size cells each, in memory from block base on; below base nothing has turned since w0. -/
structure Acc (e size : Nat) (w0 w : World) (base : Nat) (A : Option Addr) (C n : Nat) (cs : List Value) : Prop where
  own : w.ownsRow base e size (.slice A n C) n cs
  low : Below base w0 w
  base_le : base ≤ w.heap.size

section
variable {e size : Nat} {w0 w w' : World} {base : Nat} {A : Option Addr} {C n : Nat} {cs : List Value}
theorem Acc.length (h : Acc e size w0 w base A C n cs) : cs.length = n * size := h.own.1
theorem Acc.form (h : Acc e size w0 w base A C n cs) : (A = none ∧ n = 0 ∧ C = 0) ∨ ∃ g cur, A = some ⟨g, 0, none⟩ ∧ base ≤ g ∧ g < w.heap.size ∧ w.heap[g]? = some (.cells cur e (0, 0)) ∧ n ≤ C ∧ C ≤ maxLen ∧ cur.size = C * size ∧ cur.toList.take (n * size) = cs := by
  rcases h.own.2 with ⟨hv, h0⟩ | ⟨g, cap, cur, hv, hb, hh, h1, h2, h3, h4⟩
  · injection hv with h1 _ h3
    exact .inl ⟨h1, h0, h3⟩
  · injection hv with h5 _ h7
    subst h7
    exact .inr ⟨g, cur, h5, hb, (Array.getElem?_eq_some_iff.1 hh).1, hh, h1, h2, h3, h4⟩
theorem Acc.cap (h : Acc e size w0 w base A C n cs) : n ≤ C := by
  rcases h.form with ⟨_, h0, _⟩ | ⟨_, _, _, _, _, _, h1, _⟩ <;> omega
theorem Acc.nil (h : Acc e size w0 w base A C n cs) (hA : A = none) : C = 0 := by
  rcases h.form with ⟨_, _, h0⟩ | ⟨g, _, hg, _⟩
  · exact h0
  · rw [hA] at hg; cases hg
theorem Acc.block (h : Acc e size w0 w base A C n cs) (ad : Addr) (hA : A = some ad) : base ≤ ad.block ∧ ad.block < w.heap.size := by
  rcases h.form with ⟨hn, _⟩ | ⟨g, _, hg, hb, hs, _⟩
  · rw [hA] at hn; cases hn
  · rw [hA] at hg
    obtain rfl := Option.some.inj hg
    exact ⟨hb, hs⟩
theorem Acc.at_ (h : Acc e size w0 w base A C n cs) : CellsAt w A cs :=
  ⟨fun h0 => by
    rcases h.form with ⟨_, hn, _⟩ | ⟨g, cur, hg, hb, hs, hh, h1, h2, h3, h4⟩
    · have := h.length
      rw [hn] at this
      omega
    · refine ⟨g, 0, hg, fun j v hj => ?_⟩
      rw [cell_of_row _ _ _ _ _ _ hh, Nat.zero_add]
      rw [← h4, List.getElem?_take] at hj
      split at hj
      · simpa using hj
      · cases hj⟩
theorem Acc.alloc (h : Acc e size w0 w base A C n cs) (o : Obj) : Acc e size w0 (w.alloc o) base A C n cs :=
  ⟨h.own.alloc o, h.low.alloc h.base_le o, by have := h.base_le; simp; omega⟩
theorem Acc.drew (h : Acc e size w0 w base A C n cs) : Acc e size w0 w.drew base A C n cs := ⟨h.own, h.low.drew, h.base_le⟩
theorem Acc.below (h : Acc e size w0 w base A C n cs) (hb : Below w.heap.size w w') : Acc e size w0 w' base A C n cs := by
  refine ⟨h.own.kept (grownBy_below hb none) ?_, h.low.trans (hb.mono h.base_le), Nat.le_trans h.base_le hb.size⟩
  cases A <;> simp [Value.ownBlock]
/-- Another row of the call's own is written. -/
theorem Acc.other (h : Acc e size w0 w base A C n cs) {k : Nat} (hg : w.grownBy w' (some k)) (hk : base ≤ k) (hne : ∀ ad, A = some ad → ad.block ≠ k) : Acc e size w0 w' base A C n cs := by
  refine ⟨h.own.kept hg ?_, h.low.grown hg h.base_le (fun j hj => by obtain rfl := Option.some.inj hj; exact hk), Nat.le_trans h.base_le hg.size⟩
  cases A with
  | none => exact .inl rfl
  | some ad => exact .inr fun e => hne ad rfl (Option.some.inj e)
theorem Acc.start (w : World) (base e size : Nat) (w0 : World) (hb : Below base w0 w) (hl : base ≤ w.heap.size) : Acc e size w0 w base none 0 0 [] := ⟨World.ownsRow_nil w base e size, hb, hl⟩
/-- A literal. -/
theorem Acc.lit (w : World) (base : Nat) (w0 : World) (cs : Array Value) (n : Nat) (hb : Below base w0 w) (hl : base ≤ w.heap.size) (hm : n ≤ maxLen) (hs : cs.size = n * size) :
    Acc e size w0 (w.alloc (.cells cs e)) base (some ⟨w.heap.size, 0, none⟩) n n cs.toList :=
  ⟨World.ownsRow_lit w cs n hl hm hs, hb.alloc hl _, by simp; omega⟩
/-- An element is written. -/
theorem Acc.set (h : Acc e size w0 w base A C n cs) (ad : Addr) (hA : A = some ad) (j : Nat) (u : Value) : Acc e size w0 (w.setCell ⟨ad.block, j, none⟩ u) base A C n (cs.set j u) ∧ w.grownBy (w.setCell ⟨ad.block, j, none⟩ u) (some ad.block) := by
  rcases h.form with ⟨hn, _⟩ | ⟨g, cur, hg, hb, _⟩
  · rw [hA] at hn; cases hn
  · rw [hA] at hg
    obtain rfl := Option.some.inj hg
    subst hA
    have h2 := h.own.stored j u
    exact ⟨⟨h2.1, h.low.setCell hb u, by simpa using h.base_le⟩, h2.2⟩
theorem Acc.frozen (h : Acc e size w0 w base A C n cs) (ad : Addr) (hA : A = some ad) (j : Nat) : w.frozen? ⟨ad.block, j, none⟩ = false := by
  rcases h.form with ⟨hn, _⟩ | ⟨g, cur, hg, hb, _⟩
  · rw [hA] at hn; cases hn
  · rw [hA] at hg
    obtain rfl := Option.some.inj hg
    subst hA
    exact h.own.frozenAt j
end

section
variable {P : Program} {ops : Array Oper} {rest : List Oper} {o : Oper} {a : Act} {w : World} {Q : Exit → Act → World → Prop}
/-- 'append(s, x...)': the row's n elements and the m that x has. -/
theorem wpList_acc (hgd : o.guard = none) (s x : Operand) (t : TypeId) (ho : o.op = .call { callee := .builtin .append, args := #[s, x], argTypes := #[t, t] })
    (e size bytes : Nat) (z : Value) (ht : P.underlying t = some (.slice e)) (hinfo : (P.info? e).map (fun i => (i.zero, i.size, i.bytes)) = some (some z, size, bytes)) (hzs : z.cells.size = size) (hsz : 0 < size)
    (w0 : World) (base : Nat) (A : Option Addr) (C n : Nat) (cs : List Value) (hs : a.eval s = .slice A n C) (H : Acc e size w0 w base A C n cs)
    (A' : Option Addr) (m c : Nat) (news : List Value) (hx : a.eval x = .slice A' m c) (hl : news.length = m * size) (hsrc : CellsAt w A' news) (hnil : A' = none → c = 0) (hod : ∀ ad, A' = some ad → ∃ b o, ad = ⟨b, o, none⟩) (h1 : ∀ u ∈ news, u.oneCell' = true)
    (h63 : n + m ≤ maxLen) (hbytes : (n + m) * bytes ≤ 140737488355328)
    (h : ∀ B D w', Acc e size w0 w' base B D (n + m) (cs ++ news) → w.grownBy w' (A.map (·.block)) → (∀ ad, B = some ad → A = some ad ∨ w.heap.size ≤ ad.block) → wpList P ops Q rest (a.put o.dst (.slice B (n + m) D)) w') : wpList P ops Q (o :: rest) a w := by
  obtain ⟨i, hi, hz, hsize, hby⟩ := info_parts hinfo
  have hown : Value.ownBlock (.slice A n C) = A.map (·.block) := by cases A <;> rfl
  cases A' with
  | none =>
    obtain rfl := hnil rfl
    have hm : m = 0 := by
      rcases Nat.eq_zero_or_pos m with h0 | h0
      · exact h0
      · have : 0 < news.length := by rw [hl]; exact Nat.mul_pos h0 hsz
        obtain ⟨b, o', hb, _⟩ := hsrc.at_ this
        cases hb
    subst hm
    obtain rfl : news = [] := List.eq_nil_of_length_eq_zero (by simpa using hl)
    refine wpList_append_own_none hgd s x t ho base e i size ht hi (.slice A n C) n cs hs H.own hx ?_
    exact h A C w (by simpa using H) (World.grownBy.refl _ _) fun ad had => .inl had
  | some ad =>
    obtain ⟨b, o', rfl⟩ := hod ad rfl
    refine wpList_append_own_at w hgd s x t ho base e i z size bytes ht hi hz hsize hby hzs hsz (.slice A n C) n cs hs H.own ⟨b, o', none⟩ m c news hx hl ?_ h1 h63 hbytes H.base_le ?_
    · intro j u hu
      have hj : 0 < news.length := by have := (List.getElem?_eq_some_iff.1 hu).1; omega
      obtain ⟨b', o'', hb, hc⟩ := hsrc.at_ hj
      simp only [Option.some.injEq, Addr.mk.injEq, and_true] at hb
      obtain ⟨rfl, rfl⟩ := hb
      rw [Addr.add_lit]
      exact hc j u hu
    · intro v' w' hown' hg _ hblk
      rw [hown] at hg hblk
      have hlow : Below base w0 w' := H.low.grown hg H.base_le (fun k hk => by
        cases A with
        | none => cases hk
        | some ad => obtain rfl := Option.some.inj hk; exact (H.block ad rfl).1)
      have hle : base ≤ w'.heap.size := Nat.le_trans H.base_le hg.size
      have key : ∃ B D, v' = .slice B (n + m) D ∧ (v'.ownBlock = B.map (·.block)) ∧ ∀ ad, B = some ad → ad.off = 0 ∧ ad.spot = none := by
        rcases hown'.2 with ⟨rfl, h0⟩ | ⟨g, cap, cur, rfl, _⟩
        · exact ⟨none, 0, by rw [h0], rfl, fun ad had => by cases had⟩
        · exact ⟨_, cap, rfl, rfl, fun ad had => by obtain rfl := Option.some.inj had; exact ⟨rfl, rfl⟩⟩
      obtain ⟨B, D, rfl, hB, hz0⟩ := key
      refine h B D w' ⟨hown', hlow, hle⟩ hg fun ad had => ?_
      obtain rfl := had
      rw [hB] at hblk
      rcases hblk with hblk | hblk
      · cases A with
        | none => cases hblk
        | some ad' =>
          left
          have hb' : ad.block = ad'.block := Option.some.inj hblk
          obtain ⟨z1, z2⟩ := hz0 ad rfl
          rcases H.form with ⟨hn, _⟩ | ⟨g, _, hg', _⟩
          · cases hn
          · obtain rfl := Option.some.inj hg'
            cases ad
            simp_all
      · right
        have : ad.block = w.heap.size := Option.some.inj hblk
        omega
/-- 'append(s, u)': one element of one cell, which lies in a box that was made for it. -/
theorem wpList_acc1 {W : World} (hgd : o.guard = none) (s x : Operand) (t : TypeId) (ho : o.op = .call { callee := .builtin .append, args := #[s, x], argTypes := #[t, t] })
    (e bytes : Nat) (z : Value) (ht : P.underlying t = some (.slice e)) (hinfo : (P.info? e).map (fun i => (i.zero, i.size, i.bytes)) = some (some z, 1, bytes)) (hzs : z.cells.size = 1)
    (w0 : World) (base : Nat) (A : Option Addr) (C n : Nat) (cs : List Value) (u : Value) (hs : a.eval s = .slice A n C) (H : Acc e 1 w0 W base A C n cs)
    (hx : a.eval x = .slice (some ⟨W.heap.size, 0, none⟩) 1 1) (h1 : u.oneCell' = true) (h63 : n + 1 ≤ maxLen) (hbytes : (n + 1) * bytes ≤ 140737488355328)
    (h : ∀ B D w', Acc e 1 w0 w' base B D (n + 1) (cs ++ [u]) → W.grownBy w' (A.map (·.block)) → (∀ ad, B = some ad → A = some ad ∨ W.heap.size ≤ ad.block) → wpList P ops Q rest (a.put o.dst (.slice B (n + 1) D)) w') :
    wpList P ops Q (o :: rest) a (W.alloc (.cells #[u] e)) := by
  refine wpList_acc hgd s x t ho e 1 bytes z ht hinfo hzs (by omega) w0 base A C n cs hs (H.alloc _) (some ⟨W.heap.size, 0, none⟩) 1 1 [u] hx rfl ⟨fun _ => ⟨W.heap.size, 0, rfl, fun j v hv => ?_⟩⟩ (fun h => by cases h) (fun ad h => ⟨_, _, (Option.some.inj h).symm⟩) (by simpa using h1) h63 hbytes ?_
  · have hj : j = 0 := by
      have := (List.getElem?_eq_some_iff.1 hv).1
      simp at this
      exact this
    subst hj
    rw [cell_of_row _ _ _ _ _ _ (heap_alloc_new _ _)]
    simpa using hv
  · intro B D w' hacc hg hnew
    refine h B D w' hacc (World.grownBy.trans (World.grownBy_alloc W _ _) hg) fun ad had => ?_
    rcases hnew ad had with h' | h'
    · exact .inl h'
    · right
      simp at h'
      omega
/-- A whole row is stored; of the new world this is known. -/
theorem wpList_store_row' (hgd : o.guard = none) (ty : TypeId) (x y : Operand) (ho : o.op = .store ty x y)
    (g : Nat) (cells : Array Value) (hx : a.eval x = .pointer (some ⟨g, 0, none⟩)) (hy : a.eval y = .agg cells)
    (t : TypeId) (old : Array Value) (hg : w.heap[g]? = some (.cells old t (0, 0))) (hi : (P.info? ty).map (·.size) = some cells.size)
    (hold : old.size = cells.size) (h1 : cells.all (·.oneCell') = true)
    (h : ∀ w', w'.heap[g]? = some (.cells cells t (0, 0)) → w.grownBy w' (some g) → w'.heap.size = w.heap.size → wpList P ops Q rest (a.put o.dst undef) w') : wpList P ops Q (o :: rest) a w :=
  wpList_store_row hgd ty x y ho g cells hx hy t old hg hi hold h1 (h _ (setRow_heap _ _ _ _ _ _ hg) (grownBy_setRow _ _ _) (by simp))
end
end Go.Proofs.YtgpenpnobjecgaaGreatDoor

/- Rturn -/
namespace Go.Proofs.YtgpenpnobjecgaaGreatDoor
set_option maxRecDepth 100000
open Go.RowKit

section
variable (t : TypeId) (a b : BitVec 32) (n : Int)
theorem mul_mod_mod (x y M : Int) : x * (y % M) % M = x * y % M := by
  rw [Int.mul_emod, Int.emod_emod_of_dvd _ (Int.dvd_refl M), ← Int.mul_emod]
@[go_sem] theorem mul_V32 : binOp .mul t (V32 a) (.int .u32 n) = pure (V32 (a * BitVec.ofInt 32 n)) := by
  simp only [V32, binOp_mul, Op.intArith]
  have h : IntKind.u32.wrap ((a.toNat : Int) * n) = ((a * BitVec.ofInt 32 n : BitVec 32).toNat : Int) := by
    rw [IntKind.wrap_u32, BitVec.toNat_mul, BitVec.toNat_ofInt]
    have h2 : (((n % ((2 ^ 32 : Nat) : Int)).toNat : Nat) : Int) = n % 4294967296 := by
      rw [Int.toNat_of_nonneg (Int.emod_nonneg _ (by decide))]
      rfl
    rw [Int.natCast_emod, Int.natCast_mul, h2]
    exact (mul_mod_mod _ _ _).symm
  rw [h]
end

/-- A word made byte by byte. -/
def part (b : Nat → UInt8) : Nat → BitVec 32
  | 0 => 0
  | k + 1 => part b k * 256#32 + (b k).toBitVec.setWidth 32
theorem or4 (a b c d : Nat) (hb : b < 256) (hc : c < 256) (hd : d < 256) : a <<< 24 ||| b <<< 16 ||| c <<< 8 ||| d = a * 16777216 + b * 65536 + c * 256 + d := by
  rw [Nat.or_assoc, Nat.or_assoc]
  rw [← Nat.shiftLeft_add_eq_or_of_lt (show d < 2 ^ 8 by omega) c]
  rw [← Nat.shiftLeft_add_eq_or_of_lt (show c <<< 8 + d < 2 ^ 16 by simp only [Nat.shiftLeft_eq]; omega) b]
  rw [← Nat.shiftLeft_add_eq_or_of_lt (show b <<< 16 + (c <<< 8 + d) < 2 ^ 24 by simp only [Nat.shiftLeft_eq]; omega) a]
  simp only [Nat.shiftLeft_eq]
  omega
theorem part_word (b : Nat → UInt8) : part b 4 = Sha.word (b 0) (b 1) (b 2) (b 3) := by
  apply BitVec.eq_of_toNat_eq
  have h0 := (b 0).toNat_lt
  have h1 := (b 1).toNat_lt
  have h2 := (b 2).toNat_lt
  have h3 := (b 3).toNat_lt
  have hs : ∀ (x : UInt8) (i : Nat), x.toNat * 2 ^ i < 2 ^ 32 → (x.toBitVec.setWidth 32 <<< i).toNat = x.toNat <<< i := by
    intro x i hx
    have := x.toNat_lt
    rw [BitVec.toNat_shiftLeft, BitVec.toNat_setWidth, UInt8.toNat_toBitVec, Nat.mod_eq_of_lt (show x.toNat < 2 ^ 32 by omega), Nat.mod_eq_of_lt (by rw [Nat.shiftLeft_eq]; exact hx)]
  have hw : ∀ (x : UInt8), (x.toBitVec.setWidth 32 : BitVec 32).toNat = x.toNat := by
    intro x
    have := x.toNat_lt
    rw [BitVec.toNat_setWidth, UInt8.toNat_toBitVec, Nat.mod_eq_of_lt (by omega)]
  have e256 : (256#32 : BitVec 32).toNat = 256 := by decide
  unfold Sha.word
  rw [BitVec.toNat_or, BitVec.toNat_or, BitVec.toNat_or, hs _ 24 (by omega), hs _ 16 (by omega), hs _ 8 (by omega), hw, or4 _ _ _ _ h1 h2 h3]
  simp only [part, BitVec.toNat_add, BitVec.toNat_mul, e256, hw]
  simp
  omega
end Go.Proofs.YtgpenpnobjecgaaGreatDoor
