/- Package wicketref02: Begin, eight, words, blocks, Total, Sum. -/
import Derived.Laws.AppendOwnNone
import Derived.Maps.AppendAt
import Derived.Deep.RegionWith
import Derived.Deep.RegionHeld3
import Derived.Test.YtgpenpnobjecgaaGreatDoorJWalSafeCard2
/- Acc -/
namespace Go.Proofs.YtgpenpnobjecgaaGreatDoor
set_option maxRecDepth 100000
open Go.RowKit

/-- The cells from address a on are cs (no cell: nothing is said). -/
structure CellsAt (w : World) (a : Option Addr) (cs : List Value) : Prop where
  at_ : 0 < cs.length → ∃ b o, a = some ⟨b, o, none⟩ ∧ ∀ j v, cs[j]? = some v → w.cell? ⟨b, o + j, none⟩ = some v
theorem BytesAt.cells {w : World} {a : Option Addr} {l : List UInt8} (h : BytesAt w a l) : CellsAt w a (l.map V8) :=
  ⟨fun h0 => by
    obtain ⟨b, o, ha, hc⟩ := h.at_ (by simpa using h0)
    refine ⟨b, o, ha, fun j v hv => ?_⟩
    have hj : j < l.length := by
      have := (List.getElem?_eq_some_iff.1 hv).1
      simpa using this
    rw [hc j hj, ← hv]
    simp [byteF, List.getD, List.getElem?_eq_getElem hj]⟩
theorem CellsAt.bytes {w : World} {a : Option Addr} {l : List UInt8} (h : CellsAt w a (l.map V8)) : BytesAt w a l :=
  ⟨fun h0 => by
    obtain ⟨b, o, ha, hc⟩ := h.at_ (by simpa using h0)
    exact ⟨b, o, ha, fun j hj => hc j _ (by simp [byteF, List.getD, List.getElem?_eq_getElem hj])⟩⟩
theorem CellsAt.below {w w' : World} {a : Option Addr} {l : List Value} (h : CellsAt w a l) (hb : Below w.heap.size w w') : CellsAt w' a l :=
  ⟨fun h0 => by
    obtain ⟨b, o, ha, hc⟩ := h.at_ h0
    exact ⟨b, o, ha, fun j v hj => (hb.cell (p := ⟨b, o + j, none⟩) (World.block_lt_of_cell? w _ (hc j v hj))).trans (hc j v hj)⟩⟩

/-- The call owns a row: n elements of type e, size cells each, in memory from block base on; below base nothing has turned since w0. -/
structure Acc (e size : Nat) (w0 w : World) (base : Nat) (A : Option Addr) (C n : Nat) (cs : List Value) : Prop where
  own : w.ownsRow base e size (.slice A n C) n cs
  low : Below base w0 w
  base_le : base ≤ w.heap.size

section
variable {e size : Nat} {w0 w w' : World} {base : Nat} {A : Option Addr} {C n : Nat} {cs : List Value}
theorem Acc.length (h : Acc e size w0 w base A C n cs) : cs.length = n * size := h.own.1
theorem Acc.form (h : Acc e size w0 w base A C n cs) : (A = none ∧ n = 0 ∧ C = 0) ∨ ∃ g cur, A = some ⟨g, 0, none⟩ ∧ base ≤ g ∧ g < w.heap.size ∧ w.heap[g]? = some (.cells cur e (0, 0)) ∧ n ≤ C ∧ C ≤ maxLen ∧ cur.size = C * size ∧ cur.toList.take (n * size) = cs := by
  rcases h.own.2 with ⟨hv, h0⟩ | ⟨g, cap, cur, hv, hb, hh, h1, h2, h3, h4⟩
  · injection hv with h1 _ h3
    exact .inl ⟨h1, h0, h3⟩
  · injection hv with h5 _ h7
    subst h7
    exact .inr ⟨g, cur, h5, hb, (Array.getElem?_eq_some_iff.1 hh).1, hh, h1, h2, h3, h4⟩
theorem Acc.cap (h : Acc e size w0 w base A C n cs) : n ≤ C := by
  rcases h.form with ⟨_, h0, _⟩ | ⟨_, _, _, _, _, _, h1, _⟩ <;> omega
theorem Acc.nil (h : Acc e size w0 w base A C n cs) (hA : A = none) : C = 0 := by
  rcases h.form with ⟨_, _, h0⟩ | ⟨g, _, hg, _⟩
  · exact h0
  · rw [hA] at hg; cases hg
theorem Acc.block (h : Acc e size w0 w base A C n cs) (ad : Addr) (hA : A = some ad) : base ≤ ad.block ∧ ad.block < w.heap.size := by
  rcases h.form with ⟨hn, _⟩ | ⟨g, _, hg, hb, hs, _⟩
  · rw [hA] at hn; cases hn
  · rw [hA] at hg
    obtain rfl := Option.some.inj hg
    exact ⟨hb, hs⟩
theorem Acc.at_ (h : Acc e size w0 w base A C n cs) : CellsAt w A cs :=
  ⟨fun h0 => by
    rcases h.form with ⟨_, hn, _⟩ | ⟨g, cur, hg, hb, hs, hh, h1, h2, h3, h4⟩
    · have := h.length
      rw [hn] at this
      omega
    · refine ⟨g, 0, hg, fun j v hj => ?_⟩
      rw [cell_of_row _ _ _ _ _ _ hh, Nat.zero_add]
      rw [← h4, List.getElem?_take] at hj
      split at hj
      · simpa using hj
      · cases hj⟩
theorem Acc.alloc (h : Acc e size w0 w base A C n cs) (o : Obj) : Acc e size w0 (w.alloc o) base A C n cs :=
  ⟨h.own.alloc o, h.low.alloc h.base_le o, by have := h.base_le; simp; omega⟩
theorem Acc.drew (h : Acc e size w0 w base A C n cs) : Acc e size w0 w.drew base A C n cs := ⟨h.own, h.low.drew, h.base_le⟩
theorem Acc.below (h : Acc e size w0 w base A C n cs) (hb : Below w.heap.size w w') : Acc e size w0 w' base A C n cs := by
  refine ⟨h.own.kept (grownBy_below hb none) ?_, h.low.trans (hb.mono h.base_le), Nat.le_trans h.base_le hb.size⟩
  cases A <;> simp [Value.ownBlock]
/-- Another row of the call's own is written. -/
theorem Acc.other (h : Acc e size w0 w base A C n cs) {k : Nat} (hg : w.grownBy w' (some k)) (hk : base ≤ k) (hne : ∀ ad, A = some ad → ad.block ≠ k) : Acc e size w0 w' base A C n cs := by
  refine ⟨h.own.kept hg ?_, h.low.grown hg h.base_le (fun j hj => by obtain rfl := Option.some.inj hj; exact hk), Nat.le_trans h.base_le hg.size⟩
  cases A with
  | none => exact .inl rfl
  | some ad => exact .inr fun e => hne ad rfl (Option.some.inj e)
theorem Acc.start (w : World) (base e size : Nat) (w0 : World) (hb : Below base w0 w) (hl : base ≤ w.heap.size) : Acc e size w0 w base none 0 0 [] := ⟨World.ownsRow_nil w base e size, hb, hl⟩
/-- A literal. -/
theorem Acc.lit (w : World) (base : Nat) (w0 : World) (cs : Array Value) (n : Nat) (hb : Below base w0 w) (hl : base ≤ w.heap.size) (hm : n ≤ maxLen) (hs : cs.size = n * size) :
    Acc e size w0 (w.alloc (.cells cs e)) base (some ⟨w.heap.size, 0, none⟩) n n cs.toList :=
  ⟨World.ownsRow_lit w cs n hl hm hs, hb.alloc hl _, by simp; omega⟩
/-- An element is written. -/
theorem Acc.set (h : Acc e size w0 w base A C n cs) (ad : Addr) (hA : A = some ad) (j : Nat) (u : Value) : Acc e size w0 (w.setCell ⟨ad.block, j, none⟩ u) base A C n (cs.set j u) ∧ w.grownBy (w.setCell ⟨ad.block, j, none⟩ u) (some ad.block) := by
  rcases h.form with ⟨hn, _⟩ | ⟨g, cur, hg, hb, _⟩
  · rw [hA] at hn; cases hn
  · rw [hA] at hg
    obtain rfl := Option.some.inj hg
    subst hA
    have h2 := h.own.stored j u
    exact ⟨⟨h2.1, h.low.setCell hb u, by simpa using h.base_le⟩, h2.2⟩
theorem Acc.frozen (h : Acc e size w0 w base A C n cs) (ad : Addr) (hA : A = some ad) (j : Nat) : w.frozen? ⟨ad.block, j, none⟩ = false := by
  rcases h.form with ⟨hn, _⟩ | ⟨g, cur, hg, hb, _⟩
  · rw [hA] at hn; cases hn
  · rw [hA] at hg
    obtain rfl := Option.some.inj hg
    subst hA
    exact h.own.frozenAt j
end

section
variable {P : Program} {ops : Array Oper} {rest : List Oper} {o : Oper} {a : Act} {w : World} {Q : Exit → Act → World → Prop}
/-- 'append(s, x...)': the row's n elements and the m that x has. -/
theorem wpList_acc (hgd : o.guard = none) (s x : Operand) (t : TypeId) (ho : o.op = .call { callee := .builtin .append, args := #[s, x], argTypes := #[t, t] })
    (e size bytes : Nat) (z : Value) (ht : P.underlying t = some (.slice e)) (hinfo : (P.info? e).map (fun i => (i.zero, i.size, i.bytes)) = some (some z, size, bytes)) (hzs : z.cells.size = size) (hsz : 0 < size)
    (w0 : World) (base : Nat) (A : Option Addr) (C n : Nat) (cs : List Value) (hs : a.eval s = .slice A n C) (H : Acc e size w0 w base A C n cs)
    (A' : Option Addr) (m c : Nat) (news : List Value) (hx : a.eval x = .slice A' m c) (hl : news.length = m * size) (hsrc : CellsAt w A' news) (hnil : A' = none → c = 0) (hod : ∀ ad, A' = some ad → ∃ b o, ad = ⟨b, o, none⟩) (h1 : ∀ u ∈ news, u.oneCell' = true)
    (h63 : n + m ≤ maxLen) (hbytes : (n + m) * bytes ≤ 140737488355328)
    (h : ∀ B D w', Acc e size w0 w' base B D (n + m) (cs ++ news) → w.grownBy w' (A.map (·.block)) → (∀ ad, B = some ad → A = some ad ∨ w.heap.size ≤ ad.block) → wpList P ops Q rest (a.put o.dst (.slice B (n + m) D)) w') : wpList P ops Q (o :: rest) a w := by
  obtain ⟨i, hi, hz, hsize, hby⟩ := info_parts hinfo
  have hown : Value.ownBlock (.slice A n C) = A.map (·.block) := by cases A <;> rfl
  cases A' with
  | none =>
    obtain rfl := hnil rfl
    have hm : m = 0 := by
      rcases Nat.eq_zero_or_pos m with h0 | h0
      · exact h0
      · have : 0 < news.length := by rw [hl]; exact Nat.mul_pos h0 hsz
        obtain ⟨b, o', hb, _⟩ := hsrc.at_ this
        cases hb
    subst hm
    obtain rfl : news = [] := List.eq_nil_of_length_eq_zero (by simpa using hl)
    refine wpList_append_own_none hgd s x t ho base e i size ht hi (.slice A n C) n cs hs H.own hx ?_
    exact h A C w (by simpa using H) (World.grownBy.refl _ _) fun ad had => .inl had
  | some ad =>
    obtain ⟨b, o', rfl⟩ := hod ad rfl
    refine wpList_append_own_at w hgd s x t ho base e i z size bytes ht hi hz hsize hby hzs hsz (.slice A n C) n cs hs H.own ⟨b, o', none⟩ m c news hx hl ?_ h1 h63 hbytes H.base_le ?_
    · intro j u hu
      have hj : 0 < news.length := by have := (List.getElem?_eq_some_iff.1 hu).1; omega
      obtain ⟨b', o'', hb, hc⟩ := hsrc.at_ hj
      simp only [Option.some.injEq, Addr.mk.injEq, and_true] at hb
      obtain ⟨rfl, rfl⟩ := hb
      rw [Addr.add_lit]
      exact hc j u hu
    · intro v' w' hown' hg _ hblk
      rw [hown] at hg hblk
      have hlow : Below base w0 w' := H.low.grown hg H.base_le (fun k hk => by
        cases A with
        | none => cases hk
        | some ad => obtain rfl := Option.some.inj hk; exact (H.block ad rfl).1)
      have hle : base ≤ w'.heap.size := Nat.le_trans H.base_le hg.size
      have key : ∃ B D, v' = .slice B (n + m) D ∧ (v'.ownBlock = B.map (·.block)) ∧ ∀ ad, B = some ad → ad.off = 0 ∧ ad.spot = none := by
        rcases hown'.2 with ⟨rfl, h0⟩ | ⟨g, cap, cur, rfl, _⟩
        · exact ⟨none, 0, by rw [h0], rfl, fun ad had => by cases had⟩
        · exact ⟨_, cap, rfl, rfl, fun ad had => by obtain rfl := Option.some.inj had; exact ⟨rfl, rfl⟩⟩
      obtain ⟨B, D, rfl, hB, hz0⟩ := key
      refine h B D w' ⟨hown', hlow, hle⟩ hg fun ad had => ?_
      obtain rfl := had
      rw [hB] at hblk
      rcases hblk with hblk | hblk
      · cases A with
        | none => cases hblk
        | some ad' =>
          left
          have hb' : ad.block = ad'.block := Option.some.inj hblk
          obtain ⟨z1, z2⟩ := hz0 ad rfl
          rcases H.form with ⟨hn, _⟩ | ⟨g, _, hg', _⟩
          · cases hn
          · obtain rfl := Option.some.inj hg'
            cases ad
            simp_all
      · right
        have : ad.block = w.heap.size := Option.some.inj hblk
        omega
/-- 'append(s, u)': one element of one cell, which lies in a box that was made for it. -/
theorem wpList_acc1 {W : World} (hgd : o.guard = none) (s x : Operand) (t : TypeId) (ho : o.op = .call { callee := .builtin .append, args := #[s, x], argTypes := #[t, t] })
    (e bytes : Nat) (z : Value) (ht : P.underlying t = some (.slice e)) (hinfo : (P.info? e).map (fun i => (i.zero, i.size, i.bytes)) = some (some z, 1, bytes)) (hzs : z.cells.size = 1)
    (w0 : World) (base : Nat) (A : Option Addr) (C n : Nat) (cs : List Value) (u : Value) (hs : a.eval s = .slice A n C) (H : Acc e 1 w0 W base A C n cs)
    (hx : a.eval x = .slice (some ⟨W.heap.size, 0, none⟩) 1 1) (h1 : u.oneCell' = true) (h63 : n + 1 ≤ maxLen) (hbytes : (n + 1) * bytes ≤ 140737488355328)
    (h : ∀ B D w', Acc e 1 w0 w' base B D (n + 1) (cs ++ [u]) → W.grownBy w' (A.map (·.block)) → (∀ ad, B = some ad → A = some ad ∨ W.heap.size ≤ ad.block) → wpList P ops Q rest (a.put o.dst (.slice B (n + 1) D)) w') :
    wpList P ops Q (o :: rest) a (W.alloc (.cells #[u] e)) := by
  refine wpList_acc hgd s x t ho e 1 bytes z ht hinfo hzs (by omega) w0 base A C n cs hs (H.alloc _) (some ⟨W.heap.size, 0, none⟩) 1 1 [u] hx rfl ⟨fun _ => ⟨W.heap.size, 0, rfl, fun j v hv => ?_⟩⟩ (fun h => by cases h) (fun ad h => ⟨_, _, (Option.some.inj h).symm⟩) (by simpa using h1) h63 hbytes ?_
  · have hj : j = 0 := by
      have := (List.getElem?_eq_some_iff.1 hv).1
      simp at this
      exact this
    subst hj
    rw [cell_of_row _ _ _ _ _ _ (heap_alloc_new _ _)]
    simpa using hv
  · intro B D w' hacc hg hnew
    refine h B D w' hacc (World.grownBy.trans (World.grownBy_alloc W _ _) hg) fun ad had => ?_
    rcases hnew ad had with h' | h'
    · exact .inl h'
    · right
      simp at h'
      omega
/-- A whole row is stored; of the new world this is known. -/
theorem wpList_store_row' (hgd : o.guard = none) (ty : TypeId) (x y : Operand) (ho : o.op = .store ty x y)
    (g : Nat) (cells : Array Value) (hx : a.eval x = .pointer (some ⟨g, 0, none⟩)) (hy : a.eval y = .agg cells)
    (t : TypeId) (old : Array Value) (hg : w.heap[g]? = some (.cells old t (0, 0))) (hi : (P.info? ty).map (·.size) = some cells.size)
    (hold : old.size = cells.size) (h1 : cells.all (·.oneCell') = true)
    (h : ∀ w', w'.heap[g]? = some (.cells cells t (0, 0)) → w.grownBy w' (some g) → w'.heap.size = w.heap.size → wpList P ops Q rest (a.put o.dst undef) w') : wpList P ops Q (o :: rest) a w :=
  wpList_store_row hgd ty x y ho g cells hx hy t old hg hi hold h1 (h _ (setRow_heap _ _ _ _ _ _ hg) (grownBy_setRow _ _ _) (by simp))
end
end Go.Proofs.YtgpenpnobjecgaaGreatDoor

/- Rturn -/
namespace Go.Proofs.YtgpenpnobjecgaaGreatDoor
set_option maxRecDepth 100000
open Go.RowKit

section
variable (t : TypeId) (a b : BitVec 32) (n : Int)
theorem mul_mod_mod (x y M : Int) : x * (y % M) % M = x * y % M := by
  rw [Int.mul_emod, Int.emod_emod_of_dvd _ (Int.dvd_refl M), ← Int.mul_emod]
@[go_sem] theorem mul_V32 : binOp .mul t (V32 a) (.int .u32 n) = pure (V32 (a * BitVec.ofInt 32 n)) := by
  simp only [V32, binOp_mul, Op.intArith]
  have h : IntKind.u32.wrap ((a.toNat : Int) * n) = ((a * BitVec.ofInt 32 n : BitVec 32).toNat : Int) := by
    rw [IntKind.wrap_u32, BitVec.toNat_mul, BitVec.toNat_ofInt]
    have h2 : (((n % ((2 ^ 32 : Nat) : Int)).toNat : Nat) : Int) = n % 4294967296 := by
      rw [Int.toNat_of_nonneg (Int.emod_nonneg _ (by decide))]
      rfl
    rw [Int.natCast_emod, Int.natCast_mul, h2]
    exact (mul_mod_mod _ _ _).symm
  rw [h]
end

/-- A word made byte by byte. -/
def part (b : Nat → UInt8) : Nat → BitVec 32
  | 0 => 0
  | k + 1 => part b k * 256#32 + (b k).toBitVec.setWidth 32
theorem or4 (a b c d : Nat) (hb : b < 256) (hc : c < 256) (hd : d < 256) : a <<< 24 ||| b <<< 16 ||| c <<< 8 ||| d = a * 16777216 + b * 65536 + c * 256 + d := by
  rw [Nat.or_assoc, Nat.or_assoc]
  rw [← Nat.shiftLeft_add_eq_or_of_lt (show d < 2 ^ 8 by omega) c]
  rw [← Nat.shiftLeft_add_eq_or_of_lt (show c <<< 8 + d < 2 ^ 16 by simp only [Nat.shiftLeft_eq]; omega) b]
  rw [← Nat.shiftLeft_add_eq_or_of_lt (show b <<< 16 + (c <<< 8 + d) < 2 ^ 24 by simp only [Nat.shiftLeft_eq]; omega) a]
  simp only [Nat.shiftLeft_eq]
  omega
theorem part_word (b : Nat → UInt8) : part b 4 = Sha.word (b 0) (b 1) (b 2) (b 3) := by
  apply BitVec.eq_of_toNat_eq
  have h0 := (b 0).toNat_lt
  have h1 := (b 1).toNat_lt
  have h2 := (b 2).toNat_lt
  have h3 := (b 3).toNat_lt
  have hs : ∀ (x : UInt8) (i : Nat), x.toNat * 2 ^ i < 2 ^ 32 → (x.toBitVec.setWidth 32 <<< i).toNat = x.toNat <<< i := by
    intro x i hx
    have := x.toNat_lt
    rw [BitVec.toNat_shiftLeft, BitVec.toNat_setWidth, UInt8.toNat_toBitVec, Nat.mod_eq_of_lt (show x.toNat < 2 ^ 32 by omega), Nat.mod_eq_of_lt (by rw [Nat.shiftLeft_eq]; exact hx)]
  have hw : ∀ (x : UInt8), (x.toBitVec.setWidth 32 : BitVec 32).toNat = x.toNat := by
    intro x
    have := x.toNat_lt
    rw [BitVec.toNat_setWidth, UInt8.toNat_toBitVec, Nat.mod_eq_of_lt (by omega)]
  have e256 : (256#32 : BitVec 32).toNat = 256 := by decide
  unfold Sha.word
  rw [BitVec.toNat_or, BitVec.toNat_or, BitVec.toNat_or, hs _ 24 (by omega), hs _ 16 (by omega), hs _ 8 (by omega), hw, or4 _ _ _ _ h1 h2 h3]
  simp only [part, BitVec.toNat_add, BitVec.toNat_mul, e256, hw]
  simp
  omega
end Go.Proofs.YtgpenpnobjecgaaGreatDoor

/- Rturn2 -/
namespace Go.Proofs.YtgpenpnobjecgaaGreatDoor
set_option maxRecDepth 100000
open Go.RowKit

theorem sched_start2 (t1 t2 t3 : TypeId) (w : World) (r : Sha.Reg) (p : Nat → UInt8) :
    Sched w (((w.alloc (.cells (r.list.map V32).toArray t1)).alloc (.cells (zeros 8) t2)).alloc (.cells (zeros 64) t3)) r p 0 := by
  have h8 : ∀ n j, j < n → (zeros n)[j]? = some (V32 0) := fun n j hj => by simp [zeros, hj]
  have e1 : ∀ o, w.heap.size + 1 = (w.alloc o).heap.size := fun o => by simp
  have e2 : ∀ o o', w.heap.size + 1 + 1 = ((w.alloc o).alloc o').heap.size := fun o o' => by simp
  refine ⟨arr_old (arr_old (arr_new rfl fun j hj => ?_)), ?_, ?_, (((Below.refl _ _).alloc (by simp) _).alloc (by simp) _).alloc (by simp; omega) _⟩
  · replace hj : j < 8 := hj
    have : j = 0 ∨ j = 1 ∨ j = 2 ∨ j = 3 ∨ j = 4 ∨ j = 5 ∨ j = 6 ∨ j = 7 := by omega
    rcases this with rfl | rfl | rfl | rfl | rfl | rfl | rfl | rfl <;> rfl
  · rw [e1]; exact arr_old (arr_new (by simp [zeros]) (h8 8))
  · rw [e2]; exact arr_new (by simp [zeros]) fun j hj => by rw [h8 64 j hj]; simp [wF]

def At4 (w : World) (r : Sha.Reg) (p : Nat → UInt8) (i : Value) (wr : World) : Prop := ∃ k : Nat, k ≤ 64 ∧ i = .int .i64 k ∧ Sched w wr r p k
/-- In the midst of the t-th word. -/
def In4 (w : World) (r : Sha.Reg) (p : Nat → UInt8) (t : Nat) (i : Value) (wr : World) : Prop :=
  ∃ k : Nat, k ≤ 4 ∧ i = .int .i64 k ∧ Arr wr w.heap.size 8 (regF r) ∧ Arr wr (w.heap.size + 1) 8 (fun _ => V32 0) ∧
    Arr wr (w.heap.size + 1 + 1) 64 (fun j => if j = t then V32 (part (fun i => p (4 * t + i)) k) else wF p t j) ∧ Below w.heap.size w wr
/-- The rounds: the register of 8 words at block g, the schedule behind them. -/
structure Loop3 (w wr : World) (g : Nat) (r : Sha.Reg) (p : Nat → UInt8) (q : Sha.Reg) : Prop where
  reg : ∃ t, wr.heap[g]? = some (.cells (q.list.map V32).toArray t (0, 0))
  sch : Sched w wr r p 64
  gt : w.heap.size + 1 + 1 < g
def At5 (w : World) (g : Nat) (r : Sha.Reg) (p : Nat → UInt8) (i : Value) (wr : World) : Prop := ∃ k : Nat, k ≤ 64 ∧ i = .int .i64 k ∧ Loop3 w wr g r p (Sha.rounds p r k)
theorem Loop3.drewN {w wr : World} {g n : Nat} {r q : Sha.Reg} {p : Nat → UInt8} (h : Loop3 w wr g r p q) : Loop3 w (wr.drewN n) g r p q := ⟨h.reg, h.sch.drewN, h.gt⟩
theorem Sched.grown {w wr w' : World} {r : Sha.Reg} {p : Nat → UInt8} {k g : Nat} (S : Sched w wr r p k) (hg : wr.grownBy w' (some g)) (h : w.heap.size + 1 + 1 < g) : Sched w w' r p k :=
  ⟨S.reg.grown hg (by omega), S.out.grown hg (by omega), S.arr.grown hg (by omega), S.low.grown hg S.low.size (fun k hk => by obtain rfl := Option.some.inj hk; omega)⟩
/-- The words of q, the first k of them with those of r added. -/
def addF (r q : Sha.Reg) (k j : Nat) : Value := V32 (if j < k then q.list.getD j 0 + r.list.getD j 0 else q.list.getD j 0)
def At6 (w : World) (g : Nat) (r : Sha.Reg) (p : Nat → UInt8) (i : Value) (wr : World) : Prop :=
  ∃ k : Nat, k ≤ 8 ∧ i = .int .i64 k ∧ Arr wr g 8 (addF r (Sha.rounds p r 64) k) ∧ Sched w wr r p 64 ∧ w.heap.size + 1 + 1 < g
theorem At6.start {w wr : World} {g : Nat} {r : Sha.Reg} {p : Nat → UInt8} (h : Loop3 w wr g r p (Sha.rounds p r 64)) : At6 w g r p (.int .i64 0) wr := by
  obtain ⟨⟨t, hr⟩, hs, hg⟩ := h
  refine ⟨0, by omega, rfl, ⟨_, t, hr, rfl, fun j hj => ?_⟩, hs, hg⟩
  have : j = 0 ∨ j = 1 ∨ j = 2 ∨ j = 3 ∨ j = 4 ∨ j = 5 ∨ j = 6 ∨ j = 7 := by omega
  rcases this with rfl | rfl | rfl | rfl | rfl | rfl | rfl | rfl <;> rfl
theorem At6.next {w wr : World} {g k : Nat} {r : Sha.Reg} {p : Nat → UInt8} (hk : k < 8) (h : Arr wr g 8 (addF r (Sha.rounds p r 64) k)) (hs : Sched w wr r p 64) (hg : w.heap.size + 1 + 1 < g) :
    At6 w g r p (.int .i64 ((k : Int) + 1)) (wr.setCell ⟨g, k, none⟩ (V32 ((Sha.rounds p r 64).list.getD k 0 + r.list.getD k 0))).drew :=
  ⟨k + 1, by omega, by go_num, (h.set k _ hk).ext fun j _ => by
    unfold addF
    by_cases e : j = k
    · subst e; simp
    · rw [if_neg e]
      by_cases e2 : j < k
      · rw [if_pos e2, if_pos (by omega)]
      · rw [if_neg e2, if_neg (by omega)], (hs.grown (grownBy_setCell _ _ _ _) hg).drew, hg⟩
theorem At6.done {wr : World} {g : Nat} {r : Sha.Reg} {p : Nat → UInt8} (h : Arr wr g 8 (addF r (Sha.rounds p r 64) 8)) : ∃ t, wr.heap[g]? = some (.cells ((Sha.turn r p).list.map V32).toArray t (0, 0)) := by
  refine h.row _ rfl fun j hj => ?_
  have : j = 0 ∨ j = 1 ∨ j = 2 ∨ j = 3 ∨ j = 4 ∨ j = 5 ∨ j = 6 ∨ j = 7 := by omega
  rcases this with rfl | rfl | rfl | rfl | rfl | rfl | rfl | rfl <;> (simp only [addF, Sha.turn, Sha.Reg.add, Sha.Reg.list]; simp [BitVec.add_comm])
theorem reg_one (q : Sha.Reg) : (q.list.map V32).toArray.all (·.oneCell') = true := by simp [Sha.Reg.list, V32, Value.oneCell']
theorem reg_row {w : World} {b : Nat} {q : Sha.Reg} {t : TypeId} {fr : Nat × Nat} (h : w.heap[b]? = some (.cells (q.list.map V32).toArray t fr)) :
    w.cell? ⟨b, 0, none⟩ = some (V32 q.a) ∧ w.cell? ⟨b, 1, none⟩ = some (V32 q.b) ∧ w.cell? ⟨b, 2, none⟩ = some (V32 q.c) ∧ w.cell? ⟨b, 3, none⟩ = some (V32 q.d) ∧
    w.cell? ⟨b, 4, none⟩ = some (V32 q.e) ∧ w.cell? ⟨b, 5, none⟩ = some (V32 q.f) ∧ w.cell? ⟨b, 6, none⟩ = some (V32 q.g) ∧ w.cell? ⟨b, 7, none⟩ = some (V32 q.h) :=
  ⟨cell_block h rfl, cell_block h rfl, cell_block h rfl, cell_block h rfl, cell_block h rfl, cell_block h rfl, cell_block h rfl, cell_block h rfl⟩
theorem In4.start {w wr : World} {r : Sha.Reg} {p : Nat → UInt8} {t : Nat} (S : Sched w wr r p t) : In4 w r p t (.int .i64 0) wr :=
  ⟨0, by omega, rfl, S.reg, S.out, S.arr.ext fun j _ => by
    by_cases e : j = t
    · subst e; simp [wF, part]
    · rw [if_neg e], S.low⟩
theorem In4.next {w wr : World} {r : Sha.Reg} {p : Nat → UInt8} {t k : Nat} (ht : t < 64) (hk : k < 4) (h0 : Arr wr w.heap.size 8 (regF r)) (h1 : Arr wr (w.heap.size + 1) 8 (fun _ => V32 0))
    (h2 : Arr wr (w.heap.size + 1 + 1) 64 (fun j => if j = t then V32 (part (fun i => p (4 * t + i)) k) else wF p t j)) (hB : Below w.heap.size w wr) :
    In4 w r p t (.int .i64 ((k : Int) + 1)) (wr.setCell ⟨w.heap.size + 1 + 1, t, none⟩ (V32 (part (fun i => p (4 * t + i)) k * 256#32 + BitVec.setWidth 32 (p (4 * t + k)).toBitVec))).drew :=
  ⟨k + 1, by omega, by go_num, h0.other _ _ (by show w.heap.size + 1 + 1 ≠ _; omega), h1.other _ _ (by show w.heap.size + 1 + 1 ≠ _; omega), (h2.set t _ ht).ext fun j _ => by
    by_cases e : j = t
    · subst e; simp [part]
    · simp only [if_neg e], (hB.setCell (by show w.heap.size ≤ w.heap.size + 1 + 1; omega) _).drew⟩
theorem In4.done {w wr : World} {r : Sha.Reg} {p : Nat → UInt8} {t : Nat} (ht : t < 16) (h0 : Arr wr w.heap.size 8 (regF r)) (h1 : Arr wr (w.heap.size + 1) 8 (fun _ => V32 0))
    (h2 : Arr wr (w.heap.size + 1 + 1) 64 (fun j => if j = t then V32 (part (fun i => p (4 * t + i)) 4) else wF p t j)) (hB : Below w.heap.size w wr) : Sched w wr r p (t + 1) :=
  ⟨h0, h1, h2.ext fun j _ => by
    by_cases e : j = t
    · subst e
      rw [if_pos rfl, part_word]
      unfold wF
      rw [if_pos (by omega), Sha.sched_lt p j ht]
      rfl
    · rw [if_neg e]
      unfold wF
      by_cases e2 : j < t
      · rw [if_pos e2, if_pos (by omega)]
      · rw [if_neg e2, if_neg (by omega)], hB⟩

end Go.Proofs.YtgpenpnobjecgaaGreatDoor

/- Hash -/
namespace Go.Proofs.YtgpenpnobjecgaaGreatDoor
set_option maxRecDepth 100000
open Go.RowKit

/-- The cells of a Hash: the register, the rest's 64 bytes, how many were taken. -/
def hashCells (r : Sha.Reg) (rest : List UInt8) (n : Nat) : Array Value := (r.list.map V32 ++ rest.map V8 ++ [Value.int .u64 (n : Int)]).toArray

theorem eight_get (n j : Nat) (h : j < 8) : (Sha.eight n).getD j 0 = UInt8.ofNat (n / 2 ^ (8 * (7 - j))) := by
  simp [Sha.eight, List.getD, h]
def Eight (w : World) (n : Nat) (i : Value) (wr : World) : Prop :=
  ∃ k : Nat, k ≤ 8 ∧ i = .int .i64 k ∧ Arr wr w.heap.size 8 (fun j => if j < k then byteF (Sha.eight n) j else V8 0) ∧ Below w.heap.size w wr

theorem bytes_len (r : Sha.Reg) : (Sha.bytes r).length = 32 := rfl
theorem wbytes_at (r : Sha.Reg) (k : Nat) (h : k < 8) : r.list[k]? = some (r.list.getD k 0) := by
  simp [List.getD, List.getElem?_eq_getElem (show k < r.list.length from h)]
theorem bytes_at (r : Sha.Reg) (k i : Nat) (hk : k < 8) (hi : i < 4) : (Sha.bytes r).getD (4 * k + i) 0 = (Sha.wbytes (r.list.getD k 0)).getD i 0 := by
  have h1 : k = 0 ∨ k = 1 ∨ k = 2 ∨ k = 3 ∨ k = 4 ∨ k = 5 ∨ k = 6 ∨ k = 7 := by omega
  have h2 : i = 0 ∨ i = 1 ∨ i = 2 ∨ i = 3 := by omega
  rcases h1 with rfl | rfl | rfl | rfl | rfl | rfl | rfl | rfl <;> rcases h2 with rfl | rfl | rfl | rfl <;> rfl
theorem bytes4 (r : Sha.Reg) (k : Nat) (hk : k < 8) :
    byteF (Sha.bytes r) (4 * k) = V8 ⟨(r.list[k]?.getD 0#32 >>> 24).setWidth 8⟩ ∧ byteF (Sha.bytes r) (4 * k + 1) = V8 ⟨(r.list[k]?.getD 0#32 >>> 16).setWidth 8⟩ ∧
    byteF (Sha.bytes r) (4 * k + 2) = V8 ⟨(r.list[k]?.getD 0#32 >>> 8).setWidth 8⟩ ∧ byteF (Sha.bytes r) (4 * k + 3) = V8 ⟨(r.list[k]?.getD 0#32).setWidth 8⟩ :=
  ⟨congrArg V8 (bytes_at r k 0 hk (by omega)), congrArg V8 (bytes_at r k 1 hk (by omega)), congrArg V8 (bytes_at r k 2 hk (by omega)), congrArg V8 (bytes_at r k 3 hk (by omega))⟩
/-- Four stores in a row, from 4 k on. -/
theorem Arr.set4 {w : World} {b : Nat} {l : List UInt8} {k : Nat} (h : Arr w b 32 (fun j => if j < 4 * k then byteF l j else V8 0)) (hk : k < 8) :
    Arr ((((w.setCell ⟨b, 4 * k, none⟩ (byteF l (4 * k))).setCell ⟨b, 4 * k + 1, none⟩ (byteF l (4 * k + 1))).setCell ⟨b, 4 * k + 2, none⟩ (byteF l (4 * k + 2))).setCell ⟨b, 4 * k + 3, none⟩ (byteF l (4 * k + 3))) b 32
      (fun j => if j < 4 * (k + 1) then byteF l j else V8 0) := by
  refine ((((h.set (4 * k) _ (by omega)).set (4 * k + 1) _ (by omega)).set (4 * k + 2) _ (by omega)).set (4 * k + 3) _ (by omega)).ext fun j hj => ?_
  by_cases e3 : j = 4 * k + 3
  · subst e3; simp; omega
  by_cases e2 : j = 4 * k + 2
  · subst e2; simp; omega
  by_cases e1 : j = 4 * k + 1
  · subst e1; simp; omega
  by_cases e0 : j = 4 * k
  · subst e0; simp
  rw [if_neg e3, if_neg e2, if_neg e1, if_neg e0]
  by_cases e : j < 4 * k
  · rw [if_pos e, if_pos (by omega)]
  · rw [if_neg e, if_neg (by omega)]
def Out32 (w : World) (r : Sha.Reg) (i : Value) (wr : World) : Prop :=
  ∃ k : Nat, k ≤ 8 ∧ i = .int .i64 k ∧ Arr wr (w.heap.size + 1 + 1) 32 (fun j => if j < 4 * k then byteF (Sha.bytes r) j else V8 0) ∧ Arr wr (w.heap.size + 1) 32 (fun _ => V8 0) ∧ Below w.heap.size w wr

end Go.Proofs.YtgpenpnobjecgaaGreatDoor

/- Ref02 -/
namespace Go.Proofs.YtgpenpnobjecgaaGreatDoor
set_option maxRecDepth 100000
open Go.RowKit

/-- A slice of bytes that may be read: its bytes, its capacity, where it lies. -/
structure Src (w : World) (a : Option Addr) (c : Nat) (l : List UInt8) : Prop where
  at_ : BytesAt w a l
  cap : l.length ≤ c
  nil : a = none → c = 0
  plain : ∀ ad, a = some ad → ∃ b o, ad = ⟨b, o, none⟩ ∧ b < w.heap.size
theorem Src.below {w w' : World} {a : Option Addr} {c : Nat} {l : List UInt8} (h : Src w a c l) (hb : Below w.heap.size w w') : Src w' a c l :=
  ⟨h.at_.below hb, h.cap, h.nil, fun ad had => by obtain ⟨b, o, e, hlt⟩ := h.plain ad had; exact ⟨b, o, e, Nat.lt_of_lt_of_le hlt hb.size⟩⟩
theorem Src.grown {w w' : World} {a : Option Addr} {c k : Nat} {l : List UInt8} (h : Src w a c l) (hg : w.grownBy w' (some k)) (hk : ∀ ad, a = some ad → ad.block ≠ k) : Src w' a c l :=
  ⟨h.at_.grown hg hk, h.cap, h.nil, fun ad had => by obtain ⟨b, o, e, hlt⟩ := h.plain ad had; exact ⟨b, o, e, Nat.lt_of_lt_of_le hlt hg.size⟩⟩
theorem Src.lt {w : World} {a : Option Addr} {c : Nat} {l : List UInt8} (h : Src w a c l) : ∀ ad, a = some ad → ad.block < w.heap.size := fun ad had => by
  obtain ⟨b, o, rfl, hlt⟩ := h.plain ad had; exact hlt
theorem Src.od {w : World} {a : Option Addr} {c : Nat} {l : List UInt8} (h : Src w a c l) : ∀ ad, a = some ad → ∃ b o, ad = ⟨b, o, none⟩ := fun ad had => by
  obtain ⟨b, o, rfl, _⟩ := h.plain ad had; exact ⟨b, o, rfl⟩
theorem Acc.src {w0 w : World} {base : Nat} {A : Option Addr} {C n : Nat} {l : List UInt8} (h : Acc 5 1 w0 w base A C n (l.map V8)) : Src w A C l := by
  have hl : n = l.length := by have := h.length; simp at this; exact this.symm
  refine ⟨h.at_.bytes, by rw [← hl]; exact h.cap, h.nil, fun ad had => ?_⟩
  rcases h.form with ⟨hn, _⟩ | ⟨g, _, hg, _, hs, _⟩
  · rw [had] at hn; cases hn
  · rw [had] at hg
    obtain rfl := Option.some.inj hg
    exact ⟨g, 0, rfl, hs⟩
theorem Acc.len {w0 w : World} {base : Nat} {A : Option Addr} {C n : Nat} {l : List UInt8} (h : Acc 5 1 w0 w base A C n (l.map V8)) : n = l.length := by
  have := h.length; simp at this; exact this.symm

theorem Acc.rebase {e size : Nat} {w0 w1 w : World} {base base' : Nat} {A : Option Addr} {C n : Nat} {cs : List Value} (h : Acc e size w1 w base A C n cs) (hb : base' ≤ base) (hl : Below base' w0 w1) : Acc e size w0 w base' A C n cs := by
  refine ⟨⟨h.own.1, ?_⟩, hl.trans (h.low.mono hb), Nat.le_trans hb h.base_le⟩
  rcases h.own.2 with h1 | ⟨g, cap, cur, hv, hg, r⟩
  · exact .inl h1
  · exact .inr ⟨g, cap, cur, hv, Nat.le_trans hb hg, r⟩
theorem info_u8' : (Tryz.prog.info? 5).map (fun i => (i.zero, i.size, i.bytes)) = some (some (.int .u8 0), 1, 1) := by kernel_rfl
theorem ones' (l : List UInt8) : ∀ u ∈ l.map V8, u.oneCell' = true := by simp [V8, Value.oneCell']

/-- A slice of l in memory of the call's own is handed back. -/
def RetB (w : World) (n : Nat) (l : List UInt8) (e : Ending) (w' : World) : Prop := ∃ B C, e = .returned (.slice B n C) ∧ Acc 5 1 w w' w.heap.size B C n (l.map V8)

def REight (w : World) (n : Nat) (v i : Value) (wr : World) : Prop := ∃ k B C, k ≤ 8 ∧ i = .int .i64 (k : Nat) ∧ v = .slice B k C ∧ Acc 5 1 w wr w.heap.size B C k (((Sha.eight n).take k).map V8)
theorem eight_take (n k : Nat) (h : k < 8) : ((Sha.eight n).take k).map V8 ++ [Value.int .u8 ((n : Int) / 2 ^ (56 - 8 * k) % 256)] = ((Sha.eight n).take (k + 1)).map V8 := by
  have hl : k < (Sha.eight n).length := by simpa [Sha.eight] using h
  have e : Value.int .u8 ((n : Int) / 2 ^ (56 - 8 * k) % 256) = V8 (UInt8.ofNat (n / 2 ^ (8 * (7 - k)))) := by
    rw [V8_ofNat, show 56 - 8 * k = 8 * (7 - k) from by omega]; push_cast; rfl
  rw [List.take_succ_eq_append_getElem hl, List.map_append, e]
  simp [Sha.eight]

/-! ### words -/
theorem words_take (r : Sha.Reg) (k i : Nat) (hk : k < 8) (hi : i < 4) :
    ((Sha.bytes r).take (4 * k + i)).map V8 ++ [V8 ⟨(r.list.getD k 0 >>> (24 - 8 * i)).setWidth 8⟩] = ((Sha.bytes r).take (4 * k + i + 1)).map V8 := by
  have hl : 4 * k + i < (Sha.bytes r).length := by rw [show (Sha.bytes r).length = 32 from rfl]; omega
  have h1 : k = 0 ∨ k = 1 ∨ k = 2 ∨ k = 3 ∨ k = 4 ∨ k = 5 ∨ k = 6 ∨ k = 7 := by omega
  have h2 : i = 0 ∨ i = 1 ∨ i = 2 ∨ i = 3 := by omega
  rcases h1 with rfl | rfl | rfl | rfl | rfl | rfl | rfl | rfl <;> rcases h2 with rfl | rfl | rfl | rfl <;> rfl

end Go.Proofs.YtgpenpnobjecgaaGreatDoor
