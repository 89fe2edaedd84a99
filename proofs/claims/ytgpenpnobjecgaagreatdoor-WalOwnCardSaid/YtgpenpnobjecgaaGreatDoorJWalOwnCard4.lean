/- New blocks, one after another: what lies where, and that the old ones stay. -/
import Derived.Deep.RegionHeld3
import Derived.Deep.RegionWith
import Derived.Test.YtgpenpnobjecgaaGreatDoorJWalOwnCard2
import Derived.Test.YtgpenpnobjecgaaGreatDoorJWalOwnCard3
/- Rturn2 -/
namespace Go.Proofs.YtgpenpnobjecgaaGreatDoor
set_option maxRecDepth 100000
open Go.RowKit

theorem sched_start2 (t1 t2 t3 : TypeId) (w : World) (r : Sha.Reg) (p : Nat → UInt8) :
    Sched w (((w.alloc (.cells (r.list.map V32).toArray t1)).alloc (.cells (zeros 8) t2)).alloc (.cells (zeros 64) t3)) r p 0 := by
  have h8 : ∀ n j, j < n → (zeros n)[j]? = some (V32 0) := fun n j hj => by simp [zeros, hj]
  have e1 : ∀ o, w.heap.size + 1 = (w.alloc o).heap.size := fun o => by simp
  have e2 : ∀ o o', w.heap.size + 1 + 1 = ((w.alloc o).alloc o').heap.size := fun o o' => by simp
  refine ⟨arr_old (arr_old (arr_new rfl fun j hj => ?_)), ?_, ?_, (((Below.refl _ _).alloc (by simp) _).alloc (by simp) _).alloc (by simp; omega) _⟩
  · replace hj : j < 8 := hj
    have : j = 0 ∨ j = 1 ∨ j = 2 ∨ j = 3 ∨ j = 4 ∨ j = 5 ∨ j = 6 ∨ j = 7 := by omega
    rcases this with rfl | rfl | rfl | rfl | rfl | rfl | rfl | rfl <;> rfl
  · rw [e1]; exact arr_old (arr_new (by simp [zeros]) (h8 8))
  · rw [e2]; exact arr_new (by simp [zeros]) fun j hj => by rw [h8 64 j hj]; simp [wF]

def At4 (w : World) (r : Sha.Reg) (p : Nat → UInt8) (i : Value) (wr : World) : Prop := ∃ k : Nat, k ≤ 64 ∧ i = .int .i64 k ∧ Sched w wr r p k
/-- In the midst of the t-th word. -/
def In4 (w : World) (r : Sha.Reg) (p : Nat → UInt8) (t : Nat) (i : Value) (wr : World) : Prop :=
  ∃ k : Nat, k ≤ 4 ∧ i = .int .i64 k ∧ Arr wr w.heap.size 8 (regF r) ∧ Arr wr (w.heap.size + 1) 8 (fun _ => V32 0) ∧
    Arr wr (w.heap.size + 1 + 1) 64 (fun j => if j = t then V32 (part (fun i => p (4 * t + i)) k) else wF p t j) ∧ Below w.heap.size w wr
/-- The rounds: the register of 8 words at block g, the schedule behind them. -/
structure Loop3 (w wr : World) (g : Nat) (r : Sha.Reg) (p : Nat → UInt8) (q : Sha.Reg) : Prop where
  reg : ∃ t, wr.heap[g]? = some (.cells (q.list.map V32).toArray t (0, 0))
  sch : Sched w wr r p 64
  gt : w.heap.size + 1 + 1 < g
def At5 (w : World) (g : Nat) (r : Sha.Reg) (p : Nat → UInt8) (i : Value) (wr : World) : Prop := ∃ k : Nat, k ≤ 64 ∧ i = .int .i64 k ∧ Loop3 w wr g r p (Sha.rounds p r k)
theorem Loop3.drewN {w wr : World} {g n : Nat} {r q : Sha.Reg} {p : Nat → UInt8} (h : Loop3 w wr g r p q) : Loop3 w (wr.drewN n) g r p q := ⟨h.reg, h.sch.drewN, h.gt⟩
theorem Sched.grown {w wr w' : World} {r : Sha.Reg} {p : Nat → UInt8} {k g : Nat} (S : Sched w wr r p k) (hg : wr.grownBy w' (some g)) (h : w.heap.size + 1 + 1 < g) : Sched w w' r p k :=
  ⟨S.reg.grown hg (by omega), S.out.grown hg (by omega), S.arr.grown hg (by omega), S.low.grown hg S.low.size (fun k hk => by obtain rfl := Option.some.inj hk; omega)⟩
/-- The words of q, the first k of them with those of r added. -/
def addF (r q : Sha.Reg) (k j : Nat) : Value := V32 (if j < k then q.list.getD j 0 + r.list.getD j 0 else q.list.getD j 0)
def At6 (w : World) (g : Nat) (r : Sha.Reg) (p : Nat → UInt8) (i : Value) (wr : World) : Prop :=
  ∃ k : Nat, k ≤ 8 ∧ i = .int .i64 k ∧ Arr wr g 8 (addF r (Sha.rounds p r 64) k) ∧ Sched w wr r p 64 ∧ w.heap.size + 1 + 1 < g
theorem At6.start {w wr : World} {g : Nat} {r : Sha.Reg} {p : Nat → UInt8} (h : Loop3 w wr g r p (Sha.rounds p r 64)) : At6 w g r p (.int .i64 0) wr := by
  obtain ⟨⟨t, hr⟩, hs, hg⟩ := h
  refine ⟨0, by omega, rfl, ⟨_, t, hr, rfl, fun j hj => ?_⟩, hs, hg⟩
  have : j = 0 ∨ j = 1 ∨ j = 2 ∨ j = 3 ∨ j = 4 ∨ j = 5 ∨ j = 6 ∨ j = 7 := by omega
  rcases this with rfl | rfl | rfl | rfl | rfl | rfl | rfl | rfl <;> rfl
theorem At6.next {w wr : World} {g k : Nat} {r : Sha.Reg} {p : Nat → UInt8} (hk : k < 8) (h : Arr wr g 8 (addF r (Sha.rounds p r 64) k)) (hs : Sched w wr r p 64) (hg : w.heap.size + 1 + 1 < g) :
    At6 w g r p (.int .i64 ((k : Int) + 1)) (wr.setCell ⟨g, k, none⟩ (V32 ((Sha.rounds p r 64).list.getD k 0 + r.list.getD k 0))).drew :=
  ⟨k + 1, by omega, by go_num, (h.set k _ hk).ext fun j _ => by
    unfold addF
    by_cases e : j = k
    · subst e; simp
    · rw [if_neg e]
      by_cases e2 : j < k
      · rw [if_pos e2, if_pos (by omega)]
      · rw [if_neg e2, if_neg (by omega)], (hs.grown (grownBy_setCell _ _ _ _) hg).drew, hg⟩
theorem At6.done {wr : World} {g : Nat} {r : Sha.Reg} {p : Nat → UInt8} (h : Arr wr g 8 (addF r (Sha.rounds p r 64) 8)) : ∃ t, wr.heap[g]? = some (.cells ((Sha.turn r p).list.map V32).toArray t (0, 0)) := by
  refine h.row _ rfl fun j hj => ?_
  have : j = 0 ∨ j = 1 ∨ j = 2 ∨ j = 3 ∨ j = 4 ∨ j = 5 ∨ j = 6 ∨ j = 7 := by omega
  rcases this with rfl | rfl | rfl | rfl | rfl | rfl | rfl | rfl <;> (simp only [addF, Sha.turn, Sha.Reg.add, Sha.Reg.list]; simp [BitVec.add_comm])
theorem reg_one (q : Sha.Reg) : (q.list.map V32).toArray.all (·.oneCell') = true := by simp [Sha.Reg.list, V32, Value.oneCell']
theorem reg_row {w : World} {b : Nat} {q : Sha.Reg} {t : TypeId} {fr : Nat × Nat} (h : w.heap[b]? = some (.cells (q.list.map V32).toArray t fr)) :
    w.cell? ⟨b, 0, none⟩ = some (V32 q.a) ∧ w.cell? ⟨b, 1, none⟩ = some (V32 q.b) ∧ w.cell? ⟨b, 2, none⟩ = some (V32 q.c) ∧ w.cell? ⟨b, 3, none⟩ = some (V32 q.d) ∧
    w.cell? ⟨b, 4, none⟩ = some (V32 q.e) ∧ w.cell? ⟨b, 5, none⟩ = some (V32 q.f) ∧ w.cell? ⟨b, 6, none⟩ = some (V32 q.g) ∧ w.cell? ⟨b, 7, none⟩ = some (V32 q.h) :=
  ⟨cell_block h rfl, cell_block h rfl, cell_block h rfl, cell_block h rfl, cell_block h rfl, cell_block h rfl, cell_block h rfl, cell_block h rfl⟩
theorem In4.start {w wr : World} {r : Sha.Reg} {p : Nat → UInt8} {t : Nat} (S : Sched w wr r p t) : In4 w r p t (.int .i64 0) wr :=
  ⟨0, by omega, rfl, S.reg, S.out, S.arr.ext fun j _ => by
    by_cases e : j = t
    · subst e; simp [wF, part]
    · rw [if_neg e], S.low⟩
theorem In4.next {w wr : World} {r : Sha.Reg} {p : Nat → UInt8} {t k : Nat} (ht : t < 64) (hk : k < 4) (h0 : Arr wr w.heap.size 8 (regF r)) (h1 : Arr wr (w.heap.size + 1) 8 (fun _ => V32 0))
    (h2 : Arr wr (w.heap.size + 1 + 1) 64 (fun j => if j = t then V32 (part (fun i => p (4 * t + i)) k) else wF p t j)) (hB : Below w.heap.size w wr) :
    In4 w r p t (.int .i64 ((k : Int) + 1)) (wr.setCell ⟨w.heap.size + 1 + 1, t, none⟩ (V32 (part (fun i => p (4 * t + i)) k * 256#32 + BitVec.setWidth 32 (p (4 * t + k)).toBitVec))).drew :=
  ⟨k + 1, by omega, by go_num, h0.other _ _ (by show w.heap.size + 1 + 1 ≠ _; omega), h1.other _ _ (by show w.heap.size + 1 + 1 ≠ _; omega), (h2.set t _ ht).ext fun j _ => by
    by_cases e : j = t
    · subst e; simp [part]
    · simp only [if_neg e], (hB.setCell (by show w.heap.size ≤ w.heap.size + 1 + 1; omega) _).drew⟩
theorem In4.done {w wr : World} {r : Sha.Reg} {p : Nat → UInt8} {t : Nat} (ht : t < 16) (h0 : Arr wr w.heap.size 8 (regF r)) (h1 : Arr wr (w.heap.size + 1) 8 (fun _ => V32 0))
    (h2 : Arr wr (w.heap.size + 1 + 1) 64 (fun j => if j = t then V32 (part (fun i => p (4 * t + i)) 4) else wF p t j)) (hB : Below w.heap.size w wr) : Sched w wr r p (t + 1) :=
  ⟨h0, h1, h2.ext fun j _ => by
    by_cases e : j = t
    · subst e
      rw [if_pos rfl, part_word]
      unfold wF
      rw [if_pos (by omega), Sha.sched_lt p j ht]
      rfl
    · rw [if_neg e]
      unfold wF
      by_cases e2 : j < t
      · rw [if_pos e2, if_pos (by omega)]
      · rw [if_neg e2, if_neg (by omega)], hB⟩

end Go.Proofs.YtgpenpnobjecgaaGreatDoor

/- Hash -/
namespace Go.Proofs.YtgpenpnobjecgaaGreatDoor
set_option maxRecDepth 100000
open Go.RowKit

/-- The cells of a Hash: the register, the rest's 64 bytes, how many were taken. -/
def hashCells (r : Sha.Reg) (rest : List UInt8) (n : Nat) : Array Value := (r.list.map V32 ++ rest.map V8 ++ [Value.int .u64 (n : Int)]).toArray

theorem eight_get (n j : Nat) (h : j < 8) : (Sha.eight n).getD j 0 = UInt8.ofNat (n / 2 ^ (8 * (7 - j))) := by
  simp [Sha.eight, List.getD, h]
def Eight (w : World) (n : Nat) (i : Value) (wr : World) : Prop :=
  ∃ k : Nat, k ≤ 8 ∧ i = .int .i64 k ∧ Arr wr w.heap.size 8 (fun j => if j < k then byteF (Sha.eight n) j else V8 0) ∧ Below w.heap.size w wr

theorem bytes_len (r : Sha.Reg) : (Sha.bytes r).length = 32 := rfl
theorem wbytes_at (r : Sha.Reg) (k : Nat) (h : k < 8) : r.list[k]? = some (r.list.getD k 0) := by
  simp [List.getD, List.getElem?_eq_getElem (show k < r.list.length from h)]
theorem bytes_at (r : Sha.Reg) (k i : Nat) (hk : k < 8) (hi : i < 4) : (Sha.bytes r).getD (4 * k + i) 0 = (Sha.wbytes (r.list.getD k 0)).getD i 0 := by
  have h1 : k = 0 ∨ k = 1 ∨ k = 2 ∨ k = 3 ∨ k = 4 ∨ k = 5 ∨ k = 6 ∨ k = 7 := by omega
  have h2 : i = 0 ∨ i = 1 ∨ i = 2 ∨ i = 3 := by omega
  rcases h1 with rfl | rfl | rfl | rfl | rfl | rfl | rfl | rfl <;> rcases h2 with rfl | rfl | rfl | rfl <;> rfl
theorem bytes4 (r : Sha.Reg) (k : Nat) (hk : k < 8) :
    byteF (Sha.bytes r) (4 * k) = V8 ⟨(r.list[k]?.getD 0#32 >>> 24).setWidth 8⟩ ∧ byteF (Sha.bytes r) (4 * k + 1) = V8 ⟨(r.list[k]?.getD 0#32 >>> 16).setWidth 8⟩ ∧
    byteF (Sha.bytes r) (4 * k + 2) = V8 ⟨(r.list[k]?.getD 0#32 >>> 8).setWidth 8⟩ ∧ byteF (Sha.bytes r) (4 * k + 3) = V8 ⟨(r.list[k]?.getD 0#32).setWidth 8⟩ :=
  ⟨congrArg V8 (bytes_at r k 0 hk (by omega)), congrArg V8 (bytes_at r k 1 hk (by omega)), congrArg V8 (bytes_at r k 2 hk (by omega)), congrArg V8 (bytes_at r k 3 hk (by omega))⟩
/-- Four stores in a row, from 4 k on. -/
theorem Arr.set4 {w : World} {b : Nat} {l : List UInt8} {k : Nat} (h : Arr w b 32 (fun j => if j < 4 * k then byteF l j else V8 0)) (hk : k < 8) :
    Arr ((((w.setCell ⟨b, 4 * k, none⟩ (byteF l (4 * k))).setCell ⟨b, 4 * k + 1, none⟩ (byteF l (4 * k + 1))).setCell ⟨b, 4 * k + 2, none⟩ (byteF l (4 * k + 2))).setCell ⟨b, 4 * k + 3, none⟩ (byteF l (4 * k + 3))) b 32
      (fun j => if j < 4 * (k + 1) then byteF l j else V8 0) := by
  refine ((((h.set (4 * k) _ (by omega)).set (4 * k + 1) _ (by omega)).set (4 * k + 2) _ (by omega)).set (4 * k + 3) _ (by omega)).ext fun j hj => ?_
  by_cases e3 : j = 4 * k + 3
  · subst e3; simp; omega
  by_cases e2 : j = 4 * k + 2
  · subst e2; simp; omega
  by_cases e1 : j = 4 * k + 1
  · subst e1; simp; omega
  by_cases e0 : j = 4 * k
  · subst e0; simp
  rw [if_neg e3, if_neg e2, if_neg e1, if_neg e0]
  by_cases e : j < 4 * k
  · rw [if_pos e, if_pos (by omega)]
  · rw [if_neg e, if_neg (by omega)]
def Out32 (w : World) (r : Sha.Reg) (i : Value) (wr : World) : Prop :=
  ∃ k : Nat, k ≤ 8 ∧ i = .int .i64 k ∧ Arr wr (w.heap.size + 1 + 1) 32 (fun j => if j < 4 * k then byteF (Sha.bytes r) j else V8 0) ∧ Arr wr (w.heap.size + 1) 32 (fun _ => V8 0) ∧ Below w.heap.size w wr

end Go.Proofs.YtgpenpnobjecgaaGreatDoor

/- Ref02 -/
namespace Go.Proofs.YtgpenpnobjecgaaGreatDoor
set_option maxRecDepth 100000
open Go.RowKit

/-- A slice of bytes that may be read: its bytes, its capacity, where it lies. -/
structure Src (w : World) (a : Option Addr) (c : Nat) (l : List UInt8) : Prop where
  at_ : BytesAt w a l
  cap : l.length ≤ c
  nil : a = none → c = 0
  plain : ∀ ad, a = some ad → ∃ b o, ad = ⟨b, o, none⟩ ∧ b < w.heap.size
theorem Src.below {w w' : World} {a : Option Addr} {c : Nat} {l : List UInt8} (h : Src w a c l) (hb : Below w.heap.size w w') : Src w' a c l :=
  ⟨h.at_.below hb, h.cap, h.nil, fun ad had => by obtain ⟨b, o, e, hlt⟩ := h.plain ad had; exact ⟨b, o, e, Nat.lt_of_lt_of_le hlt hb.size⟩⟩
theorem Src.grown {w w' : World} {a : Option Addr} {c k : Nat} {l : List UInt8} (h : Src w a c l) (hg : w.grownBy w' (some k)) (hk : ∀ ad, a = some ad → ad.block ≠ k) : Src w' a c l :=
  ⟨h.at_.grown hg hk, h.cap, h.nil, fun ad had => by obtain ⟨b, o, e, hlt⟩ := h.plain ad had; exact ⟨b, o, e, Nat.lt_of_lt_of_le hlt hg.size⟩⟩
theorem Src.lt {w : World} {a : Option Addr} {c : Nat} {l : List UInt8} (h : Src w a c l) : ∀ ad, a = some ad → ad.block < w.heap.size := fun ad had => by
  obtain ⟨b, o, rfl, hlt⟩ := h.plain ad had; exact hlt
theorem Src.od {w : World} {a : Option Addr} {c : Nat} {l : List UInt8} (h : Src w a c l) : ∀ ad, a = some ad → ∃ b o, ad = ⟨b, o, none⟩ := fun ad had => by
  obtain ⟨b, o, rfl, _⟩ := h.plain ad had; exact ⟨b, o, rfl⟩
theorem Acc.src {w0 w : World} {base : Nat} {A : Option Addr} {C n : Nat} {l : List UInt8} (h : Acc 5 1 w0 w base A C n (l.map V8)) : Src w A C l := by
  have hl : n = l.length := by have := h.length; simp at this; exact this.symm
  refine ⟨h.at_.bytes, by rw [← hl]; exact h.cap, h.nil, fun ad had => ?_⟩
  rcases h.form with ⟨hn, _⟩ | ⟨g, _, hg, _, hs, _⟩
  · rw [had] at hn; cases hn
  · rw [had] at hg
    obtain rfl := Option.some.inj hg
    exact ⟨g, 0, rfl, hs⟩
theorem Acc.len {w0 w : World} {base : Nat} {A : Option Addr} {C n : Nat} {l : List UInt8} (h : Acc 5 1 w0 w base A C n (l.map V8)) : n = l.length := by
  have := h.length; simp at this; exact this.symm

theorem Acc.rebase {e size : Nat} {w0 w1 w : World} {base base' : Nat} {A : Option Addr} {C n : Nat} {cs : List Value} (h : Acc e size w1 w base A C n cs) (hb : base' ≤ base) (hl : Below base' w0 w1) : Acc e size w0 w base' A C n cs := by
  refine ⟨⟨h.own.1, ?_⟩, hl.trans (h.low.mono hb), Nat.le_trans hb h.base_le⟩
  rcases h.own.2 with h1 | ⟨g, cap, cur, hv, hg, r⟩
  · exact .inl h1
  · exact .inr ⟨g, cap, cur, hv, Nat.le_trans hb hg, r⟩
theorem info_u8' : (Tryz.prog.info? 5).map (fun i => (i.zero, i.size, i.bytes)) = some (some (.int .u8 0), 1, 1) := by kernel_rfl
theorem ones' (l : List UInt8) : ∀ u ∈ l.map V8, u.oneCell' = true := by simp [V8, Value.oneCell']

/-- A slice of l in memory of the call's own is handed back. -/
def RetB (w : World) (n : Nat) (l : List UInt8) (e : Ending) (w' : World) : Prop := ∃ B C, e = .returned (.slice B n C) ∧ Acc 5 1 w w' w.heap.size B C n (l.map V8)

def REight (w : World) (n : Nat) (v i : Value) (wr : World) : Prop := ∃ k B C, k ≤ 8 ∧ i = .int .i64 (k : Nat) ∧ v = .slice B k C ∧ Acc 5 1 w wr w.heap.size B C k (((Sha.eight n).take k).map V8)
theorem eight_take (n k : Nat) (h : k < 8) : ((Sha.eight n).take k).map V8 ++ [Value.int .u8 ((n : Int) / 2 ^ (56 - 8 * k) % 256)] = ((Sha.eight n).take (k + 1)).map V8 := by
  have hl : k < (Sha.eight n).length := by simpa [Sha.eight] using h
  have e : Value.int .u8 ((n : Int) / 2 ^ (56 - 8 * k) % 256) = V8 (UInt8.ofNat (n / 2 ^ (8 * (7 - k)))) := by
    rw [V8_ofNat, show 56 - 8 * k = 8 * (7 - k) from by omega]; push_cast; rfl
  rw [List.take_succ_eq_append_getElem hl, List.map_append, e]
  simp [Sha.eight]

/-! ### words -/
theorem words_take (r : Sha.Reg) (k i : Nat) (hk : k < 8) (hi : i < 4) :
    ((Sha.bytes r).take (4 * k + i)).map V8 ++ [V8 ⟨(r.list.getD k 0 >>> (24 - 8 * i)).setWidth 8⟩] = ((Sha.bytes r).take (4 * k + i + 1)).map V8 := by
  have hl : 4 * k + i < (Sha.bytes r).length := by rw [show (Sha.bytes r).length = 32 from rfl]; omega
  have h1 : k = 0 ∨ k = 1 ∨ k = 2 ∨ k = 3 ∨ k = 4 ∨ k = 5 ∨ k = 6 ∨ k = 7 := by omega
  have h2 : i = 0 ∨ i = 1 ∨ i = 2 ∨ i = 3 := by omega
  rcases h1 with rfl | rfl | rfl | rfl | rfl | rfl | rfl | rfl <;> rcases h2 with rfl | rfl | rfl | rfl <;> rfl

end Go.Proofs.YtgpenpnobjecgaaGreatDoor

/- Ref02b -/
namespace Go.Proofs.YtgpenpnobjecgaaGreatDoor
set_option maxRecDepth 100000
open Go.RowKit

theorem in_heap {w : World} {b : Nat} {o : Obj} (h : w.heap[b]? = some o) : b < w.heap.size := (Array.getElem?_eq_some_iff.1 h).1
theorem reg_size (q : Sha.Reg) : (q.list.map V32).toArray.size = 8 := rfl
theorem take_blocks (r : Sha.Reg) (l : List UInt8) (i : Nat) (h : 64 * i + 64 ≤ l.length) :
    Sha.turn (Sha.blocks r (l.take (64 * i))) (fun j => l.getD (64 * i + j) 0) = Sha.blocks r (l.take (64 * (i + 1))) := by
  have e : l.take (64 * (i + 1)) = l.take (64 * i) ++ (l.drop (64 * i)).take 64 := by rw [← List.take_add]; congr 1
  have h1 : (l.take (64 * i)).length = 64 * i := by simp; omega
  have h2 : ((l.drop (64 * i)).take 64).length = 64 := by simp; omega
  rw [e, Sha.blocks_last _ _ _ (by omega) h2]
  apply Sha.turn_congr
  intro j hj
  simp [List.getD, hj]
theorem all_blocks (r : Sha.Reg) (l : List UInt8) (i : Nat) (h : ¬ 64 * i + 64 ≤ l.length) (hi : 64 * i ≤ l.length) : Sha.blocks r (l.take (64 * i)) = Sha.blocks r l := by
  have e : l = l.take (64 * i) ++ l.drop (64 * i) := (List.take_append_drop _ _).symm
  conv => rhs; rw [e]
  rw [Sha.blocks_rest _ _ _ (by simp; omega) (by simp; omega)]

structure BRel (w : World) (r : Sha.Reg) (l : List UInt8) (i : Nat) (wr : World) : Prop where
  le : 64 * i ≤ l.length
  reg : ∃ t, wr.heap[w.heap.size]? = some (.cells ((Sha.blocks r (l.take (64 * i))).list.map V32).toArray t (0, 0))
  out : Arr wr (w.heap.size + 1) 8 (fun _ => V32 0)
  low : Below w.heap.size w wr
def BAt (w : World) (r : Sha.Reg) (l : List UInt8) (v : Value) (wr : World) : Prop := ∃ i : Nat, v = .int .i64 ((64 * i : Nat) : Int) ∧ BRel w r l i wr
theorem BAt.start (t1 t2 : TypeId) (w : World) (r : Sha.Reg) (l : List UInt8) : BAt w r l (.int .i64 0) ((w.alloc (.cells (r.list.map V32).toArray t1)).alloc (.cells (zeros 8) t2)) := by
  have e1 : ∀ o, w.heap.size + 1 = (w.alloc o).heap.size := fun o => by simp
  refine ⟨0, rfl, by omega, ⟨t1, ?_⟩, ?_, ((Below.refl _ _).alloc (Nat.le_refl _) _).alloc (by simp) _⟩
  · rw [Sha.blocks_short _ _ (by simp)]
    exact heap_alloc2_old _ _ _
  · rw [e1]
    exact arr_new (by simp [zeros]) fun j hj => by rw [zeros, List.getElem?_toArray, List.getElem?_replicate, if_pos hj]

/-! ### Total and Sum -/
theorem Acc.lit' {e size : Nat} {w0 w : World} {base g : Nat} (hg : g = w.heap.size) (cs : Array Value) (n : Nat) (hb : Below base w0 w) (hl : base ≤ w.heap.size) (hm : n ≤ maxLen) (hs : cs.size = n * size) :
    Acc e size w0 (w.alloc (.cells cs e)) base (some ⟨g, 0, none⟩) n n cs.toList := by
  subst hg
  exact Acc.lit w base w0 cs n hb hl hm hs
theorem rpad_next (l : List UInt8) (z : Nat) : (l ++ 0x80 :: List.replicate z 0).map V8 ++ [V8 0] = (l ++ 0x80 :: List.replicate (z + 1) 0).map V8 := by
  simp [List.replicate_succ']
theorem rpad_end (l : List UInt8) : (l ++ 0x80 :: List.replicate ((119 - l.length % 64) % 64) 0) ++ Sha.eight (8 * l.length) = l ++ Sha.pad l.length := by
  simp [Sha.pad]
/-- The text that is filled up, w2 being the world in which that was begun. -/
def TAt (w2 : World) (base : Nat) (l : List UInt8) (m : Nat) (v : Value) (wr : World) : Prop :=
  ∃ z B C, z ≤ (119 - m % 64) % 64 ∧ v = .slice B (m + 1 + z) C ∧ Acc 5 1 w2 wr base B C (m + 1 + z) ((l ++ 0x80 :: List.replicate z 0).map V8)
theorem box_reg {w : World} {b : Nat} {r : Sha.Reg} {x y : Value} {t : TypeId} {fr : Nat × Nat} (h : w.heap[b]? = some (.cells #[V32 r.a, V32 r.b, V32 r.c, V32 r.d, V32 r.e, V32 r.f, V32 r.g, V32 r.h, x, y] t fr)) :
    w.cell? ⟨b, 0, none⟩ = some (V32 r.a) ∧ w.cell? ⟨b, 1, none⟩ = some (V32 r.b) ∧ w.cell? ⟨b, 2, none⟩ = some (V32 r.c) ∧ w.cell? ⟨b, 3, none⟩ = some (V32 r.d) ∧
    w.cell? ⟨b, 4, none⟩ = some (V32 r.e) ∧ w.cell? ⟨b, 5, none⟩ = some (V32 r.f) ∧ w.cell? ⟨b, 6, none⟩ = some (V32 r.g) ∧ w.cell? ⟨b, 7, none⟩ = some (V32 r.h) :=
  ⟨cell_block h rfl, cell_block h rfl, cell_block h rfl, cell_block h rfl, cell_block h rfl, cell_block h rfl, cell_block h rfl, cell_block h rfl⟩
theorem rpad_len (l : List UInt8) (m z : Nat) (hm : m = l.length) (hz : z = (119 - m % 64) % 64) : m + 1 + z + 8 = (l ++ Sha.pad m).length ∧ (l ++ 0x80 :: List.replicate z 0).map V8 ++ (Sha.eight (8 * m)).map V8 = (l ++ Sha.pad m).map V8 := by
  subst hm hz
  refine ⟨by rw [List.length_append]; simp [Sha.pad, Sha.eight]; omega, by rw [← rpad_end]; simp⟩
def sumW (r : Sha.Reg) (k : Nat) (j : Nat) : Value := if j < k then byteF (Sha.bytes r) j else V8 0

def CAt (w6 : World) (r : Sha.Reg) (i : Value) (wr : World) : Prop := ∃ k : Nat, k ≤ 32 ∧ i = .int .i64 k ∧ Arr wr w6.heap.size 32 (sumW r k) ∧ Below w6.heap.size w6 wr
theorem CAt.start (w6 : World) (r : Sha.Reg) (t : TypeId) : CAt w6 r (.int .i64 0) (w6.alloc (.cells (zeros8 32) t)) :=
  ⟨0, by omega, rfl, arr_new (zeros8_size 32) fun j hj => by rw [zeros8_at 32 j hj]; simp [sumW], (Below.refl _ _).alloc (Nat.le_refl _) _⟩
theorem CAt.next {w6 wr : World} {r : Sha.Reg} {k : Nat} (hk : k < 32) (h : Arr wr w6.heap.size 32 (sumW r k)) (hB : Below w6.heap.size w6 wr) :
    CAt w6 r (.int .i64 ((k : Int) + 1)) (wr.setCell ⟨w6.heap.size, k, none⟩ (byteF (Sha.bytes r) k)) :=
  ⟨k + 1, by omega, by go_num, (h.set k _ hk).ext fun j _ => by
    unfold sumW
    by_cases e : j = k
    · subst e; simp
    · rw [if_neg e]
      by_cases e2 : j < k
      · rw [if_pos e2, if_pos (by omega)]
      · rw [if_neg e2, if_neg (by omega)], hB.setCell (Nat.le_refl _) _⟩

end Go.Proofs.YtgpenpnobjecgaaGreatDoor

/- Heap -/
namespace Go.Proofs.YtgpenpnobjecgaaGreatDoor
set_option maxRecDepth 100000
open Go.RowKit

theorem size_alloc (w : World) (o : Obj) : (w.alloc o).heap.size = w.heap.size + 1 := by simp
theorem at_new (w : World) (o : Obj) {n : Nat} (h : n = w.heap.size) : (w.alloc o).heap[n]? = some o := by rw [h]; exact heap_alloc_new _ _
theorem at_old {w : World} (o : Obj) {n : Nat} {x : Obj} (h : w.heap[n]? = some x) : (w.alloc o).heap[n]? = some x := (heap_alloc_old w o (in_heap h)).trans h
section
variable (w : World) (o1 o2 o3 o4 o5 : Obj)
theorem blk1 : (w.alloc o1).heap[w.heap.size]? = some o1 := at_new _ _ rfl
theorem blk2 : ((w.alloc o1).alloc o2).heap[w.heap.size]? = some o1 ∧ ((w.alloc o1).alloc o2).heap[w.heap.size + 1]? = some o2 := ⟨at_old _ (blk1 _ _), at_new _ _ (by simp)⟩
theorem blk3 : (((w.alloc o1).alloc o2).alloc o3).heap[w.heap.size]? = some o1 ∧ (((w.alloc o1).alloc o2).alloc o3).heap[w.heap.size + 1]? = some o2 ∧ (((w.alloc o1).alloc o2).alloc o3).heap[w.heap.size + 1 + 1]? = some o3 :=
  ⟨at_old _ (blk2 _ _ _).1, at_old _ (blk2 _ _ _).2, at_new _ _ (by simp)⟩
theorem blk4 : ((((w.alloc o1).alloc o2).alloc o3).alloc o4).heap[w.heap.size]? = some o1 ∧ ((((w.alloc o1).alloc o2).alloc o3).alloc o4).heap[w.heap.size + 1]? = some o2 ∧ ((((w.alloc o1).alloc o2).alloc o3).alloc o4).heap[w.heap.size + 1 + 1]? = some o3 ∧
    ((((w.alloc o1).alloc o2).alloc o3).alloc o4).heap[w.heap.size + 1 + 1 + 1]? = some o4 :=
  ⟨at_old _ (blk3 _ _ _ _).1, at_old _ (blk3 _ _ _ _).2.1, at_old _ (blk3 _ _ _ _).2.2, at_new _ _ (by simp)⟩
theorem blk5 : (((((w.alloc o1).alloc o2).alloc o3).alloc o4).alloc o5).heap[w.heap.size]? = some o1 ∧ (((((w.alloc o1).alloc o2).alloc o3).alloc o4).alloc o5).heap[w.heap.size + 1]? = some o2 ∧
    (((((w.alloc o1).alloc o2).alloc o3).alloc o4).alloc o5).heap[w.heap.size + 1 + 1]? = some o3 ∧ (((((w.alloc o1).alloc o2).alloc o3).alloc o4).alloc o5).heap[w.heap.size + 1 + 1 + 1]? = some o4 ∧
    (((((w.alloc o1).alloc o2).alloc o3).alloc o4).alloc o5).heap[w.heap.size + 1 + 1 + 1 + 1]? = some o5 :=
  ⟨at_old _ (blk4 _ _ _ _ _).1, at_old _ (blk4 _ _ _ _ _).2.1, at_old _ (blk4 _ _ _ _ _).2.2.1, at_old _ (blk4 _ _ _ _ _).2.2.2, at_new _ _ (by simp)⟩
theorem low1 : Below w.heap.size w (w.alloc o1) := (Below.refl _ _).alloc (Nat.le_refl _) _
theorem low2 : Below w.heap.size w ((w.alloc o1).alloc o2) := (low1 _ _).alloc (by simp) _
theorem low3 : Below w.heap.size w (((w.alloc o1).alloc o2).alloc o3) := (low2 _ _ _).alloc (by simp; omega) _
theorem low4 : Below w.heap.size w ((((w.alloc o1).alloc o2).alloc o3).alloc o4) := (low3 _ _ _ _).alloc (by simp; omega) _
theorem low5 : Below w.heap.size w (((((w.alloc o1).alloc o2).alloc o3).alloc o4).alloc o5) := (low4 _ _ _ _ _).alloc (by simp; omega) _
end
/-- One step upon another: what lies below the first world's end stays. -/
theorem bnext {w w1 w2 : World} {n : Nat} (h : Below n w w1) (hn : n ≤ w.heap.size) (h2 : Below w1.heap.size w1 w2) : Below n w w2 := h.trans (h2.mono (Nat.le_trans hn h.size))
theorem bthen {w w1 w2 : World} (h : Below w.heap.size w w1) (h2 : Below w1.heap.size w1 w2) : Below w.heap.size w w2 := bnext h (Nat.le_refl _) h2
theorem bblk {w w1 : World} (h : Below w.heap.size w w1) {b : Nat} {o : Obj} (hb : w.heap[b]? = some o) : w1.heap[b]? = some o := (h.block _ (in_heap hb)).trans hb
/-- A block that is new is written. -/
theorem brow {w w1 : World} (h : Below w.heap.size w w1) {b : Nat} (hb : w.heap.size ≤ b) (cs : Array Value) : Below w.heap.size w (w1.setRow b cs) := Go.Proofs.YtgpenpnobjecgaaGreatDoor.below_setRow h hb _
end Go.Proofs.YtgpenpnobjecgaaGreatDoor
