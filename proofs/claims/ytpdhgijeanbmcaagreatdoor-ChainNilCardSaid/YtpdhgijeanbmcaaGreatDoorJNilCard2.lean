/- chain.Leaf, chain.Node, wicketref25.Leaf, wicketref25.Node. -/
import Derived.Test.YtpdhgijeanbmcaaGreatDoorCards
import Derived.Test.YtpdhgijeanbmcaaGreatDoorTie
import Derived.WalkKit
import Derived.ProofKit
import Derived.OpenShut
import Derived.Carry
import Derived.OpenVars
import Derived.LaidSub
import Derived.Deep.DeepHandedRow
import Derived.Lib.LaidTab
import Derived.Lib.SmallJoins
import Derived.Lib.AppendZerosOnto
import Derived.Laws.CopyOwn
import Derived.Test.YtpdhgijeanbmcaaGreatDoorJNilCard1
/- Ref02 -/
namespace Go.Proofs.YtpdhgijeanbmcaaGreatDoor
set_option maxRecDepth 100000
open Go.RowKit

/-- A slice of bytes that may be read: its bytes, its capacity, where it lies. -/
structure Src (w : World) (a : Option Addr) (c : Nat) (l : List UInt8) : Prop where
  at_ : BytesAt w a l
  cap : l.length ≤ c
  nil : a = none → c = 0
  plain : ∀ ad, a = some ad → ∃ b o, ad = ⟨b, o, none⟩ ∧ b < w.heap.size
theorem Src.below {w w' : World} {a : Option Addr} {c : Nat} {l : List UInt8} (h : Src w a c l) (hb : Below w.heap.size w w') : Src w' a c l :=
  ⟨h.at_.below hb, h.cap, h.nil, fun ad had => by obtain ⟨b, o, e, hlt⟩ := h.plain ad had; exact ⟨b, o, e, Nat.lt_of_lt_of_le hlt hb.size⟩⟩
theorem Src.grown {w w' : World} {a : Option Addr} {c k : Nat} {l : List UInt8} (h : Src w a c l) (hg : w.grownBy w' (some k)) (hk : ∀ ad, a = some ad → ad.block ≠ k) : Src w' a c l :=
  ⟨h.at_.grown hg hk, h.cap, h.nil, fun ad had => by obtain ⟨b, o, e, hlt⟩ := h.plain ad had; exact ⟨b, o, e, Nat.lt_of_lt_of_le hlt hg.size⟩⟩
theorem Src.lt {w : World} {a : Option Addr} {c : Nat} {l : List UInt8} (h : Src w a c l) : ∀ ad, a = some ad → ad.block < w.heap.size := fun ad had => by
  obtain ⟨b, o, rfl, hlt⟩ := h.plain ad had; exact hlt
theorem Src.od {w : World} {a : Option Addr} {c : Nat} {l : List UInt8} (h : Src w a c l) : ∀ ad, a = some ad → ∃ b o, ad = ⟨b, o, none⟩ := fun ad had => by
  obtain ⟨b, o, rfl, _⟩ := h.plain ad had; exact ⟨b, o, rfl⟩
theorem Acc.src {w0 w : World} {base : Nat} {A : Option Addr} {C n : Nat} {l : List UInt8} (h : Acc 5 1 w0 w base A C n (l.map V8)) : Src w A C l := by
  have hl : n = l.length := by have := h.length; simp at this; exact this.symm
  refine ⟨h.at_.bytes, by rw [← hl]; exact h.cap, h.nil, fun ad had => ?_⟩
  rcases h.form with ⟨hn, _⟩ | ⟨g, _, hg, _, hs, _⟩
  · rw [had] at hn; cases hn
  · rw [had] at hg
    obtain rfl := Option.some.inj hg
    exact ⟨g, 0, rfl, hs⟩
theorem Acc.len {w0 w : World} {base : Nat} {A : Option Addr} {C n : Nat} {l : List UInt8} (h : Acc 5 1 w0 w base A C n (l.map V8)) : n = l.length := by
  have := h.length; simp at this; exact this.symm

theorem Acc.rebase {e size : Nat} {w0 w1 w : World} {base base' : Nat} {A : Option Addr} {C n : Nat} {cs : List Value} (h : Acc e size w1 w base A C n cs) (hb : base' ≤ base) (hl : Below base' w0 w1) : Acc e size w0 w base' A C n cs := by
  refine ⟨⟨h.own.1, ?_⟩, hl.trans (h.low.mono hb), Nat.le_trans hb h.base_le⟩
  rcases h.own.2 with h1 | ⟨g, cap, cur, hv, hg, r⟩
  · exact .inl h1
  · exact .inr ⟨g, cap, cur, hv, Nat.le_trans hb hg, r⟩
theorem info_u8' : (Tryz.prog.info? 5).map (fun i => (i.zero, i.size, i.bytes)) = some (some (.int .u8 0), 1, 1) := by kernel_rfl
theorem ones' (l : List UInt8) : ∀ u ∈ l.map V8, u.oneCell' = true := by simp [V8, Value.oneCell']

/-- A slice of l in memory of the call's own is handed back. -/
def RetB (w : World) (n : Nat) (l : List UInt8) (e : Ending) (w' : World) : Prop := ∃ B C, e = .returned (.slice B n C) ∧ Acc 5 1 w w' w.heap.size B C n (l.map V8)

def REight (w : World) (n : Nat) (v i : Value) (wr : World) : Prop := ∃ k B C, k ≤ 8 ∧ i = .int .i64 (k : Nat) ∧ v = .slice B k C ∧ Acc 5 1 w wr w.heap.size B C k (((Sha.eight n).take k).map V8)
theorem eight_take (n k : Nat) (h : k < 8) : ((Sha.eight n).take k).map V8 ++ [Value.int .u8 ((n : Int) / 2 ^ (56 - 8 * k) % 256)] = ((Sha.eight n).take (k + 1)).map V8 := by
  have hl : k < (Sha.eight n).length := by simpa [Sha.eight] using h
  have e : Value.int .u8 ((n : Int) / 2 ^ (56 - 8 * k) % 256) = V8 (UInt8.ofNat (n / 2 ^ (8 * (7 - k)))) := by
    rw [V8_ofNat, show 56 - 8 * k = 8 * (7 - k) from by omega]; push_cast; rfl
  rw [List.take_succ_eq_append_getElem hl, List.map_append, e]
  simp [Sha.eight]

set_option maxRecDepth 100000 in
theorem reight_any (n : Nat) (w : World) : Calls Tryz.prog 73 #[.int .u64 n] w (RetB w 8 (Sha.eight n)) := by
  go_enter Tryz.func73, Tryz.ntmps73
  go_wp2
  go_loopw [3, 4] (fun v i wr => REight w n v i wr) (fun _ i _ => 8 - (intOf i).toNat)
  case atStart => exact ⟨0, none, 0, by omega, rfl, rfl, Acc.start _ _ _ _ _ (Below.refl _ _) (Nat.le_refl _)⟩
  case round =>
    obtain ⟨k, B, C, hk, rfl, rfl, R⟩ := hrel
    by_cases hlt : k < 8
    · have R' := Lib.hid R
      clear R
      have z1 : k + 1 ≤ maxLen := by unfold maxLen; omega
      have z2 : (k + 1) * 1 ≤ 140737488355328 := by omega
      go_wp2_with (at_builtin; refine wpList_acc1 rfl _ _ 51 rfl 5 1 _ Tryz.underlying51 info_u8' rfl w w.heap.size B C k _ (.int .u8 ((n : Int) / 2 ^ (56 - 8 * k) % 256)) rfl R'.out rfl rfl z1 z2 ?_; intro B2 D2 w3 hacc hg3 hnew; have HA := Lib.hid hacc; clear hacc hg3 hnew)
      go_roundw
      case rel => exact ⟨k + 1, B2, D2, by omega, by go_num, rfl, by rw [← eight_take n k hlt]; exact HA.out⟩
      case measure => simp [intOf]; omega
    · obtain rfl : k = 8 := by omega
      go_wp2
      go_ret
      exact ⟨B, C, rfl, R⟩

/-! ### words -/
def RWords (w : World) (r : Sha.Reg) (n : Nat) (v : Value) (wr : World) : Prop :=
  ∃ B C, v = .slice B n C ∧ Acc 5 1 (w.alloc (.cells (r.list.map V32).toArray 108)) wr (w.heap.size + 1) B C n (((Sha.bytes r).take n).map V8)
def RWords1 (w : World) (r : Sha.Reg) (v i : Value) (wr : World) : Prop := ∃ k : Nat, k ≤ 8 ∧ i = .int .i64 k ∧ RWords w r (4 * k) v wr
def RWords2 (w : World) (r : Sha.Reg) (k : Nat) (v j : Value) (wr : World) : Prop := ∃ i : Nat, i ≤ 4 ∧ j = .int .i64 i ∧ RWords w r (4 * k + i) v wr
theorem words_take (r : Sha.Reg) (k i : Nat) (hk : k < 8) (hi : i < 4) :
    ((Sha.bytes r).take (4 * k + i)).map V8 ++ [V8 ⟨(r.list.getD k 0 >>> (24 - 8 * i)).setWidth 8⟩] = ((Sha.bytes r).take (4 * k + i + 1)).map V8 := by
  have hl : 4 * k + i < (Sha.bytes r).length := by rw [show (Sha.bytes r).length = 32 from rfl]; omega
  have h1 : k = 0 ∨ k = 1 ∨ k = 2 ∨ k = 3 ∨ k = 4 ∨ k = 5 ∨ k = 6 ∨ k = 7 := by omega
  have h2 : i = 0 ∨ i = 1 ∨ i = 2 ∨ i = 3 := by omega
  rcases h1 with rfl | rfl | rfl | rfl | rfl | rfl | rfl | rfl <;> rcases h2 with rfl | rfl | rfl | rfl <;> rfl

set_option maxRecDepth 100000 in
set_option maxHeartbeats 1000000 in
theorem rwords_any (r : Sha.Reg) (w : World) : Calls Tryz.prog 74 #[regV r] w (RetB w 32 (Sha.bytes r)) := by
  go_enter Tryz.func74, Tryz.ntmps74
  go_wp2
  go_loopw [3, 4, 5] (fun v i _ wr => RWords1 w r v i wr) (fun _ i _ _ => 8 - (intOf i).toNat)
  case atStart => exact ⟨0, by omega, rfl, none, 0, rfl, Acc.start _ _ _ _ _ (Below.refl _ _) (by simp)⟩
  case round =>
    obtain ⟨k, hk, rfl, B, C, rfl, R⟩ := hrel
    by_cases hlt : k < 8
    · have R' := Lib.hid R
      clear R
      have hj : (k : Int) < 8 := by omega
      go_wp2
      go_loopw [3, 5] (fun v j wr => RWords2 w r k v j wr) (fun _ j _ => 4 - (intOf j).toNat)
      case atStart => exact ⟨0, by omega, rfl, B, C, rfl, R'.out⟩
      case round =>
        clear R'
        obtain ⟨i, hi, rfl, B, C, rfl, R⟩ := hrel
        by_cases hi4 : i < 4
        · have c0 : wr.cell? ⟨w.heap.size, k, none⟩ = some (V32 (r.list.getD k 0)) := (R.low.cell (p := ⟨w.heap.size, k, none⟩) (by show w.heap.size < w.heap.size + 1; omega)).trans (cell_block (heap_alloc_new _ _) (by rw [List.getElem?_toArray, List.getElem?_map, wbytes_at r k hlt]; rfl))
          have R' := Lib.hid R
          clear R
          have z1 : 4 * k + i + 1 ≤ maxLen := by unfold maxLen; omega
          have z2 : (4 * k + i + 1) * 1 ≤ 140737488355328 := by omega
          have s0 : (0 : Int) ≤ 24 - 8 * (i : Int) := by omega
          have s1 : 24 - 8 * (i : Int) ≤ 32 := by omega
          have s3 : 8 * (i : Int) ≤ 24 := by omega
          have s2 : (24 - 8 * (i : Int)).toNat = 24 - 8 * i := by omega
          have hi0 : (0 : Int) ≤ (k : Int) := by omega
          go_wp2_with (at_builtin; refine wpList_acc1 rfl _ _ 51 rfl 5 1 _ Tryz.underlying51 info_u8' rfl (w.alloc (.cells (r.list.map V32).toArray 108)) (w.heap.size + 1) B C (4 * k + i) _ (V8 ⟨(r.list.getD k 0 >>> (24 - 8 * i)).setWidth 8⟩) rfl R'.out rfl rfl z1 z2 ?_; intro B2 D2 w3 hacc hg3 hnew; have HA := Lib.hid hacc; clear hacc hg3 hnew)
          go_roundw
          case rel => exact ⟨i + 1, by omega, by go_num, B2, D2, rfl, by rw [show 4 * k + (i + 1) = 4 * k + i + 1 from rfl, ← words_take r k i hlt hi4]; exact HA.out⟩
          case measure => simp [intOf]; omega
        · obtain rfl : i = 4 := by omega
          go_wp2
          go_roundw
          case rel => exact ⟨k + 1, by omega, by go_num, B, C, rfl, R⟩
          case measure => simp [intOf]; omega
    · obtain rfl : k = 8 := by omega
      go_wp2
      go_ret
      exact ⟨B, C, rfl, R.rebase (by omega) ((Below.refl _ _).alloc (Nat.le_refl _) _)⟩
end Go.Proofs.YtpdhgijeanbmcaaGreatDoor

/- Ref02b -/
namespace Go.Proofs.YtpdhgijeanbmcaaGreatDoor
set_option maxRecDepth 100000
open Go.RowKit

set_option maxRecDepth 100000 in
theorem rbegin_any (w : World) : Calls Tryz.prog 65 #[] w fun e w' => e = .returned (regV Sha.init) ∧ Below w.heap.size w w' := by
  go_enter Tryz.func65, Tryz.ntmps65
  go_wp2
  refine bodyPost_ret (v := regV Sha.init) ?_ rfl ⟨rfl, (Below.refl _ _).alloc (Nat.le_refl _) _⟩
  simp [results, Tryz.results65, go_sem]
  exact ⟨rfl, rfl, rfl, rfl, rfl, rfl, rfl, rfl⟩

theorem in_heap {w : World} {b : Nat} {o : Obj} (h : w.heap[b]? = some o) : b < w.heap.size := (Array.getElem?_eq_some_iff.1 h).1
theorem reg_size (q : Sha.Reg) : (q.list.map V32).toArray.size = 8 := rfl
theorem take_blocks (r : Sha.Reg) (l : List UInt8) (i : Nat) (h : 64 * i + 64 ≤ l.length) :
    Sha.turn (Sha.blocks r (l.take (64 * i))) (fun j => l.getD (64 * i + j) 0) = Sha.blocks r (l.take (64 * (i + 1))) := by
  have e : l.take (64 * (i + 1)) = l.take (64 * i) ++ (l.drop (64 * i)).take 64 := by rw [← List.take_add]; congr 1
  have h1 : (l.take (64 * i)).length = 64 * i := by simp; omega
  have h2 : ((l.drop (64 * i)).take 64).length = 64 := by simp; omega
  rw [e, Sha.blocks_last _ _ _ (by omega) h2]
  apply Sha.turn_congr
  intro j hj
  simp [List.getD, hj]
theorem all_blocks (r : Sha.Reg) (l : List UInt8) (i : Nat) (h : ¬ 64 * i + 64 ≤ l.length) (hi : 64 * i ≤ l.length) : Sha.blocks r (l.take (64 * i)) = Sha.blocks r l := by
  have e : l = l.take (64 * i) ++ l.drop (64 * i) := (List.take_append_drop _ _).symm
  conv => rhs; rw [e]
  rw [Sha.blocks_rest _ _ _ (by simp; omega) (by simp; omega)]

structure BRel (w : World) (r : Sha.Reg) (l : List UInt8) (i : Nat) (wr : World) : Prop where
  le : 64 * i ≤ l.length
  reg : ∃ t, wr.heap[w.heap.size]? = some (.cells ((Sha.blocks r (l.take (64 * i))).list.map V32).toArray t (0, 0))
  out : Arr wr (w.heap.size + 1) 8 (fun _ => V32 0)
  low : Below w.heap.size w wr
def BAt (w : World) (r : Sha.Reg) (l : List UInt8) (v : Value) (wr : World) : Prop := ∃ i : Nat, v = .int .i64 ((64 * i : Nat) : Int) ∧ BRel w r l i wr
theorem BAt.start (t1 t2 : TypeId) (w : World) (r : Sha.Reg) (l : List UInt8) : BAt w r l (.int .i64 0) ((w.alloc (.cells (r.list.map V32).toArray t1)).alloc (.cells (zeros 8) t2)) := by
  have e1 : ∀ o, w.heap.size + 1 = (w.alloc o).heap.size := fun o => by simp
  refine ⟨0, rfl, by omega, ⟨t1, ?_⟩, ?_, ((Below.refl _ _).alloc (Nat.le_refl _) _).alloc (by simp) _⟩
  · rw [Sha.blocks_short _ _ (by simp)]
    exact heap_alloc2_old _ _ _
  · rw [e1]
    exact arr_new (by simp [zeros]) fun j hj => by rw [zeros, List.getElem?_toArray, List.getElem?_replicate, if_pos hj]

set_option maxRecDepth 100000 in
set_option maxHeartbeats 4000000 in
theorem rblocks_any (r : Sha.Reg) (l : List UInt8) (a : Option Addr) (m c : Nat) (w : World) (hm : m = l.length) (hT : Tabs w) (S : Src w a c l) (hlen : l.length < 1152921504606846976) :
    Calls Tryz.prog 75 #[regV r, .slice a m c] w fun e w' => e = .returned (regV (Sha.blocks r l)) ∧ Below w.heap.size w w' := by
  have S' := Lib.hid S
  have Hm := Lib.hid hm
  have hml : m < 1152921504606846976 := by omega
  clear S hm
  go_enter Tryz.func75, Tryz.ntmps75
  go_wp2
  go_loopw [5] (fun i wr => BAt w r l i wr) (fun i _ => m + 1 - (intOf i).toNat)
  case atStart => exact BAt.start _ _ w r l
  case round =>
    obtain ⟨i, rfl, R⟩ := hrel
    obtain ⟨k, hk⟩ : ∃ k, k = 64 * i := ⟨_, rfl⟩
    rw [← hk]
    have hle := R.le
    have hkm : k ≤ m := by have := Hm.out; omega
    have R' := Lib.hid R
    have Hk := Lib.hid hk
    clear R hk hle
    by_cases hlt : (k : Int) + 64 ≤ (m : Int)
    · obtain ⟨b, o, rfl, hsrc⟩ := S'.out.at_.at_ (by have := Hm.out; omega)
      obtain ⟨t, hreg⟩ := R'.out.reg
      obtain ⟨r0, r1, r2, r3, r4, r5, r6, r7⟩ := reg_row hreg
      have Hreg := Lib.hid hreg
      have Hs := Lib.hid hsrc
      have hTr := hT.below R'.out.low
      have hbl : b < w.heap.size := S'.out.lt _ rfl
      have hbr : b < wr.heap.size := Nat.lt_of_lt_of_le hbl R'.out.low.size
      obtain ⟨p, hp⟩ : ∃ p : Nat → UInt8, p = fun j => l.getD (k + j) 0 := ⟨_, rfl⟩
      have hregw : w.heap.size < wr.heap.size := in_heap hreg
      have hsrc2 : ∀ j, j < 64 → wr.cell? ⟨b, o + (k + j), none⟩ = some (V8 (p j)) := fun j hj => by rw [hp]; exact (R'.out.low.cell (p := ⟨b, o + (k + j), none⟩) hbl).trans (hsrc (k + j) (by have := Hm.out; omega))
      have Hs2 := Lib.hid hsrc2
      have Hp := Lib.hid hp
      clear hreg hsrc hsrc2 hp
      go_wp2_with (first | (go_at_call 91; refine (rturn_any (Sha.blocks r (l.take (64 * i))) b o m c k p _ (by omega) (by omega) (by exact hbr) (by exact Hs2.out) (by exact hTr.size.2.2) (by exact hTr.rrootsAt)).mono ?_; rintro e w1 ⟨rfl, hB⟩; have HB := Lib.hid hB; clear hB) | (refine wpList_store_row' rfl 108 _ _ rfl w.heap.size ((Sha.turn (Sha.blocks r (l.take (64 * i))) p).list.map V32).toArray rfl rfl t _ ((HB.out.block _ hregw).trans Hreg.out) (by rw [reg_size]; kernel_rfl) ((reg_size _).trans (reg_size _).symm) (reg_one _) ?_; intro w5 h5 g5 s5; have H5 := Lib.hid h5; have G5 := Lib.hid g5; clear h5 g5 s5))
      go_roundw
      case rel =>
        refine ⟨i + 1, by rw [show ((64 * (i + 1) : Nat) : Int) = (k : Int) + 64 from by have := Hk.out; omega], by have := Hm.out; have := Hk.out; omega, ⟨t, ?_⟩, ?_, ?_⟩
        · rw [← take_blocks r l i (by have := Hm.out; have := Hk.out; omega), ← Hk.out, ← Hp.out]
          have := H5.out
          rw [← Hk.out] at this
          exact this
        · exact (R'.out.out.below HB.out R'.out.out.size).grown G5.out (by omega)
        · exact (R'.out.low.trans (HB.out.mono R'.out.low.size)).grown G5.out (Nat.le_trans R'.out.low.size HB.out.size) (fun k' hk' => by obtain rfl := Option.some.inj hk'; exact Nat.le_refl _)
      case measure => simp [intOf]; omega
    · have hR := R'.out.reg
      rw [all_blocks r l i (by have := Hm.out; have := Hk.out; omega) R'.out.le] at hR
      obtain ⟨t, hreg⟩ := hR
      obtain ⟨old, t', ho, hos, _⟩ := R'.out.out
      have H8 := Lib.hid hreg
      have HO := Lib.hid ho
      have HS := Lib.hid hos
      clear hreg ho hos
      go_wp2_with (first | (refine wpList_load_row rfl 108 _ rfl w.heap.size rfl t _ (0, 0) _ H8.out Tryz.underlying108 rfl (by kernel_rfl) ?_) | (refine wpList_store_row rfl 108 _ _ rfl (w.heap.size + 1) _ rfl rfl t' old HO.out (by kernel_rfl) HS.out (reg_one _) ?_))
      refine bodyPost_ret (results_cell_row rfl _ _ (w.heap.size + 1) t' _ (0, 0) _ rfl (setRow_heap _ _ _ _ _ _ HO.out) Tryz.underlying108 rfl (by kernel_rfl)) rfl ⟨rfl, ?_⟩
      exact Go.Proofs.YtpdhgijeanbmcaaGreatDoor.below_setRow R'.out.low (by omega) _

/-! ### Total and Sum -/
theorem Acc.lit' {e size : Nat} {w0 w : World} {base g : Nat} (hg : g = w.heap.size) (cs : Array Value) (n : Nat) (hb : Below base w0 w) (hl : base ≤ w.heap.size) (hm : n ≤ maxLen) (hs : cs.size = n * size) :
    Acc e size w0 (w.alloc (.cells cs e)) base (some ⟨g, 0, none⟩) n n cs.toList := by
  subst hg
  exact Acc.lit w base w0 cs n hb hl hm hs
theorem rpad_next (l : List UInt8) (z : Nat) : (l ++ 0x80 :: List.replicate z 0).map V8 ++ [V8 0] = (l ++ 0x80 :: List.replicate (z + 1) 0).map V8 := by
  simp [List.replicate_succ']
theorem rpad_end (l : List UInt8) : (l ++ 0x80 :: List.replicate ((119 - l.length % 64) % 64) 0) ++ Sha.eight (8 * l.length) = l ++ Sha.pad l.length := by
  simp [Sha.pad]
/-- The text that is filled up, w2 being the world in which that was begun. -/
def TAt (w2 : World) (base : Nat) (l : List UInt8) (m : Nat) (v : Value) (wr : World) : Prop :=
  ∃ z B C, z ≤ (119 - m % 64) % 64 ∧ v = .slice B (m + 1 + z) C ∧ Acc 5 1 w2 wr base B C (m + 1 + z) ((l ++ 0x80 :: List.replicate z 0).map V8)
theorem box_reg {w : World} {b : Nat} {r : Sha.Reg} {x y : Value} {t : TypeId} {fr : Nat × Nat} (h : w.heap[b]? = some (.cells #[V32 r.a, V32 r.b, V32 r.c, V32 r.d, V32 r.e, V32 r.f, V32 r.g, V32 r.h, x, y] t fr)) :
    w.cell? ⟨b, 0, none⟩ = some (V32 r.a) ∧ w.cell? ⟨b, 1, none⟩ = some (V32 r.b) ∧ w.cell? ⟨b, 2, none⟩ = some (V32 r.c) ∧ w.cell? ⟨b, 3, none⟩ = some (V32 r.d) ∧
    w.cell? ⟨b, 4, none⟩ = some (V32 r.e) ∧ w.cell? ⟨b, 5, none⟩ = some (V32 r.f) ∧ w.cell? ⟨b, 6, none⟩ = some (V32 r.g) ∧ w.cell? ⟨b, 7, none⟩ = some (V32 r.h) :=
  ⟨cell_block h rfl, cell_block h rfl, cell_block h rfl, cell_block h rfl, cell_block h rfl, cell_block h rfl, cell_block h rfl, cell_block h rfl⟩
theorem rpad_len (l : List UInt8) (m z : Nat) (hm : m = l.length) (hz : z = (119 - m % 64) % 64) : m + 1 + z + 8 = (l ++ Sha.pad m).length ∧ (l ++ 0x80 :: List.replicate z 0).map V8 ++ (Sha.eight (8 * m)).map V8 = (l ++ Sha.pad m).map V8 := by
  subst hm hz
  refine ⟨by rw [List.length_append]; simp [Sha.pad, Sha.eight]; omega, by rw [← rpad_end]; simp⟩
def sumW (r : Sha.Reg) (k : Nat) (j : Nat) : Value := if j < k then byteF (Sha.bytes r) j else V8 0

theorem reight_int (x : Int) (n : Nat) (hx : x = (n : Int)) (w : World) : Calls Tryz.prog 73 #[.int .u64 x] w (RetB w 8 (Sha.eight n)) := by
  subst hx
  exact reight_any n w

def CAt (w6 : World) (r : Sha.Reg) (i : Value) (wr : World) : Prop := ∃ k : Nat, k ≤ 32 ∧ i = .int .i64 k ∧ Arr wr w6.heap.size 32 (sumW r k) ∧ Below w6.heap.size w6 wr
theorem CAt.start (w6 : World) (r : Sha.Reg) (t : TypeId) : CAt w6 r (.int .i64 0) (w6.alloc (.cells (zeros8 32) t)) :=
  ⟨0, by omega, rfl, arr_new (zeros8_size 32) fun j hj => by rw [zeros8_at 32 j hj]; simp [sumW], (Below.refl _ _).alloc (Nat.le_refl _) _⟩
theorem CAt.next {w6 wr : World} {r : Sha.Reg} {k : Nat} (hk : k < 32) (h : Arr wr w6.heap.size 32 (sumW r k)) (hB : Below w6.heap.size w6 wr) :
    CAt w6 r (.int .i64 ((k : Int) + 1)) (wr.setCell ⟨w6.heap.size, k, none⟩ (byteF (Sha.bytes r) k)) :=
  ⟨k + 1, by omega, by go_num, (h.set k _ hk).ext fun j _ => by
    unfold sumW
    by_cases e : j = k
    · subst e; simp
    · rw [if_neg e]
      by_cases e2 : j < k
      · rw [if_pos e2, if_pos (by omega)]
      · rw [if_neg e2, if_neg (by omega)], hB.setCell (Nat.le_refl _) _⟩

set_option maxRecDepth 100000 in
set_option maxHeartbeats 4000000 in
theorem rtotal_any (l : List UInt8) (a : Option Addr) (m c : Nat) (w : World) (hm : m = l.length) (hT : Tabs w) (S : Src w a c l) (hlen : l.length < 70368744177664) :
    Calls Tryz.prog 64 #[.agg #[V32 Sha.init.a, V32 Sha.init.b, V32 Sha.init.c, V32 Sha.init.d, V32 Sha.init.e, V32 Sha.init.f, V32 Sha.init.g, V32 Sha.init.h, .int .u64 0, .slice a m c]] w fun e w' =>
      e = .returned (sumV (Sha.sum l)) ∧ Below w.heap.size w w' := by
  have S' := Lib.hid S
  have Hm := Lib.hid hm
  have hml : m < 70368744177664 := by omega
  clear S hm
  have z1 : 0 + m ≤ maxLen := by unfold maxLen; omega
  have z2 : (0 + m) * 1 ≤ 140737488355328 := by omega
  have z3 : m + 1 ≤ maxLen := by unfold maxLen; omega
  have z4 : (m + 1) * 1 ≤ 140737488355328 := by omega
  go_enter Tryz.func64, Tryz.ntmps64
  have hbox : ∀ o o', Below w.heap.size w ((w.alloc o).alloc o') := fun o o' => ((Below.refl _ _).alloc (Nat.le_refl _) _).alloc (by simp) _
  have hbox3 : ∀ o o' o'', Below w.heap.size w (((w.alloc o).alloc o').alloc o'') := fun o o' o'' => (((Below.refl _ _).alloc (Nat.le_refl _) _).alloc (by simp) _).alloc (by simp; omega) _
  have HB := Lib.hid hbox
  have HB3 := Lib.hid hbox3
  clear hbox hbox3
  go_wp2_with (first | (at_builtin; refine wpList_acc rfl _ _ 51 rfl 5 1 1 _ Tryz.underlying51 info_u8' rfl (by decide) _ (w.heap.size + 1 + 1) (some ⟨w.heap.size + 1 + 1, 0, none⟩) 0 0 [] rfl (Acc.lit' (by simp) #[] 0 (Below.refl _ _) (by simp) (by decide) rfl) a m c (l.map V8) rfl (by simp [Hm.out]) (S'.out.below (HB3.out _ _ _)).at_.cells S'.out.nil S'.out.od (ones' l) z1 z2 ?_; intro B1 D1 w1 hacc hg hnew; rw [Nat.zero_add, List.nil_append] at hacc; have HA1 := Lib.hid hacc; clear hacc hg hnew) | (at_builtin; refine wpList_acc1 rfl _ _ 51 rfl 5 1 _ Tryz.underlying51 info_u8' rfl _ (w.heap.size + 1 + 1) B1 D1 m _ (V8 0x80) rfl HA1.out rfl rfl z3 z4 ?_; intro B2 D2 w2 hacc hg hnew; have HA2 := Lib.hid hacc; clear hacc hg hnew))
  have hs0 : TAt w2 (w.heap.size + 1 + 1) l m (.slice B2 (m + 1) D2) w2 := ⟨0, B2, D2, by omega, rfl, by
    have := HA2.out.own
    exact ⟨by simpa using this, Below.refl _ _, HA2.out.base_le⟩⟩
  have Hs0 := Lib.hid hs0
  have hboxc : w2.heap[w.heap.size]? = some (.cells #[V32 Sha.init.a, V32 Sha.init.b, V32 Sha.init.c, V32 Sha.init.d, V32 Sha.init.e, V32 Sha.init.f, V32 Sha.init.g, V32 Sha.init.h, .int .u64 0, .slice a m c] 122 (0, 0)) :=
    (HA2.out.low.block w.heap.size (by omega)).trans (heap_alloc2_old _ _ _)
  have houtc : ∃ old t, w2.heap[w.heap.size + 1]? = some (.cells old t (0, 0)) ∧ old.size = 32 := ⟨_, _, (HA2.out.low.block (w.heap.size + 1) (by omega)).trans (heap_alloc2_new _ _ _), rfl⟩
  obtain ⟨old, ot, ho, hos⟩ := houtc
  have HO := Lib.hid ho
  have HOS := Lib.hid hos
  have HBX := Lib.hid hboxc
  have hlow2 : Below w.heap.size w w2 := (HB.out _ _).trans (HA2.out.low.mono (by omega))
  have HL2 := Lib.hid hlow2
  have hb2 : w.heap.size + 1 + 1 ≤ w2.heap.size := HA2.out.base_le
  clear hs0 hboxc ho hos hlow2 HA1 HA2
  go_loopw [4] (fun v wr => TAt w2 (w.heap.size + 1 + 1) l m v wr) (fun v _ => match v with | .slice _ n _ => m + 66 - n | _ => 0)
  case atStart => exact Hs0.out
  case round =>
    clear Hs0
    obtain ⟨z, B, C, hz, rfl, R⟩ := hrel
    have R' := Lib.hid R
    clear R
    by_cases hlt : z = (119 - m % 64) % 64
    · have ht : (((m : Int) + 1 + (z : Int)) % 64 != 56) = false := by
        simp; omega
      have y1 : m + 1 + z + 8 ≤ maxLen := by unfold maxLen; omega
      have y2 : (m + 1 + z + 8) * 1 ≤ 140737488355328 := by omega
      have hpl := Lib.hid (rpad_len l m z Hm.out hlt)
      clear hlt hz
      go_wp2_with (first | (go_at_call 73; refine (reight_int _ (8 * m) (by omega) _).mono ?_; rintro e w3 ⟨B3, C3, rfl, hE⟩; have HE := Lib.hid hE; clear hE) | (at_builtin; refine wpList_acc rfl _ _ 51 rfl 5 1 1 _ Tryz.underlying51 info_u8' rfl (by decide) w2 (w.heap.size + 1 + 1) B C (m + 1 + z) _ rfl (R'.out.below HE.out.low) B3 8 C3 ((Sha.eight (8 * m)).map V8) rfl rfl HE.out.at_ HE.out.nil HE.out.src.od (ones' _) y1 y2 ?_; intro B4 D4 w4 hacc hg4 hnew; rw [hpl.out.2] at hacc; obtain ⟨q0, q1, q2, q3, q4, q5, q6, q7⟩ := box_reg ((hacc.low.block w.heap.size (by omega)).trans HBX.out); have HA4 := Lib.hid hacc; clear hacc hg4 hnew) | (go_at_call 75; refine (rblocks_any Sha.init (l ++ Sha.pad m) B4 (m + 1 + z + 8) D4 w4 hpl.out.1 (hT.below (HL2.out.trans (HA4.out.low.mono (by omega)))) HA4.out.src (by rw [← hpl.out.1]; omega)).mono ?_; rintro e w5 ⟨rfl, hB5⟩; have HB5 := Lib.hid hB5; clear hB5) | (go_at_call 74; refine (rwords_any (Sha.blocks Sha.init (l ++ Sha.pad m)) _).mono ?_; rintro e w6 ⟨B6, C6, rfl, hW⟩; have HW := Lib.hid hW; clear hW))
      rcases HW.out.form with ⟨_, h0, _⟩ | ⟨g, cur, rfl, hg1, hg2, _⟩
      · omega
      · obtain ⟨b6, o6, hb6, hsrc6⟩ := HW.out.at_.bytes.at_ (by rw [bytes_len]; omega)
        simp only [Option.some.injEq, Addr.mk.injEq, and_true] at hb6
        obtain ⟨rfl, rfl⟩ := hb6
        have Hs6 := Lib.hid hsrc6
        have hlow6 : Below w.heap.size w w6 := ((HL2.out.trans (HA4.out.low.mono (by omega))).trans (HB5.out.mono (by have := HA4.out.base_le; omega))).trans (HW.out.low.mono (by have := HA4.out.base_le; have := HB5.out.size; omega))
        have hout6 : w6.heap[w.heap.size + 1]? = some (.cells old ot (0, 0)) := by
          have i4 := HA4.out.base_le
          have i5 := HB5.out.size
          exact (HW.out.low.block _ (by omega)).trans ((HB5.out.block _ (by omega)).trans ((HA4.out.low.block _ (by omega)).trans HO.out))
        have hsz6 : w.heap.size + 1 < w6.heap.size := in_heap hout6
        have HL6 := Lib.hid hlow6
        have HO6 := Lib.hid hout6
        obtain ⟨q, hq⟩ : ∃ q, q = Sha.blocks Sha.init (l ++ Sha.pad m) := ⟨_, rfl⟩
        rw [← hq] at hsrc6 HW Hs6 ⊢
        have HQ := Lib.hid hq
        clear hsrc6 hlow6 hout6 hq
        go_loopw [7] (fun i wr => CAt w6 q i wr) (fun i _ => 32 - (intOf i).toNat)
        case atStart => exact CAt.start w6 q _
        case round =>
          obtain ⟨k, hk, rfl, A, B⟩ := hrel
          by_cases hk32 : k < 32
          · obtain ⟨v, hv⟩ : ∃ v, V8 v = byteF (Sha.bytes q) k := ⟨_, rfl⟩
            have c0 : wr.cell? ⟨g, k, none⟩ = some (V8 v) := (B.cell (p := ⟨g, k, none⟩) hg2).trans (by rw [hv]; have := Hs6.out k (by rw [bytes_len]; exact hk32); rwa [Nat.zero_add] at this)
            have HV := Lib.hid hv
            have d0 := A.cell k hk32
            have d1 := A.frozen k
            have hi0 : (0 : Int) ≤ (k : Int) := by omega
            have hi1 : (k : Int) < 32 := by omega
            have NX := Lib.hid (CAt.next hk32 A B)
            clear A B hv
            go_wp2
            go_roundw
            case rel => rw [HV.out]; exact NX.out
            case measure => simp [intOf]; omega
          · obtain rfl : k = 32 := by omega
            obtain ⟨t, ht⟩ := (A.ext (g := byteF (Sha.bytes q)) fun j hj => by simp [sumW, hj]).sum (bytes_len q)
            have ht' := Lib.hid ht
            have B' := Lib.hid B
            clear ht A B
            go_wp2_with (first | (refine wpList_load_sum rfl 34 _ rfl w6.heap.size rfl t (Sha.bytes q) 32 (0, 0) _ ht'.out Tryz.underlying34 (by kernel_rfl) rfl ?_) | (refine wpList_store_sum rfl 34 _ _ rfl (w.heap.size + 1) (Sha.bytes q) 32 rfl rfl ot old ((B'.out.block _ hsz6).trans HO6.out) (by kernel_rfl) rfl HOS.out ?_))
            refine bodyPost_ret (results_sum rfl _ _ (w.heap.size + 1) ot (Sha.bytes q) 32 (0, 0) _ rfl (setRow_heap _ _ _ _ _ _ ((B'.out.block _ hsz6).trans HO6.out)) Tryz.underlying34 (by kernel_rfl) rfl) rfl ⟨?_, ?_⟩
            · rw [HQ.out, Hm.out]; rfl
            · exact Go.Proofs.YtpdhgijeanbmcaaGreatDoor.below_setRow (HL6.out.trans (B'.out.mono (by omega))) (by omega) _
    · have ht : (((m : Int) + 1 + (z : Int)) % 64 != 56) = true := by
        simp; omega
      have y1 : m + 1 + z + 1 ≤ maxLen := by unfold maxLen; omega
      have y2 : (m + 1 + z + 1) * 1 ≤ 140737488355328 := by omega
      go_wp2_with (at_builtin; refine wpList_acc1 rfl _ _ 51 rfl 5 1 _ Tryz.underlying51 info_u8' rfl w2 (w.heap.size + 1 + 1) B C (m + 1 + z) _ (V8 0) rfl R'.out rfl rfl y1 y2 ?_; intro B3 D3 w3 hacc hg3 hnew; have HA := Lib.hid hacc; clear hacc hg3 hnew)
      go_roundw
      case rel => exact ⟨z + 1, B3, D3, by omega, rfl, by rw [← rpad_next]; exact HA.out⟩
      case measure => simp; omega

set_option maxRecDepth 100000 in
theorem rsum_any (l : List UInt8) (a : Option Addr) (m c : Nat) (w : World) (hm : m = l.length) (hT : Tabs w) (S : Src w a c l) (hlen : l.length < 70368744177664) :
    Calls Tryz.prog 58 #[.slice a m c] w fun e w' => e = .returned (sumV (Sha.sum l)) ∧ Below w.heap.size w w' := by
  have S' := Lib.hid S
  have Hm := Lib.hid hm
  clear S hm
  have hb1 : ∀ o, Below w.heap.size w (w.alloc o) := fun o => (Below.refl _ _).alloc (Nat.le_refl _) _
  have HB := Lib.hid hb1
  have ho : ∀ o, (w.alloc o).heap[w.heap.size]? = some o := fun o => heap_alloc_new _ _
  have HO := Lib.hid ho
  clear hb1 ho
  go_enter Tryz.func58, Tryz.ntmps58
  go_wp2_with (first | (go_at_call 65; refine (rbegin_any _).mono ?_; rintro e w1 ⟨rfl, hB⟩; have HB1 := Lib.hid hB; clear hB) | (go_at_call 64; refine (rtotal_any l a m c w1 Hm.out ((hT.below (HB.out _)).below HB1.out) ((S'.out.below (HB.out _)).below HB1.out) hlen).mono ?_; rintro e w2 ⟨rfl, hB⟩; have HB2 := Lib.hid hB; clear hB) | (refine wpList_store_sum rfl 34 _ _ rfl w.heap.size (Sha.sum l) 32 rfl rfl _ _ ((HB2.out.block _ (in_heap ((HB1.out.block _ (by simp)).trans (HO.out _)))).trans ((HB1.out.block _ (by simp)).trans (HO.out _))) (by kernel_rfl) rfl rfl ?_))
  have h1 := (HB1.out.block _ (by simp)).trans (HO.out (.cells (zeros8 32) 34))
  refine bodyPost_ret (results_sum rfl _ _ w.heap.size _ (Sha.sum l) 32 (0, 0) _ rfl (setRow_heap _ _ _ _ _ _ ((HB2.out.block _ (in_heap h1)).trans h1)) Tryz.underlying34 (by kernel_rfl) rfl) rfl ⟨rfl, ?_⟩
  refine Go.Proofs.YtpdhgijeanbmcaaGreatDoor.below_setRow (((HB.out _).trans (HB1.out.mono (by simp))).trans (HB2.out.mono ?_)) (Nat.le_refl _) _
  exact Nat.le_trans (by simp) HB1.out.size
end Go.Proofs.YtpdhgijeanbmcaaGreatDoor

/- Heap -/
namespace Go.Proofs.YtpdhgijeanbmcaaGreatDoor
set_option maxRecDepth 100000
open Go.RowKit

theorem size_alloc (w : World) (o : Obj) : (w.alloc o).heap.size = w.heap.size + 1 := by simp
theorem at_new (w : World) (o : Obj) {n : Nat} (h : n = w.heap.size) : (w.alloc o).heap[n]? = some o := by rw [h]; exact heap_alloc_new _ _
theorem at_old {w : World} (o : Obj) {n : Nat} {x : Obj} (h : w.heap[n]? = some x) : (w.alloc o).heap[n]? = some x := (heap_alloc_old w o (in_heap h)).trans h
section
variable (w : World) (o1 o2 o3 o4 o5 : Obj)
theorem blk1 : (w.alloc o1).heap[w.heap.size]? = some o1 := at_new _ _ rfl
theorem blk2 : ((w.alloc o1).alloc o2).heap[w.heap.size]? = some o1 ∧ ((w.alloc o1).alloc o2).heap[w.heap.size + 1]? = some o2 := ⟨at_old _ (blk1 _ _), at_new _ _ (by simp)⟩
theorem blk3 : (((w.alloc o1).alloc o2).alloc o3).heap[w.heap.size]? = some o1 ∧ (((w.alloc o1).alloc o2).alloc o3).heap[w.heap.size + 1]? = some o2 ∧ (((w.alloc o1).alloc o2).alloc o3).heap[w.heap.size + 1 + 1]? = some o3 :=
  ⟨at_old _ (blk2 _ _ _).1, at_old _ (blk2 _ _ _).2, at_new _ _ (by simp)⟩
theorem blk4 : ((((w.alloc o1).alloc o2).alloc o3).alloc o4).heap[w.heap.size]? = some o1 ∧ ((((w.alloc o1).alloc o2).alloc o3).alloc o4).heap[w.heap.size + 1]? = some o2 ∧ ((((w.alloc o1).alloc o2).alloc o3).alloc o4).heap[w.heap.size + 1 + 1]? = some o3 ∧
    ((((w.alloc o1).alloc o2).alloc o3).alloc o4).heap[w.heap.size + 1 + 1 + 1]? = some o4 :=
  ⟨at_old _ (blk3 _ _ _ _).1, at_old _ (blk3 _ _ _ _).2.1, at_old _ (blk3 _ _ _ _).2.2, at_new _ _ (by simp)⟩
theorem blk5 : (((((w.alloc o1).alloc o2).alloc o3).alloc o4).alloc o5).heap[w.heap.size]? = some o1 ∧ (((((w.alloc o1).alloc o2).alloc o3).alloc o4).alloc o5).heap[w.heap.size + 1]? = some o2 ∧
    (((((w.alloc o1).alloc o2).alloc o3).alloc o4).alloc o5).heap[w.heap.size + 1 + 1]? = some o3 ∧ (((((w.alloc o1).alloc o2).alloc o3).alloc o4).alloc o5).heap[w.heap.size + 1 + 1 + 1]? = some o4 ∧
    (((((w.alloc o1).alloc o2).alloc o3).alloc o4).alloc o5).heap[w.heap.size + 1 + 1 + 1 + 1]? = some o5 :=
  ⟨at_old _ (blk4 _ _ _ _ _).1, at_old _ (blk4 _ _ _ _ _).2.1, at_old _ (blk4 _ _ _ _ _).2.2.1, at_old _ (blk4 _ _ _ _ _).2.2.2, at_new _ _ (by simp)⟩
theorem low1 : Below w.heap.size w (w.alloc o1) := (Below.refl _ _).alloc (Nat.le_refl _) _
theorem low2 : Below w.heap.size w ((w.alloc o1).alloc o2) := (low1 _ _).alloc (by simp) _
theorem low3 : Below w.heap.size w (((w.alloc o1).alloc o2).alloc o3) := (low2 _ _ _).alloc (by simp; omega) _
theorem low4 : Below w.heap.size w ((((w.alloc o1).alloc o2).alloc o3).alloc o4) := (low3 _ _ _ _).alloc (by simp; omega) _
theorem low5 : Below w.heap.size w (((((w.alloc o1).alloc o2).alloc o3).alloc o4).alloc o5) := (low4 _ _ _ _ _).alloc (by simp; omega) _
end
/-- One step upon another: what lies below the first world's end stays. -/
theorem bnext {w w1 w2 : World} {n : Nat} (h : Below n w w1) (hn : n ≤ w.heap.size) (h2 : Below w1.heap.size w1 w2) : Below n w w2 := h.trans (h2.mono (Nat.le_trans hn h.size))
theorem bthen {w w1 w2 : World} (h : Below w.heap.size w w1) (h2 : Below w1.heap.size w1 w2) : Below w.heap.size w w2 := bnext h (Nat.le_refl _) h2
theorem bblk {w w1 : World} (h : Below w.heap.size w w1) {b : Nat} {o : Obj} (hb : w.heap[b]? = some o) : w1.heap[b]? = some o := (h.block _ (in_heap hb)).trans hb
/-- A block that is new is written. -/
theorem brow {w w1 : World} (h : Below w.heap.size w w1) {b : Nat} (hb : w.heap.size ≤ b) (cs : Array Value) : Below w.heap.size w (w1.setRow b cs) := Go.Proofs.YtpdhgijeanbmcaaGreatDoor.below_setRow h hb _
end Go.Proofs.YtpdhgijeanbmcaaGreatDoor

/- Low -/
namespace Go.Proofs.YtpdhgijeanbmcaaGreatDoor
set_option maxRecDepth 100000
open Go.RowKit

/-- Nothing old is written. -/
def Low (w w' : World) : Prop := Below w.heap.size w w'
theorem Low.refl (w : World) : Low w w := Below.refl _ _
theorem Low.trans (w w' w'' : World) (h : Low w w') (h' : Low w' w'') : Low w w'' := bthen h h'
theorem Low.drew (w : World) : Low w w.drew := (Below.refl _ _).drew
/-- A new row, as a slice of its whole. -/
def pRow (n : Nat) (cs : Array Value) (t : TypeId) : Post Low := ⟨fun v w => ∃ b, v = .slice (some ⟨b, 0, none⟩) n n ∧ w.heap[b]? = some (.cells cs t (0, 0)), fun _ _ _ ⟨b, e, h⟩ hl => ⟨b, e, bblk hl h⟩⟩
end Go.Proofs.YtpdhgijeanbmcaaGreatDoor

/- Door -/
namespace Go.Proofs.YtpdhgijeanbmcaaGreatDoor
set_option maxRecDepth 100000
open Go.ChangeShapes Go.WideShapes Go.ChangeAt Go.RowKit

theorem own : ownKnob Tryz.prog.godebug = none := by kernel_rfl
theorem laidOut : laidOutB Tryz.prog = true := by kernel_rfl
theorem gFirst : Tryz.prog.globalNamed "wicket/digest.first" = some 0 := by kernel_rfl
theorem gRoots : Tryz.prog.globalNamed "wicket/digest.roots" = some 1 := by kernel_rfl
theorem gRroots : Tryz.prog.globalNamed "wicket/wicketref02.roots" = some 3 := by kernel_rfl
theorem tFirst : (Tryz.prog.globals[0]?).map (·.type) = some 109 := by kernel_rfl
theorem tRoots : (Tryz.prog.globals[1]?).map (·.type) = some 117 := by kernel_rfl
theorem tRroots : (Tryz.prog.globals[3]?).map (·.type) = some 117 := by kernel_rfl
theorem cellsReg : Tryz.prog.cellsOf 109 = 8 := by kernel_rfl
theorem cellsW64 : Tryz.prog.cellsOf 117 = 64 := by kernel_rfl
theorem cellsU32 : Tryz.prog.cellsOf 107 = 1 := by kernel_rfl
theorem cellsU8 : Tryz.prog.cellsOf 5 = 1 := by kernel_rfl

theorem var_block {P : Program} {W : World} {name : String} {g : Nat} {cs : Array Value} (hg : P.globalNamed name = some g) (h : W.var? P name = some cs) : ∃ t fr, W.heap[g]? = some (.cells cs t fr) := by
  unfold World.var? at h
  rw [hg] at h
  simp only [Option.bind_some] at h
  split at h
  · rename_i c t fr hh
    obtain rfl := Option.some.inj h
    exact ⟨t, fr, hh⟩
  · cases h
def rootsZ : List Int := Sha.roots.map Int.ofNat
def firstZ : List Int := [1779033703, 3144134277, 1013904242, 2773480762, 1359893119, 2600822924, 528734635, 1541459225]
theorem rootsZ_cells : (rootsZ.map fun z => Value.int .u32 z).toArray = rootsCells := by kernel_rfl
theorem firstZ_cells : (firstZ.map fun z => Value.int .u32 z).toArray = (Sha.init.list.map V32).toArray := by kernel_rfl
/-- The list of every row of this seat. -/
def laidL : List (String × DataW Unit) := [("wicket/digest.roots", Rows.laid_wicket_digest_roots), ("wicket/digest.first", Rows.laid_wicket_digest_first), ("wicket/wicketref02.roots", Rows.laid_wicket_wicketref02_roots)]
theorem laidL_tab : laidL = [("wicket/digest.roots", Lib.tabData .u32 rootsZ), ("wicket/digest.first", Lib.tabData .u32 firstZ), ("wicket/wicketref02.roots", Lib.tabData .u32 rootsZ)] := by kernel_rfl
theorem laid_tail {P : Program} {W : World} {x : String × DataW Unit} {l : List (String × DataW Unit)} (h : laidMet P (x :: l) W) (hne : ∀ y ∈ l, (y.1 != x.1) = true) : laidMet P l W := by
  have h2 := laidMet.filter (fun y => y.1 != x.1) h
  rw [List.filter_cons_of_neg (by simp), List.filter_eq_self.2 hne] at h2
  exact h2
theorem tail_ne1 {x y : String × DataW Unit} (h1 : (y.1 != x.1) = true) : ∀ z ∈ [y], (z.1 != x.1) = true := by
  intro z hz
  rw [List.mem_singleton] at hz
  subst hz
  exact h1
theorem tail_ne2 {x y y' : String × DataW Unit} (h1 : (y.1 != x.1) = true) (h2 : (y'.1 != x.1) = true) : ∀ z ∈ [y, y'], (z.1 != x.1) = true := by
  intro z hz
  rw [List.mem_cons, List.mem_singleton] at hz
  rcases hz with rfl | rfl
  · exact h1
  · exact h2
theorem tabs_of_laid {W : World} (h : laidMetH Tryz.prog laidL W) : Tabs W := by
  have h1 : laidMet Tryz.prog laidL W := h
  rw [laidL_tab] at h1
  have h2 := laid_tail h1 (tail_ne2 (by decide) (by decide))
  have h3 := laid_tail h2 (tail_ne1 (by decide))
  have a1 := Lib.tabIs_of_head gRoots tRoots Tryz.underlying117 Tryz.underlying107 cellsU32 cellsW64 h1
  have a2 := Lib.tabIs_of_head gFirst tFirst Tryz.underlying109 Tryz.underlying107 cellsU32 cellsReg h2
  have a3 := Lib.tabIs_of_head gRroots tRroots Tryz.underlying117 Tryz.underlying107 cellsU32 cellsW64 h3
  unfold Lib.TabIs at a1 a2 a3
  rw [rootsZ_cells] at a1 a3
  rw [firstZ_cells] at a2
  exact ⟨var_block gFirst a2, var_block gRoots a1, var_block gRroots a3⟩

/-! ### bulk -/
theorem bulk_one {H : Type} (d : DataW H) : 1 ≤ Rows.uptoBulk d := by
  cases d with
  | lit l => cases l <;> simp [Rows.uptoBulk]
  | nil => simp [Rows.uptoBulk]
  | ptr d => simp [Rows.uptoBulk]
  | slice elems spare => simp [Rows.uptoBulk]
  | agg parts => simp [Rows.uptoBulk]
  | iface t d => simp [Rows.uptoBulk]
  | map entries => simp [Rows.uptoBulk]
  | held h => simp [Rows.uptoBulk]
theorem bulk_length {H : Type} : ∀ l : List (DataW H), l.length ≤ Rows.uptoBulkAll l
  | [] => Nat.zero_le _
  | d :: l => by
    have h1 := bulk_one d
    have h2 := bulk_length l
    simp only [Rows.uptoBulkAll, List.length_cons]
    omega

/-! ### readings -/
section
variable {H : Type} {enc : TypeId × Value → H}
set_option maxRecDepth 100000 in
/-- A slice of bytes that came in. -/
theorem open_u8s {W : World} {base : Nat} {v : Value} {d : DataW H} {p : List MemPlace} (hval : Value.okWide Tryz.prog W .any base 51 v) (h : DataW.Trod enc Tryz.prog W 0 (fun _ => true) true 51 v d p) :
    ∃ a m c l, v = .slice a m c ∧ m = l.length ∧ Src W a c l ∧ l.length ≤ Rows.uptoBulk d := by
  obtain ⟨a1, len, cap, rfl⟩ := okWide_slice Tryz.underlying51 hval
  obtain ⟨fuel, hf⟩ := h
  rcases open_ints Tryz.underlying51 Tryz.underlying5 cellsU8 hf with ⟨hcs, hx⟩ | ⟨a, len', cap', zs, hcs, _, hl, hm, hz, hx, hcell, hwz⟩
  · simp [Value.cells] at hcs
    obtain ⟨rfl, rfl, rfl⟩ := hcs
    exact ⟨none, 0, 0, [], rfl, rfl, ⟨BytesAt.nil _ _, Nat.zero_le _, fun _ => rfl, fun _ h => by cases h⟩, Nat.zero_le _⟩
  · simp [Value.cells] at hcs
    obtain ⟨rfl, rfl, rfl⟩ := hcs
    simp only [Prod.mk.injEq] at hx
    obtain ⟨rfl, rfl⟩ := hx
    simp only [if_true] at hz
    have hh : W.has Tryz.prog .any base a 5 cap := by
      simp only [Value.okWide, Tryz.underlying51, Cell.okWide, Cell.ok] at hval
      exact hval.2.2
    obtain ⟨_, hspot, row, cells, hsh, _⟩ := hh
    obtain ⟨ab, ao, spot⟩ := a
    obtain rfl : spot = none := hspot
    have hlen : ((zs.take len).map fun n => UInt8.ofNat n.toNat).length = len := by simp; omega
    refine ⟨some ⟨ab, ao, none⟩, len, cap, (zs.take len).map fun n => UInt8.ofNat n.toNat, rfl, hlen.symm, ⟨⟨fun _ => ⟨ab, ao, rfl, fun j hj => ?_⟩⟩, by rw [hlen]; exact hl, (fun h => by cases h), fun ad had => ⟨ab, ao, (Option.some.inj had).symm, ?_⟩⟩, ?_⟩
    · rw [hlen] at hj
      have hcj := hcell j (by omega)
      rw [Addr.add_lit] at hcj
      rw [hcj]
      have hb := range_u8 hwz j
      have e : zs.getD j 0 = zs[j]'(by omega) := by simp [List.getD, List.getElem?_eq_getElem (show j < zs.length by omega)]
      rw [List.getD_eq_getElem?_getD] at e
      rw [e] at hb
      rw [List.getD_eq_getElem?_getD, e]
      simp only [byteF, V8, List.getD, List.getElem?_map, List.getElem?_take, hj, if_true, List.getElem?_eq_getElem (show j < zs.length by omega), Option.map_some, Option.getD_some]
      congr 2
      simp only [UInt8.toNat_ofNat']
      omega
    · by_cases hb : ab < W.heap.size
      · exact hb
      · simp [World.shape?, Array.getElem?_eq_none (Nat.le_of_not_lt hb)] at hsh
    · rw [hlen]
      have h1 := bulk_length (H := H) (lits .u8 (zs.take len))
      have h2 : (lits (H := H) .u8 (zs.take len)).length = len := by simp [lits]; omega
      simp only [Rows.uptoBulk]
      omega
theorem trodAll_below {W W' : World} (hb : Below W.heap.size W W') : ∀ {ts : List TypeId} {vs : List Value} {ds : List (DataW H)} {p : List MemPlace}, (∀ t ∈ ts, Tryz.prog.readableRec t = true ∧ t < Tryz.prog.types.size) → (∀ x ∈ p, x.block < W.heap.size) →
    DataW.TrodAll enc Tryz.prog W 0 (fun _ => true) true ts vs ds p → DataW.TrodAll enc Tryz.prog W' 0 (fun b => decide (b < W.heap.size)) true ts vs ds p
  | [], _, _, _, _, _, h => by
    obtain ⟨rfl, rfl, rfl⟩ := trodAll_nil h
    exact trodAll_mk0
  | t :: ts, _, _, _, hr, hp, h => by
    obtain ⟨v, vs1, d, ds1, a, b, rfl, rfl, rfl, h1, h2⟩ := trodAll_cons h
    exact trodAll_cons_mk (Below.trod laidOut (hr t (by simp)).1 (hr t (by simp)).2 h1 hb fun x hx => hp x (by simp [hx])) (trodAll_below hb (fun u hu => hr u (by simp [hu])) (fun x hx => hp x (by simp [hx])) h2)
/-- THE CLAIM BEHIND A LAW THAT ANSWERS TRUE AND LEAVES OLD MEMORY ALONE. -/
theorem post_law {f : Func} {s : ChangeSpec} {W W' : World} {args : Array Value} {ds gs : List (DataW H)} {before : List MemPlace} (hv : s.vars = []) (hW : DataW.Whole enc Tryz.prog f.params.toList s.vars false W args.toList ds gs before)
    (hres : (s.fn H (ds ++ gs)).results = [.lit (.bool true)]) (hargs : (s.fn H (ds ++ gs)).args = ds) (hvars : (s.fn H (ds ++ gs)).vars = []) (hrt : f.resultTypes = #[4]) (hB : Below W.heap.size W W') (hr : ∀ t ∈ f.params.toList, Tryz.prog.readableRec t = true ∧ t < Tryz.prog.types.size) :
    s.post enc Tryz.prog f false true false false W args (.bool true) W' := by
  have hlt := fun x hx => hW.lt x hx
  have hW0 := hW
  obtain ⟨p, q, hA, hV, rfl, _, _⟩ := hW
  rw [hv] at hV
  obtain ⟨rfl, rfl⟩ := trodVars_none hV
  refine ⟨ds, _, _, [], p, [], hW0, ?_, ?_, ?_, hB.frame _, fun h => by cases h⟩
  · rw [hres, hrt]
    exact trodAll_cons_mk (shut_bool Tryz.underlying4 _) trodAll_mk0
  · rw [hargs]
    exact trodAll_below hB hr (fun x hx => hlt x (by simp [hx])) hA
  · rw [hvars, hv]
    rfl
end

def setTab (zs : List Int) : Obj → Obj
  | .cells _ t fr => .cells (zs.map fun z => Value.int .u32 z).toArray t fr
  | o => o
/-- A world for the witnesses: the tables hold what the text lays. -/
noncomputable def laidWorld (os : Os) : World :=
  { World.holding Tryz.prog os ⟨#[], #[], []⟩ with heap := (((World.holding Tryz.prog os ⟨#[], #[], []⟩).heap.modify 0 (setTab firstZ)).modify 1 (setTab rootsZ)).modify 3 (setTab rootsZ) }
theorem laid_met (os : Os) (args : Array Value) : laidMet Tryz.prog laidL ((laidWorld os).forCall (fun _ _ => 0) ⟨#[], args, []⟩).memory :=
  laidMet_of_run' 8 (by kernel_rfl) (by kernel_rfl)
end Go.Proofs.YtpdhgijeanbmcaaGreatDoor

/- DoorAct -/
namespace Go.Proofs.YtpdhgijeanbmcaaGreatDoor
set_option maxRecDepth 100000
open Go.Joins Go.ChangeShapes Go.WideShapes Go.ChangeAt Go.RowKit Go.Deep

section
variable {H : Type} {enc : TypeId × Value → H} {P : Program} {w : World} {base : Nat} {spare : Nat → Bool} {held : Bool}
theorem open_agg6 {r : Reach} {b0 : Nat} {t : TypeId} {f0 f1 f2 f3 f4 f5 : Field} {v : Value} {d : DataW H} {p : List MemPlace} (hs : P.underlying t = some (.struct #[f0, f1, f2, f3, f4, f5])) (hone : oneCellFields P #[f0, f1, f2, f3, f4, f5] = true) (hC : P.cellsOf t = 6)
    (hv : Value.okWide P w r b0 t v) (h : DataW.Trod enc P w base spare held t v d p) :
    ∃ (v0 v1 v2 v3 v4 v5 : Value) (y0 y1 y2 y3 y4 y5 : DataW H × List MemPlace) (n : Nat), v = .agg #[v0, v1, v2, v3, v4, v5] ∧ d = .agg [y0.1, y1.1, y2.1, y3.1, y4.1, y5.1] ∧ p = y0.2 ++ (y1.2 ++ (y2.2 ++ (y3.2 ++ (y4.2 ++ y5.2)))) ∧
      DataW.trod enc P w base spare held n f0.type [v0] = some y0 ∧ DataW.trod enc P w base spare held n f1.type [v1] = some y1 ∧ DataW.trod enc P w base spare held n f2.type [v2] = some y2 ∧ DataW.trod enc P w base spare held n f3.type [v3] = some y3 ∧ DataW.trod enc P w base spare held n f4.type [v4] = some y4 ∧ DataW.trod enc P w base spare held n f5.type [v5] = some y5 := by
  obtain ⟨cs, rfl, hsz⟩ := okWide_struct hs hv
  obtain ⟨l⟩ := cs
  match l, hsz.trans hC with
  | [c0, c1, c2, c3, c4, c5], _ =>
    obtain ⟨fuel, hf⟩ := h
    obtain ⟨xs, n, _, hx, _, hlen, hg⟩ := DataW.trod_struct hs hf
    obtain ⟨o0, k0⟩ := hone_of hone 0 f0 rfl
    obtain ⟨o1, k1⟩ := hone_of hone 1 f1 rfl
    obtain ⟨o2, k2⟩ := hone_of hone 2 f2 rfl
    obtain ⟨o3, k3⟩ := hone_of hone 3 f3 rfl
    obtain ⟨o4, k4⟩ := hone_of hone 4 f4 rfl
    obtain ⟨o5, k5⟩ := hone_of hone 5 f5 rfl
    match xs, hlen with
    | [y0, y1, y2, y3, y4, y5], _ =>
      simp only [Prod.mk.injEq] at hx
      exact ⟨c0, c1, c2, c3, c4, c5, y0, y1, y2, y3, y4, y5, n, rfl, by simpa using hx.1, by simpa using hx.2, by simpa [Value.cells, o0, k0] using hg 0 f0 rfl, by simpa [Value.cells, o1, k1] using hg 1 f1 rfl, by simpa [Value.cells, o2, k2] using hg 2 f2 rfl, by simpa [Value.cells, o3, k3] using hg 3 f3 rfl, by simpa [Value.cells, o4, k4] using hg 4 f4 rfl, by simpa [Value.cells, o5, k5] using hg 5 f5 rfl⟩
end
section
variable {H : Type} {enc : TypeId × Value → H}
def actV (k : Int) (at_ : Int) (so : Int) (s : ByteArray) (fr n : Int) : Value := .agg #[.int .i64 k, .int .u64 at_, .int .i64 so, .string s, .int .i64 fr, .int .i64 n]
theorem open_act {W : World} {base : Nat} {v : Value} {d : DataW H} {p : List MemPlace} (hval : Value.okWide Tryz.prog W .any base 24 v) (h : DataW.Trod enc Tryz.prog W 0 (fun _ => true) true 24 v d p) :
    ∃ (k at_ so : Int) (s : ByteArray) (fr n : Int), v = actV k at_ so s fr n := by
  obtain ⟨v0, v1, v2, v3, v4, v5, y0, y1, y2, y3, y4, y5, m, rfl, _, _, h0, h1, h2, h3, h4, h5⟩ := open_agg6 Tryz.underlying24 (by kernel_rfl) (by kernel_rfl) hval h
  obtain ⟨k, e0, _, _⟩ := DataW.trod_int Tryz.underlying3 h0
  obtain ⟨a, e1, _, _⟩ := DataW.trod_int Tryz.underlying22 h1
  obtain ⟨so, e2, _, _⟩ := DataW.trod_int Tryz.underlying3 h2
  obtain ⟨s, e3, _, _⟩ := DataW.trod_string Tryz.underlying9 h3
  obtain ⟨fr, e4, _, _⟩ := DataW.trod_int Tryz.underlying3 h4
  obtain ⟨n, e5, _, _⟩ := DataW.trod_int Tryz.underlying3 h5
  simp only [List.cons.injEq, and_true] at e0 e1 e2 e3 e4 e5
  subst e0 e1 e2 e3 e4 e5
  exact ⟨k, a, so, s, fr, n, rfl⟩
end
end Go.Proofs.YtpdhgijeanbmcaaGreatDoor

/- DoorZ -/
namespace Go.Proofs.YtpdhgijeanbmcaaGreatDoor
set_option maxRecDepth 100000
open Go.ChangeShapes Go.WideShapes Go.ChangeAt Go.RowKit

def laidLZ : List (String × DataW Unit) := [("math/bits.deBruijn32tab", Rows.laid_math_bits_deBruijn32tab), ("math/bits.deBruijn64tab", Rows.laid_math_bits_deBruijn64tab), ("internal/strconv.uint64pow10", Rows.laid_internal_strconv_uint64pow10), ("wicket/digest.roots", Rows.laid_wicket_digest_roots), ("wicket/digest.first", Rows.laid_wicket_digest_first), ("wicket/wicketref02.roots", Rows.laid_wicket_wicketref02_roots)]
theorem all_ne {x : String × DataW Unit} {l : List (String × DataW Unit)} (h : ((l.map (·.1)).all fun s => s != x.1) = true) : ∀ y ∈ l, (y.1 != x.1) = true := by
  intro y hy
  exact List.all_eq_true.1 h y.1 (List.mem_map_of_mem hy)
theorem tabs_of_laidZ {W : World} (h : laidMetH Tryz.prog laidLZ W) : Tabs W := by
  have h1 : laidMet Tryz.prog laidLZ W := h
  unfold laidLZ at h1
  have h2 := laid_tail h1 (all_ne (by decide))
  have h3 := laid_tail h2 (all_ne (by decide))
  have h4 := laid_tail h3 (all_ne (by decide))
  exact tabs_of_laid h4
def valsOf : DataW Unit → List Value
  | .agg ds => ds.map fun d => match d with
    | .lit (.int k z) => .int k z
    | _ => .bool false
  | _ => []
def setCells (vs : List Value) : Obj → Obj
  | .cells _ t fr => .cells vs.toArray t fr
  | o => o
/-- A world for the witnesses: the tables hold what the text lays. -/
noncomputable def laidWorldZ (os : Os) : World :=
  { laidWorld os with heap := (((laidWorld os).heap.modify 4 (setCells (valsOf Rows.laid_math_bits_deBruijn32tab))).modify 5 (setCells (valsOf Rows.laid_math_bits_deBruijn64tab))).modify 2 (setCells (valsOf Rows.laid_internal_strconv_uint64pow10)) }
theorem laid_metZ (os : Os) (args : Array Value) : laidMet Tryz.prog laidLZ ((laidWorldZ os).forCall (fun _ _ => 0) ⟨#[], args, []⟩).memory :=
  laidMet_of_run' 8 (by kernel_rfl) (by kernel_rfl)
end Go.Proofs.YtpdhgijeanbmcaaGreatDoor

/- Cat -/
namespace Go.Proofs.YtpdhgijeanbmcaaGreatDoor
set_option maxRecDepth 100000
open Go.RowKit

set_option maxRecDepth 100000 in
theorem grow_zero (w : World) : Calls Tryz.prog 45 #[.slice none 0 0, .int .i64 0] w fun e w' => e = .returned (.slice none 0 0) ∧ w = w' := by
  go_enter Tryz.func45, Tryz.ntmps45
  go_wp2
  go_ret
  exact ⟨rfl, rfl⟩

theorem info_u8i : ∃ i, Tryz.prog.info? 5 = some i ∧ i.zero = some (.int .u8 0) ∧ i.size = 1 ∧ i.bytes = 1 := ⟨_, rfl, rfl, rfl, rfl⟩

set_option maxRecDepth 100000 in
set_option maxHeartbeats 1000000 in
theorem grow_pos (n : Nat) (h0 : 0 < n) (hn : n ≤ 70368744177664) (w : World) :
    Calls Tryz.prog 45 #[.slice none 0 0, .int .i64 n] w fun e w' => ∃ B C, e = .returned (.slice B 0 C) ∧ Acc 5 1 w w' w.heap.size B C 0 [] := by
  obtain ⟨i, hi, hz, hs, hby⟩ := info_u8i
  have h1 : ¬ ((n : Int) < 0) := by omega
  have h4 : (n : Int) > 0 := by omega
  have hrz : ∀ ty, (Builtin.append_ #[51, 3] ty #[.slice none 0 0, .int .i64 n]).run Tryz.prog w =
      .ok (.slice (some ⟨w.heap.size, 0, none⟩) n (grownCap w n 0 5)) (w.drew.alloc (.cells (Builtin.zeroCells (Value.int .u8 0).cells n ++ Builtin.zeroCells (Value.int .u8 0).cells (grownCap w n 0 5 - n)) 5)) := fun ty =>
    Lib.run_append_nil_zeros w 51 3 ty 5 i (.int .u8 0) .i64 .i64 Tryz.underlying51 Tryz.underlying3 hi hz n h0 (by omega) (by omega) (by rw [hby]; omega)
  have hG := grownCap_ge w n 0 5
  have hGm := grownCap_le_maxLen w n 0 5 (by unfold maxLen; omega)
  have hG63 : grownCap w n 0 5 ≤ 9223372036854775807 := by unfold maxLen at hGm; omega
  have HGm := Lib.hid hGm
  clear hGm
  go_enter Tryz.func45, Tryz.ntmps45
  go_wp2_with (at_builtin; refine Lib.wpList_append_run _ rfl _ _ _ _ rfl _ _ rfl rfl _ _ (hrz _) ?_)
  go_ret
  generalize grownCap w n 0 5 = G at *
  obtain ⟨cs, hcs⟩ : ∃ cs, cs = Builtin.zeroCells (Value.int .u8 0).cells n ++ Builtin.zeroCells (Value.int .u8 0).cells (G - n) := ⟨_, rfl⟩
  have hsz : cs.size = G := by
    rw [hcs]
    simp [Builtin.zeroCells, Value.cells]
    omega
  refine ⟨_, _, rfl, ⟨⟨rfl, .inr ⟨w.heap.size, G, cs, rfl, Nat.le_refl _, ?_, by omega, HGm.out, by omega, by simp⟩⟩, ?_, by simp⟩⟩
  · rw [hcs]
    exact heap_alloc_new _ _
  · exact (Below.refl _ _).drew.alloc (Nat.le_refl _) _

/-! ### Concat -/
structure Part where
  a : Option Addr
  c : Nat
  l : List UInt8
def tot (ps : List Part) (k : Nat) : Nat := ((ps.take k).map (·.l.length)).sum
def cat (ps : List Part) (k : Nat) : List UInt8 := (ps.take k).flatMap (·.l)
theorem cat_length (ps : List Part) (k : Nat) : (cat ps k).length = tot ps k := by rw [cat, tot, List.length_flatMap]
theorem tot_succ (ps : List Part) (k : Nat) (h : k < ps.length) : tot ps (k + 1) = tot ps k + ps[k].l.length := by
  rw [tot, List.take_succ_eq_append_getElem h, List.map_append, List.sum_append]; rfl
theorem cat_succ (ps : List Part) (k : Nat) (h : k < ps.length) : cat ps (k + 1) = cat ps k ++ ps[k].l := by
  rw [cat, List.take_succ_eq_append_getElem h, List.flatMap_append]; simp [cat]
theorem tot_le (ps : List Part) (k : Nat) (h : k ≤ ps.length) : tot ps k ≤ tot ps ps.length := by
  obtain ⟨d, hd⟩ : ∃ d, ps.length = k + d := ⟨ps.length - k, by omega⟩
  rw [hd]
  clear h
  induction d generalizing k with
  | zero => exact Nat.le_refl _
  | succ d ih =>
    have := ih (k + 1) (by omega)
    have := tot_succ ps k (by omega)
    rw [show k + (d + 1) = k + 1 + d by omega]
    omega
structure Parts (w : World) (b : Nat) (ps : List Part) : Prop where
  lt : b < w.heap.size
  at_ : ∀ k (h : k < ps.length), w.cell? ⟨b, k, none⟩ = some (.slice ps[k].a ps[k].l.length ps[k].c)
  src : ∀ k (h : k < ps.length), Src w ps[k].a ps[k].c ps[k].l
theorem Parts.below {w w' : World} {b : Nat} {ps : List Part} (h : Parts w b ps) (hb : Below w.heap.size w w') : Parts w' b ps :=
  ⟨Nat.lt_of_lt_of_le h.lt hb.size, fun k hk => (hb.cell (p := ⟨b, k, none⟩) h.lt).trans (h.at_ k hk), fun k hk => (h.src k hk).below hb⟩

set_option maxRecDepth 100000 in
set_option maxHeartbeats 2000000 in
theorem concat_any (ps : List Part) (b n : Nat) (w : World) (hn : n = ps.length) (hb : Parts w b ps) (hlen : tot ps ps.length ≤ 70368744177664) (hn9 : n ≤ 1000000) (hpos : 0 < tot ps ps.length) :
    Calls Tryz.prog 23 #[.slice (some ⟨b, 0, none⟩) n n] w (RetB w (tot ps ps.length) (cat ps ps.length)) := by
  have HP := Lib.hid hb
  have Hn := Lib.hid hn
  clear hb hn
  have HL := Lib.hid hlen
  clear hlen
  go_enter Tryz.func23, Tryz.ntmps23
  go_wp2
  go_loopw [3, 5, 11] (fun s _ i wr => ∃ k : Nat, k ≤ n ∧ i = .int .i64 k ∧ s = .int .i64 ((tot ps k : Nat) : Int) ∧ w = wr) (fun _ _ i _ => n - (intOf i).toNat)
  case atStart => exact ⟨0, Nat.zero_le _, rfl, rfl, rfl⟩
  case round =>
    obtain ⟨k, hk, rfl, rfl, rfl⟩ := hrel
    by_cases hlt : k < n
    · have hk' : k < ps.length := by have := Hn.out; omega
      have c0 := HP.out.at_ k hk'
      have hs := tot_succ ps k hk'
      have hle := tot_le ps (k + 1) (by omega)
      have hL := HL.out
      obtain ⟨m, hm⟩ : ∃ m, m = ps[k].l.length := ⟨_, rfl⟩
      obtain ⟨s, hsd⟩ : ∃ s, s = tot ps k := ⟨_, rfl⟩
      rw [← hm] at c0 hs
      rw [← hsd] at hs ⊢
      have hb1 : s + m ≤ 70368744177664 := by omega
      have hki : (0 : Int) ≤ k := by omega
      have hki2 : (k : Int) < n := by omega
      have HS := Lib.hid hs
      clear hs hle hL hm hsd
      go_wp2
      go_roundw
      case rel => exact ⟨k + 1, by omega, by go_num, by rw [HS.out]; go_num, trivial⟩
      case measure => simp [intOf]; omega
    · obtain rfl : k = n := by omega
      have hkn : tot ps k = tot ps ps.length := by rw [Hn.out]
      rw [hkn]
      have hL := HL.out
      obtain ⟨T, hT⟩ : ∃ T, T = tot ps ps.length := ⟨_, rfl⟩
      rw [← hT] at hL hpos ⊢
      have HT := Lib.hid hT
      clear hkn hT
      go_wp2_with (go_at_call 45; refine (grow_pos T hpos hL _).mono ?_; rintro e w1 ⟨B, C, rfl, hacc⟩; have HA := Lib.hid hacc; clear hacc)
      go_loopw [6, 8, 27] (fun s _ i wr => ∃ j B C, j ≤ k ∧ i = .int .i64 j ∧ s = .slice B (tot ps j) C ∧ Acc 5 1 w wr w.heap.size B C (tot ps j) ((cat ps j).map V8)) (fun _ _ i _ => k - (intOf i).toNat)
      case atStart => exact ⟨0, B, C, Nat.zero_le _, rfl, rfl, HA.out⟩
      case round =>
        obtain ⟨j, B, C, hj, rfl, rfl, R⟩ := hrel
        have R' := Lib.hid R
        clear R
        by_cases hlt2 : j < k
        · have hj' : j < ps.length := by have := Hn.out; omega
          have hPw := HP.out.below R'.out.low
          have c0 := hPw.at_ j hj'
          have hs := tot_succ ps j hj'
          have hle := tot_le ps (j + 1) (by omega)
          have hsrc := hPw.src j hj'
          have hcat := cat_succ ps j hj'
          obtain ⟨l, hl⟩ : ∃ l, l = ps[j].l := ⟨_, rfl⟩
          rw [← hl] at c0 hs hsrc hcat
          obtain ⟨m, hm⟩ : ∃ m, m = l.length := ⟨_, rfl⟩
          rw [← hm] at c0 hs
          have hL := HL.out
          have z1 : tot ps j + m ≤ maxLen := by unfold maxLen; omega
          have z2 : (tot ps j + m) * 1 ≤ 140737488355328 := by omega
          have hki : (0 : Int) ≤ j := by omega
          have hki2 : (j : Int) < k := by omega
          have HS := Lib.hid hs
          have HC := Lib.hid hcat
          have HSrc := Lib.hid hsrc
          have Hm := Lib.hid hm
          clear hs hle hcat hsrc hL hPw hl hm
          go_wp2_with (at_builtin; refine wpList_acc rfl _ _ 51 rfl 5 1 1 _ Tryz.underlying51 info_u8' rfl (by decide) w w.heap.size B C (tot ps j) _ rfl R'.out ps[j].a m ps[j].c (l.map V8) rfl (by simp [Hm.out]) HSrc.out.at_.cells HSrc.out.nil HSrc.out.od (ones' l) z1 z2 ?_; intro B2 D2 w2 hacc hg hnew; have HA2 := Lib.hid hacc; clear hacc hg hnew)
          go_roundw
          case rel => exact ⟨j + 1, B2, D2, by omega, by go_num, by rw [HS.out], by rw [HS.out, HC.out, List.map_append]; exact HA2.out⟩
          case measure => simp [intOf]; omega
        · obtain rfl : j = k := by omega
          go_wp2
          go_ret
          have hjn : j = ps.length := Hn.out
          subst hjn
          exact ⟨B, C, rfl, R'.out⟩
end Go.Proofs.YtpdhgijeanbmcaaGreatDoor

/- WriteB -/
namespace Go.Proofs.YtpdhgijeanbmcaaGreatDoor
set_option maxRecDepth 100000
open Go.RowKit

theorem hash_size (r : Sha.Reg) (rest : List UInt8) (n : Nat) (h : rest.length = 64) : (hashCells r rest n).size = 73 := by simp [hashCells, Sha.Reg.list, h]
theorem hash_taken (r : Sha.Reg) (rest : List UInt8) (n : Nat) (h : rest.length = 64) : (hashCells r rest n)[72]? = some (.int .u64 (n : Int)) := by
  simp [hashCells, Sha.Reg.list, h]
theorem hash_reg (r : Sha.Reg) (rest : List UInt8) (n j : Nat) (hj : j < 8) : (hashCells r rest n)[j]? = some (regF r j) := by
  have : j = 0 ∨ j = 1 ∨ j = 2 ∨ j = 3 ∨ j = 4 ∨ j = 5 ∨ j = 6 ∨ j = 7 := by omega
  rcases this with rfl | rfl | rfl | rfl | rfl | rfl | rfl | rfl <;> rfl
theorem hash_rest (r : Sha.Reg) (rest : List UInt8) (n j : Nat) (h : rest.length = 64) (hj : j < 64) : (hashCells r rest n)[8 + j]? = some (byteF rest j) := by
  simp only [hashCells, Sha.Reg.list, List.map_cons, List.map_nil, List.cons_append, List.nil_append]
  rw [show 8 + j = j + 1 + 1 + 1 + 1 + 1 + 1 + 1 + 1 from by omega]
  simp [byteF, List.getElem?_append, h, hj]

/-- The block b is a Hash that has taken L. -/
structure HashIs (w : World) (b : Nat) (A q rest : List UInt8) (t : TypeId) : Prop where
  whole : A.length % 64 = 0
  short : q.length < 64
  len : rest.length = 64
  same : ∀ j, j < q.length → rest.getD j 0 = q.getD j 0
  heap : w.heap[b]? = some (.cells (hashCells (Sha.blocks Sha.init A) rest (A ++ q).length) t (0, 0))
def HashAt (w : World) (b : Nat) (L : List UInt8) : Prop := ∃ A q rest t, L = A ++ q ∧ HashIs w b A q rest t

theorem hash_cells {w : World} {b n : Nat} {r : Sha.Reg} {rest : List UInt8} {t : TypeId} (h : w.heap[b]? = some (.cells (hashCells r rest n) t (0, 0))) :
    w.cell? ⟨b, 0, none⟩ = some (V32 r.a) ∧ w.cell? ⟨b, 1, none⟩ = some (V32 r.b) ∧ w.cell? ⟨b, 2, none⟩ = some (V32 r.c) ∧ w.cell? ⟨b, 3, none⟩ = some (V32 r.d) ∧
    w.cell? ⟨b, 4, none⟩ = some (V32 r.e) ∧ w.cell? ⟨b, 5, none⟩ = some (V32 r.f) ∧ w.cell? ⟨b, 6, none⟩ = some (V32 r.g) ∧ w.cell? ⟨b, 7, none⟩ = some (V32 r.h) ∧ ∀ j, w.frozen? ⟨b, j, none⟩ = false :=
  ⟨cell_block h (hash_reg r rest n 0 (by omega)), cell_block h (hash_reg r rest n 1 (by omega)), cell_block h (hash_reg r rest n 2 (by omega)), cell_block h (hash_reg r rest n 3 (by omega)),
   cell_block h (hash_reg r rest n 4 (by omega)), cell_block h (hash_reg r rest n 5 (by omega)), cell_block h (hash_reg r rest n 6 (by omega)), cell_block h (hash_reg r rest n 7 (by omega)), fun j => frozen_of_row w b j _ t h⟩

/-- The register is written anew, cell by cell. -/
def setReg (w : World) (b : Nat) (r : Sha.Reg) : World :=
  (((((((w.setCell ⟨b, 0, none⟩ (V32 r.a)).setCell ⟨b, 1, none⟩ (V32 r.b)).setCell ⟨b, 2, none⟩ (V32 r.c)).setCell ⟨b, 3, none⟩ (V32 r.d)).setCell ⟨b, 4, none⟩ (V32 r.e)).setCell ⟨b, 5, none⟩ (V32 r.f)).setCell
    ⟨b, 6, none⟩ (V32 r.g)).setCell ⟨b, 7, none⟩ (V32 r.h)
theorem setReg_heap {w : World} {b n : Nat} {r : Sha.Reg} {rest : List UInt8} {t : TypeId} (h : w.heap[b]? = some (.cells (hashCells r rest n) t (0, 0))) (r' : Sha.Reg) :
    (setReg w b r').heap[b]? = some (.cells (hashCells r' rest n) t (0, 0)) := by
  unfold setReg
  rw [heap_setCell_same _ _ _ _ _ _ (heap_setCell_same _ _ _ _ _ _ (heap_setCell_same _ _ _ _ _ _ (heap_setCell_same _ _ _ _ _ _ (heap_setCell_same _ _ _ _ _ _ (heap_setCell_same _ _ _ _ _ _ (heap_setCell_same _ _ _ _ _ _ (heap_setCell_same _ _ _ _ _ _ h)))))))]
  simp [hashCells, Sha.Reg.list]
theorem setReg_grown (w : World) (b : Nat) (r : Sha.Reg) : w.grownBy (setReg w b r) (some b) := by
  unfold setReg
  exact grownBy_trans (grownBy_trans (grownBy_trans (grownBy_trans (grownBy_trans (grownBy_trans (grownBy_trans (grownBy_setCell _ _ _ _) (grownBy_setCell _ _ _ _)) (grownBy_setCell _ _ _ _)) (grownBy_setCell _ _ _ _)) (grownBy_setCell _ _ _ _)) (grownBy_setCell _ _ _ _)) (grownBy_setCell _ _ _ _)) (grownBy_setCell _ _ _ _)
theorem setTaken_heap {w : World} {b n : Nat} {r : Sha.Reg} {rest : List UInt8} {t : TypeId} (h : w.heap[b]? = some (.cells (hashCells r rest n) t (0, 0))) (hl : rest.length = 64) (n' : Nat) :
    (w.setCell ⟨b, 72, none⟩ (.int .u64 (n' : Int))).heap[b]? = some (.cells (hashCells r rest n') t (0, 0)) := by
  rw [heap_setCell_same _ _ _ _ _ _ h]
  simp [hashCells, Sha.Reg.list, hl]

structure WRel (w : World) (hb : Nat) (L l : List UInt8) (i : Nat) (A : Option Addr) (C : Nat) (wr : World) : Prop where
  le : i ≤ l.length
  cap : l.length - i ≤ C
  src : BytesAt wr A (l.drop i)
  ne : ∀ ad, A = some ad → ad.block ≠ hb
  hash : HashAt wr hb (L ++ l.take i)
  grown : w.grownBy wr (some hb)
def WAt (w : World) (hb : Nat) (L l : List UInt8) (v : Value) (wr : World) : Prop := ∃ i A C, v = .slice A (l.length - i) C ∧ WRel w hb L l i A C wr

theorem regrown {w : World} {b : Nat} (h : w.heap[b]? ≠ none) : b < w.heap.size := by
  rcases Nat.lt_or_ge b w.heap.size with h' | h'
  · exact h'
  · exact absurd (Array.getElem?_eq_none h') h

/-- A whole block was taken at once. -/
theorem path_whole {w wr w1 : World} {hb i m n C : Nat} {b o : Nat} {L l A q rest : List UInt8} {t : TypeId} {p : Nat → UInt8} (hL : L ++ l.take i = A ++ q) (hq : q.length = 0) (hm : m = l.length - i) (h64 : 64 ≤ m)
    (hn : n = (A ++ q).length) (R : WRel w hb L l i (some ⟨b, o, none⟩) C wr) (I : HashIs wr hb A q rest t) (hp : p = fun j => (l.drop i).getD j 0) (hB : Below wr.drew.heap.size wr.drew w1) :
    WAt w hb L l (.slice (if C = 64 then some ⟨b, o, none⟩ else some ⟨b, o + 64, none⟩) (m - 64) (C - 64)) ((setReg w1 hb (Sha.turn (Sha.blocks Sha.init A) p)).setCell ⟨hb, 72, none⟩ (.int .u64 ((n : Int) + 64))) := by
  obtain rfl : q = [] := List.eq_nil_of_length_eq_zero hq
  have hle := R.le
  have hcap := R.cap
  have hbt : hb < wr.heap.size := regrown (by rw [I.heap]; simp)
  have hheap : w1.heap[hb]? = some (.cells (hashCells (Sha.blocks Sha.init A) rest (A ++ []).length) t (0, 0)) := (hB.block hb hbt).trans I.heap
  have hck : ((l.drop i).take 64).length = 64 := by simp; omega
  have h2 := setTaken_heap (setReg_heap hheap (Sha.turn (Sha.blocks Sha.init A) p)) I.len (n + 64)
  have e72 : ((n + 64 : Nat) : Int) = (n : Int) + 64 := by omega
  rw [e72] at h2
  have hw1 : wr.grownBy w1 (some hb) := grownBy_below (w := wr) ⟨hB.os, hB.tape, hB.output, hB.size, hB.block⟩ _
  have hw2 : w1.grownBy ((setReg w1 hb (Sha.turn (Sha.blocks Sha.init A) p)).setCell ⟨hb, 72, none⟩ (.int .u64 ((n : Int) + 64))) (some hb) := grownBy_trans (setReg_grown _ _ _) (grownBy_setCell _ _ _ _)
  have hne2 : ∀ ad, (if C = 64 then (some ⟨b, o, none⟩ : Option Addr) else some ⟨b, o + 64, none⟩) = some ad → ad.block ≠ hb := by
    intro ad had
    have hb' : ad.block = b := by
      split at had <;> (obtain rfl := Option.some.inj had; rfl)
    rw [hb']
    exact R.ne _ rfl
  refine ⟨i + 64, _, _, by rw [show m - 64 = l.length - (i + 64) from by omega], ⟨by omega, by omega, ?_, hne2, ?_, grownBy_trans R.grown (grownBy_trans hw1 hw2)⟩⟩
  · have hs := R.src.drop (C := C) (by simp; omega) 64 (by simp; omega)
    rw [List.drop_drop] at hs
    have e : (if C = 64 then (some ⟨b, o, none⟩ : Option Addr) else Option.map (fun x : Addr => x.add 64) (some ⟨b, o, none⟩)) = if C = 64 then some ⟨b, o, none⟩ else some ⟨b, o + 64, none⟩ := by
      simp [Addr.add_lit]
    rw [e] at hs
    exact (hs.grown hw1 hne2).grown hw2 hne2
  · refine ⟨A ++ (l.drop i).take 64, [], rest, t, ?_, ?_, by simp, I.len, by simp, ?_⟩
    · rw [List.take_add, ← List.append_assoc, hL]; simp
    · rw [List.length_append, hck]; have := I.whole; omega
    · have e1 : Sha.blocks Sha.init (A ++ (l.drop i).take 64) = Sha.turn (Sha.blocks Sha.init A) p := by
        rw [Sha.blocks_last _ A _ I.whole hck]
        exact Sha.turn_congr _ _ p fun j hj => by rw [hp]; simp [List.getD, hj]
      have e2 : ((A ++ (l.drop i).take 64) ++ []).length = n + 64 := by
        rw [hn]
        simp only [List.length_append, hck, List.length_nil]
      rw [e1, e2]
      exact h2

theorem wpList_copy_hash {P : Program} {w : World} {ops : Array Oper} {rs : List Oper} {o : Oper} {a : Act} {Q : Exit → Act → World → Prop} (hgd : o.guard = none) (d s : Operand) (dT sT : TypeId)
    (ho : o.op = .call { callee := .builtin .copy, args := #[d, s], argTypes := #[dT, sT] }) (elem : TypeId) (hu : P.underlying dT = some (.slice elem)) (hsz : (P.info? elem).map (·.size) = some 1)
    (g e dLen dCap b off sLen sCap : Nat) (hd : a.eval d = .slice (some ⟨g, 8 + e, none⟩) dLen dCap) (hs : a.eval s = .slice (some ⟨b, off, none⟩) sLen sCap)
    (r : Sha.Reg) (rest : List UInt8) (n : Nat) (t : TypeId) (hg : w.heap[g]? = some (.cells (hashCells r rest n) t (0, 0))) (hlen : rest.length = 64) (ck : List UInt8) (hn : ck.length = Nat.min sLen dLen)
    (hsrc : ∀ j, j < ck.length → w.cell? ⟨b, off + j, none⟩ = some (byteF ck j)) (hfit : e + ck.length ≤ 64)
    (h : ∀ w', w'.heap[g]? = some (.cells (hashCells r (rest.take e ++ ck ++ rest.drop (e + ck.length)) n) t (0, 0)) → w.grownBy w' (some g) →
      wpList P ops Q rs (a.put o.dst (.int .i64 (ck.length : Int))) w') : wpList P ops Q (o :: rs) a w := by
  refine wpList_copy_own hgd d s dT sT ho elem hu hsz g (8 + e) dLen dCap ⟨b, off, none⟩ sLen sCap hd hs _ t hg (ck.map V8) (by simpa using hn) ?_ (by simp [hash_size _ _ _ hlen]; omega) (by simp [V8, Value.oneCell']) ?_
  · intro j v hv
    have hj : j < ck.length := by
      have := (List.getElem?_eq_some_iff.1 hv).1
      simpa using this
    rw [Addr.add_lit, hsrc j hj, ← hv]
    simp [byteF, List.getD, List.getElem?_eq_getElem hj]
  · have := h (w.setRow g ((hashCells r rest n).toList.take (8 + e) ++ ((ck.map V8) ++ (hashCells r rest n).toList.drop (8 + e + (ck.map V8).length))).toArray) ?_ (grownBy_setRow _ _ _)
    · simpa [goInt] using this
    · rw [setRow_heap _ _ _ _ _ _ hg]
      congr 3
      have e1 : (hashCells r rest n).toList = r.list.map V32 ++ (rest.map V8 ++ [Value.int .u64 (n : Int)]) := by simp [hashCells]
      have e2 : (r.list.map V32).length = 8 := rfl
      rw [e1, List.take_append, List.drop_append, e2, List.take_of_length_le (by rw [e2]; omega), List.drop_of_length_le (by rw [e2]; omega)]
      rw [show 8 + e - 8 = e from by omega, show 8 + e + (ck.map V8).length - 8 = e + ck.length from by simp; omega]
      rw [List.take_append_of_le_length (by simp; omega), List.drop_append_of_le_length (by simp; omega)]
      simp


/-- Bytes were laid behind the rest's; the block is not full yet. -/
theorem path_part {w wr w2 : World} {hb i m C b o e : Nat} {L l A q rest ck : List UInt8} {t : TypeId} (he : e = q.length) (hL : L ++ l.take i = A ++ q) (hm : m = l.length - i)
    (hck : ck = (l.drop i).take ck.length) (hc0 : ck.length ≤ m) (hq : e + ck.length ≤ 64) (R : WRel w hb L l i (some ⟨b, o, none⟩) C wr) (I : HashIs wr hb A q rest t)
    (hg : wr.grownBy w2 (some hb)) :
    (∀ r', Sha.blocks Sha.init ((A ++ q) ++ ck) = r' → w2.heap[hb]? = some (.cells (hashCells r' (rest.take e ++ ck ++ rest.drop (e + ck.length)) ((A ++ q).length + ck.length)) t (0, 0)) →
      WAt w hb L l (.slice (if C = ck.length then some ⟨b, o, none⟩ else some ⟨b, o + ck.length, none⟩) (m - ck.length) (C - ck.length)) w2) := by
  subst he
  intro r' hr' hheap
  have hle := R.le
  have hcap := R.cap
  have hw1 := I.whole
  have hw2 := I.short
  have hw3 := I.len
  have hne2 : ∀ ad, (if C = ck.length then (some ⟨b, o, none⟩ : Option Addr) else some ⟨b, o + ck.length, none⟩) = some ad → ad.block ≠ hb := by
    intro ad had
    have hb' : ad.block = b := by
      split at had <;> (obtain rfl := Option.some.inj had; rfl)
    rw [hb']
    exact R.ne _ rfl
  refine ⟨i + ck.length, _, _, by rw [show m - ck.length = l.length - (i + ck.length) from by omega], ⟨by omega, by omega, ?_, hne2, ?_, grownBy_trans R.grown hg⟩⟩
  · have hs := R.src.drop (C := C) (by simp; omega) ck.length (by simp; omega)
    rw [List.drop_drop] at hs
    have e : (if C = ck.length then (some ⟨b, o, none⟩ : Option Addr) else Option.map (fun x : Addr => x.add ck.length) (some ⟨b, o, none⟩)) = if C = ck.length then some ⟨b, o, none⟩ else some ⟨b, o + ck.length, none⟩ := by
      simp [Addr.add_lit]
    rw [e] at hs
    exact hs.grown hg hne2
  · have eL : L ++ l.take (i + ck.length) = (A ++ q) ++ ck := by rw [List.take_add, ← List.append_assoc, hL, ← hck]
    have elen : (rest.take q.length ++ ck ++ rest.drop (q.length + ck.length)).length = 64 := by simp; omega
    by_cases hfull : q.length + ck.length = 64
    · refine ⟨(A ++ q) ++ ck, [], _, t, by rw [eL]; simp, ?_, by simp, elen, by simp, ?_⟩
      · simp only [List.length_append]; omega
      · have e2 : (((A ++ q) ++ ck) ++ ([] : List UInt8)).length = (A ++ q).length + ck.length := by simp; omega
        rw [hr', e2]
        exact hheap
    · refine ⟨A, q ++ ck, _, t, by rw [eL, List.append_assoc], hw1, by simp; omega, elen, ?_, ?_⟩
      · intro j hj
        simp only [List.length_append] at hj
        have h3 : (rest.take q.length).length = q.length := by simp; omega
        simp only [List.getD]
        rw [List.append_assoc]
        by_cases h1 : j < q.length
        · rw [List.getElem?_append_left (by rw [h3]; exact h1), List.getElem?_append_left h1, List.getElem?_take_of_lt h1]
          simpa [List.getD] using I.same j h1
        · rw [List.getElem?_append_right (show (rest.take q.length).length ≤ j from by rw [h3]; omega), h3, List.getElem?_append_left (show j - q.length < ck.length from by omega), List.getElem?_append_right (show q.length ≤ j from by omega)]
      · have e1 : Sha.blocks Sha.init A = r' := by
          rw [← hr', List.append_assoc, Sha.blocks_rest _ A (q ++ ck) hw1 (by simp; omega)]
        have e2 : (A ++ (q ++ ck)).length = (A ++ q).length + ck.length := by simp; omega
        rw [e1, e2]
        exact hheap

/-- .. and the block is not full. -/
theorem part_end {w2 : World} {hb n e : Nat} {A q rest ck : List UInt8} {t : TypeId} (he : e = q.length) (hw : A.length % 64 = 0) (hl : rest.length = 64) (hn : n = (A ++ q).length) (hq : e + ck.length ≤ 64) (hf : ((e : Int) + (ck.length : Int) == 64) = false)
    (hh : w2.heap[hb]? = some (.cells (hashCells (Sha.blocks Sha.init A) (rest.take e ++ ck ++ rest.drop (e + ck.length)) (A ++ q).length) t (0, 0))) :
    Sha.blocks Sha.init ((A ++ q) ++ ck) = Sha.blocks Sha.init A ∧
    (w2.setCell ⟨hb, 72, none⟩ (.int .u64 ((n : Int) + (ck.length : Int)))).heap[hb]? = some (.cells (hashCells (Sha.blocks Sha.init A) (rest.take e ++ ck ++ rest.drop (e + ck.length)) ((A ++ q).length + ck.length)) t (0, 0)) := by
  subst he hn
  have hf' : ¬ q.length + ck.length = 64 := by
    intro h
    have : ((q.length : Int) + (ck.length : Int) == 64) = true := by simp; omega
    rw [this] at hf
    cases hf
  refine ⟨by rw [List.append_assoc, Sha.blocks_rest _ A (q ++ ck) hw (by simp; omega)], ?_⟩
  have := setTaken_heap hh (by simp; omega) ((A ++ q).length + ck.length)
  rw [show (((A ++ q).length + ck.length : Nat) : Int) = ((A ++ q).length : Int) + (ck.length : Int) from by omega] at this
  exact this

/-- .. and it is full, and is taken into the register. -/
theorem full_end {w2 w3 : World} {hb n e : Nat} {A q rest ck : List UInt8} {t : TypeId} (he : e = q.length) (hw : A.length % 64 = 0) (hl : rest.length = 64) (hs : ∀ j, j < q.length → rest.getD j 0 = q.getD j 0) (hn : n = (A ++ q).length) (hf : ((e : Int) + (ck.length : Int) == 64) = true)
    (hh : w2.heap[hb]? = some (.cells (hashCells (Sha.blocks Sha.init A) (rest.take e ++ ck ++ rest.drop (e + ck.length)) (A ++ q).length) t (0, 0)))
    (hB : Below (w2.setCell ⟨hb, 72, none⟩ (.int .u64 ((n : Int) + (ck.length : Int)))).heap.size (w2.setCell ⟨hb, 72, none⟩ (.int .u64 ((n : Int) + (ck.length : Int)))) w3) (p : Nat → UInt8)
    (hp : p = fun j => (rest.take e ++ ck ++ rest.drop (e + ck.length)).getD j 0) :
    Sha.blocks Sha.init ((A ++ q) ++ ck) = Sha.turn (Sha.blocks Sha.init A) p ∧
    (setReg w3 hb (Sha.turn (Sha.blocks Sha.init A) p)).heap[hb]? = some (.cells (hashCells (Sha.turn (Sha.blocks Sha.init A) p) (rest.take e ++ ck ++ rest.drop (e + ck.length)) ((A ++ q).length + ck.length)) t (0, 0)) ∧
    w2.grownBy (setReg w3 hb (Sha.turn (Sha.blocks Sha.init A) p)) (some hb) := by
  subst he hn
  have hf' : q.length + ck.length = 64 := by simp at hf; omega
  have hlen : (rest.take q.length ++ ck ++ rest.drop (q.length + ck.length)).length = 64 := by simp; omega
  have hh2 := setTaken_heap hh hlen ((A ++ q).length + ck.length)
  rw [show (((A ++ q).length + ck.length : Nat) : Int) = ((A ++ q).length : Int) + (ck.length : Int) from by omega] at hh2
  have hb3 : hb < (w2.setCell ⟨hb, 72, none⟩ (.int .u64 (((A ++ q).length : Int) + (ck.length : Int)))).heap.size := regrown (by rw [hh2]; simp)
  refine ⟨?_, setReg_heap ((hB.block hb hb3).trans hh2) _, grownBy_trans (grownBy_trans (grownBy_setCell _ _ _ _) (grownBy_below hB _)) (setReg_grown _ _ _)⟩
  rw [List.append_assoc, Sha.blocks_last _ A (q ++ ck) hw (by simp; omega), hp]
  apply Sha.turn_congr
  intro j hj
  have hd : rest.drop (q.length + ck.length) = [] := List.drop_eq_nil_of_le (by omega)
  have h3 : (rest.take q.length).length = q.length := by simp; omega
  simp only [hd, List.append_nil, List.getD]
  by_cases h1 : j < q.length
  · rw [List.getElem?_append_left h1, List.getElem?_append_left (show j < (rest.take q.length).length from by rw [h3]; exact h1), List.getElem?_take_of_lt h1]
    simpa [List.getD] using (hs j h1).symm
  · rw [List.getElem?_append_right (show q.length ≤ j from by omega), List.getElem?_append_right (show (rest.take q.length).length ≤ j from by rw [h3]; omega), h3]

theorem full_heap {w2 : World} {hb n e : Nat} {A q rest ck : List UInt8} {t : TypeId} (hl : rest.length = 64) (hn : n = (A ++ q).length)
    (hh : w2.heap[hb]? = some (.cells (hashCells (Sha.blocks Sha.init A) (rest.take e ++ ck ++ rest.drop (e + ck.length)) (A ++ q).length) t (0, 0))) (hq : e + ck.length ≤ 64) :
    (w2.setCell ⟨hb, 72, none⟩ (.int .u64 ((n : Int) + (ck.length : Int)))).heap[hb]? = some (.cells (hashCells (Sha.blocks Sha.init A) (rest.take e ++ ck ++ rest.drop (e + ck.length)) ((A ++ q).length + ck.length)) t (0, 0)) := by
  subst hn
  have hlen : (rest.take e ++ ck ++ rest.drop (e + ck.length)).length = 64 := by simp; omega
  have hh2 := setTaken_heap hh hlen ((A ++ q).length + ck.length)
  rw [show (((A ++ q).length + ck.length : Nat) : Int) = ((A ++ q).length : Int) + (ck.length : Int) from by omega] at hh2
  exact hh2
theorem full_src {w2 : World} {hb n e : Nat} {A q rest ck : List UInt8} {t : TypeId} (_he : e = q.length) (hl : rest.length = 64) (hn : n = (A ++ q).length) (hq : e + ck.length ≤ 64)
    (hh : w2.heap[hb]? = some (.cells (hashCells (Sha.blocks Sha.init A) (rest.take e ++ ck ++ rest.drop (e + ck.length)) (A ++ q).length) t (0, 0))) {p : Nat → UInt8}
    (hp : p = fun j => (rest.take e ++ ck ++ rest.drop (e + ck.length)).getD j 0) :
    hb < (w2.setCell ⟨hb, 72, none⟩ (.int .u64 ((n : Int) + (ck.length : Int)))).heap.size ∧
    ∀ j, j < 64 → (w2.setCell ⟨hb, 72, none⟩ (.int .u64 ((n : Int) + (ck.length : Int)))).cell? ⟨hb, 8 + j, none⟩ = some (V8 (p j)) := by
  have hh2 := full_heap hl hn hh hq
  have hlen : (rest.take e ++ ck ++ rest.drop (e + ck.length)).length = 64 := by simp; omega
  refine ⟨regrown (by rw [hh2]; simp), fun j hj => ?_⟩
  rw [cell_block hh2 (hash_rest _ _ _ _ hlen hj), hp]
  rfl

end Go.Proofs.YtpdhgijeanbmcaaGreatDoor

/- Write -/
namespace Go.Proofs.YtpdhgijeanbmcaaGreatDoor
set_option maxRecDepth 100000
open Go.RowKit

set_option maxRecDepth 100000 in
set_option maxHeartbeats 8000000 in
theorem write_any (hb : Nat) (L l : List UInt8) (a : Option Addr) (c : Nat) (w : World) (hT : Tabs w) (hN : NoTab hb) (H : HashAt w hb L) (S : BytesAt w a l) (hc : l.length ≤ c)
    (hne : ∀ ad, a = some ad → ad.block ≠ hb) (hlen : L.length + l.length < 4611686018427387904) :
    Calls Tryz.prog 43 #[.pointer (some ⟨hb, 0, none⟩), .slice a l.length c] w fun e w' => e = .returned (.tuple #[]) ∧ HashAt w' hb (L ++ l) ∧ w.grownBy w' (some hb) := by
  have hstart : WAt w hb L l (.slice a l.length c) w := ⟨0, a, c, rfl, by omega, by omega, S, hne, by simpa using H, World.grownBy.refl _ _⟩
  have hs := Lib.hid hstart
  clear hstart H S hne
  go_enter Tryz.func43, Tryz.ntmps43
  go_wp2
  go_loopw [1, 4, 5] (fun v _ _ wr => WAt w hb L l v wr) (fun v _ _ _ => match v with | .slice _ n _ => n | _ => 0)
  case atStart => exact hs.out
  case round =>
    clear hs
    obtain ⟨i, A, C, rfl, R⟩ := hrel
    by_cases hm : l.length - i = 0
    · have hm' : ¬ (0 : Int) < ((l.length - i : Nat) : Int) := by omega
      have R' := Lib.hid R
      clear R
      go_wp2
      go_end0
      have e : l.take i = l := List.take_of_length_le (by omega)
      exact ⟨rfl, by rw [← e]; exact R'.out.hash, R'.out.grown⟩
    · have hm' : (0 : Int) < ((l.length - i : Nat) : Int) := by omega
      obtain ⟨A0, q, rest, t, hL, I⟩ := R.hash
      have hlt := congrArg List.length hL
      simp only [List.length_append, List.length_take] at hlt
      obtain ⟨m, hmm⟩ : ∃ m, m = l.length - i := ⟨_, rfl⟩
      obtain ⟨n, hn⟩ : ∃ n, n = (A0 ++ q).length := ⟨_, rfl⟩
      have hn' := hn
      simp only [List.length_append] at hn'
      have hnlt : n < 4611686018427387904 := by have := R.le; omega
      have hw1 := I.whole
      have hw2 := I.short
      have hnq : n % 64 = q.length := by omega
      have R' := Lib.hid R
      have I' := Lib.hid I
      have h72 : wr.cell? ⟨hb, 72, none⟩ = some (.int .u64 (n : Int)) := cell_block I.heap (by rw [hn]; exact hash_taken _ _ _ I.len)
      have hfr := fun j => frozen_of_row wr hb j _ t I.heap
      rw [← hmm] at hm hm' ⊢
      have hc' : (m : Int) ≤ (C : Int) := by have := R.cap; omega
      have hmC : m ≤ C := by omega
      have Hm := Lib.hid hmm
      have Hn := Lib.hid hn
      have Hn' := Lib.hid hn'
      have Hlt := Lib.hid hlt
      have HL := Lib.hid hL
      have Hq := Lib.hid hnq
      clear hmm hn hn' hlt hL R I hnq hw1 hw2
      by_cases h1 : q.length = 0 ∧ 64 ≤ m
      · have z : ((n : Int) % 64 == 0) = true := by have := Hq.out; simp; omega
        have hm64 : (64 : Int) ≤ (m : Int) := by omega
        have hC64 : (64 : Int) ≤ (C : Int) := by omega
        have H1 := Lib.hid h1
        clear h1
        obtain ⟨b, o, rfl, hsrc⟩ := R'.out.src.at_ (by have := Hm.out; simp; omega)
        obtain ⟨p, hp⟩ : ∃ p : Nat → UInt8, p = fun j => (l.drop i).getD j 0 := ⟨_, rfl⟩
        have hsrc' : ∀ j, j < 64 → wr.cell? ⟨b, o + j, none⟩ = some (V8 (p j)) := fun j hj => by rw [hp]; exact hsrc j (by have := Hm.out; simp; omega)
        have Hp := Lib.hid hp
        clear hp
        have Hs := Lib.hid hsrc'
        have hbl : b < wr.heap.size := World.block_lt_of_cell? wr _ (hsrc' 0 (by omega))
        have hTr := hT.grown R'.out.grown hN
        obtain ⟨r0, r1, r2, r3, r4, r5, r6, r7, rf⟩ := hash_cells I'.out.heap
        have hbt : hb < wr.heap.size := (Array.getElem?_eq_some_iff.1 I'.out.heap).1
        clear hsrc hsrc'
        go_wp2
        go_region_with (go_at_call 55; refine (turn_any (Sha.blocks Sha.init A0) b o 64 64 p _ (by omega) (by exact hbl) (by exact Hs.out) (by exact hTr.size.2.1) (by exact hTr.rootsAt)).mono ?_; rintro e w1 ⟨rfl, hB⟩; have heap1 := (hB.block hb hbt).trans I'.out.heap; obtain ⟨s0, s1, s2, s3, s4, s5, s6, s7, sf⟩ := hash_cells heap1; have s72 : w1.cell? ⟨hb, 72, none⟩ = some (.int .u64 (n : Int)) := (World.cell?_of_block (w := wr) (hB.block hb hbt)).trans h72; have HB := Lib.hid hB; have HH := Lib.hid heap1; clear hB heap1)
        have hfin := fun W => path_whole (w1 := W) HL.out H1.out.1 Hm.out H1.out.2 Hn.out R'.out I'.out Hp.out
        have Hfin := Lib.hid hfin
        clear hfin
        by_cases hC : C = 64
        · have f := Hfin.out w1 HB.out
          rw [if_pos hC] at f
          have F := Lib.hid f
          clear f
          subst hC
          obtain rfl : m = 64 := by omega
          go_wp2
          go_roundw
          case rel => exact F.out
          case measure => simp
        · have f := Hfin.out w1 HB.out
          rw [if_neg hC] at f
          have F := Lib.hid f
          clear f
          go_wp2
          go_roundw
          case rel => exact F.out
          case measure => simp; omega
      · obtain ⟨e, he⟩ : ∃ e, e = q.length := ⟨_, rfl⟩
        obtain ⟨ck, hck⟩ : ∃ ck, ck = (l.drop i).take (min m (64 - e)) := ⟨_, rfl⟩
        have hckl : ck.length = min m (64 - e) := by rw [hck]; simp; have := Hm.out; omega
        have hck2 : ck = (l.drop i).take ck.length := by rw [hckl]; exact hck
        have z : (n : Int) % 64 = (e : Int) := by have := Hq.out; omega
        have hes : e < 64 := by have := I'.out.short; omega
        have hz1 : ck.length ≤ m := by omega
        have hz2 : e + ck.length ≤ 64 := by omega
        have hz3 : 0 < ck.length := by omega
        have hgd : ((e : Int) == 0) = true → ¬ (64 : Int) ≤ (m : Int) := by
          intro h; simp at h; omega
        obtain ⟨b, o, rfl, hsrc⟩ := R'.out.src.at_ (by have := Hm.out; simp; omega)
        have hsrc' : ∀ j, j < ck.length → wr.cell? ⟨b, o + j, none⟩ = some (byteF ck j) := fun j hj => by
          rw [hsrc j (by have := Hm.out; simp; omega), hck2]
          simp [byteF, List.getD, hj]
        have Hs := Lib.hid hsrc'
        have He := Lib.hid he
        have Hck := Lib.hid hck2
        have Hckl := Lib.hid hckl
        have heap0 := Lib.hid I'.out.heap
        have hfin := fun W => path_part (w2 := W) he HL.out Hm.out hck2 hz1 hz2 R'.out I'.out
        have Hfin := Lib.hid hfin
        have Hgd := Lib.hid hgd
        have H1 := Lib.hid h1
        have hTr := hT.grown R'.out.grown hN
        clear hfin hsrc hsrc' he hck hck2 hckl h1
        have he1 : e ≤ 64 := by omega
        have he2 : (e : Int) ≤ 64 := by omega
        have he3 : (0 : Int) ≤ (e : Int) := by omega
        have hne64 : ¬ 64 = e := by omega
        have hzz : (((e : Int) == 0) = true ∧ ¬ (64 : Int) ≤ (m : Int)) ∨ ((e : Int) == 0) = false := by
          by_cases hz : ((e : Int) == 0) = true
          · exact .inl ⟨hz, hgd hz⟩
          · exact .inr (by simpa using hz)
        clear hgd
        by_cases hf : ((e : Int) + (ck.length : Int) == 64) = true
        · by_cases hC : C = ck.length
          · have hC' : m - ck.length = 0 := by omega
            rcases hzz with ⟨z1, z2⟩ | z1
            all_goals
              go_wp2_with (refine wpList_copy_hash rfl _ _ 51 51 rfl 5 Tryz.underlying51 (by kernel_rfl) hb e (64 - e) (64 - e) b o m C rfl rfl _ rest _ t heap0.out I'.out.len ck Hckl.out Hs.out hz2 ?_; intro w2 hh2 hg2; obtain ⟨s0, s1, s2, s3, s4, s5, s6, s7, sf⟩ := hash_cells hh2; have s72 := cell_block hh2 (hash_taken _ _ _ (by simp; have := I'.out.len; omega)); rw [← Hn.out] at s72; have HH := Lib.hid hh2; have HG := Lib.hid hg2; clear hh2 hg2)
              obtain ⟨p, hp⟩ : ∃ p : Nat → UInt8, p = fun j => (rest.take e ++ ck ++ rest.drop (e + ck.length)).getD j 0 := ⟨_, rfl⟩
              have Hp := Lib.hid hp
              clear hp
              have hW := Lib.hid (full_src He.out I'.out.len Hn.out hz2 HH.out Hp.out)
              have hT2 : Tabs (w2.setCell ⟨hb, 72, none⟩ (.int .u64 ((n : Int) + (ck.length : Int)))) := (hTr.grown HG.out hN).grown (grownBy_setCell _ _ _ _) hN
              go_region_with (go_at_call 55; refine (turn_any (Sha.blocks Sha.init A0) hb 8 64 64 p _ (by omega) (by exact hW.out.1) (by exact hW.out.2) (by exact hT2.size.2.1) (by exact hT2.rootsAt)).mono ?_; rintro e' w3 ⟨rfl, hB⟩; have hB' : Below _ (w2.setCell ⟨hb, 72, none⟩ (.int .u64 ((n : Int) + (ck.length : Int)))) w3 := ⟨hB.os, hB.tape, hB.output, hB.size, hB.block⟩; have HB := Lib.hid hB'; obtain ⟨u0, u1, u2, u3, u4, u5, u6, u7, uf⟩ := hash_cells ((hB.block hb hW.out.1).trans (full_heap I'.out.len Hn.out HH.out hz2)); clear hB hB')
              go_wp2
              go_roundw
              case rel =>
                have h3 := full_end He.out I'.out.whole I'.out.len I'.out.same Hn.out hf HH.out HB.out p Hp.out
                have h := Hfin.out _ (grownBy_trans HG.out h3.2.2) _ h3.1 h3.2.1
                rw [if_pos hC, hC', show C - ck.length = 0 from by omega] at h
                exact h
              case measure => simp; omega
          · rcases hzz with ⟨z1, z2⟩ | z1
            all_goals
              go_wp2_with (refine wpList_copy_hash rfl _ _ 51 51 rfl 5 Tryz.underlying51 (by kernel_rfl) hb e (64 - e) (64 - e) b o m C rfl rfl _ rest _ t heap0.out I'.out.len ck Hckl.out Hs.out hz2 ?_; intro w2 hh2 hg2; obtain ⟨s0, s1, s2, s3, s4, s5, s6, s7, sf⟩ := hash_cells hh2; have s72 := cell_block hh2 (hash_taken _ _ _ (by simp; have := I'.out.len; omega)); rw [← Hn.out] at s72; have HH := Lib.hid hh2; have HG := Lib.hid hg2; clear hh2 hg2)
              obtain ⟨p, hp⟩ : ∃ p : Nat → UInt8, p = fun j => (rest.take e ++ ck ++ rest.drop (e + ck.length)).getD j 0 := ⟨_, rfl⟩
              have Hp := Lib.hid hp
              clear hp
              have hW := Lib.hid (full_src He.out I'.out.len Hn.out hz2 HH.out Hp.out)
              have hT2 : Tabs (w2.setCell ⟨hb, 72, none⟩ (.int .u64 ((n : Int) + (ck.length : Int)))) := (hTr.grown HG.out hN).grown (grownBy_setCell _ _ _ _) hN
              go_region_with (go_at_call 55; refine (turn_any (Sha.blocks Sha.init A0) hb 8 64 64 p _ (by omega) (by exact hW.out.1) (by exact hW.out.2) (by exact hT2.size.2.1) (by exact hT2.rootsAt)).mono ?_; rintro e' w3 ⟨rfl, hB⟩; have hB' : Below _ (w2.setCell ⟨hb, 72, none⟩ (.int .u64 ((n : Int) + (ck.length : Int)))) w3 := ⟨hB.os, hB.tape, hB.output, hB.size, hB.block⟩; have HB := Lib.hid hB'; obtain ⟨u0, u1, u2, u3, u4, u5, u6, u7, uf⟩ := hash_cells ((hB.block hb hW.out.1).trans (full_heap I'.out.len Hn.out HH.out hz2)); clear hB hB')
              go_wp2
              go_roundw
              case rel =>
                have h3 := full_end He.out I'.out.whole I'.out.len I'.out.same Hn.out hf HH.out HB.out p Hp.out
                have h := Hfin.out _ (grownBy_trans HG.out h3.2.2) _ h3.1 h3.2.1
                rw [if_neg hC] at h
                exact h
              case measure => simp; omega
        · have hf' : ((e : Int) + (ck.length : Int) == 64) = false := by simpa using hf
          clear hf
          by_cases hC : C = ck.length
          · have hC' : m - ck.length = 0 := by omega
            rcases hzz with ⟨z1, z2⟩ | z1
            all_goals
              go_wp2_with (refine wpList_copy_hash rfl _ _ 51 51 rfl 5 Tryz.underlying51 (by kernel_rfl) hb e (64 - e) (64 - e) b o m C rfl rfl _ rest _ t heap0.out I'.out.len ck Hckl.out Hs.out hz2 ?_; intro w2 hh2 hg2; obtain ⟨s0, s1, s2, s3, s4, s5, s6, s7, sf⟩ := hash_cells hh2; have s72 := cell_block hh2 (hash_taken _ _ _ (by simp; have := I'.out.len; omega)); rw [← Hn.out] at s72; have HH := Lib.hid hh2; have HG := Lib.hid hg2; clear hh2 hg2)
              have hw2 := Lib.hid (part_end He.out I'.out.whole I'.out.len Hn.out hz2 hf' HH.out)
              go_roundw
              case rel =>
                have h := Hfin.out _ (grownBy_trans HG.out (grownBy_setCell _ _ _ _)) _ hw2.out.1 hw2.out.2
                rw [if_pos hC, hC', show C - ck.length = 0 from by omega] at h
                exact h
              case measure => simp; omega
          · rcases hzz with ⟨z1, z2⟩ | z1
            all_goals
              go_wp2_with (refine wpList_copy_hash rfl _ _ 51 51 rfl 5 Tryz.underlying51 (by kernel_rfl) hb e (64 - e) (64 - e) b o m C rfl rfl _ rest _ t heap0.out I'.out.len ck Hckl.out Hs.out hz2 ?_; intro w2 hh2 hg2; obtain ⟨s0, s1, s2, s3, s4, s5, s6, s7, sf⟩ := hash_cells hh2; have s72 := cell_block hh2 (hash_taken _ _ _ (by simp; have := I'.out.len; omega)); rw [← Hn.out] at s72; have HH := Lib.hid hh2; have HG := Lib.hid hg2; clear hh2 hg2)
              have hw2 := Lib.hid (part_end He.out I'.out.whole I'.out.len Hn.out hz2 hf' HH.out)
              go_roundw
              case rel =>
                have h := Hfin.out _ (grownBy_trans HG.out (grownBy_setCell _ _ _ _)) _ hw2.out.1 hw2.out.2
                rw [if_neg hC] at h
                exact h
              case measure => simp; omega
end Go.Proofs.YtpdhgijeanbmcaaGreatDoor

/- HSum -/
namespace Go.Proofs.YtpdhgijeanbmcaaGreatDoor
set_option maxRecDepth 100000
open Go.RowKit

theorem info_u8 : (Tryz.prog.info? 5).map (fun i => (i.zero, i.size, i.bytes)) = some (some (.int .u8 0), 1, 1) := by kernel_rfl

theorem hash_one (r : Sha.Reg) (rest : List UInt8) (n : Nat) : (hashCells r rest n).all (·.oneCell') = true := by
  simp [hashCells, Sha.Reg.list, V32, V8, Value.oneCell']
theorem ones (l : List UInt8) : ∀ u ∈ l.map V8, u.oneCell' = true := by simp [V8, Value.oneCell']
theorem arr_src {w : World} {b : Nat} {l : List UInt8} (h : Arr w b l.length (byteF l)) : BytesAt w (some ⟨b, 0, none⟩) l :=
  ⟨fun _ => ⟨b, 0, rfl, fun j hj => by rw [Nat.zero_add]; exact h.cell j hj⟩⟩
def filled (z : Nat) : List UInt8 := 0x80 :: List.replicate z 0
theorem filled_next (z : Nat) : (filled z).map V8 ++ [V8 0] = (filled (z + 1)).map V8 := by
  simp [filled, List.replicate_succ']
theorem pad_length (n : Nat) : (Sha.pad n).length = (119 - n % 64) % 64 + 1 + 8 := by
  simp [Sha.pad, Sha.eight]
theorem pad_filled (n : Nat) : filled ((119 - n % 64) % 64) ++ Sha.eight (8 * n) = Sha.pad n := by
  simp [Sha.pad, filled]
/-- The filling that has been made: w2 is the world in which it was begun. -/
def SAt (w2 : World) (n : Nat) (v : Value) (wr : World) : Prop :=
  ∃ z B C, z ≤ (119 - n % 64) % 64 ∧ v = .slice B (z + 1) C ∧ Acc 5 1 w2 wr w2.heap.size B C (z + 1) ((filled z).map V8)

theorem eight_int (x : Int) (n : Nat) (hx : x = (n : Int)) (w : World) :
    Calls Tryz.prog 56 #[.int .u64 x] w fun e w' => e = .returned (.slice (some ⟨w.heap.size, 0, none⟩) 8 8) ∧ Arr w' w.heap.size 8 (byteF (Sha.eight n)) ∧ Below w.heap.size w w' := by
  subst hx
  exact eight_any n w
theorem write_len (hb : Nat) (L l : List UInt8) (a : Option Addr) (m c : Nat) (w : World) (hm : m = l.length) (hT : Tabs w) (hN : NoTab hb) (H : HashAt w hb L) (S : BytesAt w a l) (hc : l.length ≤ c)
    (hne : ∀ ad, a = some ad → ad.block ≠ hb) (hlen : L.length + l.length < 4611686018427387904) :
    Calls Tryz.prog 43 #[.pointer (some ⟨hb, 0, none⟩), .slice a m c] w fun e w' => e = .returned (.tuple #[]) ∧ HashAt w' hb (L ++ l) ∧ w.grownBy w' (some hb) := by
  subst hm
  exact write_any hb L l a c w hT hN H S hc hne hlen

theorem HashAt.below {w w' : World} {b B : Nat} {L : List UInt8} (h : HashAt w b L) (hb : Below B w w') (hlt : b < B) : HashAt w' b L := by
  obtain ⟨A, q, rest, t, hL, h1, h2, h3, h4, h5⟩ := h
  exact ⟨A, q, rest, t, hL, h1, h2, h3, h4, by rw [hb.block b hlt]; exact h5⟩
theorem HashAt.full {w : World} {b : Nat} {L : List UInt8} (h : HashAt w b L) (h0 : L.length % 64 = 0) : ∃ rest t, w.heap[b]? = some (.cells (hashCells (Sha.blocks Sha.init L) rest L.length) t (0, 0)) := by
  obtain ⟨A, q, rest, t, rfl, h1, h2, h3, h4, h5⟩ := h
  simp only [List.length_append] at h0
  obtain rfl : q = [] := List.eq_nil_of_length_eq_zero (by omega)
  exact ⟨rest, t, by simpa using h5⟩
theorem sumV_eq {n : Nat} {L : List UInt8} (h : n = L.length) : sumV (Sha.bytes (Sha.blocks Sha.init (L ++ Sha.pad n))) = sumV (Sha.sum L) := by rw [h]; rfl

set_option maxRecDepth 100000 in
set_option maxHeartbeats 4000000 in
theorem hsum_any (hb : Nat) (L : List UInt8) (w : World) (hT : Tabs w) (H : HashAt w hb L) (hlen : L.length < 1152921504606846976) :
    Calls Tryz.prog 44 #[.pointer (some ⟨hb, 0, none⟩)] w fun e w' => e = .returned (sumV (Sha.sum L)) ∧ Below w.heap.size w w' := by
  obtain ⟨A, q, rest, t, hL, I⟩ := H
  have hbt : hb < w.heap.size := regrown (by rw [I.heap]; simp)
  obtain ⟨cells, hcells⟩ : ∃ cells, cells = hashCells (Sha.blocks Sha.init A) rest (A ++ q).length := ⟨_, rfl⟩
  have heap1 : ∀ o, (w.alloc o).heap[hb]? = some (.cells cells t (0, 0)) := fun o => by rw [heap_alloc_old _ _ hbt, hcells]; exact I.heap
  have Hh := Lib.hid heap1
  have hsz := Lib.hid (show cells.size = 73 by rw [hcells]; exact hash_size _ _ _ I.len)
  have hone := Lib.hid (show cells.all (·.oneCell') = true by rw [hcells]; exact hash_one _ _ _)
  have HL := Lib.hid hL
  have I' := Lib.hid I
  have Hc := Lib.hid hcells
  clear hL I heap1 hcells
  go_enter Tryz.func44, Tryz.ntmps44
  go_wp2_with (first | (refine wpList_load_row rfl 112 _ rfl hb rfl t cells (0, 0) _ (Hh.out _) Tryz.underlying112 rfl (by rw [hsz.out]; kernel_rfl) ?_) | (refine wpList_store_row' rfl 112 _ _ rfl (w.heap.size + 1) cells rfl rfl 112 Tryz.zeroCells112 (heap_alloc2_new _ _ _) (by rw [hsz.out]; kernel_rfl) (by rw [hsz.out]; kernel_rfl) hone.out ?_ ; intro w2 h2 g2 s2; have H2 := Lib.hid h2; have G2 := Lib.hid g2; clear h2 g2))
  obtain ⟨n, hn⟩ : ∃ n, n = L.length := ⟨_, rfl⟩
  have hn2 : n = (A ++ q).length := by rw [hn, HL.out]
  have Hn := Lib.hid hn
  have hbig : n < 1152921504606846976 := by omega
  have h72 : w2.cell? ⟨w.heap.size + 1, 72, none⟩ = some (.int .u64 (n : Int)) := cell_block H2.out (by rw [Hc.out, hn2]; exact hash_taken _ _ _ I'.out.len)
  have hbt2 : w.heap.size + 1 < w2.heap.size := by rw [s2]; simp
  have S2 := Lib.hid s2
  have hB2 : Below w.heap.size w w2 := (((Below.refl _ _).alloc (Nat.le_refl _) _).alloc (by simp) _).grown G2.out (by simp; omega) (fun k hk => by obtain rfl := Option.some.inj hk; omega)
  have hhb2 : w2.cell? ⟨hb, 72, none⟩ = some (.int .u64 (n : Int)) := (hB2.cell (p := ⟨hb, 72, none⟩) hbt).trans (cell_block I'.out.heap (by rw [hn2]; exact hash_taken _ _ _ I'.out.len))
  have hout : ∃ old t, w2.heap[w.heap.size]? = some (.cells old t (0, 0)) ∧ old.size = 32 := by
    refine ⟨_, _, (G2.out.block w.heap.size (by simp; omega) (fun e => by have := Option.some.inj e; omega)).trans (heap_alloc2_old _ _ _), rfl⟩
  obtain ⟨old, ot, hold, holds⟩ := hout
  have Hold := Lib.hid hold
  have Holds := Lib.hid holds
  have HB2 := Lib.hid hB2
  have H2' : HashAt w2 (w.heap.size + 1) L := ⟨A, q, rest, _, HL.out, I'.out.whole, I'.out.short, I'.out.len, I'.out.same, by rw [← Hc.out]; exact H2.out⟩
  have HH2 := Lib.hid H2'
  have hT2 : Tabs w2 := hT.below hB2
  have hN2 : NoTab (w.heap.size + 1) := hT.fresh (by omega)
  clear hn hn2 s2 hlen hold holds hB2 H2'
  go_loopw [4] (fun v wr => SAt w2 n v wr) (fun v _ => match v with | .slice _ n _ => 128 - n | _ => 0)
  case atStart => 
    refine ⟨0, some ⟨w2.heap.size, 0, none⟩, 1, by omega, ?_, ?_⟩
    · rw [S2.out]; simp
    · exact Acc.lit w2 w2.heap.size w2 #[V8 128] 1 (Below.refl _ _) (Nat.le_refl _) (by decide) rfl
  case round =>
    obtain ⟨z, B, C, hz, rfl, R⟩ := hrel
    have c72 := (R.low.cell (p := ⟨w.heap.size + 1, 72, none⟩) hbt2).trans h72
    have R' := Lib.hid R
    clear R
    by_cases hlt : z = (119 - n % 64) % 64
    · have ht : (((n : Int) + ((z : Int) + 1)) % 64 != 56) = false := by
        simp; omega
      have hhb : wr.cell? ⟨hb, 72, none⟩ = some (.int .u64 (n : Int)) := (R'.out.low.cell (p := ⟨hb, 72, none⟩) (by show hb < w2.heap.size; omega)).trans hhb2
      have hz1 : z + 1 + 8 ≤ maxLen := by unfold maxLen; omega
      have hz2 : (z + 1 + 8) * 1 ≤ 140737488355328 := by omega
      have hz3 : z + 1 + 8 = (Sha.pad n).length := by rw [pad_length, hlt]
      have Hz := Lib.hid hlt
      have Hz3 := Lib.hid hz3
      clear hlt hz hz3
      go_wp2_with (first | (go_at_call 56; refine (eight_int _ (8 * n) (by omega) _).mono ?_; rintro e w3 ⟨rfl, hA, hB⟩; have HA := Lib.hid hA; have HB := Lib.hid hB; clear hA hB) | (at_builtin; refine wpList_acc rfl _ _ 51 rfl 5 1 1 _ Tryz.underlying51 info_u8 rfl (by decide) w2 w2.heap.size B C (z + 1) _ rfl (R'.out.below HB.out) (some ⟨wr.heap.size, 0, none⟩) 8 8 ((Sha.eight (8 * n)).map V8) rfl rfl (arr_src HA.out).cells (fun h => by cases h) (fun ad h => ⟨_, _, (Option.some.inj h).symm⟩) (ones _) hz1 hz2 ?_; intro B2 D2 w4 hacc hg4 hnew; have HA4 := Lib.hid hacc; have HG4 := Lib.hid hg4; clear hacc hg4 hnew))
      have hT4 : Tabs w4 := hT2.below HA4.out.low
      have h4 : HashAt w4 (w.heap.size + 1) L := HH2.out.below HA4.out.low hbt2
      have hsrc4 : BytesAt w4 B2 (Sha.pad n) := by
        have := HA4.out.at_
        rw [Hz.out, ← List.map_append, pad_filled] at this
        exact this.bytes
      have hcap4 : (Sha.pad n).length ≤ D2 := by rw [← Hz3.out]; exact HA4.out.cap
      refine (write_len (w.heap.size + 1) L (Sha.pad n) B2 (z + 1 + 8) D2 w4 Hz3.out hT4 hN2 h4 hsrc4 hcap4 (fun ad had => by have := (HA4.out.block ad had).1; omega) (by rw [← Hn.out, ← Hz3.out, Hz.out]; omega)).mono ?_
      rintro e w5 ⟨rfl, h5, g5⟩
      obtain ⟨rest5, t5, heap5⟩ := h5.full (by rw [List.length_append, ← Hn.out, ← Hz3.out, Hz.out]; omega)
      obtain ⟨u0, u1, u2, u3, u4, u5, u6, u7, uf⟩ := hash_cells heap5
      have HH5 := Lib.hid heap5
      have G5 := Lib.hid g5
      have Hs4 := Lib.hid hsrc4
      have hle4 : w2.heap.size ≤ w4.heap.size := HA4.out.base_le
      have hlt5 : w.heap.size < w5.heap.size := by have := g5.size; omega
      have hold5 : w5.heap[w.heap.size]? = some (.cells old ot (0, 0)) := (g5.block _ (by omega) (fun e => by have := Option.some.inj e; omega)).trans ((HA4.out.low.block _ (by omega)).trans Hold.out)
      have Hold5 := Lib.hid hold5
      have hB5 : Below w.heap.size w w5 := (HB2.out.trans (HA4.out.low.mono (by omega))).grown g5 (by omega) (fun k hk => by obtain rfl := Option.some.inj hk; omega)
      have HB5 := Lib.hid hB5
      clear heap5 g5 h5 h4 hsrc4 hold5 hB5
      go_wp2_with (first | (go_at_call 57; refine (bytes_any (Sha.blocks Sha.init (L ++ Sha.pad n)) _).mono ?_; rintro e w6 ⟨rfl, hB⟩; have HB6 := Lib.hid hB; clear hB) | (refine wpList_store_sum rfl 34 _ _ rfl w.heap.size (Sha.sum L) 32 rfl (sumV_eq Hn.out) ot old ((HB6.out.block _ hlt5).trans Hold5.out) (by kernel_rfl) rfl Holds.out ?_))
      refine bodyPost_ret (results_sum rfl _ _ w.heap.size ot (Sha.sum L) 32 (0, 0) _ rfl (setRow_heap _ _ _ _ _ _ ((HB6.out.block _ hlt5).trans Hold5.out)) Tryz.underlying34 (by kernel_rfl) rfl) rfl ⟨rfl, ?_⟩
      exact below_setRow (HB5.out.trans (HB6.out.mono (by omega))) (Nat.le_refl _) _
    · have ht : (((n : Int) + ((z : Int) + 1)) % 64 != 56) = true := by
        simp; omega
      have hz1 : z + 1 + 1 ≤ maxLen := by unfold maxLen; omega
      have hz2 : (z + 1 + 1) * 1 ≤ 140737488355328 := by omega
      go_wp2_with (at_builtin; refine wpList_acc1 rfl _ _ 51 rfl 5 1 _ Tryz.underlying51 info_u8 rfl w2 w2.heap.size B C (z + 1) _ (V8 0) rfl R'.out rfl rfl hz1 hz2 ?_; intro B2 D2 w3 hacc hg3 hnew; have HA := Lib.hid hacc; clear hacc hg3 hnew)
      go_roundw
      case rel => exact ⟨z + 1, B2, D2, by omega, rfl, by rw [← filled_next]; exact HA.out⟩
      case measure => simp; omega
end Go.Proofs.YtpdhgijeanbmcaaGreatDoor

/- Dsum -/
namespace Go.Proofs.YtpdhgijeanbmcaaGreatDoor
set_option maxRecDepth 100000
open Go.RowKit

/-- A new Hash has taken nothing. -/
theorem HashAt.new (w : World) : HashAt (w.alloc (.cells (hashCells Sha.init (List.replicate 64 0) 0) 112)) w.heap.size [] :=
  ⟨[], [], List.replicate 64 0, _, rfl, by simp, by simp, by simp, by simp, by rw [Sha.blocks_short _ _ (by simp)]; exact heap_alloc_new _ _⟩

set_option maxRecDepth 100000 in
theorem dsum_any (l : List UInt8) (a : Option Addr) (m c : Nat) (w : World) (hm : m = l.length) (hT : Tabs w) (S : BytesAt w a l) (hc : l.length ≤ c) (hlt : ∀ ad, a = some ad → ad.block < w.heap.size)
    (hlen : l.length < 1152921504606846976) :
    Calls Tryz.prog 22 #[.slice a m c] w fun e w' => e = .returned (sumV (Sha.sum l)) ∧ Below w.heap.size w w' := by
  have S' := Lib.hid S
  have Hm := Lib.hid hm
  have Hlt := Lib.hid hlt
  clear S hm hlt
  go_enter Tryz.func22, Tryz.ntmps22
  go_wp2_with (go_at_call 42; refine (newHash_any _ (by exact (hT.below ((Below.refl _ _).alloc (Nat.le_refl _) _)).firstAt)).mono ?_; rintro e w1 ⟨rfl, rfl⟩)
  have hB1 : ∀ o o', Below w.heap.size w ((w.alloc o).alloc o') := fun o o' => ((Below.refl _ _).alloc (Nat.le_refl _) _).alloc (by simp) _
  have hsz : ∀ o o', ((w.alloc o).alloc o').heap.size = w.heap.size + 1 + 1 := fun o o' => by simp
  have e1 : ∀ o, w.heap.size + 1 = (w.alloc o).heap.size := fun o => by simp
  have h1 : ∀ o, HashAt ((w.alloc o).alloc (.cells (hashCells Sha.init (List.replicate 64 0) 0) 112)) (w.heap.size + 1) [] := fun o => by rw [e1 o]; exact HashAt.new _
  have ho : ∀ o o', ((w.alloc o).alloc o').heap[w.heap.size]? = some o := fun o o' => heap_alloc2_old _ _ _
  have H1 := Lib.hid h1
  have HB1 := Lib.hid hB1
  have HO := Lib.hid ho
  have HS := Lib.hid hsz
  clear h1 hB1 ho hsz e1
  refine (write_len (w.heap.size + 1) [] l a m c _ Hm.out (hT.below (HB1.out _ _)) (hT.fresh (by omega)) (H1.out _) (S'.out.below (HB1.out _ _)) hc (fun ad had => by have := Hlt.out ad had; omega) (by simp; omega)).mono ?_
  rintro e w2 ⟨rfl, h2, g2⟩
  have hsz2 : w.heap.size + 1 + 1 ≤ w2.heap.size := by have := g2.size; rw [HS.out] at this; exact this
  have hB2 : Below w.heap.size w w2 := (HB1.out _ _).grown g2 (by rw [HS.out]; omega) (fun k hk => by obtain rfl := Option.some.inj hk; omega)
  have hout2 := (g2.block w.heap.size (by rw [HS.out]; omega) (fun e => by have := Option.some.inj e; omega)).trans (HO.out _ _)
  have HB2 := Lib.hid hB2
  have H2 := Lib.hid h2
  have HO2 := Lib.hid hout2
  clear g2 hB2 h2 hout2
  go_wp2_with (first | (go_at_call 44; refine (hsum_any (w.heap.size + 1) l w2 (hT.below HB2.out) H2.out hlen).mono ?_; rintro e w3 ⟨rfl, hB⟩; have HB3 := Lib.hid hB; clear hB) | (refine wpList_store_sum rfl 34 _ _ rfl w.heap.size (Sha.sum l) 32 rfl rfl _ _ ((HB3.out.block _ (by omega)).trans HO2.out) (by kernel_rfl) rfl rfl ?_))
  refine bodyPost_ret (results_sum rfl _ _ w.heap.size _ (Sha.sum l) 32 (0, 0) _ rfl (setRow_heap _ _ _ _ _ _ ((HB3.out.block _ (by omega)).trans HO2.out)) Tryz.underlying34 (by kernel_rfl) rfl) rfl ⟨rfl, ?_⟩
  exact Go.Proofs.YtpdhgijeanbmcaaGreatDoor.below_setRow (HB2.out.trans (HB3.out.mono (by omega))) (Nat.le_refl _) _
end Go.Proofs.YtpdhgijeanbmcaaGreatDoor

/- Leaf -/
namespace Go.Proofs.YtpdhgijeanbmcaaGreatDoor
set_option maxRecDepth 100000
open Go.RowKit

def RetSum (w : World) (l : List UInt8) (e : Ending) (w' : World) : Prop := e = .returned (sumV l) ∧ Below w.heap.size w w'

/-- A text of n bytes and its source. -/
structure Txt (w : World) (a : Option Addr) (n c : Nat) (l : List UInt8) : Prop where
  len : n = l.length
  src : Src w a c l
theorem Txt.below {w w' : World} {a : Option Addr} {n c : Nat} {l : List UInt8} (h : Txt w a n c l) (hb : Below w.heap.size w w') : Txt w' a n c l := ⟨h.len, h.src.below hb⟩
theorem Txt.of_block {w : World} {b n : Nat} {l : List UInt8} {t : TypeId} {fr : Nat × Nat} (h : w.heap[b]? = some (.cells (l.map V8).toArray t fr)) (hn : n = l.length) : Txt w (some ⟨b, 0, none⟩) n n l :=
  ⟨hn, ⟨fun h0 => ⟨b, 0, rfl, fun j hj => cell_block h (by simp [byteF, List.getD, hj])⟩⟩, by omega, fun h => by (cases h), fun ad had => ⟨b, 0, (Option.some.inj had).symm, in_heap h⟩⟩
theorem Txt.of_one {w : World} {b : Nat} {x : UInt8} {v : Value} {t : TypeId} {fr : Nat × Nat} (h : w.heap[b]? = some (.cells #[v] t fr)) (hv : v = V8 x) : Txt w (some ⟨b, 0, none⟩) 1 1 [x] := by
  subst hv
  exact Txt.of_block h rfl

/-- A literal list of two texts. -/
theorem concat2 {w : World} {b : Nat} {t : TypeId} {a1 a2 : Option Addr} {n1 n2 c1 c2 : Nat} (l1 l2 : List UInt8) (h : w.heap[b]? = some (.cells #[.slice a1 n1 c1, .slice a2 n2 c2] t (0, 0))) (h1 : Txt w a1 n1 c1 l1) (h2 : Txt w a2 n2 c2 l2)
    (hlen : l1.length + l2.length ≤ 70368744177664) (hpos : 0 < l1.length + l2.length) :
    Calls Tryz.prog 23 #[.slice (some ⟨b, 0, none⟩) 2 2] w (RetB w (l1.length + l2.length) (l1 ++ l2)) := by
  have e1 : tot [⟨a1, c1, l1⟩, ⟨a2, c2, l2⟩] 2 = l1.length + l2.length := by simp [tot]
  have e2 : cat [⟨a1, c1, l1⟩, ⟨a2, c2, l2⟩] 2 = l1 ++ l2 := by simp [cat]
  have := concat_any [⟨a1, c1, l1⟩, ⟨a2, c2, l2⟩] b 2 w rfl ⟨in_heap h, fun k hk => by
    have : k = 0 ∨ k = 1 := by simp at hk; omega
    rcases this with rfl | rfl
    · rw [cell_block h rfl, h1.len]; rfl
    · rw [cell_block h rfl, h2.len]; rfl, fun k hk => by
    have : k = 0 ∨ k = 1 := by simp at hk; omega
    rcases this with rfl | rfl
    · exact h1.src
    · exact h2.src⟩ (by show tot _ 2 ≤ _; rw [e1]; exact hlen) (by omega) (by show 0 < tot _ 2; rw [e1]; exact hpos)
  have e3 : ([⟨a1, c1, l1⟩, ⟨a2, c2, l2⟩] : List Part).length = 2 := rfl
  rw [e3, e1, e2] at this
  exact this
theorem concat3 {w : World} {b : Nat} {t : TypeId} {a1 a2 a3 : Option Addr} {n1 n2 n3 c1 c2 c3 : Nat} (l1 l2 l3 : List UInt8) (h : w.heap[b]? = some (.cells #[.slice a1 n1 c1, .slice a2 n2 c2, .slice a3 n3 c3] t (0, 0))) (h1 : Txt w a1 n1 c1 l1) (h2 : Txt w a2 n2 c2 l2)
    (h3 : Txt w a3 n3 c3 l3) (hlen : l1.length + l2.length + l3.length ≤ 70368744177664) (hpos : 0 < l1.length + l2.length + l3.length) :
    Calls Tryz.prog 23 #[.slice (some ⟨b, 0, none⟩) 3 3] w (RetB w (l1.length + l2.length + l3.length) (l1 ++ l2 ++ l3)) := by
  have e1 : tot [⟨a1, c1, l1⟩, ⟨a2, c2, l2⟩, ⟨a3, c3, l3⟩] 3 = l1.length + l2.length + l3.length := by simp [tot, Nat.add_assoc]
  have e2 : cat [⟨a1, c1, l1⟩, ⟨a2, c2, l2⟩, ⟨a3, c3, l3⟩] 3 = l1 ++ l2 ++ l3 := by simp [cat]
  have := concat_any [⟨a1, c1, l1⟩, ⟨a2, c2, l2⟩, ⟨a3, c3, l3⟩] b 3 w rfl ⟨in_heap h, fun k hk => by
    have : k = 0 ∨ k = 1 ∨ k = 2 := by simp at hk; omega
    rcases this with rfl | rfl | rfl
    · rw [cell_block h rfl, h1.len]; rfl
    · rw [cell_block h rfl, h2.len]; rfl
    · rw [cell_block h rfl, h3.len]; rfl, fun k hk => by
    have : k = 0 ∨ k = 1 ∨ k = 2 := by simp at hk; omega
    rcases this with rfl | rfl | rfl
    · exact h1.src
    · exact h2.src
    · exact h3.src⟩ (by show tot _ 3 ≤ _; rw [e1]; exact hlen) (by omega) (by show 0 < tot _ 3; rw [e1]; exact hpos)
  have e3 : ([⟨a1, c1, l1⟩, ⟨a2, c2, l2⟩, ⟨a3, c3, l3⟩] : List Part).length = 3 := rfl
  rw [e3, e1, e2] at this
  exact this

set_option maxRecDepth 100000 in
set_option maxHeartbeats 2000000 in
theorem leaf_any (l : List UInt8) (a : Option Addr) (m c : Nat) (w : World) (hT : Tabs w) (S : Txt w a m c l) (hlen : l.length < 70368744177663) :
    Calls Tryz.prog 25 #[.slice a m c] w (RetSum w (Sha.sum (0 :: l))) := by
  have S' := Lib.hid S
  clear S
  have hlen1 : (0 :: l).length < 1152921504606846976 := by simp; omega
  have hlen2 : ([0] : List UInt8).length + l.length ≤ 70368744177664 := by simp; omega
  have hlen3 : 0 < ([0] : List UInt8).length + l.length := by simp; omega
  go_enter Tryz.func25, Tryz.ntmps25
  go_wp2_with (first | (go_at_call 23; refine (concat2 [0] l (blk3 _ _ _ _).2.2 (.of_one (blk3 _ _ _ _).2.1 rfl) (S'.out.below (low3 _ _ _ _)) hlen2 hlen3).mono ?_; rintro e w1 ⟨B, C, rfl, hacc⟩; have HA := Lib.hid hacc; clear hacc) | (go_at_call 22; refine (dsum_any (0 :: l) B _ C w1 HA.out.len (hT.below (bthen (low3 _ _ _ _) HA.out.low)) HA.out.src.at_ HA.out.src.cap HA.out.src.lt hlen1).mono ?_; rintro e w2 ⟨rfl, hB⟩; have HB2 := Lib.hid hB; clear hB) | (refine wpList_store_sum rfl 34 _ _ rfl w.heap.size (Sha.sum (0 :: l)) 32 rfl rfl _ _ (bblk HB2.out (bblk HA.out.low (blk3 _ _ _ _).1)) (by kernel_rfl) rfl rfl ?_))
  refine bodyPost_ret (results_sum rfl _ _ w.heap.size _ (Sha.sum (0 :: l)) 32 (0, 0) _ rfl (setRow_heap _ _ _ _ _ _ (bblk HB2.out (bblk HA.out.low (blk3 _ _ _ _).1))) Tryz.underlying34 (by kernel_rfl) rfl) rfl ⟨rfl, ?_⟩
  exact brow (bthen (bthen (low3 _ _ _ _) HA.out.low) HB2.out) (Nat.le_refl _) _
set_option maxRecDepth 100000 in
set_option maxHeartbeats 2000000 in
theorem rleaf_any (l : List UInt8) (a : Option Addr) (m c : Nat) (w : World) (hT : Tabs w) (S : Txt w a m c l) (hlen : l.length < 70368744177663) :
    Calls Tryz.prog 46 #[.slice a m c] w (RetSum w (Sha.sum (0 :: l))) := by
  have S' := Lib.hid S
  clear S
  have z1 : 1 + m ≤ maxLen := by have := S'.out.len; unfold maxLen; omega
  have z2 : (1 + m) * 1 ≤ 140737488355328 := by have := S'.out.len; omega
  have hlen1 : (0 :: l).length < 70368744177664 := by simp; omega
  go_enter Tryz.func46, Tryz.ntmps46
  go_wp2_with (first | (at_builtin; refine wpList_acc rfl _ _ 51 rfl 5 1 1 _ Tryz.underlying51 info_u8' rfl (by decide) _ (w.heap.size + 1) (some ⟨w.heap.size + 1, 0, none⟩) 1 1 [V8 0] rfl (Acc.lit' (by simp) #[V8 0] 1 (Below.refl _ _) (by simp) (by decide) rfl) a m c (l.map V8) rfl (by simp [S'.out.len]) (S'.out.below (low2 _ _ _)).src.at_.cells S'.out.src.nil S'.out.src.od (ones' l) z1 z2 ?_; intro B1 D1 w1 hacc hg hnew; have HA := Lib.hid (show Acc 5 1 _ w1 _ B1 D1 (1 + m) ((0 :: l).map V8) from hacc); clear hacc hg hnew) | (go_at_call 58; refine (rsum_any (0 :: l) B1 _ D1 w1 HA.out.len (hT.below ((low1 _ _).trans (HA.out.low.mono (Nat.le_succ _)))) HA.out.src hlen1).mono ?_; rintro e w2 ⟨rfl, hB⟩; have HB2 := Lib.hid hB; clear hB) | (refine wpList_store_sum rfl 34 _ _ rfl w.heap.size (Sha.sum (0 :: l)) 32 rfl rfl _ _ (bblk HB2.out ((HA.out.low.block _ (Nat.lt_succ_self _)).trans (blk1 _ _))) (by kernel_rfl) rfl rfl ?_))
  refine bodyPost_ret (results_sum rfl _ _ w.heap.size _ (Sha.sum (0 :: l)) 32 (0, 0) _ rfl (setRow_heap _ _ _ _ _ _ (bblk HB2.out ((HA.out.low.block _ (Nat.lt_succ_self _)).trans (blk1 _ _)))) Tryz.underlying34 (by kernel_rfl) rfl) rfl ⟨rfl, ?_⟩
  exact brow (bthen ((low1 _ _).trans (HA.out.low.mono (Nat.le_succ _))) HB2.out) (Nat.le_refl _) _

def sumRow (l : List UInt8) : Array Value := (l.map V8).toArray
@[go_sem] theorem match_sumV (l : List UInt8) : Value.cells.match_1 (fun _ => Array Value) (sumV l) (fun cs => cs) (fun v => #[v]) = sumRow l := rfl
@[go_sem high] theorem cells_sumV (l : List UInt8) : (sumV l).cells = sumRow l := rfl
theorem sum_len (l : List UInt8) : (Sha.sum l).length = 32 := rfl
theorem run_storeSum {P : Program} (w : World) (g : Nat) (t : TypeId) (old : Array Value) (l : List UInt8) (hg : w.heap[g]? = some (.cells old t (0, 0))) (ho : old.size = l.length) :
    (storeCells ⟨g, 0, none⟩ (sumRow l).toList).run P w = .ok () (w.setRow g (sumRow l)) := by
  have := run_storeCells_from (P := P) g t (sumRow l).toList 0 old w hg (by simp [sumRow]; omega) (fun v hv => (Array.all_eq_true_iff_forall_mem.1 (oneCells l)) v (by simpa [sumRow] using hv))
  rw [this]
  simp [sumRow]

set_option maxRecDepth 100000 in
set_option maxHeartbeats 2000000 in
theorem node_any (x y : List UInt8) (w : World) (hT : Tabs w) (hx : x.length = 32) (hy : y.length = 32) :
    Calls Tryz.prog 41 #[sumV x, sumV y] w (RetSum w (Sha.sum (1 :: (x ++ y)))) := by
  obtain ⟨z, hz⟩ : ∃ z, z = ([1] : List UInt8) ++ x ++ y := ⟨_, rfl⟩
  have hlen1 : z.length < 1152921504606846976 := by rw [hz]; simp; omega
  have hlen2 : ([1] : List UInt8).length + x.length + y.length ≤ 70368744177664 := by simp; omega
  have hlen3 : 0 < ([1] : List UInt8).length + x.length + y.length := by simp; omega
  have HL0 := Lib.hid (show 65 = z.length by rw [hz]; simp [hx, hy])
  have hz' : (1 :: (x ++ y) : List UInt8) = z := by rw [hz]; rfl
  rw [hz']
  have HZ := Lib.hid hz
  clear hz hz'
  go_enter Tryz.func41, Tryz.ntmps41
  go_wp2_with fail
  refine wp_region_rel 3 Low (by kernel_rfl) (by kernel_rfl) Low.refl Low.trans [pRow 1 #[.int .u8 1] 5, .is (.slice (some ⟨w.heap.size, 0, none⟩) 32 32), .is (.slice (some ⟨w.heap.size + 1, 0, none⟩) 32 32)] rfl ?_
  refine .cons (fun w1 hR h => ?_) fun v5 => .cons (fun w1 hR h => ?_) fun v6 => .cons (fun w1 hR h => ?_) fun v7 => .nil fun w1 hR h => ?_
  · unfold relOp
    go_wp2
    exact ⟨low1 _ _, _, rfl, blk1 _ _⟩
  · unfold relOp
    go_wp2
    exact ⟨Low.refl _, rfl⟩
  · unfold relOp
    go_wp2
    exact ⟨Low.refl _, rfl⟩
  · obtain ⟨⟨b, rfl, hb⟩, rfl, rfl, -⟩ := h
    have h0 : Low w w1 := bthen (by exact (low3 _ _ _ _).drew) hR
    have hx1 : w1.heap[w.heap.size]? = some (.cells (x.map V8).toArray 34 (0, 0)) := bblk hR (by exact (blk3 _ _ _ _).1)
    have hy1 : w1.heap[w.heap.size + 1]? = some (.cells (y.map V8).toArray 34 (0, 0)) := bblk hR (by exact (blk3 _ _ _ _).2.1)
    have hr1 : w1.heap[w.heap.size + 1 + 1]? = some (.cells (zeros8 32) 34 (0, 0)) := bblk hR (by exact (blk3 _ _ _ _).2.2)
    have HX := Lib.hid hx1
    have HY := Lib.hid hy1
    have HR := Lib.hid hr1
    have HB := Lib.hid hb
    have H0 := Lib.hid h0
    clear hx1 hy1 hr1 hb h0 hR
    go_wp2_with (first | (go_at_call 23; refine (concat3 [1] x y (by exact blk1 _ _) (.of_one (at_old _ HB.out) rfl) (.of_block (at_old _ HX.out) hx.symm) (.of_block (at_old _ HY.out) hy.symm) hlen2 hlen3).mono ?_; rintro e w2 ⟨B, C, rfl, hacc⟩; rw [← HZ.out] at hacc; have HA := Lib.hid hacc; clear hacc) | (go_at_call 22; refine (dsum_any z B 65 C w2 HL0.out (hT.below (bthen H0.out (bthen (low1 _ _) HA.out.low))) HA.out.src.at_ HA.out.src.cap HA.out.src.lt hlen1).mono ?_; rintro e w3 ⟨rfl, hB⟩; have HB2 := Lib.hid hB; clear hB) | (refine wpList_store_sum rfl 34 _ _ rfl (w.heap.size + 1 + 1) (Sha.sum z) 32 rfl rfl _ _ (bblk HB2.out (bblk HA.out.low (at_old _ HR.out))) (by kernel_rfl) rfl rfl ?_))
    refine bodyPost_ret (results_sum rfl _ _ (w.heap.size + 1 + 1) _ (Sha.sum z) 32 (0, 0) _ rfl (setRow_heap _ _ _ _ _ _ (bblk HB2.out (bblk HA.out.low (at_old _ HR.out)))) Tryz.underlying34 (by kernel_rfl) rfl) rfl ⟨rfl, ?_⟩
    exact brow (bthen (bthen H0.out (bthen (low1 _ _) HA.out.low)) HB2.out) (by omega) _
end Go.Proofs.YtpdhgijeanbmcaaGreatDoor
