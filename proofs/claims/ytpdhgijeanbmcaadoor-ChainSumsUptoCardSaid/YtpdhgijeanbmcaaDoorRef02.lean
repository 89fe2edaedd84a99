/- Package wicketref02: Begin, eight, words, blocks, Total, Sum. -/
import Derived.Test.YtpdhgijeanbmcaaDoorRturn2
import Derived.Test.YtpdhgijeanbmcaaDoorHash
namespace Go.Proofs.YtpdhgijeanbmcaaDoor
open Go.RowKit

/-- A slice of bytes that may be read: its bytes, its capacity, where it lies. -/
structure Src (w : World) (a : Option Addr) (c : Nat) (l : List UInt8) : Prop where
  at_ : BytesAt w a l
  cap : l.length ≤ c
  nil : a = none → c = 0
  plain : ∀ ad, a = some ad → ∃ b o, ad = ⟨b, o, none⟩ ∧ b < w.heap.size
theorem Src.below {w w' : World} {a : Option Addr} {c : Nat} {l : List UInt8} (h : Src w a c l) (hb : Below w.heap.size w w') : Src w' a c l :=
  ⟨h.at_.below hb, h.cap, h.nil, fun ad had => by obtain ⟨b, o, e, hlt⟩ := h.plain ad had; exact ⟨b, o, e, Nat.lt_of_lt_of_le hlt hb.size⟩⟩
theorem Src.grown {w w' : World} {a : Option Addr} {c k : Nat} {l : List UInt8} (h : Src w a c l) (hg : w.grownBy w' (some k)) (hk : ∀ ad, a = some ad → ad.block ≠ k) : Src w' a c l :=
  ⟨h.at_.grown hg hk, h.cap, h.nil, fun ad had => by obtain ⟨b, o, e, hlt⟩ := h.plain ad had; exact ⟨b, o, e, Nat.lt_of_lt_of_le hlt hg.size⟩⟩
theorem Src.lt {w : World} {a : Option Addr} {c : Nat} {l : List UInt8} (h : Src w a c l) : ∀ ad, a = some ad → ad.block < w.heap.size := fun ad had => by
  obtain ⟨b, o, rfl, hlt⟩ := h.plain ad had; exact hlt
theorem Src.od {w : World} {a : Option Addr} {c : Nat} {l : List UInt8} (h : Src w a c l) : ∀ ad, a = some ad → ∃ b o, ad = ⟨b, o, none⟩ := fun ad had => by
  obtain ⟨b, o, rfl, _⟩ := h.plain ad had; exact ⟨b, o, rfl⟩
theorem Acc.src {w0 w : World} {base : Nat} {A : Option Addr} {C n : Nat} {l : List UInt8} (h : Acc 5 1 w0 w base A C n (l.map V8)) : Src w A C l := by
  have hl : n = l.length := by have := h.length; simp at this; exact this.symm
  refine ⟨h.at_.bytes, by rw [← hl]; exact h.cap, h.nil, fun ad had => ?_⟩
  rcases h.form with ⟨hn, _⟩ | ⟨g, _, hg, _, hs, _⟩
  · rw [had] at hn; cases hn
  · rw [had] at hg
    obtain rfl := Option.some.inj hg
    exact ⟨g, 0, rfl, hs⟩
theorem Acc.len {w0 w : World} {base : Nat} {A : Option Addr} {C n : Nat} {l : List UInt8} (h : Acc 5 1 w0 w base A C n (l.map V8)) : n = l.length := by
  have := h.length; simp at this; exact this.symm

theorem Acc.rebase {e size : Nat} {w0 w1 w : World} {base base' : Nat} {A : Option Addr} {C n : Nat} {cs : List Value} (h : Acc e size w1 w base A C n cs) (hb : base' ≤ base) (hl : Below base' w0 w1) : Acc e size w0 w base' A C n cs := by
  refine ⟨⟨h.own.1, ?_⟩, hl.trans (h.low.mono hb), Nat.le_trans hb h.base_le⟩
  rcases h.own.2 with h1 | ⟨g, cap, cur, hv, hg, r⟩
  · exact .inl h1
  · exact .inr ⟨g, cap, cur, hv, Nat.le_trans hb hg, r⟩
theorem info_u8' : (Tryd.prog.info? 5).map (fun i => (i.zero, i.size, i.bytes)) = some (some (.int .u8 0), 1, 1) := by kernel_rfl
theorem ones' (l : List UInt8) : ∀ u ∈ l.map V8, u.oneCell' = true := by simp [V8, Value.oneCell']

/-- A slice of l in memory of the call's own is handed back. -/
def RetB (w : World) (n : Nat) (l : List UInt8) (e : Ending) (w' : World) : Prop := ∃ B C, e = .returned (.slice B n C) ∧ Acc 5 1 w w' w.heap.size B C n (l.map V8)

def REight (w : World) (n : Nat) (v i : Value) (wr : World) : Prop := ∃ k B C, k ≤ 8 ∧ i = .int .i64 (k : Nat) ∧ v = .slice B k C ∧ Acc 5 1 w wr w.heap.size B C k (((Sha.eight n).take k).map V8)
theorem eight_take (n k : Nat) (h : k < 8) : ((Sha.eight n).take k).map V8 ++ [Value.int .u8 ((n : Int) / 2 ^ (56 - 8 * k) % 256)] = ((Sha.eight n).take (k + 1)).map V8 := by
  have hl : k < (Sha.eight n).length := by simpa [Sha.eight] using h
  have e : Value.int .u8 ((n : Int) / 2 ^ (56 - 8 * k) % 256) = V8 (UInt8.ofNat (n / 2 ^ (8 * (7 - k)))) := by
    rw [V8_ofNat, show 56 - 8 * k = 8 * (7 - k) from by omega]; push_cast; rfl
  rw [List.take_succ_eq_append_getElem hl, List.map_append, e]
  simp [Sha.eight]

set_option maxRecDepth 100000 in
theorem reight_any (n : Nat) (w : World) : Calls Tryd.prog 73 #[.int .u64 n] w (RetB w 8 (Sha.eight n)) := by
  go_enter Tryd.func73, Tryd.ntmps73
  go_wp2
  go_loopw [3, 4] (fun v i wr => REight w n v i wr) (fun _ i _ => 8 - (intOf i).toNat)
  case atStart => exact ⟨0, none, 0, by omega, rfl, rfl, Acc.start _ _ _ _ _ (Below.refl _ _) (Nat.le_refl _)⟩
  case round =>
    obtain ⟨k, B, C, hk, rfl, rfl, R⟩ := hrel
    by_cases hlt : k < 8
    · have R' := Lib.hid R
      clear R
      have z1 : k + 1 ≤ maxLen := by unfold maxLen; omega
      have z2 : (k + 1) * 1 ≤ 140737488355328 := by omega
      go_wp2_with (at_builtin; refine wpList_acc1 rfl _ _ 22 rfl 5 1 _ Tryd.underlying22 info_u8' rfl w w.heap.size B C k _ (.int .u8 ((n : Int) / 2 ^ (56 - 8 * k) % 256)) rfl R'.out rfl rfl z1 z2 ?_; intro B2 D2 w3 hacc hg3 hnew; have HA := Lib.hid hacc; clear hacc hg3 hnew)
      go_roundw
      case rel => exact ⟨k + 1, B2, D2, by omega, by go_num, rfl, by rw [← eight_take n k hlt]; exact HA.out⟩
      case measure => simp [intOf]; omega
    · obtain rfl : k = 8 := by omega
      go_wp2
      go_ret
      exact ⟨B, C, rfl, R⟩

/-! ### words -/
def RWords (w : World) (r : Sha.Reg) (n : Nat) (v : Value) (wr : World) : Prop :=
  ∃ B C, v = .slice B n C ∧ Acc 5 1 (w.alloc (.cells (r.list.map V32).toArray 86)) wr (w.heap.size + 1) B C n (((Sha.bytes r).take n).map V8)
def RWords1 (w : World) (r : Sha.Reg) (v i : Value) (wr : World) : Prop := ∃ k : Nat, k ≤ 8 ∧ i = .int .i64 k ∧ RWords w r (4 * k) v wr
def RWords2 (w : World) (r : Sha.Reg) (k : Nat) (v j : Value) (wr : World) : Prop := ∃ i : Nat, i ≤ 4 ∧ j = .int .i64 i ∧ RWords w r (4 * k + i) v wr
theorem words_take (r : Sha.Reg) (k i : Nat) (hk : k < 8) (hi : i < 4) :
    ((Sha.bytes r).take (4 * k + i)).map V8 ++ [V8 ⟨(r.list.getD k 0 >>> (24 - 8 * i)).setWidth 8⟩] = ((Sha.bytes r).take (4 * k + i + 1)).map V8 := by
  have hl : 4 * k + i < (Sha.bytes r).length := by rw [show (Sha.bytes r).length = 32 from rfl]; omega
  have h1 : k = 0 ∨ k = 1 ∨ k = 2 ∨ k = 3 ∨ k = 4 ∨ k = 5 ∨ k = 6 ∨ k = 7 := by omega
  have h2 : i = 0 ∨ i = 1 ∨ i = 2 ∨ i = 3 := by omega
  rcases h1 with rfl | rfl | rfl | rfl | rfl | rfl | rfl | rfl <;> rcases h2 with rfl | rfl | rfl | rfl <;> rfl

set_option maxRecDepth 100000 in
set_option maxHeartbeats 1000000 in
theorem rwords_any (r : Sha.Reg) (w : World) : Calls Tryd.prog 74 #[regV r] w (RetB w 32 (Sha.bytes r)) := by
  go_enter Tryd.func74, Tryd.ntmps74
  go_wp2
  go_loopw [3, 4, 5] (fun v i _ wr => RWords1 w r v i wr) (fun _ i _ _ => 8 - (intOf i).toNat)
  case atStart => exact ⟨0, by omega, rfl, none, 0, rfl, Acc.start _ _ _ _ _ (Below.refl _ _) (by simp)⟩
  case round =>
    obtain ⟨k, hk, rfl, B, C, rfl, R⟩ := hrel
    by_cases hlt : k < 8
    · have R' := Lib.hid R
      clear R
      have hj : (k : Int) < 8 := by omega
      go_wp2
      go_loopw [3, 5] (fun v j wr => RWords2 w r k v j wr) (fun _ j _ => 4 - (intOf j).toNat)
      case atStart => exact ⟨0, by omega, rfl, B, C, rfl, R'.out⟩
      case round =>
        clear R'
        obtain ⟨i, hi, rfl, B, C, rfl, R⟩ := hrel
        by_cases hi4 : i < 4
        · have c0 : wr.cell? ⟨w.heap.size, k, none⟩ = some (V32 (r.list.getD k 0)) := (R.low.cell (p := ⟨w.heap.size, k, none⟩) (by show w.heap.size < w.heap.size + 1; omega)).trans (cell_block (heap_alloc_new _ _) (by rw [List.getElem?_toArray, List.getElem?_map, wbytes_at r k hlt]; rfl))
          have R' := Lib.hid R
          clear R
          have z1 : 4 * k + i + 1 ≤ maxLen := by unfold maxLen; omega
          have z2 : (4 * k + i + 1) * 1 ≤ 140737488355328 := by omega
          have s0 : (0 : Int) ≤ 24 - 8 * (i : Int) := by omega
          have s1 : 24 - 8 * (i : Int) ≤ 32 := by omega
          have s3 : 8 * (i : Int) ≤ 24 := by omega
          have s2 : (24 - 8 * (i : Int)).toNat = 24 - 8 * i := by omega
          have hi0 : (0 : Int) ≤ (k : Int) := by omega
          go_wp2_with (at_builtin; refine wpList_acc1 rfl _ _ 22 rfl 5 1 _ Tryd.underlying22 info_u8' rfl (w.alloc (.cells (r.list.map V32).toArray 86)) (w.heap.size + 1) B C (4 * k + i) _ (V8 ⟨(r.list.getD k 0 >>> (24 - 8 * i)).setWidth 8⟩) rfl R'.out rfl rfl z1 z2 ?_; intro B2 D2 w3 hacc hg3 hnew; have HA := Lib.hid hacc; clear hacc hg3 hnew)
          go_roundw
          case rel => exact ⟨i + 1, by omega, by go_num, B2, D2, rfl, by rw [show 4 * k + (i + 1) = 4 * k + i + 1 from rfl, ← words_take r k i hlt hi4]; exact HA.out⟩
          case measure => simp [intOf]; omega
        · obtain rfl : i = 4 := by omega
          go_wp2
          go_roundw
          case rel => exact ⟨k + 1, by omega, by go_num, B, C, rfl, R⟩
          case measure => simp [intOf]; omega
    · obtain rfl : k = 8 := by omega
      go_wp2
      go_ret
      exact ⟨B, C, rfl, R.rebase (by omega) ((Below.refl _ _).alloc (Nat.le_refl _) _)⟩
end Go.Proofs.YtpdhgijeanbmcaaDoor
