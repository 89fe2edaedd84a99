/- (*Hash).Sum: the sum of what was taken; the Hash stays as it is. -/
import Derived.Test.YtpdhgijeanbmcaaDoorWrite
import Derived.Test.YtpdhgijeanbmcaaDoorAcc
namespace Go.Proofs.YtpdhgijeanbmcaaDoor
open Go.RowKit

theorem info_u8 : (Tryd.prog.info? 5).map (fun i => (i.zero, i.size, i.bytes)) = some (some (.int .u8 0), 1, 1) := by kernel_rfl

theorem hash_one (r : Sha.Reg) (rest : List UInt8) (n : Nat) : (hashCells r rest n).all (·.oneCell') = true := by
  simp [hashCells, Sha.Reg.list, V32, V8, Value.oneCell']
theorem ones (l : List UInt8) : ∀ u ∈ l.map V8, u.oneCell' = true := by simp [V8, Value.oneCell']
theorem arr_src {w : World} {b : Nat} {l : List UInt8} (h : Arr w b l.length (byteF l)) : BytesAt w (some ⟨b, 0, none⟩) l :=
  ⟨fun _ => ⟨b, 0, rfl, fun j hj => by rw [Nat.zero_add]; exact h.cell j hj⟩⟩
def filled (z : Nat) : List UInt8 := 0x80 :: List.replicate z 0
theorem filled_next (z : Nat) : (filled z).map V8 ++ [V8 0] = (filled (z + 1)).map V8 := by
  simp [filled, List.replicate_succ']
theorem pad_length (n : Nat) : (Sha.pad n).length = (119 - n % 64) % 64 + 1 + 8 := by
  simp [Sha.pad, Sha.eight]
theorem pad_filled (n : Nat) : filled ((119 - n % 64) % 64) ++ Sha.eight (8 * n) = Sha.pad n := by
  simp [Sha.pad, filled]
/-- The filling that has been made: w2 is the world in which it was begun. -/
def SAt (w2 : World) (n : Nat) (v : Value) (wr : World) : Prop :=
  ∃ z B C, z ≤ (119 - n % 64) % 64 ∧ v = .slice B (z + 1) C ∧ Acc 5 1 w2 wr w2.heap.size B C (z + 1) ((filled z).map V8)

theorem eight_int (x : Int) (n : Nat) (hx : x = (n : Int)) (w : World) :
    Calls Tryd.prog 71 #[.int .u64 x] w fun e w' => e = .returned (.slice (some ⟨w.heap.size, 0, none⟩) 8 8) ∧ Arr w' w.heap.size 8 (byteF (Sha.eight n)) ∧ Below w.heap.size w w' := by
  subst hx
  exact eight_any n w
theorem write_len (hb : Nat) (L l : List UInt8) (a : Option Addr) (m c : Nat) (w : World) (hm : m = l.length) (hT : Tabs w) (hN : NoTab hb) (H : HashAt w hb L) (S : BytesAt w a l) (hc : l.length ≤ c)
    (hne : ∀ ad, a = some ad → ad.block ≠ hb) (hlen : L.length + l.length < 4611686018427387904) :
    Calls Tryd.prog 63 #[.pointer (some ⟨hb, 0, none⟩), .slice a m c] w fun e w' => e = .returned (.tuple #[]) ∧ HashAt w' hb (L ++ l) ∧ w.grownBy w' (some hb) := by
  subst hm
  exact write_any hb L l a c w hT hN H S hc hne hlen

theorem HashAt.below {w w' : World} {b B : Nat} {L : List UInt8} (h : HashAt w b L) (hb : Below B w w') (hlt : b < B) : HashAt w' b L := by
  obtain ⟨A, q, rest, t, hL, h1, h2, h3, h4, h5⟩ := h
  exact ⟨A, q, rest, t, hL, h1, h2, h3, h4, by rw [hb.block b hlt]; exact h5⟩
theorem HashAt.full {w : World} {b : Nat} {L : List UInt8} (h : HashAt w b L) (h0 : L.length % 64 = 0) : ∃ rest t, w.heap[b]? = some (.cells (hashCells (Sha.blocks Sha.init L) rest L.length) t (0, 0)) := by
  obtain ⟨A, q, rest, t, rfl, h1, h2, h3, h4, h5⟩ := h
  simp only [List.length_append] at h0
  obtain rfl : q = [] := List.eq_nil_of_length_eq_zero (by omega)
  exact ⟨rest, t, by simpa using h5⟩
theorem sumV_eq {n : Nat} {L : List UInt8} (h : n = L.length) : sumV (Sha.bytes (Sha.blocks Sha.init (L ++ Sha.pad n))) = sumV (Sha.sum L) := by rw [h]; rfl

set_option maxRecDepth 100000 in
set_option maxHeartbeats 4000000 in
theorem hsum_any (hb : Nat) (L : List UInt8) (w : World) (hT : Tabs w) (H : HashAt w hb L) (hlen : L.length < 1152921504606846976) :
    Calls Tryd.prog 64 #[.pointer (some ⟨hb, 0, none⟩)] w fun e w' => e = .returned (sumV (Sha.sum L)) ∧ Below w.heap.size w w' := by
  obtain ⟨A, q, rest, t, hL, I⟩ := H
  have hbt : hb < w.heap.size := regrown (by rw [I.heap]; simp)
  obtain ⟨cells, hcells⟩ : ∃ cells, cells = hashCells (Sha.blocks Sha.init A) rest (A ++ q).length := ⟨_, rfl⟩
  have heap1 : ∀ o, (w.alloc o).heap[hb]? = some (.cells cells t (0, 0)) := fun o => by rw [heap_alloc_old _ _ hbt, hcells]; exact I.heap
  have Hh := Lib.hid heap1
  have hsz := Lib.hid (show cells.size = 73 by rw [hcells]; exact hash_size _ _ _ I.len)
  have hone := Lib.hid (show cells.all (·.oneCell') = true by rw [hcells]; exact hash_one _ _ _)
  have HL := Lib.hid hL
  have I' := Lib.hid I
  have Hc := Lib.hid hcells
  clear hL I heap1 hcells
  go_enter Tryd.func64, Tryd.ntmps64
  go_wp2_with (first | (refine wpList_load_row rfl 94 _ rfl hb rfl t cells (0, 0) _ (Hh.out _) Tryd.underlying94 rfl (by rw [hsz.out]; kernel_rfl) ?_) | (refine wpList_store_row' rfl 94 _ _ rfl (w.heap.size + 1) cells rfl rfl 94 Tryd.zeroCells94 (heap_alloc2_new _ _ _) (by rw [hsz.out]; kernel_rfl) (by rw [hsz.out]; kernel_rfl) hone.out ?_ ; intro w2 h2 g2 s2; have H2 := Lib.hid h2; have G2 := Lib.hid g2; clear h2 g2))
  obtain ⟨n, hn⟩ : ∃ n, n = L.length := ⟨_, rfl⟩
  have hn2 : n = (A ++ q).length := by rw [hn, HL.out]
  have Hn := Lib.hid hn
  have hbig : n < 1152921504606846976 := by omega
  have h72 : w2.cell? ⟨w.heap.size + 1, 72, none⟩ = some (.int .u64 (n : Int)) := cell_block H2.out (by rw [Hc.out, hn2]; exact hash_taken _ _ _ I'.out.len)
  have hbt2 : w.heap.size + 1 < w2.heap.size := by rw [s2]; simp
  have S2 := Lib.hid s2
  have hB2 : Below w.heap.size w w2 := (((Below.refl _ _).alloc (Nat.le_refl _) _).alloc (by simp) _).grown G2.out (by simp; omega) (fun k hk => by obtain rfl := Option.some.inj hk; omega)
  have hhb2 : w2.cell? ⟨hb, 72, none⟩ = some (.int .u64 (n : Int)) := (hB2.cell (p := ⟨hb, 72, none⟩) hbt).trans (cell_block I'.out.heap (by rw [hn2]; exact hash_taken _ _ _ I'.out.len))
  have hout : ∃ old t, w2.heap[w.heap.size]? = some (.cells old t (0, 0)) ∧ old.size = 32 := by
    refine ⟨_, _, (G2.out.block w.heap.size (by simp; omega) (fun e => by have := Option.some.inj e; omega)).trans (heap_alloc2_old _ _ _), rfl⟩
  obtain ⟨old, ot, hold, holds⟩ := hout
  have Hold := Lib.hid hold
  have Holds := Lib.hid holds
  have HB2 := Lib.hid hB2
  have H2' : HashAt w2 (w.heap.size + 1) L := ⟨A, q, rest, _, HL.out, I'.out.whole, I'.out.short, I'.out.len, I'.out.same, by rw [← Hc.out]; exact H2.out⟩
  have HH2 := Lib.hid H2'
  have hT2 : Tabs w2 := hT.below hB2
  have hN2 : NoTab (w.heap.size + 1) := hT.fresh (by omega)
  clear hn hn2 s2 hlen hold holds hB2 H2'
  go_loopw [4] (fun v wr => SAt w2 n v wr) (fun v _ => match v with | .slice _ n _ => 128 - n | _ => 0)
  case atStart => 
    refine ⟨0, some ⟨w2.heap.size, 0, none⟩, 1, by omega, ?_, ?_⟩
    · rw [S2.out]; simp
    · exact Acc.lit w2 w2.heap.size w2 #[V8 128] 1 (Below.refl _ _) (Nat.le_refl _) (by decide) rfl
  case round =>
    obtain ⟨z, B, C, hz, rfl, R⟩ := hrel
    have c72 := (R.low.cell (p := ⟨w.heap.size + 1, 72, none⟩) hbt2).trans h72
    have R' := Lib.hid R
    clear R
    by_cases hlt : z = (119 - n % 64) % 64
    · have ht : (((n : Int) + ((z : Int) + 1)) % 64 != 56) = false := by
        simp; omega
      have hhb : wr.cell? ⟨hb, 72, none⟩ = some (.int .u64 (n : Int)) := (R'.out.low.cell (p := ⟨hb, 72, none⟩) (by show hb < w2.heap.size; omega)).trans hhb2
      have hz1 : z + 1 + 8 ≤ maxLen := by unfold maxLen; omega
      have hz2 : (z + 1 + 8) * 1 ≤ 140737488355328 := by omega
      have hz3 : z + 1 + 8 = (Sha.pad n).length := by rw [pad_length, hlt]
      have Hz := Lib.hid hlt
      have Hz3 := Lib.hid hz3
      clear hlt hz hz3
      go_wp2_with (first | (go_at_call 71; refine (eight_int _ (8 * n) (by omega) _).mono ?_; rintro e w3 ⟨rfl, hA, hB⟩; have HA := Lib.hid hA; have HB := Lib.hid hB; clear hA hB) | (at_builtin; refine wpList_acc rfl _ _ 22 rfl 5 1 1 _ Tryd.underlying22 info_u8 rfl (by decide) w2 w2.heap.size B C (z + 1) _ rfl (R'.out.below HB.out) (some ⟨wr.heap.size, 0, none⟩) 8 8 ((Sha.eight (8 * n)).map V8) rfl rfl (arr_src HA.out).cells (fun h => by cases h) (fun ad h => ⟨_, _, (Option.some.inj h).symm⟩) (ones _) hz1 hz2 ?_; intro B2 D2 w4 hacc hg4 hnew; have HA4 := Lib.hid hacc; have HG4 := Lib.hid hg4; clear hacc hg4 hnew))
      have hT4 : Tabs w4 := hT2.below HA4.out.low
      have h4 : HashAt w4 (w.heap.size + 1) L := HH2.out.below HA4.out.low hbt2
      have hsrc4 : BytesAt w4 B2 (Sha.pad n) := by
        have := HA4.out.at_
        rw [Hz.out, ← List.map_append, pad_filled] at this
        exact this.bytes
      have hcap4 : (Sha.pad n).length ≤ D2 := by rw [← Hz3.out]; exact HA4.out.cap
      refine (write_len (w.heap.size + 1) L (Sha.pad n) B2 (z + 1 + 8) D2 w4 Hz3.out hT4 hN2 h4 hsrc4 hcap4 (fun ad had => by have := (HA4.out.block ad had).1; omega) (by rw [← Hn.out, ← Hz3.out, Hz.out]; omega)).mono ?_
      rintro e w5 ⟨rfl, h5, g5⟩
      obtain ⟨rest5, t5, heap5⟩ := h5.full (by rw [List.length_append, ← Hn.out, ← Hz3.out, Hz.out]; omega)
      obtain ⟨u0, u1, u2, u3, u4, u5, u6, u7, uf⟩ := hash_cells heap5
      have HH5 := Lib.hid heap5
      have G5 := Lib.hid g5
      have Hs4 := Lib.hid hsrc4
      have hle4 : w2.heap.size ≤ w4.heap.size := HA4.out.base_le
      have hlt5 : w.heap.size < w5.heap.size := by have := g5.size; omega
      have hold5 : w5.heap[w.heap.size]? = some (.cells old ot (0, 0)) := (g5.block _ (by omega) (fun e => by have := Option.some.inj e; omega)).trans ((HA4.out.low.block _ (by omega)).trans Hold.out)
      have Hold5 := Lib.hid hold5
      have hB5 : Below w.heap.size w w5 := (HB2.out.trans (HA4.out.low.mono (by omega))).grown g5 (by omega) (fun k hk => by obtain rfl := Option.some.inj hk; omega)
      have HB5 := Lib.hid hB5
      clear heap5 g5 h5 h4 hsrc4 hold5 hB5
      go_wp2_with (first | (go_at_call 72; refine (bytes_any (Sha.blocks Sha.init (L ++ Sha.pad n)) _).mono ?_; rintro e w6 ⟨rfl, hB⟩; have HB6 := Lib.hid hB; clear hB) | (refine wpList_store_sum rfl 29 _ _ rfl w.heap.size (Sha.sum L) 32 rfl (sumV_eq Hn.out) ot old ((HB6.out.block _ hlt5).trans Hold5.out) (by kernel_rfl) rfl Holds.out ?_))
      refine bodyPost_ret (results_sum rfl _ _ w.heap.size ot (Sha.sum L) 32 (0, 0) _ rfl (setRow_heap _ _ _ _ _ _ ((HB6.out.block _ hlt5).trans Hold5.out)) Tryd.underlying29 (by kernel_rfl) rfl) rfl ⟨rfl, ?_⟩
      exact below_setRow (HB5.out.trans (HB6.out.mono (by omega))) (Nat.le_refl _) _
    · have ht : (((n : Int) + ((z : Int) + 1)) % 64 != 56) = true := by
        simp; omega
      have hz1 : z + 1 + 1 ≤ maxLen := by unfold maxLen; omega
      have hz2 : (z + 1 + 1) * 1 ≤ 140737488355328 := by omega
      go_wp2_with (at_builtin; refine wpList_acc1 rfl _ _ 22 rfl 5 1 _ Tryd.underlying22 info_u8 rfl w2 w2.heap.size B C (z + 1) _ (V8 0) rfl R'.out rfl rfl hz1 hz2 ?_; intro B2 D2 w3 hacc hg3 hnew; have HA := Lib.hid hacc; clear hacc hg3 hnew)
      go_roundw
      case rel => exact ⟨z + 1, B2, D2, by omega, rfl, by rw [← filled_next]; exact HA.out⟩
      case measure => simp; omega
end Go.Proofs.YtpdhgijeanbmcaaDoor
