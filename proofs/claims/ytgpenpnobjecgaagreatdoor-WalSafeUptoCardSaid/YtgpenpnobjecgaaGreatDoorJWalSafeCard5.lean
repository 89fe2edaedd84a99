/- Sealed frames, in plain Lean: what frame.Seal, size, Open and Scan reckon. -/
import Derived.Test.YtgpenpnobjecgaaGreatDoorJWalSafeCard3
import Derived.Test.YtgpenpnobjecgaaGreatDoorJWalSafeCard4
/- HSum -/
namespace Go.Proofs.YtgpenpnobjecgaaGreatDoor
set_option maxRecDepth 100000
open Go.RowKit

theorem info_u8 : (Tryz.prog.info? 5).map (fun i => (i.zero, i.size, i.bytes)) = some (some (.int .u8 0), 1, 1) := by kernel_rfl

theorem hash_one (r : Sha.Reg) (rest : List UInt8) (n : Nat) : (hashCells r rest n).all (·.oneCell') = true := by
  simp [hashCells, Sha.Reg.list, V32, V8, Value.oneCell']
theorem ones (l : List UInt8) : ∀ u ∈ l.map V8, u.oneCell' = true := by simp [V8, Value.oneCell']
theorem arr_src {w : World} {b : Nat} {l : List UInt8} (h : Arr w b l.length (byteF l)) : BytesAt w (some ⟨b, 0, none⟩) l :=
  ⟨fun _ => ⟨b, 0, rfl, fun j hj => by rw [Nat.zero_add]; exact h.cell j hj⟩⟩
def filled (z : Nat) : List UInt8 := 0x80 :: List.replicate z 0
theorem filled_next (z : Nat) : (filled z).map V8 ++ [V8 0] = (filled (z + 1)).map V8 := by
  simp [filled, List.replicate_succ']
theorem pad_length (n : Nat) : (Sha.pad n).length = (119 - n % 64) % 64 + 1 + 8 := by
  simp [Sha.pad, Sha.eight]
theorem pad_filled (n : Nat) : filled ((119 - n % 64) % 64) ++ Sha.eight (8 * n) = Sha.pad n := by
  simp [Sha.pad, filled]
/-- The filling that has been made: w2 is the world in which it was begun. -/
def SAt (w2 : World) (n : Nat) (v : Value) (wr : World) : Prop :=
  ∃ z B C, z ≤ (119 - n % 64) % 64 ∧ v = .slice B (z + 1) C ∧ Acc 5 1 w2 wr w2.heap.size B C (z + 1) ((filled z).map V8)

theorem HashAt.below {w w' : World} {b B : Nat} {L : List UInt8} (h : HashAt w b L) (hb : Below B w w') (hlt : b < B) : HashAt w' b L := by
  obtain ⟨A, q, rest, t, hL, h1, h2, h3, h4, h5⟩ := h
  exact ⟨A, q, rest, t, hL, h1, h2, h3, h4, by rw [hb.block b hlt]; exact h5⟩
theorem HashAt.full {w : World} {b : Nat} {L : List UInt8} (h : HashAt w b L) (h0 : L.length % 64 = 0) : ∃ rest t, w.heap[b]? = some (.cells (hashCells (Sha.blocks Sha.init L) rest L.length) t (0, 0)) := by
  obtain ⟨A, q, rest, t, rfl, h1, h2, h3, h4, h5⟩ := h
  simp only [List.length_append] at h0
  obtain rfl : q = [] := List.eq_nil_of_length_eq_zero (by omega)
  exact ⟨rest, t, by simpa using h5⟩
theorem sumV_eq {n : Nat} {L : List UInt8} (h : n = L.length) : sumV (Sha.bytes (Sha.blocks Sha.init (L ++ Sha.pad n))) = sumV (Sha.sum L) := by rw [h]; rfl

end Go.Proofs.YtgpenpnobjecgaaGreatDoor

/- Dsum -/
namespace Go.Proofs.YtgpenpnobjecgaaGreatDoor
set_option maxRecDepth 100000
open Go.RowKit

end Go.Proofs.YtgpenpnobjecgaaGreatDoor

/- Leaf -/
namespace Go.Proofs.YtgpenpnobjecgaaGreatDoor
set_option maxRecDepth 100000
open Go.RowKit

def RetSum (w : World) (l : List UInt8) (e : Ending) (w' : World) : Prop := e = .returned (sumV l) ∧ Below w.heap.size w w'

/-- A text of n bytes and its source. -/
structure Txt (w : World) (a : Option Addr) (n c : Nat) (l : List UInt8) : Prop where
  len : n = l.length
  src : Src w a c l
theorem Txt.below {w w' : World} {a : Option Addr} {n c : Nat} {l : List UInt8} (h : Txt w a n c l) (hb : Below w.heap.size w w') : Txt w' a n c l := ⟨h.len, h.src.below hb⟩
theorem Txt.of_block {w : World} {b n : Nat} {l : List UInt8} {t : TypeId} {fr : Nat × Nat} (h : w.heap[b]? = some (.cells (l.map V8).toArray t fr)) (hn : n = l.length) : Txt w (some ⟨b, 0, none⟩) n n l :=
  ⟨hn, ⟨fun h0 => ⟨b, 0, rfl, fun j hj => cell_block h (by simp [byteF, List.getD, hj])⟩⟩, by omega, fun h => by (cases h), fun ad had => ⟨b, 0, (Option.some.inj had).symm, in_heap h⟩⟩
theorem Txt.of_one {w : World} {b : Nat} {x : UInt8} {v : Value} {t : TypeId} {fr : Nat × Nat} (h : w.heap[b]? = some (.cells #[v] t fr)) (hv : v = V8 x) : Txt w (some ⟨b, 0, none⟩) 1 1 [x] := by
  subst hv
  exact Txt.of_block h rfl

def sumRow (l : List UInt8) : Array Value := (l.map V8).toArray
@[go_sem] theorem match_sumV (l : List UInt8) : Value.cells.match_1 (fun _ => Array Value) (sumV l) (fun cs => cs) (fun v => #[v]) = sumRow l := rfl
@[go_sem high] theorem cells_sumV (l : List UInt8) : (sumV l).cells = sumRow l := rfl
theorem sum_len (l : List UInt8) : (Sha.sum l).length = 32 := rfl
theorem run_storeSum {P : Program} (w : World) (g : Nat) (t : TypeId) (old : Array Value) (l : List UInt8) (hg : w.heap[g]? = some (.cells old t (0, 0))) (ho : old.size = l.length) :
    (storeCells ⟨g, 0, none⟩ (sumRow l).toList).run P w = .ok () (w.setRow g (sumRow l)) := by
  have := run_storeCells_from (P := P) g t (sumRow l).toList 0 old w hg (by simp [sumRow]; omega) (fun v hv => (Array.all_eq_true_iff_forall_mem.1 (oneCells l)) v (by simpa [sumRow] using hv))
  rw [this]
  simp [sumRow]

end Go.Proofs.YtgpenpnobjecgaaGreatDoor

/- Crc -/
namespace Go.Proofs.YtgpenpnobjecgaaGreatDoor
set_option maxRecDepth 100000

/-- One bit leaves the register. -/
def crcBit (r : BitVec 32) : BitVec 32 := if r.getLsbD 0 then (r >>> 1) ^^^ 0xedb88320#32 else r >>> 1
def crcTab : List (BitVec 32) :=
  [0x00000000, 0x1db71064, 0x3b6e20c8, 0x26d930ac, 0x76dc4190, 0x6b6b51f4, 0x4db26158, 0x5005713c,
   0xedb88320, 0xf00f9344, 0xd6d6a3e8, 0xcb61b38c, 0x9b64c2b0, 0x86d3d2d4, 0xa00ae278, 0xbdbdf21c]
/-- Half a byte leaves it. -/
def crcNib (r : BitVec 32) : BitVec 32 := crcTab.getD (r &&& 15#32).toNat 0 ^^^ (r >>> 4)
def crcBit4 (r : BitVec 32) : BitVec 32 := crcBit (crcBit (crcBit (crcBit r)))

theorem xor_both (x y p : BitVec 32) : x ^^^ y = (x ^^^ p) ^^^ (y ^^^ p) := by
  ext i hi
  simp only [BitVec.getElem_xor]
  cases x[i] <;> cases y[i] <;> cases p[i] <;> rfl
theorem xor_right' (x y p : BitVec 32) : (x ^^^ y) ^^^ p = (x ^^^ p) ^^^ y := by
  ext i hi
  simp only [BitVec.getElem_xor]
  cases x[i] <;> cases y[i] <;> cases p[i] <;> rfl
theorem crcBit_xor (a b : BitVec 32) : crcBit (a ^^^ b) = crcBit a ^^^ crcBit b := by
  unfold crcBit
  rw [BitVec.getLsbD_xor, BitVec.ushiftRight_xor_distrib]
  cases a.getLsbD 0 <;> cases b.getLsbD 0
  · simp
  · simp [BitVec.xor_assoc]
  · simp [xor_right']
  · simp only [bne_self_eq_false, Bool.false_eq_true, if_false, if_true]
    exact xor_both _ _ _
theorem crcBit4_xor (a b : BitVec 32) : crcBit4 (a ^^^ b) = crcBit4 a ^^^ crcBit4 b := by simp only [crcBit4, crcBit_xor]
theorem crcBit_even (r : BitVec 32) (k : Nat) (h : r.getLsbD k = false) : crcBit (r >>> k) = r >>> (k + 1) := by
  unfold crcBit
  rw [BitVec.getLsbD_ushiftRight, Nat.add_zero, h, BitVec.shiftRight_add]
  rfl
theorem crcBit4_low : ∀ n, n < 16 → crcBit4 (BitVec.ofNat 32 n) = crcTab.getD n 0 := by decide
theorem crcNib_bits (r : BitVec 32) : crcNib r = crcBit4 r := by
  have hs : r = (r &&& 15#32) ^^^ ((r >>> 4) <<< 4) := by
    ext i hi
    simp only [BitVec.getElem_xor, BitVec.getElem_and, BitVec.getElem_shiftLeft]
    by_cases h : i < 4
    · have : i = 0 ∨ i = 1 ∨ i = 2 ∨ i = 3 := by omega
      rcases this with rfl | rfl | rfl | rfl <;> simp
    · have hf : (15#32)[i] = false := by
        rw [← BitVec.getLsbD_eq_getElem]
        have h15 : (15#32) = BitVec.ofNat 32 (2 ^ 4 - 1) := rfl
        rw [h15, BitVec.getLsbD_ofNat, Nat.testBit_two_pow_sub_one]
        simp; omega
      rw [hf]
      simp [h]
      rw [show 4 + (i - 4) = i by omega]
      exact (BitVec.getLsbD_eq_getElem hi).symm
  have hz : ∀ k, k < 4 → ((r >>> 4) <<< 4).getLsbD k = false := by
    intro k hk
    simp [BitVec.getLsbD_shiftLeft, hk]
  have hh : crcBit4 ((r >>> 4) <<< 4) = r >>> 4 := by
    unfold crcBit4
    have e0 := crcBit_even ((r >>> 4) <<< 4) 0 (hz 0 (by omega))
    have e1 := crcBit_even ((r >>> 4) <<< 4) 1 (hz 1 (by omega))
    have e2 := crcBit_even ((r >>> 4) <<< 4) 2 (hz 2 (by omega))
    have e3 := crcBit_even ((r >>> 4) <<< 4) 3 (hz 3 (by omega))
    rw [BitVec.ushiftRight_zero] at e0
    rw [e0, e1, e2, e3]
    ext i hi
    simp only [BitVec.getElem_ushiftRight, BitVec.getLsbD_shiftLeft, BitVec.getLsbD_ushiftRight]
    by_cases h : 4 + i < 32
    · simp [h]
    · simp [h]
      exact BitVec.getLsbD_of_ge r (4 + i) (by omega)
  have hl : crcBit4 (r &&& 15#32) = crcTab.getD (r &&& 15#32).toNat 0 := by
    have hlt : (r &&& 15#32).toNat < 16 := by
      rw [BitVec.toNat_and, show (15#32).toNat = 2 ^ 4 - 1 from rfl, Nat.and_two_pow_sub_one_eq_mod]
      omega
    rw [← crcBit4_low _ hlt, BitVec.ofNat_toNat, BitVec.setWidth_eq]
  unfold crcNib
  rw [← hl]
  conv => rhs; rw [hs, crcBit4_xor, hh]
end Go.Proofs.YtgpenpnobjecgaaGreatDoor

/- CrcW -/
namespace Go.Proofs.YtgpenpnobjecgaaGreatDoor
set_option maxRecDepth 100000
open Go.RowKit

@[go_sem] theorem and15_V32 (t : TypeId) (a : BitVec 32) : binOp .and t (V32 a) (.int .u32 15) = pure (V32 (a &&& 15#32)) := and_V32 t a 15#32
theorem and15_lt (x : BitVec 32) : (x &&& 15#32).toNat < 16 := by
  rw [BitVec.toNat_and, show (15#32).toNat = 2 ^ 4 - 1 from rfl, Nat.and_two_pow_sub_one_eq_mod]
  omega
def nibIx (x : BitVec 32) : Nat := (x &&& 15#32).toNat
def crcEl (x : BitVec 32) : BitVec 32 := crcTab.getD (x &&& 15#32).toNat 0
@[go_sem] theorem run_index_nib (w : World) (x : BitVec 32) : (Instr.indexAt 214 (.pointer (some ⟨0, 0, none⟩)) (V32 (x &&& 15#32))).run Tryz.prog w = .ok (.pointer (some ⟨0, nibIx x, none⟩)) w := by
  have h := and15_lt x
  show (Instr.indexAt 214 (.pointer (some ⟨0, 0, none⟩)) (.int .u32 ((x &&& 15#32).toNat : Int))).run Tryz.prog w = _
  rw [run_indexAt_array (P := Tryz.prog) (w := w) 214 _ .u32 _ Tryz.underlying214, if_pos ⟨by omega, by show _ < ((16 : Nat) : Int); omega⟩, show (sizeOf (Tryz.prog.elem 214)).run Tryz.prog w = .ok 1 w by kernel_rfl]
  simp only [Result.andThen, Addr.add_lit, Int.toNat_natCast, Nat.mul_one, Nat.zero_add]
  rfl
def crcByte (r : BitVec 32) (x : UInt8) : BitVec 32 := crcNib (crcNib (r ^^^ x.toBitVec.setWidth 32))
def crcOn (c : BitVec 32) (l : List UInt8) : BitVec 32 := ~~~(l.foldl crcByte (~~~c))
/-- The table lies where the text lays it. -/
def SumsTab (w : World) : Prop := ∀ j, j < 16 → w.cell? ⟨0, j, none⟩ = some (V32 (crcTab.getD j 0))

set_option maxRecDepth 100000 in
set_option maxHeartbeats 1000000 in
theorem crcon_any (c0 : BitVec 32) (x : List UInt8) (a : Option Addr) (n c : Nat) (w : World) (X : Txt w a n c x) (hn : n ≤ 1099511627776) (hT : SumsTab w) :
    Calls Tryz.prog 130 #[V32 c0, .slice a n c] w (fun e w' => e = .returned (V32 (crcOn c0 x)) ∧ w = w') := by
  have hl := X.len
  have hz : ∀ k : Nat, k < n → ∃ b o, a = some ⟨b, o, none⟩ ∧ w.cell? ⟨b, o + k, none⟩ = some (V8 (x.getD k 0)) := by
    intro k hk
    obtain ⟨b, o, ha, hc⟩ := X.src.at_.cells.at_ (show 0 < (x.map V8).length by simp; omega)
    have hk' : k < x.length := by omega
    exact ⟨b, o, ha, hc k _ (by simp [hk'])⟩
  have Hz := Lib.hid hz
  have Hl := Lib.hid hl
  have ht : ∀ z : BitVec 32, w.cell? ⟨0, nibIx z, none⟩ = some (V32 (crcEl z)) := fun z => hT _ (and15_lt z)
  clear X hz hl hT
  go_enter Tryz.func130, Tryz.ntmps130
  go_wp2
  go_loopw [5, 12] (fun rv iv wr => ∃ (i : Nat) (r : BitVec 32), rv = V32 r ∧ iv = .int .i64 i ∧ Hid (i ≤ n ∧ x.foldl crcByte (~~~c0) = (x.drop i).foldl crcByte r) ∧ wr = w) (fun _ iv _ => n - (intOf iv).toNat)
  case atStart => exact ⟨0, _, rfl, rfl, Lib.hid ⟨by omega, by simp⟩, rfl⟩
  case round =>
    obtain ⟨i, r, rfl, rfl, hI, rfl⟩ := hrel
    by_cases hlt : i < n
    · have h1 : (i : Int) < (n : Int) := by omega
      obtain ⟨b, o, rfl, hd⟩ := Hz.out i hlt
      obtain ⟨y, hy⟩ : ∃ y, y = x.getD i 0 := ⟨_, rfl⟩
      rw [← hy] at hd
      have hdr : x.drop i = y :: x.drop (i + 1) := by
        have hk : i < x.length := by have := Hl.out; omega
        rw [List.drop_eq_getElem_cons hk, hy]
        simp [hk]
      have Hdr := Lib.hid hdr
      clear hdr hy
      go_wp2
      exact ⟨⟨i + 1, crcByte r y, rfl, by simp, Lib.hid ⟨by omega, by rw [hI.out.2, Hdr.out]; rfl⟩, trivial⟩, by simp [intOf]; omega⟩
    · have h1 : ¬ (i : Int) < (n : Int) := by omega
      go_wp2
      go_ret
      refine ⟨?_, rfl⟩
      have : x.drop i = [] := List.drop_eq_nil_of_le (by have := Hl.out; omega)
      unfold crcOn
      rw [hI.out.2, this]
      rfl
end Go.Proofs.YtgpenpnobjecgaaGreatDoor

/- CrcR -/
namespace Go.Proofs.YtgpenpnobjecgaaGreatDoor
set_option maxRecDepth 100000
open Go.RowKit

theorem bit0 (a : BitVec 32) : a.getLsbD 0 = decide (a.toNat % 2 = 1) := by
  rw [BitVec.getLsbD, Nat.testBit_zero]
theorem rem2 (t : TypeId) (a : BitVec 32) : binOp .rem t (V32 a) (.int .u32 2) = pure (.int .u32 ((a.toNat % 2 : Nat) : Int)) := by
  show Op.intDiv .rem .u32 (a.toNat : Int) 2 = _
  unfold Op.intDiv
  rw [if_neg (by decide)]
  show pure (Value.int .u32 ((a.toNat : Int).tmod 2)) = _
  rw [Int.tmod_eq_emod_of_nonneg (by omega)]
  rfl
def lsb (a : BitVec 32) : Bool := a.getLsbD 0
def lsbI (a : BitVec 32) : Int := if lsb a then 1 else 0
@[go_sem high] theorem rem2' (t : TypeId) (a : BitVec 32) : binOp .rem t (V32 a) (.int .u32 2) = pure (.int .u32 (lsbI a)) := by
  rw [rem2, lsbI, lsb, bit0]
  by_cases h : a.toNat % 2 = 1
  · simp [h]
  · simp [show a.toNat % 2 = 0 by omega]
@[go_sem] theorem quo2 (t : TypeId) (a : BitVec 32) : binOp .quo t (V32 a) (.int .u32 2) = pure (V32 (a >>> 1)) := by
  show Op.intDiv .quo .u32 (a.toNat : Int) 2 = _
  unfold Op.intDiv
  rw [if_neg (by decide)]
  show pure (Value.int .u32 (IntKind.u32.wrap ((a.toNat : Int).tdiv 2))) = _
  have := a.isLt
  rw [Int.tdiv_eq_ediv_of_nonneg (by omega), IntKind.wrap_u32, V32, BitVec.toNat_ushiftRight, Nat.shiftRight_eq_div_pow]
  rw [show (a.toNat : Int) / 2 % 4294967296 = ((a.toNat / 2 ^ 1 : Nat) : Int) by omega]
@[go_sem] theorem xorp (t : TypeId) (a : BitVec 32) : binOp .xor t (V32 a) (.int .u32 3988292384) = pure (V32 (a ^^^ 0xedb88320#32)) := xor_V32 t a 0xedb88320#32
def bits8 (r : BitVec 32) : Nat → BitVec 32
  | 0 => r
  | k + 1 => crcBit (bits8 r k)
theorem crcByte_bits (r : BitVec 32) (x : UInt8) : crcByte r x = bits8 (r ^^^ x.toBitVec.setWidth 32) 8 := by
  unfold crcByte
  rw [crcNib_bits, crcNib_bits]
  rfl

set_option maxRecDepth 100000 in
set_option maxHeartbeats 1000000 in
theorem rcrcon_any (c0 : BitVec 32) (x : List UInt8) (a : Option Addr) (n c : Nat) (w : World) (X : Txt w a n c x) (hn : n ≤ 1099511627776) :
    Calls Tryz.prog 121 #[V32 c0, .slice a n c] w (fun e w' => e = .returned (V32 (crcOn c0 x)) ∧ w = w') := by
  have hl := X.len
  have hz : ∀ k : Nat, k < n → ∃ b o, a = some ⟨b, o, none⟩ ∧ w.cell? ⟨b, o + k, none⟩ = some (V8 (x.getD k 0)) := by
    intro k hk
    obtain ⟨b, o, ha, hc⟩ := X.src.at_.cells.at_ (show 0 < (x.map V8).length by simp; omega)
    have hk' : k < x.length := by omega
    exact ⟨b, o, ha, hc k _ (by simp [hk'])⟩
  have Hz := Lib.hid hz
  have Hl := Lib.hid hl
  clear X hz hl
  go_enter Tryz.func121, Tryz.ntmps121
  go_wp2
  go_loopw [5, 6] (fun rv iv wr => ∃ (i : Nat) (r : BitVec 32), rv = V32 r ∧ iv = .int .i64 i ∧ Hid (i ≤ n ∧ x.foldl crcByte (~~~c0) = (x.drop i).foldl crcByte r) ∧ wr = w) (fun _ iv _ => n - (intOf iv).toNat)
  case atStart => exact ⟨0, _, rfl, rfl, Lib.hid ⟨by omega, by simp⟩, rfl⟩
  case round =>
    obtain ⟨i, r, rfl, rfl, hI, rfl⟩ := hrel
    by_cases hlt : i < n
    · have h1 : (i : Int) < (n : Int) := by omega
      obtain ⟨b, o, rfl, hd⟩ := Hz.out i hlt
      obtain ⟨y, hy⟩ : ∃ y, y = x.getD i 0 := ⟨_, rfl⟩
      rw [← hy] at hd
      have hdr : x.drop i = y :: x.drop (i + 1) := by
        have hk : i < x.length := by have := Hl.out; omega
        rw [List.drop_eq_getElem_cons hk, hy]
        simp [hk]
      have Hdr := Lib.hid hdr
      clear hdr hy
      go_wp2
      go_loopw [5, 7] (fun rv kv w2 => ∃ (k : Nat), rv = V32 (bits8 (r ^^^ y.toBitVec.setWidth 32) k) ∧ kv = .int .i64 k ∧ Hid (k ≤ 8) ∧ w2 = wr) (fun _ kv _ => 8 - (intOf kv).toNat)
      case atStart => exact ⟨0, rfl, rfl, Lib.hid (by omega), rfl⟩
      case round =>
        obtain ⟨k, rfl, rfl, hK, rfl⟩ := hrel
        obtain ⟨q, hq⟩ : ∃ q, q = bits8 (r ^^^ y.toBitVec.setWidth 32) k := ⟨_, rfl⟩
        rw [← hq]
        have hq2 : bits8 (r ^^^ y.toBitVec.setWidth 32) (k + 1) = crcBit q := by rw [hq]; rfl
        have Hq := Lib.hid hq
        have Hq2 := Lib.hid hq2
        clear hq hq2
        by_cases hk : k < 8
        · have h2 : (k : Int) < 8 := by omega
          cases hb : lsb q
          · have hi : lsbI q = 0 := by simp [lsbI, hb]
            go_wp2
            exact ⟨⟨k + 1, congrArg V32 (by rw [Hq2.out, crcBit, show q.getLsbD 0 = false from hb]; rfl), by simp, Lib.hid (by omega), trivial⟩, by simp [intOf]; omega⟩
          · have hi : lsbI q = 1 := by simp [lsbI, hb]
            go_wp2
            exact ⟨⟨k + 1, congrArg V32 (by rw [Hq2.out, crcBit, show q.getLsbD 0 = true from hb]; rfl), by simp, Lib.hid (by omega), trivial⟩, by simp [intOf]; omega⟩
        · have h2 : ¬ (k : Int) < 8 := by omega
          have hk8 : k = 8 := by have := hK.out; omega
          go_wp2
          exact ⟨⟨i + 1, crcByte r y, congrArg V32 (by rw [crcByte_bits, Hq.out, hk8]), by simp, Lib.hid ⟨by omega, by rw [hI.out.2, Hdr.out]; rfl⟩, trivial⟩, by simp [intOf]; omega⟩
    · have h1 : ¬ (i : Int) < (n : Int) := by omega
      go_wp2
      go_ret
      refine ⟨?_, rfl⟩
      have : x.drop i = [] := List.drop_eq_nil_of_le (by have := Hl.out; omega)
      unfold crcOn
      rw [hI.out.2, this]
      rfl
end Go.Proofs.YtgpenpnobjecgaaGreatDoor

/- CrcS -/
namespace Go.Proofs.YtgpenpnobjecgaaGreatDoor
set_option maxRecDepth 100000
open Go.RowKit

set_option maxRecDepth 100000 in
theorem crc_any (x : List UInt8) (a : Option Addr) (n c : Nat) (w : World) (X : Txt w a n c x) (hn : n ≤ 1099511627776) (hT : SumsTab w) :
    Calls Tryz.prog 153 #[.slice a n c] w (fun e w' => e = .returned (V32 (crcOn 0 x)) ∧ w = w') := by
  have hc : Calls Tryz.prog 130 #[.int .u32 0, .slice a n c] w (fun e w' => e = .returned (V32 (crcOn 0 x)) ∧ w = w') := crcon_any 0 x a n c w X hn hT
  have Hc := Lib.hid hc
  clear hc X
  go_enter Tryz.func153, Tryz.ntmps153
  go_wp2_with fail
  go_at_call 130
  refine Hc.out.mono ?_
  rintro e w2 ⟨rfl, rfl⟩
  go_wp2
  go_ret
  exact ⟨rfl, rfl⟩
set_option maxRecDepth 100000 in
theorem rcrc_any (x : List UInt8) (a : Option Addr) (n c : Nat) (w : World) (X : Txt w a n c x) (hn : n ≤ 1099511627776) :
    Calls Tryz.prog 120 #[.slice a n c] w (fun e w' => e = .returned (V32 (crcOn 0 x)) ∧ w = w') := by
  have hc : Calls Tryz.prog 121 #[.int .u32 0, .slice a n c] w (fun e w' => e = .returned (V32 (crcOn 0 x)) ∧ w = w') := rcrcon_any 0 x a n c w X hn
  have Hc := Lib.hid hc
  clear hc X
  go_enter Tryz.func120, Tryz.ntmps120
  go_wp2_with fail
  go_at_call 121
  refine Hc.out.mono ?_
  rintro e w2 ⟨rfl, rfl⟩
  go_wp2
  go_ret
  exact ⟨rfl, rfl⟩
set_option maxRecDepth 100000 in
theorem fsum_any (x y : List UInt8) (a : Option Addr) (n c : Nat) (a2 : Option Addr) (m c2 : Nat) (w : World) (X : Txt w a n c x) (Y : Txt w a2 m c2 y) (hn : n ≤ 1099511627776) (hm : m ≤ 1099511627776) (hT : SumsTab w) :
    Calls Tryz.prog 131 #[.slice a n c, .slice a2 m c2] w (fun e w' => e = .returned (V32 (crcOn (crcOn 0 x) y)) ∧ w = w') := by
  have Hc := Lib.hid (crc_any x a n c w X hn hT)
  have Hd := Lib.hid (crcon_any (crcOn 0 x) y a2 m c2 w Y hm hT)
  clear X Y
  go_enter Tryz.func131, Tryz.ntmps131
  go_wp2_with fail
  go_at_call 153
  refine Hc.out.mono ?_
  rintro e w2 ⟨rfl, rfl⟩
  go_wp2_with fail
  go_at_call 130
  refine Hd.out.mono ?_
  rintro e w2 ⟨rfl, rfl⟩
  go_wp2
  go_ret
  exact ⟨rfl, rfl⟩
theorem crcOn_more (c : BitVec 32) (x y : List UInt8) : crcOn (crcOn c x) y = crcOn c (x ++ y) := by
  simp [crcOn, List.foldl_append, BitVec.not_not]
end Go.Proofs.YtgpenpnobjecgaaGreatDoor

/- Word -/
namespace Go.Proofs.YtgpenpnobjecgaaGreatDoor
set_option maxRecDepth 100000
open Go.RowKit

def wordOf (x : List UInt8) : BitVec 32 :=
  (x.getD 0 0).toBitVec.setWidth 32 ||| (x.getD 1 0).toBitVec.setWidth 32 <<< 8 ||| (x.getD 2 0).toBitVec.setWidth 32 <<< 16 ||| (x.getD 3 0).toBitVec.setWidth 32 <<< 24
set_option maxRecDepth 100000 in
set_option maxHeartbeats 1000000 in
theorem word_any (x : List UInt8) (a : Option Addr) (n c : Nat) (w : World) (X : Txt w a n c x) (h4 : 4 ≤ n) :
    Calls Tryz.prog 179 #[.slice a n c] w (fun e w' => e = .returned (V32 (wordOf x)) ∧ ∃ m, w' = w.drewN m) := by
  have hl := X.len
  obtain ⟨b, o, rfl, hc⟩ := X.src.at_.cells.at_ (show 0 < (x.map V8).length by simp; omega)
  have hz : ∀ k : Nat, k < 4 → ∃ y, y = x.getD k 0 ∧ w.cell? ⟨b, o + k, none⟩ = some (V8 y) := by
    intro k hk
    have hk' : k < x.length := by omega
    exact ⟨_, rfl, hc k _ (by simp [hk'])⟩
  obtain ⟨y0, e0, g0⟩ := hz 0 (by omega)
  obtain ⟨y1, e1, g1⟩ := hz 1 (by omega)
  obtain ⟨y2, e2, g2⟩ := hz 2 (by omega)
  obtain ⟨y3, e3, g3⟩ := hz 3 (by omega)
  rw [Nat.add_zero] at g0
  have hw : wordOf x = y0.toBitVec.setWidth 32 ||| y1.toBitVec.setWidth 32 <<< 8 ||| y2.toBitVec.setWidth 32 <<< 16 ||| y3.toBitVec.setWidth 32 <<< 24 := by rw [e0, e1, e2, e3]; rfl
  have Hw := Lib.hid hw
  have i0 : (0 : Int) < n := by omega
  have i1 : (1 : Int) < n := by omega
  have i2 : (2 : Int) < n := by omega
  have i3 : (3 : Int) < n := by omega
  clear hw e0 e1 e2 e3 hz hc X hl
  go_enter Tryz.func179, Tryz.ntmps179
  go_wp2
  go_region
  go_wp2
  go_ret
  refine ⟨?_, ?_⟩
  · rw [Hw.out]; rfl
  · exact ⟨1, rfl⟩
end Go.Proofs.YtgpenpnobjecgaaGreatDoor

/- FrmM -/
namespace Go.Proofs.YtgpenpnobjecgaaGreatDoor
set_option maxRecDepth 100000
open Go.RowKit

def wordB (x : BitVec 32) : List UInt8 := [⟨x.setWidth 8⟩, ⟨(x >>> 8).setWidth 8⟩, ⟨(x >>> 16).setWidth 8⟩, ⟨(x >>> 24).setWidth 8⟩]
theorem wordB_len (x : BitVec 32) : (wordB x).length = 4 := rfl
theorem wordOf_wordB (x : BitVec 32) (l : List UInt8) : wordOf (wordB x ++ l) = x := by
  unfold wordOf wordB
  simp only [List.cons_append, List.getD_cons_zero, List.getD_cons_succ]
  apply BitVec.eq_of_getLsbD_eq
  intro i hi
  simp only [BitVec.getLsbD_or, BitVec.getLsbD_shiftLeft, BitVec.getLsbD_setWidth, BitVec.getLsbD_ushiftRight, hi, decide_true, Bool.true_and]
  have key : ∀ j k : Nat, j = k → x.getLsbD j = x.getLsbD k := fun j k h => by rw [h]
  by_cases h1 : i < 8
  · simp [h1, show i < 16 by omega, show i < 24 by omega]
  · by_cases h2 : i < 16
    · simp [h1, h2, show i < 24 by omega, show i - 8 < 8 by omega, show i - 8 < 32 by omega, show 8 + (i - 8) = i by omega]
    · by_cases h3 : i < 24
      · simp [h1, h2, h3, show ¬ i - 8 < 8 by omega, show i - 16 < 8 by omega, show i - 16 < 32 by omega, show 16 + (i - 16) = i by omega]
      · simp [h1, h2, h3, show ¬ i - 8 < 8 by omega, show ¬ i - 16 < 8 by omega, show i - 24 < 8 by omega, show i - 24 < 32 by omega, show 24 + (i - 24) = i by omega]
/-- A frame: its kind and its load. -/
abbrev FrameS := UInt8 × List UInt8
def frameCrc (h : List UInt8) (rest : List UInt8) : BitVec 32 := crcOn (crcOn 0 h) rest
def headOf (n : Nat) : List UInt8 := wordB (BitVec.ofNat 32 n)
def sealed (k : UInt8) (l : List UInt8) : List UInt8 := headOf l.length ++ wordB (crcOn (frameCrc (headOf l.length) [k]) l) ++ [k] ++ l
theorem sealed_len (k : UInt8) (l : List UInt8) : (sealed k l).length = 9 + l.length := by
  simp only [sealed, headOf, List.length_append, wordB_len, List.length_singleton]
/-- frame.Seal. -/
def sealF (k : UInt8) (l : List UInt8) : List UInt8 × Nat := if k = 0 then ([], 13) else if 2097152 < l.length then ([], 1) else (sealed k l, 0)
def frameLen (x : List UInt8) : Nat := 9 + (wordOf x).toNat
/-- frame.size. -/
def sizeF (x : List UInt8) : Nat × Nat :=
  if x.length < 9 then (0, 3) else if 2097152 < (wordOf x).toNat then (0, 1) else if x.length < frameLen x then (0, 3)
  else if wordOf (x.drop 4) = frameCrc (x.take 4) ((x.take (frameLen x)).drop 8) then (if x.getD 8 0 = 0 then (0, 13) else (frameLen x, 0)) else (0, 12)
/-- frame.Open. -/
def openF (x : List UInt8) : FrameS × Nat × Nat := if (sizeF x).2 = 0 then ((x.getD 8 0, (x.take (frameLen x)).drop 9), frameLen x, 0) else ((0, []), 0, (sizeF x).2)
def scanFrom : Nat → List UInt8 → Nat → List FrameS → List FrameS × Nat × Nat
  | 0, _, n, acc => (acc, n, 0)
  | k + 1, x, n, acc => if n < x.length then (if (openF (x.drop n)).2.2 = 0 then scanFrom k x (n + (openF (x.drop n)).2.1) (acc ++ [(openF (x.drop n)).1]) else (acc, n, (openF (x.drop n)).2.2)) else (acc, n, 0)
/-- frame.Scan. -/
def scanF (x : List UInt8) : List FrameS × Nat × Nat := scanFrom (x.length + 1) x 0 []

theorem sizeF_code (x : List UInt8) (h : (sizeF x).2 = 0) : 9 ≤ (sizeF x).1 ∧ (sizeF x).1 = frameLen x ∧ frameLen x ≤ x.length ∧ (wordOf x).toNat ≤ 2097152 ∧ x.getD 8 0 ≠ 0 := by
  unfold sizeF at h ⊢
  split at h
  · exact absurd h (by decide)
  split at h
  · exact absurd h (by decide)
  split at h
  · exact absurd h (by decide)
  split at h
  · split at h
    · exact absurd h (by decide)
    · next h1 h2 h3 h4 h5 =>
      rw [if_neg h1, if_neg h2, if_neg h3, if_pos h4, if_neg h5]
      exact ⟨by simp only [frameLen]; omega, rfl, by omega, by omega, h5⟩
  · exact absurd h (by decide)
theorem openF_ok (x : List UInt8) (h : (openF x).2.2 = 0) : (sizeF x).2 = 0 := by
  unfold openF at h
  split at h
  · assumption
  · next h1 => exact absurd h h1
theorem toNat_ofNat32 (n : Nat) (h : n ≤ 2097152) : (BitVec.ofNat 32 n).toNat = n := by
  rw [BitVec.toNat_ofNat]; exact Nat.mod_eq_of_lt (by omega)
theorem sizeF_sealed (k : UInt8) (l r : List UInt8) (hk : k ≠ 0) (hl : l.length ≤ 2097152) : sizeF (sealed k l ++ r) = (9 + l.length, 0) := by
  have hw : wordOf (sealed k l ++ r) = BitVec.ofNat 32 l.length := by
    unfold sealed headOf
    simp only [List.append_assoc]
    exact wordOf_wordB _ _
  have hn : (wordOf (sealed k l ++ r)).toNat = l.length := by rw [hw]; exact toNat_ofNat32 _ hl
  have hf : frameLen (sealed k l ++ r) = 9 + l.length := by rw [frameLen, hn]
  have hlen : (sealed k l ++ r).length = 9 + l.length + r.length := by rw [List.length_append, sealed_len]
  have h8 : (sealed k l ++ r).getD 8 0 = k := by simp [sealed, headOf, wordB]
  have ht : (sealed k l ++ r).take 4 = headOf l.length := by simp [sealed, headOf, wordB]
  have hd : wordOf ((sealed k l ++ r).drop 4) = crcOn (frameCrc (headOf l.length) [k]) l := by
    have : (sealed k l ++ r).drop 4 = wordB (crcOn (frameCrc (headOf l.length) [k]) l) ++ ([k] ++ l ++ r) := by simp [sealed, headOf, wordB]
    rw [this]
    exact wordOf_wordB _ _
  have hm : ((sealed k l ++ r).take (9 + l.length)).drop 8 = [k] ++ l := by
    rw [List.take_append_of_le_length (by rw [sealed_len]; exact Nat.le_refl _), List.take_of_length_le (by rw [sealed_len]; exact Nat.le_refl _)]
    simp [sealed, headOf, wordB]
  unfold sizeF
  rw [if_neg (by omega), if_neg (by omega), if_neg (by omega), hf, hm, ht, hd, frameCrc, frameCrc, crcOn_more, if_pos rfl, h8, if_neg hk]
theorem openF_sealed (k : UInt8) (l r : List UInt8) (hk : k ≠ 0) (hl : l.length ≤ 2097152) : openF (sealed k l ++ r) = ((k, l), 9 + l.length, 0) := by
  have hs := sizeF_sealed k l r hk hl
  have hf : frameLen (sealed k l ++ r) = 9 + l.length := by
    have := (sizeF_code (sealed k l ++ r) (by rw [hs])).2.1
    rw [hs] at this
    exact this.symm
  have h8 : (sealed k l ++ r).getD 8 0 = k := by simp [sealed, headOf, wordB]
  have hm : ((sealed k l ++ r).take (9 + l.length)).drop 9 = l := by
    rw [List.take_append_of_le_length (by rw [sealed_len]; exact Nat.le_refl _), List.take_of_length_le (by rw [sealed_len]; exact Nat.le_refl _)]
    simp [sealed, headOf, wordB]
  unfold openF
  rw [if_pos (by rw [hs]), hf, h8, hm]
end Go.Proofs.YtgpenpnobjecgaaGreatDoor
