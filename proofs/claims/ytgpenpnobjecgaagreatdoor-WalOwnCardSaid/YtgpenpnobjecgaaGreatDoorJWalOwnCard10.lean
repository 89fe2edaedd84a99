/- frame.size, Open. -/
import Derived.Laws.Bits64b
import Derived.Deep.QuietTactic
import Derived.BigQuiet
import Derived.Test.YtgpenpnobjecgaaGreatDoorJWalOwnCard6
import Derived.Test.YtgpenpnobjecgaaGreatDoorJWalOwnCard9
/- UintN -/
namespace Go.Proofs.YtgpenpnobjecgaaGreatDoor
set_option maxRecDepth 100000
open Go.RowKit

theorem and_u8_127 (y : UInt8) : bits .and .u8 (y.toNat : Int) 127 = ((y.toNat % 128 : Nat) : Int) := by
  have hy : y.toNat < 256 := y.toNat_lt
  have h1 : (BitVec.ofInt 8 (y.toNat : Int)).toNat = y.toNat := by
    rw [BitVec.ofInt_natCast, BitVec.toNat_ofNat]; exact Nat.mod_eq_of_lt (by omega)
  have h2 : (BitVec.ofInt 8 127).toNat = 2 ^ 7 - 1 := by decide
  show IntKind.u8.wrap ((BitVec.ofInt 8 (y.toNat : Int) &&& BitVec.ofInt 8 127).toNat : Int) = _
  rw [BitVec.toNat_and, h1, h2, Nat.and_two_pow_sub_one_eq_mod]
  simp only [IntKind.wrap, IntKind.bits, IntKind.signed]
  simp
  omega
/-- A byte more: while nine bytes at most were read, and of the tenth but one bit. -/
theorem stepU_nat (acc i : Nat) (y : UInt8) (ha : acc < 2 ^ (7 * i)) (hi : i < 9 ∨ (i = 9 ∧ y.toNat ≤ 1)) :
    stepU acc i y = ((acc + y.toNat % 128 * 2 ^ (7 * i) : Nat) : Int) ∧ (i < 9 → acc + y.toNat % 128 * 2 ^ (7 * i) < 2 ^ (7 * (i + 1))) := by
  have hy : y.toNat < 256 := y.toNat_lt
  have hp : 2 ^ (7 * (i + 1)) = 2 ^ (7 * i) * 128 := by rw [Nat.mul_add, Nat.pow_add]
  have hm : y.toNat % 128 ≤ 127 := by omega
  have hlt : y.toNat % 128 * 2 ^ (7 * i) < 18446744073709551616 := by
    rcases hi with h | ⟨rfl, h⟩
    · have h3 : 2 ^ (7 * i) ≤ 2 ^ 56 := Nat.pow_le_pow_right (by omega) (by omega)
      have h4 : y.toNat % 128 * 2 ^ (7 * i) ≤ 127 * 2 ^ 56 := Nat.mul_le_mul hm h3
      have h5 : 127 * 2 ^ 56 < 18446744073709551616 := by decide
      omega
    · have h5 : (2 : Nat) ^ (7 * 9) = 9223372036854775808 := by decide
      rw [h5]
      have : y.toNat % 128 ≤ 1 := by omega
      omega
  have h63 : 2 ^ (7 * i) ≤ 2 ^ 63 := Nat.pow_le_pow_right (by omega) (by omega)
  have h64 : (2 : Nat) ^ 63 < 18446744073709551616 := by decide
  refine ⟨?_, fun h => ?_⟩
  · unfold stepU
    rw [and_u8_127, IntKind.wrap_u64, IntKind.wrap_u64]
    have e1 : (((y.toNat % 128 : Nat) : Int) % 18446744073709551616 * 2 ^ (7 * i)) % 18446744073709551616 = ((y.toNat % 128 * 2 ^ (7 * i) : Nat) : Int) := by
      have e2 : ((y.toNat % 128 : Nat) : Int) % 18446744073709551616 = ((y.toNat % 128 : Nat) : Int) := by omega
      rw [e2]
      have e3 : ((y.toNat % 128 : Nat) : Int) * 2 ^ (7 * i) = ((y.toNat % 128 * 2 ^ (7 * i) : Nat) : Int) := by simp
      rw [e3]
      omega
    rw [e1, bits_or_u64_nat _ _ (by omega) hlt]
    congr 1
    rw [Nat.or_comm, Nat.mul_comm, ← Nat.two_pow_add_eq_or_of_lt ha]
    omega
  · rw [hp]
    have : y.toNat % 128 * 2 ^ (7 * i) ≤ 127 * 2 ^ (7 * i) := Nat.mul_le_mul_right _ hm
    omega
/-- What is read, by plain sums. -/
def readU (i acc : Nat) : List UInt8 → Nat × Nat × Nat
  | [] => (0, 0, 3)
  | y :: t => if i = 9 ∧ 1 < y.toNat then (0, 0, 11) else if 0 < i ∧ y.toNat = 0 then (0, 0, 10) else if y.toNat < 128 then (acc + y.toNat % 128 * 2 ^ (7 * i), i + 1, 0) else readU (i + 1) (acc + y.toNat % 128 * 2 ^ (7 * i)) t
def castU (p : Nat × Nat × Nat) : Int × Int × Int := (p.1, p.2.1, p.2.2)
theorem uintFrom_nat : ∀ (l : List UInt8) (i acc : Nat), i ≤ 9 → acc < 2 ^ (7 * i) → uintFrom i acc l = castU (readU i acc l)
  | [], _, _, _, _ => rfl
  | y :: t, i, acc, hi, ha => by
    simp only [uintFrom, readU]
    by_cases h1 : i = 9 ∧ 1 < y.toNat
    · rw [if_pos h1, if_pos h1]; rfl
    · rw [if_neg h1, if_neg h1]
      have hs := stepU_nat acc i y ha (by omega)
      by_cases h2 : 0 < i ∧ y.toNat = 0
      · rw [if_pos h2, if_pos h2]; rfl
      · rw [if_neg h2, if_neg h2]
        by_cases h3 : y.toNat < 128
        · rw [if_pos h3, if_pos h3, hs.1]
          simp [castU]
        · rw [if_neg h3, if_neg h3, hs.1]
          exact uintFrom_nat t (i + 1) _ (by omega) (hs.2 (by omega))
theorem readU_ok : ∀ (l : List UInt8) (i acc v k : Nat), readU i acc l = (v, k, 0) → i < k ∧ k ≤ i + l.length
  | [], i, acc, v, k, h => by simp [readU] at h
  | y :: t, i, acc, v, k, h => by
    simp only [readU] at h
    by_cases h1 : i = 9 ∧ 1 < y.toNat
    · rw [if_pos h1] at h; simp at h
    · rw [if_neg h1] at h
      by_cases h2 : 0 < i ∧ y.toNat = 0
      · rw [if_pos h2] at h; simp at h
      · rw [if_neg h2] at h
        by_cases h3 : y.toNat < 128
        · rw [if_pos h3] at h
          simp only [Prod.mk.injEq] at h
          simp only [List.length_cons]
          omega
        · rw [if_neg h3] at h
          have := readU_ok t (i + 1) _ v k h
          simp only [List.length_cons]
          omega
theorem readU_lt : ∀ (l : List UInt8) (i acc v k e : Nat), i ≤ 9 → acc < 2 ^ (7 * i) → readU i acc l = (v, k, e) → v < 18446744073709551616
  | [], i, acc, v, k, e, _, _, h => by
    simp only [readU, Prod.mk.injEq] at h
    omega
  | y :: t, i, acc, v, k, e, hi, ha, h => by
    simp only [readU] at h
    by_cases h1 : i = 9 ∧ 1 < y.toNat
    · rw [if_pos h1] at h; simp only [Prod.mk.injEq] at h; omega
    · rw [if_neg h1] at h
      have hs := stepU_nat acc i y ha (by omega)
      by_cases h2 : 0 < i ∧ y.toNat = 0
      · rw [if_pos h2] at h; simp only [Prod.mk.injEq] at h; omega
      · rw [if_neg h2] at h
        by_cases h3 : y.toNat < 128
        · rw [if_pos h3] at h
          simp only [Prod.mk.injEq] at h
          have h5 := bits_hi_u64 .or (acc : Int) (IntKind.u64.wrap (IntKind.u64.wrap (bits .and .u8 (y.toNat : Int) 127) * 2 ^ (7 * i)))
          have h6 : stepU acc i y ≤ 18446744073709551615 := h5
          rw [hs.1] at h6
          omega
        · rw [if_neg h3] at h
          exact readU_lt t (i + 1) _ v k e (by omega) (hs.2 (by omega)) h
/-- What was laid is read back, whatever stands behind it. -/
theorem readU_groups (N : Nat) (hN : N < 18446744073709551616) (t : List UInt8) : readU 0 0 (groups N ++ t) = (N, (groups N).length, 0) := by
  have key : ∀ (b m i acc : Nat), m ≤ b → acc + m * 2 ^ (7 * i) = N → (0 < i → 0 < m) → i ≤ 9 → readU i acc (groups m ++ t) = (N, i + (groups m).length, 0) := by
    intro b
    induction b with
    | zero =>
      intro m i acc hm he hz hi
      obtain rfl : m = 0 := by omega
      obtain rfl : i = 0 := by omega
      rw [groups_small (by omega)]
      simp only [List.cons_append, List.nil_append, readU]
      simp
      omega
    | succ b ih =>
      intro m i acc hm he hz hi
      have h64 : i = 9 → m ≤ 1 := by
        rintro rfl
        have h5 : (2 : Nat) ^ (7 * 9) = 9223372036854775808 := by decide
        rw [h5] at he
        omega
      by_cases h1 : m < 128
      · rw [groups_small h1]
        have e1 : (UInt8.ofNat m).toNat = m := by simp [UInt8.toNat_ofNat']; omega
        simp only [List.cons_append, List.nil_append, readU, e1]
        rw [if_neg (by omega), if_neg (by omega), if_pos h1, Nat.mod_eq_of_lt h1, he]
        simp
      · rw [groups_more h1]
        have e1 : (UInt8.ofNat (128 + m % 128)).toNat = 128 + m % 128 := by simp [UInt8.toNat_ofNat']; omega
        simp only [List.cons_append, readU, e1]
        have e2 : (128 + m % 128) % 128 = m % 128 := by omega
        have hp : 2 ^ (7 * (i + 1)) = 128 * 2 ^ (7 * i) := by rw [Nat.mul_add, Nat.pow_add, Nat.mul_comm]
        rw [if_neg (by omega), if_neg (by omega), if_neg (by omega), e2, ih (m / 128) (i + 1) _ (by omega) ?_ (by omega) (by omega)]
        · simp only [List.length_cons]
          congr 2
          omega
        · rw [← he, hp, Nat.add_assoc, ← Nat.mul_assoc, ← Nat.add_mul]
          congr 2
          omega
  have := key N N 0 0 (Nat.le_refl _) (by simp) (by omega) (by omega)
  simpa using this
end Go.Proofs.YtgpenpnobjecgaaGreatDoor

/- Txts -/
namespace Go.Proofs.YtgpenpnobjecgaaGreatDoor
set_option maxRecDepth 100000
open Go.RowKit

theorem push_fold (l : List UInt8) : ∀ s : ByteArray, ((l.map fun b => (b.toNat : Int)).foldl (fun r n => r.push (UInt8.ofNat n.toNat)) s) = ⟨s.data ++ l.toArray⟩ := by
  induction l with
  | nil => intro s; simp
  | cons b l ih =>
    intro s
    rw [List.map_cons, List.foldl_cons, ih]
    have h1 : UInt8.ofNat ((b.toNat : Int)).toNat = b := by simp
    rw [h1]
    simp [ByteArray.push]
theorem run_string_txt {w : World} {B : Option Addr} {n C : Nat} {l : List UInt8} (h : Txt w B n C l) : (convert 22 9 (.slice B n C)).run Tryz.prog w = .ok (.string ⟨l.toArray⟩) w := by
  rw [run_convert_bytes_string w 22 9 5 B n C Tryz.underlying22 Tryz.underlying5 Tryz.underlying9]
  have hn := h.len
  have hV : ((l.map fun b => (b.toNat : Int)).map (Value.int .u8)) = l.map V8 := by simp [V8]
  cases B with
  | none =>
    have h0 := h.src.nil rfl
    have hc := h.src.cap
    have : l = [] := List.eq_nil_of_length_eq_zero (by omega)
    subst this
    obtain rfl : n = 0 := hn
    rfl
  | some ad =>
    have hld : (loadCells ad l.length).run Tryz.prog w = .ok (l.map V8).toArray w := by
      have := run_loadCells_list (P := Tryz.prog) w ad (l.map V8) (fun j v hj => by
        have hj0 : 0 < (l.map V8).length := by have := (List.getElem?_eq_some_iff.1 hj).1; omega
        obtain ⟨b, o, ha, hc⟩ := h.src.at_.cells.at_ hj0
        obtain rfl := Option.some.inj ha
        rw [Addr.add_lit]
        exact hc j v hj)
      simpa using this
    rw [hn, run_bytesToString w ad l.length C (l.map fun b => (b.toNat : Int)) (by rw [hV]; exact hld), push_fold]
    simp
end Go.Proofs.YtgpenpnobjecgaaGreatDoor

/- Text -/
namespace Go.Proofs.YtgpenpnobjecgaaGreatDoor
set_option maxRecDepth 100000
open Go.RowKit

theorem Txt.part {w : World} {a : Option Addr} {n c : Nat} {l : List UInt8} (h : Txt w a n c l) (k m : Nat) (hm : k + m ≤ n) : Txt w (if c = k then a else a.map (·.add k)) m (c - k) ((l.drop k).take m) := by
  have hl := h.len
  have hc := h.src.cap
  have hd := h.src.at_.drop hc k (by omega)
  refine ⟨by simp; omega, ⟨⟨fun h0 => ?_⟩, by simp; omega, fun hn => ?_, fun ad had => ?_⟩⟩
  · simp only [List.length_take, List.length_drop] at h0
    obtain ⟨b, o, ha, hj⟩ := hd.at_ (by simp; omega)
    refine ⟨b, o, ha, fun j hj' => ?_⟩
    simp only [List.length_take, List.length_drop] at hj'
    rw [hj j (by simp; omega)]
    simp [byteF, List.getD, show j < m by omega]
  · split at hn
    · omega
    · have := h.src.nil (by cases a with
        | none => rfl
        | some _ => cases hn)
      omega
  · split at had
    · exact h.src.plain ad had
    · cases a with
      | none => cases had
      | some a1 =>
        obtain ⟨b, o, e, hlt⟩ := h.src.plain a1 rfl
        subst e
        refine ⟨b, o + k, ?_, hlt⟩
        rw [← Option.some.inj had]
        exact Addr.add_lit ..

/-- What is read as a text: it, how many bytes it took, the error's number. -/
def textOf (x : List UInt8) (most : Int) : List UInt8 × Nat × Nat :=
  if most < 0 then ([], 0, 2) else
  if (readU 0 0 x).2.2 ≠ 0 then ([], 0, (readU 0 0 x).2.2) else
  if most < (readU 0 0 x).1 then ([], 0, 1) else
  if x.length - (readU 0 0 x).2.1 < (readU 0 0 x).1 then ([], 0, 3) else
  ((x.drop (readU 0 0 x).2.1).take (readU 0 0 x).1, (readU 0 0 x).2.1 + (readU 0 0 x).1, 0)
def retT (p : List UInt8 × Nat × Nat) : Ending := .returned (.tuple #[.string ⟨p.1.toArray⟩, .int .i64 p.2.1, .int .i64 p.2.2])

end Go.Proofs.YtgpenpnobjecgaaGreatDoor

/- Size -/
namespace Go.Proofs.YtgpenpnobjecgaaGreatDoor
set_option maxRecDepth 100000
open Go.RowKit

@[go_sem] theorem gtr_V32_lit (t : TypeId) (a : BitVec 32) (n : Int) : binOp .gtr t (V32 a) (.int .u32 n) = pure (.bool (decide (n < (a.toNat : Int)))) := rfl
@[go_sem] theorem neq_V32 (t : TypeId) (a b : BitVec 32) : binOp .neq t (V32 a) (V32 b) = pure (.bool (!decide (a = b))) := by
  have : binOp .neq t (V32 a) (V32 b) = pure (.bool (!decide ((a.toNat : Int) = b.toNat))) := rfl
  have h : ((a.toNat : Int) = b.toNat) = (a = b) := propext ⟨fun h => BitVec.eq_of_toNat_eq (by omega), fun h => by rw [h]⟩
  rw [this]
  simp only [h]
@[go_sem] theorem run_convert_V32_i64 {P : Program} (w : World) (src dst : TypeId) (x : BitVec 32) (hs : (P.underlying src).isSome = true) (hd : P.underlying dst = some (.int .i64)) :
    (convert src dst (V32 x)).run P w = .ok (.int .i64 (x.toNat : Int)) w := by
  have hk : P.intKind dst = .i64 := by simp [Program.intKind, hd]
  have := run_convert_int w src dst .u32 x.toNat hs (by rw [hk]; exact hd)
  rw [hk] at this
  rw [V32, this]
  have hx := x.isLt
  rw [show IntKind.i64.wrap (x.toNat : Int) = (x.toNat : Int) from by simp only [IntKind.wrap_i64]; omega]
theorem Txt.capped {w : World} {a : Option Addr} {n c c' : Nat} {l : List UInt8} (h : Txt w a n c l) (hn : n ≤ c') (h0 : a = none → c' = 0) : Txt w a n c' l :=
  ⟨h.len, ⟨h.src.at_, by have := h.len; omega, h0, h.src.plain⟩⟩
theorem sizeOf_bytes (w : World) : (sizeOf (Tryz.prog.elem 22)).run Tryz.prog w = .ok 1 w := by kernel_rfl
theorem elem_bytes : Tryz.prog.underlying 22 = some (.slice (Tryz.prog.elem 22)) := by kernel_rfl
theorem run_sl_l (w : World) (b o n c : Nat) (k : Int) (j : Nat) (hj : j = k.toNat) (h0 : 0 ≤ k) (h1 : k ≤ n) (h2 : j < c) : (Instr.slice 22 (.slice (some ⟨b, o, none⟩) n c) (some (.int .i64 k)) none none).run Tryz.prog w = .ok (.slice (some ⟨b, o + j, none⟩) (n - j) (c - j)) w := by
  subst hj
  rw [run_slice_l w 22 _ n c elem_bytes .i64 k h0 h1, sizeOf_bytes]
  simp only [Result.andThen, sliced]
  rw [if_neg (by omega), Nat.mul_one, Option.map_some, Addr.add_lit]
theorem run_sl_h (w : World) (b o n c : Nat) (m : Int) (i : Nat) (hi : i = m.toNat) (h0 : 0 ≤ m) (h2 : i ≤ c) (h3 : 0 < c) : (Instr.slice 22 (.slice (some ⟨b, o, none⟩) n c) none (some (.int .i64 m)) none).run Tryz.prog w = .ok (.slice (some ⟨b, o, none⟩) i c) w := by
  subst hi
  rw [run_slice_h w 22 _ n c elem_bytes .i64 m h0 (by omega), sizeOf_bytes]
  simp only [Result.andThen, sliced]
  rw [if_neg (by omega), Nat.zero_mul, Option.map_some, Addr.add_lit]
  rfl
theorem run_sl_lh (w : World) (b o n c : Nat) (k m : Int) (j i : Nat) (hj : j = k.toNat) (hi : j + i = m.toNat) (h0 : 0 ≤ k) (h1 : k ≤ m) (h2 : j + i ≤ c) (h3 : j < c) : (Instr.slice 22 (.slice (some ⟨b, o, none⟩) n c) (some (.int .i64 k)) (some (.int .i64 m)) none).run Tryz.prog w = .ok (.slice (some ⟨b, o + j, none⟩) i (c - j)) w := by
  subst hj
  rw [run_slice_lh w 22 _ n c elem_bytes .i64 .i64 k m h0 h1 (by omega), sizeOf_bytes]
  simp only [Result.andThen, sliced]
  rw [if_neg (by omega), Nat.mul_one, Option.map_some, Addr.add_lit, show m.toNat - k.toNat = i by omega]
theorem run_sl_lhm (w : World) (b o n c : Nat) (k m : Int) (j i : Nat) (hj : j = k.toNat) (hi : j + i = m.toNat) (h0 : 0 ≤ k) (h1 : k ≤ m) (h2 : j + i ≤ c) : (Instr.slice 22 (.slice (some ⟨b, o, none⟩) n c) (some (.int .i64 k)) (some (.int .i64 m)) (some (.int .i64 m))).run Tryz.prog w = .ok (.slice (if i = 0 then some ⟨b, o, none⟩ else some ⟨b, o + j, none⟩) i i) w := by
  subst hj
  rw [run_slice_lhm w 22 _ n c elem_bytes .i64 .i64 .i64 k m m h0 h1 (Int.le_refl _) (by omega), sizeOf_bytes]
  simp only [Result.andThen, sliced]
  rw [Nat.mul_one, Option.map_some, Addr.add_lit, show m.toNat - k.toNat = i by omega]
  by_cases hi0 : i = 0
  · rw [if_pos (by omega), if_pos hi0]
  · rw [if_neg (by omega), if_neg hi0]
def ret2 (p : Nat × Nat) : Ending := .returned (.tuple #[.int .i64 p.1, .int .i64 p.2])

set_option maxRecDepth 100000 in
set_option maxHeartbeats 1000000 in
theorem size_any (x : List UInt8) (a : Option Addr) (n c : Nat) (w : World) (X : Txt w a n c x) (hn : n ≤ 1099511627776) (hT : SumsTab w) :
    Calls Tryz.prog 151 #[.slice a n c] w (fun e w' => e = ret2 (sizeF x) ∧ ∃ m, w' = w.drewN m) := by
  have hl := X.len
  by_cases h9 : n < 9
  · have hr := Lib.hid (show sizeF x = (0, 3) by unfold sizeF; rw [if_pos (by omega)])
    have h9' : (n : Int) < 9 := by omega
    clear X hT h9 hl
    go_enter Tryz.func151, Tryz.ntmps151
    go_wp2
    go_ret2
    rw [hr.out]
    exact ⟨rfl, 0, rfl⟩
  · have h9' : (9 : Int) ≤ n := by omega
    have hw := Lib.hid (word_any x a n c w X (by omega))
    obtain ⟨v, hv⟩ : ∃ v, v = wordOf x := ⟨_, rfl⟩
    rw [← hv] at hw
    by_cases h2 : 2097152 < v.toNat
    · have hr := Lib.hid (show sizeF x = (0, 1) by unfold sizeF; rw [if_neg (by omega), ← hv, if_pos h2])
      have h2' : (2097152 : Int) < v.toNat := by omega
      clear X hT h9 hl hv h2
      go_enter Tryz.func151, Tryz.ntmps151
      go_wp2_with (go_at_call 179; refine hw.out.mono ?_; rintro e w1 ⟨rfl, m, rfl⟩)
      go_ret2
      rw [hr.out]
      exact ⟨rfl, m, rfl⟩
    · have h2' : decide ((2097152 : Int) < v.toNat) = false := by simp; omega
      have h2n : (v.toNat : Int) ≤ 2097152 := by omega
      by_cases h3 : n < 9 + v.toNat
      · have hr := Lib.hid (show sizeF x = (0, 3) by unfold sizeF frameLen; rw [if_neg (by omega), ← hv, if_neg h2, if_pos (by omega)])
        have h3' : (n : Int) < 9 + (v.toNat : Int) := by omega
        clear X hT h9 hl hv h2 h3
        go_enter Tryz.func151, Tryz.ntmps151
        go_wp2_with (go_at_call 179; refine hw.out.mono ?_; rintro e w1 ⟨rfl, m, rfl⟩)
        go_ret2
        rw [hr.out]
        exact ⟨rfl, m, rfl⟩
      · have h3' : decide ((n : Int) < 9 + (v.toNat : Int)) = false := by simp; omega
        have hr := Lib.hid (show sizeF x = if wordOf (x.drop 4) = frameCrc (x.take 4) ((x.take (9 + v.toNat)).drop 8) then (if x.getD 8 0 = 0 then (0, 13) else (9 + v.toNat, 0)) else (0, 12) by
          unfold sizeF frameLen; rw [if_neg (by omega), ← hv, if_neg h2, if_neg (by omega)])
        obtain ⟨b, o, rfl, hd⟩ := X.src.at_.cells.at_ (show 0 < (x.map V8).length by simp; omega)
        obtain ⟨k, hk⟩ : ∃ k, k = x.getD 8 0 := ⟨_, rfl⟩
        have h8 : w.cell? ⟨b, o + 8, none⟩ = some (V8 k) := by
          have := hd 8 (V8 k) (by simp [hk, show 8 < x.length by omega])
          exact this
        rw [← hk] at hr
        have HX := Lib.hid X
        have HT := Lib.hid hT
        clear X hT h9 hl hv h2 h3 hk hd
        go_enter Tryz.func151, Tryz.ntmps151
        go_wp2_with fail
        go_at_call 179
        refine hw.out.mono ?_
        rintro e w1 ⟨rfl, m, rfl⟩
        go_wp2_with fail
        have hT1 : ∀ j, SumsTab ((w.drewN m).drewN j) := fun j => HT.out.low (bthen (below_drewN w m) (below_drewN _ j))
        have hX1 : ∀ j, Txt ((w.drewN m).drewN j) (some ⟨b, o, none⟩) n c x := fun j => HX.out.below (bthen (below_drewN w m) (below_drewN _ j))
        have hxl := HX.out.len
        have hcap := HX.out.src.cap
        have hvn : 9 + v.toNat ≤ n := by simp at h3'; omega
        have h8' := fun j => (Kept.of_below (F := fun _ => False) (bthen (below_drewN w m) (below_drewN (w.drewN m) j))).cell h8 id
        have P4 : ∀ j, Txt ((w.drewN m).drewN j) (some ⟨b, o + 4, none⟩) (n - 4) (c - 4) (x.drop 4) := fun j => by
          have h := (hX1 j).part 4 (n - 4) (by omega)
          rw [if_neg (by omega), List.take_of_length_le (by simp; omega)] at h
          exact h
        have P0 : ∀ j, Txt ((w.drewN m).drewN j) (some ⟨b, o, none⟩) 4 c (x.take 4) := fun j => (hX1 j).take (by omega)
        have P8 : ∀ j, Txt ((w.drewN m).drewN j) (some ⟨b, o + 8, none⟩) (1 + v.toNat) (c - 8) ((x.take (9 + v.toNat)).drop 8) := fun j => by
          have h := (hX1 j).part 8 (1 + v.toNat) (by omega)
          rw [if_neg (by omega)] at h
          rw [List.drop_take, show 9 + v.toNat - 8 = 1 + v.toNat by omega]
          exact h
        have c1 := fun j => word_any _ _ _ _ _ (P4 j) (by omega)
        have c2 := fun j => fsum_any _ _ _ _ _ _ _ _ _ (P0 j) (P8 j) (by decide) (by omega) (hT1 j)
        have s1 : ∀ w : World, (Instr.slice 22 (.slice (some ⟨b, o, none⟩) n c) (some (.int .i64 4)) none none).run Tryz.prog w = .ok (.slice (some ⟨b, o + 4, none⟩) (n - 4) (c - 4)) w := fun w => run_sl_l w b o n c 4 4 rfl (by omega) (by omega) (by omega)
        have s2 : ∀ w : World, (Instr.slice 22 (.slice (some ⟨b, o, none⟩) n c) none (some (.int .i64 4)) none).run Tryz.prog w = .ok (.slice (some ⟨b, o, none⟩) 4 c) w := fun w => run_sl_h w b o n c 4 4 rfl (by omega) (by omega) (by omega)
        have s3 : ∀ w : World, (Instr.slice 22 (.slice (some ⟨b, o, none⟩) n c) (some (.int .i64 8)) (some (.int .i64 (9 + (v.toNat : Int)))) none).run Tryz.prog w = .ok (.slice (some ⟨b, o + 8, none⟩) (1 + v.toNat) (c - 8)) w := fun w => run_sl_lh w b o n c 8 (9 + (v.toNat : Int)) 8 (1 + v.toNat) rfl (by omega) (by omega) (by omega) (by omega) (by omega)
        clear hT1 hX1 P4 P0 P8 hxl hcap hvn
        generalize hw1 : w.drewN m = w1 at c1 c2 h8' ⊢
        obtain ⟨a1, ha1⟩ : ∃ a1, a1 = wordOf (x.drop 4) := ⟨_, rfl⟩
        obtain ⟨a2, ha2⟩ : ∃ a2, a2 = crcOn (crcOn 0 (x.take 4)) ((x.take (9 + v.toNat)).drop 8) := ⟨_, rfl⟩
        unfold frameCrc at hr
        rw [← ha1] at hr c1
        rw [← ha2] at hr c2
        have C1 := Lib.hid c1
        have C2 := Lib.hid c2
        have Hw1 := Lib.hid hw1
        clear c1 c2 hw1 ha1 ha2
        go_quiet ((first | (go_at_call 179; exact Calls.quiet_of (C1.out _)) | (go_at_call 131; exact Calls.quiet_of_same ((C2.out _).mono fun e w' h => ⟨h.1, h.2.symm⟩))))
        have hfin : ∃ j, w1.drewN nq = w.drewN j := ⟨m + nq, by rw [← Hw1.out, World.drewN_drewN]⟩
        have Hfin := Lib.hid hfin
        clear hfin
        by_cases hcrc : a1 = a2
        · rw [if_pos hcrc] at hr
          have hq : decide (a1 = a2) = true := decide_eq_true hcrc
          rw [hq, Bool.not_true]
          clear hcrc
          have i8 : (8 : Int) < n := by omega
          have h8q := h8' nq
          by_cases hk : k = 0
          · rw [if_pos hk] at hr
            have hkd : decide (k = 0) = true := decide_eq_true hk
            clear hk
            go_wp2
            go_ret2
            rw [hr.out]
            exact ⟨rfl, Hfin.out⟩
          · rw [if_neg hk] at hr
            have hkd : decide (k = 0) = false := decide_eq_false hk
            clear hk
            go_wp2
            go_ret2
            rw [hr.out]
            exact ⟨rfl, Hfin.out⟩
        · rw [if_neg hcrc] at hr
          have hq : decide (a1 = a2) = false := decide_eq_false hcrc
          rw [hq, Bool.not_false]
          clear hcrc
          go_wp2
          go_ret2
          rw [hr.out]
          exact ⟨rfl, Hfin.out⟩
end Go.Proofs.YtgpenpnobjecgaaGreatDoor
