/- frame.Text. -/
import Derived.OwnWalk
import Derived.Laws.Bits64b
import Derived.Test.YtgpenpnobjecgaaGreatDoorJWalSafeCard5
import Derived.Test.YtgpenpnobjecgaaGreatDoorJWalSafeCard7
/- Seal -/
namespace Go.Proofs.YtgpenpnobjecgaaGreatDoor
set_option maxRecDepth 100000
open Go.RowKit

@[go_sem] theorem eql_V8_lit (t : TypeId) (k : UInt8) : binOp .eql t (V8 k) (.int .u8 0) = pure (.bool (decide (k = 0))) := by
  have : binOp .eql t (V8 k) (.int .u8 0) = pure (.bool (decide ((k.toNat : Int) = 0))) := rfl
  rw [this]
  have h : ((k.toNat : Int) = 0) = (k = 0) := propext ?_
  · simp only [h]
  constructor
  · intro h; exact UInt8.toNat_inj.1 (by simpa using h)
  · rintro rfl; rfl
/-- A slice of the call's own. -/
structure Fresh (w w' : World) (B : Option Addr) (D : Nat) (l : List UInt8) (blk : Option Nat) : Prop where
  own : OwnR w' 5 1 B l.length D (l.map V8) blk
  fresh : ∀ b, blk = some b → w.heap.size ≤ b
  low : Below w.heap.size w w'
theorem Fresh.next {w w1 w2 : World} {B : Option Addr} {D : Nat} {l : List UInt8} {blk : Option Nat} (h : Fresh w w1 B D l blk) (hb : Below w1.heap.size w1 w2) : Fresh w w2 B D l blk := ⟨h.own.below hb, h.fresh, bthen h.low hb⟩
theorem Fresh.kept {w w1 w2 : World} {B B' : Option Addr} {D D' : Nat} {l l' : List UInt8} {blk blk' : Option Nat} (h : Fresh w w1 B D l blk) (hk : Kept (fun b => blk = some b) w1 w2) (h' : OwnR w2 5 1 B' l'.length D' (l'.map V8) blk') (hb : ∀ b, blk' = some b → blk = some b ∨ w1.heap.size ≤ b) : Fresh w w2 B' D' l' blk' :=
  ⟨h', fun b e => (hb b e).elim (h.fresh b) fun h2 => Nat.le_trans h.low.size h2, ((Kept.of_below (F := fun b => blk = some b) h.low).then hk).below fun b hlt e => by have := h.fresh b e; omega⟩
theorem Fresh.start {w w' : World} {g C : Nat} {cur : Array Value} (hg : w'.heap[g]? = some (.cells cur 5 (0, 0))) (hc : cur.size = C) (hC : C ≤ maxLen) (hb : w.heap.size ≤ g) (hl : Below w.heap.size w w') : Fresh w w' (some ⟨g, 0, none⟩) C [] (some g) :=
  ⟨OwnR.of_row hg (Nat.zero_le _) hC (by rw [hc, Nat.mul_one]) (by simp), fun b e => by rw [← Option.some.inj e]; exact hb, hl⟩
theorem SumsTab.low {w w' : World} (h : SumsTab w) (hb : Below w.heap.size w w') : SumsTab w' := fun j hj => (Kept.of_below (F := fun _ => False) hb).cell (h j hj) id
theorem Fresh.txt {w w' : World} {B : Option Addr} {D : Nat} {l : List UInt8} {blk : Option Nat} (h : Fresh w w' B D l blk) : Txt w' B l.length D l := h.own.txt
theorem Fresh.app {w w1 w2 : World} {B B' : Option Addr} {D D' m : Nat} {l l' : List UInt8} {blk blk' : Option Nat} (h : Fresh w w1 B D l blk) (hm : m = l'.length) (ho : OwnR w2 5 1 B' (l.length + m) D' (l.map V8 ++ l'.map V8) blk') (hg : w1.grownBy w2 blk) (hb : blk' = blk ∨ blk' = some w1.heap.size) : Fresh w w2 B' D' (l ++ l') blk' := by
  subst hm
  refine h.kept ((Kept.refl _ w1).grown hg fun k e => .inl e) (by rw [List.length_append, List.map_append]; exact ho) fun b e => ?_
  rcases hb with h1 | h1
  · exact .inl (h1 ▸ e)
  · rw [h1] at e
    exact .inr (Nat.le_of_eq (Option.some.inj e))
/-- New bytes, and an error's number. -/
def RetSeal (w : World) (r : List UInt8 × Nat) (e : Ending) (w' : World) : Prop := ∃ B C blk, e = .returned (.tuple #[.slice B r.1.length C, .int .i64 r.2]) ∧ OwnR w' 5 1 B r.1.length C (r.1.map V8) blk ∧ (∀ b, blk = some b → w.heap.size ≤ b) ∧ Below w.heap.size w w'
set_option maxRecDepth 100000 in
set_option maxHeartbeats 1000000 in
theorem seal_any (k : UInt8) (l : List UInt8) (A : Option Addr) (C : Nat) (w : World) (X : Txt w A l.length C l) (hl : l.length ≤ 1099511627776) (hT : SumsTab w) :
    Calls Tryz.prog 103 #[V8 k, .slice A l.length C] w (RetSeal w (sealF k l)) := by
  by_cases hk : k = 0
  · subst hk
    have hr : sealF 0 l = ([], 13) := rfl
    have hr := Lib.hid hr
    clear X hT
    go_enter Tryz.func103, Tryz.ntmps103
    go_wp2
    go_ret2
    rw [hr.out]
    exact ⟨none, 0, none, rfl, OwnR.nil _ _ _, (fun b h => by cases h), Below.refl _ _⟩
  · have hkd : decide (k = 0) = false := by simpa using hk
    by_cases hn : 2097152 < l.length
    · have hr := Lib.hid (show sealF k l = ([], 1) by unfold sealF; rw [if_neg hk, if_pos hn])
      have hn' : (2097152 : Int) < l.length := by omega
      clear X hT hn hk
      go_enter Tryz.func103, Tryz.ntmps103
      go_wp2
      go_ret2
      rw [hr.out]
      exact ⟨none, 0, none, rfl, OwnR.nil _ _ _, (fun b h => by cases h), Below.refl _ _⟩
    · have hr := Lib.hid (show sealF k l = (sealed k l, 0) by unfold sealF; rw [if_neg hk, if_neg hn])
      have hn1 : (l.length : Int) ≤ 2097152 := by omega
      have hn' : decide ((2097152 : Int) < l.length) = false := by simp; omega
      obtain ⟨i0, hi0, hz0, hs0, hb0⟩ := info_u8i
      have hmk : (Instr.makeSlice 22 (.int .i64 0) (.int .i64 (9 + (l.length : Int)))).run Tryz.prog w = .ok (.slice (some ⟨w.heap.size, 0, none⟩) 0 (9 + l.length)) (w.alloc (.cells (madeCells #[Value.int .u8 0] (9 + l.length)) 5)) := by
        have h := run_make (P := Tryz.prog) w 22 5 i0 (.int .u8 0) Tryz.underlying22 hi0 hz0 .i64 .i64 0 (9 + (l.length : Int)) (by omega) (by omega) (by rw [hb0]; omega) (by omega)
        rw [hs0, show (9 + (l.length : Int)).toNat = 9 + l.length by omega, Int.toNat_zero, Nat.mul_one] at h
        exact h
      have HN := Lib.hid hn1
      have HX := Lib.hid X
      have HT := Lib.hid hT
      clear X hT hn hn1 hk
      go_enter Tryz.func103, Tryz.ntmps103
      go_wp2_with fail
      have hcv : IntKind.u32.wrap (l.length : Int) = ((BitVec.ofNat 32 l.length).toNat : Int) := by simp [IntKind.wrap_u32]
      have hcw : Value.int .u32 ((l.length : Int) % 4294967296) = V32 (BitVec.ofNat 32 l.length) := by unfold V32; simp
      rw [hcw]
      clear hcv hcw
      have F0 : Fresh w (w.alloc (.cells (madeCells #[Value.int .u8 0] (9 + l.length)) 5)) (some ⟨w.heap.size, 0, none⟩) (9 + l.length) [] (some w.heap.size) := Fresh.start (blk1 _ _) (size_madeCells _ _) (by unfold maxLen; omega) (Nat.le_refl _) (low1 _ _)
      go_at_call 129
      refine (putword_any [] _ _ _ _ _ F0.own (by simp)).mono ?_
      rintro e w1 ⟨B1, D1, b1, rfl, h1, h2, h3⟩
      have F1 := Lib.hid (F0.kept h2 h1 h3)
      clear F0 h1 h2 h3 hmk hi0 hz0 hs0 hb0
      rw [List.nil_append] at *
      have hh4 : (wordB (BitVec.ofNat 32 l.length)).length = 4 := rfl
      generalize hhd : wordB (BitVec.ofNat 32 l.length) = hd at F1 hh4 ⊢
      have Hh4 := Lib.hid hh4
      have Hhd := Lib.hid hhd
      clear hh4 hhd
      go_wp2_with fail
      have F2 := F1.out.next (low1 _ (.cells #[V8 k] 5))
      have T2 := HT.out.low F2.low
      go_at_call 131
      refine (fsum_any hd [k] _ _ _ _ _ _ _ F2.txt (Txt.of_one (blk1 _ _) rfl) (by rw [Hh4.out]; decide) (by decide) T2).mono ?_
      rintro e w2 ⟨rfl, rfl⟩
      have F3 := Lib.hid F2
      have T3 := Lib.hid T2
      generalize hw2 : w1.alloc (.cells #[V8 k] 5) = w2 at F3 T3 ⊢
      clear F2 T2 hw2 F1
      go_wp2_with fail
      go_at_call 130
      refine (crcon_any _ l _ _ _ _ (HX.out.below F3.out.low) hl T3.out).mono ?_
      rintro e w3 ⟨rfl, rfl⟩
      generalize hcr : crcOn (crcOn (crcOn 0 hd) [k]) l = cr
      have Hcr := Lib.hid hcr
      clear hcr
      go_wp2_with fail
      go_at_call 129
      refine (putword_any hd cr _ _ _ _ F3.out.own (by rw [Hh4.out]; decide)).mono ?_
      rintro e w4 ⟨B4, D4, b4, rfl, h1, h2, h3⟩
      have F4 := Lib.hid (F3.out.kept h2 h1 h3)
      clear F3 h1 h2 h3
      have hl4 : (hd ++ wordB cr).length = 8 := by rw [List.length_append, wordB_len, Hh4.out]
      have HE : Hid (sealed k l = (hd ++ wordB cr) ++ [k] ++ l) := Lib.hid (by unfold sealed headOf frameCrc; rw [Hhd.out, Hcr.out])
      generalize hd ++ wordB cr = pre at F4 hl4 HE ⊢
      have Hl4 := Lib.hid hl4
      clear hl4
      have z1 : pre.length + 1 ≤ maxLen := by rw [Hl4.out]; decide
      have z2 : (pre.length + 1) * 1 ≤ 140737488355328 := by rw [Hl4.out]; decide
      have z3 : pre.length + 1 + l.length ≤ maxLen := by rw [Hl4.out]; have := HN.out; unfold maxLen; omega
      have z4 : (pre.length + 1 + l.length) * 1 ≤ 140737488355328 := by rw [Hl4.out]; have := HN.out; omega
      go_wp2_with (first | (at_builtin; refine wpList_app rfl _ _ 22 rfl 5 1 1 _ Tryz.underlying22 info_u8r rfl (by decide) B6 (pre.length + 1) D6 (pre.map V8 ++ [k].map V8) b6 rfl H6.out A l.length C (l.map V8) rfl (by simp) (HX.out.below F6.out.low).src.at_.cells HX.out.src.nil HX.out.src.od (bone l) z3 z4 ?_; intro B7 D7 w7 b7 h1 h2 h3; have F7 := Lib.hid (F6.out.app rfl (by simpa using h1) h2 h3); clear h1 h2 h3) | (at_builtin; refine wpList_app rfl _ _ 22 rfl 5 1 1 _ Tryz.underlying22 info_u8r rfl (by decide) B4 pre.length D4 (pre.map V8) b4 rfl (F4.out.own.below (low1 _ _)) (some ⟨w4.heap.size, 0, none⟩) 1 1 ([k].map V8) rfl rfl (CellsAt.of_block (blk1 _ _)) (fun h => by cases h) (fun ad h => ⟨_, _, (Option.some.inj h).symm⟩) (bone _) z1 z2 ?_; intro B6 D6 w6 b6 h1 h2 h3; have F6 := Lib.hid ((F4.out.next (low1 _ _)).app (l' := [k]) rfl h1 h2 h3); have H6 := Lib.hid h1; clear h1 h2 h3))
      go_ret2
      rw [hr.out]
      have hlen : (sealed k l).length = pre.length + 1 + l.length := by rw [HE.out]; simp; omega
      have F8 := F7.out
      rw [← HE.out] at F8
      refine ⟨B7, D7, b7, ?_, F8.own, F8.fresh, F8.low⟩
      rw [hlen]
      rfl
end Go.Proofs.YtgpenpnobjecgaaGreatDoor

/- Uint -/
namespace Go.Proofs.YtgpenpnobjecgaaGreatDoor
set_option maxRecDepth 100000
open Go.RowKit

/-- A number with the seven bits of a byte more. -/
def stepU (acc : Int) (i : Nat) (y : UInt8) : Int := bits .or .u64 acc (IntKind.u64.wrap (IntKind.u64.wrap (bits .and .u8 (y.toNat : Int) 127) * 2 ^ (7 * i)))
/-- What is read from byte i on: the number, how many bytes it took, the error's number. -/
def uintFrom (i : Nat) (acc : Int) : List UInt8 → Int × Int × Int
  | [] => (0, 0, 3)
  | y :: t => if i = 9 ∧ 1 < y.toNat then (0, 0, 11) else if 0 < i ∧ y.toNat = 0 then (0, 0, 10) else if y.toNat < 128 then (stepU acc i y, (i : Int) + 1, 0) else uintFrom (i + 1) (stepU acc i y) t
def retU (p : Int × Int × Int) : Ending := .returned (.tuple #[.int .u64 p.1, .int .i64 p.2.1, .int .i64 p.2.2])

set_option maxRecDepth 100000 in
set_option maxHeartbeats 1000000 in
theorem uint_any (x : List UInt8) (a : Option Addr) (n c : Nat) (w : World) (X : Txt w a n c x) (hn : n ≤ 1099511627776) :
    Calls Tryz.prog 127 #[.slice a n c] w (fun e w' => e = retU (uintFrom 0 0 x) ∧ w = w') := by
  have hl := X.len
  have hz : ∀ k : Nat, k < n → ∃ b o, a = some ⟨b, o, none⟩ ∧ w.cell? ⟨b, o + k, none⟩ = some (V8 (x.getD k 0)) := by
    intro k hk
    obtain ⟨b, o, ha, hc⟩ := X.src.at_.cells.at_ (show 0 < (x.map V8).length by simp; omega)
    have hk' : k < x.length := by omega
    exact ⟨b, o, ha, hc k _ (by simp [hk'])⟩
  have Hz := Lib.hid hz
  have Hl := Lib.hid hl
  clear X hz hl
  go_enter Tryz.func127, Tryz.ntmps127
  go_wp2
  go_loopw [5, 10] (fun nv iv wr => ∃ (i : Nat) (acc : Int), nv = .int .u64 acc ∧ iv = .int .i64 i ∧ Hid ((i ≤ n ∧ i ≤ 9) ∧ uintFrom 0 0 x = uintFrom i acc (x.drop i)) ∧ wr = w) (fun _ iv _ => n - (intOf iv).toNat)
  case atStart => exact ⟨0, 0, rfl, rfl, Lib.hid ⟨⟨by omega, by omega⟩, by simp⟩, rfl⟩
  case round =>
    obtain ⟨i, acc, rfl, rfl, hI, rfl⟩ := hrel
    by_cases hlt : i < n
    · have h1 : (i : Int) < (n : Int) := by omega
      obtain ⟨b, o, rfl, hd⟩ := Hz.out i hlt
      obtain ⟨y, hy⟩ : ∃ y, y = x.getD i 0 := ⟨_, rfl⟩
      rw [← hy] at hd
      unfold V8 at hd
      have hdr : x.drop i = y :: x.drop (i + 1) := by
        have hk : i < x.length := by have := Hl.out; omega
        rw [List.drop_eq_getElem_cons hk, hy]
        simp [hk]
      have hu := hI.out.2
      rw [hdr] at hu
      simp only [uintFrom] at hu
      obtain ⟨yv, hyv⟩ : ∃ v : Int, v = (y.toNat : Int) := ⟨_, rfl⟩
      rw [← hyv] at hd
      have hst : stepU acc i y = bits .or .u64 acc (IntKind.u64.wrap (IntKind.u64.wrap (bits .and .u8 yv 127) * 2 ^ (7 * i))) := by rw [hyv]; rfl
      have Hy := Lib.hid hyv
      have Hst := Lib.hid hst
      have Hu := Lib.hid hu
      clear hy hdr hu hyv hst
      have hi9 := hI.out.1.2
      have s1 : (0 : Int) ≤ 7 * (i : Int) := by omega
      have s2 : 7 * (i : Int) < 64 := by omega
      have s3 : ¬ 7 * (i : Int) < 0 := by omega
      have s4 : ¬ 64 ≤ 7 * (i : Int) := by omega
      go_wp2
      all_goals first
        | (go_ret3
           refine ⟨?_, rfl⟩
           rw [Hu.out]
           have hyy := Hy.out
           try simp only [beq_iff_eq, beq_eq_false_iff_ne, ne_eq] at *
           (repeat' split) <;> first
             | rfl
             | (exfalso; omega)
             | (unfold retU; simp only []; rw [Hst.out]; rfl)
             | (obtain rfl : i = 9 := by omega
                unfold retU
                simp only []
                rw [Hst.out, show (2 : Int) ^ (7 * 9) = 9223372036854775808 from by decide]
                rfl))
        | (refine ⟨⟨i + 1, stepU acc i y, by rw [Hst.out], by simp, Lib.hid ⟨⟨by omega, ?_⟩, ?_⟩, trivial⟩, by simp [intOf]; omega⟩
           · have := Hy.out
             omega
           · rw [Hu.out, if_neg (by omega), if_neg ?_, if_neg (by have := Hy.out; omega)]
             have := Hy.out
             try simp only [beq_eq_false_iff_ne, ne_eq] at *
             omega)
    · have h1 : ¬ (i : Int) < (n : Int) := by omega
      go_wp2
      go_ret3
      refine ⟨?_, rfl⟩
      have : x.drop i = [] := List.drop_eq_nil_of_le (by have := Hl.out; omega)
      rw [hI.out.2, this]
      rfl
end Go.Proofs.YtgpenpnobjecgaaGreatDoor

/- Num -/
namespace Go.Proofs.YtgpenpnobjecgaaGreatDoor
set_option maxRecDepth 100000
open Go.RowKit

def groups (n : Nat) : List UInt8 := if _h : n < 128 then [UInt8.ofNat n] else UInt8.ofNat (128 + n % 128) :: groups (n / 128)
termination_by n
decreasing_by omega
theorem groups_small {n : Nat} (h : n < 128) : groups n = [UInt8.ofNat n] := by rw [groups, dif_pos h]
theorem groups_more {n : Nat} (h : ¬ n < 128) : groups n = UInt8.ofNat (128 + n % 128) :: groups (n / 128) := by rw [groups, dif_neg h]
/-- How far the reckoning has come: what has been laid, what is left. -/
structure GrAt (N : Nat) (pre : List UInt8) (m : Nat) : Prop where
  eq : groups N = pre ++ groups m
  mul : 2 ^ (7 * pre.length) * m ≤ N
  len : pre.length = 0 ∨ 2 ^ (7 * pre.length) ≤ N
theorem GrAt.start (N : Nat) : GrAt N [] N := ⟨rfl, by simp, .inl rfl⟩
theorem GrAt.next {N : Nat} {pre : List UInt8} {m : Nat} (h : GrAt N pre m) (hm : ¬ m < 128) : GrAt N (pre ++ [UInt8.ofNat (128 + m % 128)]) (m / 128) := by
  have e : 2 ^ (7 * (pre.length + 1)) = 2 ^ (7 * pre.length) * 128 := by rw [Nat.mul_add, Nat.pow_add]
  refine ⟨by rw [h.eq, groups_more hm]; simp, ?_, .inr ?_⟩
  · rw [List.length_append, List.length_singleton, e, Nat.mul_assoc]
    exact Nat.le_trans (Nat.mul_le_mul_left _ (Nat.mul_div_le m 128)) h.mul
  · rw [List.length_append, List.length_singleton, e]
    exact Nat.le_trans (Nat.mul_le_mul_left _ (by omega)) h.mul
theorem GrAt.short {N : Nat} {pre : List UInt8} {m : Nat} (h : GrAt N pre m) (hN : N < 18446744073709551616) : pre.length ≤ 9 := by
  rcases h.len with h1 | h1
  · omega
  · by_cases h2 : pre.length ≤ 9
    · exact h2
    · have h3 : 2 ^ 70 ≤ 2 ^ (7 * pre.length) := Nat.pow_le_pow_right (by omega) (by omega)
      have h4 : (2 : Nat) ^ 70 = 1180591620717411303424 := by decide
      omega
theorem GrAt.done {N : Nat} {pre : List UInt8} {m : Nat} (h : GrAt N pre m) (hm : m < 128) : groups N = pre ++ [UInt8.ofNat m] := by rw [h.eq, groups_small hm]
theorem groups_len (N : Nat) (hN : N < 18446744073709551616) : (groups N).length ≤ 10 := by
  have key : ∀ (k m : Nat) (pre : List UInt8), m ≤ k → GrAt N pre m → (groups N).length ≤ 10 := by
    intro k
    induction k with
    | zero =>
      intro m pre hm h
      rw [h.done (by omega)]
      have := h.short hN
      simp; omega
    | succ k ih =>
      intro m pre hm h
      by_cases h1 : m < 128
      · rw [h.done h1]
        have := h.short hN
        simp; omega
      · exact ih (m / 128) _ (by omega) (h.next h1)
  exact key N N [] (Nat.le_refl _) (GrAt.start N)
theorem v8_more (m : Nat) : V8 (UInt8.ofNat (128 + m % 128)) = .int .u8 (128 + (m : Int) % 128) := by
  simp only [V8, UInt8.toNat_ofNat']
  congr 1
  omega
theorem v8_low (m : Nat) (h : m < 128) : V8 (UInt8.ofNat m) = .int .u8 (m : Int) := by
  simp only [V8, UInt8.toNat_ofNat']
  congr 1
  omega

set_option maxRecDepth 100000 in
set_option maxHeartbeats 1000000 in
theorem groups_any (N : Nat) (w : World) (hN : N < 18446744073709551616) : Calls Tryz.prog 88 #[.int .u64 N] w (RetB w (groups N).length (groups N)) := by
  have HG0 := Lib.hid (GrAt.start N)
  have HN := Lib.hid hN
  go_enter Tryz.func88, Tryz.ntmps88
  go_wp2
  go_loopw [0, 3] (fun nv lv wr => ∃ (m : Nat) (pre : List UInt8) (B : Option Addr) (C : Nat), nv = .int .u64 m ∧ lv = .slice B pre.length C ∧ Hid (GrAt N pre m ∧ m ≤ N) ∧ Acc 5 1 w wr w.heap.size B C pre.length (pre.map V8)) (fun nv _ _ => (intOf nv).toNat)
  case atStart => exact ⟨N, [], none, 0, rfl, rfl, Lib.hid ⟨HG0.out, Nat.le_refl _⟩, Acc.start _ _ _ _ _ (Below.refl _ _) (Nat.le_refl _)⟩
  case round =>
    obtain ⟨m, pre, B, C, rfl, rfl, hG, hA⟩ := hrel
    have HA := Lib.hid hA
    have hs := hG.out.1.short HN.out
    have z1 : pre.length + 1 ≤ maxLen := by unfold maxLen; omega
    have z2 : (pre.length + 1) * 1 ≤ 140737488355328 := by omega
    have hm64 : m < 18446744073709551616 := by have := hG.out.2; have := HN.out; omega
    clear hA
    by_cases hlt : m < 128
    · have h1 : ¬ (128 : Int) ≤ (m : Int) := by omega
      go_wp2_with (at_builtin; refine wpList_acc1 rfl _ _ 22 rfl 5 1 _ Tryz.underlying22 info_u8' rfl w w.heap.size B C pre.length (pre.map V8) _ rfl HA.out rfl rfl z1 z2 ?_; intro B2 D2 w2 hacc hg hnew; have HA2 := Lib.hid hacc; clear hacc hg hnew)
      go_ret
      have hgr := hG.out.1.done hlt
      rw [hgr]
      refine ⟨B2, D2, by simp, ?_⟩
      have := HA2.out
      rw [← v8_low m hlt] at this
      simpa using this
    · have h1 : (128 : Int) ≤ (m : Int) := by omega
      go_wp2_with (at_builtin; refine wpList_acc1 rfl _ _ 22 rfl 5 1 _ Tryz.underlying22 info_u8' rfl w w.heap.size B C pre.length (pre.map V8) _ rfl HA.out rfl rfl z1 z2 ?_; intro B2 D2 w2 hacc hg hnew; have HA2 := Lib.hid hacc; clear hacc hg hnew)
      go_roundw
      case rel =>
        refine ⟨m / 128, pre ++ [UInt8.ofNat (128 + m % 128)], B2, D2, by go_num, by simp, Lib.hid ⟨hG.out.1.next hlt, by have := hG.out.2; omega⟩, ?_⟩
        have := HA2.out
        rw [← v8_more m] at this
        simpa using this
      case measure => simp [intOf]; omega
end Go.Proofs.YtgpenpnobjecgaaGreatDoor

/- UintN -/
namespace Go.Proofs.YtgpenpnobjecgaaGreatDoor
set_option maxRecDepth 100000
open Go.RowKit

theorem and_u8_127 (y : UInt8) : bits .and .u8 (y.toNat : Int) 127 = ((y.toNat % 128 : Nat) : Int) := by
  have hy : y.toNat < 256 := y.toNat_lt
  have h1 : (BitVec.ofInt 8 (y.toNat : Int)).toNat = y.toNat := by
    rw [BitVec.ofInt_natCast, BitVec.toNat_ofNat]; exact Nat.mod_eq_of_lt (by omega)
  have h2 : (BitVec.ofInt 8 127).toNat = 2 ^ 7 - 1 := by decide
  show IntKind.u8.wrap ((BitVec.ofInt 8 (y.toNat : Int) &&& BitVec.ofInt 8 127).toNat : Int) = _
  rw [BitVec.toNat_and, h1, h2, Nat.and_two_pow_sub_one_eq_mod]
  simp only [IntKind.wrap, IntKind.bits, IntKind.signed]
  simp
  omega
/-- A byte more: while nine bytes at most were read, and of the tenth but one bit. -/
theorem stepU_nat (acc i : Nat) (y : UInt8) (ha : acc < 2 ^ (7 * i)) (hi : i < 9 ∨ (i = 9 ∧ y.toNat ≤ 1)) :
    stepU acc i y = ((acc + y.toNat % 128 * 2 ^ (7 * i) : Nat) : Int) ∧ (i < 9 → acc + y.toNat % 128 * 2 ^ (7 * i) < 2 ^ (7 * (i + 1))) := by
  have hy : y.toNat < 256 := y.toNat_lt
  have hp : 2 ^ (7 * (i + 1)) = 2 ^ (7 * i) * 128 := by rw [Nat.mul_add, Nat.pow_add]
  have hm : y.toNat % 128 ≤ 127 := by omega
  have hlt : y.toNat % 128 * 2 ^ (7 * i) < 18446744073709551616 := by
    rcases hi with h | ⟨rfl, h⟩
    · have h3 : 2 ^ (7 * i) ≤ 2 ^ 56 := Nat.pow_le_pow_right (by omega) (by omega)
      have h4 : y.toNat % 128 * 2 ^ (7 * i) ≤ 127 * 2 ^ 56 := Nat.mul_le_mul hm h3
      have h5 : 127 * 2 ^ 56 < 18446744073709551616 := by decide
      omega
    · have h5 : (2 : Nat) ^ (7 * 9) = 9223372036854775808 := by decide
      rw [h5]
      have : y.toNat % 128 ≤ 1 := by omega
      omega
  have h63 : 2 ^ (7 * i) ≤ 2 ^ 63 := Nat.pow_le_pow_right (by omega) (by omega)
  have h64 : (2 : Nat) ^ 63 < 18446744073709551616 := by decide
  refine ⟨?_, fun h => ?_⟩
  · unfold stepU
    rw [and_u8_127, IntKind.wrap_u64, IntKind.wrap_u64]
    have e1 : (((y.toNat % 128 : Nat) : Int) % 18446744073709551616 * 2 ^ (7 * i)) % 18446744073709551616 = ((y.toNat % 128 * 2 ^ (7 * i) : Nat) : Int) := by
      have e2 : ((y.toNat % 128 : Nat) : Int) % 18446744073709551616 = ((y.toNat % 128 : Nat) : Int) := by omega
      rw [e2]
      have e3 : ((y.toNat % 128 : Nat) : Int) * 2 ^ (7 * i) = ((y.toNat % 128 * 2 ^ (7 * i) : Nat) : Int) := by simp
      rw [e3]
      omega
    rw [e1, bits_or_u64_nat _ _ (by omega) hlt]
    congr 1
    rw [Nat.or_comm, Nat.mul_comm, ← Nat.two_pow_add_eq_or_of_lt ha]
    omega
  · rw [hp]
    have : y.toNat % 128 * 2 ^ (7 * i) ≤ 127 * 2 ^ (7 * i) := Nat.mul_le_mul_right _ hm
    omega
/-- What is read, by plain sums. -/
def readU (i acc : Nat) : List UInt8 → Nat × Nat × Nat
  | [] => (0, 0, 3)
  | y :: t => if i = 9 ∧ 1 < y.toNat then (0, 0, 11) else if 0 < i ∧ y.toNat = 0 then (0, 0, 10) else if y.toNat < 128 then (acc + y.toNat % 128 * 2 ^ (7 * i), i + 1, 0) else readU (i + 1) (acc + y.toNat % 128 * 2 ^ (7 * i)) t
def castU (p : Nat × Nat × Nat) : Int × Int × Int := (p.1, p.2.1, p.2.2)
theorem uintFrom_nat : ∀ (l : List UInt8) (i acc : Nat), i ≤ 9 → acc < 2 ^ (7 * i) → uintFrom i acc l = castU (readU i acc l)
  | [], _, _, _, _ => rfl
  | y :: t, i, acc, hi, ha => by
    simp only [uintFrom, readU]
    by_cases h1 : i = 9 ∧ 1 < y.toNat
    · rw [if_pos h1, if_pos h1]; rfl
    · rw [if_neg h1, if_neg h1]
      have hs := stepU_nat acc i y ha (by omega)
      by_cases h2 : 0 < i ∧ y.toNat = 0
      · rw [if_pos h2, if_pos h2]; rfl
      · rw [if_neg h2, if_neg h2]
        by_cases h3 : y.toNat < 128
        · rw [if_pos h3, if_pos h3, hs.1]
          simp [castU]
        · rw [if_neg h3, if_neg h3, hs.1]
          exact uintFrom_nat t (i + 1) _ (by omega) (hs.2 (by omega))
theorem readU_ok : ∀ (l : List UInt8) (i acc v k : Nat), readU i acc l = (v, k, 0) → i < k ∧ k ≤ i + l.length
  | [], i, acc, v, k, h => by simp [readU] at h
  | y :: t, i, acc, v, k, h => by
    simp only [readU] at h
    by_cases h1 : i = 9 ∧ 1 < y.toNat
    · rw [if_pos h1] at h; simp at h
    · rw [if_neg h1] at h
      by_cases h2 : 0 < i ∧ y.toNat = 0
      · rw [if_pos h2] at h; simp at h
      · rw [if_neg h2] at h
        by_cases h3 : y.toNat < 128
        · rw [if_pos h3] at h
          simp only [Prod.mk.injEq] at h
          simp only [List.length_cons]
          omega
        · rw [if_neg h3] at h
          have := readU_ok t (i + 1) _ v k h
          simp only [List.length_cons]
          omega
theorem readU_lt : ∀ (l : List UInt8) (i acc v k e : Nat), i ≤ 9 → acc < 2 ^ (7 * i) → readU i acc l = (v, k, e) → v < 18446744073709551616
  | [], i, acc, v, k, e, _, _, h => by
    simp only [readU, Prod.mk.injEq] at h
    omega
  | y :: t, i, acc, v, k, e, hi, ha, h => by
    simp only [readU] at h
    by_cases h1 : i = 9 ∧ 1 < y.toNat
    · rw [if_pos h1] at h; simp only [Prod.mk.injEq] at h; omega
    · rw [if_neg h1] at h
      have hs := stepU_nat acc i y ha (by omega)
      by_cases h2 : 0 < i ∧ y.toNat = 0
      · rw [if_pos h2] at h; simp only [Prod.mk.injEq] at h; omega
      · rw [if_neg h2] at h
        by_cases h3 : y.toNat < 128
        · rw [if_pos h3] at h
          simp only [Prod.mk.injEq] at h
          have h5 := bits_hi_u64 .or (acc : Int) (IntKind.u64.wrap (IntKind.u64.wrap (bits .and .u8 (y.toNat : Int) 127) * 2 ^ (7 * i)))
          have h6 : stepU acc i y ≤ 18446744073709551615 := h5
          rw [hs.1] at h6
          omega
        · rw [if_neg h3] at h
          exact readU_lt t (i + 1) _ v k e (by omega) (hs.2 (by omega)) h
/-- What was laid is read back, whatever stands behind it. -/
theorem readU_groups (N : Nat) (hN : N < 18446744073709551616) (t : List UInt8) : readU 0 0 (groups N ++ t) = (N, (groups N).length, 0) := by
  have key : ∀ (b m i acc : Nat), m ≤ b → acc + m * 2 ^ (7 * i) = N → (0 < i → 0 < m) → i ≤ 9 → readU i acc (groups m ++ t) = (N, i + (groups m).length, 0) := by
    intro b
    induction b with
    | zero =>
      intro m i acc hm he hz hi
      obtain rfl : m = 0 := by omega
      obtain rfl : i = 0 := by omega
      rw [groups_small (by omega)]
      simp only [List.cons_append, List.nil_append, readU]
      simp
      omega
    | succ b ih =>
      intro m i acc hm he hz hi
      have h64 : i = 9 → m ≤ 1 := by
        rintro rfl
        have h5 : (2 : Nat) ^ (7 * 9) = 9223372036854775808 := by decide
        rw [h5] at he
        omega
      by_cases h1 : m < 128
      · rw [groups_small h1]
        have e1 : (UInt8.ofNat m).toNat = m := by simp [UInt8.toNat_ofNat']; omega
        simp only [List.cons_append, List.nil_append, readU, e1]
        rw [if_neg (by omega), if_neg (by omega), if_pos h1, Nat.mod_eq_of_lt h1, he]
        simp
      · rw [groups_more h1]
        have e1 : (UInt8.ofNat (128 + m % 128)).toNat = 128 + m % 128 := by simp [UInt8.toNat_ofNat']; omega
        simp only [List.cons_append, readU, e1]
        have e2 : (128 + m % 128) % 128 = m % 128 := by omega
        have hp : 2 ^ (7 * (i + 1)) = 128 * 2 ^ (7 * i) := by rw [Nat.mul_add, Nat.pow_add, Nat.mul_comm]
        rw [if_neg (by omega), if_neg (by omega), if_neg (by omega), e2, ih (m / 128) (i + 1) _ (by omega) ?_ (by omega) (by omega)]
        · simp only [List.length_cons]
          congr 2
          omega
        · rw [← he, hp, Nat.add_assoc, ← Nat.mul_assoc, ← Nat.add_mul]
          congr 2
          omega
  have := key N N 0 0 (Nat.le_refl _) (by simp) (by omega) (by omega)
  simpa using this
end Go.Proofs.YtgpenpnobjecgaaGreatDoor

/- Txts -/
namespace Go.Proofs.YtgpenpnobjecgaaGreatDoor
set_option maxRecDepth 100000
open Go.RowKit

theorem push_fold (l : List UInt8) : ∀ s : ByteArray, ((l.map fun b => (b.toNat : Int)).foldl (fun r n => r.push (UInt8.ofNat n.toNat)) s) = ⟨s.data ++ l.toArray⟩ := by
  induction l with
  | nil => intro s; simp
  | cons b l ih =>
    intro s
    rw [List.map_cons, List.foldl_cons, ih]
    have h1 : UInt8.ofNat ((b.toNat : Int)).toNat = b := by simp
    rw [h1]
    simp [ByteArray.push]
theorem run_string_txt {w : World} {B : Option Addr} {n C : Nat} {l : List UInt8} (h : Txt w B n C l) : (convert 22 9 (.slice B n C)).run Tryz.prog w = .ok (.string ⟨l.toArray⟩) w := by
  rw [run_convert_bytes_string w 22 9 5 B n C Tryz.underlying22 Tryz.underlying5 Tryz.underlying9]
  have hn := h.len
  have hV : ((l.map fun b => (b.toNat : Int)).map (Value.int .u8)) = l.map V8 := by simp [V8]
  cases B with
  | none =>
    have h0 := h.src.nil rfl
    have hc := h.src.cap
    have : l = [] := List.eq_nil_of_length_eq_zero (by omega)
    subst this
    obtain rfl : n = 0 := hn
    rfl
  | some ad =>
    have hld : (loadCells ad l.length).run Tryz.prog w = .ok (l.map V8).toArray w := by
      have := run_loadCells_list (P := Tryz.prog) w ad (l.map V8) (fun j v hj => by
        have hj0 : 0 < (l.map V8).length := by have := (List.getElem?_eq_some_iff.1 hj).1; omega
        obtain ⟨b, o, ha, hc⟩ := h.src.at_.cells.at_ hj0
        obtain rfl := Option.some.inj ha
        rw [Addr.add_lit]
        exact hc j v hj)
      simpa using this
    rw [hn, run_bytesToString w ad l.length C (l.map fun b => (b.toNat : Int)) (by rw [hV]; exact hld), push_fold]
    simp
end Go.Proofs.YtgpenpnobjecgaaGreatDoor

/- Text -/
namespace Go.Proofs.YtgpenpnobjecgaaGreatDoor
set_option maxRecDepth 100000
open Go.RowKit

theorem Txt.part {w : World} {a : Option Addr} {n c : Nat} {l : List UInt8} (h : Txt w a n c l) (k m : Nat) (hm : k + m ≤ n) : Txt w (if c = k then a else a.map (·.add k)) m (c - k) ((l.drop k).take m) := by
  have hl := h.len
  have hc := h.src.cap
  have hd := h.src.at_.drop hc k (by omega)
  refine ⟨by simp; omega, ⟨⟨fun h0 => ?_⟩, by simp; omega, fun hn => ?_, fun ad had => ?_⟩⟩
  · simp only [List.length_take, List.length_drop] at h0
    obtain ⟨b, o, ha, hj⟩ := hd.at_ (by simp; omega)
    refine ⟨b, o, ha, fun j hj' => ?_⟩
    simp only [List.length_take, List.length_drop] at hj'
    rw [hj j (by simp; omega)]
    simp [byteF, List.getD, show j < m by omega]
  · split at hn
    · omega
    · have := h.src.nil (by cases a with
        | none => rfl
        | some _ => cases hn)
      omega
  · split at had
    · exact h.src.plain ad had
    · cases a with
      | none => cases had
      | some a1 =>
        obtain ⟨b, o, e, hlt⟩ := h.src.plain a1 rfl
        subst e
        refine ⟨b, o + k, ?_, hlt⟩
        rw [← Option.some.inj had]
        exact Addr.add_lit ..

/-- What is read as a text: it, how many bytes it took, the error's number. -/
def textOf (x : List UInt8) (most : Int) : List UInt8 × Nat × Nat :=
  if most < 0 then ([], 0, 2) else
  if (readU 0 0 x).2.2 ≠ 0 then ([], 0, (readU 0 0 x).2.2) else
  if most < (readU 0 0 x).1 then ([], 0, 1) else
  if x.length - (readU 0 0 x).2.1 < (readU 0 0 x).1 then ([], 0, 3) else
  ((x.drop (readU 0 0 x).2.1).take (readU 0 0 x).1, (readU 0 0 x).2.1 + (readU 0 0 x).1, 0)
def retT (p : List UInt8 × Nat × Nat) : Ending := .returned (.tuple #[.string ⟨p.1.toArray⟩, .int .i64 p.2.1, .int .i64 p.2.2])

end Go.Proofs.YtgpenpnobjecgaaGreatDoor
