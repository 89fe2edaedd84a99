/- A disk in memory. -/
import Derived.Deep.QuietTactic
import Derived.BigQuiet
import Derived.Laws.CopyOwn
import Derived.Laws.MakeOwn
import Derived.Test.YtgpenpnobjecgaaGreatDoorJWalSafeCard6
import Derived.Test.YtgpenpnobjecgaaGreatDoorJWalSafeCard7
import Derived.Test.YtgpenpnobjecgaaGreatDoorJWalSafeCard8
/- Size -/
namespace Go.Proofs.YtgpenpnobjecgaaGreatDoor
set_option maxRecDepth 100000
open Go.RowKit

@[go_sem] theorem gtr_V32_lit (t : TypeId) (a : BitVec 32) (n : Int) : binOp .gtr t (V32 a) (.int .u32 n) = pure (.bool (decide (n < (a.toNat : Int)))) := rfl
@[go_sem] theorem neq_V32 (t : TypeId) (a b : BitVec 32) : binOp .neq t (V32 a) (V32 b) = pure (.bool (!decide (a = b))) := by
  have : binOp .neq t (V32 a) (V32 b) = pure (.bool (!decide ((a.toNat : Int) = b.toNat))) := rfl
  have h : ((a.toNat : Int) = b.toNat) = (a = b) := propext ⟨fun h => BitVec.eq_of_toNat_eq (by omega), fun h => by rw [h]⟩
  rw [this]
  simp only [h]
@[go_sem] theorem run_convert_V32_i64 {P : Program} (w : World) (src dst : TypeId) (x : BitVec 32) (hs : (P.underlying src).isSome = true) (hd : P.underlying dst = some (.int .i64)) :
    (convert src dst (V32 x)).run P w = .ok (.int .i64 (x.toNat : Int)) w := by
  have hk : P.intKind dst = .i64 := by simp [Program.intKind, hd]
  have := run_convert_int w src dst .u32 x.toNat hs (by rw [hk]; exact hd)
  rw [hk] at this
  rw [V32, this]
  have hx := x.isLt
  rw [show IntKind.i64.wrap (x.toNat : Int) = (x.toNat : Int) from by simp only [IntKind.wrap_i64]; omega]
theorem Txt.capped {w : World} {a : Option Addr} {n c c' : Nat} {l : List UInt8} (h : Txt w a n c l) (hn : n ≤ c') (h0 : a = none → c' = 0) : Txt w a n c' l :=
  ⟨h.len, ⟨h.src.at_, by have := h.len; omega, h0, h.src.plain⟩⟩
theorem sizeOf_bytes (w : World) : (sizeOf (Tryz.prog.elem 22)).run Tryz.prog w = .ok 1 w := by kernel_rfl
theorem elem_bytes : Tryz.prog.underlying 22 = some (.slice (Tryz.prog.elem 22)) := by kernel_rfl
theorem run_sl_l (w : World) (b o n c : Nat) (k : Int) (j : Nat) (hj : j = k.toNat) (h0 : 0 ≤ k) (h1 : k ≤ n) (h2 : j < c) : (Instr.slice 22 (.slice (some ⟨b, o, none⟩) n c) (some (.int .i64 k)) none none).run Tryz.prog w = .ok (.slice (some ⟨b, o + j, none⟩) (n - j) (c - j)) w := by
  subst hj
  rw [run_slice_l w 22 _ n c elem_bytes .i64 k h0 h1, sizeOf_bytes]
  simp only [Result.andThen, sliced]
  rw [if_neg (by omega), Nat.mul_one, Option.map_some, Addr.add_lit]
theorem run_sl_h (w : World) (b o n c : Nat) (m : Int) (i : Nat) (hi : i = m.toNat) (h0 : 0 ≤ m) (h2 : i ≤ c) (h3 : 0 < c) : (Instr.slice 22 (.slice (some ⟨b, o, none⟩) n c) none (some (.int .i64 m)) none).run Tryz.prog w = .ok (.slice (some ⟨b, o, none⟩) i c) w := by
  subst hi
  rw [run_slice_h w 22 _ n c elem_bytes .i64 m h0 (by omega), sizeOf_bytes]
  simp only [Result.andThen, sliced]
  rw [if_neg (by omega), Nat.zero_mul, Option.map_some, Addr.add_lit]
  rfl
theorem run_sl_lh (w : World) (b o n c : Nat) (k m : Int) (j i : Nat) (hj : j = k.toNat) (hi : j + i = m.toNat) (h0 : 0 ≤ k) (h1 : k ≤ m) (h2 : j + i ≤ c) (h3 : j < c) : (Instr.slice 22 (.slice (some ⟨b, o, none⟩) n c) (some (.int .i64 k)) (some (.int .i64 m)) none).run Tryz.prog w = .ok (.slice (some ⟨b, o + j, none⟩) i (c - j)) w := by
  subst hj
  rw [run_slice_lh w 22 _ n c elem_bytes .i64 .i64 k m h0 h1 (by omega), sizeOf_bytes]
  simp only [Result.andThen, sliced]
  rw [if_neg (by omega), Nat.mul_one, Option.map_some, Addr.add_lit, show m.toNat - k.toNat = i by omega]
theorem run_sl_lhm (w : World) (b o n c : Nat) (k m : Int) (j i : Nat) (hj : j = k.toNat) (hi : j + i = m.toNat) (h0 : 0 ≤ k) (h1 : k ≤ m) (h2 : j + i ≤ c) : (Instr.slice 22 (.slice (some ⟨b, o, none⟩) n c) (some (.int .i64 k)) (some (.int .i64 m)) (some (.int .i64 m))).run Tryz.prog w = .ok (.slice (if i = 0 then some ⟨b, o, none⟩ else some ⟨b, o + j, none⟩) i i) w := by
  subst hj
  rw [run_slice_lhm w 22 _ n c elem_bytes .i64 .i64 .i64 k m m h0 h1 (Int.le_refl _) (by omega), sizeOf_bytes]
  simp only [Result.andThen, sliced]
  rw [Nat.mul_one, Option.map_some, Addr.add_lit, show m.toNat - k.toNat = i by omega]
  by_cases hi0 : i = 0
  · rw [if_pos (by omega), if_pos hi0]
  · rw [if_neg (by omega), if_neg hi0]
def ret2 (p : Nat × Nat) : Ending := .returned (.tuple #[.int .i64 p.1, .int .i64 p.2])

set_option maxRecDepth 100000 in
set_option maxHeartbeats 1000000 in
theorem size_any (x : List UInt8) (a : Option Addr) (n c : Nat) (w : World) (X : Txt w a n c x) (hn : n ≤ 1099511627776) (hT : SumsTab w) :
    Calls Tryz.prog 151 #[.slice a n c] w (fun e w' => e = ret2 (sizeF x) ∧ ∃ m, w' = w.drewN m) := by
  have hl := X.len
  by_cases h9 : n < 9
  · have hr := Lib.hid (show sizeF x = (0, 3) by unfold sizeF; rw [if_pos (by omega)])
    have h9' : (n : Int) < 9 := by omega
    clear X hT h9 hl
    go_enter Tryz.func151, Tryz.ntmps151
    go_wp2
    go_ret2
    rw [hr.out]
    exact ⟨rfl, 0, rfl⟩
  · have h9' : (9 : Int) ≤ n := by omega
    have hw := Lib.hid (word_any x a n c w X (by omega))
    obtain ⟨v, hv⟩ : ∃ v, v = wordOf x := ⟨_, rfl⟩
    rw [← hv] at hw
    by_cases h2 : 2097152 < v.toNat
    · have hr := Lib.hid (show sizeF x = (0, 1) by unfold sizeF; rw [if_neg (by omega), ← hv, if_pos h2])
      have h2' : (2097152 : Int) < v.toNat := by omega
      clear X hT h9 hl hv h2
      go_enter Tryz.func151, Tryz.ntmps151
      go_wp2_with (go_at_call 179; refine hw.out.mono ?_; rintro e w1 ⟨rfl, m, rfl⟩)
      go_ret2
      rw [hr.out]
      exact ⟨rfl, m, rfl⟩
    · have h2' : decide ((2097152 : Int) < v.toNat) = false := by simp; omega
      have h2n : (v.toNat : Int) ≤ 2097152 := by omega
      by_cases h3 : n < 9 + v.toNat
      · have hr := Lib.hid (show sizeF x = (0, 3) by unfold sizeF frameLen; rw [if_neg (by omega), ← hv, if_neg h2, if_pos (by omega)])
        have h3' : (n : Int) < 9 + (v.toNat : Int) := by omega
        clear X hT h9 hl hv h2 h3
        go_enter Tryz.func151, Tryz.ntmps151
        go_wp2_with (go_at_call 179; refine hw.out.mono ?_; rintro e w1 ⟨rfl, m, rfl⟩)
        go_ret2
        rw [hr.out]
        exact ⟨rfl, m, rfl⟩
      · have h3' : decide ((n : Int) < 9 + (v.toNat : Int)) = false := by simp; omega
        have hr := Lib.hid (show sizeF x = if wordOf (x.drop 4) = frameCrc (x.take 4) ((x.take (9 + v.toNat)).drop 8) then (if x.getD 8 0 = 0 then (0, 13) else (9 + v.toNat, 0)) else (0, 12) by
          unfold sizeF frameLen; rw [if_neg (by omega), ← hv, if_neg h2, if_neg (by omega)])
        obtain ⟨b, o, rfl, hd⟩ := X.src.at_.cells.at_ (show 0 < (x.map V8).length by simp; omega)
        obtain ⟨k, hk⟩ : ∃ k, k = x.getD 8 0 := ⟨_, rfl⟩
        have h8 : w.cell? ⟨b, o + 8, none⟩ = some (V8 k) := by
          have := hd 8 (V8 k) (by simp [hk, show 8 < x.length by omega])
          exact this
        rw [← hk] at hr
        have HX := Lib.hid X
        have HT := Lib.hid hT
        clear X hT h9 hl hv h2 h3 hk hd
        go_enter Tryz.func151, Tryz.ntmps151
        go_wp2_with fail
        go_at_call 179
        refine hw.out.mono ?_
        rintro e w1 ⟨rfl, m, rfl⟩
        go_wp2_with fail
        have hT1 : ∀ j, SumsTab ((w.drewN m).drewN j) := fun j => HT.out.low (bthen (below_drewN w m) (below_drewN _ j))
        have hX1 : ∀ j, Txt ((w.drewN m).drewN j) (some ⟨b, o, none⟩) n c x := fun j => HX.out.below (bthen (below_drewN w m) (below_drewN _ j))
        have hxl := HX.out.len
        have hcap := HX.out.src.cap
        have hvn : 9 + v.toNat ≤ n := by simp at h3'; omega
        have h8' := fun j => (Kept.of_below (F := fun _ => False) (bthen (below_drewN w m) (below_drewN (w.drewN m) j))).cell h8 id
        have P4 : ∀ j, Txt ((w.drewN m).drewN j) (some ⟨b, o + 4, none⟩) (n - 4) (c - 4) (x.drop 4) := fun j => by
          have h := (hX1 j).part 4 (n - 4) (by omega)
          rw [if_neg (by omega), List.take_of_length_le (by simp; omega)] at h
          exact h
        have P0 : ∀ j, Txt ((w.drewN m).drewN j) (some ⟨b, o, none⟩) 4 c (x.take 4) := fun j => (hX1 j).take (by omega)
        have P8 : ∀ j, Txt ((w.drewN m).drewN j) (some ⟨b, o + 8, none⟩) (1 + v.toNat) (c - 8) ((x.take (9 + v.toNat)).drop 8) := fun j => by
          have h := (hX1 j).part 8 (1 + v.toNat) (by omega)
          rw [if_neg (by omega)] at h
          rw [List.drop_take, show 9 + v.toNat - 8 = 1 + v.toNat by omega]
          exact h
        have c1 := fun j => word_any _ _ _ _ _ (P4 j) (by omega)
        have c2 := fun j => fsum_any _ _ _ _ _ _ _ _ _ (P0 j) (P8 j) (by decide) (by omega) (hT1 j)
        have s1 : ∀ w : World, (Instr.slice 22 (.slice (some ⟨b, o, none⟩) n c) (some (.int .i64 4)) none none).run Tryz.prog w = .ok (.slice (some ⟨b, o + 4, none⟩) (n - 4) (c - 4)) w := fun w => run_sl_l w b o n c 4 4 rfl (by omega) (by omega) (by omega)
        have s2 : ∀ w : World, (Instr.slice 22 (.slice (some ⟨b, o, none⟩) n c) none (some (.int .i64 4)) none).run Tryz.prog w = .ok (.slice (some ⟨b, o, none⟩) 4 c) w := fun w => run_sl_h w b o n c 4 4 rfl (by omega) (by omega) (by omega)
        have s3 : ∀ w : World, (Instr.slice 22 (.slice (some ⟨b, o, none⟩) n c) (some (.int .i64 8)) (some (.int .i64 (9 + (v.toNat : Int)))) none).run Tryz.prog w = .ok (.slice (some ⟨b, o + 8, none⟩) (1 + v.toNat) (c - 8)) w := fun w => run_sl_lh w b o n c 8 (9 + (v.toNat : Int)) 8 (1 + v.toNat) rfl (by omega) (by omega) (by omega) (by omega) (by omega)
        clear hT1 hX1 P4 P0 P8 hxl hcap hvn
        generalize hw1 : w.drewN m = w1 at c1 c2 h8' ⊢
        obtain ⟨a1, ha1⟩ : ∃ a1, a1 = wordOf (x.drop 4) := ⟨_, rfl⟩
        obtain ⟨a2, ha2⟩ : ∃ a2, a2 = crcOn (crcOn 0 (x.take 4)) ((x.take (9 + v.toNat)).drop 8) := ⟨_, rfl⟩
        unfold frameCrc at hr
        rw [← ha1] at hr c1
        rw [← ha2] at hr c2
        have C1 := Lib.hid c1
        have C2 := Lib.hid c2
        have Hw1 := Lib.hid hw1
        clear c1 c2 hw1 ha1 ha2
        go_quiet ((first | (go_at_call 179; exact Calls.quiet_of (C1.out _)) | (go_at_call 131; exact Calls.quiet_of_same ((C2.out _).mono fun e w' h => ⟨h.1, h.2.symm⟩))))
        have hfin : ∃ j, w1.drewN nq = w.drewN j := ⟨m + nq, by rw [← Hw1.out, World.drewN_drewN]⟩
        have Hfin := Lib.hid hfin
        clear hfin
        by_cases hcrc : a1 = a2
        · rw [if_pos hcrc] at hr
          have hq : decide (a1 = a2) = true := decide_eq_true hcrc
          rw [hq, Bool.not_true]
          clear hcrc
          have i8 : (8 : Int) < n := by omega
          have h8q := h8' nq
          by_cases hk : k = 0
          · rw [if_pos hk] at hr
            have hkd : decide (k = 0) = true := decide_eq_true hk
            clear hk
            go_wp2
            go_ret2
            rw [hr.out]
            exact ⟨rfl, Hfin.out⟩
          · rw [if_neg hk] at hr
            have hkd : decide (k = 0) = false := decide_eq_false hk
            clear hk
            go_wp2
            go_ret2
            rw [hr.out]
            exact ⟨rfl, Hfin.out⟩
        · rw [if_neg hcrc] at hr
          have hq : decide (a1 = a2) = false := decide_eq_false hcrc
          rw [hq, Bool.not_false]
          clear hcrc
          go_wp2
          go_ret2
          rw [hr.out]
          exact ⟨rfl, Hfin.out⟩
end Go.Proofs.YtgpenpnobjecgaaGreatDoor

/- Num2 -/
namespace Go.Proofs.YtgpenpnobjecgaaGreatDoor
set_option maxRecDepth 100000
open Go.RowKit

theorem RetB.cast {w w' : World} {n : Nat} {l l' : List UInt8} {e : Ending} (h : RetB w n l e w') (hl : l = l') : RetB w n l' e w' := by rw [← hl]; exact h

set_option maxRecDepth 100000 in
set_option maxHeartbeats 1000000 in
theorem joined_any (x y : List UInt8) (a : Option Addr) (n c : Nat) (a2 : Option Addr) (m c2 : Nat) (w : World) (X : Txt w a n c x) (Y : Txt w a2 m c2 y) (hn : n ≤ 1099511627776) (hm : m ≤ 1099511627776) :
    Calls Tryz.prog 87 #[.slice a n c, .slice a2 m c2] w (RetB w (n + m) (x ++ y)) := by
  have HX := Lib.hid X
  have HY := Lib.hid Y
  have z1 : 0 + n ≤ maxLen := by unfold maxLen; omega
  have z2 : (0 + n) * 1 ≤ 140737488355328 := by omega
  have z3 : n + m ≤ maxLen := by unfold maxLen; omega
  have z4 : (n + m) * 1 ≤ 140737488355328 := by omega
  clear X Y
  go_enter Tryz.func87, Tryz.ntmps87
  go_wp2_with (first | (at_builtin; refine wpList_acc rfl _ _ 22 rfl 5 1 1 _ Tryz.underlying22 info_u8' rfl (by decide) w w.heap.size B1 D1 n (x.map V8) rfl HA1.out a2 m c2 (y.map V8) rfl (by simp [HY.out.len]) (HY.out.src.below HA1.out.low).at_.cells (HY.out.src.nil) (HY.out.below HA1.out.low).src.od (ones' y) z3 z4 ?_; intro B2 D2 w2 hacc hg hnew; have HA2 := Lib.hid hacc; clear hacc hg hnew) | (at_builtin; refine wpList_acc rfl _ _ 22 rfl 5 1 1 _ Tryz.underlying22 info_u8' rfl (by decide) w w.heap.size none 0 0 [] rfl (Acc.start _ _ _ _ _ (Below.refl _ _) (Nat.le_refl _)) a n c (x.map V8) rfl (by simp [HX.out.len]) HX.out.src.at_.cells HX.out.src.nil HX.out.src.od (ones' x) z1 z2 ?_; intro B1 D1 w1 hacc hg hnew; rw [List.nil_append, Nat.zero_add] at hacc; have HA1 := Lib.hid hacc; clear hacc hg hnew))
  go_ret
  exact ⟨B2, D2, rfl, by rw [List.map_append]; exact HA2.out⟩

theorem RetB.txt {w w' : World} {n : Nat} {l : List UInt8} {e : Ending} (h : RetB w n l e w') (hn : n = l.length) : ∃ B C, e = .returned (.slice B n C) ∧ Txt w' B n C l ∧ Below w.heap.size w w' := by
  obtain ⟨B, C, he, hA⟩ := h
  refine ⟨B, C, he, ⟨hn, ⟨hA.at_.bytes, by rw [← hn]; exact hA.cap, hA.nil, fun ad had => ?_⟩⟩, hA.low⟩
  rcases hA.form with ⟨h0, _⟩ | ⟨g, _, hg, _, hs, _⟩
  · rw [had] at h0; cases h0
  · rw [had] at hg
    obtain rfl := Option.some.inj hg
    exact ⟨g, 0, rfl, hs⟩

set_option maxRecDepth 100000 in
set_option maxHeartbeats 1000000 in
theorem rputuint_any (x : List UInt8) (a : Option Addr) (n c N : Nat) (w : World) (X : Txt w a n c x) (hn : n ≤ 1099511627776) (hN : N < 18446744073709551616) :
    Calls Tryz.prog 48 #[.slice a n c, .int .u64 N] w (RetB w (n + (groups N).length) (x ++ groups N)) := by
  have HX := Lib.hid X
  have hg := Lib.hid (groups_any N w hN)
  have hgl := groups_len N hN
  obtain ⟨G, hG⟩ : ∃ G, G = groups N := ⟨_, rfl⟩
  rw [← hG] at hg hgl ⊢
  clear X hG
  go_enter Tryz.func48, Tryz.ntmps48
  go_wp2_with fail
  go_at_call 88
  refine hg.out.mono ?_
  intro e w1 h1
  obtain ⟨B, C, rfl, hT, hB⟩ := h1.txt rfl
  have HT := Lib.hid hT
  have HB := Lib.hid hB
  clear h1 hT hB
  go_wp2_with fail
  go_at_call 87
  refine (joined_any x G a n c B G.length C w1 (HX.out.below HB.out) HT.out hn (by omega)).mono ?_
  rintro e w2 ⟨B2, C2, rfl, hA⟩
  have HA := Lib.hid (hA.rebase HB.out.size HB.out)
  clear hA
  go_wp2
  go_ret
  exact ⟨B2, C2, rfl, HA.out⟩
end Go.Proofs.YtgpenpnobjecgaaGreatDoor

/- Num3 -/
namespace Go.Proofs.YtgpenpnobjecgaaGreatDoor
set_option maxRecDepth 100000
open Go.RowKit

theorem made_size (k : Nat) : (madeCells #[Value.int .u8 0] k).toList.length = k := by simp [madeCells]
theorem made_blk (w : World) (k : Nat) : (w.alloc (.cells (madeCells #[Value.int .u8 0] k) 5)).heap[w.heap.size]? = some (.cells (madeCells #[Value.int .u8 0] k).toList.toArray 5 (0, 0)) := by
  rw [Array.toArray_toList]
  exact blk1 _ _
theorem copied_acc {w w' : World} {x : List UInt8} {n k : Nat} (hn : n = x.length) (hk : n ≤ k) (hm : k ≤ maxLen) (hb : Below w.heap.size w w')
    (h : w'.heap[w.heap.size]? = some (.cells (splice (madeCells #[Value.int .u8 0] k).toList 0 (x.map V8)).toArray 5 (0, 0))) : Acc 5 1 w w' w.heap.size (some ⟨w.heap.size, 0, none⟩) k n (x.map V8) := by
  have hl := made_size k
  refine ⟨⟨by simp [hn], .inr ⟨w.heap.size, k, _, rfl, Nat.le_refl _, h, hk, hm, ?_, ?_⟩⟩, hb, hb.size⟩
  · simp only [List.size_toArray]
    unfold splice
    simp only [List.length_append, List.length_take, List.length_drop, List.length_map, hl]
    omega
  · unfold splice
    simp [hn]

theorem or_table : ∀ k : Fin 256, bits .or .u8 ((k.val : Nat) : Int) 128 = ((128 + k.val % 128 : Nat) : Int) := by decide +kernel
theorem v8_or (m : Nat) : V8 (UInt8.ofNat (128 + m % 128)) = .int .u8 (bits .or .u8 ((m : Int) % 256) 128) := by
  have h := or_table ⟨m % 256, Nat.mod_lt _ (by omega)⟩
  simp only at h
  rw [show (m : Int) % 256 = ((m % 256 : Nat) : Int) by omega, h, v8_more]
  congr 1
  omega
theorem txt_copy {w : World} {a : Option Addr} {n c : Nat} {x : List UInt8} {g : Addr} (h : Txt w a n c x) : 0 < (x.map V8).length → some g = some g ∧ ∃ ad, a = some ad ∧ ∀ j v, (x.map V8)[j]? = some v → w.cell? (ad.add j) = some v := fun h0 => by
  obtain ⟨b, o, ha, hc⟩ := h.src.at_.cells.at_ h0
  exact ⟨rfl, ⟨b, o, none⟩, ha, fun j v hj => by rw [Addr.add_lit]; exact hc j v hj⟩

set_option maxRecDepth 100000 in
set_option maxHeartbeats 1000000 in
theorem putuint_any (x : List UInt8) (a : Option Addr) (n c N : Nat) (w : World) (X : Txt w a n c x) (hn : n ≤ 1099511627776) (hN : N < 18446744073709551616) :
    Calls Tryz.prog 104 #[.slice a n c, .int .u64 N] w (RetB w (n + (groups N).length) (x ++ groups N)) := by
  obtain ⟨i0, hi0, hz0, hs0, hb0⟩ := info_u8i
  have hmk : (Instr.makeSlice 22 (.int .i64 (n : Int)) (.int .i64 ((n : Int) + 10))).run Tryz.prog w = .ok (.slice (some ⟨w.heap.size, 0, none⟩) n (n + 10)) (w.alloc (.cells (madeCells #[Value.int .u8 0] (n + 10)) 5)) := by
    have h := run_make (P := Tryz.prog) w 22 5 i0 (.int .u8 0) Tryz.underlying22 hi0 hz0 .i64 .i64 (n : Int) ((n : Int) + 10) (by omega) (by omega) (by rw [hb0]; omega) (by omega)
    rw [hs0, show ((n : Int) + 10).toNat = n + 10 by omega, Int.toNat_natCast, Nat.mul_one] at h
    exact h
  have HX := Lib.hid X
  have HN := Lib.hid hN
  have HG0 := Lib.hid (GrAt.start N)
  have hml := made_size (n + 10)
  clear X
  go_enter Tryz.func104, Tryz.ntmps104
  go_wp2_with (refine wpList_copy_splice rfl _ _ 22 22 rfl 5 Tryz.underlying22 (by kernel_rfl) (some ⟨w.heap.size, 0, none⟩) a n (n + 10) n c rfl rfl w.heap.size 0 (madeCells #[Value.int .u8 0] (n + 10)).toList 5 (made_blk w (n + 10)) (x.map V8) (by simp [HX.out.len]) (txt_copy (HX.out.below (low1 _ _))) (by rw [hml]; simp; have := HX.out.len; omega) (ones' x) w.heap.size w (low1 _ _) (Nat.le_refl _) ?_; intro w2 hh hb; have HA2 := Lib.hid (copied_acc HX.out.len (by omega) (by unfold maxLen; omega) hb hh.out); clear hh hb)
  clear hmk hml
  simp only [Act.put, List.setIfInBounds_toArray, List.set_cons_succ, List.set_cons_zero, List.length_map, goInt]
  go_loopw [1, 5] (fun nv lv wr => ∃ (m : Nat) (pre : List UInt8) (B : Option Addr) (C : Nat), nv = .int .u64 m ∧ lv = .slice B (n + pre.length) C ∧ Hid (GrAt N pre m ∧ m ≤ N) ∧ Acc 5 1 w wr w.heap.size B C (n + pre.length) ((x ++ pre).map V8)) (fun nv _ _ => (intOf nv).toNat)
  case atStart => exact ⟨N, [], _, _, rfl, rfl, Lib.hid ⟨HG0.out, Nat.le_refl _⟩, by simpa using HA2.out⟩
  case round =>
    clear HA2
    obtain ⟨m, pre, B, C, rfl, rfl, hG, hA⟩ := hrel
    have HA := Lib.hid hA
    have hs := hG.out.1.short HN.out
    have z1 : n + pre.length + 1 ≤ maxLen := by unfold maxLen; omega
    have z2 : (n + pre.length + 1) * 1 ≤ 140737488355328 := by omega
    have hm64 : m < 18446744073709551616 := by have := hG.out.2; have := HN.out; omega
    clear hA
    by_cases hlt : m < 128
    · have h1 : ¬ (127 : Int) < (m : Int) := by omega
      go_wp2_with (at_builtin; refine wpList_acc1 rfl _ _ 22 rfl 5 1 _ Tryz.underlying22 info_u8' rfl w w.heap.size B C (n + pre.length) ((x ++ pre).map V8) _ rfl HA.out rfl rfl z1 z2 ?_; intro B2 D2 w3 hacc hg hnew; have HA3 := Lib.hid hacc; clear hacc hg hnew)
      go_ret
      have hgr := hG.out.1.done hlt
      rw [hgr]
      refine ⟨B2, D2, by simp [Nat.add_assoc], ?_⟩
      have := HA3.out
      rw [← v8_low m hlt] at this
      simpa [Nat.add_assoc] using this
    · have h1 : (127 : Int) < (m : Int) := by omega
      go_wp2_with (at_builtin; refine wpList_acc1 rfl _ _ 22 rfl 5 1 _ Tryz.underlying22 info_u8' rfl w w.heap.size B C (n + pre.length) ((x ++ pre).map V8) _ rfl HA.out rfl rfl z1 z2 ?_; intro B2 D2 w3 hacc hg hnew; have HA3 := Lib.hid hacc; clear hacc hg hnew)
      go_roundw
      case rel =>
        refine ⟨m / 128, pre ++ [UInt8.ofNat (128 + m % 128)], B2, D2, by go_num, by simp [Nat.add_assoc], Lib.hid ⟨hG.out.1.next hlt, by have := hG.out.2; omega⟩, ?_⟩
        have := HA3.out
        rw [← v8_or m] at this
        simpa [Nat.add_assoc] using this
      case measure => simp [intOf]; omega
end Go.Proofs.YtgpenpnobjecgaaGreatDoor

/- DiskAt -/
namespace Go.Proofs.YtgpenpnobjecgaaGreatDoor
set_option maxRecDepth 100000
open Go.RowKit Go.Maps Dk

namespace Dk
structure Ok (d : DiskS) : Prop where
  room : d.room ≤ 9223372036854775807
  used : d.used ≤ d.room
  ops : d.ops ≤ 1048576
  armed : d.armed ≤ 9223372036854775807
  nfiles : d.files.length ≤ 64 + d.ops
  nchg : d.chg.length ≤ d.ops
  ndir : d.dir.length ≤ 64
  nsafe : d.safe.length ≤ 64
  len : ∀ f ∈ d.files, f.b.length ≤ 4194304 ∧ f.synced ≤ f.b.length
  dirI : (d.dir.map (·.2)).Nodup
  dirR : Rising d.dir
  safeR : Rising d.safe
  dirF : ∀ p ∈ d.dir, p.2 < d.files.length ∧ named p.1 = true
  safeF : ∀ p ∈ d.safe, p.2 < d.files.length ∧ named p.1 = true
  chgF : ∀ c ∈ d.chg, c.file ≤ d.files.length ∧ (c.to ≠ [] → c.file < d.files.length ∧ named c.to = true) ∧ (c.frm ≠ [] → named c.frm = true)
theorem named_len {s : Bs} (h : named s = true) : 1 ≤ s.length ∧ s.length ≤ 32 := by
  unfold named at h
  simp only [Bool.and_eq_true, decide_eq_true_eq] at h
  exact ⟨h.1.2, h.2⟩
theorem Ok.dget_nil {d : DiskS} (h : Ok d) : dget d.dir [] = none := dget_none.2 fun p hp e => by
  have := (named_len (h.dirF p hp).2).1
  rw [e] at this
  simp at this
theorem Ok.dget_lt {d : DiskS} (h : Ok d) {s : Bs} {i : Nat} (hg : dget d.dir s = some i) : i < d.files.length ∧ named s = true := h.dirF _ (dget_mem hg)
end Dk

inductive DTag where
  | disk | files | fil (i : Nat) | byt (i : Nat) | dir | safe | chg
def ptrV (b : Nat) : Value := .pointer (some ⟨b, 0, none⟩)
def tagged (own : Nat → Option DTag) (t : DTag) (blk : Option Nat) : Prop := ∀ b, blk = some b → own b = some t
def chgCells (l : List Chg) : List Value := l.flatMap fun c => [strV c.frm, strV c.to, .int .i64 c.file]
def diskRow (room used : Nat) (fA : Option Addr) (fn fC : Nat) (mb : Nat) (sb : Option Nat) (cA : Option Addr) (cn cC : Nat) (ops armed : Nat) (dead : Bool) : Array Value :=
  #[.int .i64 room, .int .i64 used, .slice fA fn fC, .map (some mb), .map sb, .slice cA cn cC, .int .i64 ops, .int .i64 armed, .bool dead]
/-- File i in memory: its record lies in block r. -/
structure FileAt (w : World) (own : Nat → Option DTag) (i : Nat) (f : FileS) (r : Nat) (A : Option Addr) (C : Nat) (blk : Option Nat) : Prop where
  row : w.heap[r]? = some (.cells #[.slice A f.b.length C, .int .i64 f.synced] 109 (0, 0))
  tag : own r = some (.fil i)
  bytes : OwnR w 5 1 A f.b.length C (f.b.map V8) blk
  btag : tagged own (.byt i) blk
structure DMem (w : World) (g : Nat) (d : DiskS) (u : Nat) (recs : List Nat) (own : Nat → Option DTag) (fA : Option Addr) (fC : Nat) (fb : Option Nat) (mb : Nat) (sb : Option Nat) (cA : Option Addr) (cC : Nat) (cb : Option Nat) : Prop where
  row : w.heap[g]? = some (.cells (diskRow d.room u fA d.files.length fC mb sb cA d.chg.length cC d.ops d.armed d.dead) 103 (0, 0))
  files : OwnR w 106 1 fA d.files.length fC (recs.map ptrV) fb
  fil : ∀ i f, d.files[i]? = some f → ∃ r A C blk, recs[i]? = some r ∧ FileAt w own i f r A C blk
  dir : DirAt w mb d.dir
  safe : ∀ b, sb = some b → DirAt w b d.safe
  chg : OwnR w 126 3 cA d.chg.length cC (chgCells d.chg) cb
  lt : ∀ b, own b ≠ none → b < w.heap.size
  tg : own g = some .disk
  tf : tagged own .files fb
  td : own mb = some .dir
  ts : tagged own .safe sb
  tc : tagged own .chg cb
def DAtU (w : World) (g : Nat) (d : DiskS) (u : Nat) (recs : List Nat) (own : Nat → Option DTag) : Prop := ∃ fA fC fb mb sb cA cC cb, DMem w g d u recs own fA fC fb mb (some sb) cA cC cb
/-- The disk at block g. -/
def DAt (w : World) (g : Nat) (d : DiskS) (recs : List Nat) (own : Nat → Option DTag) : Prop := DAtU w g d d.used recs own
/-- What belongs to it. -/
def foot (own : Nat → Option DTag) (b : Nat) : Prop := own b ≠ none

section
variable {w w' : World} {g : Nat} {d : DiskS} {u : Nat} {recs : List Nat} {own : Nat → Option DTag} {fA : Option Addr} {fC : Nat} {fb : Option Nat} {mb : Nat} {sb : Option Nat} {cA : Option Addr} {cC : Nat} {cb : Option Nat}
theorem foot_of {b : Nat} {t : DTag} (h : own b = some t) : foot own b := by unfold foot; rw [h]; simp
theorem ne_of_tag {b c : Nat} {t u : DTag} (h : own b = some t) (h2 : own c = some u) (hne : t ≠ u) : b ≠ c := fun e => by
  subst e
  rw [h] at h2
  exact hne (Option.some.inj h2)
theorem FileAt.kept {F : Nat → Prop} {i : Nat} {f : FileS} {r : Nat} {A : Option Addr} {C : Nat} {blk : Option Nat} (h : FileAt w own i f r A C blk) (hk : Kept F w w') (hr : ¬ F r) (hF : ∀ b, blk = some b → ¬ F b) : FileAt w' own i f r A C blk :=
  ⟨hk.blk h.row hr, h.tag, h.bytes.kept hk hF, h.btag⟩
theorem DMem.kept {F : Nat → Prop} (h : DMem w g d u recs own fA fC fb mb sb cA cC cb) (hk : Kept F w w') (hF : ∀ b, foot own b → ¬ F b) : DMem w' g d u recs own fA fC fb mb sb cA cC cb :=
  ⟨hk.blk h.row (hF _ (foot_of h.tg)), h.files.kept hk fun b hb => hF _ (foot_of (h.tf b hb)), fun i f hf => by
    obtain ⟨r, A, C, blk, h1, h2⟩ := h.fil i f hf
    exact ⟨r, A, C, blk, h1, h2.kept hk (hF _ (foot_of h2.tag)) fun b hb => hF _ (foot_of (h2.btag b hb))⟩, h.dir.kept hk (hF _ (foot_of h.td)), fun b hb => (h.safe b hb).kept hk (hF _ (foot_of (h.ts b hb))), h.chg.kept hk fun b hb => hF _ (foot_of (h.tc b hb)), fun b hb => Nat.lt_of_lt_of_le (h.lt b hb) hk.size, h.tg, h.tf, h.td, h.ts, h.tc⟩
theorem DAtU.kept {F : Nat → Prop} (h : DAtU w g d u recs own) (hk : Kept F w w') (hF : ∀ b, foot own b → ¬ F b) : DAtU w' g d u recs own := by
  obtain ⟨fA, fC, fb, mb, sb, cA, cC, cb, M⟩ := h
  exact ⟨fA, fC, fb, mb, sb, cA, cC, cb, M.kept hk hF⟩
theorem DAtU.below (h : DAtU w g d u recs own) (hb : Below w.heap.size w w') : DAtU w' g d u recs own := h.kept (Kept.of_below (F := fun _ => False) hb) fun _ _ => id
theorem DAt.kept {F : Nat → Prop} (h : DAt w g d recs own) (hk : Kept F w w') (hF : ∀ b, foot own b → ¬ F b) : DAt w' g d recs own := DAtU.kept h hk hF
theorem DAt.below (h : DAt w g d recs own) (hb : Below w.heap.size w w') : DAt w' g d recs own := DAtU.below h hb
theorem DAtU.lt (h : DAtU w g d u recs own) : ∀ b, foot own b → b < w.heap.size := by
  obtain ⟨fA, fC, fb, mb, sb, cA, cC, cb, M⟩ := h
  exact M.lt
theorem DAtU.mine (h : DAtU w g d u recs own) : foot own g := by
  obtain ⟨fA, fC, fb, mb, sb, cA, cC, cb, M⟩ := h
  exact foot_of M.tg
theorem DAtU.reclen (h : DAtU w g d u recs own) : recs.length = d.files.length := by
  obtain ⟨fA, fC, fb, mb, sb, cA, cC, cb, M⟩ := h
  simpa using M.files.length

/-- The row of fields anew. -/
theorem DMem.rerow (M : DMem w g d u recs own fA fC fb mb sb cA cC cb) (hk : Kept (· = g) w w') (d' : DiskS) (u' : Nat) (h1 : d'.files = d.files) (h2 : d'.dir = d.dir) (h3 : d'.safe = d.safe) (h4 : d'.chg = d.chg)
    (hr : w'.heap[g]? = some (.cells (diskRow d'.room u' fA d'.files.length fC mb sb cA d'.chg.length cC d'.ops d'.armed d'.dead) 103 (0, 0))) : DMem w' g d' u' recs own fA fC fb mb sb cA cC cb := by
  have hne : ∀ {b t}, own b = some t → t ≠ .disk → ¬ b = g := fun h hn => ne_of_tag h M.tg hn
  refine ⟨hr, ?_, ?_, ?_, ?_, ?_, fun b hb => Nat.lt_of_lt_of_le (M.lt b hb) hk.size, M.tg, M.tf, M.td, M.ts, M.tc⟩
  · rw [h1]; exact M.files.kept hk fun b hb => hne (M.tf b hb) (by simp)
  · intro i f hf
    rw [h1] at hf
    obtain ⟨r, A, C, blk, e1, e2⟩ := M.fil i f hf
    exact ⟨r, A, C, blk, e1, e2.kept hk (hne e2.tag (by simp)) fun b hb => hne (e2.btag b hb) (by simp)⟩
  · rw [h2]; exact M.dir.kept hk (hne M.td (by simp))
  · intro b hb; rw [h3]; exact (M.safe b hb).kept hk (hne (M.ts b hb) (by simp))
  · rw [h4]; exact M.chg.kept hk fun b hb => hne (M.tc b hb) (by simp)
theorem DMem.setUsed (M : DMem w g d u recs own fA fC fb mb sb cA cC cb) (u' : Nat) : DMem (w.setCell ⟨g, 1, none⟩ (.int .i64 u')) g d u' recs own fA fC fb mb sb cA cC cb :=
  M.rerow (((Kept.refl (· = g) w).setCell _ _ (.inl rfl))) d u' rfl rfl rfl rfl (by rw [setCell_row M.row, setRow_heap _ _ _ _ _ _ M.row]; rfl)
/-- The directory anew. -/
theorem DMem.redir (M : DMem w g d u recs own fA fC fb mb sb cA cC cb) (hk : Kept (· = mb) w w') (l : Dir) (hd : DirAt w' mb l) : DMem w' g { d with dir := l } u recs own fA fC fb mb sb cA cC cb := by
  have hne : ∀ {b t}, own b = some t → t ≠ .dir → ¬ b = mb := fun h hn => ne_of_tag h M.td hn
  refine ⟨hk.blk M.row (hne M.tg (by simp)), M.files.kept hk fun b hb => hne (M.tf b hb) (by simp), ?_, hd, fun b hb => (M.safe b hb).kept hk (hne (M.ts b hb) (by simp)), M.chg.kept hk fun b hb => hne (M.tc b hb) (by simp), fun b hb => Nat.lt_of_lt_of_le (M.lt b hb) hk.size, M.tg, M.tf, M.td, M.ts, M.tc⟩
  intro i f hf
  obtain ⟨r, A, C, blk, e1, e2⟩ := M.fil i f hf
  exact ⟨r, A, C, blk, e1, e2.kept hk (hne e2.tag (by simp)) fun b hb => hne (e2.btag b hb) (by simp)⟩
end

set_option maxRecDepth 100000 in
theorem find_any {w : World} {g : Nat} {d : DiskS} {recs : List Nat} {own : Nat → Option DTag} {u : Nat} (hd : DAtU w g d u recs own) (hO : ∀ p ∈ d.dir, p.2 < d.files.length) (s : Bs) (hs : s.length ≤ maxLen) :
    Calls Tryz.prog 92 #[ptrV g, strV s] w fun e w' => e = .returned (match dget d.dir s with
      | some i => ptrV (recs.getD i 0)
      | none => .pointer none) ∧ w = w' := by
  obtain ⟨fA, fC, fb, mb, sb, cA, cC, cb, M⟩ := hd
  have hlk := M.dir.look2 hs
  have c3 : w.cell? ⟨g, 3, none⟩ = some (.map (some mb)) := cell_block M.row rfl
  cases hg : dget d.dir s with
  | none =>
    rw [hg] at hlk
    simp only [Option.getD_none, Option.isSome_none] at hlk
    unfold ptrV
    unfold strV at hlk ⊢
    clear hg M
    go_enter Tryz.func92, Tryz.ntmps92
    go_wp2
    go_ret
    exact ⟨rfl, rfl⟩
  | some i =>
    have hi := hO _ (dget_mem hg)
    rw [hg] at hlk
    simp only [Option.getD_some, Option.isSome_some] at hlk
    have c2 : w.cell? ⟨g, 2, none⟩ = some (.slice fA d.files.length fC) := cell_block M.row rfl
    have hr : recs.length = d.files.length := by simpa using M.files.length
    obtain ⟨b, rfl, _, hc⟩ := M.files.cell (j := i) (v := ptrV (recs.getD i 0)) (by simp [show i < recs.length by omega])
    obtain ⟨r, hr⟩ : ∃ r, r = recs.getD i 0 := ⟨_, rfl⟩
    have hn1 : (0 : Int) ≤ (i : Int) := by omega
    have hn2 : (i : Int) < (d.files.length : Int) := by omega
    simp only [← hr] at hc ⊢
    simp only at hi
    unfold ptrV at hc ⊢
    unfold strV at hlk ⊢
    clear hg M hr
    go_enter Tryz.func92, Tryz.ntmps92
    go_wp2
    go_ret
    exact ⟨rfl, rfl⟩
end Go.Proofs.YtgpenpnobjecgaaGreatDoor
