/- slices.Grow of nil, slices.Concat, slices.Clone, of bytes. -/
import Derived.Test.YtpdhgijeanbmcaaDoorHeap
import Derived.Lib.AppendZerosOnto
namespace Go.Proofs.YtpdhgijeanbmcaaDoor
open Go.RowKit

set_option maxRecDepth 100000 in
theorem grow_zero (w : World) : Calls Tryd.prog 65 #[.slice none 0 0, .int .i64 0] w fun e w' => e = .returned (.slice none 0 0) ∧ w = w' := by
  go_enter Tryd.func65, Tryd.ntmps65
  go_wp2
  go_ret
  exact ⟨rfl, rfl⟩

theorem info_u8i : ∃ i, Tryd.prog.info? 5 = some i ∧ i.zero = some (.int .u8 0) ∧ i.size = 1 ∧ i.bytes = 1 := ⟨_, rfl, rfl, rfl, rfl⟩

set_option maxRecDepth 100000 in
set_option maxHeartbeats 1000000 in
theorem grow_pos (n : Nat) (h0 : 0 < n) (hn : n ≤ 70368744177664) (w : World) :
    Calls Tryd.prog 65 #[.slice none 0 0, .int .i64 n] w fun e w' => ∃ B C, e = .returned (.slice B 0 C) ∧ Acc 5 1 w w' w.heap.size B C 0 [] := by
  obtain ⟨i, hi, hz, hs, hby⟩ := info_u8i
  have h1 : ¬ ((n : Int) < 0) := by omega
  have h4 : (n : Int) > 0 := by omega
  have hrz : ∀ ty, (Builtin.append_ #[22, 3] ty #[.slice none 0 0, .int .i64 n]).run Tryd.prog w =
      .ok (.slice (some ⟨w.heap.size, 0, none⟩) n (grownCap w n 0 5)) (w.drew.alloc (.cells (Builtin.zeroCells (Value.int .u8 0).cells n ++ Builtin.zeroCells (Value.int .u8 0).cells (grownCap w n 0 5 - n)) 5)) := fun ty =>
    Lib.run_append_nil_zeros w 22 3 ty 5 i (.int .u8 0) .i64 .i64 Tryd.underlying22 Tryd.underlying3 hi hz n h0 (by omega) (by omega) (by rw [hby]; omega)
  have hG := grownCap_ge w n 0 5
  have hGm := grownCap_le_maxLen w n 0 5 (by unfold maxLen; omega)
  have hG63 : grownCap w n 0 5 ≤ 9223372036854775807 := by unfold maxLen at hGm; omega
  have HGm := Lib.hid hGm
  clear hGm
  go_enter Tryd.func65, Tryd.ntmps65
  go_wp2_with (at_builtin; refine Lib.wpList_append_run _ rfl _ _ _ _ rfl _ _ rfl rfl _ _ (hrz _) ?_)
  go_ret
  generalize grownCap w n 0 5 = G at *
  obtain ⟨cs, hcs⟩ : ∃ cs, cs = Builtin.zeroCells (Value.int .u8 0).cells n ++ Builtin.zeroCells (Value.int .u8 0).cells (G - n) := ⟨_, rfl⟩
  have hsz : cs.size = G := by
    rw [hcs]
    simp [Builtin.zeroCells, Value.cells]
    omega
  refine ⟨_, _, rfl, ⟨⟨rfl, .inr ⟨w.heap.size, G, cs, rfl, Nat.le_refl _, ?_, by omega, HGm.out, by omega, by simp⟩⟩, ?_, by simp⟩⟩
  · rw [hcs]
    exact heap_alloc_new _ _
  · exact (Below.refl _ _).drew.alloc (Nat.le_refl _) _

/-! ### Concat -/
structure Part where
  a : Option Addr
  c : Nat
  l : List UInt8
def tot (ps : List Part) (k : Nat) : Nat := ((ps.take k).map (·.l.length)).sum
def cat (ps : List Part) (k : Nat) : List UInt8 := (ps.take k).flatMap (·.l)
theorem cat_length (ps : List Part) (k : Nat) : (cat ps k).length = tot ps k := by rw [cat, tot, List.length_flatMap]
theorem tot_succ (ps : List Part) (k : Nat) (h : k < ps.length) : tot ps (k + 1) = tot ps k + ps[k].l.length := by
  rw [tot, List.take_succ_eq_append_getElem h, List.map_append, List.sum_append]; rfl
theorem cat_succ (ps : List Part) (k : Nat) (h : k < ps.length) : cat ps (k + 1) = cat ps k ++ ps[k].l := by
  rw [cat, List.take_succ_eq_append_getElem h, List.flatMap_append]; simp [cat]
theorem tot_le (ps : List Part) (k : Nat) (h : k ≤ ps.length) : tot ps k ≤ tot ps ps.length := by
  obtain ⟨d, hd⟩ : ∃ d, ps.length = k + d := ⟨ps.length - k, by omega⟩
  rw [hd]
  clear h
  induction d generalizing k with
  | zero => exact Nat.le_refl _
  | succ d ih =>
    have := ih (k + 1) (by omega)
    have := tot_succ ps k (by omega)
    rw [show k + (d + 1) = k + 1 + d by omega]
    omega
structure Parts (w : World) (b : Nat) (ps : List Part) : Prop where
  lt : b < w.heap.size
  at_ : ∀ k (h : k < ps.length), w.cell? ⟨b, k, none⟩ = some (.slice ps[k].a ps[k].l.length ps[k].c)
  src : ∀ k (h : k < ps.length), Src w ps[k].a ps[k].c ps[k].l
theorem Parts.below {w w' : World} {b : Nat} {ps : List Part} (h : Parts w b ps) (hb : Below w.heap.size w w') : Parts w' b ps :=
  ⟨Nat.lt_of_lt_of_le h.lt hb.size, fun k hk => (hb.cell (p := ⟨b, k, none⟩) h.lt).trans (h.at_ k hk), fun k hk => (h.src k hk).below hb⟩

set_option maxRecDepth 100000 in
set_option maxHeartbeats 2000000 in
theorem concat_any (ps : List Part) (b n : Nat) (w : World) (hn : n = ps.length) (hb : Parts w b ps) (hlen : tot ps ps.length ≤ 70368744177664) (hn9 : n ≤ 1000000) (hpos : 0 < tot ps ps.length) :
    Calls Tryd.prog 42 #[.slice (some ⟨b, 0, none⟩) n n] w (RetB w (tot ps ps.length) (cat ps ps.length)) := by
  have HP := Lib.hid hb
  have Hn := Lib.hid hn
  clear hb hn
  have HL := Lib.hid hlen
  clear hlen
  go_enter Tryd.func42, Tryd.ntmps42
  go_wp2
  go_loopw [3, 5, 11] (fun s _ i wr => ∃ k : Nat, k ≤ n ∧ i = .int .i64 k ∧ s = .int .i64 ((tot ps k : Nat) : Int) ∧ w = wr) (fun _ _ i _ => n - (intOf i).toNat)
  case atStart => exact ⟨0, Nat.zero_le _, rfl, rfl, rfl⟩
  case round =>
    obtain ⟨k, hk, rfl, rfl, rfl⟩ := hrel
    by_cases hlt : k < n
    · have hk' : k < ps.length := by have := Hn.out; omega
      have c0 := HP.out.at_ k hk'
      have hs := tot_succ ps k hk'
      have hle := tot_le ps (k + 1) (by omega)
      have hL := HL.out
      obtain ⟨m, hm⟩ : ∃ m, m = ps[k].l.length := ⟨_, rfl⟩
      obtain ⟨s, hsd⟩ : ∃ s, s = tot ps k := ⟨_, rfl⟩
      rw [← hm] at c0 hs
      rw [← hsd] at hs ⊢
      have hb1 : s + m ≤ 70368744177664 := by omega
      have hki : (0 : Int) ≤ k := by omega
      have hki2 : (k : Int) < n := by omega
      have HS := Lib.hid hs
      clear hs hle hL hm hsd
      go_wp2
      go_roundw
      case rel => exact ⟨k + 1, by omega, by go_num, by rw [HS.out]; go_num, trivial⟩
      case measure => simp [intOf]; omega
    · obtain rfl : k = n := by omega
      have hkn : tot ps k = tot ps ps.length := by rw [Hn.out]
      rw [hkn]
      have hL := HL.out
      obtain ⟨T, hT⟩ : ∃ T, T = tot ps ps.length := ⟨_, rfl⟩
      rw [← hT] at hL hpos ⊢
      have HT := Lib.hid hT
      clear hkn hT
      go_wp2_with (go_at_call 65; refine (grow_pos T hpos hL _).mono ?_; rintro e w1 ⟨B, C, rfl, hacc⟩; have HA := Lib.hid hacc; clear hacc)
      go_loopw [6, 8, 27] (fun s _ i wr => ∃ j B C, j ≤ k ∧ i = .int .i64 j ∧ s = .slice B (tot ps j) C ∧ Acc 5 1 w wr w.heap.size B C (tot ps j) ((cat ps j).map V8)) (fun _ _ i _ => k - (intOf i).toNat)
      case atStart => exact ⟨0, B, C, Nat.zero_le _, rfl, rfl, HA.out⟩
      case round =>
        obtain ⟨j, B, C, hj, rfl, rfl, R⟩ := hrel
        have R' := Lib.hid R
        clear R
        by_cases hlt2 : j < k
        · have hj' : j < ps.length := by have := Hn.out; omega
          have hPw := HP.out.below R'.out.low
          have c0 := hPw.at_ j hj'
          have hs := tot_succ ps j hj'
          have hle := tot_le ps (j + 1) (by omega)
          have hsrc := hPw.src j hj'
          have hcat := cat_succ ps j hj'
          obtain ⟨l, hl⟩ : ∃ l, l = ps[j].l := ⟨_, rfl⟩
          rw [← hl] at c0 hs hsrc hcat
          obtain ⟨m, hm⟩ : ∃ m, m = l.length := ⟨_, rfl⟩
          rw [← hm] at c0 hs
          have hL := HL.out
          have z1 : tot ps j + m ≤ maxLen := by unfold maxLen; omega
          have z2 : (tot ps j + m) * 1 ≤ 140737488355328 := by omega
          have hki : (0 : Int) ≤ j := by omega
          have hki2 : (j : Int) < k := by omega
          have HS := Lib.hid hs
          have HC := Lib.hid hcat
          have HSrc := Lib.hid hsrc
          have Hm := Lib.hid hm
          clear hs hle hcat hsrc hL hPw hl hm
          go_wp2_with (at_builtin; refine wpList_acc rfl _ _ 22 rfl 5 1 1 _ Tryd.underlying22 info_u8' rfl (by decide) w w.heap.size B C (tot ps j) _ rfl R'.out ps[j].a m ps[j].c (l.map V8) rfl (by simp [Hm.out]) HSrc.out.at_.cells HSrc.out.nil HSrc.out.od (ones' l) z1 z2 ?_; intro B2 D2 w2 hacc hg hnew; have HA2 := Lib.hid hacc; clear hacc hg hnew)
          go_roundw
          case rel => exact ⟨j + 1, B2, D2, by omega, by go_num, by rw [HS.out], by rw [HS.out, HC.out, List.map_append]; exact HA2.out⟩
          case measure => simp [intOf]; omega
        · obtain rfl : j = k := by omega
          go_wp2
          go_ret
          have hjn : j = ps.length := Hn.out
          subst hjn
          exact ⟨B, C, rfl, R'.out⟩
end Go.Proofs.YtpdhgijeanbmcaaDoor
