/- The law's own 'own': sums in memory of their own, eight marks behind their end. -/
import Derived.Test.YtpdhgijeanbmcaaDoorOwn
namespace Go.Proofs.YtpdhgijeanbmcaaDoor
open Go.RowKit Go.Great

def mark (i : Nat) : List UInt8 := UInt8.ofNat i :: 0xee :: List.replicate 30 0
theorem mark_len (i : Nat) : (mark i).length = 32 := rfl
def markA (k : Nat) : Array Value := #[.int .u8 ((k : Nat) : Int), .int .u8 238, .int .u8 0, .int .u8 0, .int .u8 0, .int .u8 0, .int .u8 0, .int .u8 0, .int .u8 0, .int .u8 0, .int .u8 0, .int .u8 0, .int .u8 0, .int .u8 0, .int .u8 0, .int .u8 0, .int .u8 0, .int .u8 0, .int .u8 0, .int .u8 0, .int .u8 0, .int .u8 0, .int .u8 0, .int .u8 0, .int .u8 0, .int .u8 0, .int .u8 0, .int .u8 0, .int .u8 0, .int .u8 0, .int .u8 0, .int .u8 0]
theorem mark_val (k : Nat) (h : k < 8) : Value.agg (markA k) = sumV (mark k) := by
  have h1 : k = 0 ∨ k = 1 ∨ k = 2 ∨ k = 3 ∨ k = 4 ∨ k = 5 ∨ k = 6 ∨ k = 7 := by omega
  rcases h1 with rfl | rfl | rfl | rfl | rfl | rfl | rfl | rfl <;> rfl
def marks (k : Nat) : List (List UInt8) := (List.range k).map mark
theorem marks_next (L : List (List UInt8)) (k : Nat) : (L ++ marks k) ++ [mark k] = L ++ marks (k + 1) := by
  simp [marks, List.range_succ]

set_option maxRecDepth 100000 in
set_option maxHeartbeats 1000000 in
theorem own_any (L : List (List UInt8)) (a : Option Addr) (n c : Nat) (w : World) (S : Sums w a n c L) (hn : n + 8 ≤ 1099511627776) :
    Calls Tryd.prog 18 #[.slice a n c] w fun e w' => ∃ B C, e = .returned (.slice B n C) ∧ Acc 29 32 w w' w.heap.size B C (n + 8) (sumCells (L ++ marks 8)) := by
  obtain ⟨z0, hz0, hinfo⟩ := info_sum'
  have HI := Lib.hid hinfo
  have HZ0 := Lib.hid hz0
  have HS := Lib.hid S
  have hnl := Lib.hid (show (sumCells L).length = n * 32 by rw [sumCells_length L S.each, S.len])
  have z1 : 0 + n ≤ maxLen := by unfold maxLen; omega
  have z2 : (0 + n) * 32 ≤ 140737488355328 := by omega
  have hap := Lib.hid (show ∀ u ∈ sumCells L, u.oneCell' = true from fun u hu => by
    obtain ⟨x, _, hx⟩ := List.mem_flatMap.1 hu
    exact ones' x u hx)
  clear hinfo hz0 S
  go_enter Tryd.func18, Tryd.ntmps18
  go_wp2_with (at_builtin; refine wpList_acc rfl _ _ 31 rfl 29 32 32 z0 Tryd.underlying31 HI.out HZ0.out (by decide) w w.heap.size (some ⟨w.heap.size, 0, none⟩) 0 0 [] rfl (Acc.lit' rfl #[] 0 (Below.refl _ _) (Nat.le_refl _) (by decide) rfl) a n c (sumCells L) rfl hnl.out (HS.out.below (low1 _ _)).at_ HS.out.nil HS.out.od hap.out z1 z2 ?_; intro B1 D1 w1 hacc hg hnew; rw [List.nil_append, Nat.zero_add] at hacc; have HA1 := Lib.hid hacc; clear hacc hg hnew)
  go_loopw [3, 4] (fun v i wr => ∃ k B C, k ≤ 8 ∧ i = .int .i64 (k : Nat) ∧ v = .slice B (n + k) C ∧ Acc 29 32 w wr w.heap.size B C (n + k) (sumCells (L ++ marks k))) (fun _ i _ => 8 - (intOf i).toNat)
  case atStart => exact ⟨0, B1, D1, by omega, rfl, rfl, by simpa [marks] using HA1.out⟩
  case round =>
    clear HA1
    obtain ⟨k, B, C, hk, rfl, rfl, hA⟩ := hrel
    have HA := Lib.hid hA
    clear hA
    by_cases hlt : k < 8
    · have hki : (k : Int) < 8 := by omega
      have hki0 : (0 : Int) ≤ (k : Int) := by omega
      have z3 : n + k + 1 ≤ maxLen := by unfold maxLen; omega
      have z4 : (n + k + 1) * 32 ≤ 140737488355328 := by omega
      have Hmv := Lib.hid (mark_val k hlt)
      go_wp2_with (first | (refine wpList_build_sum rfl _ rfl (mark k) (Eq.trans (b := Value.agg (markA k)) rfl Hmv.out) (mark_len k) ?_) | (at_builtin; refine wpList_acc rfl _ _ 31 rfl 29 32 32 z0 Tryd.underlying31 HI.out HZ0.out (by decide) w w.heap.size B C (n + k) _ rfl (HA.out.alloc _) (some ⟨wr.heap.size, 0, none⟩) 1 1 ((mark k).map V8) rfl (by simp [mark_len]) (box_bytes (blk1 _ _)).cells (fun h => by cases h) (fun ad h => ⟨_, _, (Option.some.inj h).symm⟩) (ones' (mark k)) z3 z4 ?_; intro B2 D2 w3 hacc hg hnew; rw [← sumCells_one (mark k), ← sumCells_append, marks_next] at hacc; have HA3 := Lib.hid hacc; clear hacc hg hnew))
      go_roundw
      case rel => exact ⟨k + 1, B2, D2, by omega, by go_num, rfl, HA3.out⟩
      case measure => simp [intOf]; omega
    · obtain rfl : k = 8 := by omega
      have hcap := HA.out.cap
      have hnc : (n : Int) ≤ (C : Int) := by omega
      go_wp2
      go_ret
      exact ⟨B, C, rfl, HA.out⟩
end Go.Proofs.YtpdhgijeanbmcaaDoor
