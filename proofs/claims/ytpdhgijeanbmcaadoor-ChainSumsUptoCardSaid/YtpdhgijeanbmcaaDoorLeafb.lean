/- wicketref25.Node; half, Split: the greatest power of two below n. -/
import Derived.Test.YtpdhgijeanbmcaaDoorLeaf
namespace Go.Proofs.YtpdhgijeanbmcaaDoor
open Go.RowKit

set_option maxRecDepth 100000 in
set_option maxHeartbeats 2000000 in
theorem rnode_any (x y : List UInt8) (w : World) (hT : Tabs w) (hx : x.length = 32) (hy : y.length = 32) :
    Calls Tryd.prog 20 #[sumV x, sumV y] w (RetSum w (Sha.sum (1 :: (x ++ y)))) := by
  have z1 : 1 + 32 ≤ maxLen := by unfold maxLen; omega
  have z2 : (1 + 32) * 1 ≤ 140737488355328 := by omega
  have z3 : 33 + 32 ≤ maxLen := by unfold maxLen; omega
  have z4 : (33 + 32) * 1 ≤ 140737488355328 := by omega
  have HLX := Lib.hid hx
  have HLY := Lib.hid hy
  have HL0 := Lib.hid (show 65 = (1 :: (x ++ y)).length by simp [hx, hy])
  obtain ⟨z, hz⟩ : ∃ z, z = (1 :: (x ++ y) : List UInt8) := ⟨_, rfl⟩
  rw [← hz] at HL0 ⊢
  have HZ := Lib.hid hz
  clear hx hy hz
  go_enter Tryd.func20, Tryd.ntmps20
  go_wp2_with (first | (at_builtin; refine wpList_acc rfl _ _ 22 rfl 5 1 1 _ Tryd.underlying22 info_u8' rfl (by decide) _ (w.heap.size + 1 + 1 + 1) (some ⟨w.heap.size + 1 + 1 + 1, 0, none⟩) 1 1 [V8 1] rfl (Acc.lit' (by simp) #[V8 1] 1 (Below.refl _ _) (by simp) (by decide) rfl) (some ⟨w.heap.size, 0, none⟩) 32 32 (x.map V8) rfl (by simp [HLX.out]) (Txt.of_block (l := x) (n := 32) (blk4 _ _ _ _ _).1 HLX.out.symm).src.at_.cells (fun h => by cases h) (fun ad h => ⟨_, _, (Option.some.inj h).symm⟩) (ones' x) z1 z2 ?_; intro B1 D1 w1 hacc hg hnew; have HA := Lib.hid (show Acc 5 1 _ w1 _ B1 D1 33 ((1 :: x).map V8) from hacc); clear hacc hg hnew) | (at_builtin; refine wpList_acc rfl _ _ 22 rfl 5 1 1 _ Tryd.underlying22 info_u8' rfl (by decide) _ (w.heap.size + 1 + 1 + 1) B1 D1 33 _ rfl HA.out (some ⟨w.heap.size + 1, 0, none⟩) 32 32 (y.map V8) rfl (by simp [HLY.out]) (Txt.of_block (l := y) (n := 32) ((HA.out.low.block _ (by omega)).trans (blk3 _ _ _ _).2.1) HLY.out.symm).src.at_.cells (fun h => by cases h) (fun ad h => ⟨_, _, (Option.some.inj h).symm⟩) (ones' y) z3 z4 ?_; intro B2 D2 w2 hacc hg hnew; rw [← List.map_append, List.cons_append, ← HZ.out] at hacc; have HA2 := Lib.hid hacc; clear hacc hg hnew) | (go_at_call 43; refine (rsum_any z B2 65 D2 w2 HL0.out (hT.below (bthen (low3 _ _ _ _) (HA2.out.low.mono (by simp)))) HA2.out.src (by rw [← HL0.out]; decide)).mono ?_; rintro e w3 ⟨rfl, hB⟩; have HB2 := Lib.hid hB; clear hB) | (refine wpList_store_sum rfl 29 _ _ rfl (w.heap.size + 1 + 1) (Sha.sum z) 32 rfl rfl _ _ (bblk HB2.out ((HA2.out.low.block _ (by omega)).trans (blk3 _ _ _ _).2.2)) (by kernel_rfl) rfl rfl ?_))
  refine bodyPost_ret (results_sum rfl _ _ (w.heap.size + 1 + 1) _ (Sha.sum z) 32 (0, 0) _ rfl (setRow_heap _ _ _ _ _ _ (bblk HB2.out ((HA2.out.low.block _ (by omega)).trans (blk3 _ _ _ _).2.2))) Tryd.underlying29 (by kernel_rfl) rfl) rfl ⟨rfl, ?_⟩
  exact brow (bthen (bthen (low3 _ _ _ _) (HA2.out.low.mono (by simp))) HB2.out) (by omega) _

/-! ### half, Split -/
/-- The greatest power of two below n, as both find it: k doubled while it is less than n - k. -/
def splitFrom (n k : Nat) : Nat := if h : 0 < k ∧ k < n - k then splitFrom n (2 * k) else k
termination_by n - k
decreasing_by omega
def split (n : Nat) : Nat := splitFrom n 1
theorem splitFrom_step {n k : Nat} (h : 0 < k) (h2 : k < n - k) : splitFrom n k = splitFrom n (2 * k) := by
  rw [splitFrom, dif_pos ⟨h, h2⟩]
theorem splitFrom_stop {n k : Nat} (h2 : ¬ k < n - k) : splitFrom n k = k := by
  rw [splitFrom, dif_neg (fun h => h2 h.2)]
theorem splitFrom_pos (n k : Nat) (h : 0 < k) : 0 < splitFrom n k := by
  fun_induction splitFrom n k with
  | case1 k hk ih => exact ih (by omega)
  | case2 k hk => exact h
theorem splitFrom_lt (n k : Nat) (h : k < n) : splitFrom n k < n := by
  fun_induction splitFrom n k with
  | case1 k hk ih => exact ih (by omega)
  | case2 k hk => exact h
theorem split_pos (n : Nat) : 0 < split n := splitFrom_pos n 1 (by omega)
theorem split_lt {n : Nat} (h : 1 < n) : split n < n := splitFrom_lt n 1 h

set_option maxRecDepth 100000 in
theorem half_any (n : Nat) (hn : n < 9223372036854775808) (w : World) : Calls Tryd.prog 45 #[.int .i64 n] w fun e w' => e = .returned (.int .i64 (split n)) ∧ w = w' := by
  go_enter Tryd.func45, Tryd.ntmps45
  go_wp2
  go_loopw [3] (fun v wr => ∃ k : Nat, 0 < k ∧ k ≤ n + 1 ∧ v = .int .i64 k ∧ splitFrom n k = split n ∧ w = wr) (fun v _ => n + 2 - (intOf v).toNat)
  case atStart => exact ⟨1, by omega, by omega, rfl, rfl, rfl⟩
  case round =>
    obtain ⟨k, hk, hkn, rfl, hs, rfl⟩ := hrel
    by_cases hlt : k < n - k
    · have HS := Lib.hid (splitFrom_step hk hlt)
      have HS2 := Lib.hid hs
      have h1 : (k : Int) < (n : Int) - (k : Int) := by omega
      clear hs
      go_wp2
      go_roundw
      case rel => exact ⟨2 * k, by omega, by omega, by go_num, by rw [← HS.out]; exact HS2.out, trivial⟩
      case measure => simp [intOf]; omega
    · have h1 : ¬ (k : Int) < (n : Int) - (k : Int) := by omega
      have HS := Lib.hid ((splitFrom_stop hlt).symm.trans hs)
      clear hs
      go_wp2
      go_ret
      exact ⟨by rw [← HS.out]; rfl, rfl⟩
set_option maxRecDepth 100000 in
theorem split_any (n : Nat) (hn : n < 9223372036854775808) (w : World) : Calls Tryd.prog 46 #[.int .i64 n] w fun e w' => e = .returned (.int .i64 (split n)) ∧ w = w' := by
  go_enter Tryd.func46, Tryd.ntmps46
  go_wp2
  go_loopw [3] (fun v wr => ∃ k : Nat, 0 < k ∧ k ≤ n + 1 ∧ v = .int .i64 k ∧ splitFrom n k = split n ∧ w = wr) (fun v _ => n + 2 - (intOf v).toNat)
  case atStart => exact ⟨1, by omega, by omega, rfl, rfl, rfl⟩
  case round =>
    obtain ⟨k, hk, hkn, rfl, hs, rfl⟩ := hrel
    by_cases hlt : k < n - k
    · have HS := Lib.hid (splitFrom_step hk hlt)
      have HS2 := Lib.hid hs
      have h1 : (k : Int) < (n : Int) - (k : Int) := by omega
      clear hs
      go_wp2
      go_roundw
      case rel => exact ⟨2 * k, by omega, by omega, by go_num, by rw [← HS.out]; exact HS2.out, trivial⟩
      case measure => simp [intOf]; omega
    · have h1 : ¬ (k : Int) < (n : Int) - (k : Int) := by omega
      have HS := Lib.hid ((splitFrom_stop hlt).symm.trans hs)
      clear hs
      go_wp2
      go_ret
      exact ⟨by rw [← HS.out]; rfl, rfl⟩
end Go.Proofs.YtpdhgijeanbmcaaDoor
