/- chain.Growth. -/
import Derived.Test.YtpdhgijeanbmcaaDoorGrow
namespace Go.Proofs.YtpdhgijeanbmcaaDoor
open Go.RowKit Go.Great

/-- A list of sums of the call's own and an error's number (its value is kept open: V). -/
def RetSE (w : World) (L : List (List UInt8)) (k : Int) (e : Ending) (w' : World) : Prop := ∃ B C, e = .returned (.tuple #[.slice B L.length C, .int .i64 k]) ∧ Acc 29 32 w w' w.heap.size B C L.length (sumCells L)

set_option maxRecDepth 100000 in
set_option maxHeartbeats 1000000 in
theorem growth_bad (a : Option Addr) (n c : Nat) (m : Int) (w : World) (hm : m < 1 ∨ (n : Int) < m) :
    Calls Tryd.prog 26 #[.slice a n c, .int .i64 m] w (RetSE w [] 2) := by
  rcases hm with hm | hm
  · go_enter Tryd.func26, Tryd.ntmps26
    go_wp2
    go_ret2
    exact ⟨none, 0, rfl, Acc.start _ _ _ _ _ (Below.refl _ _) (Nat.le_refl _)⟩
  · have h1 : ¬ m < 1 := by omega
    go_enter Tryd.func26, Tryd.ntmps26
    go_wp2
    go_ret2
    exact ⟨none, 0, rfl, Acc.start _ _ _ _ _ (Below.refl _ _) (Nat.le_refl _)⟩

set_option maxRecDepth 100000 in
set_option maxHeartbeats 1000000 in
theorem growth_any (L : List (List UInt8)) (a : Option Addr) (n c m : Nat) (w : World) (hm : 0 < m) (hmn : m ≤ n) (hlen : n < 1099511627776) (hT : Tabs w) (S : Sums w a n c L) :
    Calls Tryd.prog 26 #[.slice a n c, .int .i64 m] w (RetSE w (Tree.sub m L true) 0) := by
  have S' := Lib.hid S
  have hin := Lib.hid fun g w hT S hg => growthin_any L.length L a n c m g true w (Nat.le_refl _) hm hmn hlen hT S hg
  obtain ⟨M, hM⟩ : ∃ M, M = Tree.sub m L true := ⟨_, rfl⟩
  rw [← hM] at hin ⊢
  have h1 : ¬ (m : Int) < 1 := by omega
  have h2 : ¬ (n : Int) < (m : Int) := by omega
  clear S hM
  go_enter Tryd.func26, Tryd.ntmps26
  go_wp2_with (first | (refine wpList_store_one' rfl 68 _ _ rfl rfl w.heap.size (growFn w.heap.size) rfl rfl rfl _ _ (blk1 _ _) (by kernel_rfl) ?_; intro w0 hf hgr; have hc : w0.cell? ⟨w.heap.size, 0, none⟩ = some (.func (.func 49) #[] #[.pointer (some ⟨w.heap.size, 0, none⟩)]) := cell_block hf rfl; have hl0 := (low1 _ _).grown hgr (by simp) (fun k hk => by obtain rfl := Option.some.inj hk; exact Nat.le_refl _); have HL0 := Lib.hid hl0; have HF := Lib.hid hf; clear hf hgr hl0) | (go_at_call 49; refine (hin.out w.heap.size _ (hT.below HL0.out) (S'.out.below HL0.out) (cell_block HF.out rfl)).mono ?_; rintro e w1 ⟨B, C, rfl, hA⟩; have HA := Lib.hid hA; clear hA))
  go_ret2
  exact ⟨B, C, rfl, HA.out.rebase HL0.out.size HL0.out⟩
end Go.Proofs.YtpdhgijeanbmcaaDoor
