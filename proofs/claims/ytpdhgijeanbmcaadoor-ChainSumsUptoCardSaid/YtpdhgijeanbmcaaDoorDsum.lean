/- digest.Sum of a text is its SHA-256. -/
import Derived.Test.YtpdhgijeanbmcaaDoorHSum
namespace Go.Proofs.YtpdhgijeanbmcaaDoor
open Go.RowKit

/-- A new Hash has taken nothing. -/
theorem HashAt.new (w : World) : HashAt (w.alloc (.cells (hashCells Sha.init (List.replicate 64 0) 0) 94)) w.heap.size [] :=
  ⟨[], [], List.replicate 64 0, _, rfl, by simp, by simp, by simp, by simp, by rw [Sha.blocks_short _ _ (by simp)]; exact heap_alloc_new _ _⟩

set_option maxRecDepth 100000 in
theorem dsum_any (l : List UInt8) (a : Option Addr) (m c : Nat) (w : World) (hm : m = l.length) (hT : Tabs w) (S : BytesAt w a l) (hc : l.length ≤ c) (hlt : ∀ ad, a = some ad → ad.block < w.heap.size)
    (hlen : l.length < 1152921504606846976) :
    Calls Tryd.prog 41 #[.slice a m c] w fun e w' => e = .returned (sumV (Sha.sum l)) ∧ Below w.heap.size w w' := by
  have S' := Lib.hid S
  have Hm := Lib.hid hm
  have Hlt := Lib.hid hlt
  clear S hm hlt
  go_enter Tryd.func41, Tryd.ntmps41
  go_wp2_with (go_at_call 62; refine (newHash_any _ (by exact (hT.below ((Below.refl _ _).alloc (Nat.le_refl _) _)).firstAt)).mono ?_; rintro e w1 ⟨rfl, rfl⟩)
  have hB1 : ∀ o o', Below w.heap.size w ((w.alloc o).alloc o') := fun o o' => ((Below.refl _ _).alloc (Nat.le_refl _) _).alloc (by simp) _
  have hsz : ∀ o o', ((w.alloc o).alloc o').heap.size = w.heap.size + 1 + 1 := fun o o' => by simp
  have e1 : ∀ o, w.heap.size + 1 = (w.alloc o).heap.size := fun o => by simp
  have h1 : ∀ o, HashAt ((w.alloc o).alloc (.cells (hashCells Sha.init (List.replicate 64 0) 0) 94)) (w.heap.size + 1) [] := fun o => by rw [e1 o]; exact HashAt.new _
  have ho : ∀ o o', ((w.alloc o).alloc o').heap[w.heap.size]? = some o := fun o o' => heap_alloc2_old _ _ _
  have H1 := Lib.hid h1
  have HB1 := Lib.hid hB1
  have HO := Lib.hid ho
  have HS := Lib.hid hsz
  clear h1 hB1 ho hsz e1
  refine (write_len (w.heap.size + 1) [] l a m c _ Hm.out (hT.below (HB1.out _ _)) (hT.fresh (by omega)) (H1.out _) (S'.out.below (HB1.out _ _)) hc (fun ad had => by have := Hlt.out ad had; omega) (by simp; omega)).mono ?_
  rintro e w2 ⟨rfl, h2, g2⟩
  have hsz2 : w.heap.size + 1 + 1 ≤ w2.heap.size := by have := g2.size; rw [HS.out] at this; exact this
  have hB2 : Below w.heap.size w w2 := (HB1.out _ _).grown g2 (by rw [HS.out]; omega) (fun k hk => by obtain rfl := Option.some.inj hk; omega)
  have hout2 := (g2.block w.heap.size (by rw [HS.out]; omega) (fun e => by have := Option.some.inj e; omega)).trans (HO.out _ _)
  have HB2 := Lib.hid hB2
  have H2 := Lib.hid h2
  have HO2 := Lib.hid hout2
  clear g2 hB2 h2 hout2
  go_wp2_with (first | (go_at_call 64; refine (hsum_any (w.heap.size + 1) l w2 (hT.below HB2.out) H2.out hlen).mono ?_; rintro e w3 ⟨rfl, hB⟩; have HB3 := Lib.hid hB; clear hB) | (refine wpList_store_sum rfl 29 _ _ rfl w.heap.size (Sha.sum l) 32 rfl rfl _ _ ((HB3.out.block _ (by omega)).trans HO2.out) (by kernel_rfl) rfl rfl ?_))
  refine bodyPost_ret (results_sum rfl _ _ w.heap.size _ (Sha.sum l) 32 (0, 0) _ rfl (setRow_heap _ _ _ _ _ _ ((HB3.out.block _ (by omega)).trans HO2.out)) Tryd.underlying29 (by kernel_rfl) rfl) rfl ⟨rfl, ?_⟩
  exact Go.Proofs.YtpdhgijeanbmcaaDoor.below_setRow (HB2.out.trans (HB3.out.mono (by omega))) (Nat.le_refl _) _
end Go.Proofs.YtpdhgijeanbmcaaDoor
