/- The law's own 'kept': the sums are as they were, and the marks behind them. -/
import Derived.Test.YtpdhgijeanbmcaaDoorOwn2
namespace Go.Proofs.YtpdhgijeanbmcaaDoor
open Go.RowKit Go.Great

theorem marks_len (k : Nat) : (marks k).length = k := by simp [marks]
theorem marks_get (k i : Nat) (h : i < (marks k).length) : (marks k)[i] = mark i := by simp [marks]

set_option maxRecDepth 100000 in
set_option maxHeartbeats 2000000 in
theorem kept_any (L : List (List UInt8)) (B a : Option Addr) (n C c : Nat) (w : World) (SB : Sums w B (n + 8) C (L ++ marks 8)) (S : Sums w a n c L) (hn : n < 1099511627776) :
    Calls Tryd.prog 23 #[.slice B n C, .slice a n c] w fun e w' => e = .returned (.bool true) ∧ Below w.heap.size w w' := by
  have hnl := S.len
  have hcap := SB.cap
  have hnC : (n : Int) + 8 ≤ (C : Int) := by omega
  obtain ⟨b, o, hb, hget⟩ := SB.get
  obtain rfl := hb (by omega)
  have Hget := Lib.hid hget
  have sl := SB.take n (by omega)
  rw [List.take_append_of_le_length (by omega), List.take_of_length_le (by omega)] at sl
  have hsums := Lib.hid fun W hB => sums_eq L (some ⟨b, o, none⟩) a n C c W (sl.below hB) (S.below hB) (by omega)
  have Hnl := Lib.hid hnl
  clear SB S sl hget hb hnl
  go_enter Tryd.func23, Tryd.ntmps23
  go_wp2
  go_loopw [6] (fun i wr => ∃ k : Nat, k ≤ 8 ∧ i = .int .i64 k ∧ Below w.heap.size w wr) (fun i _ => 8 - (intOf i).toNat)
  case atStart => exact ⟨0, by omega, rfl, Below.refl _ _⟩
  case round =>
    obtain ⟨k, hk, rfl, hB⟩ := hrel
    have HB := Lib.hid hB
    clear hB
    by_cases hlt : k < 8
    · have hki : (k : Int) < 8 := by omega
      have hki0 : (0 : Int) ≤ (k : Int) := by omega
      have hidx : (n : Int) + (k : Int) < (n : Int) + 8 := by omega
      have hr : w.rangeAt b (o + (n + k) * 32) ((mark k).map V8) := by
        have hlen : n + k < (L ++ marks 8).length := by rw [List.length_append, marks_len, ← Hnl.out]; omega
        have h := Hget.out (n + k) hlen
        rw [List.getElem_append_right (by have := Hnl.out; omega), marks_get] at h
        rw [show n + k - L.length = k by have := Hnl.out; omega] at h
        exact h
      have HR := Lib.hid hr
      have hmv := mark_val k hlt
      have hne : ∀ W, (binOp .neq 29 (sumV (mark k)) (Value.agg (markA k))).run Tryd.prog W = .ok (.bool false) W := fun W => by
        rw [hmv, neq_sumV _ _ _ (mark_len k) (mark_len k), beq_self_eq_true]; rfl
      have heg : ∀ (X Y : Operand) W, (eqGuard .neq 29 X Y (sumV (mark k)) (Value.agg (markA k))).run Tryd.prog W = .ok () W := fun X Y W => run_eqGuard_agg W .neq 29 X Y _ _ guard_sum
      unfold markA at hne heg
      clear hr hmv
      go_wp2_with (refine wpList_load_mid_sum rfl 29 _ rfl b (o + (n + k) * 32) rfl (mark k) 32 _ (range_low HR.out HB.out) Tryd.underlying29 (by kernel_rfl) (mark_len k) ?_)
      go_roundw
      case rel => exact ⟨k + 1, by omega, by go_num, HB.out⟩
      case measure => simp [intOf]; omega
    · obtain rfl : k = 8 := by omega
      go_wp2_with (go_at_call 28; refine (hsums.out _ HB.out).mono ?_; rintro e w3 ⟨rfl, hB⟩; have HB3 := Lib.hid hB; clear hB)
      go_ret
      exact ⟨rfl, bthen HB.out HB3.out⟩
end Go.Proofs.YtpdhgijeanbmcaaDoor
