/- The law's own 'few', 'sums', 'own' and 'kept'. -/
import Derived.Test.YtpdhgijeanbmcaaDoorLeaves
namespace Go.Proofs.YtpdhgijeanbmcaaDoor
open Go.RowKit Go.Great

@[go_sem] theorem neq_sumV (x y : List UInt8) (w : World) (hx : x.length = 32) (hy : y.length = 32) : (binOp .neq 29 (sumV x) (sumV y)).run Tryd.prog w = .ok (.bool (!(x == y))) w := by
  show (binOp .neq 29 (.agg (x.map V8).toArray) (.agg (y.map V8).toArray)).run Tryd.prog w = _
  rw [run_neq_struct]
  have h := run_equalIn_bytes (P := Tryd.prog) w 9998 29 5 32 Tryd.underlying29 Tryd.underlying5 size_u8 x y hx hy
  have h2 : (Op.equalIn 10000 29 (.agg (x.map V8).toArray) (.agg (y.map V8).toArray)).run Tryd.prog w = .ok (x == y) w := h
  rw [h2]
  rfl

/-- At most 300 texts. -/
theorem few_any (ts : List (List UInt8)) (a : Option Addr) (n c : Nat) (w : World) (S : Strs w a n ts) (hc : n ≤ c) :
    Calls Tryd.prog 15 #[.slice a n c] w fun e w' => ∃ n', n' ≤ 300 ∧ e = .returned (.slice a n' c) ∧ Strs w a n' (ts.take 300) ∧ w = w' := by
  have hl := S.len
  have HS := Lib.hid S
  have Hl := Lib.hid hl
  clear S hl
  by_cases h : 300 < n
  · have h1 : (300 : Int) < (n : Int) := by omega
    have h2 : (300 : Int) ≤ (c : Int) := by omega
    have h3 : 300 ≤ c := by omega
    go_enter Tryd.func15, Tryd.ntmps15
    go_wp2
    go_ret
    refine ⟨300, Nat.le_refl _, rfl, ⟨by rw [List.length_take]; have := Hl.out; omega, fun _ => ?_⟩, rfl⟩
    obtain ⟨b, o, e, hc⟩ := HS.out.at_ (by omega)
    refine ⟨b, o, e, fun k hk => ?_⟩
    rw [List.length_take] at hk
    rw [hc k (by omega)]
    simp
  · have h1 : ¬ (300 : Int) < (n : Int) := by omega
    go_enter Tryd.func15, Tryd.ntmps15
    go_wp2
    go_ret
    refine ⟨n, by omega, rfl, ?_, rfl⟩
    rw [List.take_of_length_le (by have := Hl.out; omega)]
    exact HS.out

/-- Two lists that are one. -/
theorem sums_eq (L : List (List UInt8)) (a a' : Option Addr) (n c c' : Nat) (w : World) (S : Sums w a n c L) (S2 : Sums w a' n c' L) (hn : n < 4611686018427387904) :
    Calls Tryd.prog 28 #[.slice a n c, .slice a' n c'] w fun e w' => e = .returned (.bool true) ∧ Below w.heap.size w w' := by
  have hl := S.len
  have HS := Lib.hid S
  have HS2 := Lib.hid S2
  have Hl := Lib.hid hl
  clear S S2 hl
  go_enter Tryd.func28, Tryd.ntmps28
  go_wp2
  go_loopw [5] (fun i wr => ∃ k : Nat, k ≤ n ∧ i = .int .i64 k ∧ Below w.heap.size w wr) (fun i _ => n - (intOf i).toNat)
  case atStart => exact ⟨0, by omega, rfl, Below.refl _ _⟩
  case round =>
    obtain ⟨k, hk, rfl, hB⟩ := hrel
    have HB := Lib.hid hB
    clear hB
    by_cases hlt : k < n
    · have hki : (k : Int) < (n : Int) := by omega
      have hki0 : (0 : Int) ≤ (k : Int) := by omega
      have hk' : k < L.length := by have := Hl.out; omega
      obtain ⟨b, o, ha, hget⟩ := HS.out.get
      obtain rfl := ha (by omega)
      obtain ⟨b2, o2, ha2, hget2⟩ := HS2.out.get
      obtain rfl := ha2 (by omega)
      have hx := Lib.hid (hget k hk')
      have hx2 := Lib.hid (hget2 k hk')
      have hxl := HS.out.each L[k] (by simp)
      obtain ⟨x, hxe⟩ : ∃ x, x = L[k] := ⟨_, rfl⟩
      rw [← hxe] at hx hx2 hxl
      have HXL := Lib.hid hxl
      have hc1 := HS.out.cap
      have hc2 := HS2.out.cap
      clear hget hget2 ha ha2 hxl hxe hk'
      go_wp2
      refine wp_region_rel2 8 Low (by kernel_rfl) (by kernel_rfl) Low.refl Low.trans [.is (.slice (some ⟨b, o, none⟩) n c), .is (.int .i64 k), .is (.pointer (some ⟨b, o + k * 32, none⟩)), pSum x, .is (.slice (some ⟨b2, o2, none⟩) n c'), .is (.int .i64 k), .is (.pointer (some ⟨b2, o2 + k * 32, none⟩)), pSum x] rfl ?_
      refine RelHead2.cons ?_ ?_
      · intro w1 hR h
        unfold relOp
        go_wp2
        exact ⟨Low.refl _, rfl⟩
      intro v17
      refine RelHead2.cons ?_ ?_
      · intro w1 hR h
        unfold relOp
        go_wp2
        exact ⟨Low.refl _, rfl⟩
      intro v18
      refine RelHead2.cons ?_ ?_
      · intro w1 hR h
        have e17 : v17 = (.slice (some ⟨b, o, none⟩) n c : Value) := allOf_iff.1 h 0 (by decide)
        have e18 : v18 = (.int .i64 k : Value) := allOf_iff.1 h 1 (by decide)
        subst e17 e18
        unfold relOp
        clear h
        go_wp2
        exact ⟨Low.refl _, rfl⟩
      intro v19
      refine RelHead2.cons ?_ ?_
      · intro w1 hR h
        have e19 : v19 = (.pointer (some ⟨b, o + k * 32, none⟩) : Value) := allOf_iff.1 h 2 (by decide)
        subst e19
        unfold relOp
        refine wpList_load_mid_sum rfl 29 _ rfl b (o + k * 32) (by kernel_rfl) x 32 _ (range_low hx.out (bthen HB.out (bthen (Low.drew _) hR))) Tryd.underlying29 (by kernel_rfl) HXL.out ?_
        clear h
        go_wp2
        exact ⟨Low.refl _, rfl⟩
      intro v20
      refine RelHead2.cons ?_ ?_
      · intro w1 hR h
        unfold relOp
        go_wp2
        exact ⟨Low.refl _, rfl⟩
      intro v21
      refine RelHead2.cons ?_ ?_
      · intro w1 hR h
        unfold relOp
        go_wp2
        exact ⟨Low.refl _, rfl⟩
      intro v22
      refine RelHead2.cons ?_ ?_
      · intro w1 hR h
        have e21 : v21 = (.slice (some ⟨b2, o2, none⟩) n c' : Value) := allOf_iff.1 h 4 (by decide)
        have e22 : v22 = (.int .i64 k : Value) := allOf_iff.1 h 5 (by decide)
        subst e21 e22
        unfold relOp
        clear h
        go_wp2
        exact ⟨Low.refl _, rfl⟩
      intro v23
      refine RelHead2.cons ?_ ?_
      · intro w1 hR h
        have e23 : v23 = (.pointer (some ⟨b2, o2 + k * 32, none⟩) : Value) := allOf_iff.1 h 6 (by decide)
        subst e23
        unfold relOp
        refine wpList_load_mid_sum rfl 29 _ rfl b2 (o2 + k * 32) (by kernel_rfl) x 32 _ (range_low hx2.out (bthen HB.out (bthen (Low.drew _) hR))) Tryd.underlying29 (by kernel_rfl) HXL.out ?_
        clear h
        go_wp2
        exact ⟨Low.refl _, rfl⟩
      intro v24
      refine RelHead2.nil fun w1 hR h => ?_
      have e20 : v20 = sumV x := allOf_iff.1 h 3 (by decide)
      have e24 : v24 = sumV x := allOf_iff.1 h 7 (by decide)
      subst e20 e24
      have hne := neq_sumV x x w1 HXL.out HXL.out
      have hbq : (!(x == x)) = false := by rw [beq_self_eq_true]; rfl
      rw [hbq] at hne
      have HB1 := Lib.hid (bthen HB.out (bthen (Low.drew _) hR))
      clear h hR hbq
      go_wp2
      go_roundw
      case rel => exact ⟨k + 1, by omega, by go_num, HB1.out⟩
      case measure => simp [intOf]; omega
    · obtain rfl : k = n := by omega
      go_wp2
      go_ret
      exact ⟨rfl, HB.out⟩
end Go.Proofs.YtpdhgijeanbmcaaDoor
