/- The hash that is being made: what New, Write, bytes, eight, Sum of package digest do to memory. -/
import Derived.Test.YtpdhgijeanbmcaaDoorSums
import Derived.Test.YtpdhgijeanbmcaaDoorShb
import Derived.Deep.RegionHeld3
import Derived.Deep.RegionWith
namespace Go.Proofs.YtpdhgijeanbmcaaDoor
open Go.RowKit

/-- The cells of a Hash: the register, the rest's 64 bytes, how many were taken. -/
def hashCells (r : Sha.Reg) (rest : List UInt8) (n : Nat) : Array Value := (r.list.map V32 ++ rest.map V8 ++ [Value.int .u64 (n : Int)]).toArray

set_option maxRecDepth 100000 in
set_option maxHeartbeats 1000000 in
theorem newHash_any (w : World) (hF : ∀ j, j < 8 → w.cell? ⟨0, j, none⟩ = some (regF Sha.init j)) :
    Calls Tryd.prog 62 #[] w fun e w' => e = .returned (.pointer (some ⟨w.heap.size, 0, none⟩)) ∧ w' = w.alloc (.cells (hashCells Sha.init (List.replicate 64 0) 0) 94) := by
  have r0 := hF 0 (by omega)
  have r1 := hF 1 (by omega)
  have r2 := hF 2 (by omega)
  have r3 := hF 3 (by omega)
  have r4 := hF 4 (by omega)
  have r5 := hF 5 (by omega)
  have r6 := hF 6 (by omega)
  have r7 := hF 7 (by omega)
  clear hF
  go_enter Tryd.func62, Tryd.ntmps62
  go_wp2
  refine bodyPost_ret (results_tmp rfl _ _ _) rfl ⟨rfl, ?_⟩
  rfl

theorem eight_get (n j : Nat) (h : j < 8) : (Sha.eight n).getD j 0 = UInt8.ofNat (n / 2 ^ (8 * (7 - j))) := by
  simp [Sha.eight, List.getD, h]
def Eight (w : World) (n : Nat) (i : Value) (wr : World) : Prop :=
  ∃ k : Nat, k ≤ 8 ∧ i = .int .i64 k ∧ Arr wr w.heap.size 8 (fun j => if j < k then byteF (Sha.eight n) j else V8 0) ∧ Below w.heap.size w wr

set_option maxRecDepth 100000 in
set_option maxHeartbeats 1000000 in
theorem eight_any (n : Nat) (w : World) :
    Calls Tryd.prog 71 #[.int .u64 n] w fun e w' => e = .returned (.slice (some ⟨w.heap.size, 0, none⟩) 8 8) ∧ Arr w' w.heap.size 8 (byteF (Sha.eight n)) ∧ Below w.heap.size w w' := by
  have hmk : ∀ w : World, (Instr.makeSlice 22 (.int .i64 8) (.int .i64 8)).run Tryd.prog w = .ok (.slice (some ⟨w.heap.size, 0, none⟩) 8 8) (w.alloc (.cells #[V8 0, V8 0, V8 0, V8 0, V8 0, V8 0, V8 0, V8 0] 5)) := fun _ => by kernel_rfl
  go_enter Tryd.func71, Tryd.ntmps71
  go_wp2
  go_loopw [4, 8] (fun _ i wr => Eight w n i wr) (fun _ i _ => 8 - (intOf i).toNat)
  case atStart =>
    refine ⟨0, by omega, rfl, arr_new rfl fun j hj => ?_, (Below.refl _ _).alloc (by simp) _⟩
    have : j = 0 ∨ j = 1 ∨ j = 2 ∨ j = 3 ∨ j = 4 ∨ j = 5 ∨ j = 6 ∨ j = 7 := by omega
    rcases this with rfl | rfl | rfl | rfl | rfl | rfl | rfl | rfl <;> rfl
  case round =>
    obtain ⟨k, hk, rfl, A, B⟩ := hrel
    by_cases hlt : k < 8
    · have d0 := A.cell k (by omega)
      have d1 := A.frozen k
      have hi0 : (0 : Int) ≤ (k : Int) := by omega
      have hi1 : (k : Int) < 8 := by omega
      have a1 := Lib.hid A
      clear A
      go_wp2
      go_roundw
      case rel =>
        rw [show Value.int .u8 ((n : Int) / 2 ^ (8 * (7 - k)) % 256) = byteF (Sha.eight n) k from by rw [byteF, eight_get n k hlt, V8_ofNat]; push_cast; rfl]
        refine ⟨k + 1, by omega, by go_num, (a1.out.set k _ (by omega)).ext fun j hj => ?_, B.setCell (by simp) _⟩
        by_cases e : j = k
        · subst e; simp
        · rw [if_neg e]
          by_cases e2 : j < k
          · rw [if_pos e2, if_pos (by omega)]
          · rw [if_neg e2, if_neg (by omega)]
      case measure => simp [intOf]; omega
    · obtain rfl : k = 8 := by omega
      go_wp2
      go_ret
      exact ⟨rfl, A.ext fun j hj => by simp [hj], B⟩

theorem bytes_len (r : Sha.Reg) : (Sha.bytes r).length = 32 := rfl
theorem wbytes_at (r : Sha.Reg) (k : Nat) (h : k < 8) : r.list[k]? = some (r.list.getD k 0) := by
  simp [List.getD, List.getElem?_eq_getElem (show k < r.list.length from h)]
theorem bytes_at (r : Sha.Reg) (k i : Nat) (hk : k < 8) (hi : i < 4) : (Sha.bytes r).getD (4 * k + i) 0 = (Sha.wbytes (r.list.getD k 0)).getD i 0 := by
  have h1 : k = 0 ∨ k = 1 ∨ k = 2 ∨ k = 3 ∨ k = 4 ∨ k = 5 ∨ k = 6 ∨ k = 7 := by omega
  have h2 : i = 0 ∨ i = 1 ∨ i = 2 ∨ i = 3 := by omega
  rcases h1 with rfl | rfl | rfl | rfl | rfl | rfl | rfl | rfl <;> rcases h2 with rfl | rfl | rfl | rfl <;> rfl
theorem bytes4 (r : Sha.Reg) (k : Nat) (hk : k < 8) :
    byteF (Sha.bytes r) (4 * k) = V8 ⟨(r.list[k]?.getD 0#32 >>> 24).setWidth 8⟩ ∧ byteF (Sha.bytes r) (4 * k + 1) = V8 ⟨(r.list[k]?.getD 0#32 >>> 16).setWidth 8⟩ ∧
    byteF (Sha.bytes r) (4 * k + 2) = V8 ⟨(r.list[k]?.getD 0#32 >>> 8).setWidth 8⟩ ∧ byteF (Sha.bytes r) (4 * k + 3) = V8 ⟨(r.list[k]?.getD 0#32).setWidth 8⟩ :=
  ⟨congrArg V8 (bytes_at r k 0 hk (by omega)), congrArg V8 (bytes_at r k 1 hk (by omega)), congrArg V8 (bytes_at r k 2 hk (by omega)), congrArg V8 (bytes_at r k 3 hk (by omega))⟩
theorem index_reg (r : Sha.Reg) (k : Nat) (h : k < 8) (w : World) : (Instr.index 92 (regV r) (.int .i64 (k : Int))).run Tryd.prog w = .ok (V32 (r.list.getD k 0)) w := by
  have h1 : k = 0 ∨ k = 1 ∨ k = 2 ∨ k = 3 ∨ k = 4 ∨ k = 5 ∨ k = 6 ∨ k = 7 := by omega
  rcases h1 with rfl | rfl | rfl | rfl | rfl | rfl | rfl | rfl <;> (refine Eq.trans (b := Result.ok _ w) ?_ rfl; kernel_rfl)

/-- Four stores in a row, from 4 k on. -/
theorem Arr.set4 {w : World} {b : Nat} {l : List UInt8} {k : Nat} (h : Arr w b 32 (fun j => if j < 4 * k then byteF l j else V8 0)) (hk : k < 8) :
    Arr ((((w.setCell ⟨b, 4 * k, none⟩ (byteF l (4 * k))).setCell ⟨b, 4 * k + 1, none⟩ (byteF l (4 * k + 1))).setCell ⟨b, 4 * k + 2, none⟩ (byteF l (4 * k + 2))).setCell ⟨b, 4 * k + 3, none⟩ (byteF l (4 * k + 3))) b 32
      (fun j => if j < 4 * (k + 1) then byteF l j else V8 0) := by
  refine ((((h.set (4 * k) _ (by omega)).set (4 * k + 1) _ (by omega)).set (4 * k + 2) _ (by omega)).set (4 * k + 3) _ (by omega)).ext fun j hj => ?_
  by_cases e3 : j = 4 * k + 3
  · subst e3; simp; omega
  by_cases e2 : j = 4 * k + 2
  · subst e2; simp; omega
  by_cases e1 : j = 4 * k + 1
  · subst e1; simp; omega
  by_cases e0 : j = 4 * k
  · subst e0; simp
  rw [if_neg e3, if_neg e2, if_neg e1, if_neg e0]
  by_cases e : j < 4 * k
  · rw [if_pos e, if_pos (by omega)]
  · rw [if_neg e, if_neg (by omega)]
def Out32 (w : World) (r : Sha.Reg) (i : Value) (wr : World) : Prop :=
  ∃ k : Nat, k ≤ 8 ∧ i = .int .i64 k ∧ Arr wr (w.heap.size + 1 + 1) 32 (fun j => if j < 4 * k then byteF (Sha.bytes r) j else V8 0) ∧ Arr wr (w.heap.size + 1) 32 (fun _ => V8 0) ∧ Below w.heap.size w wr

theorem out32_start (w : World) (r : Sha.Reg) : Out32 w r (.int .i64 0) (((w.alloc (.cells (r.list.map V32).toArray 92)).alloc (.cells (zeros8 32) 29)).alloc (.cells (zeros8 32) 29)) := by
  have e1 : ∀ o, w.heap.size + 1 = (w.alloc o).heap.size := fun o => by simp
  have e2 : ∀ o o', w.heap.size + 1 + 1 = ((w.alloc o).alloc o').heap.size := fun o o' => by simp
  refine ⟨0, by omega, rfl, ?_, ?_, (((Below.refl _ _).alloc (by simp) _).alloc (by simp) _).alloc (by simp; omega) _⟩
  · rw [e2]; exact arr_new (zeros8_size 32) fun j hj => by rw [zeros8_at 32 j hj]; simp
  · rw [e1]; exact arr_old (arr_new (zeros8_size 32) (zeros8_at 32))

set_option maxRecDepth 100000 in
set_option maxHeartbeats 1000000 in
theorem bytes_any (r : Sha.Reg) (w : World) :
    Calls Tryd.prog 72 #[regV r] w fun e w' => e = .returned (sumV (Sha.bytes r)) ∧ Below w.heap.size w w' := by
  go_enter Tryd.func72, Tryd.ntmps72
  go_wp2
  go_loopw [4, 5, 7] (fun _ _ i wr => Out32 w r i wr) (fun _ _ i _ => 8 - (intOf i).toNat)
  case atStart => exact out32_start w r
  case round =>
    obtain ⟨k, hk, rfl, A, A1, B⟩ := hrel
    by_cases hlt : k < 8
    · have x0 := index_reg r k hlt
      have d0 := A.cell (4 * k) (by omega)
      have d1 := A.cell (4 * k + 1) (by omega)
      have d2 := A.cell (4 * k + 2) (by omega)
      have d3 := A.cell (4 * k + 3) (by omega)
      have f0 := A.frozen (4 * k)
      have f1 := A.frozen (4 * k + 1)
      have f2 := A.frozen (4 * k + 2)
      have f3 := A.frozen (4 * k + 3)
      have n0 : (4 * (k : Int)).toNat = 4 * k := by omega
      have n1 : (4 * (k : Int) + 1).toNat = 4 * k + 1 := by omega
      have n2 : (4 * (k : Int) + 2).toNat = 4 * k + 2 := by omega
      have n3 : (4 * (k : Int) + 3).toNat = 4 * k + 3 := by omega
      have a := Lib.hid A
      have a1 := Lib.hid A1
      clear A A1
      go_wp2
      go_roundw
      case rel =>
        obtain ⟨e0, e1, e2, e3⟩ := bytes4 r k hlt
        rw [← e0, ← e1, ← e2, ← e3]
        exact ⟨k + 1, by omega, by go_num, a.out.set4 hlt, (((a1.out.other _ _ (by simp)).other _ _ (by simp)).other _ _ (by simp)).other _ _ (by simp), (((B.setCell (by simp; omega) _).setCell (by simp; omega) _).setCell (by simp; omega) _).setCell (by simp; omega) _⟩
      case measure => simp [intOf]; omega
    · obtain rfl : k = 8 := by omega
      obtain ⟨t, ht⟩ := (A.ext (g := byteF (Sha.bytes r)) fun j hj => by simp [hj]).sum (bytes_len r)
      obtain ⟨old, t', ho, hos, _⟩ := A1
      have ht' := Lib.hid ht
      have ho' := Lib.hid ho
      have hos' := Lib.hid hos
      clear ht ho hos A
      go_wp2_with (refine wpList_load_sum rfl 29 _ rfl (w.heap.size + 1 + 1) rfl t (Sha.bytes r) 32 (0, 0) _ ht'.out Tryd.underlying29 (by kernel_rfl) rfl ?_ ; refine wpList_store_sum rfl 29 _ _ rfl (w.heap.size + 1) (Sha.bytes r) 32 rfl rfl t' old ho'.out (by kernel_rfl) rfl hos'.out ?_)

      refine bodyPost_ret (results_sum rfl _ _ (w.heap.size + 1) t' (Sha.bytes r) 32 (0, 0) _ rfl (setRow_heap _ _ _ _ _ _ ho'.out) Tryd.underlying29 (by kernel_rfl) rfl) rfl ⟨rfl, ?_⟩
      exact below_setRow B (by omega) _
end Go.Proofs.YtpdhgijeanbmcaaDoor
