/- The law's own 'num', 'few' and 'leaves'. -/
import Derived.Test.YtpdhgijeanbmcaaDoorTree3
import Derived.Test.YtpdhgijeanbmcaaDoorRMac
namespace Go.Proofs.YtpdhgijeanbmcaaDoor
open Go.RowKit Go.Great

set_option maxRecDepth 100000 in
theorem num_any (k : Int) (w : World) : Calls Tryd.prog 13 #[.int .i64 k] w fun e w' => e = .returned (.int .i64 k) ∧ w = w' := by
  go_enter Tryd.func13, Tryd.ntmps13
  go_wp2
  go_ret
  exact ⟨rfl, rfl⟩

/-- A slice of strings that may be read. -/
structure Strs (w : World) (a : Option Addr) (n : Nat) (ts : List (List UInt8)) : Prop where
  len : n = ts.length
  at_ : 0 < n → ∃ b o, a = some ⟨b, o, none⟩ ∧ ∀ k (hk : k < ts.length), w.cell? ⟨b, o + k, none⟩ = some (.string ⟨ts[k].toArray⟩)
theorem Strs.below {w w' : World} {a : Option Addr} {n : Nat} {ts : List (List UInt8)} (h : Strs w a n ts) (hb : Below w.heap.size w w') : Strs w' a n ts :=
  ⟨h.len, fun h0 => by
    obtain ⟨b, o, e, hc⟩ := h.at_ h0
    exact ⟨b, o, e, fun k hk => (hb.cell (p := ⟨b, o + k, none⟩) (World.block_lt_of_cell? w _ (hc k hk))).trans (hc k hk)⟩⟩
theorem txt_of_string (W : World) (l : List UInt8) (c : Nat) (t : TypeId) (fr : Nat × Nat) (hc : l.length ≤ c) : Txt (W.alloc (.cells (bytesRow ⟨l.toArray⟩ c) t fr)).drew (some ⟨W.heap.size, 0, none⟩) l.length c l := by
  have hb : (W.alloc (.cells (bytesRow ⟨l.toArray⟩ c) t fr)).drew.heap[W.heap.size]? = some (.cells (bytesRow ⟨l.toArray⟩ c) t fr) := at_new _ _ rfl
  refine ⟨rfl, ⟨fun h0 => ⟨W.heap.size, 0, rfl, fun j hj => ?_⟩⟩, hc, (fun h => by cases h), fun ad had => ⟨W.heap.size, 0, (Option.some.inj had).symm, in_heap hb⟩⟩
  rw [Nat.zero_add, cell_block hb (bytesRow_at ⟨l.toArray⟩ c j (by simpa using hj))]
  simp [byteF, V8, List.getD, hj]

set_option maxRecDepth 100000 in
set_option maxHeartbeats 400000 in
theorem leaves_any (ts : List (List UInt8)) (a : Option Addr) (n c : Nat) (w : World) (hT : Tabs w) (S : Strs w a n ts) (hn : n ≤ 1000) (hs : ∀ t ∈ ts, t.length < 1099511627776) :
    Calls Tryd.prog 16 #[.slice a n c] w (RetS w (ts.map Tree.leaf)) := by
  obtain ⟨z0, hz0, hinfo⟩ := info_sum'
  have HI := Lib.hid hinfo
  have HZ0 := Lib.hid hz0
  have HS := Lib.hid S
  have hl := S.len
  have Hl := Lib.hid hl
  have Hs := Lib.hid hs
  clear hinfo hz0 S hl hs
  go_enter Tryd.func16, Tryd.ntmps16
  go_wp2
  go_loopw [3, 4] (fun v i wr => ∃ k B C, k ≤ n ∧ i = .int .i64 (k : Nat) ∧ v = .slice B k C ∧ Acc 29 32 w wr w.heap.size B C k (sumCells ((ts.take k).map Tree.leaf))) (fun _ i _ => n - (intOf i).toNat)
  case atStart => exact ⟨0, none, 0, by omega, rfl, rfl, Acc.start _ _ _ _ _ (Below.refl _ _) (Nat.le_refl _)⟩
  case round =>
    obtain ⟨k, B, C, hk, rfl, rfl, hA⟩ := hrel
    have HA := Lib.hid hA
    clear hA
    by_cases hlt : k < n
    · have hki : (k : Int) < (n : Int) := by omega
      have hki0 : (0 : Int) ≤ (k : Int) := by omega
      have hk' : k < ts.length := by have := Hl.out; omega
      obtain ⟨b, o, ha, hc⟩ := (HS.out.below HA.out.low).at_ (by omega)
      subst ha
      have c0 := hc k hk'
      have htl := Hs.out ts[k] (by simp)
      have hnx : (ts.take (k + 1)).map Tree.leaf = (ts.take k).map Tree.leaf ++ [Tree.leaf ts[k]] := by rw [List.take_succ_eq_append_getElem hk', List.map_append]; rfl
      obtain ⟨l, hl⟩ : ∃ l, l = ts[k] := ⟨_, rfl⟩
      rw [← hl] at c0 htl hnx
      obtain ⟨s, hse⟩ : ∃ s, s = Tree.leaf l := ⟨_, rfl⟩
      have hsl : s.length = 32 := by rw [hse]; rfl
      rw [← hse] at hnx
      have hrl := Lib.hid (show ∀ (W : World) (ad : Option Addr) (m c : Nat), Tabs W → Txt W ad m c l → Calls Tryd.prog 40 #[.slice ad m c] W (RetSum W s) from fun W ad m c hT S => by rw [hse]; exact rleaf_any l ad m c W hT S (by omega))
      have Hsl := Lib.hid hsl
      have Hse := Lib.hid hse
      have Hnx := Lib.hid hnx
      have Htl := Lib.hid htl
      have z1 : k + 1 ≤ maxLen := by unfold maxLen; omega
      have z2 : (k + 1) * 32 ≤ 140737488355328 := by omega
      have hcv : ∀ W : World, (convert 9 22 (.string ⟨l.toArray⟩)).run Tryd.prog W = .ok (.slice (some ⟨W.heap.size, 0, none⟩) l.length (grownCap W l.length 0 5)) (W.drew.alloc (.cells (bytesRow ⟨l.toArray⟩ (grownCap W l.length 0 5)) 5 ((bytesRow ⟨l.toArray⟩ (grownCap W l.length 0 5)).size, (bytesRow ⟨l.toArray⟩ (grownCap W l.length 0 5)).size + 1))) := fun W => run_bytes_of_string W 9 22 5 ⟨l.toArray⟩ Tryd.underlying9 Tryd.underlying22 Tryd.underlying5
      have HG := Lib.hid (grownCap_ge wr l.length 0 5)
      clear hc hl hnx hsl hse htl
      go_wp2_with (first | (go_at_call 40; refine (hrl.out _ _ _ _ (hT.below (bthen HA.out.low (low1 _ _).drew)) (txt_of_string wr l _ _ _ HG.out)).mono ?_; rintro e w2 ⟨rfl, hB⟩; have HB := Lib.hid (bthen (low1 _ _).drew hB); clear hB) | (refine wpList_build_sum rfl _ rfl s rfl Hsl.out ?_) | (at_builtin; refine wpList_acc rfl _ _ 31 rfl 29 32 32 z0 Tryd.underlying31 HI.out HZ0.out (by decide) w w.heap.size B C k _ rfl ((HA.out.below HB.out).alloc _) (some ⟨w2.heap.size, 0, none⟩) 1 1 (s.map V8) rfl (by simp [Hsl.out]) (box_bytes (blk1 _ _)).cells (fun h => by cases h) (fun ad h => ⟨_, _, (Option.some.inj h).symm⟩) (ones' s) z1 z2 ?_; intro B2 D2 w3 hacc hg hnew; rw [← sumCells_one s, ← sumCells_append, ← Hnx.out] at hacc; have HA3 := Lib.hid hacc; clear hacc hg hnew))
      go_roundw
      case rel => exact ⟨k + 1, B2, D2, by omega, by go_num, rfl, HA3.out⟩
      case measure => simp [intOf]; omega
    · obtain rfl : k = n := by omega
      go_wp2
      go_ret
      exact RetS.of HA.out (by rw [Hl.out]; simp) (by rw [Hl.out, List.take_length])
end Go.Proofs.YtpdhgijeanbmcaaDoor
