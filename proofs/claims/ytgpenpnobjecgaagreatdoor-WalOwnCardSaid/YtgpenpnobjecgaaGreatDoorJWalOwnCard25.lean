/- wal.generations: the walk. -/
import Derived.Test.YtgpenpnobjecgaaGreatDoorJWalOwnCard23
import Derived.Test.YtgpenpnobjecgaaGreatDoorJWalOwnCard24
/- WGens -/
namespace Go.Proofs.YtgpenpnobjecgaaGreatDoor
set_option maxRecDepth 100000
open Go.RowKit Dk

theorem below_bytesWorld (w : World) (e : TypeId) (s : ByteArray) : Below w.heap.size w (Lib.bytesWorld w e s) := by
  refine ⟨?_, ?_, ?_, by rw [Lib.bytesWorld_size]; omega, fun j hj => Lib.bytesWorld_at_old w e s j hj⟩ <;>
  · unfold Lib.bytesWorld World.freeze
    simp
    try rfl
/-- strconv.Atoi. -/
def atoiW (s : Bs) : Option Int := match Lib.atoiAll s with
  | .ok v => some v
  | _ => none
theorem atoi_any (s : Bs) (hs : s.length ≤ 70368744177664) (w : World) (hT : Tabs6 w) :
    Calls Tryz.prog 96 #[strV s] w fun e w' => Below w.heap.size w w' ∧ match atoiW s with
      | some v => e = .returned (.tuple #[.int .i64 v, .nilIface])
      | none => ∃ z N T, e = .returned (.tuple #[.int .i64 z, .iface T (.pointer (some ⟨N, 0, none⟩))]) := by
  have hsz : (⟨s.toArray⟩ : ByteArray).size = s.length := by simp [ByteArray.size]
  rcases h : Lib.atoiAll s with v | _ | _
  · have h1 : atoiW s = some v := by unfold atoiW; rw [h]
    rw [h1]
    refine (Tryz.strconv_Atoi_ok ⟨s.toArray⟩ (by rw [hsz]; omega) v (by simpa using h) w).mono ?_
    rintro e w' ⟨rfl, h2⟩
    refine ⟨?_, rfl⟩
    rcases h2 with rfl | ⟨t, rfl⟩
    · exact Below.refl _ _
    · exact below_bytesWorld _ _ _
  · have h1 : atoiW s = none := by unfold atoiW; rw [h]
    rw [h1]
    obtain ⟨tp, p, hv⟩ := hT.syn
    refine (Tryz.strconv_Atoi_syntax_var ⟨s.toArray⟩ (by rw [hsz]; omega) (by simp only; rw [h]; rfl) tp p w hv).mono ?_
    rintro e w' ⟨N, rfl, _, _, h2⟩
    exact ⟨h2, _, N, _, rfl⟩
  · have h1 : atoiW s = none := by unfold atoiW; rw [h]
    rw [h1]
    obtain ⟨tp, p, hv⟩ := hT.rng
    refine (Tryz.strconv_Atoi_range_var ⟨s.toArray⟩ (by rw [hsz]; omega) (by simpa using h) tp p w hv).mono ?_
    rintro e w' ⟨N, rfl, _, _, h2⟩
    exact ⟨h2, _, N, _, rfl⟩
def preW : Bs := [119, 97, 108, 45]
def cutW (s : Bs) : Bs := Lib.trimPrefix s preW
/-- The generation whose name it is. -/
def genOf (s : Bs) : Option Nat :=
  if Lib.hasPrefix s preW = true then
    match atoiW (cutW s) with
    | some v => if 1 ≤ v ∧ v ≤ 1099511627776 ∧ nameW v.toNat = s then some v.toNat else none
    | none => none
  else none
def intV (x : Int) : Value := .int .i64 x
def gensW (l : List Bs) : List Nat := (l.filterMap genOf).mergeSort
/-- New numbers. -/
def RetInts (w : World) (l : List Int) (e : Ending) (w' : World) : Prop := ∃ B C, e = .returned (.slice B l.length C) ∧ IntsAt w' B l.length C l ∧ (∀ ad, B = some ad → w.heap.size ≤ ad.block) ∧ Below w.heap.size w w'
theorem below_putRow {α : Type} [Inhabited α] (enc : α → Value) (w : World) (n b off : Nat) (d : Array α) (os : Array Obj) : Kept (fun k => k = b) w (Sort.grow (Sort.putRow enc (Sort.ahead w n) b off d) os) :=
  ⟨rfl, rfl, rfl, by simp [Sort.grow, Sort.putRow, Sort.mapBlock, Sort.ahead], fun k hk hb => by
    show ((w.heap.modify b _) ++ os)[k]? = _
    rw [Array.getElem?_append_left (by simpa using hk), Array.getElem?_modify, if_neg (Ne.symm hb)]⟩
set_option maxRecDepth 100000 in
/-- sort.Ints of a slice of one's own. -/
theorem sortints_any (l : List Int) (hl : l.length < 4611686018427387904) (hr : ∀ x ∈ l, -9223372036854775808 ≤ x ∧ x ≤ 9223372036854775807) (w : World) (B : Option Addr) (D : Nat) (blk : Option Nat) (H : OwnR w 3 1 B l.length D (l.map intV) blk) :
    Calls Tryz.prog 97 #[.slice B l.length D] w fun e w' => e = .returned (.tuple #[]) ∧ IntsAt w' B l.length D (l.mergeSort fun x y => decide (x ≤ y)) ∧ Kept (fun b => blk = some b) w w' := by
  by_cases h0 : l.length = 0
  · obtain rfl : l = [] := List.eq_nil_of_length_eq_zero h0
    refine (Tryz.sort_Ints_none B D w).mono ?_
    rintro e w' ⟨rfl, rfl⟩
    exact ⟨rfl, ⟨by simp, H.cap.1, H.nilcap, H.plain, fun i x h => by simp at h⟩, .refl _ _⟩
  · rcases H.form with ⟨_, h1, _⟩ | ⟨g, cur, rfl, rfl, hg, h1, h2, h3, h4⟩
    · exact absurd h1 h0
    · have hcell : ∀ j, j < l.length → cur[j]? = some (intV (l[j]!)) := fun j hj => by
        have : (l.map intV)[j]? = some (intV (l[j]!)) := by simp [hj]
        rw [← h4, List.getElem?_take, if_pos (by omega)] at this
        simpa using this
      have hH : Sort.Holds (Value.int .i64) w g 0 l.toArray := fun j hj => by
        have hj' : j < l.length := by simpa using hj
        refine ⟨?_, frozen_row hg _⟩
        rw [cell_of_row _ _ _ _ _ _ hg, Nat.zero_add, hcell j hj']
        simp [intV, hj']
      refine (Tryz.sort_Ints g 0 D l w hH (in_heap hg) hl).mono ?_
      rintro e w' ⟨rfl, n, os, rfl⟩
      have hk := below_putRow (Value.int .i64) w n g 0 (l.mergeSort fun x y => decide (x ≤ y)).toArray os
      have hlen : (l.mergeSort fun x y => decide (x ≤ y)).length = l.length := List.length_mergeSort _
      refine ⟨rfl, ⟨hlen.symm, h1, (fun e => by cases e), fun ad had => ⟨g, 0, (Option.some.inj had).symm, Nat.lt_of_lt_of_le (in_heap hg) hk.size⟩, fun i x hx => ⟨g, 0, rfl, ?_, ?_⟩⟩, hk.mono fun b _ e => by rw [e]⟩
      · have hi : i < (l.mergeSort fun x y => decide (x ≤ y)).toArray.size := by have := (List.getElem?_eq_some_iff.1 hx).1; simpa using this
        have hc := Sort.cell?_putRow (Value.int .i64) (Sort.ahead w n) g 0 l.toArray (l.mergeSort fun x y => decide (x ≤ y)).toArray hH (by simp) i hi
        rw [show (0 : Nat) + i = i by omega] at hc ⊢
        have hx2 : (l.mergeSort fun x y => decide (x ≤ y)).toArray[i]! = x := by
          have := (List.getElem?_eq_some_iff.1 hx)
          obtain ⟨h5, h6⟩ := this
          rw [getElem!_pos _ i hi]
          simpa using h6
        rw [hx2] at hc
        rw [← hc]
        have hlt : g < (Sort.putRow (Value.int .i64) (Sort.ahead w n) g 0 (l.mergeSort fun x y => decide (x ≤ y)).toArray).heap.size := by
          simp [Sort.putRow, Sort.mapBlock, Sort.ahead]; exact in_heap hg
        exact World.cell?_of_block (by simp [Sort.grow, Array.getElem?_append_left hlt])
      · exact hr x ((List.mergeSort_perm l _).mem_iff.1 (List.mem_of_getElem? hx))
end Go.Proofs.YtgpenpnobjecgaaGreatDoor

/- WGen2 -/
namespace Go.Proofs.YtgpenpnobjecgaaGreatDoor
set_option maxRecDepth 100000
open Go.RowKit Dk

theorem cutprefix_any (s : Bs) (w : World) : Calls Tryz.prog 95 #[strV s, strV preW] w fun e w' => e = .returned (.tuple #[strV (cutW s), .bool (Lib.hasPrefix s preW)]) ∧ w = w' :=
  (Tryz.strings_CutPrefix ⟨s.toArray⟩ ⟨preW.toArray⟩ w).mono fun e w' h => ⟨by simpa [strV, cutW] using h.1, h.2.symm⟩
theorem cutW_len (s : Bs) : (cutW s).length ≤ s.length := by
  unfold cutW Lib.trimPrefix
  split
  · simp
  · exact Nat.le_refl _
theorem eql_strV (w : World) (t : TypeId) (a b : Bs) : (binOp .eql t (strV a) (strV b)).run Tryz.prog w = .ok (.bool (a == b)) w := by
  unfold strV
  simp [go_sem]
theorem eql_strV_same (w : World) (t : TypeId) (a : Bs) : (binOp .eql t (strV a) (strV a)).run Tryz.prog w = .ok (.bool true) w := by
  rw [eql_strV]; simp
theorem eql_strV_ne (w : World) (t : TypeId) {a b : Bs} (h : a ≠ b) : (binOp .eql t (strV a) (strV b)).run Tryz.prog w = .ok (.bool false) w := by
  rw [eql_strV]; simp [h]
set_option maxRecDepth 100000 in
set_option maxHeartbeats 1000000 in
theorem wgens_any {w0 w : World} {g : Nat} {d : DiskS} {recs : List Nat} {own : Nat → Option DTag} (hd : DAt w g d recs own) (hO : Ok d) (hH : Home w0 w (foot own)) (hn : (Dk.list d).length ≤ 16777216) (hs : ∀ s ∈ Dk.list d, s.length ≤ 32) :
    Calls Tryz.prog 59 #[ptrV g] w (RetInts w ((gensW (Dk.list d)).map Int.ofNat)) := by
  have hl := Lib.hid (list_any hd hO)
  have HT := Lib.hid hH.tab
  obtain ⟨l, hll⟩ : ∃ l, l = Dk.list d := ⟨_, rfl⟩
  rw [← hll] at hl hn hs ⊢
  have HS := Lib.hid hs
  clear hd hO hH hll hs
  unfold ptrV at *
  go_enter Tryz.func59, Tryz.ntmps59
  go_wp2_with fail
  go_at_call 94
  refine hl.out.mono ?_
  rintro e w1 ⟨B, C, blk, rfl, h1, h2, h3⟩
  have H1 := Lib.hid h1
  have H2 := Lib.hid h2
  have H3 := Lib.hid h3
  clear h1 h2 h3 hl
  go_wp2
  go_loopw [3, 13] (fun sv iv wr => ∃ (i : Nat) (out : List Nat) (A : Option Addr) (D : Nat) (bk : Option Nat), sv = .slice A out.length D ∧ iv = .int .i64 i ∧ Hid (i ≤ l.length ∧ out = (l.take i).filterMap genOf ∧ OwnR wr 3 1 A out.length D ((out.map Int.ofNat).map intV) bk ∧ (∀ b, bk = some b → w1.heap.size ≤ b) ∧ RowKit.Below w1.heap.size w1 wr ∧ out.length ≤ i ∧ (bk = none → A = none))) (fun _ iv _ => l.length - (intOf iv).toNat)
  case atStart => exact ⟨0, [], none, 0, none, rfl, rfl, Lib.hid ⟨Nat.zero_le _, by simp, OwnR.nil _ _ _, (fun b h => by cases h), Below.refl _ _, Nat.le_refl _, fun _ => rfl⟩⟩
  case round =>
    obtain ⟨i, out, A, D, bk, rfl, rfl, hI⟩ := hrel
    by_cases hlt : i < l.length
    · have hi : (i : Int) < l.length := by omega
      obtain ⟨s, hsi⟩ : ∃ s, l[i]? = some s := ⟨_, List.getElem?_eq_getElem hlt⟩
      obtain ⟨b, rfl, hb1, hb2⟩ := (H1.out.below hI.out.2.2.2.2.1).cell (j := i) (v := strV s) (by simp [hsi])
      have hsl := HS.out s (List.mem_of_getElem? hsi)
      have htk : l.take (i + 1) = l.take i ++ [s] := by rw [List.take_add_one, hsi]; rfl
      have hcp := Lib.hid (fun w => cutprefix_any s w)
      have hLT := HT.out.low (bthen H3.out hI.out.2.2.2.2.1)
      have HLT := Lib.hid hLT
      have hgo := Lib.hid (show genOf s = if Lib.hasPrefix s preW = true then (match atoiW (cutW s) with | some v => if 1 ≤ v ∧ v ≤ 1099511627776 ∧ nameW v.toNat = s then some v.toNat else none | none => none) else none from rfl)
      have hkeep : genOf s = none → out = (l.take (i + 1)).filterMap genOf := fun h => by rw [htk, List.filterMap_append, ← hI.out.2.1]; simp [h]
      have hpush : ∀ n, genOf s = some n → out ++ [n] = (l.take (i + 1)).filterMap genOf := fun n h => by rw [htk, List.filterMap_append, ← hI.out.2.1]; simp [h]
      have HK := Lib.hid hkeep
      have HP := Lib.hid hpush
      have hstay : ∀ W, RowKit.Below wr.heap.size wr W → genOf s = none → (∃ (i' : Nat) (out' : List Nat) (A' : Option Addr) (D' : Nat) (bk' : Option Nat), Value.slice A out.length D = .slice A' out'.length D' ∧ Value.int .i64 ((i : Int) + 1) = .int .i64 i' ∧ Hid (i' ≤ l.length ∧ out' = (l.take i').filterMap genOf ∧ OwnR W 3 1 A' out'.length D' ((out'.map Int.ofNat).map intV) bk' ∧ (∀ b, bk' = some b → w1.heap.size ≤ b) ∧ RowKit.Below w1.heap.size w1 W ∧ out'.length ≤ i' ∧ (bk' = none → A' = none))) := fun W hW hnone =>
        ⟨i + 1, out, A, D, bk, rfl, by simp, Lib.hid ⟨by omega, HK.out hnone, hI.out.2.2.1.below hW, hI.out.2.2.2.1, bthen hI.out.2.2.2.2.1 hW, by have := hI.out.2.2.2.2.2.1; omega, hI.out.2.2.2.2.2.2⟩⟩
      have HST := Lib.hid hstay
      have hmeas : l.length - (intOf (Value.int .i64 ((i : Int) + 1))).toNat < l.length - (intOf (Value.int .i64 (i : Int))).toNat := by simp [intOf]; omega
      have HME := Lib.hid hmeas
      clear hsi htk hLT hkeep hpush hb1 hstay hmeas
      go_wp2_with fail
      go_at_call 95
      refine (hcp.out wr).mono ?_
      rintro e w2 ⟨rfl, rfl⟩
      obtain ⟨pf, hpf⟩ : ∃ pf, pf = Lib.hasPrefix s preW := ⟨_, rfl⟩
      rw [← hpf] at hgo ⊢
      clear hpf
      cases pf with
      | false =>
        have hno := Lib.hid (show genOf s = none by rw [hgo.out]; rfl)
        go_wp2
        exact ⟨HST.out _ (Below.refl _ _) hno.out, HME.out⟩
      | true =>
        have hcl : (cutW s).length ≤ 32 := Nat.le_trans (cutW_len s) hsl
        generalize hcw : cutW s = t at hgo hcl hcp ⊢
        have hat := Lib.hid (atoi_any t (by omega) wr HLT.out)
        clear hcw hcp
        go_wp2_with fail
        go_at_call 96
        refine hat.out.mono ?_
        intro e w3
        rintro ⟨hb3, h⟩
        have HB3 := Lib.hid hb3
        clear hb3 hat
        cases hav : atoiW t with
        | none =>
          rw [hav] at h hgo
          simp only [] at h hgo
          obtain ⟨z, N, T, rfl⟩ := h
          have hno := Lib.hid (show genOf s = none by rw [hgo.out]; rfl)
          clear hav
          go_wp2
          exact ⟨HST.out _ HB3.out hno.out, HME.out⟩
        | some v =>
          rw [hav] at h hgo
          simp only [] at h hgo
          subst h
          have hgo' := Lib.hid (show genOf s = if 1 ≤ v ∧ v ≤ 1099511627776 ∧ nameW v.toNat = s then some v.toNat else none by rw [hgo.out]; rfl)
          clear hav hgo
          by_cases v1 : 1 ≤ v
          · by_cases v2 : v ≤ 1099511627776
            · obtain ⟨n, rfl⟩ : ∃ n : Nat, v = n := ⟨v.toNat, by omega⟩
              rw [Int.toNat_natCast] at hgo'
              have hnm := Lib.hid (wname_any n (by omega) w3 (HLT.out.low HB3.out))
              generalize hnn : nameW n = nm at hnm hgo'
              have hgo2 := Lib.hid (show genOf s = if nm = s then some n else none by
                rw [hgo'.out]
                by_cases h : nm = s
                · rw [if_pos ⟨v1, v2, h⟩, if_pos h]
                · rw [if_neg (fun h2 => h h2.2.2), if_neg h])
              clear hnn hgo'
              by_cases he : nm = s
              · subst he
                have hyes := Lib.hid (show genOf nm = some n by rw [hgo2.out, if_pos rfl])
                have heq : ∀ w : World, (binOp .eql 9 (strV nm) (strV nm)).run Tryz.prog w = .ok (.bool true) w := fun w => eql_strV_same w _ nm
                have z1 : out.length + 1 ≤ maxLen := by have := hI.out.2.2.2.2.2.1; unfold maxLen; omega
                have z2 : (out.length + 1) * 8 ≤ 140737488355328 := by have := hI.out.2.2.2.2.2.1; omega
                clear hgo2
                go_wp2_with fail
                go_at_call 64
                refine hnm.out.mono ?_
                rintro e w4 ⟨rfl, hb4⟩
                have HB4 := Lib.hid (bthen HB3.out hb4)
                clear hb4 hnm
                go_wp2
                rename_i hK
                refine hK _ _ ?_
                simp only [Act.put, List.setIfInBounds_toArray, List.set_cons_succ, List.set_cons_zero]
                go_wp2_with (at_builtin; refine wpList_app rfl _ _ 54 rfl 3 1 8 (.int .i64 0) Tryz.underlying54 (by kernel_rfl) rfl (by decide) A out.length D _ bk rfl (hI.out.2.2.1.below (bthen HB4.out (low1 _ _))) (some ⟨w4.heap.size, 0, none⟩) 1 1 [intV n] rfl rfl (CellsAt.of_block (blk1 _ _)) (fun h => by cases h) (fun ad h => ⟨_, _, (Option.some.inj h).symm⟩) (by simp [intV, Value.oneCell']) z1 z2 ?_; intro B8 D8 w8 b8 h1 h2 h3; have H81 := Lib.hid h1; have H82 := Lib.hid h2; have H83 := Lib.hid h3; clear h1 h2 h3)
                have hn9 : out.map Int.ofNat ++ [(n : Int)] = (out ++ [n]).map Int.ofNat := by simp
                have hrow : OwnR w8 3 1 B8 (out ++ [n]).length D8 (((out ++ [n]).map Int.ofNat).map intV) b8 := by
                  rw [List.length_append, List.length_singleton, ← hn9, List.map_append]
                  exact H81.out
                have hlow := bthen hI.out.2.2.2.2.1 (bthen HB4.out (low1 w4 (.cells #[intV n] 3)))
                exact ⟨⟨i + 1, out ++ [n], B8, D8, b8, by simp, by simp, Lib.hid ⟨by omega, HP.out n hyes.out, hrow, fun b hb => by
                  rcases H83.out with h | h
                  · exact hI.out.2.2.2.1 b (h ▸ hb)
                  · rw [h] at hb; rw [← Option.some.inj hb]; exact hlow.size, hlow.grown H82.out hlow.size (fun b hb => hI.out.2.2.2.1 b hb), by have := hI.out.2.2.2.2.2.1; simp; omega, fun e => by
                  rcases hrow.form with ⟨_, h0, _⟩ | ⟨g2, _, _, h2, _⟩
                  · simp at h0
                  · rw [e] at h2; cases h2⟩⟩, HME.out⟩
              · have hno := Lib.hid (show genOf s = none by rw [hgo2.out, if_neg he])
                have heq : ∀ w : World, (binOp .eql 9 (strV nm) (strV s)).run Tryz.prog w = .ok (.bool false) w := fun w => eql_strV_ne w _ he
                clear he hgo2
                go_wp2_with fail
                go_at_call 64
                refine hnm.out.mono ?_
                rintro e w4 ⟨rfl, hb4⟩
                have HB4 := Lib.hid (bthen HB3.out hb4)
                clear hb4 hnm
                go_wp2
                rename_i hK
                refine hK _ _ ?_
                simp only [Act.put, List.setIfInBounds_toArray, List.set_cons_succ, List.set_cons_zero]
                go_wp2
                exact ⟨HST.out _ HB4.out hno.out, HME.out⟩
            · have hno := Lib.hid (show genOf s = none by rw [hgo'.out, if_neg (fun h => v2 h.2.1)])
              have v2' : decide (v ≤ 1099511627776) = false := by simpa using v2
              clear v2
              go_wp2
              exact ⟨HST.out _ HB3.out hno.out, HME.out⟩
          · have hno := Lib.hid (show genOf s = none by rw [hgo'.out, if_neg (fun h => v1 h.1)])
            have v1' : decide (1 ≤ v) = false := by simpa using v1
            go_wp2
            exact ⟨HST.out _ HB3.out hno.out, HME.out⟩
    · obtain rfl : i = l.length := by have := hI.out.1; omega
      have hi : ¬ (l.length : Int) < (l.length : Int) := by omega
      have hout := hI.out.2.1
      rw [List.take_length] at hout
      have hso := sortints_any (out.map Int.ofNat) (by have := hI.out.2.2.2.2.2.1; simp; omega) (fun x hx => by
        obtain ⟨n, hn2, rfl⟩ := List.mem_map.1 hx
        rw [hout] at hn2
        obtain ⟨s, _, hg⟩ := List.mem_filterMap.1 hn2
        have : n ≤ 1099511627776 := by
          unfold genOf at hg
          split at hg
          · split at hg
            · split at hg
              · next h => injection hg with hg; omega
              · cases hg
            · cases hg
          · cases hg
        show -9223372036854775808 ≤ (n : Int) ∧ (n : Int) ≤ 9223372036854775807
        omega) wr A D bk (by rw [List.length_map]; exact hI.out.2.2.1)
      rw [List.length_map] at hso
      have HSO := Lib.hid hso
      have Hout := Lib.hid hout
      clear hout hso
      go_wp2_with fail
      go_at_call 97
      refine HSO.out.mono ?_
      rintro e w9 ⟨rfl, h1, h2⟩
      have H91 := Lib.hid h1
      have H92 := Lib.hid h2
      clear h1 h2
      go_wp2
      go_ret
      have hg : (gensW l).map Int.ofNat = (out.map Int.ofNat).mergeSort fun x y => decide (x ≤ y) := by
        unfold gensW
        rw [← Hout.out]
        refine (List.map_mergeSort (fun a _ b _ => ?_))
        simp
      have hlen : ((gensW l).map Int.ofNat).length = out.length := by rw [hg, List.length_mergeSort, List.length_map]
      refine ⟨A, D, by rw [hlen]; rfl, by rw [hlen, hg]; exact H91.out, fun ad had => ?_, ?_⟩
      · rcases hI.out.2.2.1.form with ⟨h0, _⟩ | ⟨g2, _, h1, h2, _⟩
        · rw [hI.out.2.2.2.2.2.2 h0] at had; cases had
        · rw [h1] at had
          rw [← Option.some.inj had]
          exact Nat.le_trans H3.out.size (hI.out.2.2.2.1 g2 h2)
      · exact bthen H3.out ((((Kept.of_below (F := fun b => bk = some b) hI.out.2.2.2.2.1).then H92.out)).below fun b hb e => by have := hI.out.2.2.2.1 b e; omega)
end Go.Proofs.YtgpenpnobjecgaaGreatDoor
