/- Single operations of drawn regions in the laws of the log. -/
import Derived.BigQuiet
import Derived.Test.YtgpenpnobjecgaaGreatDoorJWalOwnCard5
import Derived.Test.YtgpenpnobjecgaaGreatDoorJWalOwnCard13
import Derived.Test.YtgpenpnobjecgaaGreatDoorJWalOwnCard14
import Derived.Test.YtgpenpnobjecgaaGreatDoorJWalOwnCard15
import Derived.Test.YtgpenpnobjecgaaGreatDoorJWalOwnCard25
import Derived.Test.YtgpenpnobjecgaaGreatDoorJWalOwnCard29
import Derived.Test.YtgpenpnobjecgaaGreatDoorJWalOwnCard40
import Derived.Test.YtgpenpnobjecgaaGreatDoorJWalOwnCard41
/- LawCuts0 -/
namespace Go.Proofs.YtgpenpnobjecgaaGreatDoor
set_option maxRecDepth 100000
open Go.RowKit Dk

/-- The law's argument. -/
def tornV (n torn : Int) (A B R : Option Addr) (a b r C D K : Nat) : Value := .agg #[.int .i64 n, .slice A a C, .slice R r K, .slice B b D, .int .i64 torn]
set_option maxRecDepth 100000 in
set_option maxHeartbeats 4000000 in
theorem cuts_past {n torn : Int} {a b r : Nat} {A B R : Option Addr} {C D K : Nat} {w : World} (hT : Tabs6 w) (hb : n < 1 ∨ 1099511627776 ≤ n ∨ 1048576 < a ∨ 65536 < b ∨ 10000 < r) :
    Calls Tryz.prog 3 #[tornV n torn A B R a b r C D K] w fun e w' => e = .returned (.bool true) ∧ RowKit.Below w.heap.size w w' := by
  have HT := Lib.hid hT
  have key : decide (n < 1) = true ∨ (decide (n < 1) = false ∧ decide ((1099511627776 : Int) ≤ n) = true) ∨ (decide (n < 1) = false ∧ decide ((1099511627776 : Int) ≤ n) = false ∧ decide ((1048576 : Int) < a) = true) ∨ (decide (n < 1) = false ∧ decide ((1099511627776 : Int) ≤ n) = false ∧ decide ((1048576 : Int) < a) = false ∧ decide ((65536 : Int) < b) = true) ∨ (decide (n < 1) = false ∧ decide ((1099511627776 : Int) ≤ n) = false ∧ decide ((1048576 : Int) < a) = false ∧ decide ((65536 : Int) < b) = false ∧ decide ((10000 : Int) < r) = true) := by
    simp only [decide_eq_true_eq, decide_eq_false_iff_not]
    omega
  clear hT hb
  unfold tornV
  rcases key with k1 | ⟨k1, k2⟩ | ⟨k1, k2, k3⟩ | ⟨k1, k2, k3, k4⟩ | ⟨k1, k2, k3, k4, k5⟩
  all_goals
    go_enter Tryz.func3, Tryz.ntmps3
    go_wp2
    go_quiet (fail)
    have HB := Lib.hid (bthen (low1 w (.cells #[Value.int .i64 n, .slice A a C, .slice R r K, .slice B b D, .int .i64 torn] 25)) (below_drewN _ nq))
    go_wp2_with (go_at_call 10; refine (l6live_any (HT.out.low HB.out)).mono ?_; rintro e w9 ⟨rfl, h9⟩; have H9 := Lib.hid (bthen HB.out h9); clear h9)
    go_ret
    exact ⟨rfl, H9.out⟩
end Go.Proofs.YtgpenpnobjecgaaGreatDoor

/- DoorX -/
namespace Go.Proofs.YtgpenpnobjecgaaGreatDoor
set_option maxRecDepth 100000
open Go.ChangeShapes Go.WideShapes Go.ChangeAt Go.RowKit

theorem bulk_part {H : Type} {d : DataW H} : ∀ {l : List (DataW H)}, d ∈ l → Rows.uptoBulk d ≤ Rows.uptoBulkAll l
  | [], h => by cases h
  | x :: r, h => by
    simp only [Rows.uptoBulkAll]
    cases List.mem_cons.1 h with
    | inl e => subst e; omega
    | inr e => have := bulk_part e; omega
theorem cellsInt : Tryz.prog.cellsOf 3 = 1 := by kernel_rfl
theorem cellsBytes : Tryz.prog.cellsOf 22 = 1 := by kernel_rfl
theorem cellsByteses : Tryz.prog.cellsOf 23 = 1 := by kernel_rfl
section
variable {H : Type} {enc : TypeId × Value → H}
theorem cell_plain {W : World} {a : Addr} {v : Value} (h : W.cell? a = some v) : a.spot = none := by
  cases hs : a.spot with
  | none => rfl
  | some s =>
    exfalso
    unfold World.cell? at h
    rw [hs] at h
    split at h
    · simp at h
    · cases h
theorem open_txtW {W : World} {fuel : Nat} {cs : List Value} {x : DataW H × List MemPlace} (h : DataW.trod enc Tryz.prog W 0 (fun _ => true) true fuel 22 cs = some x) :
    ∃ a c l, cs = [.slice a l.length c] ∧ TxtW W a l.length c l ∧ l.length ≤ Rows.uptoBulk x.1 := by
  rcases open_ints Tryz.underlying22 Tryz.underlying5 cellsU8 h with ⟨rfl, rfl⟩ | ⟨a, len, cap, zs, rfl, _, hl, hm, hz, rfl, hcell, hwz⟩
  · exact ⟨none, 0, [], rfl, .inr ⟨rfl, rfl, rfl⟩, Nat.zero_le _⟩
  · simp only [if_true] at hz
    have hlen : ((zs.take len).map fun n => UInt8.ofNat n.toNat).length = len := by simp; omega
    refine ⟨some a, cap, (zs.take len).map fun n => UInt8.ofNat n.toNat, by rw [hlen], ?_, ?_⟩
    · by_cases hc : cap = 0
      · have h0 : len = 0 := by omega
        subst h0
        exact .inr ⟨by simp, hc, by simp⟩
      · left
        have hc0 := hcell 0 (by omega)
        obtain ⟨ab, ao, spot⟩ := a
        have hsp : spot = none := by
          have hb := cell_plain hc0
          cases spot with
          | none => rfl
          | some s => simp [Addr.add] at hb
        subst hsp
        have hlt : ab < W.heap.size := World.block_lt_of_cell? W _ hc0
        refine ⟨rfl, ⟨⟨fun _ => ⟨ab, ao, rfl, fun j hj => ?_⟩⟩, by rw [hlen]; exact hl, (fun h => by cases h), fun ad had => ⟨ab, ao, (Option.some.inj had).symm, hlt⟩⟩⟩
        rw [hlen] at hj
        have hcj := hcell j (by omega)
        rw [Addr.add_lit] at hcj
        rw [hcj]
        have hb := range_u8 hwz j
        have e : zs.getD j 0 = zs[j]'(by omega) := by simp [List.getD, List.getElem?_eq_getElem (show j < zs.length by omega)]
        rw [List.getD_eq_getElem?_getD] at e
        rw [e] at hb
        rw [List.getD_eq_getElem?_getD, e]
        simp only [byteF, V8, List.getD, List.getElem?_map, List.getElem?_take, hj, if_true, List.getElem?_eq_getElem (show j < zs.length by omega), Option.map_some, Option.getD_some]
        congr 2
        simp only [UInt8.toNat_ofNat']
        omega
    · rw [hlen]
      have h1 := bulk_length (H := H) (lits .u8 (zs.take len))
      have h2 : (lits (H := H) .u8 (zs.take len)).length = len := by simp [lits]; omega
      simp only [Rows.uptoBulk]
      omega
theorem cells_one {W : World} {a : Addr} {cs : List Value} (h : W.cells? 0 a 1 = some cs) : ∃ v, cs = [v] ∧ W.cell? a = some v := by
  unfold World.cells? at h
  rw [if_pos (Nat.zero_le _)] at h
  have e : a.add 0 = a := by cases a; rfl
  simp [List.range_succ, e] at h
  cases hc : W.cell? a with
  | none => rw [hc] at h; simp at h
  | some v => rw [hc] at h; simp at h; exact ⟨v, h.symm, rfl⟩
theorem open_rowsW {W : World} {fuel : Nat} {cs : List Value} {x : DataW H × List MemPlace} (h : DataW.trod enc Tryz.prog W 0 (fun _ => true) true fuel 23 cs = some x) :
    ∃ a c l, cs = [.slice a l.length c] ∧ RowsW W a l.length l ∧ l.length ≤ Rows.uptoBulk x.1 ∧ l.length ≤ maxLen ∧ ∀ p ∈ l, p.length ≤ Rows.uptoBulk x.1 := by
  rcases DataW.trod_slice Tryz.underlying23 h with ⟨rfl, rfl⟩ | ⟨a, len, cap, elems, rest, n, rfl, rfl, rfl, _, hl, hm, hlen, hel, _, _⟩
  · exact ⟨none, 0, [], rfl, ⟨rfl, fun i p hp => by simp at hp⟩, Nat.zero_le _, Nat.zero_le _, fun p hp => by cases hp⟩
  · rw [cellsBytes] at hel
    have key : ∀ i, i < len → ∃ B c l v, W.cell? (a.add i) = some (.slice B l.length c) ∧ TxtW W B l.length c l ∧ elems[i]? = some v ∧ l.length ≤ Rows.uptoBulk v.1 := fun i hi => by
      have h1 := hel i hi
      rw [Nat.mul_one] at h1
      obtain ⟨v, hv⟩ : ∃ v, elems[i]? = some v := ⟨_, List.getElem?_eq_getElem (by omega)⟩
      rw [hv] at h1
      obtain ⟨cs', h2, h3⟩ := Option.bind_eq_some_iff.1 h1
      obtain ⟨u, rfl, h4⟩ := cells_one h2
      obtain ⟨B, c, l, h5, h6, h7⟩ := open_txtW h3
      obtain rfl := (List.cons.inj h5).1
      exact ⟨B, c, l, v, h4, h6, hv, h7⟩
    have pick : ∃ f : Nat → List UInt8, ∀ i, i < len → ∃ B c v, W.cell? (a.add i) = some (.slice B (f i).length c) ∧ TxtW W B (f i).length c (f i) ∧ elems[i]? = some v ∧ (f i).length ≤ Rows.uptoBulk v.1 :=
      ⟨fun i => if h : i < len then (key i h).choose_spec.choose_spec.choose else [], fun i hi => by
        have hs := (key i hi).choose_spec.choose_spec.choose_spec
        simp only [dif_pos hi]
        exact ⟨_, _, hs⟩⟩
    obtain ⟨f, hf⟩ := pick
    have hlf : ((List.range len).map f).length = len := by simp
    have hbig : ∀ v ∈ elems, Rows.uptoBulk v.1 ≤ Rows.uptoBulk (DataW.slice (elems.map (·.1)) (rest.map (·.1))) := fun v hv => by
      have := bulk_part (List.mem_map_of_mem (f := (·.1)) hv)
      simp only [Rows.uptoBulk]
      omega
    refine ⟨some a, cap, (List.range len).map f, by rw [hlf], ⟨rfl, fun i p hp => ?_⟩, ?_, by rw [hlf]; omega, fun p hp => ?_⟩
    · have hi : i < len := by have := (List.getElem?_eq_some_iff.1 hp).1; rwa [hlf] at this
      have hfi : f i = p := by simpa [hi] using hp
      obtain ⟨B, c, v, h1, h2, _, _⟩ := hf i hi
      rw [hfi] at h1 h2
      obtain ⟨B0, c0, v0, h10, _⟩ := hf 0 (by omega)
      have hb : (a.add 0).spot = none := cell_plain h10
      have ha : a = ⟨a.block, a.off, none⟩ := by
        obtain ⟨ab, ao, sp⟩ := a
        cases sp with
        | none => rfl
        | some s => simp [Addr.add] at hb
      rw [ha, Addr.add_lit] at h1
      exact ⟨a.block, a.off, B, c, by rw [← ha], h1, h2⟩
    · rw [hlf]
      have h1 := bulk_length (H := H) (elems.map (·.1))
      rw [List.length_map, hlen] at h1
      simp only [Rows.uptoBulk]
      omega
    · obtain ⟨i, hi, rfl⟩ := List.mem_map.1 hp
      obtain ⟨B, c, v, _, _, h3, h4⟩ := hf i (by simpa using hi)
      have := hbig v (List.mem_of_getElem? h3)
      simp only at this ⊢
      omega
theorem trod_i64 {W : World} {fuel : Nat} {cs : List Value} {x : DataW H × List MemPlace} (h : DataW.trod enc Tryz.prog W 0 (fun _ => true) true fuel 3 cs = some x) : ∃ n : Int, cs = [.int .i64 n] ∧ -9223372036854775808 ≤ n ∧ n ≤ 9223372036854775807 := by
  obtain ⟨n, rfl, _, hw⟩ := DataW.trod_int Tryz.underlying3 h
  simp only [Lit.wf, Bool.and_eq_true, decide_eq_true_eq] at hw
  have h1 : IntKind.i64.min ≤ n := hw.1
  have h2 : n ≤ IntKind.i64.max := hw.2
  have h3 : IntKind.i64.min = -9223372036854775808 := by decide
  have h4 : IntKind.i64.max = 9223372036854775807 := by decide
  exact ⟨n, rfl, by omega, by omega⟩
theorem open_rowsV {W : World} {base : Nat} {v : Value} {d : DataW H} {p : List MemPlace} (hval : Value.okWide Tryz.prog W .any base 23 v) (h : DataW.Trod enc Tryz.prog W 0 (fun _ => true) true 23 v d p) :
    ∃ a c l, v = .slice a l.length c ∧ RowsW W a l.length l := by
  obtain ⟨a1, len, cap, rfl⟩ := okWide_slice Tryz.underlying23 hval
  obtain ⟨fuel, hf⟩ := h
  obtain ⟨a, c, l, h1, h2, _⟩ := open_rowsW hf
  exact ⟨a, c, l, (List.cons.inj h1).1, h2⟩
theorem open_bytesV {W : World} {base : Nat} {v : Value} {d : DataW H} {p : List MemPlace} (hval : Value.okWide Tryz.prog W .any base 22 v) (h : DataW.Trod enc Tryz.prog W 0 (fun _ => true) true 22 v d p) :
    ∃ a c l, v = .slice a l.length c ∧ TxtW W a l.length c l := by
  obtain ⟨a1, len, cap, rfl⟩ := okWide_slice Tryz.underlying22 hval
  obtain ⟨fuel, hf⟩ := h
  obtain ⟨a, c, l, h1, h2, _⟩ := open_txtW hf
  exact ⟨a, c, l, (List.cons.inj h1).1, h2⟩
theorem cellsTorn : Tryz.prog.cellsOf 25 = 5 := by kernel_rfl
theorem take_five {α : Type} {L : List α} (hl : L.length = 5) {v0 v1 v2 v3 v4 : α} (h0 : (L.drop 0).take 1 = [v0]) (h1 : (L.drop 1).take 1 = [v1]) (h2 : (L.drop 2).take 1 = [v2]) (h3 : (L.drop 3).take 1 = [v3]) (h4 : (L.drop 4).take 1 = [v4]) : L = [v0, v1, v2, v3, v4] := by
  match L, hl with
  | [a, b, c, d, e], _ =>
    simp at h0 h1 h2 h3 h4
    rw [h0, h1, h2, h3, h4]
set_option maxRecDepth 100000 in
theorem open_tornV {W : World} {base : Nat} {v : Value} {d : DataW H} {p : List MemPlace} (hval : Value.okWide Tryz.prog W .any base 25 v) (h : DataW.Trod enc Tryz.prog W 0 (fun _ => true) true 25 v d p) :
    ∃ (n torn : Int) (st q : List UInt8) (rs : List (List UInt8)) (A B R : Option Addr) (C D K : Nat), v = tornV n torn A B R st.length q.length rs.length C D K ∧ (-9223372036854775808 ≤ torn ∧ torn ≤ 9223372036854775807) ∧ TxtW W A st.length C st ∧ RowsW W R rs.length rs ∧ TxtW W B q.length D q := by
  obtain ⟨cs, rfl, hsz⟩ := okWide_struct Tryz.underlying25 hval
  obtain ⟨fuel, hf⟩ := h
  obtain ⟨xs, m, _, _, hl, hxl, hi⟩ := DataW.trod_struct Tryz.underlying25 hf
  have hcl : (Value.agg cs).cells.toList = cs.toList := rfl
  rw [hcl] at hl hi
  obtain ⟨L, hL⟩ : ∃ L, L = cs.toList := ⟨_, rfl⟩
  rw [← hL] at hl hi
  rw [cellsTorn] at hl
  have hx : ∀ j, j < 5 → ∃ y, xs[j]? = some y := fun j hj => ⟨xs[j]'(by rw [hxl]; exact hj), List.getElem?_eq_getElem _⟩
  obtain ⟨y0, e0⟩ := hx 0 (by omega)
  obtain ⟨y1, e1⟩ := hx 1 (by omega)
  obtain ⟨y2, e2⟩ := hx 2 (by omega)
  obtain ⟨y3, e3⟩ := hx 3 (by omega)
  obtain ⟨y4, e4⟩ := hx 4 (by omega)
  have f0 : DataW.trod enc Tryz.prog W 0 (fun _ => true) true m 3 ((L.drop 0).take (Tryz.prog.cellsOf 3)) = xs[0]? := hi 0 _ rfl
  have f1 : DataW.trod enc Tryz.prog W 0 (fun _ => true) true m 22 ((L.drop 1).take (Tryz.prog.cellsOf 22)) = xs[1]? := hi 1 _ rfl
  have f2 : DataW.trod enc Tryz.prog W 0 (fun _ => true) true m 23 ((L.drop 2).take (Tryz.prog.cellsOf 23)) = xs[2]? := hi 2 _ rfl
  have f3 : DataW.trod enc Tryz.prog W 0 (fun _ => true) true m 22 ((L.drop 3).take (Tryz.prog.cellsOf 22)) = xs[3]? := hi 3 _ rfl
  have f4 : DataW.trod enc Tryz.prog W 0 (fun _ => true) true m 3 ((L.drop 4).take (Tryz.prog.cellsOf 3)) = xs[4]? := hi 4 _ rfl
  rw [e0, cellsInt] at f0
  rw [e1, cellsBytes] at f1
  rw [e2, cellsByteses] at f2
  rw [e3, cellsBytes] at f3
  rw [e4, cellsInt] at f4
  obtain ⟨n, g0, _⟩ := trod_i64 f0
  obtain ⟨A, C, st, g1, X, _⟩ := open_txtW f1
  obtain ⟨R, K, rs, g2, Y, _⟩ := open_rowsW f2
  obtain ⟨B, D, q, g3, Z, _⟩ := open_txtW f3
  obtain ⟨tn, g4, ht⟩ := trod_i64 f4
  have hrow := take_five hl g0 g1 g2 g3 g4
  refine ⟨n, tn, st, q, rs, A, B, R, C, D, K, ?_, ht, X, Y, Z⟩
  unfold tornV
  congr 1
  apply Array.toList_inj.1
  rw [← hL, hrow]
end
end Go.Proofs.YtgpenpnobjecgaaGreatDoor

/- CutRuns -/
namespace Go.Proofs.YtgpenpnobjecgaaGreatDoor
set_option maxRecDepth 100000
open Go.RowKit Dk

/-- A file in a slice's first place. -/
structure FileOne (w : World) (b o : Nat) (s y : Bs) (B : Option Addr) (c : Nat) : Prop where
  nam : w.cell? ⟨b, o, none⟩ = some (strV s)
  byt : w.cell? ⟨b, o + 1, none⟩ = some (.slice B y.length c)
  txt : Txt w B y.length c y
theorem FileOne.below {w w' : World} {b o : Nat} {s y : Bs} {B : Option Addr} {c : Nat} (h : FileOne w b o s y B c) (hb : RowKit.Below w.heap.size w w') : w'.cell? ⟨b, o, none⟩ = some (strV s) ∧ w'.cell? ⟨b, o + 1, none⟩ = some (.slice B y.length c) ∧ Txt w' B y.length c y :=
  ⟨(hb.cell (p := ⟨b, o, none⟩) (World.block_lt_of_cell? w _ h.nam)).trans h.nam, (hb.cell (p := ⟨b, o + 1, none⟩) (World.block_lt_of_cell? w _ h.byt)).trans h.byt, h.txt.below hb⟩
theorem run_index_afile (w : World) (b o C : Nat) : (Instr.indexAt 36 (.slice (some ⟨b, o, none⟩) 1 C) (.int .i64 0)).run Tryz.prog w = .ok (.pointer (some ⟨b, o, none⟩)) w := by
  have h := run_indexAt_slice (P := Tryz.prog) (w := w) 36 ⟨b, o, none⟩ 1 C .i64 0 Tryz.underlying36
  rw [if_pos ⟨by omega, by omega⟩, show (sizeOf (Tryz.prog.elem 36)).run Tryz.prog w = .ok 2 w by kernel_rfl] at h
  rw [h]
  simp [Result.andThen, Addr.add_lit]
theorem run_eql_int_same {P : Program} (w : World) (t : TypeId) (p q : Operand) (a : Int) : (binW .eql t p q (.int .i64 a) (.int .i64 a)).run P w = .ok (.bool true) w := by
  have hg : (eqGuard .eql t p q (.int .i64 a) (.int .i64 a)).run P w = .ok () w := rfl
  have h2 : (binOp .eql t (.int .i64 a) (.int .i64 a)).run P w = .ok (.bool true) w := by simp [go_sem]
  simp [binW, Sem.run_bind, hg, h2]
theorem run_eql_str_same (w : World) (p q : Operand) (s : Bs) : (binW .eql 9 p q (strV s) (strV s)).run Tryz.prog w = .ok (.bool true) w := by
  have hg : (eqGuard .eql 9 p q (strV s) (strV s)).run Tryz.prog w = .ok () w := by kernel_rfl
  simp [binW, Sem.run_bind, hg, eql_strV_same w _ s]
def yTxt (l : List UInt8) : Yld Low := Yld.pr (fun v w => ∃ B C, v = .slice B l.length C ∧ Txt w B l.length C l) fun _ _ _ ⟨B, C, e, h⟩ hl => ⟨B, C, e, h.below hl⟩
end Go.Proofs.YtgpenpnobjecgaaGreatDoor
