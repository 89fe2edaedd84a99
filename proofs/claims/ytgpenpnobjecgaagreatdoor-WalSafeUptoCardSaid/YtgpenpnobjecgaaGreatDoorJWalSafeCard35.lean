/- A disk of a law's own, step by step: armed; opened without a log; files that came in. -/
import Derived.Test.YtgpenpnobjecgaaGreatDoorJWalSafeCard4
import Derived.Test.YtgpenpnobjecgaaGreatDoorJWalSafeCard10
import Derived.Test.YtgpenpnobjecgaaGreatDoorJWalSafeCard12
import Derived.Test.YtgpenpnobjecgaaGreatDoorJWalSafeCard20
import Derived.Test.YtgpenpnobjecgaaGreatDoorJWalSafeCard21
import Derived.Test.YtgpenpnobjecgaaGreatDoorJWalSafeCard22
import Derived.Test.YtgpenpnobjecgaaGreatDoorJWalSafeCard24
import Derived.Test.YtgpenpnobjecgaaGreatDoorJWalSafeCard33
import Derived.Test.YtgpenpnobjecgaaGreatDoorJWalSafeCard34
/- DoorX -/
namespace Go.Proofs.YtgpenpnobjecgaaGreatDoor
set_option maxRecDepth 100000
open Go.ChangeShapes Go.WideShapes Go.ChangeAt Go.RowKit

theorem bulk_part {H : Type} {d : DataW H} : ∀ {l : List (DataW H)}, d ∈ l → Rows.uptoBulk d ≤ Rows.uptoBulkAll l
  | [], h => by cases h
  | x :: r, h => by
    simp only [Rows.uptoBulkAll]
    cases List.mem_cons.1 h with
    | inl e => subst e; omega
    | inr e => have := bulk_part e; omega
theorem cellsInt : Tryz.prog.cellsOf 3 = 1 := by kernel_rfl
theorem cellsBytes : Tryz.prog.cellsOf 22 = 1 := by kernel_rfl
theorem cellsByteses : Tryz.prog.cellsOf 23 = 1 := by kernel_rfl
section
variable {H : Type} {enc : TypeId × Value → H}
theorem cell_plain {W : World} {a : Addr} {v : Value} (h : W.cell? a = some v) : a.spot = none := by
  cases hs : a.spot with
  | none => rfl
  | some s =>
    exfalso
    unfold World.cell? at h
    rw [hs] at h
    split at h
    · simp at h
    · cases h
theorem open_txtW {W : World} {fuel : Nat} {cs : List Value} {x : DataW H × List MemPlace} (h : DataW.trod enc Tryz.prog W 0 (fun _ => true) true fuel 22 cs = some x) :
    ∃ a c l, cs = [.slice a l.length c] ∧ TxtW W a l.length c l ∧ l.length ≤ Rows.uptoBulk x.1 := by
  rcases open_ints Tryz.underlying22 Tryz.underlying5 cellsU8 h with ⟨rfl, rfl⟩ | ⟨a, len, cap, zs, rfl, _, hl, hm, hz, rfl, hcell, hwz⟩
  · exact ⟨none, 0, [], rfl, .inr ⟨rfl, rfl, rfl⟩, Nat.zero_le _⟩
  · simp only [if_true] at hz
    have hlen : ((zs.take len).map fun n => UInt8.ofNat n.toNat).length = len := by simp; omega
    refine ⟨some a, cap, (zs.take len).map fun n => UInt8.ofNat n.toNat, by rw [hlen], ?_, ?_⟩
    · by_cases hc : cap = 0
      · have h0 : len = 0 := by omega
        subst h0
        exact .inr ⟨by simp, hc, by simp⟩
      · left
        have hc0 := hcell 0 (by omega)
        obtain ⟨ab, ao, spot⟩ := a
        have hsp : spot = none := by
          have hb := cell_plain hc0
          cases spot with
          | none => rfl
          | some s => simp [Addr.add] at hb
        subst hsp
        have hlt : ab < W.heap.size := World.block_lt_of_cell? W _ hc0
        refine ⟨rfl, ⟨⟨fun _ => ⟨ab, ao, rfl, fun j hj => ?_⟩⟩, by rw [hlen]; exact hl, (fun h => by cases h), fun ad had => ⟨ab, ao, (Option.some.inj had).symm, hlt⟩⟩⟩
        rw [hlen] at hj
        have hcj := hcell j (by omega)
        rw [Addr.add_lit] at hcj
        rw [hcj]
        have hb := range_u8 hwz j
        have e : zs.getD j 0 = zs[j]'(by omega) := by simp [List.getD, List.getElem?_eq_getElem (show j < zs.length by omega)]
        rw [List.getD_eq_getElem?_getD] at e
        rw [e] at hb
        rw [List.getD_eq_getElem?_getD, e]
        simp only [byteF, V8, List.getD, List.getElem?_map, List.getElem?_take, hj, if_true, List.getElem?_eq_getElem (show j < zs.length by omega), Option.map_some, Option.getD_some]
        congr 2
        simp only [UInt8.toNat_ofNat']
        omega
    · rw [hlen]
      have h1 := bulk_length (H := H) (lits .u8 (zs.take len))
      have h2 : (lits (H := H) .u8 (zs.take len)).length = len := by simp [lits]; omega
      simp only [Rows.uptoBulk]
      omega
theorem cells_one {W : World} {a : Addr} {cs : List Value} (h : W.cells? 0 a 1 = some cs) : ∃ v, cs = [v] ∧ W.cell? a = some v := by
  unfold World.cells? at h
  rw [if_pos (Nat.zero_le _)] at h
  have e : a.add 0 = a := by cases a; rfl
  simp [List.range_succ, e] at h
  cases hc : W.cell? a with
  | none => rw [hc] at h; simp at h
  | some v => rw [hc] at h; simp at h; exact ⟨v, h.symm, rfl⟩
theorem open_rowsW {W : World} {fuel : Nat} {cs : List Value} {x : DataW H × List MemPlace} (h : DataW.trod enc Tryz.prog W 0 (fun _ => true) true fuel 23 cs = some x) :
    ∃ a c l, cs = [.slice a l.length c] ∧ RowsW W a l.length l ∧ l.length ≤ Rows.uptoBulk x.1 ∧ l.length ≤ maxLen ∧ ∀ p ∈ l, p.length ≤ Rows.uptoBulk x.1 := by
  rcases DataW.trod_slice Tryz.underlying23 h with ⟨rfl, rfl⟩ | ⟨a, len, cap, elems, rest, n, rfl, rfl, rfl, _, hl, hm, hlen, hel, _, _⟩
  · exact ⟨none, 0, [], rfl, ⟨rfl, fun i p hp => by simp at hp⟩, Nat.zero_le _, Nat.zero_le _, fun p hp => by cases hp⟩
  · rw [cellsBytes] at hel
    have key : ∀ i, i < len → ∃ B c l v, W.cell? (a.add i) = some (.slice B l.length c) ∧ TxtW W B l.length c l ∧ elems[i]? = some v ∧ l.length ≤ Rows.uptoBulk v.1 := fun i hi => by
      have h1 := hel i hi
      rw [Nat.mul_one] at h1
      obtain ⟨v, hv⟩ : ∃ v, elems[i]? = some v := ⟨_, List.getElem?_eq_getElem (by omega)⟩
      rw [hv] at h1
      obtain ⟨cs', h2, h3⟩ := Option.bind_eq_some_iff.1 h1
      obtain ⟨u, rfl, h4⟩ := cells_one h2
      obtain ⟨B, c, l, h5, h6, h7⟩ := open_txtW h3
      obtain rfl := (List.cons.inj h5).1
      exact ⟨B, c, l, v, h4, h6, hv, h7⟩
    have pick : ∃ f : Nat → List UInt8, ∀ i, i < len → ∃ B c v, W.cell? (a.add i) = some (.slice B (f i).length c) ∧ TxtW W B (f i).length c (f i) ∧ elems[i]? = some v ∧ (f i).length ≤ Rows.uptoBulk v.1 :=
      ⟨fun i => if h : i < len then (key i h).choose_spec.choose_spec.choose else [], fun i hi => by
        have hs := (key i hi).choose_spec.choose_spec.choose_spec
        simp only [dif_pos hi]
        exact ⟨_, _, hs⟩⟩
    obtain ⟨f, hf⟩ := pick
    have hlf : ((List.range len).map f).length = len := by simp
    have hbig : ∀ v ∈ elems, Rows.uptoBulk v.1 ≤ Rows.uptoBulk (DataW.slice (elems.map (·.1)) (rest.map (·.1))) := fun v hv => by
      have := bulk_part (List.mem_map_of_mem (f := (·.1)) hv)
      simp only [Rows.uptoBulk]
      omega
    refine ⟨some a, cap, (List.range len).map f, by rw [hlf], ⟨rfl, fun i p hp => ?_⟩, ?_, by rw [hlf]; omega, fun p hp => ?_⟩
    · have hi : i < len := by have := (List.getElem?_eq_some_iff.1 hp).1; rwa [hlf] at this
      have hfi : f i = p := by simpa [hi] using hp
      obtain ⟨B, c, v, h1, h2, _, _⟩ := hf i hi
      rw [hfi] at h1 h2
      obtain ⟨B0, c0, v0, h10, _⟩ := hf 0 (by omega)
      have hb : (a.add 0).spot = none := cell_plain h10
      have ha : a = ⟨a.block, a.off, none⟩ := by
        obtain ⟨ab, ao, sp⟩ := a
        cases sp with
        | none => rfl
        | some s => simp [Addr.add] at hb
      rw [ha, Addr.add_lit] at h1
      exact ⟨a.block, a.off, B, c, by rw [← ha], h1, h2⟩
    · rw [hlf]
      have h1 := bulk_length (H := H) (elems.map (·.1))
      rw [List.length_map, hlen] at h1
      simp only [Rows.uptoBulk]
      omega
    · obtain ⟨i, hi, rfl⟩ := List.mem_map.1 hp
      obtain ⟨B, c, v, _, _, h3, h4⟩ := hf i (by simpa using hi)
      have := hbig v (List.mem_of_getElem? h3)
      simp only at this ⊢
      omega
theorem trod_i64 {W : World} {fuel : Nat} {cs : List Value} {x : DataW H × List MemPlace} (h : DataW.trod enc Tryz.prog W 0 (fun _ => true) true fuel 3 cs = some x) : ∃ n : Int, cs = [.int .i64 n] ∧ -9223372036854775808 ≤ n ∧ n ≤ 9223372036854775807 := by
  obtain ⟨n, rfl, _, hw⟩ := DataW.trod_int Tryz.underlying3 h
  simp only [Lit.wf, Bool.and_eq_true, decide_eq_true_eq] at hw
  have h1 : IntKind.i64.min ≤ n := hw.1
  have h2 : n ≤ IntKind.i64.max := hw.2
  have h3 : IntKind.i64.min = -9223372036854775808 := by decide
  have h4 : IntKind.i64.max = 9223372036854775807 := by decide
  exact ⟨n, rfl, by omega, by omega⟩
theorem open_rowsV {W : World} {base : Nat} {v : Value} {d : DataW H} {p : List MemPlace} (hval : Value.okWide Tryz.prog W .any base 23 v) (h : DataW.Trod enc Tryz.prog W 0 (fun _ => true) true 23 v d p) :
    ∃ a c l, v = .slice a l.length c ∧ RowsW W a l.length l := by
  obtain ⟨a1, len, cap, rfl⟩ := okWide_slice Tryz.underlying23 hval
  obtain ⟨fuel, hf⟩ := h
  obtain ⟨a, c, l, h1, h2, _⟩ := open_rowsW hf
  exact ⟨a, c, l, (List.cons.inj h1).1, h2⟩
theorem open_bytesV {W : World} {base : Nat} {v : Value} {d : DataW H} {p : List MemPlace} (hval : Value.okWide Tryz.prog W .any base 22 v) (h : DataW.Trod enc Tryz.prog W 0 (fun _ => true) true 22 v d p) :
    ∃ a c l, v = .slice a l.length c ∧ TxtW W a l.length c l := by
  obtain ⟨a1, len, cap, rfl⟩ := okWide_slice Tryz.underlying22 hval
  obtain ⟨fuel, hf⟩ := h
  obtain ⟨a, c, l, h1, h2, _⟩ := open_txtW hf
  exact ⟨a, c, l, (List.cons.inj h1).1, h2⟩
theorem cellsTorn : Tryz.prog.cellsOf 25 = 5 := by kernel_rfl
theorem take_five {α : Type} {L : List α} (hl : L.length = 5) {v0 v1 v2 v3 v4 : α} (h0 : (L.drop 0).take 1 = [v0]) (h1 : (L.drop 1).take 1 = [v1]) (h2 : (L.drop 2).take 1 = [v2]) (h3 : (L.drop 3).take 1 = [v3]) (h4 : (L.drop 4).take 1 = [v4]) : L = [v0, v1, v2, v3, v4] := by
  match L, hl with
  | [a, b, c, d, e], _ =>
    simp at h0 h1 h2 h3 h4
    rw [h0, h1, h2, h3, h4]
set_option maxRecDepth 100000 in
theorem open_tornV {W : World} {base : Nat} {v : Value} {d : DataW H} {p : List MemPlace} (hval : Value.okWide Tryz.prog W .any base 25 v) (h : DataW.Trod enc Tryz.prog W 0 (fun _ => true) true 25 v d p) :
    ∃ (n torn : Int) (st q : List UInt8) (rs : List (List UInt8)) (A B R : Option Addr) (C D K : Nat), v = tornV n torn A B R st.length q.length rs.length C D K ∧ (-9223372036854775808 ≤ torn ∧ torn ≤ 9223372036854775807) ∧ TxtW W A st.length C st ∧ RowsW W R rs.length rs ∧ TxtW W B q.length D q := by
  obtain ⟨cs, rfl, hsz⟩ := okWide_struct Tryz.underlying25 hval
  obtain ⟨fuel, hf⟩ := h
  obtain ⟨xs, m, _, _, hl, hxl, hi⟩ := DataW.trod_struct Tryz.underlying25 hf
  have hcl : (Value.agg cs).cells.toList = cs.toList := rfl
  rw [hcl] at hl hi
  obtain ⟨L, hL⟩ : ∃ L, L = cs.toList := ⟨_, rfl⟩
  rw [← hL] at hl hi
  rw [cellsTorn] at hl
  have hx : ∀ j, j < 5 → ∃ y, xs[j]? = some y := fun j hj => ⟨xs[j]'(by rw [hxl]; exact hj), List.getElem?_eq_getElem _⟩
  obtain ⟨y0, e0⟩ := hx 0 (by omega)
  obtain ⟨y1, e1⟩ := hx 1 (by omega)
  obtain ⟨y2, e2⟩ := hx 2 (by omega)
  obtain ⟨y3, e3⟩ := hx 3 (by omega)
  obtain ⟨y4, e4⟩ := hx 4 (by omega)
  have f0 : DataW.trod enc Tryz.prog W 0 (fun _ => true) true m 3 ((L.drop 0).take (Tryz.prog.cellsOf 3)) = xs[0]? := hi 0 _ rfl
  have f1 : DataW.trod enc Tryz.prog W 0 (fun _ => true) true m 22 ((L.drop 1).take (Tryz.prog.cellsOf 22)) = xs[1]? := hi 1 _ rfl
  have f2 : DataW.trod enc Tryz.prog W 0 (fun _ => true) true m 23 ((L.drop 2).take (Tryz.prog.cellsOf 23)) = xs[2]? := hi 2 _ rfl
  have f3 : DataW.trod enc Tryz.prog W 0 (fun _ => true) true m 22 ((L.drop 3).take (Tryz.prog.cellsOf 22)) = xs[3]? := hi 3 _ rfl
  have f4 : DataW.trod enc Tryz.prog W 0 (fun _ => true) true m 3 ((L.drop 4).take (Tryz.prog.cellsOf 3)) = xs[4]? := hi 4 _ rfl
  rw [e0, cellsInt] at f0
  rw [e1, cellsBytes] at f1
  rw [e2, cellsByteses] at f2
  rw [e3, cellsBytes] at f3
  rw [e4, cellsInt] at f4
  obtain ⟨n, g0, _⟩ := trod_i64 f0
  obtain ⟨A, C, st, g1, X, _⟩ := open_txtW f1
  obtain ⟨R, K, rs, g2, Y, _⟩ := open_rowsW f2
  obtain ⟨B, D, q, g3, Z, _⟩ := open_txtW f3
  obtain ⟨tn, g4, ht⟩ := trod_i64 f4
  have hrow := take_five hl g0 g1 g2 g3 g4
  refine ⟨n, tn, st, q, rs, A, B, R, C, D, K, ?_, ht, X, Y, Z⟩
  unfold tornV
  congr 1
  apply Array.toList_inj.1
  rw [← hL, hrow]
end
end Go.Proofs.YtgpenpnobjecgaaGreatDoor

/- CutRuns -/
namespace Go.Proofs.YtgpenpnobjecgaaGreatDoor
set_option maxRecDepth 100000
open Go.RowKit Dk

/-- A file in a slice's first place. -/
structure FileOne (w : World) (b o : Nat) (s y : Bs) (B : Option Addr) (c : Nat) : Prop where
  nam : w.cell? ⟨b, o, none⟩ = some (strV s)
  byt : w.cell? ⟨b, o + 1, none⟩ = some (.slice B y.length c)
  txt : Txt w B y.length c y
theorem FileOne.below {w w' : World} {b o : Nat} {s y : Bs} {B : Option Addr} {c : Nat} (h : FileOne w b o s y B c) (hb : RowKit.Below w.heap.size w w') : w'.cell? ⟨b, o, none⟩ = some (strV s) ∧ w'.cell? ⟨b, o + 1, none⟩ = some (.slice B y.length c) ∧ Txt w' B y.length c y :=
  ⟨(hb.cell (p := ⟨b, o, none⟩) (World.block_lt_of_cell? w _ h.nam)).trans h.nam, (hb.cell (p := ⟨b, o + 1, none⟩) (World.block_lt_of_cell? w _ h.byt)).trans h.byt, h.txt.below hb⟩
theorem run_index_afile (w : World) (b o C : Nat) : (Instr.indexAt 36 (.slice (some ⟨b, o, none⟩) 1 C) (.int .i64 0)).run Tryz.prog w = .ok (.pointer (some ⟨b, o, none⟩)) w := by
  have h := run_indexAt_slice (P := Tryz.prog) (w := w) 36 ⟨b, o, none⟩ 1 C .i64 0 Tryz.underlying36
  rw [if_pos ⟨by omega, by omega⟩, show (sizeOf (Tryz.prog.elem 36)).run Tryz.prog w = .ok 2 w by kernel_rfl] at h
  rw [h]
  simp [Result.andThen, Addr.add_lit]
theorem run_eql_int_same {P : Program} (w : World) (t : TypeId) (p q : Operand) (a : Int) : (binW .eql t p q (.int .i64 a) (.int .i64 a)).run P w = .ok (.bool true) w := by
  have hg : (eqGuard .eql t p q (.int .i64 a) (.int .i64 a)).run P w = .ok () w := rfl
  have h2 : (binOp .eql t (.int .i64 a) (.int .i64 a)).run P w = .ok (.bool true) w := by simp [go_sem]
  simp [binW, Sem.run_bind, hg, h2]
theorem run_eql_str_same (w : World) (p q : Operand) (s : Bs) : (binW .eql 9 p q (strV s) (strV s)).run Tryz.prog w = .ok (.bool true) w := by
  have hg : (eqGuard .eql 9 p q (strV s) (strV s)).run Tryz.prog w = .ok () w := by kernel_rfl
  simp [binW, Sem.run_bind, hg, eql_strV_same w _ s]
def yTxt (l : List UInt8) : Yld Low := Yld.pr (fun v w => ∃ B C, v = .slice B l.length C ∧ Txt w B l.length C l) fun _ _ _ ⟨B, C, e, h⟩ hl => ⟨B, C, e, h.below hl⟩
end Go.Proofs.YtgpenpnobjecgaaGreatDoor

/- Ours -/
namespace Go.Proofs.YtgpenpnobjecgaaGreatDoor
set_option maxRecDepth 100000
open Go.RowKit Dk

/-- Files that came in. -/
structure FilesW (w : World) (A : Option Addr) (n : Nat) (l : List (Bs × Bs)) : Prop where
  len : n = l.length
  each : ∀ i p, l[i]? = some p → ∃ b o B c, A = some ⟨b, o, none⟩ ∧ w.cell? ⟨b, o + i * 2, none⟩ = some (strV p.1) ∧ w.cell? ⟨b, o + i * 2 + 1, none⟩ = some (.slice B p.2.length c) ∧ TxtW w B p.2.length c p.2
theorem FilesW.below {w w' : World} {A : Option Addr} {n : Nat} {l : List (Bs × Bs)} (h : FilesW w A n l) (hb : RowKit.Below w.heap.size w w') : FilesW w' A n l :=
  ⟨h.len, fun i p hp => by
    obtain ⟨b, o, B, c, h1, h2, h3, h4⟩ := h.each i p hp
    exact ⟨b, o, B, c, h1, (hb.cell (p := ⟨b, o + i * 2, none⟩) (World.block_lt_of_cell? w _ h2)).trans h2, (hb.cell (p := ⟨b, o + i * 2 + 1, none⟩) (World.block_lt_of_cell? w _ h3)).trans h3, h4.below hb⟩⟩
theorem run_index_files (w : World) (b o n C i : Nat) (hi : i < n) : (Instr.indexAt 36 (.slice (some ⟨b, o, none⟩) n C) (.int .i64 (i : Int))).run Tryz.prog w = .ok (.pointer (some ⟨b, o + i * 2, none⟩)) w := by
  have h := run_indexAt_slice (P := Tryz.prog) (w := w) 36 ⟨b, o, none⟩ n C .i64 i Tryz.underlying36
  rw [if_pos ⟨by omega, by omega⟩, show (sizeOf (Tryz.prog.elem 36)).run Tryz.prog w = .ok 2 w by kernel_rfl] at h
  rw [h]
  simp [Result.andThen, Addr.add_lit]
theorem run_build_afileW (w : World) (s : Bs) (A : Option Addr) (n C : Nat) : (Instr.buildSlice 36 1 #[(0, .agg #[strV s, .slice A n C])]).run Tryz.prog w = .ok (.slice (some ⟨w.heap.size, 0, none⟩) 1 1) (w.alloc (.cells #[strV s, .slice A n C] 35)) := by kernel_rfl
set_option maxRecDepth 100000 in
set_option maxHeartbeats 4000000 in
theorem l6ours_any {w : World} {A : Option Addr} {C : Nat} {l : List (Bs × Bs)} (X : FilesW w A l.length l) (hl : l.length ≤ 1048576) (hb : ∀ p ∈ l, p.2.length ≤ 1048576) :
    Calls Tryz.prog 29 #[.slice A l.length C] w fun e w' => ∃ B D, e = .returned (.slice B l.length D) ∧ FilesAt w' B l.length D l (fun b => w.heap.size ≤ b) ∧ RowKit.Below w.heap.size w w' := by
  have HX := Lib.hid X
  have HLB := Lib.hid hb
  have HLL := Lib.hid hl
  clear X hb hl
  go_enter Tryz.func29, Tryz.ntmps29
  go_wp2
  go_loopw [3, 4] (fun mv iv wr => ∃ (i : Nat) (B : Option Addr) (D : Nat) (qs : List (Option Addr × Nat)) (bk : Option Nat), mv = .slice B i D ∧ iv = .int .i64 i ∧ Hid (i ≤ l.length ∧ Bunch wr w.heap.size 35 2 B i D (List.zipWith fileEl (l.take i) qs) bk ∧ qs.length = i ∧ (i = 0 → B = none) ∧ RowKit.Below w.heap.size w wr)) (fun _ iv _ => l.length - (intOf iv).toNat)
  case atStart => exact ⟨0, none, 0, [], none, rfl, rfl, Lib.hid ⟨Nat.zero_le _, Bunch.nil _ _ _ _, rfl, fun _ => rfl, Below.refl _ _⟩⟩
  case round =>
    obtain ⟨i, B, D, qs, bk, rfl, rfl, hI⟩ := hrel
    by_cases hlt : i < l.length
    · have h1 : (i : Int) < l.length := by omega
      obtain ⟨p, hp⟩ : ∃ p, l[i]? = some p := ⟨_, List.getElem?_eq_getElem hlt⟩
      obtain ⟨b, o, Bp, cp, rfl, q1, q2, q3⟩ := (HX.out.below hI.out.2.2.2.2).each i p hp
      obtain ⟨s, y⟩ := p
      simp only at q1 q2 q3
      have HQ1 := Lib.hid q1
      have HQ2 := Lib.hid q2
      have HQ3 := Lib.hid q3
      have HP := Lib.hid hp
      have HYL := Lib.hid (show y.length ≤ 1048576 from HLB.out _ (List.mem_of_getElem? hp))
      have hil : i < 1048576 := by have := HLL.out; omega
      clear q1 q2 q3 hp
      go_upto_region 5 with (fail)
      have z1 : 0 + y.length ≤ maxLen := by have := HYL.out; unfold maxLen; omega
      have z2 : (0 + y.length) * 1 ≤ 140737488355328 := by have := HYL.out; omega
      have z3 : i + 1 ≤ maxLen := by unfold maxLen; omega
      have z4 : (i + 1) * 40 ≤ 140737488355328 := by omega
      have h7d : RowKit.Below wr.heap.size wr wr.drew := (Below.refl _ _).drew
      obtain ⟨w71, hw71⟩ : ∃ W, W = wr.drew.alloc (.cells #[] 5) := ⟨_, rfl⟩
      have h71 : RowKit.Below wr.heap.size wr w71 := by rw [hw71]; exact bthen h7d (low1 _ _)
      have hb71 : w71.heap[wr.drew.heap.size]? = some (.cells #[] 5 (0, 0)) := by rw [hw71]; exact blk1 _ _
      obtain ⟨B9, D9, w9, b9, hrun9, ho9, hg9, hb9⟩ := run_app0 (P := Tryz.prog) 22 22 _ Tryz.underlying22 info_u8r rfl (by decide) (OwnR.of_row hb71 (Nat.le_refl _) (Nat.zero_le _) rfl rfl) Bp y.length cp (y.map V8) (by simp) (HQ3.out.below h71).cells HQ3.out.nil (bone y) z1 z2
      simp only [Nat.zero_add] at hrun9 ho9
      have h79 : RowKit.Below wr.heap.size wr w9 := ((Kept.of_below (F := fun b => b = wr.drew.heap.size) h71).grown hg9 fun b hb => .inl (Option.some.inj hb).symm).below fun b hlt e => by have := h7d.size; omega
      obtain ⟨w73, hw73⟩ : ∃ W, W = w9.alloc (.cells #[strV s, .slice B9 y.length D9] 35) := ⟨_, rfl⟩
      have h73 : RowKit.Below wr.heap.size wr w73 := by rw [hw73]; exact bthen h79 (low1 _ _)
      have hb73 : w73.heap[w9.heap.size]? = some (.cells #[strV s, .slice B9 y.length D9] 35 (0, 0)) := by rw [hw73]; exact blk1 _ _
      obtain ⟨B8, D8, w8, b8, hrun8, ho8, hg8, hb8⟩ := run_app0 (P := Tryz.prog) 36 36 (.agg #[.string ⟨#[]⟩, .slice none 0 0]) Tryz.underlying36 (by kernel_rfl) rfl (by decide) (hI.out.2.1.row.below h73) (some ⟨w9.heap.size, 0, none⟩) 1 1 [strV s, .slice B9 y.length D9] rfl (CellsAt.of_block hb73) (fun h => by cases h) (by simp; exact ⟨rfl, rfl⟩) z3 z4
      have hk8 : Kept (fun k => bk = some k) wr w8 := (Kept.of_below h73).grown hg8 (fun k e => .inl e)
      have hbb : ¬ bk = some b ∨ ¬ bk = some b := .inl fun e => by
        have h1 := hI.out.2.1.fresh _ e
        have h2 := World.block_lt_of_cell? _ _ HQ1.out
        have h3 := HX.out.each i _ HP.out
        obtain ⟨b4, o4, _, _, e4, h4, _⟩ := h3
        have h5 := World.block_lt_of_cell? _ _ h4
        injection e4 with e4
        injection e4 with e4 _
        simp only at h5
        omega
      have hall : ∀ k W, seqW wr.drew w71 w9 w73 w8 k W → W.cell? ⟨b, o + i * 2, none⟩ = some (strV s) ∧ W.cell? ⟨b, o + i * 2 + 1, none⟩ = some (.slice Bp y.length cp) := fun k W h => by
        have key : ∀ {W}, RowKit.Below wr.heap.size wr W → W.cell? ⟨b, o + i * 2, none⟩ = some (strV s) ∧ W.cell? ⟨b, o + i * 2 + 1, none⟩ = some (.slice Bp y.length cp) := fun hb => ⟨(hb.cell (p := ⟨b, o + i * 2, none⟩) (World.block_lt_of_cell? _ _ HQ1.out)).trans HQ1.out, (hb.cell (p := ⟨b, o + i * 2 + 1, none⟩) (World.block_lt_of_cell? _ _ HQ2.out)).trans HQ2.out⟩
        rcases seqW_one h with rfl | rfl | rfl | rfl | rfl
        · exact key h7d
        · exact key h71
        · exact key h79
        · exact key h73
        · exact ⟨hk8.cell HQ1.out (fun e => hbb.elim (· e) (· e)), hk8.cell HQ2.out (fun e => hbb.elim (· e) (· e))⟩
      have HALL := Lib.hid hall
      have HW71 := Lib.hid hw71
      have HW73 := Lib.hid hw73
      have HRUN9 := Lib.hid hrun9
      have HRUN8 := Lib.hid hrun8
      have HO9 := Lib.hid ho9
      have HO8 := Lib.hid ho8
      have HG8 := Lib.hid hg8
      have HB9 := Lib.hid hb9
      have HB8 := Lib.hid hb8
      have HK8 := Lib.hid hk8
      have H79 := Lib.hid h79
      have H73 := Lib.hid h73
      clear h7d hw71 h71 hb71 hrun9 ho9 hg9 hb9 h79 hw73 h73 hb73 hrun8 ho8 hg8 hb8 hk8 hall hbb
      -- REGION5
      refine wp_region_inv 16 28 (fun _ _ => True) [6, 12, 14, 15] (seqW wr.drew w71 w9 w73 w8) (by kernel_rfl) (by kernel_rfl) (by kernel_rfl) (by kernel_rfl) (by kernel_rfl) [.is (.slice B i D : Value), .is (.slice (some ⟨b, o, none⟩) l.length C : Value), .is (.int .i64 (i : Int) : Value), .is (.pointer (some ⟨b, o + i * 2, none⟩) : Value), .is (.pointer (some ⟨b, o + i * 2, none⟩) : Value), .is (strV s), .is (.slice (some ⟨wr.drew.heap.size, 0, none⟩) 0 0 : Value), .is (.slice (some ⟨b, o, none⟩) l.length C : Value), .is (.int .i64 (i : Int) : Value), .is (.pointer (some ⟨b, o + i * 2, none⟩) : Value), .is (.pointer (some ⟨b, o + i * 2 + 1, none⟩) : Value), .is (.slice Bp y.length cp : Value), .is (.slice B9 y.length D9 : Value), .is (.agg #[strV s, .slice B9 y.length D9] : Value), .is (.slice (some ⟨w9.heap.size, 0, none⟩) 1 1 : Value), .is (.slice B8 (i + 1) D8 : Value)] rfl (rfl) (fun vs => ?_) (fun vs wv hI h => ?_)
      · refine RegHeadI.cons (fun S wv hd hSk hSd hI h => ?_) ?_
        · exact relAtI.pure ⟨trivial, keepI (by decide) hI⟩ (by kernel_rfl) (by kernel_rfl)
        refine RegHeadI.cons (fun S wv hd hSk hSd hI h => ?_) ?_
        · exact relAtI.pure ⟨trivial, keepI (by decide) hI⟩ (by kernel_rfl) (by kernel_rfl)
        refine RegHeadI.cons (fun S wv hd hSk hSd hI h => ?_) ?_
        · exact relAtI.pure ⟨trivial, keepI (by decide) hI⟩ (by kernel_rfl) (by kernel_rfl)
        refine RegHeadI.cons (fun S wv hd hSk hSd hI h => ?_) ?_
        · exact relAtI.pureS ⟨trivial, keepI (by decide) hI⟩ (by kernel_rfl) (by kernel_rfl) (run_index_files wv b o l.length C i hlt)
        refine RegHeadI.cons (fun S wv hd hSk hSd hI h => ?_) ?_
        · exact relAtI.pure ⟨trivial, keepI (by decide) hI⟩ (by kernel_rfl) (by kernel_rfl)
        refine RegHeadI.cons (fun S wv hd hSk hSd hI h => ?_) ?_
        · exact relAtI.pureS ⟨trivial, keepI (by decide) hI⟩ (by kernel_rfl) (by kernel_rfl) (run_load_str1 (HALL.out _ _ hI).1)
        refine RegHeadI.cons (fun S wv hd hSk hSd hI h => ?_) ?_
        · have s2 : S 12 = false := hd.not 16 hSk (by decide) (by decide)
          have hw : wv = wr.drew := by have hI := hI; simp only [List.map, hSk] at hI; exact hI
          subst hw
          exact relAtI.valueS (by kernel_rfl) (by kernel_rfl) (run_build_none _) ⟨trivial, by simp only [List.map, setB, s2]; exact HW71.out.symm⟩ rfl
        refine RegHeadI.cons (fun S wv hd hSk hSd hI h => ?_) ?_
        · exact relAtI.pure ⟨trivial, keepI (by decide) hI⟩ (by kernel_rfl) (by kernel_rfl)
        refine RegHeadI.cons (fun S wv hd hSk hSd hI h => ?_) ?_
        · exact relAtI.pure ⟨trivial, keepI (by decide) hI⟩ (by kernel_rfl) (by kernel_rfl)
        refine RegHeadI.cons (fun S wv hd hSk hSd hI h => ?_) ?_
        · exact relAtI.pureS ⟨trivial, keepI (by decide) hI⟩ (by kernel_rfl) (by kernel_rfl) (run_index_files wv b o l.length C i hlt)
        refine RegHeadI.cons (fun S wv hd hSk hSd hI h => ?_) ?_
        · exact relAtI.pure ⟨trivial, keepI (by decide) hI⟩ (by kernel_rfl) (by kernel_rfl)
        refine RegHeadI.cons (fun S wv hd hSk hSd hI h => ?_) ?_
        · exact relAtI.pureS ⟨trivial, keepI (by decide) hI⟩ (by kernel_rfl) (by kernel_rfl) (run_load_bytes (HALL.out _ _ hI).2)
        refine RegHeadI.cons (fun S wv hd hSk hSd hI h => ?_) ?_
        · have s1 : S 6 = true := hSd 6 (by decide)
          have s3 : S 14 = false := hd.not 16 hSk (by decide) (by decide)
          have hw : wv = w71 := by have hI := hI; simp only [List.map, hSk, s1] at hI; exact hI
          subst hw
          exact relAtI.valueS (by kernel_rfl) (by kernel_rfl) HRUN9.out ⟨trivial, by simp only [List.map, setB, s1, s3]; rfl⟩ rfl
        refine RegHeadI.cons (fun S wv hd hSk hSd hI h => ?_) ?_
        · exact relAtI.pure ⟨trivial, keepI (by decide) hI⟩ (by kernel_rfl) (by kernel_rfl)
        refine RegHeadI.cons (fun S wv hd hSk hSd hI h => ?_) ?_
        · have s2 : S 12 = true := hd.come 16 13 12 (by decide) (hSd 13 (by decide)) (by decide)
          have s1 : S 6 = true := hd.come 16 12 6 (by decide) s2 (by decide)
          have s4 : S 15 = false := hd.not 16 hSk (by decide) (by decide)
          have hw : wv = w9 := by have hI := hI; simp only [List.map, hSk, s1, s2] at hI; exact hI
          subst hw
          exact relAtI.valueS (by kernel_rfl) (by kernel_rfl) (run_build_afileW _ _ _ _ _) ⟨trivial, by simp only [List.map, setB, s1, s2, s4]; exact HW73.out.symm⟩ rfl
        refine RegHeadI.cons (fun S wv hd hSk hSd hI h => ?_) ?_
        · have s3 : S 14 = true := hSd 14 (by decide)
          have s2 : S 12 = true := hd.come 16 14 12 (by decide) s3 (by decide)
          have s1 : S 6 = true := hd.come 16 12 6 (by decide) s2 (by decide)
          have hw : wv = w73 := by have hI := hI; simp only [List.map, hSk, s1, s2, s3] at hI; exact hI
          subst hw
          exact relAtI.valueS (by kernel_rfl) (by kernel_rfl) HRUN8.out ⟨trivial, by simp only [List.map, setB, s1, s2, s3]; rfl⟩ rfl
        exact trivial
      · have hw : wv = w8 := hI
        subst hw
        clear h hI
        refine wp_frame2 (ps := [(11, [(.slice B i D : Value), (.slice (some ⟨b, o, none⟩) l.length C : Value), (.int .i64 (i : Int) : Value), (.pointer (some ⟨b, o + i * 2, none⟩) : Value), (.pointer (some ⟨b, o + i * 2, none⟩) : Value), (strV s), (.slice (some ⟨wr.drew.heap.size, 0, none⟩) 0 0 : Value), (.slice (some ⟨b, o, none⟩) l.length C : Value), (.int .i64 (i : Int) : Value), (.pointer (some ⟨b, o + i * 2, none⟩) : Value), (.pointer (some ⟨b, o + i * 2 + 1, none⟩) : Value), (.slice Bp y.length cp : Value), (.slice B9 y.length D9 : Value), (.agg #[strV s, .slice B9 y.length D9] : Value), (.slice (some ⟨w9.heap.size, 0, none⟩) 1 1 : Value), (.slice B8 (i + 1) D8 : Value)])]) (by kernel_rfl) ?_
        simp only [overlay, List.take, List.drop, List.cons_append, List.nil_append, List.length_cons, List.length_nil, Nat.reduceAdd]
      -- END5
        go_wp2
        have ho9 : OwnR w9 5 1 B9 y.length D9 (y.map V8) b9 := by simpa using HO9.out
        have hT9 : Txt w73 B9 y.length D9 y := (ho9.txt).below (by rw [HW73.out]; exact low1 _ _)
        have hb9 : ∀ ad, B9 = some ad → wr.heap.size ≤ ad.block := fun ad had => by
          obtain ⟨k, hk, hkl⟩ : ∃ k, b9 = some k ∧ wr.heap.size ≤ k := by
            rcases HB9.out with e | e
            · exact ⟨_, e, Nat.le_refl _⟩
            · exact ⟨_, e, by rw [HW71.out]; simp⟩
          rw [hk] at ho9
          rw [own_addr ho9] at had
          rw [← Option.some.inj had]
          exact hkl
        have hbs : w.heap.size ≤ wr.heap.size := hI.out.2.2.2.2.size
        have hbn := (hI.out.2.1.below H73.out).push (fileEl (s, y) (B9, D9)) HG8.out (by have := HO8.out; exact this) HB8.out (Nat.le_trans hbs H73.out.size) (fun q hq => by
          obtain rfl := List.mem_singleton.1 (show q ∈ [(B9, D9, y)] from hq)
          refine ⟨hT9, fun ad had => ⟨Nat.le_trans hbs (hb9 ad had), fun e => ?_⟩⟩
          have h1 := hI.out.2.1.row.lt _ e
          have h2 := hb9 ad had
          omega)
        rw [zip_next fileEl HP.out hI.out.2.2.1] at hbn
        have hlow8 : RowKit.Below w.heap.size w wv := (bthen hI.out.2.2.2.2 H73.out).grown HG8.out (Nat.le_trans hbs H73.out.size) (fun b hb => hI.out.2.1.fresh b hb)
        exact ⟨⟨i + 1, B8, D8, qs ++ [(B9, D9)], b8, rfl, by simp, Lib.hid ⟨by omega, hbn, by simp [hI.out.2.2.1], fun h => by omega, hlow8⟩⟩, by simp [intOf]; omega⟩
    · obtain rfl : i = l.length := by have := hI.out.1; omega
      have h1 : ¬ (l.length : Int) < (l.length : Int) := by omega
      go_wp2
      go_ret
      have hq := hI.out.2.1
      rw [List.take_length] at hq
      exact ⟨B, D, rfl, hq.files hI.out.2.2.1 rfl (fun ad had e => by
        rcases hq.row.form with ⟨_, h0, _⟩ | ⟨g2, _, _, h2, _⟩
        · have := hI.out.2.2.2.1 h0
          rw [this] at had; cases had
        · rw [e] at h2; cases h2), hI.out.2.2.2.2⟩
end Go.Proofs.YtgpenpnobjecgaaGreatDoor

/- LawE -/
namespace Go.Proofs.YtgpenpnobjecgaaGreatDoor
set_option maxRecDepth 100000
open Go.RowKit Dk

section
variable {w w1 W : World} {g dg : Nat} {d d' : DiskS} {q : Nat}
theorem run_arm (h : DRun w w1 dg d) (n : Int) (hn : n ≤ 9223372036854775807) : Calls Tryz.prog 30 #[ptrV dg, .int .i64 n] w1 fun e w' => e = .returned (.tuple #[]) ∧ DRun w w' dg (Dk.arm d n) := by
  obtain ⟨recs, own, hd, hO, hf, hl⟩ := h
  have hm : foot own dg := DAtU.mine hd
  refine (arm_any hd hO n hn).mono ?_
  rintro e w2 ⟨rfl, hd2, hO2, hk⟩
  exact ⟨rfl, recs, own, hd2, hO2, hf, ((Kept.of_below (F := foot own) hl).then (hk.mono fun b _ e => e ▸ hm)).below fun b hlt h => by have := hf b h; omega⟩
theorem run_open_none (hT : Tabs6 w) (h : DRun w w1 dg d) (hr : openW d = (d', none, q)) :
    Calls Tryz.prog 16 #[ptrV dg] w1 fun e w' => e = .returned (.tuple #[.pointer none, .int .i64 q]) ∧ DRun w w' dg d' := by
  obtain ⟨recs, own, hd, hO, hf, hl⟩ := h
  have hop := wopen_any hd hO (w0 := w) ⟨hT, hl, hf⟩
  rw [hr] at hop
  refine hop.mono ?_
  rintro e w2 ⟨hO2, recs2, own2, hd2, ht2, he⟩
  have he' : e = .returned (.tuple #[.pointer none, .int .i64 q]) := he
  subst he'
  refine ⟨rfl, recs2, own2, hd2, hO2, fun b hb => ?_, ((Kept.of_below (F := foot own) hl).then ht2.kept).below fun b hlt hf2 => by have := hf b hf2; omega⟩
  rcases Nat.lt_or_ge b w1.heap.size with h | h
  · exact hf b (ht2.foot b h hb)
  · exact Nat.le_trans hl.size h
theorem run_new_none {l : List (Bs × Bs)} {A : Option Addr} {C : Nat} {G : Nat → Prop} (hF : FilesAt W A l.length C l G) {R : Int} (hR : -9223372036854775808 ≤ R ∧ R ≤ 9223372036854775807) (hn : ∀ p ∈ l, p.1.length ≤ maxLen) (hll : l.length ≤ 4611686018427387904) (hr : Dk.new l R = (none, q)) :
    Calls Tryz.prog 13 #[.slice A l.length C, .int .i64 R] W fun e w' => e = .returned (.tuple #[.pointer none, .int .i64 q]) ∧ RowKit.Below W.heap.size W w' := by
  refine (new_any l A C G hF R hR hn hll).mono ?_
  rw [hr]
  rintro e w' ⟨hb, he⟩
  exact ⟨he, hb⟩
end
end Go.Proofs.YtgpenpnobjecgaaGreatDoor
