/- WalSafe in plain Lean: what a book says of a log, and what a failure leaves of a log in use. -/
import Derived.Test.YtgpenpnobjecgaaGreatDoorJWalSafeCard31
import Derived.Test.YtgpenpnobjecgaaGreatDoorJWalSafeCard35
import Derived.Test.YtgpenpnobjecgaaGreatDoorJWalSafeCard36
import Derived.Test.YtgpenpnobjecgaaGreatDoorJWalSafeCard38
import Derived.Test.YtgpenpnobjecgaaGreatDoorJWalSafeCard39
/- DoorY -/
namespace Go.Proofs.YtgpenpnobjecgaaGreatDoor
set_option maxRecDepth 100000
open Go.ChangeShapes Go.WideShapes Go.ChangeAt Go.RowKit

theorem cellsAfile : Tryz.prog.cellsOf 35 = 2 := by kernel_rfl
theorem cellsAfiles : Tryz.prog.cellsOf 36 = 1 := by kernel_rfl
theorem cellsInts : Tryz.prog.cellsOf 54 = 1 := by kernel_rfl
theorem cellsCrash : Tryz.prog.cellsOf 56 = 2 := by kernel_rfl
theorem cellsAgain : Tryz.prog.cellsOf 58 = 5 := by kernel_rfl
theorem cellsStrW : Tryz.prog.cellsOf 9 = 1 := by kernel_rfl
theorem take_two {α : Type} {L : List α} (hl : L.length = 2) {v0 v1 : α} (h0 : (L.drop 0).take 1 = [v0]) (h1 : (L.drop 1).take 1 = [v1]) : L = [v0, v1] := by
  match L, hl with
  | [a, b], _ =>
    simp at h0 h1
    rw [h0, h1]
section
variable {H : Type} {enc : TypeId × Value → H}
theorem bulk_agg (ds : List (DataW H)) {d : DataW H} (h : d ∈ ds) : Rows.uptoBulk d + 1 ≤ Rows.uptoBulk (DataW.agg ds) := by
  have := bulk_part h
  simp only [Rows.uptoBulk]
  omega
theorem open_str {W : World} {fuel : Nat} {cs : List Value} {x : DataW H × List MemPlace} (h : DataW.trod enc Tryz.prog W 0 (fun _ => true) true fuel 9 cs = some x) :
    ∃ s : List UInt8, cs = [strV s] ∧ s.length ≤ Rows.uptoBulk x.1 := by
  obtain ⟨s, h1, h2, _⟩ := DataW.trod_string Tryz.underlying9 h
  refine ⟨s.data.toList, ?_, ?_⟩
  · rw [h1]
    rfl
  · rw [h2]
    simp only [Rows.uptoBulk]
    omega
theorem open_afile {W : World} {fuel : Nat} {cs : List Value} {x : DataW H × List MemPlace} (h : DataW.trod enc Tryz.prog W 0 (fun _ => true) true fuel 35 cs = some x) :
    ∃ (s y : List UInt8) (B : Option Addr) (c : Nat), cs = [strV s, .slice B y.length c] ∧ TxtW W B y.length c y ∧ s.length ≤ Rows.uptoBulk x.1 ∧ y.length ≤ Rows.uptoBulk x.1 := by
  obtain ⟨xs, m, _, hx, hl, hxl, hi⟩ := DataW.trod_struct Tryz.underlying35 h
  rw [cellsAfile] at hl
  have hx2 : ∀ j, j < 2 → ∃ y, xs[j]? = some y := fun j hj => ⟨xs[j]'(by rw [hxl]; exact hj), List.getElem?_eq_getElem _⟩
  obtain ⟨y0, e0⟩ := hx2 0 (by omega)
  obtain ⟨y1, e1⟩ := hx2 1 (by omega)
  have f0 : DataW.trod enc Tryz.prog W 0 (fun _ => true) true m 9 ((cs.drop 0).take (Tryz.prog.cellsOf 9)) = xs[0]? := hi 0 _ rfl
  have f1 : DataW.trod enc Tryz.prog W 0 (fun _ => true) true m 22 ((cs.drop 1).take (Tryz.prog.cellsOf 22)) = xs[1]? := hi 1 _ rfl
  rw [e0, cellsStrW] at f0
  rw [e1, cellsBytes] at f1
  obtain ⟨s, g0, b0⟩ := open_str f0
  obtain ⟨B, c, y, g1, X, b1⟩ := open_txtW f1
  have hb : ∀ (j : Nat) (z : DataW H × List MemPlace), xs[j]? = some z → Rows.uptoBulk z.1 + 1 ≤ Rows.uptoBulk x.1 := fun j (z : DataW H × List MemPlace) hz => by
    rw [hx]
    exact bulk_agg _ (List.mem_map_of_mem (List.mem_of_getElem? hz))
  have h0 := hb 0 _ e0
  have h1 := hb 1 _ e1
  exact ⟨s, y, B, c, take_two hl g0 g1, X, by omega, by omega⟩
theorem cells_two {W : World} {a : Addr} {cs : List Value} (h : W.cells? 0 a 2 = some cs) : ∃ v u, cs = [v, u] ∧ W.cell? a = some v ∧ W.cell? (a.add 1) = some u := by
  unfold World.cells? at h
  rw [if_pos (Nat.zero_le _)] at h
  have e : a.add 0 = a := by cases a; rfl
  simp [List.range_succ, e] at h
  cases hc : W.cell? a with
  | none => rw [hc] at h; simp at h
  | some v =>
    rw [hc] at h
    cases hd : W.cell? (a.add 1) with
    | none => rw [hd] at h; simp at h
    | some u => rw [hd] at h; simp at h; exact ⟨v, u, h.symm, rfl, rfl⟩
theorem open_filesW {W : World} {fuel : Nat} {cs : List Value} {x : DataW H × List MemPlace} (h : DataW.trod enc Tryz.prog W 0 (fun _ => true) true fuel 36 cs = some x) :
    ∃ a c l, cs = [.slice a l.length c] ∧ FilesW W a l.length l ∧ l.length ≤ Rows.uptoBulk x.1 ∧ ∀ p ∈ l, p.1.length ≤ Rows.uptoBulk x.1 ∧ p.2.length ≤ Rows.uptoBulk x.1 := by
  rcases DataW.trod_slice Tryz.underlying36 h with ⟨rfl, rfl⟩ | ⟨a, len, cap, elems, rest, n, rfl, rfl, rfl, _, hl, hm, hlen, hel, _, _⟩
  · exact ⟨none, 0, [], rfl, ⟨rfl, fun i p hp => by simp at hp⟩, Nat.zero_le _, fun p hp => by cases hp⟩
  · rw [cellsAfile] at hel
    have key : ∀ i, i < len → ∃ B c s l v, W.cell? (a.add (i * 2)) = some (strV s) ∧ W.cell? ((a.add (i * 2)).add 1) = some (.slice B l.length c) ∧ TxtW W B l.length c l ∧ elems[i]? = some v ∧ s.length ≤ Rows.uptoBulk v.1 ∧ l.length ≤ Rows.uptoBulk v.1 := fun i hi => by
      have h1 := hel i hi
      obtain ⟨v, hv⟩ : ∃ v, elems[i]? = some v := ⟨_, List.getElem?_eq_getElem (by omega)⟩
      rw [hv] at h1
      obtain ⟨cs', h2, h3⟩ := Option.bind_eq_some_iff.1 h1
      obtain ⟨u, u2, rfl, h4, h4b⟩ := cells_two h2
      obtain ⟨s, l, B, c, h5, h6, h7, h8⟩ := open_afile h3
      obtain ⟨rfl, h9⟩ := List.cons.inj h5
      obtain rfl := (List.cons.inj h9).1
      exact ⟨B, c, s, l, v, h4, h4b, h6, hv, h7, h8⟩
    have pick : ∃ f : Nat → List UInt8 × List UInt8, ∀ i, i < len → ∃ B c v, W.cell? (a.add (i * 2)) = some (strV (f i).1) ∧ W.cell? ((a.add (i * 2)).add 1) = some (.slice B (f i).2.length c) ∧ TxtW W B (f i).2.length c (f i).2 ∧ elems[i]? = some v ∧ (f i).1.length ≤ Rows.uptoBulk v.1 ∧ (f i).2.length ≤ Rows.uptoBulk v.1 :=
      ⟨fun i => if h : i < len then ((key i h).choose_spec.choose_spec.choose, (key i h).choose_spec.choose_spec.choose_spec.choose) else ([], []), fun i hi => by
        have hs := (key i hi).choose_spec.choose_spec.choose_spec.choose_spec
        simp only [dif_pos hi]
        exact ⟨_, _, hs⟩⟩
    obtain ⟨f, hf⟩ := pick
    have hlf : ((List.range len).map f).length = len := by simp
    have hbig : ∀ v ∈ elems, Rows.uptoBulk v.1 ≤ Rows.uptoBulk (DataW.slice (elems.map (·.1)) (rest.map (·.1))) := fun v hv => by
      have := bulk_part (List.mem_map_of_mem (f := (·.1)) hv)
      simp only [Rows.uptoBulk]
      omega
    refine ⟨some a, cap, (List.range len).map f, by rw [hlf], ⟨rfl, fun i p hp => ?_⟩, ?_, fun p hp => ?_⟩
    · have hi : i < len := by have := (List.getElem?_eq_some_iff.1 hp).1; rwa [hlf] at this
      have hfi : f i = p := by simpa [hi] using hp
      obtain ⟨B, c, v, h1, h1b, h2, _⟩ := hf i hi
      rw [hfi] at h1 h1b h2
      obtain ⟨B0, c0, v0, h10, _⟩ := hf 0 (by omega)
      have hb : (a.add (0 * 2)).spot = none := cell_plain h10
      have ha : a = ⟨a.block, a.off, none⟩ := by
        obtain ⟨ab, ao, sp⟩ := a
        cases sp with
        | none => rfl
        | some s => simp [Addr.add] at hb
      rw [ha, Addr.add_lit] at h1 h1b
      rw [Addr.add_lit] at h1b
      exact ⟨a.block, a.off, B, c, by rw [← ha], h1, h1b, h2⟩
    · rw [hlf]
      have h1 := bulk_length (H := H) (elems.map (·.1))
      rw [List.length_map, hlen] at h1
      simp only [Rows.uptoBulk]
      omega
    · obtain ⟨i, hi, rfl⟩ := List.mem_map.1 hp
      obtain ⟨B, c, v, _, _, _, h3, h4, h5⟩ := hf i (by simpa using hi)
      have := hbig v (List.mem_of_getElem? h3)
      simp only at this ⊢
      omega
theorem range_i64 {zs : List Int} (hw : ∀ n ∈ zs, (Lit.int .i64 n).wf = true) {i : Nat} {x : Int} (h : zs[i]? = some x) : -9223372036854775808 ≤ x ∧ x ≤ 9223372036854775807 := by
  have hw := hw x (List.mem_of_getElem? h)
  simp only [Lit.wf, Bool.and_eq_true, decide_eq_true_eq] at hw
  have h1 : IntKind.i64.min ≤ x := hw.1
  have h2 : x ≤ IntKind.i64.max := hw.2
  have h3 : IntKind.i64.min = -9223372036854775808 := by decide
  have h4 : IntKind.i64.max = 9223372036854775807 := by decide
  exact ⟨by omega, by omega⟩
theorem open_intsW {W : World} {fuel : Nat} {cs : List Value} {x : DataW H × List MemPlace} (h : DataW.trod enc Tryz.prog W 0 (fun _ => true) true fuel 54 cs = some x) :
    ∃ a c l, cs = [.slice a l.length c] ∧ IntsW W a l.length l := by
  rcases open_ints Tryz.underlying54 Tryz.underlying3 cellsInt h with ⟨rfl, rfl⟩ | ⟨a, len, cap, zs, rfl, _, hl, hm, hz, rfl, hcell, hwz⟩
  · exact ⟨none, 0, [], rfl, ⟨rfl, fun i x hx => by simp at hx⟩⟩
  · simp only [if_true] at hz
    have hlen : (zs.take len).length = len := by simp; omega
    refine ⟨some a, cap, zs.take len, by rw [hlen], ⟨rfl, fun i x hx => ?_⟩⟩
    have hi : i < len := by have := (List.getElem?_eq_some_iff.1 hx).1; rwa [hlen] at this
    have hx2 : zs[i]? = some x := by rw [List.getElem?_take, if_pos hi] at hx; exact hx
    have hc0 := hcell 0 (by omega)
    have hci := hcell i (by omega)
    have hb := cell_plain hc0
    have ha : a = ⟨a.block, a.off, none⟩ := by
      obtain ⟨ab, ao, sp⟩ := a
      cases sp with
      | none => rfl
      | some s => simp [Addr.add] at hb
    rw [List.getD_eq_getElem?_getD, hx2] at hci
    rw [ha, Addr.add_lit] at hci
    exact ⟨a.block, a.off, by rw [← ha], hci, range_i64 hwz hx2⟩
theorem open_crash {W : World} {fuel : Nat} {cs : List Value} {x : DataW H × List MemPlace} (h : DataW.trod enc Tryz.prog W 0 (fun _ => true) true fuel 56 cs = some x) :
    ∃ (cd : Int) (l : List Int) (B : Option Addr) (c : Nat), cs = [.int .i64 cd, .slice B l.length c] ∧ (-9223372036854775808 ≤ cd ∧ cd ≤ 9223372036854775807) ∧ IntsW W B l.length l := by
  obtain ⟨xs, m, _, hx, hl, hxl, hi⟩ := DataW.trod_struct Tryz.underlying56 h
  rw [cellsCrash] at hl
  have hx2 : ∀ j, j < 2 → ∃ y, xs[j]? = some y := fun j hj => ⟨xs[j]'(by rw [hxl]; exact hj), List.getElem?_eq_getElem _⟩
  obtain ⟨y0, e0⟩ := hx2 0 (by omega)
  obtain ⟨y1, e1⟩ := hx2 1 (by omega)
  have f0 : DataW.trod enc Tryz.prog W 0 (fun _ => true) true m 3 ((cs.drop 0).take (Tryz.prog.cellsOf 3)) = xs[0]? := hi 0 _ rfl
  have f1 : DataW.trod enc Tryz.prog W 0 (fun _ => true) true m 54 ((cs.drop 1).take (Tryz.prog.cellsOf 54)) = xs[1]? := hi 1 _ rfl
  rw [e0, cellsInt] at f0
  rw [e1, cellsInts] at f1
  obtain ⟨cd, g0, hcd⟩ := trod_i64 f0
  obtain ⟨B, c, l, g1, X⟩ := open_intsW f1
  exact ⟨cd, l, B, c, take_two hl g0 g1, hcd, X⟩
set_option maxRecDepth 100000 in
theorem open_againV {W : World} {base : Nat} {v : Value} {d : DataW H} {p : List MemPlace} (hval : Value.okWide Tryz.prog W .any base 58 v) (h : DataW.Trod enc Tryz.prog W 0 (fun _ => true) true 58 v d p) :
    ∃ (fs : List (List UInt8 × List UInt8)) (room n cd : Int) (tails : List Int) (FA TA : Option Addr) (FC TC : Nat), v = againV FA fs.length FC room n cd TA tails.length TC ∧ FilesW W FA fs.length fs ∧ fs.length ≤ Rows.uptoBulk d ∧ (∀ p ∈ fs, p.1.length ≤ Rows.uptoBulk d ∧ p.2.length ≤ Rows.uptoBulk d) ∧
      (-9223372036854775808 ≤ room ∧ room ≤ 9223372036854775807) ∧ (-9223372036854775808 ≤ n ∧ n ≤ 9223372036854775807) ∧ (-9223372036854775808 ≤ cd ∧ cd ≤ 9223372036854775807) ∧ IntsW W TA tails.length tails := by
  obtain ⟨cs, rfl, hsz⟩ := okWide_struct Tryz.underlying58 hval
  obtain ⟨fuel, hf⟩ := h
  obtain ⟨xs, m, _, hxx, hl, hxl, hi⟩ := DataW.trod_struct Tryz.underlying58 hf
  have hcl : (Value.agg cs).cells.toList = cs.toList := rfl
  rw [hcl] at hl hi
  obtain ⟨L, hL⟩ : ∃ L, L = cs.toList := ⟨_, rfl⟩
  rw [← hL] at hl hi
  rw [cellsAgain] at hl
  have hx : ∀ j, j < 4 → ∃ y, xs[j]? = some y := fun j hj => ⟨xs[j]'(by rw [hxl]; exact hj), List.getElem?_eq_getElem _⟩
  obtain ⟨y0, e0⟩ := hx 0 (by omega)
  obtain ⟨y1, e1⟩ := hx 1 (by omega)
  obtain ⟨y2, e2⟩ := hx 2 (by omega)
  obtain ⟨y3, e3⟩ := hx 3 (by omega)
  have f0 : DataW.trod enc Tryz.prog W 0 (fun _ => true) true m 36 ((L.drop 0).take (Tryz.prog.cellsOf 36)) = xs[0]? := hi 0 _ rfl
  have f1 : DataW.trod enc Tryz.prog W 0 (fun _ => true) true m 3 ((L.drop 1).take (Tryz.prog.cellsOf 3)) = xs[1]? := hi 1 _ rfl
  have f2 : DataW.trod enc Tryz.prog W 0 (fun _ => true) true m 3 ((L.drop 2).take (Tryz.prog.cellsOf 3)) = xs[2]? := hi 2 _ rfl
  have f3 : DataW.trod enc Tryz.prog W 0 (fun _ => true) true m 56 ((L.drop 3).take (Tryz.prog.cellsOf 56)) = xs[3]? := hi 3 _ rfl
  rw [e0, cellsAfiles] at f0
  rw [e1, cellsInt] at f1
  rw [e2, cellsInt] at f2
  rw [e3, cellsCrash] at f3
  obtain ⟨FA, FC, fs, g0, X, b1, b2⟩ := open_filesW f0
  obtain ⟨room, g1, hr⟩ := trod_i64 f1
  obtain ⟨n, g2, hn⟩ := trod_i64 f2
  obtain ⟨cd, tails, TA, TC, g3, hcd, Y⟩ := open_crash f3
  have hb : Rows.uptoBulk y0.1 + 1 ≤ Rows.uptoBulk d := by
    injection hxx with hxx _
    rw [hxx]
    exact bulk_agg _ (List.mem_map_of_mem (List.mem_of_getElem? e0))
  have hrow : L = [.slice FA fs.length FC, .int .i64 room, .int .i64 n, .int .i64 cd, .slice TA tails.length TC] := by
    match L, hl with
    | [v0, v1, v2, v3, v4], _ =>
      simp at g0 g1 g2 g3
      rw [g0, g1, g2, g3.1, g3.2]
  refine ⟨fs, room, n, cd, tails, FA, TA, FC, TC, ?_, X, by omega, fun p hp => ?_, hr, hn, hcd, Y⟩
  · unfold againV
    congr 1
    apply Array.toList_inj.1
    rw [← hL, hrow]
  · have := b2 p hp
    omega
end
end Go.Proofs.YtgpenpnobjecgaaGreatDoor

/- Told -/
namespace Go.Proofs.YtgpenpnobjecgaaGreatDoor
set_option maxRecDepth 100000
open Go.RowKit Dk

/-- A Book, as a value. -/
def bookV (sA : Option Addr) (sn sC : Nat) (rA : Option Addr) (rn rC safe : Nat) (nA : Option Addr) (nn nC : Nat) (maybe : Bool) : Value := .agg #[.slice sA sn sC, .slice rA rn rC, .int .i64 safe, .slice nA nn nC, .bool maybe]
theorem Sole.base {w0 wb w : World} {l : List Bs} {A : Option Addr} {C : Nat} {blk : Option Nat} {qs : List (Nat × Nat)} (h : Sole w0 w l A C blk qs) (hs : wb.heap.size ≤ w0.heap.size) : Sole wb w l A C blk qs :=
  ⟨h.row, h.len, h.own, h.nodup, fun q hq => ⟨Nat.le_trans hs (h.new q hq).1, (h.new q hq).2⟩, fun b hb => Nat.le_trans hs (h.rnew b hb), h.rnil⟩
set_option maxRecDepth 100000 in
set_option maxHeartbeats 1000000 in
theorem l6told_any {w w1 : World} {g dg : Nat} {d : DiskS} {L : LogS} {s : Bs} {rs : List Bs} (h : Run w w1 g dg d L) (hs : L.state = s) (hr : L.records = rs) :
    Calls Tryz.prog 40 #[ptrV g] w1 fun e w' => ∃ k sC rA rC blk qs, e = .returned (bookV (some ⟨k, 0, none⟩) s.length sC rA rs.length rC rs.length none 0 0 false) ∧ OwnR w' 5 1 (some ⟨k, 0, none⟩) s.length sC (s.map V8) (some k) ∧ w1.heap.size ≤ k ∧ blk ≠ some k ∧ Sole w1 w' rs rA rC blk qs ∧ RowKit.Below w1.heap.size w1 w' := by
  obtain ⟨w2, hw2⟩ : ∃ w2, w2 = w1.alloc (.cells #[.slice none 0 0, .slice none 0 0, .int .i64 0, .slice none 0 0, .bool false] 89) := ⟨_, rfl⟩
  have hb0 : RowKit.Below w1.heap.size w1 w2 := by rw [hw2]; exact low1 _ _
  have hblk : w2.heap[w1.heap.size]? = some (.cells #[.slice none 0 0, .slice none 0 0, .int .i64 0, .slice none 0 0, .bool false] 89 (0, 0)) := by rw [hw2]; exact blk1 _ _
  have H := Lib.hid (h.below hb0)
  have HB := Lib.hid hb0
  have HK := Lib.hid hblk
  have HS := Lib.hid hs
  have HR := Lib.hid hr
  have hrc := run_recordsS H.out HR.out
  unfold ptrV at hrc
  have HRC := Lib.hid hrc
  clear h hs hr hb0 hblk hrc
  unfold ptrV bookV
  go_enter Tryz.func40, Tryz.ntmps40
  go_wp2_with fail
  rw [← hw2]
  clear hw2
  go_at_call 21
  refine HRC.out.mono ?_
  rintro e w3 ⟨A, C, rfl, ⟨blk, qs, hS⟩, hb3⟩
  have H3 := Lib.hid (H.out.below hb3)
  have HLE := Lib.hid hb3.size
  have HK3 := Lib.hid (bblk hb3 HK.out)
  have HS3 := Lib.hid (show Sole w2 w3 rs A C blk qs ∧ RowKit.Below w1.heap.size w1 w3 from ⟨hS, bthen HB.out hb3⟩)
  have hst := run_stateS H3.out HS.out
  unfold ptrV at hst
  have HST := Lib.hid hst
  clear hS hb3 hst HRC
  go_wp2_with fail
  go_at_call 19
  refine HST.out.mono ?_
  rintro e w4 ⟨k, C4, ⟨rfl, hown, hnew, hlow⟩⟩
  have hk4 := bblk hlow HK3.out
  have hlt : k < w4.heap.size := hown.lt _ rfl
  have c0 : w4.cell? ⟨w1.heap.size, 0, none⟩ = some (.slice none 0 0) := cell_block hk4 rfl
  have c1 : w4.cell? ⟨w1.heap.size, 1, none⟩ = some (.slice none 0 0) := cell_block hk4 rfl
  have c2 : w4.cell? ⟨w1.heap.size, 2, none⟩ = some (.int .i64 0) := cell_block hk4 rfl
  have c3 : w4.cell? ⟨w1.heap.size, 3, none⟩ = some (.slice none 0 0) := cell_block hk4 rfl
  have c4 : w4.cell? ⟨w1.heap.size, 4, none⟩ = some (.bool false) := cell_block hk4 rfl
  have fz := frozen_row hk4
  have HX := Lib.hid (show OwnR w4 5 1 (some ⟨k, 0, none⟩) s.length C4 (s.map V8) (some k) ∧ w3.heap.size ≤ k ∧ k < w4.heap.size ∧ RowKit.Below w3.heap.size w3 w4 from ⟨hown, hnew, hlt, hlow⟩)
  have HK4 := Lib.hid hk4
  clear hown hnew hlow hk4 hlt
  go_wp2
  have e0 := setCell_one (k := 4) (setCell_one (k := 3) (setCell_one (k := 2) (setCell_one (k := 1) (setCell_one (k := 0) HK4.out (.slice (some ⟨k, 0, none⟩) s.length C4)) (.slice A rs.length C)) (.int .i64 rs.length)) (.slice none 0 0)) (.bool false)
  have hlw := Kept.setCell (Kept.setCell (Kept.setCell (Kept.setCell (Kept.setCell (Kept.refl (fun b => b = w1.heap.size) w4) ⟨w1.heap.size, 0, none⟩ (.slice (some ⟨k, 0, none⟩) s.length C4) (.inl rfl)) ⟨w1.heap.size, 1, none⟩ (.slice A rs.length C) (.inl rfl)) ⟨w1.heap.size, 2, none⟩ (.int .i64 rs.length) (.inl rfl)) ⟨w1.heap.size, 3, none⟩ (.slice none 0 0) (.inl rfl)) ⟨w1.heap.size, 4, none⟩ (.bool false) (.inl rfl)
  generalize ((((w4.setCell ⟨w1.heap.size, 0, none⟩ (.slice (some ⟨k, 0, none⟩) s.length C4)).setCell ⟨w1.heap.size, 1, none⟩ (.slice A rs.length C)).setCell ⟨w1.heap.size, 2, none⟩ (.int .i64 rs.length)).setCell ⟨w1.heap.size, 3, none⟩ (.slice none 0 0)).setCell ⟨w1.heap.size, 4, none⟩ (.bool false) = W at e0 hlw ⊢
  refine bodyPost_ret (v := .agg #[.slice (some ⟨k, 0, none⟩) s.length C4, .slice A rs.length C, .int .i64 rs.length, .slice none 0 0, .bool false]) ?_ rfl ?_
  · have q0 := cell_block (j := 0) (v := .slice (some ⟨k, 0, none⟩) s.length C4) e0 rfl
    have q1 := cell_block (j := 1) (v := .slice A rs.length C) e0 rfl
    have q2 := cell_block (j := 2) (v := .int .i64 rs.length) e0 rfl
    have q3 := cell_block (j := 3) (v := .slice none 0 0) e0 rfl
    have q4 := cell_block (j := 4) (v := .bool false) e0 rfl
    clear e0 hlw c0 c1 c2 c3 c4 fz
    simp [results, Tryz.results40, go_sem, q0, q1, q2, q3, q4]
    done
  · have hs1 := HB.out.size
    have hs3 := HS3.out.2.size
    have h1k : w1.heap.size < w2.heap.size := in_heap HK.out
    have h2le : w2.heap.size ≤ w3.heap.size := HLE.out
    refine ⟨k, C4, A, C, blk, qs, rfl, HX.out.1.kept hlw (fun b hb e => ?_), by have := HX.out.2.1; omega, fun e => by have := HX.out.2.1; have := HS3.out.1.row.lt _ e; omega, ((HS3.out.1.below HX.out.2.2.2).kept hlw fun b h1 _ e => by omega).base (Nat.le_of_lt h1k), ?_⟩
    · obtain rfl := Option.some.inj hb
      have := HX.out.2.1
      omega
    · exact ((Kept.of_below (F := fun b => b = w1.heap.size) (bthen HS3.out.2 HX.out.2.2.2)).then hlw).below fun b hlt e => by omega
end Go.Proofs.YtgpenpnobjecgaaGreatDoor

/- CutLaw -/
namespace Go.Proofs.YtgpenpnobjecgaaGreatDoor
set_option maxRecDepth 100000
open Go.RowKit Dk

theorem groups_next : ∀ n, (groups (n + 1)).length ≤ (groups n).length + 1 := by
  intro n
  induction n using Nat.strongRecOn with
  | _ n ih =>
    by_cases h : n < 128
    · rw [groups_small h]
      by_cases h1 : n + 1 < 128
      · rw [groups_small h1]; simp
      · rw [groups_more h1, groups_small (by omega)]; simp
    · rw [groups_more h, groups_more (show ¬ n + 1 < 128 by omega)]
      by_cases h2 : (n + 1) / 128 = n / 128
      · rw [h2]; simp
      · have h3 : (n + 1) / 128 = n / 128 + 1 := by omega
        rw [h3]
        have := ih (n / 128) (by omega)
        simp only [List.length_cons]
        omega
theorem bytes_next (n : Nat) (s : Bs) (rs : List Bs) : (bytesW (n + 1) s rs).length ≤ (bytesW n s rs).length + 1 := by
  unfold bytesW
  rw [List.length_append, List.length_append, sealW_len, sealW_len]
  have := groups_next n
  omega
theorem cuts_plain {n : Nat} {st p : Bs} {rs : List Bs} {cut : Nat} (h1 : 1 ≤ n) (h2 : n < 1099511627776) (hs : st.length ≤ 1048576) (hr : ∀ r ∈ rs, r.length ≤ 65536) (hc : rs.length ≤ 10000) (hp : p.length ≤ 65536)
    (hsum : (bytesW n st rs).length + (sealW 2 (rs.length + 1) p).length ≤ 4194304) (hcut : cut < (sealW 2 (rs.length + 1) p).length) :
    ∃ d, Dk.new [(nameW n, bytesW n st rs ++ (sealW 2 (rs.length + 1) p).take cut)] ((3 * ((bytesW n st rs).length + (sealW 2 (rs.length + 1) p).length) : Nat) : Int) = (some d, 0) ∧
      (Ok d → ∃ d' sz, openW d = (d', some ⟨if 0 < cut then n + 1 else n, st, rs, sz, cut, false⟩, 0) ∧
        Dk.left d' 0 [] = [(nameW (if 0 < cut then n + 1 else n), bytesW (if 0 < cut then n + 1 else n) st rs)]) := by
  have hg := groups_len (rs.length + 1) (by omega)
  have hfl : (sealW 2 (rs.length + 1) p).length = 9 + ((groups (rs.length + 1)) ++ p).length := by rw [sealW_len, List.length_append]; omega
  have htorn : Torn ((sealW 2 (rs.length + 1) p).take cut) := torn_take 2 _ cut (by omega) (by rw [List.length_append]; omega)
  have hread := readB_bytes (n := n) (s := st) (rs := rs) ⟨by omega, hs, hr, by omega⟩ htorn
  have hxl : (bytesW n st rs ++ (sealW 2 (rs.length + 1) p).take cut).length = (bytesW n st rs).length + cut := by rw [List.length_append, List.length_take]; omega
  have hnx := bytes_next n st rs
  rw [List.length_take, Nat.min_eq_left (by omega)] at hread
  obtain ⟨d, e, S, o, r⟩ := solo_new (n := n) (by omega) (x := bytesW n st rs ++ (sealW 2 (rs.length + 1) p).take cut) (R := 3 * ((bytesW n st rs).length + (sealW 2 (rs.length + 1) p).length)) (by omega) (by omega)
  refine ⟨d, e, fun hO => ?_⟩
  by_cases h0 : 0 < cut
  · simp only [if_pos h0]
    obtain ⟨d', e', S', _, _⟩ := open_torn S hO h1 h2 (by omega) h0 hread (by omega) (by omega)
    refine ⟨d', _, e', ?_⟩
    rw [solo_left S']
    simp
  · obtain rfl : cut = 0 := by omega
    simp only [Nat.lt_irrefl, if_false]
    obtain ⟨d', e', S', _, _⟩ := open_whole S h1 (by omega) (by omega) hread
    refine ⟨d', _, e', ?_⟩
    rw [solo_left S']
    simp
end Go.Proofs.YtgpenpnobjecgaaGreatDoor

/- Safe1 -/
namespace Go.Proofs.YtgpenpnobjecgaaGreatDoor
set_option maxRecDepth 100000
open Go.RowKit Dk

structure BookS where
  state : Bs
  records : List Bs
  safe : Nat
  new : Bs
  maybe : Bool
/-- A log may tell this, by the book. -/
def FitsB (b : BookS) (s : Bs) (rs : List Bs) : Prop := (b.maybe = true ∧ rs = [] ∧ s = b.new) ∨ (b.safe ≤ rs.length ∧ rs.length ≤ b.records.length ∧ s = b.state ∧ rs = b.records.take rs.length)
def toldB (s : Bs) (rs : List Bs) : BookS := ⟨s, rs, rs.length, [], false⟩
/-- Names up to a generation. -/
def NmE (E : Nat) (s : Bs) : Prop := s = tempW ∨ ∃ n, 1 ≤ n ∧ n ≤ E ∧ s = nameW n
def GoodB (R E : Nat) (b : BookS) (fs : Files) : Prop := ∃ s rs, FitsB b s rs ∧ GoodT True R (NmE E) s rs fs
theorem NmE.more {E E' : Nat} {s : Bs} (h : NmE E s) (he : E ≤ E') : NmE E' s := h.imp id fun ⟨n, h1, h2, h3⟩ => ⟨n, h1, by omega, h3⟩
theorem GoodT.more {ex : Prop} {R E E' : Nat} {s : Bs} {rs : List Bs} {fs : Files} (h : GoodT ex R (NmE E) s rs fs) (he : E ≤ E') : GoodT ex R (NmE E') s rs fs := ⟨h.1, h.2.1, fun p hp => (h.2.2 p hp).more he⟩
theorem nmE_ok {E : Nat} {fs : Files} (hE : E < 9223372036854775807) (h : ∀ p ∈ fs, NmE E p.1) : NmOk (NmE (E + 1)) fs :=
  ⟨fun p hp => (h p hp).more (Nat.le_succ E), .inl rfl, .inr ⟨1, Nat.le_refl _, by omega, rfl⟩, fun m b hN => by
    rcases h _ hN.mem with e | ⟨n, h1, h2, h3⟩
    · exact absurd e.symm (temp_ne m)
    · have := hN.hi
      have := nameW_inj (by omega) (by omega) h3
      exact .inr ⟨m + 1, by omega, by omega, rfl⟩⟩

/-! ### a generation cut off somewhere -/
theorem bytesW_push (e : Nat) (st : Bs) (recs : List Bs) (r : Bs) : bytesW e st (recs ++ [r]) = bytesW e st recs ++ sealW 2 (recs.length + 1) r := by
  unfold bytesW
  rw [recsW_push, List.append_assoc, Nat.add_comm 1]
theorem bytesW_take (e : Nat) (st : Bs) (recs : List Bs) {q : Nat} {r : Bs} (h : recs[q]? = some r) : bytesW e st (recs.take (q + 1)) = bytesW e st (recs.take q) ++ sealW 2 (q + 1) r := by
  have hlt := (List.getElem?_eq_some_iff.1 h).1
  rw [List.take_add_one, h, Option.toList_some, bytesW_push, List.length_take, Nat.min_eq_left (by omega)]
theorem recsW_app : ∀ (a b : List Bs) (k : Nat), recsW k (a ++ b) = recsW k a ++ recsW (k + a.length) b
  | [], b, k => by simp [recsW]
  | x :: a, b, k => by
    show sealW 2 k x ++ recsW (k + 1) (a ++ b) = sealW 2 k x ++ recsW (k + 1) a ++ recsW (k + (x :: a).length) b
    rw [recsW_app a b (k + 1), List.append_assoc, List.length_cons, show k + 1 + a.length = k + (a.length + 1) by omega]
theorem bytesW_grow (e : Nat) (st : Bs) (recs : List Bs) (q : Nat) : ∃ t, bytesW e st recs = bytesW e st (recs.take q) ++ t := by
  refine ⟨recsW (1 + (recs.take q).length) (recs.drop q), ?_⟩
  conv => lhs; rw [← List.take_append_drop q recs]
  unfold bytesW
  rw [recsW_app, List.append_assoc]
/-- Cut somewhere behind its first j records: so many whole ones, and a torn tail. -/
theorem cut_bytes {e : Nat} {st : Bs} {recs : List Bs} (hr : ∀ r ∈ recs, r.length ≤ 65536) (hm : recs.length < 4194305) {t : Nat} : ∀ (k j : Nat), j + k = recs.length → (bytesW e st (recs.take j)).length ≤ t →
    ∃ q tail, j ≤ q ∧ q ≤ recs.length ∧ (bytesW e st recs).take t = bytesW e st (recs.take q) ++ tail ∧ Torn tail ∧ (0 < tail.length → q < recs.length)
  | 0, j, hj, ht => by
    have hj : recs.length ≤ j := by omega
    rw [List.take_of_length_le hj] at ht
    exact ⟨j, [], Nat.le_refl _, by omega, by rw [List.take_of_length_le hj, List.append_nil, List.take_of_length_le ht], .inl rfl, fun h => by simp at h⟩
  | k + 1, j, hj, ht => by
    have hlt : j < recs.length := by omega
    obtain ⟨r, hrj⟩ : ∃ r, recs[j]? = some r := ⟨_, List.getElem?_eq_getElem hlt⟩
    have hnx := bytesW_take e st recs hrj
    by_cases h2 : (bytesW e st (recs.take (j + 1))).length ≤ t
    · obtain ⟨q, tail, h3, h4, h5, h6, h7⟩ := cut_bytes hr hm k (j + 1) (by omega) h2
      exact ⟨q, tail, by omega, h4, h5, h6, h7⟩
    · obtain ⟨z, hz⟩ := bytesW_grow e st recs (j + 1)
      rw [hnx, List.length_append] at h2
      refine ⟨j, (sealW 2 (j + 1) r).take (t - (bytesW e st (recs.take j)).length), Nat.le_refl _, by omega, ?_, ?_, fun _ => hlt⟩
      · rw [hz, hnx, List.append_assoc, List.take_append, List.take_of_length_le ht, List.take_append_of_le_length (by omega)]
      · have hl := hr r (List.mem_of_getElem? hrj)
        have hg := groups_len (j + 1) (by omega)
        unfold sealW
        refine torn_take 2 _ _ ?_ (by rw [List.length_append]; omega)
        have : (sealW 2 (j + 1) r).length = 9 + (groups (j + 1) ++ r).length := by unfold sealW; rw [sealed_len]
        omega
/-- A log in use: its one generation, safe up to its record j. -/
structure InUse (R : Nat) (d : DiskS) (e : Nat) (st : Bs) (recs : List Bs) (i j : Nat) : Prop where
  live : d.dead = false
  room : d.room = R
  lo : 1 ≤ e
  hi : e ≤ 1099511627776
  dir : d.dir = [(nameW e, i)]
  safe : d.safe = [(nameW e, i)]
  chg : d.chg = []
  lt : i < d.files.length
  file : fileAt d.files i = ⟨bytesW e st recs, (bytesW e st (recs.take j)).length⟩
  part : j ≤ recs.length
  twice : j < recs.length → (bytesW e st recs).length + (bytesW e st recs).length ≤ R ∧ e < 1099511627776
  state : st.length ≤ 1048576
  small : ∀ r ∈ recs, r.length ≤ 65536
  len : (bytesW e st recs).length ≤ 4194304
  fits : (bytesW e st recs).length ≤ R
section
variable {R : Nat} {d : DiskS} {e : Nat} {st : Bs} {recs : List Bs} {i j : Nat}
theorem bytesW_count (e : Nat) (st : Bs) (recs : List Bs) : recs.length ≤ (bytesW e st recs).length := by
  have := recsW_count recs 1
  unfold bytesW
  rw [List.length_append]
  omega
theorem bytesW_le (e : Nat) (st : Bs) (recs : List Bs) (q : Nat) : (bytesW e st (recs.take q)).length ≤ (bytesW e st recs).length := by
  obtain ⟨t, ht⟩ := bytesW_grow e st recs q
  rw [ht, List.length_append]
  omega
/-- What its file tells when it is cut somewhere behind what is safe. -/
theorem InUse.cut (h : InUse R d e st recs i j) {g : Nat → Bs} (hg : CutAt d.files g i) : ∃ q wh cut, j ≤ q ∧ q ≤ recs.length ∧ (g i).length ≤ (bytesW e st recs).length ∧ readB (g i) e = some ⟨st, recs.take q, wh, cut⟩ ∧ (g i).take wh = bytesW e st (recs.take q) ∧ (0 < cut → e < 1099511627776 ∧ (g i).length + (bytesW (e + 1) st (recs.take q)).length ≤ R ∧ (bytesW (e + 1) st (recs.take q)).length ≤ 4194304) := by
  obtain ⟨t, ht, hgi⟩ := hg
  rw [h.file] at ht hgi
  simp only at ht hgi
  have hcnt := bytesW_count e st recs
  have hlen := h.len
  obtain ⟨q, tail, h1, h2, h3, h4, h5⟩ := cut_bytes (e := e) (st := st) h.small (by omega) (t := t) (recs.length - j) j (by have := h.part; omega) ht
  have hgo : GenOk e st (recs.take q) := ⟨by have := h.hi; omega, h.state, fun r hr => h.small r (List.mem_of_mem_take hr), by rw [List.length_take]; omega⟩
  have hread := readB_bytes hgo h4
  have hgl : (g i).length ≤ (bytesW e st recs).length := by rw [hgi, List.length_take]; omega
  rw [← h3, ← hgi] at hread
  refine ⟨q, _, _, h1, h2, hgl, hread, ?_, fun hc => ?_⟩
  · rw [hgi, h3, List.take_left]
  · obtain ⟨t1, t2⟩ := h.twice (by have := h5 hc; omega)
    have hn := bytes_next e st (recs.take q)
    have hgl2 : (g i).length = (bytesW e st (recs.take q)).length + tail.length := by rw [hgi, h3, List.length_append]
    exact ⟨t2, by omega, by omega⟩
theorem InUse.tells (h : InUse R d e st recs i j) {g : Nat → Bs} (hg : CutAt d.files g i) {fs : Files} (hN : Newest fs e (g i)) (hc : coreF fs = [(nameW e, g i)]) : ∃ q, j ≤ q ∧ q ≤ recs.length ∧ Tells True R fs st (recs.take q) := by
  obtain ⟨q, wh, cut, h1, h2, h3, h4, h5, h6⟩ := h.cut hg
  refine ⟨q, h1, h2, .gen e (g i) wh cut hN h4 (fun _ => h5) fun h0 => ⟨(h6 h0).1, ?_, ?_, (h6 h0).2.2⟩⟩
  · rw [hc]
    have := (h6 h0).2.1
    simp [fsum]
    omega
  · rw [hc]
    simp
end
end Go.Proofs.YtgpenpnobjecgaaGreatDoor
