/- THE CARD of WalAgain, second form: for arguments of bulk at most 1048576: the law answers true and the arguments read as they did. -/
import Derived.Test.YtgpenpnobjecgaaGreatDoorJWalAgainCard42
import Derived.Test.YtgpenpnobjecgaaGreatDoorJWalAgainCard48
/- DoorY -/
namespace Go.Proofs.YtgpenpnobjecgaaGreatDoor
set_option maxRecDepth 100000
open Go.ChangeShapes Go.WideShapes Go.ChangeAt Go.RowKit

theorem cellsAfile : Tryz.prog.cellsOf 35 = 2 := by kernel_rfl
theorem cellsAfiles : Tryz.prog.cellsOf 36 = 1 := by kernel_rfl
theorem cellsInts : Tryz.prog.cellsOf 54 = 1 := by kernel_rfl
theorem cellsCrash : Tryz.prog.cellsOf 56 = 2 := by kernel_rfl
theorem cellsAgain : Tryz.prog.cellsOf 58 = 5 := by kernel_rfl
theorem cellsStrW : Tryz.prog.cellsOf 9 = 1 := by kernel_rfl
theorem take_two {α : Type} {L : List α} (hl : L.length = 2) {v0 v1 : α} (h0 : (L.drop 0).take 1 = [v0]) (h1 : (L.drop 1).take 1 = [v1]) : L = [v0, v1] := by
  match L, hl with
  | [a, b], _ =>
    simp at h0 h1
    rw [h0, h1]
section
variable {H : Type} {enc : TypeId × Value → H}
theorem bulk_agg (ds : List (DataW H)) {d : DataW H} (h : d ∈ ds) : Rows.uptoBulk d + 1 ≤ Rows.uptoBulk (DataW.agg ds) := by
  have := bulk_part h
  simp only [Rows.uptoBulk]
  omega
theorem open_str {W : World} {fuel : Nat} {cs : List Value} {x : DataW H × List MemPlace} (h : DataW.trod enc Tryz.prog W 0 (fun _ => true) true fuel 9 cs = some x) :
    ∃ s : List UInt8, cs = [strV s] ∧ s.length ≤ Rows.uptoBulk x.1 := by
  obtain ⟨s, h1, h2, _⟩ := DataW.trod_string Tryz.underlying9 h
  refine ⟨s.data.toList, ?_, ?_⟩
  · rw [h1]
    rfl
  · rw [h2]
    simp only [Rows.uptoBulk]
    omega
theorem open_afile {W : World} {fuel : Nat} {cs : List Value} {x : DataW H × List MemPlace} (h : DataW.trod enc Tryz.prog W 0 (fun _ => true) true fuel 35 cs = some x) :
    ∃ (s y : List UInt8) (B : Option Addr) (c : Nat), cs = [strV s, .slice B y.length c] ∧ TxtW W B y.length c y ∧ s.length ≤ Rows.uptoBulk x.1 ∧ y.length ≤ Rows.uptoBulk x.1 := by
  obtain ⟨xs, m, _, hx, hl, hxl, hi⟩ := DataW.trod_struct Tryz.underlying35 h
  rw [cellsAfile] at hl
  have hx2 : ∀ j, j < 2 → ∃ y, xs[j]? = some y := fun j hj => ⟨xs[j]'(by rw [hxl]; exact hj), List.getElem?_eq_getElem _⟩
  obtain ⟨y0, e0⟩ := hx2 0 (by omega)
  obtain ⟨y1, e1⟩ := hx2 1 (by omega)
  have f0 : DataW.trod enc Tryz.prog W 0 (fun _ => true) true m 9 ((cs.drop 0).take (Tryz.prog.cellsOf 9)) = xs[0]? := hi 0 _ rfl
  have f1 : DataW.trod enc Tryz.prog W 0 (fun _ => true) true m 22 ((cs.drop 1).take (Tryz.prog.cellsOf 22)) = xs[1]? := hi 1 _ rfl
  rw [e0, cellsStrW] at f0
  rw [e1, cellsBytes] at f1
  obtain ⟨s, g0, b0⟩ := open_str f0
  obtain ⟨B, c, y, g1, X, b1⟩ := open_txtW f1
  have hb : ∀ (j : Nat) (z : DataW H × List MemPlace), xs[j]? = some z → Rows.uptoBulk z.1 + 1 ≤ Rows.uptoBulk x.1 := fun j (z : DataW H × List MemPlace) hz => by
    rw [hx]
    exact bulk_agg _ (List.mem_map_of_mem (List.mem_of_getElem? hz))
  have h0 := hb 0 _ e0
  have h1 := hb 1 _ e1
  exact ⟨s, y, B, c, take_two hl g0 g1, X, by omega, by omega⟩
theorem cells_two {W : World} {a : Addr} {cs : List Value} (h : W.cells? 0 a 2 = some cs) : ∃ v u, cs = [v, u] ∧ W.cell? a = some v ∧ W.cell? (a.add 1) = some u := by
  unfold World.cells? at h
  rw [if_pos (Nat.zero_le _)] at h
  have e : a.add 0 = a := by cases a; rfl
  simp [List.range_succ, e] at h
  cases hc : W.cell? a with
  | none => rw [hc] at h; simp at h
  | some v =>
    rw [hc] at h
    cases hd : W.cell? (a.add 1) with
    | none => rw [hd] at h; simp at h
    | some u => rw [hd] at h; simp at h; exact ⟨v, u, h.symm, rfl, rfl⟩
theorem open_filesW {W : World} {fuel : Nat} {cs : List Value} {x : DataW H × List MemPlace} (h : DataW.trod enc Tryz.prog W 0 (fun _ => true) true fuel 36 cs = some x) :
    ∃ a c l, cs = [.slice a l.length c] ∧ FilesW W a l.length l ∧ l.length ≤ Rows.uptoBulk x.1 ∧ ∀ p ∈ l, p.1.length ≤ Rows.uptoBulk x.1 ∧ p.2.length ≤ Rows.uptoBulk x.1 := by
  rcases DataW.trod_slice Tryz.underlying36 h with ⟨rfl, rfl⟩ | ⟨a, len, cap, elems, rest, n, rfl, rfl, rfl, _, hl, hm, hlen, hel, _, _⟩
  · exact ⟨none, 0, [], rfl, ⟨rfl, fun i p hp => by simp at hp⟩, Nat.zero_le _, fun p hp => by cases hp⟩
  · rw [cellsAfile] at hel
    have key : ∀ i, i < len → ∃ B c s l v, W.cell? (a.add (i * 2)) = some (strV s) ∧ W.cell? ((a.add (i * 2)).add 1) = some (.slice B l.length c) ∧ TxtW W B l.length c l ∧ elems[i]? = some v ∧ s.length ≤ Rows.uptoBulk v.1 ∧ l.length ≤ Rows.uptoBulk v.1 := fun i hi => by
      have h1 := hel i hi
      obtain ⟨v, hv⟩ : ∃ v, elems[i]? = some v := ⟨_, List.getElem?_eq_getElem (by omega)⟩
      rw [hv] at h1
      obtain ⟨cs', h2, h3⟩ := Option.bind_eq_some_iff.1 h1
      obtain ⟨u, u2, rfl, h4, h4b⟩ := cells_two h2
      obtain ⟨s, l, B, c, h5, h6, h7, h8⟩ := open_afile h3
      obtain ⟨rfl, h9⟩ := List.cons.inj h5
      obtain rfl := (List.cons.inj h9).1
      exact ⟨B, c, s, l, v, h4, h4b, h6, hv, h7, h8⟩
    have pick : ∃ f : Nat → List UInt8 × List UInt8, ∀ i, i < len → ∃ B c v, W.cell? (a.add (i * 2)) = some (strV (f i).1) ∧ W.cell? ((a.add (i * 2)).add 1) = some (.slice B (f i).2.length c) ∧ TxtW W B (f i).2.length c (f i).2 ∧ elems[i]? = some v ∧ (f i).1.length ≤ Rows.uptoBulk v.1 ∧ (f i).2.length ≤ Rows.uptoBulk v.1 :=
      ⟨fun i => if h : i < len then ((key i h).choose_spec.choose_spec.choose, (key i h).choose_spec.choose_spec.choose_spec.choose) else ([], []), fun i hi => by
        have hs := (key i hi).choose_spec.choose_spec.choose_spec.choose_spec
        simp only [dif_pos hi]
        exact ⟨_, _, hs⟩⟩
    obtain ⟨f, hf⟩ := pick
    have hlf : ((List.range len).map f).length = len := by simp
    have hbig : ∀ v ∈ elems, Rows.uptoBulk v.1 ≤ Rows.uptoBulk (DataW.slice (elems.map (·.1)) (rest.map (·.1))) := fun v hv => by
      have := bulk_part (List.mem_map_of_mem (f := (·.1)) hv)
      simp only [Rows.uptoBulk]
      omega
    refine ⟨some a, cap, (List.range len).map f, by rw [hlf], ⟨rfl, fun i p hp => ?_⟩, ?_, fun p hp => ?_⟩
    · have hi : i < len := by have := (List.getElem?_eq_some_iff.1 hp).1; rwa [hlf] at this
      have hfi : f i = p := by simpa [hi] using hp
      obtain ⟨B, c, v, h1, h1b, h2, _⟩ := hf i hi
      rw [hfi] at h1 h1b h2
      obtain ⟨B0, c0, v0, h10, _⟩ := hf 0 (by omega)
      have hb : (a.add (0 * 2)).spot = none := cell_plain h10
      have ha : a = ⟨a.block, a.off, none⟩ := by
        obtain ⟨ab, ao, sp⟩ := a
        cases sp with
        | none => rfl
        | some s => simp [Addr.add] at hb
      rw [ha, Addr.add_lit] at h1 h1b
      rw [Addr.add_lit] at h1b
      exact ⟨a.block, a.off, B, c, by rw [← ha], h1, h1b, h2⟩
    · rw [hlf]
      have h1 := bulk_length (H := H) (elems.map (·.1))
      rw [List.length_map, hlen] at h1
      simp only [Rows.uptoBulk]
      omega
    · obtain ⟨i, hi, rfl⟩ := List.mem_map.1 hp
      obtain ⟨B, c, v, _, _, _, h3, h4, h5⟩ := hf i (by simpa using hi)
      have := hbig v (List.mem_of_getElem? h3)
      simp only at this ⊢
      omega
theorem range_i64 {zs : List Int} (hw : ∀ n ∈ zs, (Lit.int .i64 n).wf = true) {i : Nat} {x : Int} (h : zs[i]? = some x) : -9223372036854775808 ≤ x ∧ x ≤ 9223372036854775807 := by
  have hw := hw x (List.mem_of_getElem? h)
  simp only [Lit.wf, Bool.and_eq_true, decide_eq_true_eq] at hw
  have h1 : IntKind.i64.min ≤ x := hw.1
  have h2 : x ≤ IntKind.i64.max := hw.2
  have h3 : IntKind.i64.min = -9223372036854775808 := by decide
  have h4 : IntKind.i64.max = 9223372036854775807 := by decide
  exact ⟨by omega, by omega⟩
theorem open_intsW {W : World} {fuel : Nat} {cs : List Value} {x : DataW H × List MemPlace} (h : DataW.trod enc Tryz.prog W 0 (fun _ => true) true fuel 54 cs = some x) :
    ∃ a c l, cs = [.slice a l.length c] ∧ IntsW W a l.length l := by
  rcases open_ints Tryz.underlying54 Tryz.underlying3 cellsInt h with ⟨rfl, rfl⟩ | ⟨a, len, cap, zs, rfl, _, hl, hm, hz, rfl, hcell, hwz⟩
  · exact ⟨none, 0, [], rfl, ⟨rfl, fun i x hx => by simp at hx⟩⟩
  · simp only [if_true] at hz
    have hlen : (zs.take len).length = len := by simp; omega
    refine ⟨some a, cap, zs.take len, by rw [hlen], ⟨rfl, fun i x hx => ?_⟩⟩
    have hi : i < len := by have := (List.getElem?_eq_some_iff.1 hx).1; rwa [hlen] at this
    have hx2 : zs[i]? = some x := by rw [List.getElem?_take, if_pos hi] at hx; exact hx
    have hc0 := hcell 0 (by omega)
    have hci := hcell i (by omega)
    have hb := cell_plain hc0
    have ha : a = ⟨a.block, a.off, none⟩ := by
      obtain ⟨ab, ao, sp⟩ := a
      cases sp with
      | none => rfl
      | some s => simp [Addr.add] at hb
    rw [List.getD_eq_getElem?_getD, hx2] at hci
    rw [ha, Addr.add_lit] at hci
    exact ⟨a.block, a.off, by rw [← ha], hci, range_i64 hwz hx2⟩
theorem open_crash {W : World} {fuel : Nat} {cs : List Value} {x : DataW H × List MemPlace} (h : DataW.trod enc Tryz.prog W 0 (fun _ => true) true fuel 56 cs = some x) :
    ∃ (cd : Int) (l : List Int) (B : Option Addr) (c : Nat), cs = [.int .i64 cd, .slice B l.length c] ∧ (-9223372036854775808 ≤ cd ∧ cd ≤ 9223372036854775807) ∧ IntsW W B l.length l := by
  obtain ⟨xs, m, _, hx, hl, hxl, hi⟩ := DataW.trod_struct Tryz.underlying56 h
  rw [cellsCrash] at hl
  have hx2 : ∀ j, j < 2 → ∃ y, xs[j]? = some y := fun j hj => ⟨xs[j]'(by rw [hxl]; exact hj), List.getElem?_eq_getElem _⟩
  obtain ⟨y0, e0⟩ := hx2 0 (by omega)
  obtain ⟨y1, e1⟩ := hx2 1 (by omega)
  have f0 : DataW.trod enc Tryz.prog W 0 (fun _ => true) true m 3 ((cs.drop 0).take (Tryz.prog.cellsOf 3)) = xs[0]? := hi 0 _ rfl
  have f1 : DataW.trod enc Tryz.prog W 0 (fun _ => true) true m 54 ((cs.drop 1).take (Tryz.prog.cellsOf 54)) = xs[1]? := hi 1 _ rfl
  rw [e0, cellsInt] at f0
  rw [e1, cellsInts] at f1
  obtain ⟨cd, g0, hcd⟩ := trod_i64 f0
  obtain ⟨B, c, l, g1, X⟩ := open_intsW f1
  exact ⟨cd, l, B, c, take_two hl g0 g1, hcd, X⟩
set_option maxRecDepth 100000 in
theorem open_againV {W : World} {base : Nat} {v : Value} {d : DataW H} {p : List MemPlace} (hval : Value.okWide Tryz.prog W .any base 58 v) (h : DataW.Trod enc Tryz.prog W 0 (fun _ => true) true 58 v d p) :
    ∃ (fs : List (List UInt8 × List UInt8)) (room n cd : Int) (tails : List Int) (FA TA : Option Addr) (FC TC : Nat), v = againV FA fs.length FC room n cd TA tails.length TC ∧ FilesW W FA fs.length fs ∧ fs.length ≤ Rows.uptoBulk d ∧ (∀ p ∈ fs, p.1.length ≤ Rows.uptoBulk d ∧ p.2.length ≤ Rows.uptoBulk d) ∧
      (-9223372036854775808 ≤ room ∧ room ≤ 9223372036854775807) ∧ (-9223372036854775808 ≤ n ∧ n ≤ 9223372036854775807) ∧ (-9223372036854775808 ≤ cd ∧ cd ≤ 9223372036854775807) ∧ IntsW W TA tails.length tails := by
  obtain ⟨cs, rfl, hsz⟩ := okWide_struct Tryz.underlying58 hval
  obtain ⟨fuel, hf⟩ := h
  obtain ⟨xs, m, _, hxx, hl, hxl, hi⟩ := DataW.trod_struct Tryz.underlying58 hf
  have hcl : (Value.agg cs).cells.toList = cs.toList := rfl
  rw [hcl] at hl hi
  obtain ⟨L, hL⟩ : ∃ L, L = cs.toList := ⟨_, rfl⟩
  rw [← hL] at hl hi
  rw [cellsAgain] at hl
  have hx : ∀ j, j < 4 → ∃ y, xs[j]? = some y := fun j hj => ⟨xs[j]'(by rw [hxl]; exact hj), List.getElem?_eq_getElem _⟩
  obtain ⟨y0, e0⟩ := hx 0 (by omega)
  obtain ⟨y1, e1⟩ := hx 1 (by omega)
  obtain ⟨y2, e2⟩ := hx 2 (by omega)
  obtain ⟨y3, e3⟩ := hx 3 (by omega)
  have f0 : DataW.trod enc Tryz.prog W 0 (fun _ => true) true m 36 ((L.drop 0).take (Tryz.prog.cellsOf 36)) = xs[0]? := hi 0 _ rfl
  have f1 : DataW.trod enc Tryz.prog W 0 (fun _ => true) true m 3 ((L.drop 1).take (Tryz.prog.cellsOf 3)) = xs[1]? := hi 1 _ rfl
  have f2 : DataW.trod enc Tryz.prog W 0 (fun _ => true) true m 3 ((L.drop 2).take (Tryz.prog.cellsOf 3)) = xs[2]? := hi 2 _ rfl
  have f3 : DataW.trod enc Tryz.prog W 0 (fun _ => true) true m 56 ((L.drop 3).take (Tryz.prog.cellsOf 56)) = xs[3]? := hi 3 _ rfl
  rw [e0, cellsAfiles] at f0
  rw [e1, cellsInt] at f1
  rw [e2, cellsInt] at f2
  rw [e3, cellsCrash] at f3
  obtain ⟨FA, FC, fs, g0, X, b1, b2⟩ := open_filesW f0
  obtain ⟨room, g1, hr⟩ := trod_i64 f1
  obtain ⟨n, g2, hn⟩ := trod_i64 f2
  obtain ⟨cd, tails, TA, TC, g3, hcd, Y⟩ := open_crash f3
  have hb : Rows.uptoBulk y0.1 + 1 ≤ Rows.uptoBulk d := by
    injection hxx with hxx _
    rw [hxx]
    exact bulk_agg _ (List.mem_map_of_mem (List.mem_of_getElem? e0))
  have hrow : L = [.slice FA fs.length FC, .int .i64 room, .int .i64 n, .int .i64 cd, .slice TA tails.length TC] := by
    match L, hl with
    | [v0, v1, v2, v3, v4], _ =>
      simp at g0 g1 g2 g3
      rw [g0, g1, g2, g3.1, g3.2]
  refine ⟨fs, room, n, cd, tails, FA, TA, FC, TC, ?_, X, by omega, fun p hp => ?_, hr, hn, hcd, Y⟩
  · unfold againV
    congr 1
    apply Array.toList_inj.1
    rw [← hL, hrow]
  · have := b2 p hp
    omega
end
end Go.Proofs.YtgpenpnobjecgaaGreatDoor

/- WalAgainCard -/
namespace Go.Proofs.YtgpenpnobjecgaaGreatDoor.walAgain
set_option maxRecDepth 100000
open Go.ChangeShapes Go.WideShapes Go.ChangeAt Go.RowKit

theorem contract (H : Type) (enc : TypeId × Value → H) (W : World) (base : Nat) (args : Array Value) (ds gs : List (DataW H)) (before : List MemPlace)
    (hval : ∀ (j : Nat) t v, Tryz.f5.params[j]? = some t → args[j]? = some v → Value.okWide Tryz.prog W .any base t v)
    (hW : DataW.Whole enc Tryz.prog Tryz.f5.params.toList Rows.walAgainSpec.vars false W args.toList ds gs before) (hL : laidMetH Tryz.prog laidLW W) (hk : Rows.uptoSmall H (ds ++ gs) = true) :
    Calls Tryz.prog 5 args W fun e W' => ∃ v, e = .returned v ∧ Rows.walAgainSpec.post enc Tryz.prog Tryz.f5 false true false false W args v W' := by
  have hW' := hW
  obtain ⟨p, q, hA0, hV, rfl, hfz, hnd⟩ := hW
  have hA : DataW.TrodAll enc Tryz.prog W 0 (fun _ => true) true Tryz.f5.params.toList args.toList ds p := hA0
  rw [Tryz.params5] at hA hval
  obtain ⟨v0, vs0, d0, ds0, p0, q0, hargs0, rfl, rfl, h0, r0⟩ := trodAll_cons hA
  obtain ⟨rfl, rfl, rfl⟩ := trodAll_nil r0
  obtain rfl : args = #[v0] := by cases args; simp_all
  obtain ⟨rfl, rfl⟩ := trodVars_none hV
  obtain ⟨fs, room, n, cd, tails, FA, TA, FC, TC, rfl, X, hfl, hfb, hroom, hn, hcd, Y⟩ := open_againV (hval 0 58 v0 rfl rfl) h0
  have hbulk : Rows.uptoBulk d0 ≤ 1048576 := by
    have h := of_decide_eq_true hk
    simp only [List.append_nil, Rows.uptoBulkAll] at h
    omega
  refine (again_law (tabs6_of_laid hL) X (by omega) (fun p hp => by have := hfb p hp; omega) hroom hn hcd Y).mono fun e W' ⟨he, hB⟩ => ?_
  subst he
  exact ⟨_, rfl, post_law rfl hW' rfl rfl rfl (by kernel_rfl) hB (fun t ht => by
    have h : t ∈ ([58] : List TypeId) := ht
    simp only [List.mem_cons, List.not_mem_nil, or_false] at h
    rcases h with rfl <;> exact ⟨by kernel_rfl, of_decide_eq_true (by kernel_rfl)⟩)⟩

def again0 : Value := .agg #[Value.slice none 0 0, Value.int .i64 0, Value.int .i64 0, Value.int .i64 0, Value.slice none 0 0]
def againd {H : Type} : DataW H := .agg [.nil, .lit (.int .i64 0), .lit (.int .i64 0), .agg [.lit (.int .i64 0), .nil]]
theorem reads (os : Os) {H : Type} (enc : TypeId × Value → H) : ∃ places, DataW.whole enc Tryz.prog ((laidWorldW os).forCall (fun _ _ => 0) ⟨#[], (#[again0] : Array Value), []⟩).memory Tryz.f5.params.toList Rows.walAgainSpec.vars false (#[again0] : Array Value).toList 8 = some ([againd], [], places) :=
  ⟨[], by kernel_rfl⟩

set_option maxRecDepth 100000 in
theorem liftedUpto (os : Os) (started : os.Started) (H : Type) (enc : TypeId × Value → H) (F : Stop.Interp) :
    ReturnsInHanded {} Tryz.checked os 5 .any ((Rows.OpenSpec.upto Rows.walAgainSpec).preRow enc Tryz.prog Tryz.f5 Rows.walAgainUptoRow.domain false Rows.walAgainUptoRow.laid) (((Rows.OpenSpec.upto Rows.walAgainSpec).at F).post enc Tryz.prog Tryz.f5 false true false false) := by
  obtain ⟨places, hx⟩ := reads os enc
  refine returnsInHanded_of_row (C := Tryz.checked) (s := Rows.OpenSpec.upto Rows.walAgainSpec) own started (by kernel_rfl) Tryz.func5
    (witness_row_at (enc := enc) (C := Tryz.checked) false (laidWorldW os) #[again0] rfl (by kernel_rfl) (by kernel_rfl) (by kernel_rfl)
      (OpenSpec.preRow_of_cond 8 hx (by kernel_rfl) (fun k hk => by cases hk; kernel_rfl) (by kernel_rfl) (laid_metW os _))) ?_
  intro W base args ds gs before hval hW _ hcond _ hL _ _
  exact contract H enc W base args ds gs before hval hW hL (hcond _ rfl)

theorem saidUpto : Rows.WalAgainUptoSaid :=
  OpenClaim.holds_of_cond 5 Tryz.f5 rfl rfl rfl rfl rfl rfl rfl ⟨rfl, rfl, rfl, rfl, rfl⟩ rfl rfl rfl rfl rfl (by kernel_rfl) Tryz.func5 (by kernel_rfl)
    (of_decide_eq_true (by kernel_rfl)) (by unfold Func.isWrapper; first | (rw [if_pos (by decide +kernel)]; kernel_rfl) | (rw [if_neg (by decide +kernel)]; exact ⟨rfl, rfl⟩))
    (fun os started H enc _ F => by rw [OpenClaim.pre_eq_preRow]; exact liftedUpto os started H enc F)

theorem plain (f : FuncId) (fn : Func) (hf : Tryz.pinned.checked.prog.funcNamed "wicket/wicketlaw06.WalAgain" = some f) (hfn : Tryz.pinned.checked.prog.funcs[f]? = some fn) :
    true = Tryz.pinned.checked.prog.looks [] ∧ ∀ (j : Nat) t, fn.params[j]? = some t → Tryz.pinned.checked.prog.wantsStandIn t = false := by
  obtain rfl : f = 5 := Option.some.inj ((show Tryz.prog.funcNamed "wicket/wicketlaw06.WalAgain" = some 5 by kernel_rfl).symm.trans hf) |>.symm
  obtain rfl : fn = Tryz.f5 := (Option.some.inj (Tryz.func5.symm.trans hfn)).symm
  refine ⟨by kernel_rfl, fun j t ht => ?_⟩
  rw [Tryz.params5] at ht
  have hm := Array.mem_of_getElem? ht
  simp only [List.mem_toArray, List.mem_cons, List.not_mem_nil, or_false] at hm
  rcases hm with rfl
  · exact (show Tryz.prog.wantsStandIn 58 = false by kernel_rfl)

/-- THE CARD, second form. -/
theorem cardUpto : Rows.WalAgainUptoCardSaid :=
  Claim7.holds_tied_plain_at .later [] _ _ _ _ saidUpto (fun _ h => by cases h) (by kernel_rfl) (fun _ h => by cases h) walAgainUpto_row_tie rfl ⟨rfl, rfl⟩ (by kernel_rfl) rfl plain (by kernel_rfl)
end Go.Proofs.YtgpenpnobjecgaaGreatDoor.walAgain
