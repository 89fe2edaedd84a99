/- A disk in memory: its rows that grow. -/
import Derived.Test.YtgpenpnobjecgaaGreatDoorCards
import Derived.Test.YtgpenpnobjecgaaGreatDoorTie
import Derived.WalkKit
import Derived.ProofKit
import Derived.OpenShut
import Derived.Carry
import Derived.OpenVars
import Derived.LaidSub
import Derived.Deep.DeepHandedRow
import Derived.Lib.LaidTab
import Derived.Stop.LaidErr
import Derived.Test.YtgpenpnobjecgaaGreatDoorJWalSafeCard4
import Derived.Test.YtgpenpnobjecgaaGreatDoorJWalSafeCard8
import Derived.Test.YtgpenpnobjecgaaGreatDoorJWalSafeCard10
import Derived.Test.YtgpenpnobjecgaaGreatDoorJWalSafeCard11
/- DoorW -/
namespace Go.Proofs.YtgpenpnobjecgaaGreatDoor
set_option maxRecDepth 100000
open Go.ChangeShapes Go.WideShapes Go.ChangeAt Go.RowKit

theorem own : ownKnob Tryz.prog.godebug = none := by kernel_rfl
theorem laidOut : laidOutB Tryz.prog = true := by kernel_rfl
theorem cellsU32 : Tryz.prog.cellsOf 152 = 1 := by kernel_rfl
theorem cellsU8 : Tryz.prog.cellsOf 5 = 1 := by kernel_rfl

theorem var_block {P : Program} {W : World} {name : String} {g : Nat} {cs : Array Value} (hg : P.globalNamed name = some g) (h : W.var? P name = some cs) : ∃ t fr, W.heap[g]? = some (.cells cs t fr) := by
  unfold World.var? at h
  rw [hg] at h
  simp only [Option.bind_some] at h
  split at h
  · rename_i c t fr hh
    obtain rfl := Option.some.inj h
    exact ⟨t, fr, hh⟩
  · cases h
theorem laid_tail {P : Program} {W : World} {x : String × DataW Unit} {l : List (String × DataW Unit)} (h : laidMet P (x :: l) W) (hne : ∀ y ∈ l, (y.1 != x.1) = true) : laidMet P l W := by
  have h2 := laidMet.filter (fun y => y.1 != x.1) h
  rw [List.filter_cons_of_neg (by simp), List.filter_eq_self.2 hne] at h2
  exact h2
theorem tail_ne1 {x y : String × DataW Unit} (h1 : (y.1 != x.1) = true) : ∀ z ∈ [y], (z.1 != x.1) = true := by
  intro z hz
  rw [List.mem_singleton] at hz
  subst hz
  exact h1
theorem tail_ne2 {x y y' : String × DataW Unit} (h1 : (y.1 != x.1) = true) (h2 : (y'.1 != x.1) = true) : ∀ z ∈ [y, y'], (z.1 != x.1) = true := by
  intro z hz
  rw [List.mem_cons, List.mem_singleton] at hz
  rcases hz with rfl | rfl
  · exact h1
  · exact h2
/-! ### bulk -/
theorem bulk_one {H : Type} (d : DataW H) : 1 ≤ Rows.uptoBulk d := by
  cases d with
  | lit l => cases l <;> simp [Rows.uptoBulk]
  | nil => simp [Rows.uptoBulk]
  | ptr d => simp [Rows.uptoBulk]
  | slice elems spare => simp [Rows.uptoBulk]
  | agg parts => simp [Rows.uptoBulk]
  | iface t d => simp [Rows.uptoBulk]
  | map entries => simp [Rows.uptoBulk]
  | held h => simp [Rows.uptoBulk]
theorem bulk_length {H : Type} : ∀ l : List (DataW H), l.length ≤ Rows.uptoBulkAll l
  | [] => Nat.zero_le _
  | d :: l => by
    have h1 := bulk_one d
    have h2 := bulk_length l
    simp only [Rows.uptoBulkAll, List.length_cons]
    omega

/-! ### readings -/
section
variable {H : Type} {enc : TypeId × Value → H}
set_option maxRecDepth 100000 in
/-- A slice of bytes that came in. -/
theorem open_u8s {W : World} {base : Nat} {v : Value} {d : DataW H} {p : List MemPlace} (hval : Value.okWide Tryz.prog W .any base 22 v) (h : DataW.Trod enc Tryz.prog W 0 (fun _ => true) true 22 v d p) :
    ∃ a m c l, v = .slice a m c ∧ m = l.length ∧ Src W a c l ∧ l.length ≤ Rows.uptoBulk d := by
  obtain ⟨a1, len, cap, rfl⟩ := okWide_slice Tryz.underlying22 hval
  obtain ⟨fuel, hf⟩ := h
  rcases open_ints Tryz.underlying22 Tryz.underlying5 cellsU8 hf with ⟨hcs, hx⟩ | ⟨a, len', cap', zs, hcs, _, hl, hm, hz, hx, hcell, hwz⟩
  · simp [Value.cells] at hcs
    obtain ⟨rfl, rfl, rfl⟩ := hcs
    exact ⟨none, 0, 0, [], rfl, rfl, ⟨BytesAt.nil _ _, Nat.zero_le _, fun _ => rfl, fun _ h => by cases h⟩, Nat.zero_le _⟩
  · simp [Value.cells] at hcs
    obtain ⟨rfl, rfl, rfl⟩ := hcs
    simp only [Prod.mk.injEq] at hx
    obtain ⟨rfl, rfl⟩ := hx
    simp only [if_true] at hz
    have hh : W.has Tryz.prog .any base a 5 cap := by
      simp only [Value.okWide, Tryz.underlying22, Cell.okWide, Cell.ok] at hval
      exact hval.2.2
    obtain ⟨_, hspot, row, cells, hsh, _⟩ := hh
    obtain ⟨ab, ao, spot⟩ := a
    obtain rfl : spot = none := hspot
    have hlen : ((zs.take len).map fun n => UInt8.ofNat n.toNat).length = len := by simp; omega
    refine ⟨some ⟨ab, ao, none⟩, len, cap, (zs.take len).map fun n => UInt8.ofNat n.toNat, rfl, hlen.symm, ⟨⟨fun _ => ⟨ab, ao, rfl, fun j hj => ?_⟩⟩, by rw [hlen]; exact hl, (fun h => by cases h), fun ad had => ⟨ab, ao, (Option.some.inj had).symm, ?_⟩⟩, ?_⟩
    · rw [hlen] at hj
      have hcj := hcell j (by omega)
      rw [Addr.add_lit] at hcj
      rw [hcj]
      have hb := range_u8 hwz j
      have e : zs.getD j 0 = zs[j]'(by omega) := by simp [List.getD, List.getElem?_eq_getElem (show j < zs.length by omega)]
      rw [List.getD_eq_getElem?_getD] at e
      rw [e] at hb
      rw [List.getD_eq_getElem?_getD, e]
      simp only [byteF, V8, List.getD, List.getElem?_map, List.getElem?_take, hj, if_true, List.getElem?_eq_getElem (show j < zs.length by omega), Option.map_some, Option.getD_some]
      congr 2
      simp only [UInt8.toNat_ofNat']
      omega
    · by_cases hb : ab < W.heap.size
      · exact hb
      · simp [World.shape?, Array.getElem?_eq_none (Nat.le_of_not_lt hb)] at hsh
    · rw [hlen]
      have h1 := bulk_length (H := H) (lits .u8 (zs.take len))
      have h2 : (lits (H := H) .u8 (zs.take len)).length = len := by simp [lits]; omega
      simp only [Rows.uptoBulk]
      omega
theorem trodAll_below {W W' : World} (hb : Below W.heap.size W W') : ∀ {ts : List TypeId} {vs : List Value} {ds : List (DataW H)} {p : List MemPlace}, (∀ t ∈ ts, Tryz.prog.readableRec t = true ∧ t < Tryz.prog.types.size) → (∀ x ∈ p, x.block < W.heap.size) →
    DataW.TrodAll enc Tryz.prog W 0 (fun _ => true) true ts vs ds p → DataW.TrodAll enc Tryz.prog W' 0 (fun b => decide (b < W.heap.size)) true ts vs ds p
  | [], _, _, _, _, _, h => by
    obtain ⟨rfl, rfl, rfl⟩ := trodAll_nil h
    exact trodAll_mk0
  | t :: ts, _, _, _, hr, hp, h => by
    obtain ⟨v, vs1, d, ds1, a, b, rfl, rfl, rfl, h1, h2⟩ := trodAll_cons h
    exact trodAll_cons_mk (Below.trod laidOut (hr t (by simp)).1 (hr t (by simp)).2 h1 hb fun x hx => hp x (by simp [hx])) (trodAll_below hb (fun u hu => hr u (by simp [hu])) (fun x hx => hp x (by simp [hx])) h2)
/-- THE CLAIM BEHIND A LAW THAT ANSWERS TRUE AND LEAVES OLD MEMORY ALONE. -/
theorem post_law {f : Func} {s : ChangeSpec} {W W' : World} {args : Array Value} {ds gs : List (DataW H)} {before : List MemPlace} (hv : s.vars = []) (hW : DataW.Whole enc Tryz.prog f.params.toList s.vars false W args.toList ds gs before)
    (hres : (s.fn H (ds ++ gs)).results = [.lit (.bool true)]) (hargs : (s.fn H (ds ++ gs)).args = ds) (hvars : (s.fn H (ds ++ gs)).vars = []) (hrt : f.resultTypes = #[4]) (hB : Below W.heap.size W W') (hr : ∀ t ∈ f.params.toList, Tryz.prog.readableRec t = true ∧ t < Tryz.prog.types.size) :
    s.post enc Tryz.prog f false true false false W args (.bool true) W' := by
  have hlt := fun x hx => hW.lt x hx
  have hW0 := hW
  obtain ⟨p, q, hA, hV, rfl, _, _⟩ := hW
  rw [hv] at hV
  obtain ⟨rfl, rfl⟩ := trodVars_none hV
  refine ⟨ds, _, _, [], p, [], hW0, ?_, ?_, ?_, hB.frame _, fun h => by cases h⟩
  · rw [hres, hrt]
    exact trodAll_cons_mk (shut_bool Tryz.underlying4 _) trodAll_mk0
  · rw [hargs]
    exact trodAll_below hB hr (fun x hx => hlt x (by simp [hx])) hA
  · rw [hvars, hv]
    rfl
end


/-! ### the tables and sentinels of these laws -/
theorem all_ne {x : String × DataW Unit} {l : List (String × DataW Unit)} (h : ((l.map (·.1)).all fun s => s != x.1) = true) : ∀ y ∈ l, (y.1 != x.1) = true := by
  intro y hy
  exact List.all_eq_true.1 h y.1 (List.mem_map_of_mem hy)
def laidLW : List (String × DataW Unit) := [("math/bits.deBruijn32tab", Rows.laid_math_bits_deBruijn32tab), ("math/bits.deBruijn64tab", Rows.laid_math_bits_deBruijn64tab), ("internal/strconv.uint64pow10", Rows.laid_internal_strconv_uint64pow10), ("strconv.ErrRange", Rows.laid_strconv_ErrRange), ("strconv.ErrSyntax", Rows.laid_strconv_ErrSyntax), ("wicket/frame.sums", Rows.laid_wicket_frame_sums)]
theorem gSums : Tryz.prog.globalNamed "wicket/frame.sums" = some 0 := by kernel_rfl
theorem gPow : Tryz.prog.globalNamed "internal/strconv.uint64pow10" = some 3 := by kernel_rfl
theorem gSyn : Tryz.prog.globalNamed "strconv.ErrSyntax" = some 1 := by kernel_rfl
theorem gRng : Tryz.prog.globalNamed "strconv.ErrRange" = some 2 := by kernel_rfl
theorem tSyn : (Tryz.prog.globals[1]?).map (·.type) = some 164 := by kernel_rfl
theorem tRng : (Tryz.prog.globals[2]?).map (·.type) = some 164 := by kernel_rfl
theorem star_errs : "*" ++ "errors.errorString" = "*errors.errorString" := by decide
theorem row_errs (u : TypeId) (h : Tryz.prog.typeName? 3 u = some "*errors.errorString") : u = 259 :=
  typeName_ptr_named (nm := "errors.errorString") (by rw [star_errs]; kernel_rfl) (by kernel_rfl) (by decide) u (by rw [star_errs]; exact h)
def sumsZ : List Int := (List.range 16).map fun j => ((crcTab.getD j 0).toNat : Int)
theorem sums_tab : (Rows.laid_wicket_frame_sums : DataW Unit) = Lib.tabData .u32 sumsZ := by kernel_rfl
theorem pow_tab : (Rows.laid_internal_strconv_uint64pow10 : DataW Unit) = Lib.tabData .u64 Lib.pow10Tab := by kernel_rfl
end Go.Proofs.YtgpenpnobjecgaaGreatDoor

/- DoorW2 -/
namespace Go.Proofs.YtgpenpnobjecgaaGreatDoor
set_option maxRecDepth 100000
open Go.ChangeShapes Go.WideShapes Go.ChangeAt Go.RowKit

theorem cellsU64 : Tryz.prog.cellsOf 96 = 1 := by kernel_rfl
theorem cellsT16 : Tryz.prog.cellsOf 214 = 16 := by kernel_rfl
theorem cellsT20 : Tryz.prog.cellsOf 266 = 20 := by kernel_rfl
theorem cellsErrs : Tryz.prog.cellsOf 261 = 1 := by kernel_rfl
theorem cellsStr : Tryz.prog.cellsOf 9 = 1 := by kernel_rfl
theorem tSums : (Tryz.prog.globals[0]?).map (·.type) = some 214 := by kernel_rfl
theorem tPow : (Tryz.prog.globals[3]?).map (·.type) = some 266 := by kernel_rfl
theorem sumsZ_cell : ∀ j, j < 16 → (sumsZ.map fun z => Value.int .u32 z).toArray[j]? = some (V32 (crcTab.getD j 0)) := by
  intro j hj
  simp only [List.getElem?_toArray, List.getElem?_map, sumsZ, List.getElem?_range hj, Option.map_some]
  rfl
theorem tabs6_of_laid {W : World} (h : laidMetH Tryz.prog laidLW W) : Tabs6 W := by
  have h1 : laidMet Tryz.prog laidLW W := h
  unfold laidLW at h1
  have h2 := laid_tail h1 (all_ne (by decide))
  have h3 := laid_tail h2 (all_ne (by decide))
  have h4 := laid_tail h3 (all_ne (by decide))
  have h5 := laid_tail h4 (all_ne (by decide))
  have h6 := laid_tail h5 (all_ne (by decide))
  obtain ⟨ar, sr, hr, _, _, _⟩ := laid_sentinel h4 gRng tRng Tryz.underlying164 row_errs Tryz.underlying259 Tryz.underlying261 rfl rfl Tryz.underlying9 cellsErrs cellsStr
  obtain ⟨asy, ssy, hs, _, _, _⟩ := laid_sentinel h5 gSyn tSyn Tryz.underlying164 row_errs Tryz.underlying259 Tryz.underlying261 rfl rfl Tryz.underlying9 cellsErrs cellsStr
  rw [pow_tab] at h3
  rw [sums_tab] at h6
  have a1 := Lib.tabIs_of_head gPow tPow Tryz.underlying266 Tryz.underlying96 cellsU64 cellsT20 h3
  have a2 := Lib.tabIs_of_head gSums tSums Tryz.underlying214 Tryz.underlying152 cellsU32 cellsT16 h6
  refine ⟨fun j hj => ?_, a1, ⟨_, _, hs⟩, ⟨_, _, hr⟩⟩
  unfold Lib.TabIs at a2
  rw [World.var?_cell gSums a2 j]
  exact sumsZ_cell j hj
def valsOf : DataW Unit → List Value
  | .agg ds => ds.map fun d => match d with
    | .lit (.int k z) => .int k z
    | _ => .bool false
  | _ => []
def setCells (vs : List Value) : Obj → Obj
  | .cells _ t fr => .cells vs.toArray t fr
  | o => o
abbrev textRng : ByteArray := { data := #[118, 97, 108, 117, 101, 32, 111, 117, 116, 32, 111, 102, 32, 114, 97, 110, 103, 101] }
abbrev textSyn : ByteArray := { data := #[105, 110, 118, 97, 108, 105, 100, 32, 115, 121, 110, 116, 97, 120] }
noncomputable def lowW : Nat := (World.holding Tryz.prog default ⟨#[], #[], []⟩).heap.size
/-- A world for the witnesses: the tables and the two sentinels hold what the text lays. -/
noncomputable def laidWorldW (os : Os) : World :=
  let w0 := World.holding Tryz.prog os ⟨#[.cells #[.string textRng] 261, .cells #[.string textSyn] 261], #[], []⟩
  { w0 with heap := (((((w0.heap.modify 4 (setCells (valsOf Rows.laid_math_bits_deBruijn32tab))).modify 5 (setCells (valsOf Rows.laid_math_bits_deBruijn64tab))).modify 3 (setCells (valsOf Rows.laid_internal_strconv_uint64pow10))).modify 0 (setCells (valsOf Rows.laid_wicket_frame_sums))).modify 2 (setCells [.iface 259 (.pointer (some ⟨lowW, 0, none⟩))])).modify 1 (setCells [.iface 259 (.pointer (some ⟨lowW + 1, 0, none⟩))]) }
theorem laid_metW (os : Os) (args : Array Value) : laidMet Tryz.prog laidLW ((laidWorldW os).forCall (fun _ _ => 0) ⟨#[], args, []⟩).memory :=
  laidMet_of_run' 8 (by kernel_rfl) (by kernel_rfl)
end Go.Proofs.YtgpenpnobjecgaaGreatDoor

/- ArgW -/
namespace Go.Proofs.YtgpenpnobjecgaaGreatDoor
set_option maxRecDepth 100000
open Go.RowKit

def TxtW (w : World) (A : Option Addr) (n c : Nat) (l : List UInt8) : Prop := Txt w A n c l ∨ (n = 0 ∧ c = 0 ∧ l = [])
theorem Txt.wide {w : World} {A : Option Addr} {n c : Nat} {l : List UInt8} (h : Txt w A n c l) : TxtW w A n c l := .inl h
theorem TxtW.below {w w' : World} {A : Option Addr} {n c : Nat} {l : List UInt8} (h : TxtW w A n c l) (hb : Below w.heap.size w w') : TxtW w' A n c l := h.imp (·.below hb) id
theorem TxtW.cells {w : World} {A : Option Addr} {n c : Nat} {l : List UInt8} (h : TxtW w A n c l) : CellsAt w A (l.map V8) := by
  rcases h with h | ⟨_, _, rfl⟩
  · exact h.src.at_.cells
  · exact ⟨fun h => by simp at h⟩
theorem TxtW.nil {w : World} {A : Option Addr} {n c : Nat} {l : List UInt8} (h : TxtW w A n c l) (hA : A = none) : c = 0 := by
  rcases h with h | ⟨_, rfl, _⟩
  · exact h.src.nil hA
  · rfl
theorem TxtW.len {w : World} {A : Option Addr} {n c : Nat} {l : List UInt8} (h : TxtW w A n c l) : n = l.length := by
  rcases h with h | ⟨rfl, _, rfl⟩
  · exact h.len
  · rfl
/-- A row of slices of bytes that came in. -/
structure RowsW (w : World) (A : Option Addr) (n : Nat) (l : List (List UInt8)) : Prop where
  len : n = l.length
  each : ∀ i p, l[i]? = some p → ∃ b o B c, A = some ⟨b, o, none⟩ ∧ w.cell? ⟨b, o + i, none⟩ = some (.slice B p.length c) ∧ TxtW w B p.length c p
theorem RowsAt.wide {w : World} {A : Option Addr} {n C : Nat} {l : List (List UInt8)} {G : Nat → Prop} (h : RowsAt w A n C l G) : RowsW w A n l :=
  ⟨h.len, fun i p hp => by obtain ⟨b, o, B, c, h1, h2, h3, _⟩ := h.each i p hp; exact ⟨b, o, B, c, h1, h2, .inl h3⟩⟩
theorem RowsW.below {w w' : World} {A : Option Addr} {n : Nat} {l : List (List UInt8)} (h : RowsW w A n l) (hb : Below w.heap.size w w') : RowsW w' A n l :=
  ⟨h.len, fun i p hp => by
    obtain ⟨b, o, B, c, h1, h2, h3⟩ := h.each i p hp
    exact ⟨b, o, B, c, h1, (hb.cell (p := ⟨b, o + i, none⟩) (World.block_lt_of_cell? w _ h2)).trans h2, h3.below hb⟩⟩
end Go.Proofs.YtgpenpnobjecgaaGreatDoor

/- WLoad -/
namespace Go.Proofs.YtgpenpnobjecgaaGreatDoor
set_option maxRecDepth 100000
open Go.RowKit

@[go_sem] theorem neq_V8 (t : TypeId) (a b : UInt8) : binOp .neq t (V8 a) (V8 b) = pure (.bool (!decide (a = b))) := by
  have : binOp .neq t (V8 a) (V8 b) = pure (.bool (!decide ((a.toNat : Int) = b.toNat))) := rfl
  have h : ((a.toNat : Int) = b.toNat) = (a = b) := propext ⟨fun h => UInt8.toNat_inj.1 (by omega), fun h => by rw [h]⟩
  rw [this]
  simp only [h]
/-- wal.load: none: it panics. -/
def loadF (f : FrameS) (k : UInt8) (n most : Nat) : Option (List UInt8) :=
  if f.1 = k ∧ (readU 0 0 f.2).2.2 = 0 ∧ (readU 0 0 f.2).1 = n ∧ f.2.length - (readU 0 0 f.2).2.1 ≤ most then some (f.2.drop (readU 0 0 f.2).2.1) else none
theorem Fresh.addr {w w' : World} {B : Option Addr} {C : Nat} {l : List UInt8} {blk : Option Nat} (h : Fresh w w' B C l blk) (hn : blk = none → B = none) : ∀ ad, B = some ad → w.heap.size ≤ ad.block := fun ad had => by
  rcases h.own.form with ⟨h0, _⟩ | ⟨g, _, h1, h2, _⟩
  · rw [hn h0] at had; cases had
  · rw [h1] at had
    rw [← Option.some.inj had]
    exact h.fresh g h2
/-- New bytes, their address new too. -/
def RetG (w : World) (l : List UInt8) (e : Ending) (w' : World) : Prop := ∃ B C blk, e = .returned (.slice B l.length C) ∧ Fresh w w' B C l blk ∧ (blk = none → B = none)
/-- New bytes, or a panic. -/
def RetO (w : World) (q : Nat) (o : Option (List UInt8)) (e : Ending) (w' : World) : Prop :=
  match o with
  | some l => RetG w l e w'
  | none => e = stopped q ∧ Below w.heap.size w w'
theorem run_sl_from {w0 : World} {B : Option Addr} {n c : Nat} {x : List UInt8} (X : Txt w0 B n c x) (j : Nat) (hj : j ≤ n) : ∃ ra, Txt w0 ra (n - j) (c - j) (x.drop j) ∧ ∀ w : World, (Instr.slice 22 (.slice B n c) (some (.int .i64 (j : Int))) none none).run Tryz.prog w = .ok (.slice ra (n - j) (c - j)) w := by
  have h := X.part j (n - j) (by omega)
  have hl := X.len
  rw [List.take_of_length_le (by simp; omega)] at h
  refine ⟨_, h, fun w => ?_⟩
  rw [run_slice_l w 22 _ n c elem_bytes .i64 j (by omega) (by omega), sizeOf_bytes]
  simp only [Result.andThen, sliced, Int.toNat_natCast, Nat.mul_one]
set_option maxRecDepth 100000 in
set_option maxHeartbeats 1000000 in
theorem wload_any (f : FrameS) (B : Option Addr) (C : Nat) (k : UInt8) (n most : Nat) (w : World) (X : Txt w B f.2.length C f.2) (hl : f.2.length ≤ 4194304) (hn : n < 9223372036854775808) (hm : most < 9223372036854775808) :
    Calls Tryz.prog 101 #[.agg #[V8 f.1, .slice B f.2.length C], V8 k, .int .u64 n, .int .i64 most] w (RetO w 61 (loadF f k n most)) := by
  have hu := fun o => uint_any f.2 B f.2.length C (w.alloc o) (X.below (low1 _ _)) (by omega)
  obtain ⟨fk, x⟩ := f
  simp only [] at *
  rw [show uintFrom 0 0 x = castU (readU 0 0 x) from uintFrom_nat x 0 0 (by omega) (by simp)] at hu
  obtain ⟨v, j, er, hr⟩ : ∃ v j er, readU 0 0 x = (v, j, er) := ⟨_, _, _, rfl⟩
  have hv64 := readU_lt x 0 0 v j er (by omega) (by simp) hr
  have hj : er = 0 → 0 < j ∧ j ≤ x.length := fun h => by
    subst h
    have := readU_ok x 0 0 v j hr
    omega
  have hlo : loadF (fk, x) k n most = if fk = k ∧ er = 0 ∧ v = n ∧ x.length - j ≤ most then some (x.drop j) else none := by
    unfold loadF
    rw [hr]
  rw [hr] at hu
  unfold castU retU at hu
  simp only at hu
  have Hu := Lib.hid hu
  have HX := Lib.hid X
  have Hlo := Lib.hid hlo
  have Hj := Lib.hid hj
  clear hu X hr hlo hj
  go_enter Tryz.func101, Tryz.ntmps101
  go_wp2_with fail
  go_at_call 127
  refine (Hu.out _).mono ?_
  rintro e w1 ⟨rfl, hw1⟩
  have hb1 : w1.heap[w.heap.size]? = some (.cells #[V8 fk, .slice B x.length C] 174 (0, 0)) := by rw [← hw1]; exact blk1 _ _
  have q0 : w1.cell? ⟨w.heap.size, 0, none⟩ = some (V8 fk) := cell_block hb1 rfl
  have q1 : w1.cell? ⟨w.heap.size, 1, none⟩ = some (.slice B x.length C) := cell_block hb1 rfl
  have hlow : RowKit.Below w.heap.size w w1 := by rw [← hw1]; exact low1 _ _
  have hgl : w.heap.size < w1.heap.size := in_heap hb1
  have HLOW := Lib.hid hlow
  generalize hg : w.heap.size = g at q0 q1 hgl ⊢
  have Hg := Lib.hid hg
  clear hw1 hb1 hlow Hu hg
  by_cases hc : fk = k ∧ er = 0 ∧ v = n ∧ x.length - j ≤ most
  · obtain ⟨rfl, rfl, rfl, hmo⟩ := hc
    obtain ⟨hj0, hjl⟩ := Hj.out rfl
    have hlo := Hlo.out
    rw [if_pos ⟨rfl, rfl, rfl, hmo⟩] at hlo
    obtain ⟨ra, P, hsl⟩ := run_sl_from HX.out j hjl
    have HP := Lib.hid (P.below HLOW.out)
    obtain ⟨y, hy⟩ : ∃ y, y = x.drop j := ⟨_, rfl⟩
    have hyl : x.length - j = y.length := by rw [hy]; simp
    rw [← hy] at HP hlo
    have hmo' : decide ((most : Int) < (x.length : Int) - j) = false := by simp; omega
    have hjI : (j : Int) ≤ x.length := by omega
    have hfk : decide (fk = fk) = true := by simp
    have HLO := Lib.hid hlo
    have z1 : 0 + y.length ≤ maxLen := by unfold maxLen; omega
    have z2 : (0 + y.length) * 1 ≤ 140737488355328 := by omega
    rw [hyl] at HP hsl
    clear P hy hyl hlo hmo Hlo
    go_wp2_with (at_builtin; refine wpList_app rfl _ _ 22 rfl 5 1 1 _ Tryz.underlying22 info_u8r rfl (by decide) (some ⟨w1.heap.size, 0, none⟩) 0 0 [] (some w1.heap.size) rfl (OwnR.of_row (blk1 _ _) (Nat.le_refl _) (Nat.zero_le _) rfl rfl) ra y.length (C - j) (y.map V8) rfl (by simp) (HP.out.below (low1 _ _)).src.at_.cells HP.out.src.nil HP.out.src.od (bone y) z1 z2 ?_; intro B2 D2 w2 b2 h1 h2 h3; have H1 := Lib.hid h1; have H2 := Lib.hid h2; have H3 := Lib.hid h3; clear h1 h2 h3)
    go_ret
    rw [HLO.out]
    have F0 : Fresh w (w1.alloc (.cells #[] 5)) (some ⟨w1.heap.size, 0, none⟩) 0 [] (some w1.heap.size) := Fresh.start (blk1 _ _) rfl (Nat.zero_le _) (by rw [Hg.out]; omega) (bthen HLOW.out (low1 _ _))
    have F := F0.app (l' := y) rfl H1.out H2.out H3.out
    refine ⟨B2, D2, b2, ?_, F, fun e => ?_⟩
    · simp
    · rcases H3.out with h | h <;> (rw [e] at h; cases h)
  · have hlo := Hlo.out
    rw [if_neg hc] at hlo
    have Hno := Lib.hid hlo
    clear hlo
    have hend : ∀ w' : World, w1 = w' → RetO w 61 (loadF (fk, x) k n most) (stopped 61) w' := fun w' e => by
      subst e
      rw [Hno.out]
      exact ⟨rfl, HLOW.out⟩
    have HEND := Lib.hid hend
    clear hend
    by_cases c1 : fk = k
    · subst c1
      by_cases c2 : er = 0
      · subst c2
        obtain ⟨hj0, hjl⟩ := Hj.out rfl
        have hjI : (j : Int) ≤ x.length := by omega
        by_cases c3 : v = n
        · subst c3
          have c4 : (most : Int) < (x.length : Int) - j := by
            have : ¬ x.length - j ≤ most := fun h => hc ⟨rfl, rfl, rfl, h⟩
            omega
          clear hc hj0 hjl
          go_wp2_with (go_at_call 57; refine (must_stops 61 (by decide) w1).mono ?_; rintro e w2 ⟨rfl, hw2⟩)
          exact ⟨rfl, HEND.out _ hw2⟩
        · have c3' : ¬ (v : Int) = n := by omega
          clear hc c3 hj0 hjl
          go_wp2_with (go_at_call 57; refine (must_stops 61 (by decide) w1).mono ?_; rintro e w2 ⟨rfl, hw2⟩)
          exact ⟨rfl, HEND.out _ hw2⟩
      · have c2' : ¬ (er : Int) = 0 := by omega
        clear hc c2
        go_wp2_with (go_at_call 57; refine (must_stops 61 (by decide) w1).mono ?_; rintro e w2 ⟨rfl, hw2⟩)
        exact ⟨rfl, HEND.out _ hw2⟩
    · have c1' : decide (fk = k) = false := by simpa using c1
      clear hc c1
      go_wp2_with (go_at_call 57; refine (must_stops 61 (by decide) w1).mono ?_; rintro e w2 ⟨rfl, hw2⟩)
      exact ⟨rfl, HEND.out _ hw2⟩
end Go.Proofs.YtgpenpnobjecgaaGreatDoor

/- DiskAt2 -/
namespace Go.Proofs.YtgpenpnobjecgaaGreatDoor
set_option maxRecDepth 100000
open Go.RowKit Go.Maps Dk

/-- Only what belongs to F has turned, and F' is F and new blocks. -/
structure Turned (F F' : Nat → Prop) (w w' : World) : Prop where
  kept : Kept F w w'
  foot : ∀ b, b < w.heap.size → F' b → F b
theorem Turned.refl (F : Nat → Prop) (w : World) : Turned F F w w := ⟨.refl _ _, fun _ _ => id⟩
theorem Turned.trans {F F' F'' : Nat → Prop} {w w' w'' : World} (h : Turned F F' w w') (h2 : Turned F' F'' w' w'') : Turned F F'' w w'' :=
  ⟨h.kept.trans h2.kept fun b hb => (Nat.lt_or_ge b w.heap.size).imp (fun hl => h.foot b hl hb) id, fun b hb hf => h.foot b hb (h2.foot b (Nat.lt_of_lt_of_le hb h.kept.size) hf)⟩
theorem Turned.below {F : Nat → Prop} {w w' : World} (h : Below w.heap.size w w') : Turned F F w w' := ⟨.of_below h, fun _ _ => id⟩
/-- Block blk is t's too. -/
def grow (own : Nat → Option DTag) (t : DTag) (blk : Option Nat) : Nat → Option DTag := fun b => if blk = some b then some t else own b
section
variable {own : Nat → Option DTag} {t : DTag} {blk blk' : Option Nat} {n m : Nat}
theorem grow_old (h : blk' = blk ∨ blk' = some n) (ht : tagged own t blk) (hm : m ≤ n) {b : Nat} (hb : b < m) : grow own t blk' b = own b := by
  unfold grow
  split
  · next e =>
    rcases h with h | h
    · rw [h] at e; exact (ht b e).symm
    · rw [h] at e; have := Option.some.inj e; omega
  · rfl
theorem grow_tag (blk : Option Nat) : tagged (grow own t blk) t blk := fun b hb => by unfold grow; rw [if_pos hb]
theorem tagged.grown {u : DTag} {own' : Nat → Option DTag} (h : tagged own u blk) (ho : ∀ b, b < m → own' b = own b) (hl : ∀ b, blk = some b → b < m) : tagged own' u blk := fun b hb => by rw [ho b (hl b hb)]; exact h b hb
end

section
variable {w w' : World} {g : Nat} {d : DiskS} {u : Nat} {recs : List Nat} {own own' : Nat → Option DTag} {fA : Option Addr} {fC : Nat} {fb : Option Nat} {mb : Nat} {sb : Option Nat} {cA : Option Addr} {cC : Nat} {cb : Option Nat}
theorem FileAt.retag {i : Nat} {f : FileS} {r : Nat} {A : Option Addr} {C : Nat} {blk : Option Nat} (h : FileAt w own i f r A C blk) (ho : ∀ b, b < w.heap.size → own' b = own b) : FileAt w own' i f r A C blk :=
  ⟨h.row, by rw [ho r (in_heap h.row)]; exact h.tag, h.bytes, h.btag.grown ho h.bytes.lt⟩
/-- The row of changes anew. -/
theorem DMem.rechg (M : DMem w g d u recs own fA fC fb mb sb cA cC cb) (c : Chg) {B : Option Addr} {D : Nat} {blk' : Option Nat} {k : Nat} (hk : Kept (fun b => cb = some b) w w') (hr : OwnR w' 126 3 B (d.chg.length + 1) D (chgCells (d.chg ++ [c])) blk') (hb : blk' = cb ∨ blk' = some k) (hw : w.heap.size ≤ k) :
    DMem (w'.setCell ⟨g, 5, none⟩ (.slice B (d.chg.length + 1) D)) g { d with chg := d.chg ++ [c] } u recs (grow own .chg blk') fA fC fb mb sb B D blk' := by
  have hne : ∀ {b t}, own b = some t → t ≠ .chg → ¬ cb = some b := fun h hn e => hn (Option.some.inj (h.symm.trans (M.tc _ e)))
  have ho : ∀ b, b < w.heap.size → grow own .chg blk' b = own b := fun b hlt => grow_old hb M.tc hw hlt
  have hg' := hk.blk M.row (hne M.tg (by simp))
  have hgb : ∀ b, blk' = some b → ¬ b = g := fun b hbb e => by
    subst e
    rcases hb with hb | hb
    · exact hne M.tg (by simp) (hb ▸ hbb)
    · rw [hb] at hbb; have := Option.some.inj hbb; have := in_heap M.row; omega
  have hk2 : Kept (fun b => cb = some b ∨ b = g) w (w'.setCell ⟨g, 5, none⟩ (.slice B (d.chg.length + 1) D)) := (hk.mono fun b _ h => .inl h).setCell _ _ (.inl (.inr rfl))
  have hn2 : ∀ {b t}, own b = some t → t ≠ .chg → t ≠ .disk → ¬ (cb = some b ∨ b = g) := fun h h1 h2 e => e.elim (hne h h1) (ne_of_tag h M.tg h2)
  have tg' : ∀ {b t}, own b = some t → grow own .chg blk' b = some t := fun {b t} h => by rw [ho b (M.lt b (by rw [h]; simp))]; exact h
  have tt : ∀ {blk t}, tagged own t blk → (∀ b, blk = some b → b < w.heap.size) → tagged (grow own .chg blk') t blk := fun h hl => h.grown ho hl
  refine ⟨?_, M.files.kept hk2 fun b hb => hn2 (M.tf b hb) (by simp) (by simp), fun i f hf => ?_, M.dir.kept hk2 (hn2 M.td (by simp) (by simp)), fun b hb => (M.safe b hb).kept hk2 (hn2 (M.ts b hb) (by simp) (by simp)), ?_, ?_, tg' M.tg, tt M.tf M.files.lt, tg' M.td, tt M.ts (fun b hb => (M.safe b hb).lt), grow_tag _⟩
  · rw [setCell_one hg' _]
    simp only [List.length_append, List.length_singleton]
    rfl
  · obtain ⟨r, A, C, blk, e1, e2⟩ := M.fil i f hf
    exact ⟨r, A, C, blk, e1, (e2.retag ho).kept hk2 (hn2 e2.tag (by simp) (by simp)) fun b hb => hn2 (e2.btag b hb) (by simp) (by simp)⟩
  · simp only [List.length_append, List.length_singleton]
    exact hr.kept ((Kept.refl (· = g) w').setCell _ _ (.inl rfl)) hgb
  · intro b hb
    unfold grow at hb
    split at hb
    · next e => have := hr.lt b e; simpa [World.setCell] using this
    · exact Nat.lt_of_lt_of_le (M.lt b hb) hk2.size
end
end Go.Proofs.YtgpenpnobjecgaaGreatDoor
