/- What every law of this seat's cards shares: the tables out of the row's list, readings of arguments, the claim behind a call that leaves old memory alone. -/
import Derived.Test.YtpdhgijeanbmcaaDoorCards
import Derived.Test.YtpdhgijeanbmcaaDoorTie
import Derived.Test.YtpdhgijeanbmcaaDoorLow
import Derived.WalkKit
import Derived.ProofKit
import Derived.OpenShut
import Derived.Carry
import Derived.OpenVars
import Derived.LaidSub
import Derived.Deep.DeepHandedRow
import Derived.Lib.LaidTab
namespace Go.Proofs.YtpdhgijeanbmcaaDoor
open Go.ChangeShapes Go.WideShapes Go.ChangeAt Go.RowKit

theorem own : ownKnob Tryd.prog.godebug = none := by kernel_rfl
theorem laidOut : laidOutB Tryd.prog = true := by kernel_rfl
theorem gFirst : Tryd.prog.globalNamed "wicket/digest.first" = some 0 := by kernel_rfl
theorem gRoots : Tryd.prog.globalNamed "wicket/digest.roots" = some 1 := by kernel_rfl
theorem gRroots : Tryd.prog.globalNamed "wicket/wicketref02.roots" = some 2 := by kernel_rfl
theorem tFirst : (Tryd.prog.globals[0]?).map (·.type) = some 92 := by kernel_rfl
theorem tRoots : (Tryd.prog.globals[1]?).map (·.type) = some 98 := by kernel_rfl
theorem tRroots : (Tryd.prog.globals[2]?).map (·.type) = some 98 := by kernel_rfl
theorem cellsReg : Tryd.prog.cellsOf 92 = 8 := by kernel_rfl
theorem cellsW64 : Tryd.prog.cellsOf 98 = 64 := by kernel_rfl
theorem cellsU32 : Tryd.prog.cellsOf 85 = 1 := by kernel_rfl
theorem cellsU8 : Tryd.prog.cellsOf 5 = 1 := by kernel_rfl

theorem var_block {P : Program} {W : World} {name : String} {g : Nat} {cs : Array Value} (hg : P.globalNamed name = some g) (h : W.var? P name = some cs) : ∃ t fr, W.heap[g]? = some (.cells cs t fr) := by
  unfold World.var? at h
  rw [hg] at h
  simp only [Option.bind_some] at h
  split at h
  · rename_i c t fr hh
    obtain rfl := Option.some.inj h
    exact ⟨t, fr, hh⟩
  · cases h
def rootsZ : List Int := Sha.roots.map Int.ofNat
def firstZ : List Int := [1779033703, 3144134277, 1013904242, 2773480762, 1359893119, 2600822924, 528734635, 1541459225]
theorem rootsZ_cells : (rootsZ.map fun z => Value.int .u32 z).toArray = rootsCells := by kernel_rfl
theorem firstZ_cells : (firstZ.map fun z => Value.int .u32 z).toArray = (Sha.init.list.map V32).toArray := by kernel_rfl
/-- The list of every row of this seat. -/
def laidL : List (String × DataW Unit) := [("wicket/digest.roots", Rows.laid_wicket_digest_roots), ("wicket/digest.first", Rows.laid_wicket_digest_first), ("wicket/wicketref02.roots", Rows.laid_wicket_wicketref02_roots)]
theorem laidL_tab : laidL = [("wicket/digest.roots", Lib.tabData .u32 rootsZ), ("wicket/digest.first", Lib.tabData .u32 firstZ), ("wicket/wicketref02.roots", Lib.tabData .u32 rootsZ)] := by kernel_rfl
theorem laid_tail {P : Program} {W : World} {x : String × DataW Unit} {l : List (String × DataW Unit)} (h : laidMet P (x :: l) W) (hne : ∀ y ∈ l, (y.1 != x.1) = true) : laidMet P l W := by
  have h2 := laidMet.filter (fun y => y.1 != x.1) h
  rw [List.filter_cons_of_neg (by simp), List.filter_eq_self.2 hne] at h2
  exact h2
theorem tail_ne1 {x y : String × DataW Unit} (h1 : (y.1 != x.1) = true) : ∀ z ∈ [y], (z.1 != x.1) = true := by
  intro z hz
  rw [List.mem_singleton] at hz
  subst hz
  exact h1
theorem tail_ne2 {x y y' : String × DataW Unit} (h1 : (y.1 != x.1) = true) (h2 : (y'.1 != x.1) = true) : ∀ z ∈ [y, y'], (z.1 != x.1) = true := by
  intro z hz
  rw [List.mem_cons, List.mem_singleton] at hz
  rcases hz with rfl | rfl
  · exact h1
  · exact h2
theorem tabs_of_laid {W : World} (h : laidMetH Tryd.prog laidL W) : Tabs W := by
  have h1 : laidMet Tryd.prog laidL W := h
  rw [laidL_tab] at h1
  have h2 := laid_tail h1 (tail_ne2 (by decide) (by decide))
  have h3 := laid_tail h2 (tail_ne1 (by decide))
  have a1 := Lib.tabIs_of_head gRoots tRoots Tryd.underlying98 Tryd.underlying85 cellsU32 cellsW64 h1
  have a2 := Lib.tabIs_of_head gFirst tFirst Tryd.underlying92 Tryd.underlying85 cellsU32 cellsReg h2
  have a3 := Lib.tabIs_of_head gRroots tRroots Tryd.underlying98 Tryd.underlying85 cellsU32 cellsW64 h3
  unfold Lib.TabIs at a1 a2 a3
  rw [rootsZ_cells] at a1 a3
  rw [firstZ_cells] at a2
  exact ⟨var_block gFirst a2, var_block gRoots a1, var_block gRroots a3⟩

/-! ### bulk -/
theorem bulk_one {H : Type} (d : DataW H) : 1 ≤ Rows.uptoBulk d := by
  cases d with
  | lit l => cases l <;> simp [Rows.uptoBulk]
  | nil => simp [Rows.uptoBulk]
  | ptr d => simp [Rows.uptoBulk]
  | slice elems spare => simp [Rows.uptoBulk]
  | agg parts => simp [Rows.uptoBulk]
  | iface t d => simp [Rows.uptoBulk]
  | map entries => simp [Rows.uptoBulk]
  | held h => simp [Rows.uptoBulk]
theorem bulk_length {H : Type} : ∀ l : List (DataW H), l.length ≤ Rows.uptoBulkAll l
  | [] => Nat.zero_le _
  | d :: l => by
    have h1 := bulk_one d
    have h2 := bulk_length l
    simp only [Rows.uptoBulkAll, List.length_cons]
    omega

/-! ### readings -/
section
variable {H : Type} {enc : TypeId × Value → H}
/-- A slice of bytes that came in. -/
theorem open_u8s {W : World} {base : Nat} {v : Value} {d : DataW H} {p : List MemPlace} (hval : Value.okWide Tryd.prog W .any base 22 v) (h : DataW.Trod enc Tryd.prog W 0 (fun _ => true) true 22 v d p) :
    ∃ a m c l, v = .slice a m c ∧ m = l.length ∧ Src W a c l ∧ l.length ≤ Rows.uptoBulk d := by
  obtain ⟨a1, len, cap, rfl⟩ := okWide_slice Tryd.underlying22 hval
  obtain ⟨fuel, hf⟩ := h
  rcases open_ints Tryd.underlying22 Tryd.underlying5 cellsU8 hf with ⟨hcs, hx⟩ | ⟨a, len', cap', zs, hcs, _, hl, hm, hz, hx, hcell, hwz⟩
  · simp [Value.cells] at hcs
    obtain ⟨rfl, rfl, rfl⟩ := hcs
    exact ⟨none, 0, 0, [], rfl, rfl, ⟨BytesAt.nil _ _, Nat.zero_le _, fun _ => rfl, fun _ h => by cases h⟩, Nat.zero_le _⟩
  · simp [Value.cells] at hcs
    obtain ⟨rfl, rfl, rfl⟩ := hcs
    simp only [Prod.mk.injEq] at hx
    obtain ⟨rfl, rfl⟩ := hx
    simp only [if_true] at hz
    have hh : W.has Tryd.prog .any base a 5 cap := by
      simp only [Value.okWide, Tryd.underlying22, Cell.okWide, Cell.ok] at hval
      exact hval.2.2
    obtain ⟨_, hspot, row, cells, hsh, _⟩ := hh
    obtain ⟨ab, ao, spot⟩ := a
    obtain rfl : spot = none := hspot
    have hlen : ((zs.take len).map fun n => UInt8.ofNat n.toNat).length = len := by simp; omega
    refine ⟨some ⟨ab, ao, none⟩, len, cap, (zs.take len).map fun n => UInt8.ofNat n.toNat, rfl, hlen.symm, ⟨⟨fun _ => ⟨ab, ao, rfl, fun j hj => ?_⟩⟩, by rw [hlen]; exact hl, (fun h => by cases h), fun ad had => ⟨ab, ao, (Option.some.inj had).symm, ?_⟩⟩, ?_⟩
    · rw [hlen] at hj
      have hcj := hcell j (by omega)
      rw [Addr.add_lit] at hcj
      rw [hcj]
      have hb := range_u8 hwz j
      have e : zs.getD j 0 = zs[j]'(by omega) := by simp [List.getD, List.getElem?_eq_getElem (show j < zs.length by omega)]
      rw [List.getD_eq_getElem?_getD] at e
      rw [e] at hb
      rw [List.getD_eq_getElem?_getD, e]
      simp only [byteF, V8, List.getD, List.getElem?_map, List.getElem?_take, hj, if_true, List.getElem?_eq_getElem (show j < zs.length by omega), Option.map_some, Option.getD_some]
      congr 2
      simp only [UInt8.toNat_ofNat']
      omega
    · by_cases hb : ab < W.heap.size
      · exact hb
      · simp [World.shape?, Array.getElem?_eq_none (Nat.le_of_not_lt hb)] at hsh
    · rw [hlen]
      have h1 := bulk_length (H := H) (lits .u8 (zs.take len))
      have h2 : (lits (H := H) .u8 (zs.take len)).length = len := by simp [lits]; omega
      simp only [Rows.uptoBulk]
      omega
theorem trodAll_below {W W' : World} (hb : Below W.heap.size W W') : ∀ {ts : List TypeId} {vs : List Value} {ds : List (DataW H)} {p : List MemPlace}, (∀ t ∈ ts, Tryd.prog.readableRec t = true ∧ t < Tryd.prog.types.size) → (∀ x ∈ p, x.block < W.heap.size) →
    DataW.TrodAll enc Tryd.prog W 0 (fun _ => true) true ts vs ds p → DataW.TrodAll enc Tryd.prog W' 0 (fun b => decide (b < W.heap.size)) true ts vs ds p
  | [], _, _, _, _, _, h => by
    obtain ⟨rfl, rfl, rfl⟩ := trodAll_nil h
    exact trodAll_mk0
  | t :: ts, _, _, _, hr, hp, h => by
    obtain ⟨v, vs1, d, ds1, a, b, rfl, rfl, rfl, h1, h2⟩ := trodAll_cons h
    exact trodAll_cons_mk (Below.trod laidOut (hr t (by simp)).1 (hr t (by simp)).2 h1 hb fun x hx => hp x (by simp [hx])) (trodAll_below hb (fun u hu => hr u (by simp [hu])) (fun x hx => hp x (by simp [hx])) h2)
/-- THE CLAIM BEHIND A LAW THAT ANSWERS TRUE AND LEAVES OLD MEMORY ALONE. -/
theorem post_law {f : Func} {s : ChangeSpec} {W W' : World} {args : Array Value} {ds gs : List (DataW H)} {before : List MemPlace} (hv : s.vars = []) (hW : DataW.Whole enc Tryd.prog f.params.toList s.vars false W args.toList ds gs before)
    (hres : (s.fn H (ds ++ gs)).results = [.lit (.bool true)]) (hargs : (s.fn H (ds ++ gs)).args = ds) (hvars : (s.fn H (ds ++ gs)).vars = []) (hrt : f.resultTypes = #[4]) (hB : Below W.heap.size W W') (hr : ∀ t ∈ f.params.toList, Tryd.prog.readableRec t = true ∧ t < Tryd.prog.types.size) :
    s.post enc Tryd.prog f false true false false W args (.bool true) W' := by
  have hlt := fun x hx => hW.lt x hx
  have hW0 := hW
  obtain ⟨p, q, hA, hV, rfl, _, _⟩ := hW
  rw [hv] at hV
  obtain ⟨rfl, rfl⟩ := trodVars_none hV
  refine ⟨ds, _, _, [], p, [], hW0, ?_, ?_, ?_, hB.frame _, fun h => by cases h⟩
  · rw [hres, hrt]
    exact trodAll_cons_mk (shut_bool Tryd.underlying4 _) trodAll_mk0
  · rw [hargs]
    exact trodAll_below hB hr (fun x hx => hlt x (by simp [hx])) hA
  · rw [hvars, hv]
    rfl
end

def setTab (zs : List Int) : Obj → Obj
  | .cells _ t fr => .cells (zs.map fun z => Value.int .u32 z).toArray t fr
  | o => o
/-- A world for the witnesses: the tables hold what the text lays. -/
noncomputable def laidWorld (os : Os) : World :=
  { World.holding Tryd.prog os ⟨#[], #[], []⟩ with heap := (((World.holding Tryd.prog os ⟨#[], #[], []⟩).heap.modify 0 (setTab firstZ)).modify 1 (setTab rootsZ)).modify 2 (setTab rootsZ) }
theorem laid_met (os : Os) (args : Array Value) : laidMet Tryd.prog laidL ((laidWorld os).forCall (fun _ _ => 0) ⟨#[], args, []⟩).memory :=
  laidMet_of_run' 8 (by kernel_rfl) (by kernel_rfl)
end Go.Proofs.YtpdhgijeanbmcaaDoor
