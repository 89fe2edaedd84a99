/- Readings of arguments: slices of strings, sums. -/
import Derived.Test.YtpdhgijeanbmcaaDoorDoor
import Derived.Test.YtpdhgijeanbmcaaDoorLeaves
import Derived.SliceStrings
namespace Go.Proofs.YtpdhgijeanbmcaaDoor
open Go.ChangeShapes Go.WideShapes Go.ChangeAt Go.RowKit

theorem bulk_part {H : Type} {d : DataW H} : ∀ {l : List (DataW H)}, d ∈ l → Rows.uptoBulk d ≤ Rows.uptoBulkAll l
  | [], h => by cases h
  | x :: r, h => by
    simp only [Rows.uptoBulkAll]
    cases List.mem_cons.1 h with
    | inl e => subst e; omega
    | inr e => have := bulk_part e; omega
theorem cellsStr : Tryd.prog.cellsOf 9 = 1 := by kernel_rfl
theorem cellsSum : Tryd.prog.cellsOf 29 = 32 := by kernel_rfl
section
variable {H : Type} {enc : TypeId × Value → H}
theorem open_strs {W : World} {base : Nat} {v : Value} {d : DataW H} {p : List MemPlace} (hval : Value.okWide Tryd.prog W .any base 28 v) (h : DataW.Trod enc Tryd.prog W 0 (fun _ => true) true 28 v d p) :
    ∃ a n c ts, v = .slice a n c ∧ Strs W a n ts ∧ n ≤ c ∧ ∀ t ∈ ts, t.length ≤ Rows.uptoBulk d := by
  obtain ⟨a1, len, cap, rfl⟩ := okWide_slice Tryd.underlying28 hval
  obtain ⟨fuel, hf⟩ := h
  rcases open_strings Tryd.underlying28 Tryd.underlying9 cellsStr hf with ⟨hcs, hx⟩ | ⟨a, len', cap', ss, hcs, _, hl, hm, hz, hx, hcell, hsz⟩
  · simp [Value.cells] at hcs
    obtain ⟨rfl, rfl, rfl⟩ := hcs
    exact ⟨none, 0, 0, [], rfl, ⟨rfl, fun h => by omega⟩, Nat.le_refl _, fun _ h => by cases h⟩
  · simp [Value.cells] at hcs
    obtain ⟨rfl, rfl, rfl⟩ := hcs
    simp only [Prod.mk.injEq] at hx
    obtain ⟨rfl, rfl⟩ := hx
    simp only [if_true] at hz
    have hh : W.has Tryd.prog .any base a 9 cap := by
      simp only [Value.okWide, Tryd.underlying28, Cell.okWide, Cell.ok] at hval
      exact hval.2.2
    obtain ⟨_, hspot, row, cells, hsh, _⟩ := hh
    obtain ⟨ab, ao, spot⟩ := a
    obtain rfl : spot = none := hspot
    refine ⟨some ⟨ab, ao, none⟩, len, cap, (ss.take len).map fun s => s.data.toList, rfl, ⟨by simp; omega, fun _ => ⟨ab, ao, rfl, fun k hk => ?_⟩⟩, hl, fun t ht => ?_⟩
    · have hk' : k < len := by simp at hk; omega
      have hcj := hcell k (by omega)
      rw [Addr.add_lit] at hcj
      rw [hcj]
      simp [List.getD, List.getElem?_eq_getElem (show k < ss.length by omega)]
    · obtain ⟨s, hs, rfl⟩ := List.mem_map.1 ht
      have h1 : (DataW.lit (.string s.data.toList) : DataW H) ∈ strs (ss.take len) := List.mem_map.2 ⟨s, hs, rfl⟩
      have h2 := bulk_part h1
      simp only [Rows.uptoBulk] at h2 ⊢
      omega
set_option maxRecDepth 100000 in
theorem open_sumV {W : World} {base : Nat} {v : Value} (hval : Value.okWide Tryd.prog W .any base 29 v) : ∃ x : List UInt8, x.length = 32 ∧ v = sumV x := by
  have h1 : ∃ cs, v = .agg cs ∧ cs.size = Tryd.prog.cellsOf 29 ∧ Row.okWide Tryd.prog W .any base 29 cs := by
    simpa only [Value.okWide, Tryd.underlying29] using hval
  obtain ⟨cs, rfl, hsz, ts, hts, _, hc⟩ := h1
  rw [cellsSum] at hsz
  have ht : Tryd.prog.cellTypes Tryd.prog.depth 29 = some (List.replicate 32 5) := by kernel_rfl
  obtain rfl := Option.some.inj (ht.symm.trans hts)
  have hv : ∀ i, i < 32 → ∃ b : UInt8, cs[i]? = some (V8 b) := fun i hi => by
    obtain ⟨u, hu, hok⟩ := hc i cs[i] (Array.getElem?_eq_getElem (by omega))
    have hu8 : u = 5 := List.eq_of_mem_replicate (List.mem_of_getElem? hu)
    subst hu8
    have hok2 : ∃ n : Int, cs[i] = .int .u8 n ∧ 0 ≤ n ∧ n ≤ 255 := by
      generalize cs[i] = q at hok
      simp only [Cell.okWide, Tryd.underlying5] at hok
      cases q <;> simp [Cell.ok, Tryd.underlying5] at hok
      obtain ⟨rfl, h1, h2⟩ := hok
      exact ⟨_, rfl, h1, h2⟩
    obtain ⟨n, hn, h0, h255⟩ := hok2
    refine ⟨UInt8.ofNat n.toNat, ?_⟩
    rw [Array.getElem?_eq_getElem (by omega), hn]
    simp only [V8, UInt8.toNat_ofNat']
    congr 2
    omega
  obtain ⟨f, hf⟩ : ∃ f : Nat → UInt8, ∀ i, i < 32 → cs[i]? = some (V8 (f i)) := ⟨fun i => if h : i < 32 then (hv i h).choose else 0, fun i hi => by
    have := (hv i hi).choose_spec
    simpa only [dif_pos hi] using this⟩
  refine ⟨(List.range 32).map f, by rw [List.length_map, List.length_range], ?_⟩
  unfold sumV
  congr 1
  apply Array.ext_getElem?
  intro i
  by_cases hi : i < 32
  · rw [hf i hi, List.getElem?_toArray, List.getElem?_map, List.getElem?_map, List.getElem?_range hi, Option.map_some, Option.map_some]
  · rw [Array.getElem?_eq_none (by omega), Array.getElem?_eq_none (by rw [List.size_toArray, List.length_map, List.length_map, List.length_range]; omega)]
end
end Go.Proofs.YtpdhgijeanbmcaaDoor
