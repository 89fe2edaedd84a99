/- The tables and sentinels of the Wal laws, read off what the rows lay; a world that fits. -/
import Derived.Test.YtgpenpnobjecgaaGreatDoorShelf
import Derived.Lib.ItoaLen
import Derived.Test.YtgpenpnobjecgaaGreatDoorCards
import Derived.Test.YtgpenpnobjecgaaGreatDoorTie
import Derived.WalkKit
import Derived.ProofKit
import Derived.OpenShut
import Derived.Carry
import Derived.OpenVars
import Derived.LaidSub
import Derived.Deep.DeepHandedRow
import Derived.Lib.LaidTab
import Derived.Stop.LaidErr
import Derived.Test.YtgpenpnobjecgaaGreatDoorJWalOwnCard5
import Derived.Test.YtgpenpnobjecgaaGreatDoorJWalOwnCard13
/- WBytes -/
namespace Go.Proofs.YtgpenpnobjecgaaGreatDoor
set_option maxRecDepth 100000
open Go.RowKit

/-- A slice of slices of bytes; all its blocks are in G. -/
structure RowsAt (w : World) (A : Option Addr) (n C : Nat) (l : List (List UInt8)) (G : Nat → Prop) : Prop where
  len : n = l.length
  cap : n ≤ C
  nil : A = none → C = 0
  plain : ∀ ad, A = some ad → ∃ b o, ad = ⟨b, o, none⟩ ∧ b < w.heap.size ∧ G b
  each : ∀ i p, l[i]? = some p → ∃ b o B c, A = some ⟨b, o, none⟩ ∧ w.cell? ⟨b, o + i, none⟩ = some (.slice B p.length c) ∧ Txt w B p.length c p ∧ ∀ ad, B = some ad → G ad.block
theorem RowsAt.kept {F G : Nat → Prop} {w w' : World} {A : Option Addr} {n C : Nat} {l : List (List UInt8)} (h : RowsAt w A n C l G) (hk : Kept F w w') (hF : ∀ b, G b → b < w.heap.size → ¬ F b) : RowsAt w' A n C l G := by
  refine ⟨h.len, h.cap, h.nil, fun ad had => ?_, fun i p hp => ?_⟩
  · obtain ⟨b, o, e, hlt, hg⟩ := h.plain ad had
    exact ⟨b, o, e, Nat.lt_of_lt_of_le hlt hk.size, hg⟩
  · obtain ⟨b, o, B, c, hA, h1, h3, h4⟩ := h.each i p hp
    obtain ⟨b', o', e, hlt, hg⟩ := h.plain _ hA
    simp only [Addr.mk.injEq, and_true] at e
    obtain ⟨rfl, rfl⟩ := e
    refine ⟨b, o, B, c, hA, hk.cell h1 (hF b hg hlt), h3.kept hk fun ad had _ => ?_, h4⟩
    obtain ⟨b2, o2, rfl, hlt2⟩ := h3.src.plain ad had
    exact hF b2 (h4 _ had) hlt2
theorem RowsAt.below {G : Nat → Prop} {w w' : World} {A : Option Addr} {n C : Nat} {l : List (List UInt8)} (h : RowsAt w A n C l G) (hb : Below w.heap.size w w') : RowsAt w' A n C l G := h.kept (Kept.of_below (F := fun _ => False) hb) fun _ _ _ => id
theorem RowsAt.mono {G H : Nat → Prop} {w : World} {A : Option Addr} {n C : Nat} {l : List (List UInt8)} (h : RowsAt w A n C l G) (hG : ∀ b, b < w.heap.size → G b → H b) : RowsAt w A n C l H :=
  ⟨h.len, h.cap, h.nil, fun ad had => by obtain ⟨b, o, e, hlt, hg⟩ := h.plain ad had; exact ⟨b, o, e, hlt, hG b hlt hg⟩, fun i p hp => by
    obtain ⟨b, o, B, c, hA, h1, h3, h4⟩ := h.each i p hp
    refine ⟨b, o, B, c, hA, h1, h3, fun ad had => ?_⟩
    obtain ⟨b2, o2, rfl, hlt2⟩ := h3.src.plain ad had
    exact hG _ hlt2 (h4 _ had)⟩
theorem RowsAt.none (w : World) (G : Nat → Prop) : RowsAt w none 0 0 [] G := ⟨rfl, Nat.le_refl _, fun _ => rfl, (fun ad h => by cases h), (fun i p h => by cases h)⟩
/-- Records, sealed. -/
def recsW : Nat → List (List UInt8) → List UInt8
  | _, [] => []
  | i, r :: t => sealW 2 i r ++ recsW (i + 1) t
theorem recsW_push : ∀ (l : List (List UInt8)) (i : Nat) (x : List UInt8), recsW i (l ++ [x]) = recsW i l ++ sealW 2 (i + l.length) x
  | [], i, x => by simp [recsW]
  | r :: t, i, x => by
    simp only [List.cons_append, recsW, recsW_push t (i + 1) x, List.append_assoc, List.length_cons]
    congr 3
    omega
def bytesW (n : Nat) (state : List UInt8) (records : List (List UInt8)) : List UInt8 := sealW 1 n state ++ recsW 1 records
theorem sealW_len (k : UInt8) (n : Nat) (p : List UInt8) : (sealW k n p).length = 9 + (groups n).length + p.length := by rw [sealW, sealed_len, List.length_append]; omega
theorem recsW_len : ∀ (l : List (List UInt8)) (i : Nat) (_ : i + l.length < 18446744073709551616) (_ : ∀ r ∈ l, r.length ≤ 65536), (recsW i l).length ≤ 65555 * l.length
  | [], _, _, _ => by simp [recsW]
  | r :: t, i, hi, hr => by
    have h1 := recsW_len t (i + 1) (by simp at hi; omega) (fun x hx => hr x (by simp [hx]))
    have h2 := hr r (by simp)
    have h3 := groups_len i (by simp at hi; omega)
    simp only [recsW, List.length_append, sealW_len, List.length_cons]
    omega
theorem conv_u64 (n : Nat) (hn : n < 9223372036854775808) : ∀ w : World, (convert 3 96 (.int .i64 (n : Int))).run Tryz.prog w = .ok (.int .u64 n) w := fun w => by
  have := run_convert_int (P := Tryz.prog) w 3 96 .i64 n (by kernel_rfl) (by kernel_rfl)
  rw [this]
  have : IntKind.wrap (Tryz.prog.intKind 96) (n : Int) = n := by
    rw [show Tryz.prog.intKind 96 = .u64 by kernel_rfl]
    simp only [IntKind.wrap_u64]
    omega
  rw [this]
  rfl
set_option maxRecDepth 100000 in
set_option maxHeartbeats 1000000 in
theorem wbytes_any (n : Nat) (state : List UInt8) (records : List (List UInt8)) (A : Option Addr) (C : Nat) (R : Option Addr) (K : Nat) (w : World) (G : Nat → Prop) (X : Txt w A state.length C state) (Y : RowsAt w R records.length K records G) (hn : n < 9223372036854775808) (hl : state.length ≤ 1048576) (hr : ∀ r ∈ records, r.length ≤ 65536) (hc : records.length ≤ 4194304) (hT : SumsTab w) :
    Calls Tryz.prog 60 #[.int .i64 n, .slice A state.length C, .slice R records.length K] w (RetF w (bytesW n state records)) := by
  have hs := Lib.hid (wsealed_any 1 n state A C w X (by decide) (by omega) (by omega) hT)
  have HY := Lib.hid Y
  have HT := Lib.hid hT
  have HR := Lib.hid hr
  have hv : (V8 1) = .int .u8 1 := rfl
  rw [hv] at hs
  have hcv := conv_u64 n hn
  clear X Y hT hr hv
  go_enter Tryz.func60, Tryz.ntmps60
  go_wp2_with fail
  go_at_call 69
  refine hs.out.mono ?_
  rintro e w1 ⟨B1, C1, b1, rfl, F1⟩
  have F1 := Lib.hid F1
  have HN := Lib.hid hn
  clear hs hcv hn
  go_wp2
  go_loopw [7, 16] (fun sv iv wr => ∃ (i : Nat) (acc : List UInt8) (B : Option Addr) (D : Nat) (blk : Option Nat), sv = .slice B acc.length D ∧ iv = .int .i64 i ∧ Hid (i ≤ records.length ∧ acc = sealW 1 n state ++ recsW 1 (records.take i) ∧ Fresh w wr B D acc blk)) (fun _ iv _ => records.length - (intOf iv).toNat)
  case atStart => exact ⟨0, sealW 1 n state, B1, C1, b1, rfl, rfl, Lib.hid ⟨Nat.zero_le _, by simp [recsW], F1.out⟩⟩
  case round =>
    obtain ⟨i, acc, B, D, blk, rfl, rfl, hI⟩ := hrel
    by_cases hlt : i < records.length
    · have h1 : (i : Int) < records.length := by omega
      obtain ⟨r, hr⟩ : ∃ r, records[i]? = some r := ⟨_, List.getElem?_eq_getElem hlt⟩
      obtain ⟨b, o, Br, cr, rfl, q1, q2, _⟩ := (HY.out.below hI.out.2.2.low).each i r hr
      have hrl := HR.out r (List.mem_of_getElem? hr)
      have hs2 := Lib.hid (fun W (hW : RowKit.Below wr.heap.size wr W) => wsealed_any 2 (i + 1) r Br cr W (q2.below hW) (by decide) (by omega) (by omega) ((HT.out.low hI.out.2.2.low).low hW))
      rw [show (V8 2) = .int .u8 2 from rfl] at hs2
      have hcv := conv_u64 (i + 1) (by omega)
      rw [Int.natCast_add, Int.natCast_one] at hcv
      have Hr := Lib.hid hr
      have Hrl := Lib.hid hrl
      have hal : acc.length ≤ 1048595 + 65555 * i := by
        have h1 := recsW_len (records.take i) 1 (by rw [List.length_take]; omega) (fun x hx => HR.out x (List.mem_of_mem_take hx))
        have h2 := groups_len n (by have := HN.out; omega)
        rw [hI.out.2.1, List.length_append, sealW_len]
        rw [List.length_take, Nat.min_eq_left (by omega)] at h1
        omega
      have hsl : (sealW 2 (i + 1) r).length ≤ 65555 := by
        rw [sealW_len]
        have := groups_len (i + 1) (by omega)
        omega
      have htk : records.take i ++ [r] = records.take (i + 1) := by rw [List.take_add_one, hr]; rfl
      have hnx : acc ++ sealW 2 (i + 1) r = sealW 1 n state ++ recsW 1 (records.take (i + 1)) := by
        rw [hI.out.2.1, ← htk, recsW_push, List.append_assoc, List.length_take, Nat.min_eq_left (by omega), Nat.add_comm 1 i]
      have Hnx := Lib.hid hnx
      obtain ⟨sl, hsl2⟩ : ∃ sl, sl = sealW 2 (i + 1) r := ⟨_, rfl⟩
      rw [← hsl2] at Hnx hs2 hsl
      have z1 : acc.length + sl.length ≤ maxLen := by unfold maxLen; omega
      have z2 : (acc.length + sl.length) * 1 ≤ 140737488355328 := by omega
      clear hr q2 hrl hal hsl htk hnx hsl2
      go_wp2_with fail
      go_at_call 69
      have hs3 := hs2.out wr (Below.refl _ _)
      rw [Int.natCast_add, Int.natCast_one] at hs3
      refine hs3.mono ?_
      rintro e w2 ⟨B2, C2, b2, rfl, F2⟩
      have F2 := Lib.hid F2
      clear hs3 hs2 hcv
      go_wp2_with (at_builtin; refine wpList_app rfl _ _ 22 rfl 5 1 1 _ Tryz.underlying22 info_u8r rfl (by decide) B acc.length D (acc.map V8) blk rfl (hI.out.2.2.own.below F2.out.low) B2 sl.length C2 (sl.map V8) rfl (by simp) F2.out.txt.src.at_.cells F2.out.txt.src.nil F2.out.txt.src.od (bone sl) z1 z2 ?_; intro B3 D3 w3 b3 h1 h2 h3; have F3 := Lib.hid ((hI.out.2.2.next F2.out.low).app rfl h1 h2 h3); clear h1 h2 h3)
      go_roundw
      case rel => exact ⟨i + 1, acc ++ sl, B3, D3, b3, by simp, by go_num, Lib.hid ⟨by omega, Hnx.out, F3.out⟩⟩
      case measure => simp [intOf]; omega
    · obtain rfl : i = records.length := by have := hI.out.1; omega
      have h1 : ¬ (records.length : Int) < (records.length : Int) := by omega
      go_wp2
      go_ret
      have h2 := hI.out.2.1
      rw [List.take_length] at h2
      have F := hI.out.2.2
      rw [h2] at F ⊢
      exact ⟨B, D, blk, rfl, F⟩
end Go.Proofs.YtgpenpnobjecgaaGreatDoor

/- WName -/
namespace Go.Proofs.YtgpenpnobjecgaaGreatDoor
set_option maxRecDepth 100000
open Go.RowKit

/-- The tables and sentinels as they are laid. -/
structure Tabs6 (w : World) : Prop where
  sums : SumsTab w
  pow : Lib.TabIs Tryz.prog w "internal/strconv.uint64pow10" .u64 Lib.pow10Tab
  syn : ∃ tp p, w.var? Tryz.prog "strconv.ErrSyntax" = some #[.iface tp p]
  rng : ∃ tp p, w.var? Tryz.prog "strconv.ErrRange" = some #[.iface tp p]
theorem var_kept {F : Nat → Prop} {w w' : World} {n : String} {g : Nat} {cs : Array Value} (hg : Tryz.prog.globalNamed n = some g) (h : w.var? Tryz.prog n = some cs) (hk : Kept F w w') (hF : ¬ F g) : w'.var? Tryz.prog n = some cs := by
  unfold World.var? at h ⊢
  rw [hg] at h ⊢
  simp only [Option.bind_some] at h ⊢
  have hlt : g < w.heap.size := by
    rcases Nat.lt_or_ge g w.heap.size with h' | h'
    · exact h'
    · rw [Array.getElem?_eq_none h'] at h; cases h
  rw [hk.block g hlt hF]
  exact h
theorem Tabs6.low {w w' : World} (h : Tabs6 w) (hb : Below w.heap.size w w') : Tabs6 w' := by
  have hk : Kept (fun _ => False) w w' := Kept.of_below hb
  refine ⟨h.sums.low hb, var_kept (g := 3) (by kernel_rfl) h.pow hk id, ?_, ?_⟩
  · obtain ⟨tp, p, hs⟩ := h.syn
    exact ⟨tp, p, var_kept (g := 1) (by kernel_rfl) hs hk id⟩
  · obtain ⟨tp, p, hs⟩ := h.rng
    exact ⟨tp, p, var_kept (g := 2) (by kernel_rfl) hs hk id⟩
theorem below_grow' (w : World) (k : Nat) (os : Array Obj) : Below w.heap.size w (Sort.grow (w.drewN k) os) :=
  ⟨rfl, rfl, rfl, by simp [Sort.grow, World.drewN], fun j hj => by simp [Sort.grow, World.drewN, Array.getElem?_append_left hj]⟩
def nameW (n : Nat) : List UInt8 := [119, 97, 108, 45] ++ Lib.itoa n
theorem nameW_len (n : Nat) (hn : n < 9223372036854775808) : (nameW n).length ≤ 25 := by
  have := Lib.itoa_length_le n (by omega) (by omega)
  simp only [nameW, List.length_append, List.length_cons, List.length_nil]
  omega
set_option maxRecDepth 100000 in
theorem wname_any (n : Nat) (hn : n < 9223372036854775808) (w : World) (hT : Tabs6 w) : Calls Tryz.prog 64 #[.int .i64 n] w fun e w' => e = .returned (strV (nameW n)) ∧ Below w.heap.size w w' := by
  have hi := Lib.hid (Tryz.strconv_Itoa n (by omega) (by omega) w hT.pow)
  clear hT
  go_enter Tryz.func64, Tryz.ntmps64
  go_wp2_with fail
  go_at_call 102
  refine hi.out.mono ?_
  rintro e w1 ⟨rfl, k, os, rfl⟩
  generalize hl : Lib.itoa (n : Int) = l
  have Hl := Lib.hid hl
  have hll : l.length ≤ 21 := by rw [← hl]; exact Lib.itoa_length_le n (by omega) (by omega)
  clear hl
  go_wp2
  go_ret
  refine ⟨?_, ?_⟩
  · unfold strV nameW
    rw [Hl.out]
    rfl
  · exact below_grow' _ _ _
end Go.Proofs.YtgpenpnobjecgaaGreatDoor

/- DoorW -/
namespace Go.Proofs.YtgpenpnobjecgaaGreatDoor
set_option maxRecDepth 100000
open Go.ChangeShapes Go.WideShapes Go.ChangeAt Go.RowKit

theorem own : ownKnob Tryz.prog.godebug = none := by kernel_rfl
theorem laidOut : laidOutB Tryz.prog = true := by kernel_rfl
theorem cellsU32 : Tryz.prog.cellsOf 152 = 1 := by kernel_rfl
theorem cellsU8 : Tryz.prog.cellsOf 5 = 1 := by kernel_rfl

theorem var_block {P : Program} {W : World} {name : String} {g : Nat} {cs : Array Value} (hg : P.globalNamed name = some g) (h : W.var? P name = some cs) : ∃ t fr, W.heap[g]? = some (.cells cs t fr) := by
  unfold World.var? at h
  rw [hg] at h
  simp only [Option.bind_some] at h
  split at h
  · rename_i c t fr hh
    obtain rfl := Option.some.inj h
    exact ⟨t, fr, hh⟩
  · cases h
theorem laid_tail {P : Program} {W : World} {x : String × DataW Unit} {l : List (String × DataW Unit)} (h : laidMet P (x :: l) W) (hne : ∀ y ∈ l, (y.1 != x.1) = true) : laidMet P l W := by
  have h2 := laidMet.filter (fun y => y.1 != x.1) h
  rw [List.filter_cons_of_neg (by simp), List.filter_eq_self.2 hne] at h2
  exact h2
theorem tail_ne1 {x y : String × DataW Unit} (h1 : (y.1 != x.1) = true) : ∀ z ∈ [y], (z.1 != x.1) = true := by
  intro z hz
  rw [List.mem_singleton] at hz
  subst hz
  exact h1
theorem tail_ne2 {x y y' : String × DataW Unit} (h1 : (y.1 != x.1) = true) (h2 : (y'.1 != x.1) = true) : ∀ z ∈ [y, y'], (z.1 != x.1) = true := by
  intro z hz
  rw [List.mem_cons, List.mem_singleton] at hz
  rcases hz with rfl | rfl
  · exact h1
  · exact h2
/-! ### bulk -/
theorem bulk_one {H : Type} (d : DataW H) : 1 ≤ Rows.uptoBulk d := by
  cases d with
  | lit l => cases l <;> simp [Rows.uptoBulk]
  | nil => simp [Rows.uptoBulk]
  | ptr d => simp [Rows.uptoBulk]
  | slice elems spare => simp [Rows.uptoBulk]
  | agg parts => simp [Rows.uptoBulk]
  | iface t d => simp [Rows.uptoBulk]
  | map entries => simp [Rows.uptoBulk]
  | held h => simp [Rows.uptoBulk]
theorem bulk_length {H : Type} : ∀ l : List (DataW H), l.length ≤ Rows.uptoBulkAll l
  | [] => Nat.zero_le _
  | d :: l => by
    have h1 := bulk_one d
    have h2 := bulk_length l
    simp only [Rows.uptoBulkAll, List.length_cons]
    omega

/-! ### readings -/
section
variable {H : Type} {enc : TypeId × Value → H}
set_option maxRecDepth 100000 in
/-- A slice of bytes that came in. -/
theorem open_u8s {W : World} {base : Nat} {v : Value} {d : DataW H} {p : List MemPlace} (hval : Value.okWide Tryz.prog W .any base 22 v) (h : DataW.Trod enc Tryz.prog W 0 (fun _ => true) true 22 v d p) :
    ∃ a m c l, v = .slice a m c ∧ m = l.length ∧ Src W a c l ∧ l.length ≤ Rows.uptoBulk d := by
  obtain ⟨a1, len, cap, rfl⟩ := okWide_slice Tryz.underlying22 hval
  obtain ⟨fuel, hf⟩ := h
  rcases open_ints Tryz.underlying22 Tryz.underlying5 cellsU8 hf with ⟨hcs, hx⟩ | ⟨a, len', cap', zs, hcs, _, hl, hm, hz, hx, hcell, hwz⟩
  · simp [Value.cells] at hcs
    obtain ⟨rfl, rfl, rfl⟩ := hcs
    exact ⟨none, 0, 0, [], rfl, rfl, ⟨BytesAt.nil _ _, Nat.zero_le _, fun _ => rfl, fun _ h => by cases h⟩, Nat.zero_le _⟩
  · simp [Value.cells] at hcs
    obtain ⟨rfl, rfl, rfl⟩ := hcs
    simp only [Prod.mk.injEq] at hx
    obtain ⟨rfl, rfl⟩ := hx
    simp only [if_true] at hz
    have hh : W.has Tryz.prog .any base a 5 cap := by
      simp only [Value.okWide, Tryz.underlying22, Cell.okWide, Cell.ok] at hval
      exact hval.2.2
    obtain ⟨_, hspot, row, cells, hsh, _⟩ := hh
    obtain ⟨ab, ao, spot⟩ := a
    obtain rfl : spot = none := hspot
    have hlen : ((zs.take len).map fun n => UInt8.ofNat n.toNat).length = len := by simp; omega
    refine ⟨some ⟨ab, ao, none⟩, len, cap, (zs.take len).map fun n => UInt8.ofNat n.toNat, rfl, hlen.symm, ⟨⟨fun _ => ⟨ab, ao, rfl, fun j hj => ?_⟩⟩, by rw [hlen]; exact hl, (fun h => by cases h), fun ad had => ⟨ab, ao, (Option.some.inj had).symm, ?_⟩⟩, ?_⟩
    · rw [hlen] at hj
      have hcj := hcell j (by omega)
      rw [Addr.add_lit] at hcj
      rw [hcj]
      have hb := range_u8 hwz j
      have e : zs.getD j 0 = zs[j]'(by omega) := by simp [List.getD, List.getElem?_eq_getElem (show j < zs.length by omega)]
      rw [List.getD_eq_getElem?_getD] at e
      rw [e] at hb
      rw [List.getD_eq_getElem?_getD, e]
      simp only [byteF, V8, List.getD, List.getElem?_map, List.getElem?_take, hj, if_true, List.getElem?_eq_getElem (show j < zs.length by omega), Option.map_some, Option.getD_some]
      congr 2
      simp only [UInt8.toNat_ofNat']
      omega
    · by_cases hb : ab < W.heap.size
      · exact hb
      · simp [World.shape?, Array.getElem?_eq_none (Nat.le_of_not_lt hb)] at hsh
    · rw [hlen]
      have h1 := bulk_length (H := H) (lits .u8 (zs.take len))
      have h2 : (lits (H := H) .u8 (zs.take len)).length = len := by simp [lits]; omega
      simp only [Rows.uptoBulk]
      omega
theorem trodAll_below {W W' : World} (hb : Below W.heap.size W W') : ∀ {ts : List TypeId} {vs : List Value} {ds : List (DataW H)} {p : List MemPlace}, (∀ t ∈ ts, Tryz.prog.readableRec t = true ∧ t < Tryz.prog.types.size) → (∀ x ∈ p, x.block < W.heap.size) →
    DataW.TrodAll enc Tryz.prog W 0 (fun _ => true) true ts vs ds p → DataW.TrodAll enc Tryz.prog W' 0 (fun b => decide (b < W.heap.size)) true ts vs ds p
  | [], _, _, _, _, _, h => by
    obtain ⟨rfl, rfl, rfl⟩ := trodAll_nil h
    exact trodAll_mk0
  | t :: ts, _, _, _, hr, hp, h => by
    obtain ⟨v, vs1, d, ds1, a, b, rfl, rfl, rfl, h1, h2⟩ := trodAll_cons h
    exact trodAll_cons_mk (Below.trod laidOut (hr t (by simp)).1 (hr t (by simp)).2 h1 hb fun x hx => hp x (by simp [hx])) (trodAll_below hb (fun u hu => hr u (by simp [hu])) (fun x hx => hp x (by simp [hx])) h2)
/-- THE CLAIM BEHIND A LAW THAT ANSWERS TRUE AND LEAVES OLD MEMORY ALONE. -/
theorem post_law {f : Func} {s : ChangeSpec} {W W' : World} {args : Array Value} {ds gs : List (DataW H)} {before : List MemPlace} (hv : s.vars = []) (hW : DataW.Whole enc Tryz.prog f.params.toList s.vars false W args.toList ds gs before)
    (hres : (s.fn H (ds ++ gs)).results = [.lit (.bool true)]) (hargs : (s.fn H (ds ++ gs)).args = ds) (hvars : (s.fn H (ds ++ gs)).vars = []) (hrt : f.resultTypes = #[4]) (hB : Below W.heap.size W W') (hr : ∀ t ∈ f.params.toList, Tryz.prog.readableRec t = true ∧ t < Tryz.prog.types.size) :
    s.post enc Tryz.prog f false true false false W args (.bool true) W' := by
  have hlt := fun x hx => hW.lt x hx
  have hW0 := hW
  obtain ⟨p, q, hA, hV, rfl, _, _⟩ := hW
  rw [hv] at hV
  obtain ⟨rfl, rfl⟩ := trodVars_none hV
  refine ⟨ds, _, _, [], p, [], hW0, ?_, ?_, ?_, hB.frame _, fun h => by cases h⟩
  · rw [hres, hrt]
    exact trodAll_cons_mk (shut_bool Tryz.underlying4 _) trodAll_mk0
  · rw [hargs]
    exact trodAll_below hB hr (fun x hx => hlt x (by simp [hx])) hA
  · rw [hvars, hv]
    rfl
end


/-! ### the tables and sentinels of these laws -/
theorem all_ne {x : String × DataW Unit} {l : List (String × DataW Unit)} (h : ((l.map (·.1)).all fun s => s != x.1) = true) : ∀ y ∈ l, (y.1 != x.1) = true := by
  intro y hy
  exact List.all_eq_true.1 h y.1 (List.mem_map_of_mem hy)
def laidLW : List (String × DataW Unit) := [("math/bits.deBruijn32tab", Rows.laid_math_bits_deBruijn32tab), ("math/bits.deBruijn64tab", Rows.laid_math_bits_deBruijn64tab), ("internal/strconv.uint64pow10", Rows.laid_internal_strconv_uint64pow10), ("strconv.ErrRange", Rows.laid_strconv_ErrRange), ("strconv.ErrSyntax", Rows.laid_strconv_ErrSyntax), ("wicket/frame.sums", Rows.laid_wicket_frame_sums)]
theorem gSums : Tryz.prog.globalNamed "wicket/frame.sums" = some 0 := by kernel_rfl
theorem gPow : Tryz.prog.globalNamed "internal/strconv.uint64pow10" = some 3 := by kernel_rfl
theorem gSyn : Tryz.prog.globalNamed "strconv.ErrSyntax" = some 1 := by kernel_rfl
theorem gRng : Tryz.prog.globalNamed "strconv.ErrRange" = some 2 := by kernel_rfl
theorem tSyn : (Tryz.prog.globals[1]?).map (·.type) = some 164 := by kernel_rfl
theorem tRng : (Tryz.prog.globals[2]?).map (·.type) = some 164 := by kernel_rfl
theorem star_errs : "*" ++ "errors.errorString" = "*errors.errorString" := by decide
theorem row_errs (u : TypeId) (h : Tryz.prog.typeName? 3 u = some "*errors.errorString") : u = 259 :=
  typeName_ptr_named (nm := "errors.errorString") (by rw [star_errs]; kernel_rfl) (by kernel_rfl) (by decide) u (by rw [star_errs]; exact h)
def sumsZ : List Int := (List.range 16).map fun j => ((crcTab.getD j 0).toNat : Int)
theorem sums_tab : (Rows.laid_wicket_frame_sums : DataW Unit) = Lib.tabData .u32 sumsZ := by kernel_rfl
theorem pow_tab : (Rows.laid_internal_strconv_uint64pow10 : DataW Unit) = Lib.tabData .u64 Lib.pow10Tab := by kernel_rfl
end Go.Proofs.YtgpenpnobjecgaaGreatDoor

/- DoorW2 -/
namespace Go.Proofs.YtgpenpnobjecgaaGreatDoor
set_option maxRecDepth 100000
open Go.ChangeShapes Go.WideShapes Go.ChangeAt Go.RowKit

theorem cellsU64 : Tryz.prog.cellsOf 96 = 1 := by kernel_rfl
theorem cellsT16 : Tryz.prog.cellsOf 214 = 16 := by kernel_rfl
theorem cellsT20 : Tryz.prog.cellsOf 266 = 20 := by kernel_rfl
theorem cellsErrs : Tryz.prog.cellsOf 261 = 1 := by kernel_rfl
theorem cellsStr : Tryz.prog.cellsOf 9 = 1 := by kernel_rfl
theorem tSums : (Tryz.prog.globals[0]?).map (·.type) = some 214 := by kernel_rfl
theorem tPow : (Tryz.prog.globals[3]?).map (·.type) = some 266 := by kernel_rfl
theorem sumsZ_cell : ∀ j, j < 16 → (sumsZ.map fun z => Value.int .u32 z).toArray[j]? = some (V32 (crcTab.getD j 0)) := by
  intro j hj
  simp only [List.getElem?_toArray, List.getElem?_map, sumsZ, List.getElem?_range hj, Option.map_some]
  rfl
theorem tabs6_of_laid {W : World} (h : laidMetH Tryz.prog laidLW W) : Tabs6 W := by
  have h1 : laidMet Tryz.prog laidLW W := h
  unfold laidLW at h1
  have h2 := laid_tail h1 (all_ne (by decide))
  have h3 := laid_tail h2 (all_ne (by decide))
  have h4 := laid_tail h3 (all_ne (by decide))
  have h5 := laid_tail h4 (all_ne (by decide))
  have h6 := laid_tail h5 (all_ne (by decide))
  obtain ⟨ar, sr, hr, _, _, _⟩ := laid_sentinel h4 gRng tRng Tryz.underlying164 row_errs Tryz.underlying259 Tryz.underlying261 rfl rfl Tryz.underlying9 cellsErrs cellsStr
  obtain ⟨asy, ssy, hs, _, _, _⟩ := laid_sentinel h5 gSyn tSyn Tryz.underlying164 row_errs Tryz.underlying259 Tryz.underlying261 rfl rfl Tryz.underlying9 cellsErrs cellsStr
  rw [pow_tab] at h3
  rw [sums_tab] at h6
  have a1 := Lib.tabIs_of_head gPow tPow Tryz.underlying266 Tryz.underlying96 cellsU64 cellsT20 h3
  have a2 := Lib.tabIs_of_head gSums tSums Tryz.underlying214 Tryz.underlying152 cellsU32 cellsT16 h6
  refine ⟨fun j hj => ?_, a1, ⟨_, _, hs⟩, ⟨_, _, hr⟩⟩
  unfold Lib.TabIs at a2
  rw [World.var?_cell gSums a2 j]
  exact sumsZ_cell j hj
def valsOf : DataW Unit → List Value
  | .agg ds => ds.map fun d => match d with
    | .lit (.int k z) => .int k z
    | _ => .bool false
  | _ => []
def setCells (vs : List Value) : Obj → Obj
  | .cells _ t fr => .cells vs.toArray t fr
  | o => o
abbrev textRng : ByteArray := { data := #[118, 97, 108, 117, 101, 32, 111, 117, 116, 32, 111, 102, 32, 114, 97, 110, 103, 101] }
abbrev textSyn : ByteArray := { data := #[105, 110, 118, 97, 108, 105, 100, 32, 115, 121, 110, 116, 97, 120] }
noncomputable def lowW : Nat := (World.holding Tryz.prog default ⟨#[], #[], []⟩).heap.size
/-- A world for the witnesses: the tables and the two sentinels hold what the text lays. -/
noncomputable def laidWorldW (os : Os) : World :=
  let w0 := World.holding Tryz.prog os ⟨#[.cells #[.string textRng] 261, .cells #[.string textSyn] 261], #[], []⟩
  { w0 with heap := (((((w0.heap.modify 4 (setCells (valsOf Rows.laid_math_bits_deBruijn32tab))).modify 5 (setCells (valsOf Rows.laid_math_bits_deBruijn64tab))).modify 3 (setCells (valsOf Rows.laid_internal_strconv_uint64pow10))).modify 0 (setCells (valsOf Rows.laid_wicket_frame_sums))).modify 2 (setCells [.iface 259 (.pointer (some ⟨lowW, 0, none⟩))])).modify 1 (setCells [.iface 259 (.pointer (some ⟨lowW + 1, 0, none⟩))]) }
theorem laid_metW (os : Os) (args : Array Value) : laidMet Tryz.prog laidLW ((laidWorldW os).forCall (fun _ _ => 0) ⟨#[], args, []⟩).memory :=
  laidMet_of_run' 8 (by kernel_rfl) (by kernel_rfl)
end Go.Proofs.YtgpenpnobjecgaaGreatDoor
