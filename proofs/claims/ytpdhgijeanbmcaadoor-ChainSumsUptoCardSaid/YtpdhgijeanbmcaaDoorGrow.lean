/- chain.Growth and its closure. -/
import Derived.Test.YtpdhgijeanbmcaaDoorTree2
namespace Go.Proofs.YtpdhgijeanbmcaaDoor
open Go.RowKit Go.Great

def RetS (w : World) (L : List (List UInt8)) (e : Ending) (w' : World) : Prop := ∃ B C, e = .returned (.slice B L.length C) ∧ Acc 29 32 w w' w.heap.size B C L.length (sumCells L)
theorem RetS.of {w w' : World} {B : Option Addr} {C n : Nat} {cs : List Value} {L : List (List UInt8)} (h : Acc 29 32 w w' w.heap.size B C n cs) (hn : n = L.length) (hc : cs = sumCells L) : RetS w L (.returned (.slice B n C)) w' := by
  subst hn hc
  exact ⟨B, C, rfl, h⟩
def pOwn (w0 : World) (L : List (List UInt8)) : Post Low := ⟨fun v w => ∃ B C, v = .slice B L.length C ∧ Acc 29 32 w0 w w0.heap.size B C L.length (sumCells L), fun _ _ _ ⟨B, C, e, h⟩ hl => ⟨B, C, e, h.below hl⟩⟩
theorem info_sum : (Tryd.prog.info? 29).map (fun i => (i.zero.map (·.cells.size), i.size, i.bytes)) = some (some 32, 32, 32) := by kernel_rfl
theorem info_sum' : ∃ z, z.cells.size = 32 ∧ (Tryd.prog.info? 29).map (fun i => (i.zero, i.size, i.bytes)) = some (some z, 32, 32) := by
  have h := info_sum
  cases hi : Tryd.prog.info? 29 with
  | none => rw [hi] at h; cases h
  | some i =>
    rw [hi] at h
    simp only [Option.map_some, Option.some.injEq, Prod.mk.injEq] at h
    obtain ⟨h1, h2, h3⟩ := h
    cases hz : i.zero with
    | none => rw [hz] at h1; cases h1
    | some z => rw [hz] at h1; exact ⟨z, by simpa using h1, by simp [hz, h2, h3]⟩
theorem info_sum2 : ∃ i z, Tryd.prog.info? 29 = some i ∧ i.zero = some z ∧ i.size = 32 ∧ z.cells.size = 32 := by
  obtain ⟨z, hz, h⟩ := info_sum'
  cases hi : Tryd.prog.info? 29 with
  | none => rw [hi] at h; cases h
  | some i =>
    rw [hi] at h
    simp only [Option.map_some, Option.some.injEq, Prod.mk.injEq] at h
    exact ⟨i, z, rfl, h.1, h.2.1, hz⟩
/-- A literal list of one sum. -/
theorem wpList_build_sum {ops : Array Oper} {rest : List Oper} {o : Oper} {a : Act} {w : World} {Q : Exit → Act → World → Prop} (hg : o.guard = none) (x : Operand) (ho : o.op = .buildSlice 31 1 #[(0, x)]) (s : List UInt8) (hx : a.eval x = sumV s) (hs : s.length = 32)
    (h : wpList Tryd.prog ops Q rest (a.put o.dst (.slice (some ⟨w.heap.size, 0, none⟩) 1 1)) (w.alloc (.cells (sumRow s) 29))) : wpList Tryd.prog ops Q (o :: rest) a w := by
  obtain ⟨i, z, hi, hz, hsz, hzs⟩ := info_sum2
  refine wpList_buildSlice hg 31 29 1 #[(0, x)] ho (sumRow s) i z Tryd.underlying31 hi hz (by rw [hsz]; decide) (by rw [hsz]; decide) ?_ h
  have := fill_whole (s := 32) (by decide) [sumV s] ((Array.range (1 * 32)).map (z.cells[· % z.cells.size]!)) (by simp [sumV, Value.cells, hs]) (by simp)
  simp only [hsz]
  rw [show ((#[(0, x)] : Array (Nat × Operand)).map fun (i, x) => (i, a.eval x)).toList = ([sumV s].zipIdx 0).map fun x => (x.2, x.1) from by simp [hx]]
  rw [this]
  simp [sumV, Value.cells, sumRow]
def growFn (g : Nat) : Value := .func (.func 49) #[] #[.pointer (some ⟨g, 0, none⟩)]
theorem ones_sum (s : List UInt8) : ∀ u ∈ s.map V8, u.oneCell' = true := ones' s

set_option maxRecDepth 100000 in
set_option maxHeartbeats 2000000 in
theorem growthin_all (L : List (List UInt8)) (a : Option Addr) (n c : Nat) (whole : Bool) (p : Value) (w : World) (hpos : 0 < n) (hlen : n < 1099511627776) (hT : Tabs w) (S : Sums w a n c L) :
    Calls Tryd.prog 49 #[.int .i64 n, .slice a n c, .bool whole, p] w (RetS w (Tree.sub n L whole)) := by
  rw [Tree.sub_all S.len]
  cases whole with
  | true =>
    go_enter Tryd.func49, Tryd.ntmps49
    go_wp2
    go_ret
    exact ⟨none, 0, rfl, Acc.start _ _ _ _ _ (Below.refl _ _) (Nat.le_refl _)⟩
  | false =>
    have hds := Lib.hid (root_any L a n c w (by have := S.len; omega) hT S)
    obtain ⟨s, hs, hsl⟩ : ∃ s, s = Tree.root L ∧ s.length = 32 := ⟨_, rfl, Tree.root_len L S.each⟩
    rw [← hs] at hds ⊢
    have Hsl := Lib.hid hsl
    clear hs hsl S
    go_enter Tryd.func49, Tryd.ntmps49
    go_wp2_with (first | (go_at_call 21; refine hds.out.mono ?_; rintro e w1 ⟨rfl, hB⟩; have HB := Lib.hid hB; clear hB) | (refine wpList_build_sum rfl _ rfl s rfl Hsl.out ?_))
    go_ret
    refine ⟨some ⟨w1.heap.size, 0, none⟩, 1, rfl, ?_⟩
    have := Acc.lit (e := 29) (size := 32) w1 w.heap.size w (s.map V8).toArray 1 HB.out HB.out.size (by decide) (by simp [Hsl.out])
    simpa [sumCells, sumRow] using this

theorem Acc.sums {w0 w : World} {base : Nat} {A : Option Addr} {C n : Nat} {L : List (List UInt8)} (h : Acc 29 32 w0 w base A C n (sumCells L)) (hL : ∀ x ∈ L, x.length = 32) : Sums w A n C L := by
  have hl : n = L.length := by have := h.length; rw [sumCells_length L hL] at this; omega
  refine ⟨hl, hL, h.at_, h.cap, h.nil, fun ad had => ?_⟩
  rcases h.form with ⟨hn, _⟩ | ⟨g, _, hg, _, hs, _⟩
  · rw [had] at hn; cases hn
  · rw [had] at hg
    obtain rfl := Option.some.inj hg
    exact ⟨g, 0, rfl, hs⟩
theorem low_drew {w w' : World} (h : Low w.drew w') : Low w w' := bthen (Low.drew w) h

set_option maxRecDepth 100000 in
set_option maxHeartbeats 1000000 in
theorem growthin_any : ∀ (N : Nat) (L : List (List UInt8)) (a : Option Addr) (n c m g : Nat) (whole : Bool) (w : World), L.length ≤ N → 0 < m → m ≤ n → n < 1099511627776 → Tabs w → Sums w a n c L → w.cell? ⟨g, 0, none⟩ = some (growFn g) →
    Calls Tryd.prog 49 #[.int .i64 m, .slice a n c, .bool whole, .pointer (some ⟨g, 0, none⟩)] w (RetS w (Tree.sub m L whole)) := by
  obtain ⟨z0, hz0, hinfo⟩ := info_sum'
  have HI := Lib.hid hinfo
  have HZ0 := Lib.hid hz0
  clear hinfo hz0
  intro N
  induction N with
  | zero =>
    intro L a n c m g whole w hN hm hmn hn hT S hg
    have := S.len
    omega
  | succ N ih =>
    intro L a n c m g whole w hN hm hmn hn hT S hg
    by_cases hall : m = n
    · subst hall
      exact growthin_all L a m c whole _ w hm hn hT S
    · have S' := Lib.hid S
      have hnl := S.len
      have hkp := split_pos n
      have hkl := split_lt (show 1 < n by omega)
      have hsl := @Tree.sub_left m L whole (by omega) hm
      have hsr := @Tree.sub_right m L whole (by omega) hm
      rw [← hnl] at hsl hsr
      have Hn := Lib.hid hnl
      have Hg := Lib.hid hg
      have hcap := S.cap
      have Hhalf := half_any n (by omega)
      generalize split n = k at *
      have HN := Lib.hid hN
      have hmn2 : ((m : Int) == (n : Int)) = false := by simp; omega
      have hmne : ¬ (m : Int) = (n : Int) := by omega
      clear hnl hg S hN hall
      by_cases hmk : m ≤ k
      · have hs := hsl hmk
        clear hsl hsr
        have hmk2 : (m : Int) ≤ (k : Int) := by omega
        have hl1 := Tree.root_len (L.drop k) fun x hx => S'.out.each x (List.mem_of_mem_drop hx)
        have hsb := Tree.sub_each m (L.take k) whole fun x hx => S'.out.each x (List.mem_of_mem_take hx)
        have hih := Lib.hid fun w1 hT S hg => ih (L.take k) a k c m g whole w1 (by have := Hn.out; have := HN.out; simp; omega) hm hmk (by omega) hT S hg
        have hrt := Lib.hid fun w1 hT S => root_any (L.drop k) (a.map (·.add (k * 32))) (n - k) (c - k) w1 (by have := Hn.out; simp; omega) hT S
        obtain ⟨s, hse⟩ : ∃ s, s = Tree.root (L.drop k) := ⟨_, rfl⟩
        obtain ⟨M, hM⟩ : ∃ M, M = Tree.sub m (L.take k) whole := ⟨_, rfl⟩
        rw [← hse] at hrt hl1 hs
        rw [← hM] at hih hsb hs
        rw [hs]
        have hMl : M.length + 1 ≤ 1099511627776 := by have this := hsb.2; have h9 := Hn.out; simp at this; omega
        have Hl1 := Lib.hid hl1
        have Hsb := Lib.hid hsb
        have z1 : M.length + 1 ≤ maxLen := by unfold maxLen; omega
        have z2 : (M.length + 1) * 32 ≤ 140737488355328 := by omega
        clear hse hM hs hl1 hsb hMl
        go_enter Tryd.func49, Tryd.ntmps49
        go_wp2_with (go_at_call 45; refine (Hhalf _).mono ?_; rintro e w1 ⟨rfl, rfl⟩)
        clear Hhalf
        refine wp_region_rel 12 Low (by kernel_rfl) (by kernel_rfl) Low.refl Low.trans [.is (growFn g), .is (.int .i64 m), .is (.slice a n c), .is (.int .i64 k), .is (.slice a k c), .is (.bool whole), pOwn w M, .is (.slice a n c), .is (.int .i64 k), .is (.slice (a.map (·.add (k * 32))) (n - k : Nat) (c - k : Nat)), pSum s, pRow 1 (sumRow s) 29] rfl ?_
        refine .cons (fun w1 hR h => ?_) fun v23 => .cons (fun w1 hR h => ?_) fun v24 => .cons (fun w1 hR h => ?_) fun v25 => .cons (fun w1 hR h => ?_) fun v26 => .cons (fun w1 hR h => ?_) fun v27 => .cons (fun w1 hR h => ?_) fun v28 => .cons (fun w1 hR h => ?_) fun v29 => .cons (fun w1 hR h => ?_) fun v30 => .cons (fun w1 hR h => ?_) fun v31 => .cons (fun w1 hR h => ?_) fun v32 => .cons (fun w1 hR h => ?_) fun v33 => .cons (fun w1 hR h => ?_) fun v34 => .nil fun w1 hR h => ?_
        · have hc : w1.cell? ⟨g, 0, none⟩ = some (growFn g) := ((low_drew hR).cell (p := ⟨g, 0, none⟩) (World.block_lt_of_cell? w _ Hg.out)).trans Hg.out
          unfold relOp
          go_wp2
          exact ⟨Low.refl _, rfl⟩
        · unfold relOp
          go_wp2
          exact ⟨Low.refl _, rfl⟩
        · unfold relOp
          go_wp2
          exact ⟨Low.refl _, rfl⟩
        · unfold relOp
          go_wp2
          exact ⟨Low.refl _, rfl⟩
        · obtain ⟨rfl, rfl, -⟩ := h
          unfold relOp
          go_wp2
          exact ⟨Low.refl _, rfl⟩
        · unfold relOp
          go_wp2
          exact ⟨Low.refl _, rfl⟩
        · obtain ⟨rfl, rfl, rfl, rfl, -⟩ := h
          unfold relOp growFn
          go_wp2_with (go_at_call 49; refine (hih.out w1 (hT.low (low_drew hR)) ((S'.out.take k (by omega)).low (low_drew hR)) (((low_drew hR).cell (p := ⟨g, 0, none⟩) (World.block_lt_of_cell? w _ Hg.out)).trans Hg.out)).mono ?_; rintro e w2 ⟨B, C, rfl, hacc⟩)
          exact ⟨hacc.low, B, C, rfl, hacc.rebase (low_drew hR).size (low_drew hR)⟩
        · unfold relOp
          go_wp2
          exact ⟨Low.refl _, rfl⟩
        · unfold relOp
          go_wp2
          exact ⟨Low.refl _, rfl⟩
        · obtain ⟨rfl, rfl, -⟩ := h
          unfold relOp
          go_wp2
          exact ⟨Low.refl _, rfl⟩
        · obtain ⟨rfl, -⟩ := h
          unfold relOp
          go_wp2_with (go_at_call 21; refine (hrt.out w1 (hT.low (low_drew hR)) ((S'.out.rest k hkl).low (low_drew hR))).mono ?_; rintro e w2 ⟨rfl, hB⟩)
          exact ⟨hB, rfl⟩
        · obtain ⟨rfl, -⟩ := h
          unfold relOp
          refine wpList_build_sum rfl _ rfl s (by kernel_rfl) Hl1.out ?_
          go_wp2
          exact ⟨low1 _ _, _, rfl, blk1 _ _⟩
        · obtain ⟨rfl, rfl, rfl, rfl, rfl, rfl, ⟨B, C, rfl, hacc⟩, rfl, rfl, rfl, rfl, ⟨b, rfl, hb⟩, -⟩ := h
          have HA := Lib.hid hacc
          have HB := Lib.hid hb
          clear hacc hb
          refine wpList_acc rfl _ _ 31 rfl 29 32 32 z0 Tryd.underlying31 HI.out HZ0.out (by decide) w w.heap.size B C M.length (sumCells M) (by kernel_rfl) HA.out (some ⟨b, 0, none⟩) 1 1 (s.map V8) (by kernel_rfl) (by simp [Hl1.out]) (Txt.of_block (l := s) (n := 32) HB.out Hl1.out.symm).src.at_.cells (fun h => by cases h) (fun ad h => ⟨_, _, (Option.some.inj h).symm⟩) (ones' s) z1 z2 ?_
          intro B2 D2 w2 hacc hg2 hnew
          have HA2 := Lib.hid hacc
          clear hacc hg2 hnew
          go_wp2
          go_ret
          exact RetS.of HA2.out (by simp) (by rw [sumCells_append, sumCells_one])
      · have hs := hsr hmk
        clear hsl hsr
        have hmk2 : ¬ (m : Int) ≤ (k : Int) := by omega
        have hmk3 : (k : Int) < (m : Int) := by omega
        have e0 : ((m - k : Nat) : Int) = (m : Int) - (k : Int) := by omega
        have hl1 := Tree.root_len (L.take k) fun x hx => S'.out.each x (List.mem_of_mem_take hx)
        have hsb := Tree.sub_each (m - k) (L.drop k) false fun x hx => S'.out.each x (List.mem_of_mem_drop hx)
        have hih := Lib.hid fun w1 hT S hg => ih (L.drop k) (a.map (·.add (k * 32))) (n - k) (c - k) (m - k) g false w1 (by have := Hn.out; have := HN.out; simp; omega) (by omega) (by omega) (by omega) hT S hg
        have hrt := Lib.hid fun w1 hT S => root_any (L.take k) a k c w1 (by have := Hn.out; simp; omega) hT S
        obtain ⟨s, hse⟩ : ∃ s, s = Tree.root (L.take k) := ⟨_, rfl⟩
        obtain ⟨M, hM⟩ : ∃ M, M = Tree.sub (m - k) (L.drop k) false := ⟨_, rfl⟩
        rw [← hse] at hrt hl1 hs
        rw [← hM] at hih hsb hs
        rw [e0] at hih
        rw [hs]
        have hMl : M.length + 1 ≤ 1099511627776 := by have this := hsb.2; have h9 := Hn.out; simp at this; omega
        have Hl1 := Lib.hid hl1
        have Hsb := Lib.hid hsb
        have z1 : M.length + 1 ≤ maxLen := by unfold maxLen; omega
        have z2 : (M.length + 1) * 32 ≤ 140737488355328 := by omega
        clear hse hM hs hl1 hsb hMl e0
        go_enter Tryd.func49, Tryd.ntmps49
        go_wp2_with (go_at_call 45; refine (Hhalf _).mono ?_; rintro e w1 ⟨rfl, rfl⟩)
        clear Hhalf
        refine wp_region_rel 13 Low (by kernel_rfl) (by kernel_rfl) Low.refl Low.trans [.is (growFn g), .is (.int .i64 m), .is (.int .i64 k), .is (.int .i64 ((m : Int) - (k : Int))), .is (.slice a n c), .is (.int .i64 k), .is (.slice (a.map (·.add (k * 32))) (n - k : Nat) (c - k : Nat)), pOwn w M, .is (.slice a n c), .is (.int .i64 k), .is (.slice a k c), pSum s, pRow 1 (sumRow s) 29] rfl ?_
        refine .cons (fun w1 hR h => ?_) fun v => .cons (fun w1 hR h => ?_) fun v => .cons (fun w1 hR h => ?_) fun v => .cons (fun w1 hR h => ?_) fun v => .cons (fun w1 hR h => ?_) fun v => .cons (fun w1 hR h => ?_) fun v => .cons (fun w1 hR h => ?_) fun v => .cons (fun w1 hR h => ?_) fun v => .cons (fun w1 hR h => ?_) fun v => .cons (fun w1 hR h => ?_) fun v => .cons (fun w1 hR h => ?_) fun v => .cons (fun w1 hR h => ?_) fun v => .cons (fun w1 hR h => ?_) fun v => .nil fun w1 hR h => ?_
        · have hc : w1.cell? ⟨g, 0, none⟩ = some (growFn g) := ((low_drew hR).cell (p := ⟨g, 0, none⟩) (World.block_lt_of_cell? w _ Hg.out)).trans Hg.out
          unfold relOp
          go_wp2
          exact ⟨Low.refl _, rfl⟩
        · unfold relOp
          go_wp2
          exact ⟨Low.refl _, rfl⟩
        · unfold relOp
          go_wp2
          exact ⟨Low.refl _, rfl⟩
        · obtain ⟨rfl, rfl, -⟩ := h
          unfold relOp
          go_wp2
          exact ⟨Low.refl _, rfl⟩
        · unfold relOp
          go_wp2
          exact ⟨Low.refl _, rfl⟩
        · unfold relOp
          go_wp2
          exact ⟨Low.refl _, rfl⟩
        · obtain ⟨rfl, rfl, -⟩ := h
          unfold relOp
          go_wp2
          exact ⟨Low.refl _, rfl⟩
        · obtain ⟨rfl, rfl, rfl, -⟩ := h
          unfold relOp growFn
          go_wp2_with (go_at_call 49; refine (hih.out w1 (hT.low (low_drew hR)) ((S'.out.rest k hkl).low (low_drew hR)) (((low_drew hR).cell (p := ⟨g, 0, none⟩) (World.block_lt_of_cell? w _ Hg.out)).trans Hg.out)).mono ?_; rintro e w2 ⟨B, C, rfl, hacc⟩)
          exact ⟨hacc.low, B, C, rfl, hacc.rebase (low_drew hR).size (low_drew hR)⟩
        · unfold relOp
          go_wp2
          exact ⟨Low.refl _, rfl⟩
        · unfold relOp
          go_wp2
          exact ⟨Low.refl _, rfl⟩
        · obtain ⟨rfl, rfl, -⟩ := h
          unfold relOp
          go_wp2
          exact ⟨Low.refl _, rfl⟩
        · obtain ⟨rfl, -⟩ := h
          unfold relOp
          go_wp2_with (go_at_call 21; refine (hrt.out w1 (hT.low (low_drew hR)) ((S'.out.take k (by omega)).low (low_drew hR))).mono ?_; rintro e w2 ⟨rfl, hB⟩)
          exact ⟨hB, rfl⟩
        · obtain ⟨rfl, -⟩ := h
          unfold relOp
          refine wpList_build_sum rfl _ rfl s (by kernel_rfl) Hl1.out ?_
          go_wp2
          exact ⟨low1 _ _, _, rfl, blk1 _ _⟩
        · obtain ⟨rfl, rfl, rfl, rfl, rfl, rfl, rfl, ⟨B, C, rfl, hacc⟩, rfl, rfl, rfl, rfl, ⟨b, rfl, hb⟩, -⟩ := h
          have HA := Lib.hid hacc
          have HB := Lib.hid hb
          clear hacc hb
          refine wpList_acc rfl _ _ 31 rfl 29 32 32 z0 Tryd.underlying31 HI.out HZ0.out (by decide) w w.heap.size B C M.length (sumCells M) (by kernel_rfl) HA.out (some ⟨b, 0, none⟩) 1 1 (s.map V8) (by kernel_rfl) (by simp [Hl1.out]) (Txt.of_block (l := s) (n := 32) HB.out Hl1.out.symm).src.at_.cells (fun h => by cases h) (fun ad h => ⟨_, _, (Option.some.inj h).symm⟩) (ones' s) z1 z2 ?_
          intro B2 D2 w2 hacc hg2 hnew
          have HA2 := Lib.hid hacc
          clear hacc hg2 hnew
          go_wp2
          go_ret
          exact RetS.of HA2.out (by simp) (by rw [sumCells_append, sumCells_one])
end Go.Proofs.YtpdhgijeanbmcaaDoor
