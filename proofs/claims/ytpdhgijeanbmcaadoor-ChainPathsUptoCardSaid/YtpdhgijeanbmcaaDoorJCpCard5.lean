/- What 'live' calls, in the form in which it calls it. -/
import Derived.Deep.DeepCutAuto
import Derived.Test.YtpdhgijeanbmcaaDoorJCpCard4
/- Rsub -/
namespace Go.Proofs.YtpdhgijeanbmcaaDoor
open Go.RowKit Go.Great

set_option maxRecDepth 100000 in
set_option maxHeartbeats 2000000 in
theorem rsub_all (L : List (List UInt8)) (a : Option Addr) (n c : Nat) (whole : Bool) (w : World) (hpos : 0 < n) (hlen : n < 1099511627776) (hT : Tabs w) (S : Sums w a n c L) :
    Calls Tryd.prog 50 #[.int .i64 n, .slice a n c, .bool whole] w (RetS w (Tree.sub n L whole)) := by
  rw [Tree.sub_all S.len]
  cases whole with
  | true =>
    go_enter Tryd.func50, Tryd.ntmps50
    go_wp2
    go_ret
    exact ⟨none, 0, rfl, Acc.start _ _ _ _ _ (Below.refl _ _) (Nat.le_refl _)⟩
  | false =>
    have hds := Lib.hid (rroot_any L.length L a n c w (Nat.le_refl _) (by have := S.len; omega) hT S)
    obtain ⟨s, hs, hsl⟩ : ∃ s, s = Tree.root L ∧ s.length = 32 := ⟨_, rfl, Tree.root_len L S.each⟩
    rw [← hs] at hds ⊢
    have Hsl := Lib.hid hsl
    clear hs hsl S
    go_enter Tryd.func50, Tryd.ntmps50
    go_wp2_with (first | (go_at_call 22; refine hds.out.mono ?_; rintro e w1 ⟨rfl, hB⟩; have HB := Lib.hid hB; clear hB) | (refine wpList_build_sum rfl _ rfl s rfl Hsl.out ?_))
    go_ret
    refine ⟨some ⟨w1.heap.size, 0, none⟩, 1, rfl, ?_⟩
    have := Acc.lit (e := 29) (size := 32) w1 w.heap.size w (s.map V8).toArray 1 HB.out HB.out.size (by decide) (by simp [Hsl.out])
    simpa [sumCells, sumRow] using this

set_option maxRecDepth 100000 in
set_option maxHeartbeats 2000000 in
theorem rsubin_any : ∀ (N : Nat) (L : List (List UInt8)) (a : Option Addr) (n c m : Nat) (whole : Bool) (w : World), L.length ≤ N → 0 < m → m ≤ n → n < 1099511627776 → Tabs w → Sums w a n c L →
    Calls Tryd.prog 50 #[.int .i64 m, .slice a n c, .bool whole] w (RetS w (Tree.sub m L whole)) := by
  obtain ⟨z0, hz0, hinfo⟩ := info_sum'
  have HI := Lib.hid hinfo
  have HZ0 := Lib.hid hz0
  clear hinfo hz0
  intro N
  induction N with
  | zero =>
    intro L a n c m whole w hN hm hmn hn hT S
    have := S.len
    omega
  | succ N ih =>
    intro L a n c m whole w hN hm hmn hn hT S
    by_cases hall : m = n
    · subst hall
      exact rsub_all L a m c whole w hm hn hT S
    · have S' := Lib.hid S
      have hnl := S.len
      have hkp := split_pos n
      have hkl := split_lt (show 1 < n by omega)
      have hsl := @Tree.sub_left m L whole (by omega) hm
      have hsr := @Tree.sub_right m L whole (by omega) hm
      rw [← hnl] at hsl hsr
      have Hn := Lib.hid hnl
      have hcap := S.cap
      have Hhalf := split_any n (by omega)
      generalize split n = k at *
      have HN := Lib.hid hN
      have hmn2 : ((m : Int) == (n : Int)) = false := by simp; omega
      have hmne : ¬ (m : Int) = (n : Int) := by omega
      clear hnl S hN hall
      by_cases hmk : m ≤ k
      · have hs := hsl hmk
        clear hsl hsr
        have hmk2 : (m : Int) ≤ (k : Int) := by omega
        have hl1 := Tree.root_len (L.drop k) fun x hx => S'.out.each x (List.mem_of_mem_drop hx)
        have hsb := (Tree.sub_each m (L.take k) whole fun x hx => S'.out.each x (List.mem_of_mem_take hx)).2
        have hih := Lib.hid fun w1 hT S => ih (L.take k) a k c m whole w1 (by have := Hn.out; have := HN.out; simp; omega) (by omega) (by omega) (by omega) hT S
        have hrt := Lib.hid fun w1 hT S => rroot_any (L.drop k).length (L.drop k) (a.map (·.add (k * 32))) (n - k) (c - k) w1 (Nat.le_refl _) (by have := Hn.out; simp; omega) hT S
        obtain ⟨s, hse⟩ : ∃ s, s = Tree.root (L.drop k) := ⟨_, rfl⟩
        obtain ⟨M, hM⟩ : ∃ M, M = Tree.sub m (L.take k) whole := ⟨_, rfl⟩
        rw [← hse] at hrt hl1 hs
        rw [← hM] at hih hsb hs
        rw [hs]
        have hMl : M.length + 1 ≤ 1099511627776 := by have h9 := Hn.out; simp at hsb; omega
        have Hl1 := Lib.hid hl1
        have z1 : M.length + 1 ≤ maxLen := by unfold maxLen; omega
        have z2 : (M.length + 1) * 32 ≤ 140737488355328 := by omega
        clear hse hM hs hl1 hsb hMl
        go_enter Tryd.func50, Tryd.ntmps50
        go_wp2_with (go_at_call 46; refine (Hhalf _).mono ?_; rintro e w1 ⟨rfl, rfl⟩)
        clear Hhalf
        refine wp_region_reg 11 48 (Low) (by kernel_rfl) (by kernel_rfl) (by kernel_rfl) (by kernel_rfl) (by kernel_rfl) (Low.refl) (Low.trans) [.is (.int .i64 m : Value), .is (.slice a n c : Value), .is (.int .i64 k : Value), .is (.slice a k c : Value), .is (.bool whole : Value), yOwn w M, .is (.slice a n c : Value), .is (.int .i64 k : Value), .is (.slice (a.map (·.add (k * 32))) (n - k : Nat) (c - k : Nat) : Value), .is (sumV s), yRow 1 (sumRow s) 29] rfl (fun vs => ?_) (fun vs wr hR h => ?_)
        · refine RegHead.cons (fun wr hR h => ?_) ?_
          · exact relAt.pure (Low.refl) (by kernel_rfl) (by kernel_rfl)
          refine RegHead.cons (fun wr hR h => ?_) ?_
          · exact relAt.pure (Low.refl) (by kernel_rfl) (by kernel_rfl)
          refine RegHead.cons (fun wr hR h => ?_) ?_
          · exact relAt.pure (Low.refl) (by kernel_rfl) (by kernel_rfl)
          refine RegHead.cons (fun wr hR h => ?_) ?_
          · exact relAt.pureS (Low.refl) (by kernel_rfl) (by kernel_rfl) (run_sums_to wr a n c k (fun ad h => S'.out.od ad h) (by omega))
          refine RegHead.cons (fun wr hR h => ?_) ?_
          · exact relAt.pure (Low.refl) (by kernel_rfl) (by kernel_rfl)
          refine RegHead.cons (fun wr hR h => ?_) ?_
          · refine relAt.call (by kernel_rfl) (by kernel_rfl) ((hih.out wr (hT.low (low_drew hR)) ((S'.out.take k (by omega)).low (low_drew hR))).mono ?_)
            rintro e w2 ⟨B, C, rfl, hacc⟩
            exact ⟨_, rfl, hacc.low, B, C, rfl, hacc.rebase (low_drew hR).size (low_drew hR)⟩
          refine RegHead.cons (fun wr hR h => ?_) ?_
          · exact relAt.pure (Low.refl) (by kernel_rfl) (by kernel_rfl)
          refine RegHead.cons (fun wr hR h => ?_) ?_
          · exact relAt.pure (Low.refl) (by kernel_rfl) (by kernel_rfl)
          refine RegHead.cons (fun wr hR h => ?_) ?_
          · exact relAt.pureS (Low.refl) (by kernel_rfl) (by kernel_rfl) (run_sums_rest wr a n c k hkl hcap)
          refine RegHead.cons (fun wr hR h => ?_) ?_
          · refine relAt.call (by kernel_rfl) (by kernel_rfl) ((hrt.out wr (hT.low (low_drew hR)) ((S'.out.rest k hkl).low (low_drew hR))).mono ?_)
            rintro e w2 ⟨rfl, hB⟩
            exact ⟨_, rfl, hB, rfl⟩
          refine RegHead.cons (fun wr hR h => ?_) ?_
          · exact relAt.valueS (by kernel_rfl) (by kernel_rfl) (run_build_sum wr s Hl1.out) (low1 _ _) ⟨_, rfl, blk1 _ _⟩
          exact trivial
        · obtain ⟨B, C, hvB, hacc⟩ : ∃ B C, vs 5 = .slice B M.length C ∧ Acc 29 32 w wr w.heap.size B C M.length (sumCells M) := allOf_iff.1 h 5 (by decide)
          obtain ⟨b, hvb, hb⟩ : ∃ b, vs 10 = .slice (some ⟨b, 0, none⟩) 1 1 ∧ wr.heap[b]? = some (.cells (sumRow s) 29 (0, 0)) := allOf_iff.1 h 10 (by decide)
          have HA := Lib.hid hacc
          have HB := Lib.hid hb
          clear hacc hb h hR
          refine wp_frame (new := [(.int .i64 m : Value), (.slice a n c : Value), (.int .i64 k : Value), (.slice a k c : Value), (.bool whole : Value), vs 5, (.slice a n c : Value), (.int .i64 k : Value), (.slice (a.map (·.add (k * 32))) (n - k : Nat) (c - k : Nat) : Value), (sumV s), vs 10]) 23 34 (by kernel_rfl) ?_
          simp only [List.take, List.drop, List.cons_append, List.nil_append]
          rw [hvB, hvb]
          clear hvB hvb
          refine wpList_acc rfl _ _ 31 rfl 29 32 32 z0 Tryd.underlying31 HI.out HZ0.out (by decide) w w.heap.size B C M.length (sumCells M) rfl HA.out (some ⟨b, 0, none⟩) 1 1 (s.map V8) rfl (by simp [Hl1.out]) (Txt.of_block (l := s) (n := 32) HB.out Hl1.out.symm).src.at_.cells (fun h => by cases h) (fun ad h => ⟨_, _, (Option.some.inj h).symm⟩) (ones' s) z1 z2 ?_
          intro B2 D2 w2 hacc hg2 hnew
          have HA2 := Lib.hid hacc
          clear hacc hg2 hnew
          go_wp2
          go_ret
          exact RetS.of HA2.out (by simp) (by rw [sumCells_append, sumCells_one])
      · have hs := hsr hmk
        clear hsl hsr
        have hmk2 : ¬ (m : Int) ≤ (k : Int) := by omega
        have hmk3 : (k : Int) < (m : Int) := by omega
        have e0 : ((m - k : Nat) : Int) = (m : Int) - (k : Int) := by omega
        have hl1 := Tree.root_len (L.take k) fun x hx => S'.out.each x (List.mem_of_mem_take hx)
        have hsb := (Tree.sub_each (m - k) (L.drop k) false fun x hx => S'.out.each x (List.mem_of_mem_drop hx)).2
        have hih := Lib.hid fun w1 hT S => ih (L.drop k) (a.map (·.add (k * 32))) (n - k) (c - k) (m - k) false w1 (by have := Hn.out; have := HN.out; simp; omega) (by omega) (by omega) (by omega) hT S
        have hrt := Lib.hid fun w1 hT S => rroot_any (L.take k).length (L.take k) a k c w1 (Nat.le_refl _) (by have := Hn.out; simp; omega) hT S
        obtain ⟨s, hse⟩ : ∃ s, s = Tree.root (L.take k) := ⟨_, rfl⟩
        obtain ⟨M, hM⟩ : ∃ M, M = Tree.sub (m - k) (L.drop k) false := ⟨_, rfl⟩
        rw [← hse] at hrt hl1 hs
        rw [← hM] at hih hsb hs
        rw [e0] at hih
        rw [hs]
        have hMl : M.length + 1 ≤ 1099511627776 := by have h9 := Hn.out; simp at hsb; omega
        have Hl1 := Lib.hid hl1
        have z1 : M.length + 1 ≤ maxLen := by unfold maxLen; omega
        have z2 : (M.length + 1) * 32 ≤ 140737488355328 := by omega
        clear hse hM hs hl1 hsb hMl e0
        go_enter Tryd.func50, Tryd.ntmps50
        go_wp2_with (go_at_call 46; refine (Hhalf _).mono ?_; rintro e w1 ⟨rfl, rfl⟩)
        clear Hhalf
        refine wp_region_reg 12 48 (Low) (by kernel_rfl) (by kernel_rfl) (by kernel_rfl) (by kernel_rfl) (by kernel_rfl) (Low.refl) (Low.trans) [.is (.int .i64 m : Value), .is (.int .i64 k : Value), .is (.int .i64 ((m : Int) - (k : Int)) : Value), .is (.slice a n c : Value), .is (.int .i64 k : Value), .is (.slice (a.map (·.add (k * 32))) (n - k : Nat) (c - k : Nat) : Value), yOwn w M, .is (.slice a n c : Value), .is (.int .i64 k : Value), .is (.slice a k c : Value), .is (sumV s), yRow 1 (sumRow s) 29] rfl (fun vs => ?_) (fun vs wr hR h => ?_)
        · refine RegHead.cons (fun wr hR h => ?_) ?_
          · exact relAt.pure (Low.refl) (by kernel_rfl) (by kernel_rfl)
          refine RegHead.cons (fun wr hR h => ?_) ?_
          · exact relAt.pure (Low.refl) (by kernel_rfl) (by kernel_rfl)
          refine RegHead.cons (fun wr hR h => ?_) ?_
          · exact relAt.pureS (Low.refl) (by kernel_rfl) (by kernel_rfl) (run_int_sub wr 3 (.tmp 35) (.tmp 36) _ _ (by omega))
          refine RegHead.cons (fun wr hR h => ?_) ?_
          · exact relAt.pure (Low.refl) (by kernel_rfl) (by kernel_rfl)
          refine RegHead.cons (fun wr hR h => ?_) ?_
          · exact relAt.pure (Low.refl) (by kernel_rfl) (by kernel_rfl)
          refine RegHead.cons (fun wr hR h => ?_) ?_
          · exact relAt.pureS (Low.refl) (by kernel_rfl) (by kernel_rfl) (run_sums_rest wr a n c k hkl hcap)
          refine RegHead.cons (fun wr hR h => ?_) ?_
          · refine relAt.call (by kernel_rfl) (by kernel_rfl) ((hih.out wr (hT.low (low_drew hR)) ((S'.out.rest k hkl).low (low_drew hR))).mono ?_)
            rintro e w2 ⟨B, C, rfl, hacc⟩
            exact ⟨_, rfl, hacc.low, B, C, rfl, hacc.rebase (low_drew hR).size (low_drew hR)⟩
          refine RegHead.cons (fun wr hR h => ?_) ?_
          · exact relAt.pure (Low.refl) (by kernel_rfl) (by kernel_rfl)
          refine RegHead.cons (fun wr hR h => ?_) ?_
          · exact relAt.pure (Low.refl) (by kernel_rfl) (by kernel_rfl)
          refine RegHead.cons (fun wr hR h => ?_) ?_
          · exact relAt.pureS (Low.refl) (by kernel_rfl) (by kernel_rfl) (run_sums_to wr a n c k (fun ad h => S'.out.od ad h) (by omega))
          refine RegHead.cons (fun wr hR h => ?_) ?_
          · refine relAt.call (by kernel_rfl) (by kernel_rfl) ((hrt.out wr (hT.low (low_drew hR)) ((S'.out.take k (by omega)).low (low_drew hR))).mono ?_)
            rintro e w2 ⟨rfl, hB⟩
            exact ⟨_, rfl, hB, rfl⟩
          refine RegHead.cons (fun wr hR h => ?_) ?_
          · exact relAt.valueS (by kernel_rfl) (by kernel_rfl) (run_build_sum wr s Hl1.out) (low1 _ _) ⟨_, rfl, blk1 _ _⟩
          exact trivial
        · obtain ⟨B, C, hvB, hacc⟩ : ∃ B C, vs 6 = .slice B M.length C ∧ Acc 29 32 w wr w.heap.size B C M.length (sumCells M) := allOf_iff.1 h 6 (by decide)
          obtain ⟨b, hvb, hb⟩ : ∃ b, vs 11 = .slice (some ⟨b, 0, none⟩) 1 1 ∧ wr.heap[b]? = some (.cells (sumRow s) 29 (0, 0)) := allOf_iff.1 h 11 (by decide)
          have HA := Lib.hid hacc
          have HB := Lib.hid hb
          clear hacc hb h hR
          refine wp_frame (new := [(.int .i64 m : Value), (.int .i64 k : Value), (.int .i64 ((m : Int) - (k : Int)) : Value), (.slice a n c : Value), (.int .i64 k : Value), (.slice (a.map (·.add (k * 32))) (n - k : Nat) (c - k : Nat) : Value), vs 6, (.slice a n c : Value), (.int .i64 k : Value), (.slice a k c : Value), (sumV s), vs 11]) 35 47 (by kernel_rfl) ?_
          simp only [List.take, List.drop, List.cons_append, List.nil_append]
          rw [hvB, hvb]
          clear hvB hvb
          refine wpList_acc rfl _ _ 31 rfl 29 32 32 z0 Tryd.underlying31 HI.out HZ0.out (by decide) w w.heap.size B C M.length (sumCells M) rfl HA.out (some ⟨b, 0, none⟩) 1 1 (s.map V8) rfl (by simp [Hl1.out]) (Txt.of_block (l := s) (n := 32) HB.out Hl1.out.symm).src.at_.cells (fun h => by cases h) (fun ad h => ⟨_, _, (Option.some.inj h).symm⟩) (ones' s) z1 z2 ?_
          intro B2 D2 w2 hacc hg2 hnew
          have HA2 := Lib.hid hacc
          clear hacc hg2 hnew
          go_wp2
          go_ret
          exact RetS.of HA2.out (by simp) (by rw [sumCells_append, sumCells_one])

set_option maxRecDepth 100000 in
set_option maxHeartbeats 1000000 in
theorem rgrowth_bad (a : Option Addr) (n c : Nat) (m : Int) (w : World) (hm : m < 1 ∨ (n : Int) < m) :
    Calls Tryd.prog 27 #[.slice a n c, .int .i64 m] w (RetSE w [] 2) := by
  by_cases h : m < 1
  · go_enter Tryd.func27, Tryd.ntmps27
    go_wp2
    go_ret2
    exact ⟨none, 0, rfl, Acc.start _ _ _ _ _ (Below.refl _ _) (Nat.le_refl _)⟩
  · have h1 : (n : Int) < m := by omega
    go_enter Tryd.func27, Tryd.ntmps27
    go_wp2
    go_ret2
    exact ⟨none, 0, rfl, Acc.start _ _ _ _ _ (Below.refl _ _) (Nat.le_refl _)⟩
set_option maxRecDepth 100000 in
set_option maxHeartbeats 1000000 in
theorem rgrowth_any (L : List (List UInt8)) (a : Option Addr) (n c m : Nat) (w : World) (hm : 0 < m) (hmn : m ≤ n) (hlen : n < 1099511627776) (hT : Tabs w) (S : Sums w a n c L) :
    Calls Tryd.prog 27 #[.slice a n c, .int .i64 m] w (RetSE w (Tree.sub m L true) 0) := by
  have hin := Lib.hid (rsubin_any L.length L a n c m true w (Nat.le_refl _) hm hmn hlen hT S)
  have h1 : ¬ (m : Int) < 1 := by omega
  have h2 : ¬ (n : Int) < (m : Int) := by omega
  clear S
  go_enter Tryd.func27, Tryd.ntmps27
  go_wp2_with (go_at_call 50; refine hin.out.mono ?_; rintro e w1 ⟨B, C, rfl, hA⟩; have HA := Lib.hid hA; clear hA)
  go_ret2
  exact ⟨B, C, rfl, HA.out⟩
end Go.Proofs.YtpdhgijeanbmcaaDoor

/- PathAll -/
namespace Go.Proofs.YtpdhgijeanbmcaaDoor
open Go.RowKit Go.Great

def pathOf (L : List (List UInt8)) (i : Int) : List (List UInt8) × Int := if 0 ≤ i ∧ i < L.length then (Tree.path L i.toNat, 0) else ([], 2)
def growthOf (L : List (List UInt8)) (m : Int) : List (List UInt8) × Int := if 1 ≤ m ∧ m ≤ L.length then (Tree.sub m.toNat L true, 0) else ([], 2)
theorem pathOf_each (L : List (List UInt8)) (i : Int) (h : ∀ x ∈ L, x.length = 32) : (∀ x ∈ (pathOf L i).1, x.length = 32) ∧ (pathOf L i).1.length ≤ L.length := by
  unfold pathOf
  split
  · exact ⟨Tree.path_each _ _ h, Tree.path_len _ _⟩
  · simp
theorem growthOf_each (L : List (List UInt8)) (i : Int) (h : ∀ x ∈ L, x.length = 32) : (∀ x ∈ (growthOf L i).1, x.length = 32) ∧ (growthOf L i).1.length ≤ L.length + 1 := by
  unfold growthOf
  split
  · exact Tree.sub_each _ _ _ h
  · simp
set_option maxRecDepth 100000 in
set_option maxHeartbeats 1000000 in
theorem path_bad (a : Option Addr) (n c : Nat) (i : Int) (w : World) (hi : i < 0 ∨ (n : Int) ≤ i) :
    Calls Tryd.prog 24 #[.slice a n c, .int .i64 i] w (RetSE w [] 2) := by
  by_cases hi : i < 0
  · go_enter Tryd.func24, Tryd.ntmps24
    go_wp2
    go_step3
    go_wp2
    rw [Exit.noGoto_ret]
    go_ret2
    exact ⟨none, 0, rfl, Acc.start _ _ _ _ _ (Below.refl _ _) (Nat.le_refl _)⟩
  · have h1 : (n : Int) ≤ i := by omega
    go_enter Tryd.func24, Tryd.ntmps24
    go_wp2
    go_step3
    go_wp2
    rw [Exit.noGoto_ret]
    go_ret2
    exact ⟨none, 0, rfl, Acc.start _ _ _ _ _ (Below.refl _ _) (Nat.le_refl _)⟩
section
variable (L : List (List UInt8)) (a : Option Addr) (n c : Nat) (i : Int) (w : World) (hn : n < 1099511627776) (hT : Tabs w) (S : Sums w a n c L)
include hn hT S
theorem path_all : Calls Tryd.prog 24 #[.slice a n c, .int .i64 i] w (RetSE w (pathOf L i).1 (pathOf L i).2) := by
  have hl := S.len
  unfold pathOf
  split
  · next h =>
    have := path_any L a n c i.toNat w (by omega) hn hT S
    rwa [Int.toNat_of_nonneg h.1] at this
  · exact path_bad a n c i w (by omega)
theorem rpath_all : Calls Tryd.prog 25 #[.slice a n c, .int .i64 i] w (RetSE w (pathOf L i).1 (pathOf L i).2) := by
  have hl := S.len
  unfold pathOf
  split
  · next h =>
    have := rpath_any L a n c i.toNat w (by omega) hn hT S
    rwa [Int.toNat_of_nonneg h.1] at this
  · exact rpath_bad a n c i w (by omega)
theorem growth_all : Calls Tryd.prog 26 #[.slice a n c, .int .i64 i] w (RetSE w (growthOf L i).1 (growthOf L i).2) := by
  have hl := S.len
  unfold growthOf
  split
  · next h =>
    have := growth_any L a n c i.toNat w (by omega) (by omega) hn hT S
    rwa [Int.toNat_of_nonneg (by omega)] at this
  · exact growth_bad a n c i w (by omega)
theorem rgrowth_all : Calls Tryd.prog 27 #[.slice a n c, .int .i64 i] w (RetSE w (growthOf L i).1 (growthOf L i).2) := by
  have hl := S.len
  unfold growthOf
  split
  · next h =>
    have := rgrowth_any L a n c i.toNat w (by omega) (by omega) hn hT S
    rwa [Int.toNat_of_nonneg (by omega)] at this
  · exact rgrowth_bad a n c i w (by omega)
end
/-- A slice of sums, and where its block may lie. -/
structure Lies (W : World) (lo hi : Nat) (A : Option Addr) (n C : Nat) (M : List (List UInt8)) : Prop where
  sums : Sums W A n C M
  where_ : ∀ ad, A = some ad → lo ≤ ad.block ∧ ad.block < hi
theorem Lies.of_acc {w0 W : World} {base : Nat} {A : Option Addr} {C n : Nat} {M : List (List UInt8)} (h : Acc 29 32 w0 W base A C n (sumCells M)) (hM : ∀ x ∈ M, x.length = 32) : Lies W base W.heap.size A n C M := ⟨h.sums hM, h.block⟩
theorem Lies.below {W W' : World} {lo hi : Nat} {A : Option Addr} {n C : Nat} {M : List (List UInt8)} (h : Lies W lo hi A n C M) (hb : Below W.heap.size W W') : Lies W' lo hi A n C M := ⟨h.sums.below hb, h.where_⟩
theorem Lies.row {W : World} {lo hi : Nat} {A : Option Addr} {n C : Nat} {M : List (List UInt8)} (h : Lies W lo hi A n C M) : ∀ k, A.map (·.block) = some k → lo ≤ k ∧ k < hi := fun k hk => by
  cases A with
  | none => cases hk
  | some ad => obtain rfl := Option.some.inj hk; exact h.where_ ad rfl
/-- Another slice's block is written. -/
theorem Sums.other {W W' : World} {r : Option Nat} {A : Option Addr} {n C : Nat} {M : List (List UInt8)} (h : Sums W A n C M) (hg : W.grownBy W' r) (hne : ∀ ad, A = some ad → r ≠ some ad.block) : Sums W' A n C M := by
  refine ⟨h.len, h.each, ⟨fun h0 => ?_⟩, h.cap, h.nil, fun ad had => ?_⟩
  · obtain ⟨b, o, ha, hc⟩ := h.at_.at_ h0
    refine ⟨b, o, ha, fun j v hj => ?_⟩
    have h1 := hc j v hj
    have hlt := World.block_lt_of_cell? W _ h1
    have h2 := hg.block b hlt (fun e => hne _ ha e.symm)
    rw [← h1]
    simp only [World.cell?, h2]
  · obtain ⟨b, o, e, hlt⟩ := h.plain ad had
    exact ⟨b, o, e, Nat.lt_of_lt_of_le hlt hg.size⟩
theorem Lies.other {W W' : World} {r : Option Nat} {lo hi lo' hi' : Nat} {A : Option Addr} {n C : Nat} {M : List (List UInt8)} (h : Lies W lo hi A n C M) (hg : W.grownBy W' r) (hr : ∀ k, r = some k → lo' ≤ k ∧ k < hi') (hd : hi ≤ lo' ∨ hi' ≤ lo) : Lies W' lo hi A n C M :=
  ⟨h.sums.other hg fun ad had e => by
    have h1 := hr _ e
    have h2 := h.where_ ad had
    omega, h.where_⟩
theorem below_row {w W W' : World} {r : Option Nat} {lo hi : Nat} (h : Below w.heap.size w W) (hg : W.grownBy W' r) (hr : ∀ k, r = some k → lo ≤ k ∧ k < hi) (hlo : w.heap.size ≤ lo) : Below w.heap.size w W' :=
  h.grown hg h.size fun k hk => by have := hr k hk; omega
theorem Acc.here {e size : Nat} {w0 w : World} {base : Nat} {A : Option Addr} {C n : Nat} {cs : List Value} (H : Acc e size w0 w base A C n cs) : Acc e size w w 0 A C n cs := by
  refine ⟨⟨H.own.1, ?_⟩, Below.refl _ _, Nat.zero_le _⟩
  rcases H.own.2 with h | ⟨g, cap, cur, h1, h2, h3⟩
  · exact .inl h
  · exact .inr ⟨g, cap, cur, h1, Nat.zero_le _, h3⟩
theorem Acc.apart {e size : Nat} {w0 w w' : World} {A : Option Addr} {C n : Nat} {cs : List Value} {r : Option Nat} {lo hi lo' hi' : Nat} (H : Acc e size w0 w 0 A C n cs) (hg : w.grownBy w' r) (hw : ∀ ad, A = some ad → lo ≤ ad.block ∧ ad.block < hi) (hr : ∀ k, r = some k → lo' ≤ k ∧ k < hi') (hd : hi ≤ lo' ∨ hi' ≤ lo) : Acc e size w0 w' 0 A C n cs := by
  refine ⟨H.own.kept hg ?_, H.low.grown hg (Nat.zero_le _) (fun k _ => Nat.zero_le k), Nat.zero_le _⟩
  cases A with
  | none => exact .inl rfl
  | some ad =>
    refine .inr fun e => ?_
    have h1 := hw ad rfl
    have h2 := hr ad.block (by rw [← e]; rfl)
    omega
end Go.Proofs.YtpdhgijeanbmcaaDoor

/- Own -/
namespace Go.Proofs.YtpdhgijeanbmcaaDoor
open Go.RowKit Go.Great

@[go_sem] theorem neq_sumV (x y : List UInt8) (w : World) (hx : x.length = 32) (hy : y.length = 32) : (binOp .neq 29 (sumV x) (sumV y)).run Tryd.prog w = .ok (.bool (!(x == y))) w := by
  show (binOp .neq 29 (.agg (x.map V8).toArray) (.agg (y.map V8).toArray)).run Tryd.prog w = _
  rw [run_neq_struct]
  have h := run_equalIn_bytes (P := Tryd.prog) w 9998 29 5 32 Tryd.underlying29 Tryd.underlying5 size_u8 x y hx hy
  have h2 : (Op.equalIn 10000 29 (.agg (x.map V8).toArray) (.agg (y.map V8).toArray)).run Tryd.prog w = .ok (x == y) w := h
  rw [h2]
  rfl

/-- At most 300 texts. -/
theorem few_any (ts : List (List UInt8)) (a : Option Addr) (n c : Nat) (w : World) (S : Strs w a n ts) (hc : n ≤ c) :
    Calls Tryd.prog 15 #[.slice a n c] w fun e w' => ∃ n', n' ≤ 300 ∧ e = .returned (.slice a n' c) ∧ Strs w a n' (ts.take 300) ∧ w = w' := by
  have hl := S.len
  have HS := Lib.hid S
  have Hl := Lib.hid hl
  clear S hl
  by_cases h : 300 < n
  · have h1 : (300 : Int) < (n : Int) := by omega
    have h2 : (300 : Int) ≤ (c : Int) := by omega
    have h3 : 300 ≤ c := by omega
    go_enter Tryd.func15, Tryd.ntmps15
    go_wp2
    go_ret
    refine ⟨300, Nat.le_refl _, rfl, ⟨by rw [List.length_take]; have := Hl.out; omega, fun _ => ?_⟩, rfl⟩
    obtain ⟨b, o, e, hc⟩ := HS.out.at_ (by omega)
    refine ⟨b, o, e, fun k hk => ?_⟩
    rw [List.length_take] at hk
    rw [hc k (by omega)]
    simp
  · have h1 : ¬ (300 : Int) < (n : Int) := by omega
    go_enter Tryd.func15, Tryd.ntmps15
    go_wp2
    go_ret
    refine ⟨n, by omega, rfl, ?_, rfl⟩
    rw [List.take_of_length_le (by have := Hl.out; omega)]
    exact HS.out

/-- Two lists that are one. -/
theorem sums_eq (L : List (List UInt8)) (a a' : Option Addr) (n c c' : Nat) (w : World) (S : Sums w a n c L) (S2 : Sums w a' n c' L) (hn : n < 4611686018427387904) :
    Calls Tryd.prog 28 #[.slice a n c, .slice a' n c'] w fun e w' => e = .returned (.bool true) ∧ Below w.heap.size w w' := by
  have hl := S.len
  have HS := Lib.hid S
  have HS2 := Lib.hid S2
  have Hl := Lib.hid hl
  clear S S2 hl
  go_enter Tryd.func28, Tryd.ntmps28
  go_wp2
  go_loopw [5] (fun i wr => ∃ k : Nat, k ≤ n ∧ i = .int .i64 k ∧ Below w.heap.size w wr) (fun i _ => n - (intOf i).toNat)
  case atStart => exact ⟨0, by omega, rfl, Below.refl _ _⟩
  case round =>
    obtain ⟨k, hk, rfl, hB⟩ := hrel
    have HB := Lib.hid hB
    clear hB
    by_cases hlt : k < n
    · have hki : (k : Int) < (n : Int) := by omega
      have hki0 : (0 : Int) ≤ (k : Int) := by omega
      have hk' : k < L.length := by have := Hl.out; omega
      obtain ⟨b, o, ha, hget⟩ := HS.out.get
      obtain rfl := ha (by omega)
      obtain ⟨b2, o2, ha2, hget2⟩ := HS2.out.get
      obtain rfl := ha2 (by omega)
      have hx := Lib.hid (hget k hk')
      have hx2 := Lib.hid (hget2 k hk')
      have hxl := HS.out.each L[k] (by simp)
      obtain ⟨x, hxe⟩ : ∃ x, x = L[k] := ⟨_, rfl⟩
      rw [← hxe] at hx hx2 hxl
      have HXL := Lib.hid hxl
      have hc1 := HS.out.cap
      have hc2 := HS2.out.cap
      clear hget hget2 ha ha2 hxl hxe hk'
      go_wp2
      refine wp_region_rel2 8 Low (by kernel_rfl) (by kernel_rfl) Low.refl Low.trans [.is (.slice (some ⟨b, o, none⟩) n c), .is (.int .i64 k), .is (.pointer (some ⟨b, o + k * 32, none⟩)), pSum x, .is (.slice (some ⟨b2, o2, none⟩) n c'), .is (.int .i64 k), .is (.pointer (some ⟨b2, o2 + k * 32, none⟩)), pSum x] rfl ?_
      refine RelHead2.cons ?_ ?_
      · intro w1 hR h
        unfold relOp
        go_wp2
        exact ⟨Low.refl _, rfl⟩
      intro v17
      refine RelHead2.cons ?_ ?_
      · intro w1 hR h
        unfold relOp
        go_wp2
        exact ⟨Low.refl _, rfl⟩
      intro v18
      refine RelHead2.cons ?_ ?_
      · intro w1 hR h
        have e17 : v17 = (.slice (some ⟨b, o, none⟩) n c : Value) := allOf_iff.1 h 0 (by decide)
        have e18 : v18 = (.int .i64 k : Value) := allOf_iff.1 h 1 (by decide)
        subst e17 e18
        unfold relOp
        clear h
        go_wp2
        exact ⟨Low.refl _, rfl⟩
      intro v19
      refine RelHead2.cons ?_ ?_
      · intro w1 hR h
        have e19 : v19 = (.pointer (some ⟨b, o + k * 32, none⟩) : Value) := allOf_iff.1 h 2 (by decide)
        subst e19
        unfold relOp
        refine wpList_load_mid_sum rfl 29 _ rfl b (o + k * 32) (by kernel_rfl) x 32 _ (range_low hx.out (bthen HB.out (bthen (Low.drew _) hR))) Tryd.underlying29 (by kernel_rfl) HXL.out ?_
        clear h
        go_wp2
        exact ⟨Low.refl _, rfl⟩
      intro v20
      refine RelHead2.cons ?_ ?_
      · intro w1 hR h
        unfold relOp
        go_wp2
        exact ⟨Low.refl _, rfl⟩
      intro v21
      refine RelHead2.cons ?_ ?_
      · intro w1 hR h
        unfold relOp
        go_wp2
        exact ⟨Low.refl _, rfl⟩
      intro v22
      refine RelHead2.cons ?_ ?_
      · intro w1 hR h
        have e21 : v21 = (.slice (some ⟨b2, o2, none⟩) n c' : Value) := allOf_iff.1 h 4 (by decide)
        have e22 : v22 = (.int .i64 k : Value) := allOf_iff.1 h 5 (by decide)
        subst e21 e22
        unfold relOp
        clear h
        go_wp2
        exact ⟨Low.refl _, rfl⟩
      intro v23
      refine RelHead2.cons ?_ ?_
      · intro w1 hR h
        have e23 : v23 = (.pointer (some ⟨b2, o2 + k * 32, none⟩) : Value) := allOf_iff.1 h 6 (by decide)
        subst e23
        unfold relOp
        refine wpList_load_mid_sum rfl 29 _ rfl b2 (o2 + k * 32) (by kernel_rfl) x 32 _ (range_low hx2.out (bthen HB.out (bthen (Low.drew _) hR))) Tryd.underlying29 (by kernel_rfl) HXL.out ?_
        clear h
        go_wp2
        exact ⟨Low.refl _, rfl⟩
      intro v24
      refine RelHead2.nil fun w1 hR h => ?_
      have e20 : v20 = sumV x := allOf_iff.1 h 3 (by decide)
      have e24 : v24 = sumV x := allOf_iff.1 h 7 (by decide)
      subst e20 e24
      have hne := neq_sumV x x w1 HXL.out HXL.out
      have hbq : (!(x == x)) = false := by rw [beq_self_eq_true]; rfl
      rw [hbq] at hne
      have HB1 := Lib.hid (bthen HB.out (bthen (Low.drew _) hR))
      clear h hR hbq
      go_wp2
      go_roundw
      case rel => exact ⟨k + 1, by omega, by go_num, HB1.out⟩
      case measure => simp [intOf]; omega
    · obtain rfl : k = n := by omega
      go_wp2
      go_ret
      exact ⟨rfl, HB.out⟩
end Go.Proofs.YtpdhgijeanbmcaaDoor

/- Own2 -/
namespace Go.Proofs.YtpdhgijeanbmcaaDoor
open Go.RowKit Go.Great

def mark (i : Nat) : List UInt8 := UInt8.ofNat i :: 0xee :: List.replicate 30 0
theorem mark_len (i : Nat) : (mark i).length = 32 := rfl
def markA (k : Nat) : Array Value := #[.int .u8 ((k : Nat) : Int), .int .u8 238, .int .u8 0, .int .u8 0, .int .u8 0, .int .u8 0, .int .u8 0, .int .u8 0, .int .u8 0, .int .u8 0, .int .u8 0, .int .u8 0, .int .u8 0, .int .u8 0, .int .u8 0, .int .u8 0, .int .u8 0, .int .u8 0, .int .u8 0, .int .u8 0, .int .u8 0, .int .u8 0, .int .u8 0, .int .u8 0, .int .u8 0, .int .u8 0, .int .u8 0, .int .u8 0, .int .u8 0, .int .u8 0, .int .u8 0, .int .u8 0]
theorem mark_val (k : Nat) (h : k < 8) : Value.agg (markA k) = sumV (mark k) := by
  have h1 : k = 0 ∨ k = 1 ∨ k = 2 ∨ k = 3 ∨ k = 4 ∨ k = 5 ∨ k = 6 ∨ k = 7 := by omega
  rcases h1 with rfl | rfl | rfl | rfl | rfl | rfl | rfl | rfl <;> rfl
def marks (k : Nat) : List (List UInt8) := (List.range k).map mark
theorem marks_next (L : List (List UInt8)) (k : Nat) : (L ++ marks k) ++ [mark k] = L ++ marks (k + 1) := by
  simp [marks, List.range_succ]

set_option maxRecDepth 100000 in
set_option maxHeartbeats 1000000 in
theorem own_any (L : List (List UInt8)) (a : Option Addr) (n c : Nat) (w : World) (S : Sums w a n c L) (hn : n + 8 ≤ 1099511627776) :
    Calls Tryd.prog 18 #[.slice a n c] w fun e w' => ∃ B C, e = .returned (.slice B n C) ∧ Acc 29 32 w w' w.heap.size B C (n + 8) (sumCells (L ++ marks 8)) := by
  obtain ⟨z0, hz0, hinfo⟩ := info_sum'
  have HI := Lib.hid hinfo
  have HZ0 := Lib.hid hz0
  have HS := Lib.hid S
  have hnl := Lib.hid (show (sumCells L).length = n * 32 by rw [sumCells_length L S.each, S.len])
  have z1 : 0 + n ≤ maxLen := by unfold maxLen; omega
  have z2 : (0 + n) * 32 ≤ 140737488355328 := by omega
  have hap := Lib.hid (show ∀ u ∈ sumCells L, u.oneCell' = true from fun u hu => by
    obtain ⟨x, _, hx⟩ := List.mem_flatMap.1 hu
    exact ones' x u hx)
  clear hinfo hz0 S
  go_enter Tryd.func18, Tryd.ntmps18
  go_wp2_with (at_builtin; refine wpList_acc rfl _ _ 31 rfl 29 32 32 z0 Tryd.underlying31 HI.out HZ0.out (by decide) w w.heap.size (some ⟨w.heap.size, 0, none⟩) 0 0 [] rfl (Acc.lit' rfl #[] 0 (Below.refl _ _) (Nat.le_refl _) (by decide) rfl) a n c (sumCells L) rfl hnl.out (HS.out.below (low1 _ _)).at_ HS.out.nil HS.out.od hap.out z1 z2 ?_; intro B1 D1 w1 hacc hg hnew; rw [List.nil_append, Nat.zero_add] at hacc; have HA1 := Lib.hid hacc; clear hacc hg hnew)
  go_loopw [3, 4] (fun v i wr => ∃ k B C, k ≤ 8 ∧ i = .int .i64 (k : Nat) ∧ v = .slice B (n + k) C ∧ Acc 29 32 w wr w.heap.size B C (n + k) (sumCells (L ++ marks k))) (fun _ i _ => 8 - (intOf i).toNat)
  case atStart => exact ⟨0, B1, D1, by omega, rfl, rfl, by simpa [marks] using HA1.out⟩
  case round =>
    clear HA1
    obtain ⟨k, B, C, hk, rfl, rfl, hA⟩ := hrel
    have HA := Lib.hid hA
    clear hA
    by_cases hlt : k < 8
    · have hki : (k : Int) < 8 := by omega
      have hki0 : (0 : Int) ≤ (k : Int) := by omega
      have z3 : n + k + 1 ≤ maxLen := by unfold maxLen; omega
      have z4 : (n + k + 1) * 32 ≤ 140737488355328 := by omega
      have Hmv := Lib.hid (mark_val k hlt)
      go_wp2_with (first | (refine wpList_build_sum rfl _ rfl (mark k) (Eq.trans (b := Value.agg (markA k)) rfl Hmv.out) (mark_len k) ?_) | (at_builtin; refine wpList_acc rfl _ _ 31 rfl 29 32 32 z0 Tryd.underlying31 HI.out HZ0.out (by decide) w w.heap.size B C (n + k) _ rfl (HA.out.alloc _) (some ⟨wr.heap.size, 0, none⟩) 1 1 ((mark k).map V8) rfl (by simp [mark_len]) (box_bytes (blk1 _ _)).cells (fun h => by cases h) (fun ad h => ⟨_, _, (Option.some.inj h).symm⟩) (ones' (mark k)) z3 z4 ?_; intro B2 D2 w3 hacc hg hnew; rw [← sumCells_one (mark k), ← sumCells_append, marks_next] at hacc; have HA3 := Lib.hid hacc; clear hacc hg hnew))
      go_roundw
      case rel => exact ⟨k + 1, B2, D2, by omega, by go_num, rfl, HA3.out⟩
      case measure => simp [intOf]; omega
    · obtain rfl : k = 8 := by omega
      have hcap := HA.out.cap
      have hnc : (n : Int) ≤ (C : Int) := by omega
      go_wp2
      go_ret
      exact ⟨B, C, rfl, HA.out⟩
end Go.Proofs.YtpdhgijeanbmcaaDoor

/- Spoil -/
namespace Go.Proofs.YtpdhgijeanbmcaaDoor
open Go.RowKit Go.Great

theorem grown_then {w w1 w2 : World} {r r2 : Option Nat} (h : w.grownBy w1 r) (h2 : w1.grownBy w2 r2) (hr : ∀ k, r2 = some k → r = some k ∨ w.heap.size ≤ k) : w.grownBy w2 r :=
  ⟨h2.os.trans h.os, h2.tape.trans h.tape, h2.output.trans h.output, Nat.le_trans h.size h2.size, fun i hi hne => (h2.block i (Nat.lt_of_lt_of_le hi h.size) (fun e => by
    rcases hr i e.symm with h3 | h3
    · exact hne h3.symm
    · omega)).trans (h.block i hi hne)⟩
def ccA : Array Value := #[.int .u8 204, .int .u8 0, .int .u8 0, .int .u8 0, .int .u8 0, .int .u8 0, .int .u8 0, .int .u8 0, .int .u8 0, .int .u8 0, .int .u8 0, .int .u8 0, .int .u8 0, .int .u8 0, .int .u8 0, .int .u8 0, .int .u8 0, .int .u8 0, .int .u8 0, .int .u8 0, .int .u8 0, .int .u8 0, .int .u8 0, .int .u8 0, .int .u8 0, .int .u8 0, .int .u8 0, .int .u8 0, .int .u8 0, .int .u8 0, .int .u8 0, .int .u8 0]
def ddA : Array Value := #[.int .u8 221, .int .u8 0, .int .u8 0, .int .u8 0, .int .u8 0, .int .u8 0, .int .u8 0, .int .u8 0, .int .u8 0, .int .u8 0, .int .u8 0, .int .u8 0, .int .u8 0, .int .u8 0, .int .u8 0, .int .u8 0, .int .u8 0, .int .u8 0, .int .u8 0, .int .u8 0, .int .u8 0, .int .u8 0, .int .u8 0, .int .u8 0, .int .u8 0, .int .u8 0, .int .u8 0, .int .u8 0, .int .u8 0, .int .u8 0, .int .u8 0, .int .u8 0]
def cc : List UInt8 := 0xcc :: List.replicate 31 0
def dd : List UInt8 := 0xdd :: List.replicate 31 0
theorem cc_val : Value.agg ccA = sumV cc := rfl
theorem dd_val : Value.agg ddA = sumV dd := rfl
theorem cc_len : cc.length = 32 := rfl
theorem dd_len : dd.length = 32 := rfl
/-- Where the second loop stands. -/
structure SpAt (w : World) (B : Option Addr) (wr : World) (A : Option Addr) (C n : Nat) (M : List (List UInt8)) : Prop where
  acc : Acc 29 32 w wr 0 A C n (sumCells M)
  grown : w.grownBy wr (B.map (·.block))
  where_ : ∀ ad, A = some ad → B = some ad ∨ w.heap.size ≤ ad.block

set_option maxRecDepth 100000 in
set_option maxHeartbeats 4000000 in
theorem spoil_any (L : List (List UInt8)) (w0 w : World) (base : Nat) (B : Option Addr) (n C : Nat) (hL : ∀ x ∈ L, x.length = 32) (hn : n < 1099511627776) (H : Acc 29 32 w0 w base B C n (sumCells L)) :
    Calls Tryd.prog 29 #[.slice B n C] w fun e w' => e = .returned (.tuple #[]) ∧ w.grownBy w' (B.map (·.block)) := by
  obtain ⟨z0, hz0, hinfo⟩ := info_sum'
  have HI := Lib.hid hinfo
  have HZ0 := Lib.hid hz0
  have hnl : n = L.length := by have := H.length; rw [sumCells_length L hL] at this; omega
  have Hnl := Lib.hid hnl
  have HL := Lib.hid hL
  have hacc0 : Acc 29 32 w w 0 B C n (sumCells L) := by
    refine ⟨⟨H.own.1, ?_⟩, Below.refl _ _, Nat.zero_le _⟩
    rcases H.own.2 with h | ⟨g, cap, cur, h1, h2, h3⟩
    · exact .inl h
    · exact .inr ⟨g, cap, cur, h1, Nat.zero_le _, h3⟩
  have HA0 := Lib.hid hacc0
  clear hinfo hz0 hnl hL H hacc0
  go_enter Tryd.func29, Tryd.ntmps29
  go_wp2
  go_loopw [2] (fun i wr => ∃ (k : Nat) (N : List (List UInt8)), k ≤ n ∧ i = .int .i64 k ∧ Hid (N.length = n ∧ (∀ x ∈ N, x.length = 32) ∧ Acc 29 32 w wr 0 B C n (sumCells N) ∧ w.grownBy wr (B.map (·.block)))) (fun i _ => n - (intOf i).toNat)
  case atStart => exact ⟨0, L, Nat.zero_le _, rfl, Lib.hid ⟨Hnl.out.symm, HL.out, HA0.out, World.grownBy.refl _ _⟩⟩
  case round =>
    clear HA0
    obtain ⟨k, N, hk, rfl, hN⟩ := hrel
    by_cases hlt : k < n
    · have hki : (k : Int) < (n : Int) := by omega
      have hki0 : (0 : Int) ≤ (k : Int) := by omega
      have hBg : ∃ g, B = some ⟨g, 0, none⟩ := by
        rcases hN.out.2.2.1.form with ⟨_, h0, _⟩ | ⟨g, _, hg, _⟩
        · omega
        · exact ⟨g, hg⟩
      obtain ⟨g, rfl⟩ := hBg
      have HN2 := Lib.hid hN.out.2.1
      go_wp2_with (refine wpList_store_own rfl _ _ rfl hN.out.2.2.1 HN2.out hN.out.1.symm k hlt cc cc_len rfl (Eq.trans (b := Value.agg ccA) rfl cc_val) ?_; intro w9 hacc9 hg9; have HA9 := Lib.hid hacc9; have HG9 := Lib.hid hg9; clear hacc9 hg9)
      go_roundw
      case rel =>
        refine ⟨k + 1, N.set k cc, by omega, by go_num, Lib.hid ⟨by simp [hN.out.1], fun x hx => ?_, HA9.out, World.grownBy.trans hN.out.2.2.2 HG9.out⟩⟩
        rcases List.mem_or_eq_of_mem_set hx with hx | rfl
        · exact hN.out.2.1 x hx
        · rfl
      case measure => simp [intOf]; omega
    · obtain rfl : k = n := by omega
      have HS := Lib.hid (show SpAt w B wr B C k N from ⟨hN.out.2.2.1, hN.out.2.2.2, fun ad h => .inl h⟩)
      clear hN
      obtain ⟨wo, hwo⟩ : ∃ wo : World, wo = wr := ⟨_, rfl⟩
      rw [← hwo] at HS ⊢
      clear hwo
      go_wp2
      go_loopw [0, 3] (fun v i wr => ∃ (j : Nat) (A : Option Addr) (C' : Nat) (M : List (List UInt8)), j ≤ 16 ∧ i = .int .i64 (j : Nat) ∧ v = .slice A (k + j) C' ∧ Hid (SpAt w B wr A C' (k + j) M)) (fun _ i _ => 16 - (intOf i).toNat)
      case atStart => exact ⟨0, B, C, N, by omega, rfl, rfl, HS⟩
      case round =>
        clear HS
        obtain ⟨j, A, C', M, hj, rfl, rfl, hS⟩ := hrel
        by_cases hlt2 : j < 16
        · have hji : (j : Int) < 16 := by omega
          have z3 : k + j + 1 ≤ maxLen := by unfold maxLen; omega
          have z4 : (k + j + 1) * 32 ≤ 140737488355328 := by omega
          go_wp2_with (first | (refine wpList_build_sum rfl _ rfl dd (Eq.trans (b := Value.agg ddA) rfl dd_val) dd_len ?_) | (at_builtin; refine wpList_acc rfl _ _ 31 rfl 29 32 32 z0 Tryd.underlying31 HI.out HZ0.out (by decide) w 0 A C' (k + j) (sumCells M) rfl (hS.out.acc.alloc _) (some ⟨wr.heap.size, 0, none⟩) 1 1 (dd.map V8) rfl (by simp [dd_len]) (box_bytes (blk1 _ _)).cells (fun h => by cases h) (fun ad h => ⟨_, _, (Option.some.inj h).symm⟩) (ones' dd) z3 z4 ?_; intro B2 D2 w3 hacc hg hnew; rw [← sumCells_one dd, ← sumCells_append] at hacc; have HA3 := Lib.hid hacc; have HG3 := Lib.hid hg; have HN3 := Lib.hid hnew; clear hacc hg hnew))
          go_roundw
          case rel =>
            refine ⟨j + 1, B2, D2, M ++ [dd], by omega, by go_num, rfl, Lib.hid ⟨HA3.out, ?_, fun ad had => ?_⟩⟩
            · refine grown_then (grown_then hS.out.grown (World.grownBy_alloc wr _ none) (fun k h => by cases h)) HG3.out fun i hi => ?_
              cases A with
              | none => cases hi
              | some ad =>
                obtain rfl := Option.some.inj hi
                rcases hS.out.where_ ad rfl with h | h
                · exact .inl (by rw [h]; rfl)
                · exact .inr h
            · rcases HN3.out ad had with h | h
              · exact hS.out.where_ ad h
              · right
                have h2 := hS.out.grown.size
                simp at h
                omega
          case measure => simp [intOf]; omega
        · obtain rfl : j = 16 := by omega
          go_wp2
          go_end0
          exact ⟨rfl, hS.out.grown⟩
end Go.Proofs.YtpdhgijeanbmcaaDoor

/- Holdc -/
namespace Go.Proofs.YtpdhgijeanbmcaaDoor
open Go.RowKit Go.Great

def Tree.holds (root : List UInt8) (n i : Nat) (leaf : List UInt8) (p : List (List UInt8)) : Bool := match Tree.made n i leaf p with
  | some r => r == root
  | none => false

set_option maxRecDepth 100000 in
set_option maxHeartbeats 1000000 in
theorem holds_bad (root leaf : List UInt8) (n i : Int) (a : Option Addr) (np c : Nat) (w : World) (hi : i < 0 ∨ n ≤ i) :
    Calls Tryd.prog 30 #[sumV root, .int .i64 n, .int .i64 i, sumV leaf, .slice a np c] w fun e w' => e = .returned (.bool false) ∧ Below w.heap.size w w' := by
  rcases hi with hi | hi
  · go_enter Tryd.func30, Tryd.ntmps30
    go_wp2
    go_ret
    exact ⟨rfl, low3 _ _ _ _⟩
  · by_cases h0 : i < 0
    · go_enter Tryd.func30, Tryd.ntmps30
      go_wp2
      go_ret
      exact ⟨rfl, low3 _ _ _ _⟩
    · go_enter Tryd.func30, Tryd.ntmps30
      go_wp2
      go_ret
      exact ⟨rfl, low3 _ _ _ _⟩

theorem holds_env {w w0 : World} {root leaf : List UInt8} {a : Option Addr} {np c : Nat} {p : List (List UInt8)} {t1 t2 t3 : TypeId} {t : TypeId} {o : Obj} (hT : Tabs w) (S : Sums w a np c p) (hl : leaf.length = 32)
    (hf : w0.heap[w.heap.size + 1 + 1 + 1]? = some (.cells #[holdFn (w.heap.size + 1) (w.heap.size + 1 + 1) (w.heap.size + 1 + 1 + 1)] t (0, 0)))
    (hg : ((((w.alloc (.cells (sumRow root) t1)).alloc (.cells (sumRow leaf) t2)).alloc (.cells #[.slice a np c] t3)).alloc o).grownBy w0 (some (w.heap.size + 1 + 1 + 1))) :
    HoldEnv w0 (w.heap.size + 1) (w.heap.size + 1 + 1) (w.heap.size + 1 + 1 + 1) leaf a np c p ∧ Below w.heap.size w w0 ∧ w0.heap[w.heap.size]? = some (.cells (root.map V8).toArray t1 (0, 0)) := by
  have hL : Below w.heap.size w w0 := (low4 _ _ _ _ _).grown hg (by simp; omega) (fun k hk => by obtain rfl := Option.some.inj hk; omega)
  have hb := blk4 w (.cells (sumRow root) t1) (.cells (sumRow leaf) t2) (.cells #[.slice a np c] t3) o
  have hk : ∀ b x, b < w.heap.size + 1 + 1 + 1 → ((((w.alloc (.cells (sumRow root) t1)).alloc (.cells (sumRow leaf) t2)).alloc (.cells #[.slice a np c] t3)).alloc o).heap[b]? = some x → w0.heap[b]? = some x :=
    fun b x hlt hx => (hg.block b (in_heap hx) (fun e => absurd (Option.some.inj e) (Nat.ne_of_lt hlt))).trans hx
  exact ⟨⟨hT.below hL, ⟨t2, (0, 0), hk _ _ (by omega) hb.2.1⟩, cell_block (hk _ _ (by omega) hb.2.2.1) rfl, cell_block hf rfl, hl, S.below hL⟩, hL, hk _ _ (by omega) hb.1⟩

/-- An operation whose guard is known to hold goes as one without a guard. -/
theorem wpList_guarded {P : Program} {ops : Array Oper} {rest : List Oper} {o : Oper} {a : Act} {w : World} {Q : Exit → Act → World → Prop} (hg : Region.wanted o (yielded ops a.tmps) = true) (h : wpList P ops Q ({ o with guard := none } :: rest) a w) : wpList P ops Q (o :: rest) a w := by
  unfold wpList at h ⊢
  rw [if_pos hg]
  rw [if_pos (show Region.wanted { o with guard := none } (yielded ops a.tmps) = true from rfl)] at h
  exact h

set_option maxRecDepth 100000 in
set_option maxHeartbeats 1000000 in
theorem holds_any (root leaf : List UInt8) (n i : Nat) (a : Option Addr) (np c : Nat) (p : List (List UInt8)) (w : World) (hi : i < n) (hn : n < 9223372036854775808) (hnp : np < 4611686018427387904) (hr : root.length = 32) (hl : leaf.length = 32) (hT : Tabs w) (S : Sums w a np c p) :
    Calls Tryd.prog 30 #[sumV root, .int .i64 n, .int .i64 i, sumV leaf, .slice a np c] w fun e w' => e = .returned (.bool (Tree.holds root n i leaf p)) ∧ Below w.heap.size w w' := by
  have hin := fun lb pb g w (E : HoldEnv w lb pb g leaf a np c p) => holdsin_any lb pb g leaf a np c p np n i w (Nat.le_refl _) hnp (by omega) hn hi E
  have htk : p.take np = p := by rw [S.len]; simp
  rw [htk] at hin
  have Hin := Lib.hid hin
  have S' := Lib.hid S
  have Hll := Lib.hid hl
  have HRR := Lib.hid hr
  have hi1 : ¬ (i : Int) < 0 := by omega
  have hi2 : ¬ (n : Int) ≤ (i : Int) := by omega
  have hi3 : (i : Int) < (n : Int) := by omega
  have hi4 : (0 : Int) ≤ (i : Int) := by omega
  clear S hl hr htk hin
  go_enter Tryd.func30, Tryd.ntmps30
  have HB4 := Lib.hid (blk4 w (.cells (sumRow root) 29) (.cells (sumRow leaf) 29) (.cells #[.slice a np c] 31) (.cells #[.nilFunc] 69)).2.2.2
  go_upto_region 5 with (refine wpList_store_one' rfl 69 _ _ rfl rfl (w.heap.size + 1 + 1 + 1) (.func (.func 51) #[] #[.pointer (some ⟨w.heap.size + 1, 0, none⟩), .pointer (some ⟨w.heap.size + 1 + 1, 0, none⟩), .pointer (some ⟨w.heap.size + 1 + 1 + 1, 0, none⟩)]) rfl rfl rfl _ _ HB4.out (by kernel_rfl) ?_; intro w0 hf hgr; have hf' := Lib.hid hf; have hgr' := Lib.hid hgr; clear hf hgr)
  obtain ⟨E, hB, hroot⟩ := holds_env (p := p) hT S'.out Hll.out hf'.out hgr'.out
  have hc := E.fn
  have hcp := E.pathAt
  unfold holdFn at hc
  have HE := Lib.hid E
  have HB0 := Lib.hid hB
  have HRoot := Lib.hid hroot
  have hel : ∀ (r : List UInt8), r.length = 32 → ∀ W, (binOp .eql 29 (sumV r) (sumV root)).run Tryd.prog W = .ok (.bool (r == root)) W := fun r h W => eql_sumV r root W h HRR.out
  have Hel := Lib.hid hel
  clear hf' hgr' E hB hroot hel
  go_wp2_with (first | (go_at_call 51; refine (Hin.out _ _ _ _ HE.out).mono ?_; rintro e w3 ⟨r, bb, rfl, hrl, hmd, hB⟩; have HRL := Lib.hid hrl; have HMD := Lib.hid hmd; have HB3 := Lib.hid hB; clear hrl hmd hB; cases bb) | (refine wpList_store_row' rfl 29 _ _ rfl w3.heap.size (r.map V8).toArray rfl rfl _ _ (blk1 _ _) (size_sum r HRL.out) (by simp [HRL.out]) (oneCells r) ?_; intro w4 h4 g4 s4; have hr4 := (g4.block _ (in_heap (at_old _ (bblk HB3.out HRoot.out))) (fun e => absurd (Option.some.inj e) (Nat.ne_of_lt (in_heap (bblk HB3.out HRoot.out))))).trans (at_old _ (bblk HB3.out HRoot.out)); have H4 := Lib.hid h4; have HR4 := Lib.hid hr4; have G4 := Lib.hid g4; have hel := Hel.out r HRL.out; clear h4 g4 s4 hr4) | (refine wpList_guarded rfl ?_; refine wpList_load_sum rfl 29 _ rfl w3.heap.size rfl _ r 32 _ _ H4.out Tryd.underlying29 (by kernel_rfl) HRL.out ?_) | (refine wpList_guarded rfl ?_; refine wpList_load_sum rfl 29 _ rfl w.heap.size rfl _ root 32 _ _ HR4.out Tryd.underlying29 (by kernel_rfl) HRR.out ?_))
  · go_ret
    refine ⟨?_, ?_⟩
    · have : Tree.holds root n i leaf p = false := by unfold Tree.holds; rw [HMD.out]; rfl
      rw [this]; try rfl
    · exact (((HB0.out.trans (HB3.out.mono HB0.out.size)).alloc (Nat.le_trans HB0.out.size HB3.out.size) _).grown G4.out (by rw [size_alloc]; exact Nat.le_succ_of_le (Nat.le_trans HB0.out.size HB3.out.size)) (fun k hk => by obtain rfl := Option.some.inj hk; exact Nat.le_trans HB0.out.size HB3.out.size))
  · go_ret
    refine ⟨?_, ?_⟩
    · have : Tree.holds root n i leaf p = (r == root) := by unfold Tree.holds; rw [HMD.out]; rfl
      rw [this]; try rfl
    · exact (((HB0.out.trans (HB3.out.mono HB0.out.size)).alloc (Nat.le_trans HB0.out.size HB3.out.size) _).grown G4.out (by rw [size_alloc]; exact Nat.le_succ_of_le (Nat.le_trans HB0.out.size HB3.out.size)) (fun k hk => by obtain rfl := Option.some.inj hk; exact Nat.le_trans HB0.out.size HB3.out.size))
end Go.Proofs.YtpdhgijeanbmcaaDoor

/- Fast -/
namespace Go.Proofs.YtpdhgijeanbmcaaDoor
namespace Nsha
def rot (x n : Nat) : Nat := x >>> n ||| (x <<< (32 - n)) % 4294967296
def s0 (x : Nat) : Nat := (rot x 7 ^^^ rot x 18) ^^^ x >>> 3
def s1 (x : Nat) : Nat := (rot x 17 ^^^ rot x 19) ^^^ x >>> 10
def e0 (x : Nat) : Nat := (rot x 2 ^^^ rot x 13) ^^^ rot x 22
def e1 (x : Nat) : Nat := (rot x 6 ^^^ rot x 11) ^^^ rot x 25
def ch (e f g : Nat) : Nat := (e &&& f) ^^^ ((4294967296 - 1 - e) &&& g)
def maj (a b c : Nat) : Nat := ((a &&& b) ^^^ (a &&& c)) ^^^ (b &&& c)
def nxt (l : List Nat) : Nat := (((l.getD 15 0 + s0 (l.getD 14 0)) % 4294967296 + l.getD 6 0) % 4294967296 + s1 (l.getD 1 0)) % 4294967296
def sched : Nat → List Nat → List Nat
  | 0, l => l
  | n + 1, l => sched n (nxt l :: l)
structure Reg where
  (a b c d e f g h : Nat)
def step (r : Reg) (k w : Nat) : Reg :=
  let u := ((((r.h + e1 r.e) % 4294967296 + ch r.e r.f r.g) % 4294967296 + k) % 4294967296 + w) % 4294967296
  let v := (e0 r.a + maj r.a r.b r.c) % 4294967296
  ⟨(u + v) % 4294967296, r.a, r.b, r.c, (r.d + u) % 4294967296, r.e, r.f, r.g⟩
def rounds : List Nat → List Nat → Reg → Reg
  | k :: ks, w :: ws, r => rounds ks ws (step r k w)
  | _, _, r => r
def word (a b c d : Nat) : Nat := ((a <<< 24 ||| b <<< 16) ||| c <<< 8) ||| d
def words : Nat → List Nat → List Nat
  | 0, _ => []
  | n + 1, l => word (l.getD 0 0) (l.getD 1 0) (l.getD 2 0) (l.getD 3 0) :: words n (l.drop 4)
def add (r q : Reg) : Reg :=
  ⟨(r.a + q.a) % 4294967296, (r.b + q.b) % 4294967296, (r.c + q.c) % 4294967296, (r.d + q.d) % 4294967296, (r.e + q.e) % 4294967296, (r.f + q.f) % 4294967296, (r.g + q.g) % 4294967296, (r.h + q.h) % 4294967296⟩
def turn (r : Reg) (l : List Nat) : Reg := add r (rounds Sha.roots (sched 48 (words 16 l).reverse).reverse r)
def blocks : Nat → Reg → List Nat → Reg
  | 0, r, _ => r
  | n + 1, r, l => blocks n (turn r l) (l.drop 64)
def init : Reg := ⟨0x6a09e667, 0xbb67ae85, 0x3c6ef372, 0xa54ff53a, 0x510e527f, 0x9b05688c, 0x1f83d9ab, 0x5be0cd19⟩
def wbytes (x : Nat) : List Nat := [x >>> 24 % 256, x >>> 16 % 256, x >>> 8 % 256, x % 256]
def bytes (r : Reg) : List Nat := [r.a, r.b, r.c, r.d, r.e, r.f, r.g, r.h].flatMap wbytes
def eight (n : Nat) : List Nat := (List.range 8).map fun i => n / 2 ^ (8 * (7 - i)) % 256
def pad (n : Nat) : List Nat := 128 :: (List.replicate ((119 - n % 64) % 64) 0 ++ eight (8 * n))
def sum (l : List Nat) : List Nat := bytes (blocks ((l.length + 72) / 64) init (l ++ pad l.length))
end Nsha

def Sha.Reg.nat (r : Sha.Reg) : Nsha.Reg := ⟨r.a.toNat, r.b.toNat, r.c.toNat, r.d.toNat, r.e.toNat, r.f.toNat, r.g.toNat, r.h.toNat⟩
namespace Nsha
theorem rot_eq (x : BitVec 32) (n : Nat) : (Sha.rot x n).toNat = rot x.toNat n := by
  simp [Sha.rot, rot, BitVec.toNat_or]
theorem s0_eq (x : BitVec 32) : (Sha.s0 x).toNat = s0 x.toNat := by simp [Sha.s0, s0, rot_eq, BitVec.toNat_xor]
theorem s1_eq (x : BitVec 32) : (Sha.s1 x).toNat = s1 x.toNat := by simp [Sha.s1, s1, rot_eq, BitVec.toNat_xor]
theorem e0_eq (x : BitVec 32) : (Sha.e0 x).toNat = e0 x.toNat := by simp [Sha.e0, e0, rot_eq, BitVec.toNat_xor]
theorem e1_eq (x : BitVec 32) : (Sha.e1 x).toNat = e1 x.toNat := by simp [Sha.e1, e1, rot_eq, BitVec.toNat_xor]
theorem ch_eq (x y z : BitVec 32) : (Sha.ch x y z).toNat = ch x.toNat y.toNat z.toNat := by
  simp [Sha.ch, ch, BitVec.toNat_xor, BitVec.toNat_and, BitVec.toNat_not]
theorem maj_eq (x y z : BitVec 32) : (Sha.maj x y z).toNat = maj x.toNat y.toNat z.toNat := by
  simp [Sha.maj, maj, BitVec.toNat_xor, BitVec.toNat_and]
theorem step_eq (r : Sha.Reg) (k w : BitVec 32) : (Sha.step r k w).nat = step r.nat k.toNat w.toNat := by
  simp only [Sha.step, step, Sha.Reg.nat, BitVec.toNat_add, e1_eq, ch_eq, e0_eq, maj_eq, show (2 : Nat) ^ 32 = 4294967296 from rfl]
theorem rounds_eq (p : Nat → UInt8) (r : Sha.Reg) : ∀ n t, rounds ((List.range' t n).map fun i => (Sha.root i).toNat) ((List.range' t n).map fun i => (Sha.sched p i).toNat) (Sha.rounds p r t).nat = (Sha.rounds p r (t + n)).nat
  | 0, t => rfl
  | n + 1, t => by
    rw [List.range'_succ, List.map_cons, List.map_cons, rounds, ← step_eq, show Sha.step (Sha.rounds p r t) (Sha.root t) (Sha.sched p t) = Sha.rounds p r (t + 1) from rfl, rounds_eq p r n (t + 1)]
    congr 2
    omega
def back (p : Nat → UInt8) : Nat → List Nat
  | 0 => []
  | k + 1 => (Sha.sched p k).toNat :: back p k
theorem back_get (p : Nat → UInt8) : ∀ k i, i < k → (back p k).getD i 0 = (Sha.sched p (k - 1 - i)).toNat
  | 0, i, h => by omega
  | k + 1, 0, _ => by simp [back]
  | k + 1, i + 1, h => by
    have := back_get p k i (by omega)
    rw [back, List.getD_cons_succ, this]
    congr 2
    omega
theorem nxt_eq (p : Nat → UInt8) (k : Nat) (h : 16 ≤ k) : nxt (back p k) = (Sha.sched p k).toNat := by
  rw [nxt, back_get p k 15 (by omega), back_get p k 14 (by omega), back_get p k 6 (by omega), back_get p k 1 (by omega), Sha.sched_ge p k (by omega), BitVec.toNat_add, BitVec.toNat_add, BitVec.toNat_add, s0_eq, s1_eq,
    show k - 1 - 15 = k - 16 by omega, show k - 1 - 14 = k - 15 by omega, show k - 1 - 6 = k - 7 by omega, show k - 1 - 1 = k - 2 by omega]
theorem sched_eq (p : Nat → UInt8) : ∀ n k, 16 ≤ k → sched n (back p k) = back p (k + n)
  | 0, k, _ => rfl
  | n + 1, k, h => by
    rw [sched, nxt_eq p k h, show (Sha.sched p k).toNat :: back p k = back p (k + 1) from rfl, sched_eq p n (k + 1) (by omega)]
    congr 1
    omega
theorem back_rev (p : Nat → UInt8) : ∀ k, (back p k).reverse = (List.range' 0 k).map fun i => (Sha.sched p i).toNat
  | 0 => rfl
  | k + 1 => by
    rw [back, List.reverse_cons, back_rev p k, show List.range' 0 (k + 1) = List.range' 0 k ++ [k] by rw [List.range'_concat]; simp]
    simp
theorem word_eq (a b c d : UInt8) : (Sha.word a b c d).toNat = word a.toNat b.toNat c.toNat d.toNat := by
  have ha := a.toNat_lt
  have hb := b.toNat_lt
  have hc := c.toNat_lt
  have hd := d.toNat_lt
  have e1 : (a.toNat % 4294967296) <<< 24 % 4294967296 = a.toNat <<< 24 := by rw [Nat.shiftLeft_eq, Nat.shiftLeft_eq]; omega
  have e2 : (b.toNat % 4294967296) <<< 16 % 4294967296 = b.toNat <<< 16 := by rw [Nat.shiftLeft_eq, Nat.shiftLeft_eq]; omega
  have e3 : (c.toNat % 4294967296) <<< 8 % 4294967296 = c.toNat <<< 8 := by rw [Nat.shiftLeft_eq, Nat.shiftLeft_eq]; omega
  have e4 : d.toNat % 4294967296 = d.toNat := by omega
  rw [Sha.word, word, BitVec.toNat_or, BitVec.toNat_or, BitVec.toNat_or, BitVec.toNat_shiftLeft, BitVec.toNat_shiftLeft, BitVec.toNat_shiftLeft, BitVec.toNat_setWidth, BitVec.toNat_setWidth, BitVec.toNat_setWidth, BitVec.toNat_setWidth]
  show ((((a.toNat % 4294967296) <<< 24 % 4294967296) ||| ((b.toNat % 4294967296) <<< 16 % 4294967296)) ||| ((c.toNat % 4294967296) <<< 8 % 4294967296)) ||| (d.toNat % 4294967296) = _
  rw [e1, e2, e3, e4]
theorem getD_nat (l : List UInt8) (i : Nat) : (l.map UInt8.toNat).getD i 0 = (l.getD i 0).toNat := by
  simp only [List.getD, List.getElem?_map]
  cases l[i]? <;> rfl
theorem words_eq (l : List UInt8) : ∀ n t, t + n ≤ 16 → words n ((l.map UInt8.toNat).drop (4 * t)) = (List.range' t n).map fun i => (Sha.sched (fun j => l.getD j 0) i).toNat
  | 0, t, _ => rfl
  | n + 1, t, h => by
    rw [List.range'_succ, List.map_cons, words, Sha.sched_lt _ t (by omega), word_eq, List.drop_drop, show 4 * t + 4 = 4 * (t + 1) by omega, words_eq l n (t + 1) (by omega), List.getD_eq_getElem?_getD, List.getD_eq_getElem?_getD, List.getD_eq_getElem?_getD, List.getD_eq_getElem?_getD,
      List.getElem?_drop, List.getElem?_drop, List.getElem?_drop, List.getElem?_drop, ← List.getD_eq_getElem?_getD, ← List.getD_eq_getElem?_getD, ← List.getD_eq_getElem?_getD, ← List.getD_eq_getElem?_getD, getD_nat, getD_nat, getD_nat, getD_nat]
    rfl
theorem roots_eq : Sha.roots = (List.range' 0 64).map fun i => (Sha.root i).toNat := by decide +kernel
theorem add_eq (r q : Sha.Reg) : (r.add q).nat = add r.nat q.nat := by
  simp only [Sha.Reg.add, add, Sha.Reg.nat, BitVec.toNat_add, show (2 : Nat) ^ 32 = 4294967296 from rfl]
theorem turn_eq (r : Sha.Reg) (l : List UInt8) : (Sha.turn r fun j => l.getD j 0).nat = turn r.nat (l.map UInt8.toNat) := by
  have h := words_eq l 16 0 (by omega)
  rw [Nat.mul_zero, List.drop_zero] at h
  have hr := rounds_eq (fun j => l.getD j 0) r 64 0
  rw [Nat.zero_add, ← roots_eq, show Sha.rounds (fun j => l.getD j 0) r 0 = r from rfl] at hr
  rw [turn, h, ← back_rev, List.reverse_reverse, sched_eq _ 48 16 (by omega), back_rev, Sha.turn, add_eq, hr]
theorem blocks_eq : ∀ n (r : Sha.Reg) (l : List UInt8), l.length / 64 = n → (Sha.blocks r l).nat = blocks n r.nat (l.map UInt8.toNat)
  | 0, r, l, h => by rw [Sha.blocks_short _ _ (by omega)]; rfl
  | n + 1, r, l, h => by
    rw [Sha.blocks_step _ _ (by omega), blocks, ← turn_eq, ← List.map_drop]
    exact blocks_eq n _ _ (by rw [List.length_drop]; omega)
theorem wbytes_eq (x : BitVec 32) : (Sha.wbytes x).map UInt8.toNat = wbytes x.toNat := by
  simp only [Sha.wbytes, wbytes, List.map_cons, List.map_nil, UInt8.toNat, BitVec.toNat_setWidth, BitVec.toNat_ushiftRight]
  try rfl
theorem bytes_eq (r : Sha.Reg) : (Sha.bytes r).map UInt8.toNat = bytes r.nat := by
  simp only [Sha.bytes, bytes, Sha.Reg.list, Sha.Reg.nat, List.flatMap_cons, List.flatMap_nil, List.map_append, wbytes_eq, List.map_nil]
theorem eight_eq (n : Nat) : (Sha.eight n).map UInt8.toNat = eight n := by
  simp [Sha.eight, eight]
theorem pad_eq (n : Nat) : (Sha.pad n).map UInt8.toNat = pad n := by
  simp [Sha.pad, pad, eight_eq]
theorem sum_eq (l : List UInt8) : (Sha.sum l).map UInt8.toNat = sum (l.map UInt8.toNat) := by
  have hp : (Sha.pad l.length).length = 1 + (119 - l.length % 64) % 64 + 8 := by simp [Sha.pad, Sha.eight]; omega
  rw [Sha.sum, sum, bytes_eq, blocks_eq ((l.length + 72) / 64) _ _ (by rw [List.length_append, hp]; omega), List.map_append, pad_eq, List.length_map]
  rfl
end Nsha
end Go.Proofs.YtpdhgijeanbmcaaDoor

/- LiveP -/
namespace Go.Proofs.YtpdhgijeanbmcaaDoor
namespace Nsha
def leaf (p : List Nat) : List Nat := sum (0 :: p)
def node (x y : List Nat) : List Nat := sum (1 :: (x ++ y))
theorem live_one : node (node (leaf [97]) (leaf [98])) (leaf [98]) ≠ node (node (leaf [97]) (leaf [98])) (leaf [99]) := by decide +kernel
theorem live_two : node (node (node (leaf [97]) (leaf [98])) (leaf [99])) (leaf [99]) ≠ node (node (leaf [97]) (leaf [98])) (leaf [99]) := by decide +kernel
end Nsha
namespace LiveP
def leaf (p : List UInt8) : List UInt8 := Sha.sum (0 :: p)
def node (x y : List UInt8) : List UInt8 := Sha.sum (1 :: (x ++ y))
theorem leaf_nat (p : List UInt8) : (leaf p).map UInt8.toNat = Nsha.leaf (p.map UInt8.toNat) := by
  rw [leaf, Nsha.sum_eq]; rfl
theorem node_nat (x y : List UInt8) : (node x y).map UInt8.toNat = Nsha.node (x.map UInt8.toNat) (y.map UInt8.toNat) := by
  rw [node, Nsha.sum_eq, List.map_cons, List.map_append]; rfl
theorem one : node (node (leaf [97]) (leaf [98])) (leaf [98]) ≠ node (node (leaf [97]) (leaf [98])) (leaf [99]) := fun h => by
  have h2 := congrArg (List.map UInt8.toNat) h
  simp only [node_nat, leaf_nat] at h2
  exact Nsha.live_one h2
theorem two : node (node (node (leaf [97]) (leaf [98])) (leaf [99])) (leaf [99]) ≠ node (node (leaf [97]) (leaf [98])) (leaf [99]) := fun h => by
  have h2 := congrArg (List.map UInt8.toNat) h
  simp only [node_nat, leaf_nat] at h2
  exact Nsha.live_two h2
end LiveP
end Go.Proofs.YtpdhgijeanbmcaaDoor

/- LiveQ -/
namespace Go.Proofs.YtpdhgijeanbmcaaDoor
namespace Tree
theorem split3 : split 3 = 2 := by
  unfold split
  rw [splitFrom_step (by omega) (by omega), splitFrom_stop (by omega)]
theorem split2 : split 2 = 1 := by
  unfold split
  rw [splitFrom_stop (by omega)]
theorem root2 (a b : List UInt8) : root [a, b] = node a b := by
  rw [root_many (by simp)]
  simp only [List.length_cons, List.length_nil]
  rw [show split (0 + 1 + 1) = 1 from split2]
  simp [root_one]
theorem root3 (a b c : List UInt8) : root [a, b, c] = node (node a b) c := by
  rw [root_many (by simp)]
  simp only [List.length_cons, List.length_nil]
  rw [show split (0 + 1 + 1 + 1) = 2 from split3]
  simp [root_one, root2]
theorem path3 (a b c : List UInt8) : path [a, b, c] 2 = [node a b] := by
  rw [path_right (by simp) (by simp only [List.length_cons, List.length_nil]; rw [show split (0 + 1 + 1 + 1) = 2 from split3]; omega)]
  simp only [List.length_cons, List.length_nil]
  rw [show split (0 + 1 + 1 + 1) = 2 from split3, path_stop (by simp)]
  simp [root2]
theorem sub3 (a b c : List UInt8) : sub 2 [a, b, c] true = [c] := by
  rw [sub_left (by simp) (by omega) (by simp only [List.length_cons, List.length_nil]; rw [show split (0 + 1 + 1 + 1) = 2 from split3]; omega)]
  simp only [List.length_cons, List.length_nil]
  rw [show split (0 + 1 + 1 + 1) = 2 from split3, sub_all (by simp)]
  simp [root_one]
theorem holds3 (r x p : List UInt8) : holds r 3 2 x [p] = (node p x == r) := by
  unfold holds
  have h := made_right 3 2 x [p] 0 (by simp) (by omega) (by rw [split3]; omega)
  simp only [Nat.zero_add, List.take_succ_cons, List.take_zero, List.getElem_cons_zero] at h
  rw [split3, made_one (3 - 2) _ _ _ (by decide)] at h
  rw [h]
  rfl
theorem ext3 (old r x : List UInt8) : extends_ 2 old 3 r [x] = (node old x == r) := by
  unfold extends_
  have h := both_left old 2 3 true [x] 0 (by simp) (by omega) (by omega) (by rw [split3]; omega)
  simp only [Nat.zero_add, List.take_succ_cons, List.take_zero, List.getElem_cons_zero] at h
  rw [split3, both_whole] at h
  rw [h]
  simp
end Tree
theorem live_ne1 : Tree.node (Tree.node (Tree.leaf [97]) (Tree.leaf [98])) (Tree.leaf [98]) ≠ Tree.node (Tree.node (Tree.leaf [97]) (Tree.leaf [98])) (Tree.leaf [99]) := LiveP.one
theorem live_ne2 : Tree.node (Tree.node (Tree.node (Tree.leaf [97]) (Tree.leaf [98])) (Tree.leaf [99])) (Tree.leaf [99]) ≠ Tree.node (Tree.node (Tree.leaf [97]) (Tree.leaf [98])) (Tree.leaf [99]) := LiveP.two
end Go.Proofs.YtpdhgijeanbmcaaDoor

/- Ext -/
namespace Go.Proofs.YtpdhgijeanbmcaaDoor
open Go.RowKit Go.Great

def extFn (ob pb g : Nat) : Value := .func (.func 53) #[] #[.pointer (some ⟨ob, 0, none⟩), .pointer (some ⟨pb, 0, none⟩), .pointer (some ⟨g, 0, none⟩)]
structure ExtEnv (w : World) (ob pb g : Nat) (old : List UInt8) (a : Option Addr) (np c : Nat) (p : List (List UInt8)) : Prop where
  tabs : Tabs w
  oldAt : ∃ t fr, w.heap[ob]? = some (.cells (old.map V8).toArray t fr)
  pathAt : w.cell? ⟨pb, 0, none⟩ = some (.slice a np c)
  fn : w.cell? ⟨g, 0, none⟩ = some (extFn ob pb g)
  len : old.length = 32
  sums : Sums w a np c p
theorem ExtEnv.low {w w' : World} {ob pb g : Nat} {old : List UInt8} {a : Option Addr} {np c : Nat} {p : List (List UInt8)} (h : ExtEnv w ob pb g old a np c p) (hl : Low w w') : ExtEnv w' ob pb g old a np c p := by
  obtain ⟨t, fr, h1⟩ := h.oldAt
  exact ⟨h.tabs.low hl, ⟨t, fr, bblk hl h1⟩, (hl.cell (p := ⟨pb, 0, none⟩) (World.block_lt_of_cell? w _ h.pathAt)).trans h.pathAt, (hl.cell (p := ⟨g, 0, none⟩) (World.block_lt_of_cell? w _ h.fn)).trans h.fn, h.len, h.sums.low hl⟩

/-- Two boxes of sums are written, each once and for good; all else that was there stays. -/
structure Wr (b1 b2 : Nat) (c1 c2 : Array Value) (t : TypeId) (w w' : World) : Prop where
  os : w'.os = w.os
  tape : w'.tape = w.tape
  output : w'.output = w.output
  size : w.heap.size ≤ w'.heap.size
  keep : ∀ i, i < w.heap.size → i ≠ b1 → i ≠ b2 → w'.heap[i]? = w.heap[i]?
  k1 : (∃ cs, w.heap[b1]? = some (.cells cs t (0, 0)) ∧ cs.size = 32) → ∃ cs, w'.heap[b1]? = some (.cells cs t (0, 0)) ∧ cs.size = 32
  f1 : w.heap[b1]? = some (.cells c1 t (0, 0)) → w'.heap[b1]? = some (.cells c1 t (0, 0))
  k2 : (∃ cs, w.heap[b2]? = some (.cells cs t (0, 0)) ∧ cs.size = 32) → ∃ cs, w'.heap[b2]? = some (.cells cs t (0, 0)) ∧ cs.size = 32
  f2 : w.heap[b2]? = some (.cells c2 t (0, 0)) → w'.heap[b2]? = some (.cells c2 t (0, 0))
section
variable {b1 b2 : Nat} {c1 c2 : Array Value} {t : TypeId}
theorem Wr.refl (w : World) : Wr b1 b2 c1 c2 t w w := ⟨rfl, rfl, rfl, Nat.le_refl _, fun _ _ _ _ => rfl, fun h => h, fun h => h, fun h => h, fun h => h⟩
theorem Wr.trans (w w' w'' : World) (h : Wr b1 b2 c1 c2 t w w') (h' : Wr b1 b2 c1 c2 t w' w'') : Wr b1 b2 c1 c2 t w w'' :=
  ⟨h'.os.trans h.os, h'.tape.trans h.tape, h'.output.trans h.output, Nat.le_trans h.size h'.size, fun i hi n1 n2 => (h'.keep i (Nat.lt_of_lt_of_le hi h.size) n1 n2).trans (h.keep i hi n1 n2), fun x => h'.k1 (h.k1 x), fun x => h'.f1 (h.f1 x), fun x => h'.k2 (h.k2 x), fun x => h'.f2 (h.f2 x)⟩
theorem Wr.of_low {w w' : World} (h : Low w w') : Wr b1 b2 c1 c2 t w w' :=
  ⟨h.os, h.tape, h.output, h.size, fun i hi _ _ => h.block i hi, fun ⟨cs, h1, h2⟩ => ⟨cs, bblk h h1, h2⟩, fun h1 => bblk h h1, fun ⟨cs, h1, h2⟩ => ⟨cs, bblk h h1, h2⟩, fun h1 => bblk h h1⟩
theorem Wr.one {w w' : World} (hne : b1 ≠ b2) (hg : w.grownBy w' (some b1)) (h1 : w'.heap[b1]? = some (.cells c1 t (0, 0))) (hs : c1.size = 32) : Wr b1 b2 c1 c2 t w w' :=
  ⟨hg.os, hg.tape, hg.output, hg.size, fun i hi n1 _ => hg.block i hi (fun e => n1 (Option.some.inj e)), fun _ => ⟨c1, h1, hs⟩, fun _ => h1, fun ⟨cs, h2, h3⟩ => ⟨cs, (hg.block _ (in_heap h2) (fun e => hne (Option.some.inj e).symm)).trans h2, h3⟩, fun h2 => (hg.block _ (in_heap h2) (fun e => hne (Option.some.inj e).symm)).trans h2⟩
theorem Wr.two {w w' : World} (hne : b1 ≠ b2) (hg : w.grownBy w' (some b2)) (h1 : w'.heap[b2]? = some (.cells c2 t (0, 0))) (hs : c2.size = 32) : Wr b1 b2 c1 c2 t w w' :=
  ⟨hg.os, hg.tape, hg.output, hg.size, fun i hi _ n2 => hg.block i hi (fun e => n2 (Option.some.inj e)), fun ⟨cs, h2, h3⟩ => ⟨cs, (hg.block _ (in_heap h2) (fun e => hne (Option.some.inj e))).trans h2, h3⟩, fun h2 => (hg.block _ (in_heap h2) (fun e => hne (Option.some.inj e))).trans h2, fun _ => ⟨c2, h1, hs⟩, fun _ => h1⟩
def pFin1 : Post (Wr b1 b2 c1 c2 t) := ⟨fun _ w => w.heap[b1]? = some (.cells c1 t (0, 0)), fun _ _ _ h hw => hw.f1 h⟩
def pFin2 : Post (Wr b1 b2 c1 c2 t) := ⟨fun _ w => w.heap[b2]? = some (.cells c2 t (0, 0)), fun _ _ _ h hw => hw.f2 h⟩
/-- What lies below both boxes is as it was. -/
theorem Wr.below {w w0 w' : World} (h0 : Below w.heap.size w w0) (h : Wr b1 b2 c1 c2 t w0 w') (n1 : w.heap.size ≤ b1) (n2 : w.heap.size ≤ b2) : Below w.heap.size w w' :=
  ⟨h.os.trans h0.os, h.tape.trans h0.tape, h.output.trans h0.output, Nat.le_trans h0.size h.size, fun i hi => (h.keep i (Nat.lt_of_lt_of_le hi h0.size) (by omega) (by omega)).trans (h0.block i hi)⟩
end
abbrev WrS (b1 b2 : Nat) (r s : List UInt8) : World → World → Prop := Wr b1 b2 (r.map V8).toArray (s.map V8).toArray 29

set_option maxRecDepth 100000 in
set_option maxHeartbeats 1000000 in
theorem extin_whole (m u : Nat) (ob pb g : Nat) (old : List UInt8) (a : Option Addr) (np c : Nat) (p : List (List UInt8)) (w : World) (E : ExtEnv w ob pb g old a np c p) (hu : u ≤ np) :
    Calls Tryd.prog 53 #[.int .i64 m, .int .i64 m, .int .i64 u, .bool true, .pointer (some ⟨ob, 0, none⟩), .pointer (some ⟨pb, 0, none⟩), .pointer (some ⟨g, 0, none⟩)] w (RetBoth (Tree.both old m m true (p.take u)) w) := by
  have E' := Lib.hid E
  have Hl := Lib.hid E.len
  obtain ⟨t, fr, hlf⟩ := E.oldAt
  have HLF := Lib.hid hlf
  clear E hlf
  go_enter Tryd.func53, Tryd.ntmps53
  go_wp2_with fail
  have hb := blk2 w (.cells (zeros8 32) 29) (.cells (zeros8 32) 29)
  have HBk := Lib.hid hb
  have hne : w.heap.size ≠ w.heap.size + 1 := by omega
  clear hb
  refine wp_region_rel2 6 (WrS w.heap.size (w.heap.size + 1) old old) (by kernel_rfl) (by kernel_rfl) Wr.refl Wr.trans [.is (sumV old), .is (sumV old), .is (.int .i64 u), .is (.bool ((u : Int) == 0)), pFin1, pFin2] rfl ?_
  have hold : ∀ wr, WrS w.heap.size (w.heap.size + 1) old old ((w.alloc (.cells (zeros8 32) 29)).alloc (.cells (zeros8 32) 29)).drew wr → wr.heap[ob]? = some (.cells (old.map V8).toArray t fr) := fun wr hR =>
    (hR.keep ob (by have := in_heap HLF.out; show ob < ((w.alloc _).alloc _).heap.size; simp; omega) (Nat.ne_of_lt (in_heap HLF.out)) (by have := in_heap HLF.out; omega)).trans (at_old _ (at_old _ HLF.out))
  have Hold := Lib.hid hold
  clear hold
  refine RelHead2.cons ?_ ?_
  · intro wr hR h
    unfold relOp
    refine wpList_load_sum rfl 29 _ rfl ob (by kernel_rfl) t old 32 fr _ (Hold.out wr hR) Tryd.underlying29 (by kernel_rfl) Hl.out ?_
    go_wp2
    exact ⟨Wr.refl _, rfl⟩
  intro v26
  refine RelHead2.cons ?_ ?_
  · intro wr hR h
    unfold relOp
    refine wpList_load_sum rfl 29 _ rfl ob (by kernel_rfl) t old 32 fr _ (Hold.out wr hR) Tryd.underlying29 (by kernel_rfl) Hl.out ?_
    go_wp2
    exact ⟨Wr.refl _, rfl⟩
  intro v27
  refine RelHead2.cons ?_ ?_
  · intro wr hR h
    unfold relOp
    go_wp2
    exact ⟨Wr.refl _, rfl⟩
  intro v28
  refine RelHead2.cons ?_ ?_
  · intro wr hR h
    have e28 : v28 = (.int .i64 u : Value) := allOf_iff.1 h 2 (by decide)
    subst e28
    unfold relOp
    clear h
    go_wp2
    exact ⟨Wr.refl _, rfl⟩
  intro v29
  refine RelHead2.cons ?_ ?_
  · intro wr hR h
    have e26 : v26 = sumV old := allOf_iff.1 h 0 (by decide)
    subst e26
    obtain ⟨cs, hcs, hs⟩ := hR.k1 ⟨_, HBk.out.1, rfl⟩
    unfold relOp
    refine wpList_store_row' rfl 29 _ _ rfl w.heap.size (old.map V8).toArray (by kernel_rfl) (by kernel_rfl) _ _ hcs (size_sum old Hl.out) (by simp [hs, Hl.out]) (oneCells old) ?_
    intro w' h1 g1 s1
    go_wp2
    exact ⟨Wr.one hne g1 h1 (by simp [Hl.out]), undef, h1⟩
  intro v30
  refine RelHead2.cons ?_ ?_
  · intro wr hR h
    have e27 : v27 = sumV old := allOf_iff.1 h 1 (by decide)
    subst e27
    obtain ⟨cs, hcs, hs⟩ := hR.k2 ⟨_, HBk.out.2, rfl⟩
    unfold relOp
    refine wpList_store_row' rfl 29 _ _ rfl (w.heap.size + 1) (old.map V8).toArray (by kernel_rfl) (by kernel_rfl) _ _ hcs (size_sum old Hl.out) (by simp [hs, Hl.out]) (oneCells old) ?_
    intro w' h1 g1 s1
    go_wp2
    exact ⟨Wr.two hne g1 h1 (by simp [Hl.out]), undef, h1⟩
  intro v31
  refine RelHead2.nil fun wr hR h => ?_
  have e29 : v29 = (.bool ((u : Int) == 0) : Value) := allOf_iff.1 h 3 (by decide)
  have e30 : wr.heap[w.heap.size]? = some (.cells (old.map V8).toArray 29 (0, 0)) := allOf_iff.1 h 4 (by decide)
  have e31 : wr.heap[w.heap.size + 1]? = some (.cells (old.map V8).toArray 29 (0, 0)) := allOf_iff.1 h 5 (by decide)
  subst e29
  have hBl : Below w.heap.size w wr := Wr.below (low2 w (.cells (zeros8 32) 29) (.cells (zeros8 32) 29)).drew hR (Nat.le_refl _) (by omega)
  clear h hR
  go_wp2
  refine bodyPost_ret (results_sum2_tmp rfl _ _ w.heap.size (w.heap.size + 1) _ _ old old 32 (0, 0) (0, 0) _ rfl rfl e30 e31 Tryd.underlying29 (by kernel_rfl) Hl.out Hl.out) rfl ⟨old, old, _, rfl, Hl.out, Hl.out, ?_, hBl⟩
  rw [Tree.both_whole]
  have hp := E'.out.sums.len
  by_cases h : u = 0
  · subst h; simp
  · have h2 : p.take u ≠ [] := by simp; exact ⟨h, fun e => by rw [e] at hp; simp at hp; omega⟩
    rw [if_neg h2]
    have : ((u : Int) == 0) = false := by simp; exact h
    simp [this]
end Go.Proofs.YtpdhgijeanbmcaaDoor

/- Ext2 -/
namespace Go.Proofs.YtpdhgijeanbmcaaDoor
open Go.RowKit Go.Great

theorem at_4 {w3 w4 : World} {o o' : Obj} {x : Obj} (_h : w4.heap[w3.heap.size]? = some x) (hg : ((w3.alloc o).alloc o').grownBy w4 (some w3.heap.size)) : w4.heap[w3.heap.size + 1]? = some o' :=
  (hg.block _ (by simp) (fun e => by have := Option.some.inj e; omega)).trans (blk2 _ _ _).2
theorem Wr.at_ {b1 b2 b : Nat} {c1 c2 : Array Value} {t : TypeId} {w w' : World} {o : Obj} (h : Wr b1 b2 c1 c2 t w w') (hb : w.heap[b]? = some o) (n1 : b ≠ b1) (n2 : b ≠ b2) : w'.heap[b]? = some o := (h.keep b (in_heap hb) n1 n2).trans hb

set_option maxRecDepth 100000 in
set_option maxHeartbeats 2000000 in
theorem extin_left (m n u ob pb g : Nat) (whole : Bool) (old : List UInt8) (a : Option Addr) (np c : Nat) (p : List (List UInt8)) (w : World) (hup : u < np) (hnp : np < 4611686018427387904) (hm : 0 < m) (hmn : m < n) (hn63 : n < 9223372036854775808) (hmk : m ≤ split n) (E : ExtEnv w ob pb g old a np c p)
    (ih : ∀ w', ExtEnv w' ob pb g old a np c p → Calls Tryd.prog 53 #[.int .i64 m, .int .i64 (split n), .int .i64 u, .bool whole, .pointer (some ⟨ob, 0, none⟩), .pointer (some ⟨pb, 0, none⟩), .pointer (some ⟨g, 0, none⟩)] w' (RetBoth (Tree.both old m (split n) whole (p.take u)) w')) :
    Calls Tryd.prog 53 #[.int .i64 m, .int .i64 n, .int .i64 (u + 1 : Nat), .bool whole, .pointer (some ⟨ob, 0, none⟩), .pointer (some ⟨pb, 0, none⟩), .pointer (some ⟨g, 0, none⟩)] w (RetBoth (Tree.both old m n whole (p.take (u + 1))) w) := by
  have E' := Lib.hid E
  have hup' : u < p.length := by have := E.sums.len; omega
  have hkp := split_pos n
  have hkl := split_lt (show 1 < n by omega)
  have Hb := Lib.hid (Tree.both_left old m n whole p u hup' hmn hm hmk)
  have Hhalf := half_any n (by omega)
  obtain ⟨b, o, ha, hget⟩ := E.sums.get
  obtain rfl := ha (by omega)
  have hx := hget u hup'
  have hxl := E.sums.each p[u] (by simp)
  obtain ⟨x, hxe⟩ : ∃ x, x = p[u] := ⟨_, rfl⟩
  rw [← hxe] at hx hxl Hb
  have Ih := Lib.hid ih
  clear ih
  generalize split n = k at *
  have HX := Lib.hid hx
  have HXL := Lib.hid hxl
  have hcap := E.sums.cap
  have e1 : ((u + 1 : Nat) : Int) - 1 = (u : Int) := by omega
  have hn1 : ((m : Int) == (n : Int)) = false := by simp; omega
  have hn2 : ¬ (m : Int) = (n : Int) := by omega
  have hunp : (u : Int) < (np : Int) := by omega
  have hmk2 : (m : Int) ≤ (k : Int) := by omega
  clear hx hxl hget ha E hxe hup'
  go_enter Tryd.func53, Tryd.ntmps53
  go_wp2_with fail
  have HBk := Lib.hid (blk2 w (.cells (zeros8 32) 29) (.cells (zeros8 32) 29))
  have HLk := Lib.hid (low2 w (.cells (zeros8 32) 29) (.cells (zeros8 32) 29)).drew
  refine wp_region_rel2 9 Low (by kernel_rfl) (by kernel_rfl) Low.refl Low.trans [.is (.int .i64 n), .is (.int .i64 k), .is (.slice (some ⟨b, o, none⟩) np c), .is (.int .i64 (u + 1 : Nat)), .is (.int .i64 u), .is (.pointer (some ⟨b, o + u * 32, none⟩)), pSum x, pBox (w.heap.size + 1 + 1) (zeros8 32) 29, .is (.int .i64 k)] rfl ?_
  refine RelHead2.cons ?_ ?_
  · intro wr hR h
    unfold relOp
    go_wp2
    exact ⟨Low.refl _, rfl⟩
  intro v44
  refine RelHead2.cons ?_ ?_
  · intro wr hR h
    have ev44 : v44 = (.int .i64 n : Value) := allOf_iff.1 h 0 (by decide)
    subst ev44
    unfold relOp
    go_wp2_with (go_at_call 45; refine (Hhalf _).mono ?_; rintro e w2 ⟨rfl, rfl⟩)
    exact ⟨Low.refl _, rfl⟩
  intro v45
  refine RelHead2.cons ?_ ?_
  · intro wr hR h
    have hc := (E'.out.low (bthen HLk.out hR)).pathAt
    unfold relOp
    go_wp2
    exact ⟨Low.refl _, rfl⟩
  intro v46
  refine RelHead2.cons ?_ ?_
  · intro wr hR h
    unfold relOp
    go_wp2
    exact ⟨Low.refl _, rfl⟩
  intro v47
  refine RelHead2.cons ?_ ?_
  · intro wr hR h
    have ev47 : v47 = (.int .i64 (u + 1 : Nat) : Value) := allOf_iff.1 h 3 (by decide)
    subst ev47
    unfold relOp
    go_wp2
    exact ⟨Low.refl _, rfl⟩
  intro v48
  refine RelHead2.cons ?_ ?_
  · intro wr hR h
    have ev46 : v46 = (.slice (some ⟨b, o, none⟩) np c : Value) := allOf_iff.1 h 2 (by decide)
    subst ev46
    have ev48 : v48 = (.int .i64 u : Value) := allOf_iff.1 h 4 (by decide)
    subst ev48
    unfold relOp
    go_wp2
    exact ⟨Low.refl _, rfl⟩
  intro v49
  refine RelHead2.cons ?_ ?_
  · intro wr hR h
    have ev49 : v49 = (.pointer (some ⟨b, o + u * 32, none⟩) : Value) := allOf_iff.1 h 5 (by decide)
    subst ev49
    unfold relOp
    refine wpList_load_mid_sum rfl 29 _ rfl b (o + u * 32) (by kernel_rfl) x 32 _ (range_low HX.out (bthen HLk.out hR)) Tryd.underlying29 (by kernel_rfl) HXL.out ?_
    go_wp2
    exact ⟨Low.refl _, rfl⟩
  intro v50
  refine RelHead2.cons ?_ ?_
  · intro wr hR h
    unfold relOp
    go_wp2
    exact ⟨low1 _ _, _, rfl, by have := hR.size; simp at this; exact this, blk1 _ _⟩
  intro v15
  refine RelHead2.cons ?_ ?_
  · intro wr hR h
    have ev45 : v45 = (.int .i64 k : Value) := allOf_iff.1 h 1 (by decide)
    subst ev45
    unfold relOp
    go_wp2
    exact ⟨Low.refl _, rfl⟩
  intro v14
  refine RelHead2.nil fun w1 hR h => ?_
  have e50 : v50 = sumV x := allOf_iff.1 h 6 (by decide)
  have e14 : v14 = (.int .i64 k : Value) := allOf_iff.1 h 8 (by decide)
  have e15 : ∃ b, v15 = .pointer (some ⟨b, 0, none⟩) ∧ w.heap.size + 1 + 1 ≤ b ∧ w1.heap[b]? = some (.cells (zeros8 32) 29 (0, 0)) := allOf_iff.1 h 7 (by decide)
  subst e50 e14
  obtain ⟨b15, rfl, hb15, hbx⟩ := e15
  have hL : Low w w1 := bthen HLk.out hR
  have hz1 := bblk hR (show ((w.alloc _).alloc _).drew.heap[w.heap.size]? = _ from HBk.out.1)
  have hz2 := bblk hR (show ((w.alloc _).alloc _).drew.heap[w.heap.size + 1]? = _ from HBk.out.2)
  clear h
  refine wpList_store_row' rfl 29 _ _ rfl b15 (x.map V8).toArray (by kernel_rfl) (by kernel_rfl) _ _ hbx (size_sum x HXL.out) (by simp [HXL.out, zeros8]) (oneCells x) ?_
  intro w2 hx2 hg2 hs2
  have hL2 : Below w.heap.size w w2 := hL.grown hg2 hL.size (fun k' hk' => by obtain rfl := Option.some.inj hk'; omega)
  have hy1 : w2.heap[w.heap.size]? = some (.cells (zeros8 32) 29 (0, 0)) := (hg2.block _ (in_heap hz1) (fun e => by have := Option.some.inj e; omega)).trans hz1
  have hy2 : w2.heap[w.heap.size + 1]? = some (.cells (zeros8 32) 29 (0, 0)) := (hg2.block _ (in_heap hz2) (fun e => by have := Option.some.inj e; omega)).trans hz2
  have E2 := E'.out.low hL2
  have HE2 := Lib.hid E2
  have HL2 := Lib.hid hL2
  have HY1 := Lib.hid hy1
  have HY2 := Lib.hid hy2
  have HX2 := Lib.hid hx2
  have hc := E2.fn
  unfold extFn at hc
  have H15 := Lib.hid hb15
  clear hR hL hz1 hz2 hbx hg2 hs2 hL2 hy1 hy2 hx2 E2 Hhalf HLk HBk hb15
  have hcall := Lib.hid (Ih.out w2 HE2.out)
  clear Ih
  go_wp2_with (first | (go_at_call 53; refine hcall.out.mono ?_; rintro e w3 ⟨r, s, bb, rfl, hrl, hsl, hmd, hB⟩; have HRL := Lib.hid hrl; have HSL := Lib.hid hsl; have HMD := Lib.hid hmd; have HB3 := Lib.hid hB; clear hrl hsl hmd hB) | (refine wpList_store_row' rfl 29 _ _ rfl (w3.heap.size + 1) (s.map V8).toArray rfl rfl _ _ (at_4 H4.out G4.out) (size_sum s HSL.out) (by simp [HSL.out]) (oneCells s) ?_; intro w5 h5 g5 s5; have H5 := Lib.hid h5; have G5 := Lib.hid g5; clear h5 g5 s5) | (refine wpList_store_row' rfl 29 _ _ rfl w3.heap.size (r.map V8).toArray rfl rfl _ _ (blk2 _ _ _).1 (size_sum r HRL.out) (by simp [HRL.out]) (oneCells r) ?_; intro w4 h4 g4 s4; have H4 := Lib.hid h4; have G4 := Lib.hid g4; clear h4 g4 s4))
  have i3 := HB3.out.size
  have i2 := HL2.out.size
  have q1 := in_heap HY2.out
  have q2 := in_heap HX2.out
  have i4 := G4.out.size
  rw [size_alloc, size_alloc] at i4
  have hl3 : Below w.heap.size w w3 := bthen HL2.out HB3.out
  have hl5 : Below w.heap.size w w5 := (((hl3.alloc hl3.size _).alloc (by rw [size_alloc]; omega) _).grown G4.out (by rw [size_alloc, size_alloc]; omega) (fun k hk => by obtain rfl := Option.some.inj hk; omega)).grown G5.out (by omega) (fun k hk => by obtain rfl := Option.some.inj hk; omega)
  have k5 : ∀ b' o', b' < w3.heap.size → w3.heap[b']? = some o' → w5.heap[b']? = some o' := fun b' o' hlt hx => (G5.out.block _ (by omega) (fun e => by have := Option.some.inj e; omega)).trans ((G4.out.block _ (by rw [size_alloc, size_alloc]; omega) (fun e => by have := Option.some.inj e; omega)).trans (at_old _ (at_old _ hx)))
  have h16 : w5.heap[w3.heap.size]? = some (.cells (r.map V8).toArray 29 (0, 0)) := (G5.out.block _ (by omega) (fun e => by have := Option.some.inj e; omega)).trans H4.out
  have HZ1 := Lib.hid (k5 _ _ (by omega) (bblk HB3.out HY1.out))
  have HZ2 := Lib.hid (k5 _ _ (by omega) (bblk HB3.out HY2.out))
  have HZ15 := Lib.hid (k5 _ _ (by omega) (bblk HB3.out HX2.out))
  have HZ16 := Lib.hid h16
  have HZ17 := Lib.hid H5.out
  have HL5 := Lib.hid hl5
  have hb15 := H15.out
  have n1 : b15 ≠ w.heap.size := by omega
  have n2 : b15 ≠ w.heap.size + 1 := by omega
  have n3 : w3.heap.size ≠ w.heap.size := by omega
  have n4 : w3.heap.size ≠ w.heap.size + 1 := by omega
  have n5 : w3.heap.size + 1 ≠ w.heap.size := by omega
  have n6 : w3.heap.size + 1 ≠ w.heap.size + 1 := by omega
  have hne : w.heap.size ≠ w.heap.size + 1 := by omega
  obtain ⟨g16, hg16⟩ : ∃ g, g = w3.heap.size := ⟨_, rfl⟩
  rw [← hg16] at n3 n4 n5 n6 HZ16 HZ17 ⊢
  obtain ⟨nd, hnd, hndl⟩ : ∃ nd, nd = Tree.node s x ∧ nd.length = 32 := ⟨_, rfl, rfl⟩
  have HND := Lib.hid hnd
  have HNDL := Lib.hid hndl
  have hnode := Lib.hid fun W hT => node_any s x W hT HSL.out HXL.out
  clear hl3 hl5 k5 h16 i2 i3 i4 q1 q2 hnd hndl H4 H5 G4 G5 HY1 HY2 HX2 hb15 H15 hg16 hc hcall
  refine wp_region_rel2 7 (WrS w.heap.size (w.heap.size + 1) r nd) (by kernel_rfl) (by kernel_rfl) Wr.refl Wr.trans [.is (sumV r), .is (sumV s), .is (sumV x), .is (sumV nd), .is (.bool bb), pFin1, pFin2] rfl ?_
  refine RelHead2.cons ?_ ?_
  · intro wr hR h
    unfold relOp
    refine wpList_load_sum rfl 29 _ rfl g16 (by kernel_rfl) _ r 32 _ _ (hR.at_ (show w5.drew.heap[_]? = _ from HZ16.out) n3 n4) Tryd.underlying29 (by kernel_rfl) HRL.out ?_
    go_wp2
    exact ⟨Wr.refl _, rfl⟩
  intro v65
  refine RelHead2.cons ?_ ?_
  · intro wr hR h
    unfold relOp
    refine wpList_load_sum rfl 29 _ rfl (g16 + 1) (by kernel_rfl) _ s 32 _ _ (hR.at_ (show w5.drew.heap[_]? = _ from HZ17.out) n5 n6) Tryd.underlying29 (by kernel_rfl) HSL.out ?_
    go_wp2
    exact ⟨Wr.refl _, rfl⟩
  intro v66
  refine RelHead2.cons ?_ ?_
  · intro wr hR h
    unfold relOp
    refine wpList_load_sum rfl 29 _ rfl b15 (by kernel_rfl) _ x 32 _ _ (hR.at_ (show w5.drew.heap[_]? = _ from HZ15.out) n1 n2) Tryd.underlying29 (by kernel_rfl) HXL.out ?_
    go_wp2
    exact ⟨Wr.refl _, rfl⟩
  intro v67
  refine RelHead2.cons ?_ ?_
  · intro wr hR h
    have ev66 : v66 = (sumV s : Value) := allOf_iff.1 h 1 (by decide)
    subst ev66
    have ev67 : v67 = (sumV x : Value) := allOf_iff.1 h 2 (by decide)
    subst ev67
    have hTr := E'.out.tabs.below (Wr.below HL5.out.drew hR (Nat.le_refl _) (by omega))
    unfold relOp
    go_wp2_with (go_at_call 19; refine (hnode.out wr hTr).mono ?_; rintro e w6 ⟨rfl, hB6⟩)
    exact ⟨Wr.of_low hB6, congrArg sumV HND.out.symm⟩
  intro v68
  refine RelHead2.cons ?_ ?_
  · intro wr hR h
    unfold relOp
    go_wp2
    exact ⟨Wr.refl _, rfl⟩
  intro v69
  refine RelHead2.cons ?_ ?_
  · intro wr hR h
    have ev65 : v65 = (sumV r : Value) := allOf_iff.1 h 0 (by decide)
    subst ev65
    obtain ⟨cs, hcs, hs⟩ := hR.k1 ⟨_, HZ1.out, rfl⟩
    unfold relOp
    refine wpList_store_row' rfl 29 _ _ rfl w.heap.size (r.map V8).toArray (by kernel_rfl) (by kernel_rfl) _ _ hcs (size_sum r HRL.out) (by simp [hs, HRL.out]) (oneCells r) ?_
    intro w' h1 g1 s1
    go_wp2
    exact ⟨Wr.one hne g1 h1 (by simp [HRL.out]), undef, h1⟩
  intro v70
  refine RelHead2.cons ?_ ?_
  · intro wr hR h
    have ev68 : v68 = (sumV nd : Value) := allOf_iff.1 h 3 (by decide)
    subst ev68
    obtain ⟨cs, hcs, hs⟩ := hR.k2 ⟨_, HZ2.out, rfl⟩
    unfold relOp
    refine wpList_store_row' rfl 29 _ _ rfl (w.heap.size + 1) (nd.map V8).toArray (by kernel_rfl) (by kernel_rfl) _ _ hcs (size_sum nd HNDL.out) (by simp [hs, HNDL.out]) (oneCells nd) ?_
    intro w' h1 g1 s1
    go_wp2
    exact ⟨Wr.two hne g1 h1 (by simp [HNDL.out]), undef, h1⟩
  intro v71
  refine RelHead2.nil fun wr hR h => ?_
  have e69 : v69 = (.bool bb : Value) := allOf_iff.1 h 4 (by decide)
  have e70 : wr.heap[w.heap.size]? = some (.cells (r.map V8).toArray 29 (0, 0)) := allOf_iff.1 h 5 (by decide)
  have e71 : wr.heap[w.heap.size + 1]? = some (.cells (nd.map V8).toArray 29 (0, 0)) := allOf_iff.1 h 6 (by decide)
  subst e69
  have hBl : Below w.heap.size w wr := Wr.below HL5.out.drew hR (Nat.le_refl _) (by omega)
  clear h hR
  go_wp2
  refine bodyPost_ret (results_sum2_tmp rfl _ _ w.heap.size (w.heap.size + 1) _ _ r nd 32 (0, 0) (0, 0) _ rfl rfl e70 e71 Tryd.underlying29 (by kernel_rfl) HRL.out HNDL.out) rfl ⟨r, nd, bb, rfl, HRL.out, HNDL.out, ?_, hBl⟩
  rw [Hb.out, HMD.out, HND.out]
  cases bb <;> rfl
end Go.Proofs.YtpdhgijeanbmcaaDoor

/- Extc -/
namespace Go.Proofs.YtpdhgijeanbmcaaDoor
open Go.RowKit Go.Great

theorem ext_env {w w0 : World} {root old : List UInt8} {a : Option Addr} {np c : Nat} {p : List (List UInt8)} {t1 t2 t3 : TypeId} {t : TypeId} {o : Obj} (hT : Tabs w) (S : Sums w a np c p) (hl : old.length = 32)
    (hf : w0.heap[w.heap.size + 1 + 1 + 1]? = some (.cells #[extFn w.heap.size (w.heap.size + 1 + 1) (w.heap.size + 1 + 1 + 1)] t (0, 0)))
    (hg : ((((w.alloc (.cells (sumRow old) t1)).alloc (.cells (sumRow root) t2)).alloc (.cells #[.slice a np c] t3)).alloc o).grownBy w0 (some (w.heap.size + 1 + 1 + 1))) :
    ExtEnv w0 w.heap.size (w.heap.size + 1 + 1) (w.heap.size + 1 + 1 + 1) old a np c p ∧ Below w.heap.size w w0 ∧ w0.heap[w.heap.size]? = some (.cells (old.map V8).toArray t1 (0, 0)) ∧ w0.heap[w.heap.size + 1]? = some (.cells (root.map V8).toArray t2 (0, 0)) := by
  have hL : Below w.heap.size w w0 := (low4 _ _ _ _ _).grown hg (by simp; omega) (fun k hk => by obtain rfl := Option.some.inj hk; omega)
  have hb := blk4 w (.cells (sumRow old) t1) (.cells (sumRow root) t2) (.cells #[.slice a np c] t3) o
  have hk : ∀ b x, b < w.heap.size + 1 + 1 + 1 → ((((w.alloc (.cells (sumRow old) t1)).alloc (.cells (sumRow root) t2)).alloc (.cells #[.slice a np c] t3)).alloc o).heap[b]? = some x → w0.heap[b]? = some x :=
    fun b x hlt hx => (hg.block b (in_heap hx) (fun e => absurd (Option.some.inj e) (Nat.ne_of_lt hlt))).trans hx
  exact ⟨⟨hT.below hL, ⟨t1, (0, 0), hk _ _ (by omega) hb.1⟩, cell_block (hk _ _ (by omega) hb.2.2.1) rfl, cell_block hf rfl, hl, S.below hL⟩, hL, hk _ _ (by omega) hb.1, hk _ _ (by omega) hb.2.1⟩

theorem keep54 {w4 w5 : World} {b : Nat} {x : Obj} (g5 : w4.grownBy w5 (some (b + 1))) (h : w4.heap[b]? = some x) : w5.heap[b]? = some x :=
  (g5.block _ (in_heap h) (fun e => by have := Option.some.inj e; omega)).trans h
theorem keep5 {w3 w4 w5 : World} {o o' : Obj} (g4 : ((w3.alloc o).alloc o').grownBy w4 (some w3.heap.size)) (g5 : w4.grownBy w5 (some (w3.heap.size + 1))) : ∀ b' x, b' < w3.heap.size → w3.heap[b']? = some x → w5.heap[b']? = some x := fun b' x hlt hx => by
  have s4 := g4.size
  rw [size_alloc, size_alloc] at s4
  exact (g5.block _ (by omega) (fun e => by have := Option.some.inj e; omega)).trans ((g4.block _ (by rw [size_alloc, size_alloc]; omega) (fun e => by have := Option.some.inj e; omega)).trans (at_old _ (at_old _ hx)))
theorem low5' {w w0 w3 w4 w5 : World} {o o' : Obj} (h0 : Below w.heap.size w w0) (h3 : Below w0.heap.size w0 w3) (g4 : ((w3.alloc o).alloc o').grownBy w4 (some w3.heap.size)) (g5 : w4.grownBy w5 (some (w3.heap.size + 1))) : Below w.heap.size w w5 := by
  have s4 := g4.size
  rw [size_alloc, size_alloc] at s4
  have hl3 := bthen h0 h3
  have i := hl3.size
  exact (((hl3.alloc i _).alloc (by rw [size_alloc]; omega) _).grown g4 (by rw [size_alloc, size_alloc]; omega) (fun k hk => by obtain rfl := Option.some.inj hk; omega)).grown g5 (by omega) (fun k hk => by obtain rfl := Option.some.inj hk; omega)

set_option maxRecDepth 100000 in
set_option maxHeartbeats 2000000 in
theorem extends_of (root old : List UInt8) (m n : Nat) (a : Option Addr) (np c : Nat) (p : List (List UInt8)) (w : World) (hm : 0 < m) (hmn : m ≤ n) (hr : root.length = 32) (ho : old.length = 32) (hT : Tabs w) (S : Sums w a np c p)
    (hin : ∀ ob pb g w', ExtEnv w' ob pb g old a np c p → Calls Tryd.prog 53 #[.int .i64 m, .int .i64 n, .int .i64 np, .bool true, .pointer (some ⟨ob, 0, none⟩), .pointer (some ⟨pb, 0, none⟩), .pointer (some ⟨g, 0, none⟩)] w' (RetBoth (Tree.both old m n true p) w')) :
    Calls Tryd.prog 32 #[.int .i64 m, sumV old, .int .i64 n, sumV root, .slice a np c] w fun e w' => e = .returned (.bool (Tree.extends_ m old n root p)) ∧ Below w.heap.size w w' := by
  have Hin := Lib.hid hin
  have S' := Lib.hid S
  have HOO := Lib.hid ho
  have HRR := Lib.hid hr
  have hi1 : ¬ (m : Int) < 1 := by omega
  have hi2 : ¬ (n : Int) < (m : Int) := by omega
  clear S ho hr hin
  go_enter Tryd.func32, Tryd.ntmps32
  have HB4 := Lib.hid (blk4 w (.cells (sumRow old) 29) (.cells (sumRow root) 29) (.cells #[.slice a np c] 31) (.cells #[.nilFunc] 72)).2.2.2
  go_upto_region 5 with (refine wpList_store_one' rfl 72 _ _ rfl rfl (w.heap.size + 1 + 1 + 1) (.func (.func 53) #[] #[.pointer (some ⟨w.heap.size, 0, none⟩), .pointer (some ⟨w.heap.size + 1 + 1, 0, none⟩), .pointer (some ⟨w.heap.size + 1 + 1 + 1, 0, none⟩)]) rfl rfl rfl _ _ HB4.out (by kernel_rfl) ?_; intro w0 hf hgr; have hf' := Lib.hid hf; have hgr' := Lib.hid hgr; clear hf hgr)
  obtain ⟨E, hB, hold, hroot⟩ := ext_env (p := p) hT S'.out HOO.out hf'.out hgr'.out
  have hc := E.fn
  have hcp := E.pathAt
  unfold extFn at hc
  have HE := Lib.hid E
  have HB0 := Lib.hid hB
  have HOld := Lib.hid hold
  have HRoot := Lib.hid hroot
  have Hel1 := Lib.hid (show ∀ (r : List UInt8), r.length = 32 → ∀ W, (binOp .eql 29 (sumV r) (sumV old)).run Tryd.prog W = .ok (.bool (r == old)) W from fun r h W => eql_sumV r old W h HOO.out)
  have Hel2 := Lib.hid (show ∀ (r : List UInt8), r.length = 32 → ∀ W, (binOp .eql 29 (sumV r) (sumV root)).run Tryd.prog W = .ok (.bool (r == root)) W from fun r h W => eql_sumV r root W h HRR.out)
  clear hf' hgr' E hB hold hroot
  go_wp2_with (first | (go_at_call 53; refine (Hin.out _ _ _ _ HE.out).mono ?_; rintro e w3 ⟨r, s, bb, rfl, hrl, hsl, hmd, hB⟩; have HRL := Lib.hid hrl; have HSL := Lib.hid hsl; have HMD := Lib.hid hmd; have HB3 := Lib.hid hB; clear hrl hsl hmd hB; cases bb <;> cases hq : (r == old)) | (refine wpList_store_row' rfl 29 _ _ rfl (w3.heap.size + 1) (s.map V8).toArray rfl rfl _ _ (at_4 H4.out G4.out) (size_sum s HSL.out) (by simp [HSL.out]) (oneCells s) ?_; intro w5 h5 g5 s5; have h54 := keep54 g5 H4.out; have hk5 := keep5 G4.out g5; have H5 := Lib.hid h5; have G5 := Lib.hid g5; have H54 := Lib.hid h54; have hel1 := Hel1.out r HRL.out; have hel2 := Hel2.out s HSL.out; have HK5 := Lib.hid hk5; clear h5 g5 s5 h54 hk5) | (refine wpList_store_row' rfl 29 _ _ rfl w3.heap.size (r.map V8).toArray rfl rfl _ _ (blk2 _ _ _).1 (size_sum r HRL.out) (by simp [HRL.out]) (oneCells r) ?_; intro w4 h4 g4 s4; have H4 := Lib.hid h4; have G4 := Lib.hid g4; clear h4 g4 s4) | (refine wpList_guarded rfl ?_; refine wpList_load_sum rfl 29 _ rfl w3.heap.size rfl _ r 32 _ _ H54.out Tryd.underlying29 (by kernel_rfl) HRL.out ?_) | (refine wpList_guarded rfl ?_; refine wpList_load_sum rfl 29 _ rfl w.heap.size rfl _ old 32 _ _ (HK5.out _ _ (in_heap (bblk HB3.out HOld.out)) (bblk HB3.out HOld.out)) Tryd.underlying29 (by kernel_rfl) HOO.out ?_) | (refine wpList_guarded rfl ?_; refine wpList_load_sum rfl 29 _ rfl (w3.heap.size + 1) rfl _ s 32 _ _ H5.out Tryd.underlying29 (by kernel_rfl) HSL.out ?_) | (refine wpList_guarded rfl ?_; refine wpList_load_sum rfl 29 _ rfl (w.heap.size + 1) rfl _ root 32 _ _ (HK5.out _ _ (in_heap (bblk HB3.out HRoot.out)) (bblk HB3.out HRoot.out)) Tryd.underlying29 (by kernel_rfl) HRR.out ?_))
  · go_ret
    have : Tree.extends_ m old n root p = false := by unfold Tree.extends_; rw [HMD.out]; rfl
    exact ⟨by rw [this]; try rfl, low5' HB0.out HB3.out G4.out G5.out⟩
  · go_ret
    have : Tree.extends_ m old n root p = false := by unfold Tree.extends_; rw [HMD.out]; rfl
    exact ⟨by rw [this]; try rfl, low5' HB0.out HB3.out G4.out G5.out⟩
  · go_ret
    have : Tree.extends_ m old n root p = false := by unfold Tree.extends_; rw [HMD.out]; simp [hq]
    exact ⟨by rw [this]; try rfl, low5' HB0.out HB3.out G4.out G5.out⟩
  · go_ret
    have : Tree.extends_ m old n root p = (s == root) := by unfold Tree.extends_; rw [HMD.out]; simp [hq]
    exact ⟨by rw [this]; try rfl, low5' HB0.out HB3.out G4.out G5.out⟩

/-- A proof of one sum that two leaves of three have become three. -/
theorem extends_three (root old x : List UInt8) (a : Option Addr) (c : Nat) (w : World) (hr : root.length = 32) (ho : old.length = 32) (hT : Tabs w) (S : Sums w a 1 c [x]) (hs3 : split 3 = 2) :
    Calls Tryd.prog 32 #[.int .i64 2, sumV old, .int .i64 3, sumV root, .slice a 1 c] w fun e w' => e = .returned (.bool (Tree.extends_ 2 old 3 root [x])) ∧ Below w.heap.size w w' := by
  refine extends_of root old 2 3 a 1 c [x] w (by omega) (by omega) hr ho hT S fun ob pb g w' E => ?_
  have h := extin_left 2 3 0 ob pb g true old a 1 c [x] w' (by omega) (by omega) (by omega) (by omega) (by omega) (by rw [hs3]; omega) E fun w2 E2 => by
    rw [hs3]
    exact extin_whole 2 0 ob pb g old a 1 c [x] w2 E2 (by omega)
  simpa using h
end Go.Proofs.YtpdhgijeanbmcaaDoor

/- LiveA -/
namespace Go.Proofs.YtpdhgijeanbmcaaDoor
open Go.RowKit Go.Great

theorem RetS.sums {w w' : World} {L : List (List UInt8)} {e : Ending} (h : RetS w L e w') (hL : ∀ x ∈ L, x.length = 32) : ∃ B C, e = .returned (.slice B L.length C) ∧ Sums w' B L.length C L ∧ Below w.heap.size w w' := by
  obtain ⟨B, C, h1, h2⟩ := h
  exact ⟨B, C, h1, h2.sums hL, h2.low⟩
theorem RetSE.sums {w w' : World} {L : List (List UInt8)} {k : Int} {e : Ending} (h : RetSE w L k e w') (hL : ∀ x ∈ L, x.length = 32) : ∃ B C, e = .returned (.tuple #[.slice B L.length C, .int .i64 k]) ∧ Sums w' B L.length C L ∧ Below w.heap.size w w' := by
  obtain ⟨B, C, h1, h2⟩ := h
  exact ⟨B, C, h1, h2.sums hL, h2.low⟩
theorem three_len (x y z : List UInt8) (hx : x.length = 32) (hy : y.length = 32) (hz : z.length = 32) : ∀ u ∈ [x, y, z], u.length = 32 := by
  intro u hu
  simp only [List.mem_cons, List.not_mem_nil, or_false] at hu
  rcases hu with rfl | rfl | rfl
  · exact hx
  · exact hy
  · exact hz
theorem one_len (x : List UInt8) (hx : x.length = 32) : ∀ u ∈ [x], u.length = 32 := by
  intro u hu
  rw [List.mem_singleton] at hu
  subst hu
  exact hx
theorem live_leaves (w : World) (la lb lc : List UInt8) (ha : la = Tree.leaf [97]) (hb : lb = Tree.leaf [98]) (hc : lc = Tree.leaf [99]) (hT : Tabs w) :
    Calls Tryd.prog 16 #[.slice (some ⟨w.heap.size, 0, none⟩) 3 3] (w.alloc (.cells #[.string ⟨#[97]⟩, .string ⟨#[98]⟩, .string ⟨#[99]⟩] 9)) fun e w' => ∃ B C, e = .returned (.slice B 3 C) ∧ Sums w' B 3 C [la, lb, lc] ∧ Below w.heap.size w w' := by
  subst ha hb hc
  refine (leaves_any [[97], [98], [99]] (some ⟨w.heap.size, 0, none⟩) 3 3 _ (hT.below (low1 _ _)) ⟨rfl, fun _ => ⟨w.heap.size, 0, rfl, fun k hk => ?_⟩⟩ (by omega) (fun t ht => ?_)).mono ?_
  · have : k = 0 ∨ k = 1 ∨ k = 2 := by simp at hk; omega
    rcases this with rfl | rfl | rfl <;> exact cell_block (blk1 _ _) rfl
  · simp only [List.mem_cons, List.not_mem_nil, or_false] at ht
    rcases ht with rfl | rfl | rfl <;> decide
  · rintro e w' h
    obtain ⟨B, C, h1, h2, h3⟩ := h.sums (three_len _ _ _ rfl rfl rfl)
    exact ⟨B, C, h1, h2, bthen (low1 _ _) h3⟩
theorem live_path (W : World) (la lb lc p0 : List UInt8) (B : Option Addr) (C : Nat) (h0 : p0 = Tree.node la lb) (hT : Tabs W) (S : Sums W B 3 C [la, lb, lc]) :
    Calls Tryd.prog 24 #[.slice B 3 C, .int .i64 2] W fun e w' => ∃ B C, e = .returned (.tuple #[.slice B 1 C, .int .i64 0]) ∧ Sums w' B 1 C [p0] ∧ Below W.heap.size W w' := by
  subst h0
  have h := path_any [la, lb, lc] B 3 C 2 W (by omega) (by omega) hT S
  rw [Tree.path3] at h
  exact h.mono fun e w' h => h.sums (one_len _ rfl)
theorem live_growth (W : World) (la lb lc : List UInt8) (B : Option Addr) (C : Nat) (hl : lc.length = 32) (hT : Tabs W) (S : Sums W B 3 C [la, lb, lc]) :
    Calls Tryd.prog 26 #[.slice B 3 C, .int .i64 2] W fun e w' => ∃ B C, e = .returned (.tuple #[.slice B 1 C, .int .i64 0]) ∧ Sums w' B 1 C [lc] ∧ Below W.heap.size W w' := by
  have h := growth_any [la, lb, lc] B 3 C 2 W (by omega) (by omega) (by omega) hT S
  rw [Tree.sub3] at h
  exact h.mono fun e w' h => h.sums (one_len _ hl)
def pTxt (l : List UInt8) : Post Low := ⟨fun v w => ∃ a n c, v = .slice a n c ∧ Txt w a n c l, fun _ _ _ ⟨a, n, c, e, h⟩ hl => ⟨a, n, c, e, h.below hl⟩⟩
theorem root_is (s : List UInt8) (L : List (List UInt8)) (a : Option Addr) (n c : Nat) (w : World) (hs : Tree.root L = s) (hlen : L.length < 4611686018427387904) (hT : Tabs w) (S : Sums w a n c L) : Calls Tryd.prog 21 #[.slice a n c] w (RetSum w s) := by
  subst hs
  exact root_any L a n c w hlen hT S
theorem holds_is (b : Bool) (root leaf : List UInt8) (a : Option Addr) (c : Nat) (x : List UInt8) (w : World) (hb : Tree.holds root 3 2 leaf [x] = b) (hr : root.length = 32) (hl : leaf.length = 32) (hT : Tabs w) (S : Sums w a 1 c [x]) :
    Calls Tryd.prog 30 #[sumV root, .int .i64 3, .int .i64 2, sumV leaf, .slice a 1 c] w fun e w' => e = .returned (.bool b) ∧ Below w.heap.size w w' := by
  subst hb
  exact holds_any root leaf 3 2 a 1 c [x] w (by omega) (by omega) (by omega) hr hl hT S
theorem extends_is (b : Bool) (root old x : List UInt8) (a : Option Addr) (c : Nat) (w : World) (hb : Tree.extends_ 2 old 3 root [x] = b) (hr : root.length = 32) (ho : old.length = 32) (hT : Tabs w) (S : Sums w a 1 c [x]) (hs3 : split 3 = 2) :
    Calls Tryd.prog 32 #[.int .i64 2, sumV old, .int .i64 3, sumV root, .slice a 1 c] w fun e w' => e = .returned (.bool b) ∧ Below w.heap.size w w' := by
  subst hb
  exact extends_three root old x a c w hr ho hT S hs3
theorem lit97_cells : (([97] : List UInt8).map V8).toArray = #[Value.int .u8 97] := by simp [V8]
theorem lit97 (W : World) : Txt (W.alloc (.cells #[Value.int .u8 97] 5)) (some ⟨W.heap.size, 0, none⟩) 1 1 [97] := by
  rw [← lit97_cells]
  exact Txt.of_block (blk1 _ _) rfl
section
variable {P : Program} {ops : Array Oper} {rest : List Oper} {o : Oper} {a : Act} {w : World} {Q : Exit → Act → World → Prop}
theorem wpList_load_mid_sumG (hgd : Region.wanted o (yielded ops a.tmps) = true) (ty : TypeId) (x : Operand) (ho : o.op = .load ty x) (b off : Nat) (hx : a.eval x = .pointer (some ⟨b, off, none⟩))
    (l : List UInt8) (n : Nat) (e : TypeId) (hc : w.rangeAt b off (l.map V8)) (hu : P.underlying ty = some (.array n e)) (hi : (P.info? ty).map (·.size) = some n) (hl : l.length = n) (h : wpList P ops Q rest (a.put o.dst (sumV l)) w) : wpList P ops Q (o :: rest) a w :=
  wpList_guarded hgd (wpList_load_mid_sum rfl ty x ho b off hx l n e hc hu hi hl h)
theorem wpList_load_sumG (hgd : Region.wanted o (yielded ops a.tmps) = true) (ty : TypeId) (x : Operand) (ho : o.op = .load ty x) (g : Nat) (hx : a.eval x = .pointer (some ⟨g, 0, none⟩))
    (t : TypeId) (l : List UInt8) (n : Nat) (fr : Nat × Nat) (e : TypeId) (hg : w.heap[g]? = some (.cells (l.map V8).toArray t fr)) (hu : P.underlying ty = some (.array n e))
    (hi : (P.info? ty).map (·.size) = some n) (hl : l.length = n) (h : wpList P ops Q rest (a.put o.dst (sumV l)) w) : wpList P ops Q (o :: rest) a w :=
  wpList_guarded hgd (wpList_load_sum rfl ty x ho g hx t l n fr e hg hu hi hl h)
end
/-- Below block N nothing turns; above it blocks keep their cells (a mark may turn). -/
structure RN (N : Nat) (w w' : World) : Prop where
  low : Below N w w'
  keep : ∀ (i : Nat) (cs : Array Value) (t : TypeId) (fr : Nat × Nat), w.heap[i]? = some (.cells cs t fr) → ∃ fr', w'.heap[i]? = some (.cells cs t fr')
theorem RN.refl (N : Nat) (w : World) : RN N w w := ⟨Below.refl _ _, fun _ _ _ fr h => ⟨fr, h⟩⟩
theorem RN.trans (N : Nat) (w w' w'' : World) (h : RN N w w') (h' : RN N w' w'') : RN N w w'' :=
  ⟨h.low.trans h'.low, fun i cs t fr hh => by
    obtain ⟨fr1, h1⟩ := h.keep i cs t fr hh
    exact h'.keep i cs t fr1 h1⟩
theorem RN.of_low {N : Nat} {w w' : World} (h : Below w.heap.size w w') (hN : N ≤ w.heap.size) : RN N w w' :=
  ⟨h.mono hN, fun _ _ _ fr hh => ⟨fr, bblk h hh⟩⟩
theorem lowR {w wr : World} (h : RN w.heap.size w.drew wr) : Below w.heap.size w wr := Below.trans (Low.drew w) h.low
theorem sizeR {w wr : World} (h : RN w.heap.size w.drew wr) : w.heap.size ≤ wr.heap.size := h.low.size
/-- A literal of one byte, 97, in memory of the call's own. -/
def pLit (N : Nat) : Post (RN N) := ⟨fun v w => ∃ b, v = .slice (some ⟨b, 0, none⟩) 1 1 ∧ N ≤ b ∧ ∃ t fr, w.heap[b]? = some (.cells #[Value.int .u8 97] t fr), fun _ _ _ ⟨b, e, hb, t, fr, h⟩ hR => by
  obtain ⟨fr', h'⟩ := hR.keep b _ t fr h
  exact ⟨b, e, hb, t, fr', h'⟩⟩
theorem txt97 {W : World} {b : Nat} {t : TypeId} {fr : Nat × Nat} (h : W.heap[b]? = some (.cells #[Value.int .u8 97] t fr)) : Txt W (some ⟨b, 0, none⟩) 1 1 [97] := by
  rw [← lit97_cells] at h
  exact Txt.of_block h rfl
theorem conv_mark (b n c : Nat) (W : World) (cs : Array Value) (t : TypeId) (fr : Nat × Nat) (h : W.heap[b]? = some (.cells cs t fr)) : ∃ W', (convert 22 22 (.slice (some ⟨b, 0, none⟩) n c)).run Tryd.prog W = .ok (.slice (some ⟨b, 0, none⟩) n c) W' ∧ W.grownBy W' (some b) ∧ ∃ fr', W'.heap[b]? = some (.cells cs t fr') := by
  have hsh : W.shape? b = some (t, cs.size) := by simp [World.shape?, h]
  refine ⟨W.freeze ⟨b, cs.size, none⟩ 1, ?_, ?_, ?_⟩
  · simp [convert, run_underlying Tryd.underlying22, run_underlying Tryd.underlying5, markStringish, hsh]
  · refine ⟨rfl, rfl, rfl, ?_, fun i hi hne => ?_⟩
    · simp [World.freeze]
    · have : b ≠ i := fun e => hne (by rw [e])
      simp [World.freeze, Array.getElem?_modify, this]
  · simp [World.freeze, Array.getElem?_modify, h]
theorem RN.of_mark {N b : Nat} {w w' : World} {cs : Array Value} {t : TypeId} {fr fr' : Nat × Nat} (hN : N ≤ w.heap.size) (hb : N ≤ b) (hg : w.grownBy w' (some b)) (h : w.heap[b]? = some (.cells cs t fr)) (h' : w'.heap[b]? = some (.cells cs t fr')) : RN N w w' :=
  ⟨(Below.refl N w).grown hg hN (fun k hk => by obtain rfl := Option.some.inj hk; exact hb), fun i cs2 t2 fr2 h2 => by
    by_cases e : i = b
    · subst e
      rw [h] at h2
      have h3 := Option.some.inj h2
      injection h3 with e1 e2 e3
      subst e1 e2
      exact ⟨fr', h'⟩
    · exact ⟨fr2, (hg.block i (in_heap h2) (fun e' => e (Option.some.inj e'))).trans h2⟩⟩
theorem relOp_load_mid {ops : Array Oper} {R : World → World → Prop} {o : Oper} {a : Act} {w : World} (hrf : ∀ w, R w w) (hg : Region.wanted o (yielded ops a.tmps) = true) (x : Operand) (ho : o.op = .load 29 x) (b off : Nat) (hx : a.eval x = .pointer (some ⟨b, off, none⟩))
    (l : List UInt8) (hc : w.rangeAt b off (l.map V8)) (hl : l.length = 32) : relOp Tryd.prog ops R (Post.is (R := R) (sumV l)).p o a w := by
  unfold relOp wpList
  rw [if_pos hg]
  exact .inl (wp_load_mid 29 x ho b off hx (l.map V8) _ hc Tryd.underlying29 rfl (by rw [show (Tryd.prog.info? 29).map (·.size) = some 32 from by kernel_rfl, List.length_map, hl]) ⟨rfl, _, rfl, hrf _, rfl⟩)
theorem relOp_load_sum {ops : Array Oper} {R : World → World → Prop} {o : Oper} {a : Act} {w : World} (hrf : ∀ w, R w w) (hg : Region.wanted o (yielded ops a.tmps) = true) (x : Operand) (ho : o.op = .load 29 x) (g : Nat) (hx : a.eval x = .pointer (some ⟨g, 0, none⟩))
    (t : TypeId) (fr : Nat × Nat) (l : List UInt8) (hgl : w.heap[g]? = some (.cells (l.map V8).toArray t fr)) (hl : l.length = 32) : relOp Tryd.prog ops R (Post.is (R := R) (sumV l)).p o a w := by
  unfold relOp wpList
  rw [if_pos hg]
  exact .inl (wp_load_row 29 x ho g hx t (l.map V8).toArray fr _ hgl Tryd.underlying29 rfl (size_sum l hl) ⟨rfl, _, rfl, hrf _, rfl⟩)
theorem eval_put_ne (a : Act) (d t : Tmp) (v : Value) (h : (d == t) = false) : (a.put (some d) v).eval (.tmp t) = a.eval (.tmp t) := by
  have h' : d ≠ t := by simpa using h
  simp [Act.put, Act.eval, Array.getElem?_setIfInBounds_ne h']
theorem size_put (a : Act) (d : Option Tmp) (v : Value) : (a.put d v).tmps.size = a.tmps.size := by
  cases d <;> simp [Act.put]
theorem eval_put_eq (a : Act) (d : Tmp) (v : Value) (h : d < a.tmps.size) : (a.put (some d) v).eval (.tmp d) = v := by
  simp [Act.put, Act.eval, h]
end Go.Proofs.YtpdhgijeanbmcaaDoor
