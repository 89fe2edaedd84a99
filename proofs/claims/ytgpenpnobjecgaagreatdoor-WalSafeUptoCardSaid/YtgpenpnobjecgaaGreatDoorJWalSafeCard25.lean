/- The steps of (*wal.Log).Snapshot. -/
import Derived.Test.YtgpenpnobjecgaaGreatDoorJWalSafeCard24
/- WDoor0 -/
namespace Go.Proofs.YtgpenpnobjecgaaGreatDoor
set_option maxRecDepth 100000
open Go.RowKit Dk

section
variable {w : World} {eb lb : Nat} {x : Int} {q : Nat} {tmps : Array Value} {R : Ending → World → Prop} {v : Value}
def doors (lb eb : Nat) : List Deferred := [{ target := .fn (.func 55) #[], args := #[ptrV eb] }, { target := .fn (.func 54) #[ptrV eb, ptrV lb], args := #[] }]
theorem results_open (h2 : tmps.getD 2 undef = ptrV lb) (h3 : tmps.getD 3 undef = ptrV eb) (hl : w.heap[lb]? = some (.cells #[v] 38 (0, 0))) (he : w.heap[eb]? = some (.cells #[.int .i64 x] 30 (0, 0))) :
    (results Tryz.f16 tmps).run Tryz.prog w = .ok (.tuple #[v, .int .i64 x]) w := by
  have hc : w.cell? ⟨eb, 0, none⟩ = some (.int .i64 x) := cell_block he rfl
  have hc2 : w.cell? ⟨lb, 0, none⟩ = some v := cell_block hl rfl
  unfold ptrV at h2 h3
  rw [Array.getD_eq_getD_getElem?] at h2 h3
  simp [results, Tryz.results16, h2, h3, go_sem, hc, hc2]
/-- It gives up. -/
theorem door_panic (h2 : tmps.getD 2 undef = ptrV lb) (h3 : tmps.getD 3 undef = ptrV eb) (hq : q ≠ 0) (hl : w.heap[lb]? = some (.cells #[v] 38 (0, 0))) (he : w.heap[eb]? = some (.cells #[.int .i64 0] 30 (0, 0))) (hne : lb ≠ eb)
    (hR : ∀ w', Kept (fun b => b = lb ∨ b = eb) w w' → R (.returned (.tuple #[.pointer none, .int .i64 q])) w') :
    bodyPostD Tryz.prog Tryz.f16 R (.panic [{ v := stopV q, recovered := false }]) { tmps := tmps, defers := doors lb eb } w := by
  unfold bodyPostD doors
  refine leaves_cons (f := 55) (args := #[ptrV eb]) (by simp) (by simp [go_sem]) ?_
  refine (caught_panic he []).mono ?_
  rintro e u' w1 ⟨rfl, rfl, hk1, he1⟩
  have hl1 := hk1.blk hl (fun e => hne e)
  simp only [settle, List.dropWhile]
  refine leaves_cons (f := 54) (args := #[ptrV eb, ptrV lb]) (by simp) (by simp [go_sem]) ?_
  refine (open1_err he1 hl1 (by omega)).mono ?_
  rintro e u' w2 ⟨rfl, rfl, rfl⟩
  have hk2 : Kept (· = lb) w1 (w1.setCell ⟨lb, 0, none⟩ (.pointer none)) := (Kept.refl (· = lb) w1).setCell _ _ (.inl rfl)
  refine ⟨_, results_open h2 h3 (by rw [setCell_one hl1]; rfl) (hk2.blk he1 fun e => hne e.symm), hR _ ((hk1.mono fun b _ e => .inr e).then (hk2.mono fun b _ e => .inl e))⟩
/-- It is done. -/
theorem door_ret (h2 : tmps.getD 2 undef = ptrV lb) (h3 : tmps.getD 3 undef = ptrV eb) (hl : w.heap[lb]? = some (.cells #[v] 38 (0, 0))) (he : w.heap[eb]? = some (.cells #[.int .i64 0] 30 (0, 0)))
    (hR : R (.returned (.tuple #[v, .int .i64 0])) w) :
    bodyPostD Tryz.prog Tryz.f16 R .ret { tmps := tmps, defers := doors lb eb } w := by
  unfold bodyPostD doors
  refine leaves_cons (f := 55) (args := #[ptrV eb]) (by simp) (by simp [go_sem]) ?_
  refine (caught_idle eb w).mono ?_
  rintro e u' w1 ⟨rfl, rfl, rfl⟩
  simp only [settle]
  refine leaves_cons (f := 54) (args := #[ptrV eb, ptrV lb]) (by simp) (by simp [go_sem]) ?_
  refine (open1_ok he).mono ?_
  rintro e u' w2 ⟨rfl, rfl, rfl⟩
  exact ⟨_, results_open h2 h3 hl he, hR⟩
end
end Go.Proofs.YtgpenpnobjecgaaGreatDoor

/- WSnap1 -/
namespace Go.Proofs.YtgpenpnobjecgaaGreatDoor
set_option maxRecDepth 100000
open Go.RowKit Dk

section
variable {w0 w : World} {g dg : Nat} {d : DiskS} {recs : List Nat} {own : Nat → Option DTag} {L : LogS} {lf : Nat → Prop} {sA : Option Addr} {sC : Nat} {rA : Option Addr} {rC : Nat} {rblk : Option Nat} {qs : List (Option Addr × Nat)} {eb : Nat} {q : Nat} {x : Int} {tmps : Array Value} {R : Ending → World → Prop}
def snapDoor (eb : Nat) : List Deferred := [{ target := .fn (.func 55) #[], args := #[ptrV eb] }]
theorem results_snap (h2 : tmps.getD 2 undef = ptrV eb) (he : w.heap[eb]? = some (.cells #[.int .i64 x] 30 (0, 0))) : (results Tryz.f67 tmps).run Tryz.prog w = .ok (.int .i64 x) w := by
  have hc : w.cell? ⟨eb, 0, none⟩ = some (.int .i64 x) := cell_block he rfl
  unfold ptrV at h2
  rw [Array.getD_eq_getD_getElem?] at h2
  simp [results, Tryz.results67, h2, go_sem, hc]
theorem snap_panic (h2 : tmps.getD 2 undef = ptrV eb) (he : w.heap[eb]? = some (.cells #[.int .i64 0] 30 (0, 0)))
    (hR : ∀ w', Kept (· = eb) w w' → R (.returned (.int .i64 q)) w') :
    bodyPostD Tryz.prog Tryz.f67 R (.panic [{ v := stopV q, recovered := false }]) { tmps := tmps, defers := snapDoor eb } w := by
  unfold bodyPostD snapDoor
  refine leaves_cons (f := 55) (args := #[ptrV eb]) (by simp) (by simp [go_sem]) ?_
  refine (caught_panic he []).mono ?_
  rintro e u' w1 ⟨rfl, rfl, hk1, he1⟩
  simp only [settle, List.dropWhile]
  exact ⟨_, results_snap h2 he1, hR _ hk1⟩
theorem snap_ret (h2 : tmps.getD 2 undef = ptrV eb) (he : w.heap[eb]? = some (.cells #[.int .i64 x] 30 (0, 0))) (hR : R (.returned (.int .i64 x)) w) :
    bodyPostD Tryz.prog Tryz.f67 R .ret { tmps := tmps, defers := snapDoor eb } w := by
  unfold bodyPostD snapDoor
  refine leaves_cons (f := 55) (args := #[ptrV eb]) (by simp) (by simp [go_sem]) ?_
  refine (caught_idle eb w).mono ?_
  rintro e u' w1 ⟨rfl, rfl, rfl⟩
  exact ⟨_, results_snap h2 he, hR⟩
set_option maxRecDepth 100000 in
set_option maxHeartbeats 1000000 in
theorem snap1_any (hd : DAt w dg d recs own) (hO : Ok d) (hH : Home w0 w (foot own)) (M : LMem w g dg L lf sA sC rA rC rblk qs) {lb bb : Nat} (hlb : w.heap[lb]? = some (.cells #[ptrV g] 38 (0, 0))) (b : Bs) (A : Option Addr) (C : Nat) (hbb : w.heap[bb]? = some (.cells #[.slice A b.length C] 22 (0, 0))) (X : Txt w A b.length C b) (hb : b.length ≤ 4611686018427387904) (hbf : ∀ ad, A = some ad → ¬ foot own ad.block) (hn : L.epoch ≤ 1099511627776) :
    Calls Tryz.prog 67 #[ptrV lb, ptrV bb] w (DPost w dg own (make1W d (L.epoch + 1) b)) := by
  obtain ⟨w1, hw1⟩ : ∃ w1, w1 = w.alloc (.cells #[.int .i64 0] 30) := ⟨_, rfl⟩
  have hB : RowKit.Below w.heap.size w w1 := by rw [hw1]; exact low1 _ _
  have he1 : w1.heap[w.heap.size]? = some (.cells #[.int .i64 0] 30 (0, 0)) := by rw [hw1]; exact blk1 _ _
  have q0 : w1.cell? ⟨g, 0, none⟩ = some (ptrV dg) := cell_block (bblk hB M.row) rfl
  have q1 : w1.cell? ⟨g, 1, none⟩ = some (.int .i64 L.epoch) := cell_block (bblk hB M.row) rfl
  have q2 : w1.cell? ⟨lb, 0, none⟩ = some (ptrV g) := cell_block (bblk hB hlb) rfl
  have q3 : w1.cell? ⟨bb, 0, none⟩ = some (.slice A b.length C) := cell_block (bblk hB hbb) rfl
  have hfoot := hd.lt
  have hmk := Lib.hid (fun W (hW : RowKit.Below w.heap.size w W) => wmake_any (hd.below hW) hO (hH.next hW) (L.epoch + 1) (by omega) b A C (X.below hW) hb hbf)
  simp only [Int.natCast_add, Int.natCast_one] at hmk
  have HB := Lib.hid hB
  have HE := Lib.hid he1
  have HF := Lib.hid hfoot
  have h63 : (L.epoch : Int) ≤ 1099511627776 := by omega
  clear hd hO hH M hlb hbb X hbf hB he1 hfoot hn
  unfold ptrV at *
  go_enter_defers Tryz.func67, Tryz.ntmps67
  go_upto_region 2 with (fail)
  rw [← hw1]
  clear hw1
  have HALL := Lib.hid (show ∀ W, w1.drew = W → W.cell? ⟨g, 0, none⟩ = some (.pointer (some ⟨dg, 0, none⟩)) ∧ W.cell? ⟨g, 1, none⟩ = some (.int .i64 L.epoch) ∧ W.cell? ⟨lb, 0, none⟩ = some (.pointer (some ⟨g, 0, none⟩)) ∧ W.cell? ⟨bb, 0, none⟩ = some (.slice A b.length C) from fun W h => by subst h; exact ⟨q0, q1, q2, q3⟩)
  have h63b : (0 : Int) ≤ L.epoch := by omega
  clear q0 q1 q2 q3
  -- REGION2
  refine wp_region_reg 10 14 (fun w w' : World => w = w') (by kernel_rfl) (by kernel_rfl) (by kernel_rfl) (by kernel_rfl) (by kernel_rfl) (fun _ => rfl) (fun _ _ _ h h2 => h.trans h2) [.is (.pointer (some ⟨g, 0, none⟩) : Value), .is (.pointer (some ⟨g, 0, none⟩) : Value), .is (.pointer (some ⟨g, 0, none⟩) : Value), .is (.pointer (some ⟨dg, 0, none⟩) : Value), .is (.pointer (some ⟨g, 0, none⟩) : Value), .is (.pointer (some ⟨g, 0, none⟩) : Value), .is (.pointer (some ⟨g, 1, none⟩) : Value), .is (.int .i64 L.epoch : Value), .is (.int .i64 ((L.epoch : Int) + 1) : Value), .is (.slice A b.length C : Value)] rfl (fun vs => ?_) (fun vs wr hR h => ?_)
  · refine RegHead.cons (fun wr hR h => ?_) ?_
    · exact relAt.pureS (fun _ => rfl) (by kernel_rfl) (by kernel_rfl) (run_load_plog (HALL.out _ hR).2.2.1)
    refine RegHead.cons (fun wr hR h => ?_) ?_
    · exact relAt.pure (fun _ => rfl) (by kernel_rfl) (by kernel_rfl)
    refine RegHead.cons (fun wr hR h => ?_) ?_
    · exact relAt.pure (fun _ => rfl) (by kernel_rfl) (by kernel_rfl)
    refine RegHead.cons (fun wr hR h => ?_) ?_
    · exact relAt.pureS (fun _ => rfl) (by kernel_rfl) (by kernel_rfl) (run_load_pdisk (HALL.out _ hR).1)
    refine RegHead.cons (fun wr hR h => ?_) ?_
    · exact relAt.pureS (fun _ => rfl) (by kernel_rfl) (by kernel_rfl) (run_load_plog (HALL.out _ hR).2.2.1)
    refine RegHead.cons (fun wr hR h => ?_) ?_
    · exact relAt.pure (fun _ => rfl) (by kernel_rfl) (by kernel_rfl)
    refine RegHead.cons (fun wr hR h => ?_) ?_
    · exact relAt.pure (fun _ => rfl) (by kernel_rfl) (by kernel_rfl)
    refine RegHead.cons (fun wr hR h => ?_) ?_
    · exact relAt.pureS (fun _ => rfl) (by kernel_rfl) (by kernel_rfl) (run_load_n (HALL.out _ hR).2.1)
    refine RegHead.cons (fun wr hR h => ?_) ?_
    · exact relAt.pureS (fun _ => rfl) (by kernel_rfl) (by kernel_rfl) (run_addW wr 3 (.tmp 10) (.const (.int .i64 1)) _ _ (by omega))
    refine RegHead.cons (fun wr hR h => ?_) ?_
    · exact relAt.pureS (fun _ => rfl) (by kernel_rfl) (by kernel_rfl) (run_load_bytes (HALL.out _ hR).2.2.2)
    exact trivial
  · obtain rfl := hR
    clear h HALL
    refine wp_frame (new := [(.pointer (some ⟨g, 0, none⟩) : Value), (.pointer (some ⟨g, 0, none⟩) : Value), (.pointer (some ⟨g, 0, none⟩) : Value), (.pointer (some ⟨dg, 0, none⟩) : Value), (.pointer (some ⟨g, 0, none⟩) : Value), (.pointer (some ⟨g, 0, none⟩) : Value), (.pointer (some ⟨g, 1, none⟩) : Value), (.int .i64 L.epoch : Value), (.int .i64 ((L.epoch : Int) + 1) : Value), (.slice A b.length C : Value)]) 3 13 (by kernel_rfl) ?_
    simp only [List.take, List.drop, List.cons_append, List.nil_append]
    -- END2
    go_wp2_with fail
    go_at_call 61
    refine (hmk.out _ (HB.out.drew)).mono ?_
    intro e w2 h
    obtain ⟨he, h1⟩ := h
    have H2 := Lib.hid h1
    obtain ⟨_, _, _, _, ht⟩ := h1
    have he2 : w2.heap[w.heap.size]? = some (.cells #[.int .i64 0] 30 (0, 0)) := ht.kept.blk (bblk ((Below.refl _ _).drew) HE.out) (fun h => by have := HF.out _ h; omega)
    have ce2 : w2.cell? ⟨w.heap.size, 0, none⟩ = some (.int .i64 0) := cell_block he2 rfl
    have fe2 := frozen_row he2
    have le2 := in_heap he2
    have HE2 := Lib.hid he2
    clear ht he2
    have HFIN : Hid (∀ w', Kept (· = w.heap.size) w2 w' → DPost w dg own (make1W d (L.epoch + 1) b) (.returned (.int .i64 (make1W d (L.epoch + 1) b).2)) w') := Lib.hid fun w' hk => by
      obtain ⟨hO, recs2, own2, hd2, ht2⟩ := H2.out
      have ht3 := (Turned.below (HB.out.drew)).trans ht2
      have hn : ¬ foot own2 w.heap.size := fun h => by
        have h3 := ht2.foot _ (in_heap (bblk ((Below.refl _ _).drew) HE.out)) h
        have := HF.out _ h3
        omega
      exact ⟨rfl, hO, recs2, own2, hd2.kept hk fun b hb e => hn (e ▸ hb), ht3.kept.trans hk fun b e => .inr (by omega), fun b hlt h => ht3.foot b hlt h⟩
    by_cases hq : (make1W d (L.epoch + 1) b).2 = 0
    · rw [if_pos hq] at he
      subst he
      rw [hq] at HFIN
      clear hq H2
      go_wp2_with fail
      have hrow : (w2.setCell ⟨w.heap.size, 0, none⟩ (.int .i64 0)).heap[w.heap.size]? = some (.cells #[.int .i64 0] 30 (0, 0)) := by rw [setCell_one HE2.out]; rfl
      exact snap_ret rfl hrow (HFIN.out _ ((Kept.refl _ _).setCell _ _ (.inl rfl)))
    · rw [if_neg hq] at he
      subst he
      clear hq H2
      unfold stopped
      go_wp2_with fail
      exact snap_panic rfl HE2.out HFIN.out
set_option maxRecDepth 100000 in
set_option maxHeartbeats 1000000 in
theorem snap2_any (hd : DAt w dg d recs own) (hO : Ok d) (M : LMem w g dg L lf sA sC rA rC rblk qs) {lb nb : Nat} (hlb : w.heap[lb]? = some (.cells #[ptrV g] 38 (0, 0))) (s : Bs) (hnb : w.heap[nb]? = some (.cells #[strV s] 9 (0, 0))) (hs : s.length ≤ maxLen) :
    Calls Tryz.prog 68 #[ptrV lb, ptrV nb] w (DPost w dg own (Dk.remove d s)) := by
  have q0 : w.cell? ⟨g, 0, none⟩ = some (ptrV dg) := cell_block M.row rfl
  have q2 : w.cell? ⟨lb, 0, none⟩ = some (ptrV g) := cell_block hlb rfl
  have q3 : w.cell? ⟨nb, 0, none⟩ = some (strV s) := cell_block hnb rfl
  have HR := Lib.hid (remove_any (hd.below ((Below.refl _ w).drew)) hO s hs)
  clear hd hO M hlb hnb
  unfold ptrV strV at *
  go_enter Tryz.func68, Tryz.ntmps68
  go_upto_region 1 with (fail)
  go_region_law (go_simp; go_at_call 58; refine HR.out.mono ?_; rintro e w2 ⟨rfl, h1⟩; have H2 := Lib.hid h1; clear h1)
  all_goals
    go_wp2_with fail
    go_ret
    obtain ⟨h1, recs2, own2, h2, h3⟩ := H2.out
    exact ⟨rfl, h1, recs2, own2, h2, (Turned.below ((Below.refl _ w).drew)).trans h3⟩
end
end Go.Proofs.YtgpenpnobjecgaaGreatDoor
