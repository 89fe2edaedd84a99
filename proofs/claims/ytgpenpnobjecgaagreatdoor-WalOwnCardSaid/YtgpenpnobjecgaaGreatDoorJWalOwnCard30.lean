/- The steps of (*wal.Log).Snapshot. -/
import Derived.Great.BuildSlice
import Derived.Defers
import Derived.Recover
import Derived.Test.YtgpenpnobjecgaaGreatDoorJWalOwnCard11
import Derived.Test.YtgpenpnobjecgaaGreatDoorJWalOwnCard13
import Derived.Test.YtgpenpnobjecgaaGreatDoorJWalOwnCard29
/- WSync -/
namespace Go.Proofs.YtgpenpnobjecgaaGreatDoor
set_option maxRecDepth 100000
open Go.RowKit Dk

/-- One cell is stored into a variable of one cell. -/
theorem wpList_store_fn {P : Program} {ops : Array Oper} {rest : List Oper} {o : Oper} {a : Act} {w : World} {Q : Exit → Act → World → Prop} (hgd : o.guard = none) (ty : TypeId) (x y : Operand) (ho : o.op = .store ty x y)
    (hd : o.dst = none) (g : Nat) (v : Value) (hx : a.eval x = .pointer (some ⟨g, 0, none⟩)) (hy : a.eval y = v) (h1 : v.oneCell' = true)
    (t : TypeId) (old : Value) (hg : w.heap[g]? = some (.cells #[old] t (0, 0))) (hi : (P.info? ty).map (·.size) = some 1)
    (h : ∀ w', w'.heap[g]? = some (.cells #[v] t (0, 0)) → Kept (· = g) w w' → wpList P ops Q rest a w') : wpList P ops Q (o :: rest) a w :=
  wpList_store_oneTo hgd ty x y ho hd g v hx hy h1 t old hg hi (h _ (setRow_heap _ _ _ _ _ _ hg) ((Kept.refl (· = g) w).setRow g _ (.inl rfl)))
section
variable {w0 w : World} {g dg : Nat} {d : DiskS} {recs : List Nat} {own : Nat → Option DTag} {L : LogS} {lf : Nat → Prop} {sA : Option Addr} {sC : Nat} {rA : Option Addr} {rC : Nat} {rblk : Option Nat} {qs : List (Option Addr × Nat)}
set_option maxRecDepth 100000 in
set_option maxHeartbeats 1000000 in
theorem sync1_any (hd : DAt w dg d recs own) (hO : Ok d) (hH : Home w0 w (foot own)) (M : LMem w g dg L lf sA sC rA rC rblk qs) {lb bb : Nat} (hlb : w.heap[lb]? = some (.cells #[ptrV g] 38 (0, 0))) (hbb : w.heap[bb]? = some (.cells #[.func (.func 63) #[ptrV dg] #[]] 118 (0, 0))) (hn : L.epoch < 9223372036854775808) :
    Calls Tryz.prog 85 #[ptrV bb, ptrV lb] w (DPost w dg own (Dk.sync d (nameW L.epoch))) := by
  have q1 : w.cell? ⟨g, 1, none⟩ = some (.int .i64 L.epoch) := cell_block M.row rfl
  have q2 : w.cell? ⟨lb, 0, none⟩ = some (ptrV g) := cell_block hlb rfl
  have q3 : w.cell? ⟨bb, 0, none⟩ = some (.func (.func 63) #[ptrV dg] #[]) := cell_block hbb rfl
  have hgl := in_heap M.row
  have hll := in_heap hlb
  have hbl := in_heap hbb
  have HNM := Lib.hid (fun W hW => wname_any L.epoch hn W (hH.tab.low (w' := W) hW))
  have HAP := Lib.hid (fun W (hW : RowKit.Below w.heap.size w W) => sync_any (hd.below hW) hO (nameW L.epoch) (by have := nameW_len L.epoch hn; unfold maxLen; omega))
  clear hd hO hH M hlb hbb
  unfold ptrV at *
  go_enter Tryz.func85, Tryz.ntmps85
  go_upto_region 1 with (fail)
  go_region_law (first
    | (go_simp; go_at_call 63; refine (HAP.out _ HB1.out).mono ?_; rintro e w2 ⟨rfl, h1⟩; have H2 := Lib.hid h1; clear h1)
    | (go_simp; go_at_call 64; refine (HNM.out _ ((Below.refl _ _).drew)).mono ?_; rintro e w1 ⟨rfl, h1⟩; have HB1 : Hid (RowKit.Below w.heap.size w w1) := Lib.hid (bthen ((Below.refl _ _).drew) h1); have q01 : w1.cell? ⟨bb, 0, none⟩ = some (.func (.func 63) #[.pointer (some ⟨dg, 0, none⟩)] #[]) := (HB1.out.cell (p := ⟨bb, 0, none⟩) hbl).trans q3; have q03 : w1.cell? ⟨lb, 0, none⟩ = some (.pointer (some ⟨g, 0, none⟩)) := (HB1.out.cell (p := ⟨lb, 0, none⟩) hll).trans q2; clear h1))
  all_goals
    go_wp2_with fail
    go_ret
    obtain ⟨h1, recs2, own2, h2, h3⟩ := H2.out
    exact ⟨rfl, h1, recs2, own2, h2, (Turned.below HB1.out).trans h3⟩
set_option maxRecDepth 100000 in
set_option maxHeartbeats 1000000 in
theorem wsync_any (hP : PairAt w g dg d L own lf) (hH : Home w0 w (both own lf)) : Calls Tryz.prog 42 #[ptrV g] w (PPost w g dg own lf (syncW d L)) := by
  have HP := Lib.hid hP
  have HH := Lib.hid hH
  obtain ⟨sA, sC, rA, rC, rblk, qs, M⟩ := hP.log
  have HM := Lib.hid M
  have hgl := in_heap M.row
  have q6 : w.cell? ⟨g, 6, none⟩ = some (.bool L.broken) := cell_block M.row rfl
  have q0 : w.cell? ⟨g, 0, none⟩ = some (ptrV dg) := cell_block M.row rfl
  clear hP hH M
  by_cases h2 : L.broken = true
  · have hr := Lib.hid (show syncW d L = ((d, L), 60) by unfold syncW; rw [if_pos h2])
    rw [h2] at q6
    clear h2
    unfold ptrV at *
    go_enter Tryz.func42, Tryz.ntmps42
    go_wp2
    go_ret
    rw [hr.out]
    exact ⟨rfl, own, lf, HP.out.below (low1 _ _), .below (low1 _ _)⟩
  · have h2f : L.broken = false := by simpa using h2
    rw [h2f] at q6
    have Hr := Lib.hid (show syncW d L = if (Dk.sync d (nameW L.epoch)).2 = 0 then (((Dk.sync d (nameW L.epoch)).1, L), 0) else (((Dk.sync d (nameW L.epoch)).1, L.broke), (Dk.sync d (nameW L.epoch)).2) by unfold syncW; rw [if_neg h2])
    have hmf : ∀ (fn : Fn) (first cap : Array Value) (w : World), (Instr.makeFunc fn first cap).run Tryz.prog w = .ok (.func fn first cap) w := fun _ _ _ _ => rfl
    clear h2 h2f
    unfold ptrV at *
    go_enter Tryz.func42, Tryz.ntmps42
    go_wp2_with (refine wpList_store_fn rfl _ _ _ rfl rfl (w.heap.size + 1) _ rfl rfl rfl _ _ (by simpa using blk1 (w.alloc (.cells #[.pointer (some ⟨g, 0, none⟩)] 38)) (.cells #[.nilFunc] 118)) (by kernel_rfl) ?_; intro w3 h1 h2; have hlk3 : w3.heap[w.heap.size]? = some (.cells #[ptrV g] 38 (0, 0)) := h2.blk (bblk (low1 _ _) (blk1 w (.cells #[.pointer (some ⟨g, 0, none⟩)] 38))) (by omega); have hB3 : Hid (RowKit.Below w.heap.size w w3) := Lib.hid (((Kept.of_below (bthen (low1 w (.cells #[.pointer (some ⟨g, 0, none⟩)] 38)) (low1 _ _))).then h2).below fun b hlt e => by omega); have cl3 : w3.cell? ⟨w.heap.size, 0, none⟩ = some (.pointer (some ⟨g, 0, none⟩)) := cell_block hlk3 rfl; have HLK3 := Lib.hid hlk3; have HBK3 := Lib.hid h1; clear h1 h2 hlk3)
    go_at_call 66
    have hlow6 := low1 w3 (.cells #[.func (.func 85) #[] #[.pointer (some ⟨w.heap.size + 1, 0, none⟩), .pointer (some ⟨w.heap.size, 0, none⟩)]] 91)
    have hc6 := blk1 w3 (.cells #[.func (.func 85) #[] #[.pointer (some ⟨w.heap.size + 1, 0, none⟩), .pointer (some ⟨w.heap.size, 0, none⟩)]] 91)
    have hfoot : ∀ b, foot own b → b < w.heap.size := by
      obtain ⟨recs, hd⟩ := HP.out.dat
      exact hd.lt
    have hnf : ∀ b, w.heap.size ≤ b → ¬ foot own b := fun b hb hf => by have := hfoot b hf; omega
    have hP3 := HP.out.below hB3.out
    have hdo := does_disk (hP3.below hlow6) [(85, #[], #[ptrV (w.heap.size + 1), ptrV w.heap.size])] (some ⟨w3.heap.size, 0, none⟩) 1 (CellsAt.of_block hc6) (fun ad had hf => by
        refine hnf _ ?_ hf
        rw [← Option.some.inj had]
        exact hB3.out.size) (fun i => if i = 0 then (d, 0) else Dk.sync d (nameW L.epoch)) rfl (fun i hi => by
        by_cases h0 : i = 0
        · subst h0; exact absurd rfl hi
        · simp [h0]) (fun i f wx hf hq hst => by
        have hi0 : i = 0 := by have := (List.getElem?_eq_some_iff.1 hf).1; simp at this; exact this
        subst hi0
        obtain rfl := Option.some.inj hf
        obtain ⟨hO, recs', own', hdx, htx⟩ := hst
        have hpx := (hP3.below hlow6).disk hdx hO htx
        obtain ⟨sA', sC', rA', rC', rblk', qs', Mx⟩ := hpx.log
        have hhx : Home w0 wx (foot own') := by
          have h1 : Home w0 w (foot own) := ⟨HH.out.tabs, HH.out.low, fun b hb => HH.out.foot b (.inl hb)⟩
          exact (h1.next (bthen hB3.out hlow6)).turned htx
        refine (sync1_any hdx hO hhx Mx (htx.kept.blk (bblk hlow6 HLK3.out) (hnf _ (Nat.le_refl _))) (htx.kept.blk (bblk hlow6 HBK3.out) (hnf _ (by omega))) (by have := HP.out.lok.epoch; omega)).mono ?_
        rintro e w' ⟨rfl, h1, recs2, own2, h2, h3⟩
        exact ⟨rfl, h1, recs2, own2, h2, htx.trans h3⟩) (fun f hf args w => by
        obtain rfl := List.mem_singleton.1 hf
        kernel_rfl) (by simp)
    refine hdo.mono ?_
    clear hdo
    rintro e w7 ⟨rfl, own7, hp7, ht7⟩
    simp only [List.length_singleton, Nat.one_ne_zero, if_false] at hp7 ⊢
    generalize Dk.sync d (nameW L.epoch) = r at hp7 Hr ⊢
    obtain ⟨d7, q⟩ := r
    simp only [] at hp7 Hr ⊢
    have HT7 := Lib.hid ((Turned.below (bthen hB3.out hlow6)).trans ht7)
    have HP7 := Lib.hid hp7
    clear hp7 ht7 hc6 hlow6 hfoot hnf hP3
    go_wp2_with fail
    go_ret
    rw [Hr.out]
    have hP7 := HP7.out
    by_cases hq : q = 0
    · subst hq
      rw [if_pos rfl] at hP7 ⊢
      exact ⟨rfl, own7, lf, hP7, HT7.out⟩
    · rw [if_neg hq] at hP7 ⊢
      exact ⟨rfl, own7, lf, hP7, HT7.out⟩
end
end Go.Proofs.YtgpenpnobjecgaaGreatDoor

/- WDefer -/
namespace Go.Proofs.YtgpenpnobjecgaaGreatDoor
set_option maxRecDepth 100000
open Go.RowKit Dk

section
variable {w : World} {eb lb : Nat} {x : Int} {q : Nat}
set_option maxRecDepth 100000 in
set_option maxHeartbeats 1000000 in
/-- wal.caught, when something was given up. -/
theorem caught_panic (he : w.heap[eb]? = some (.cells #[.int .i64 x] 30 (0, 0))) (older : List PanicEntry) :
    CallsD Tryz.prog 55 #[ptrV eb] (.panicking ({ v := stopV q, recovered := false } :: older)) w fun e u' w' =>
      e = .returned (.tuple #[]) ∧ u' = .panicking ({ v := stopV q, recovered := true } :: older) ∧ Kept (· = eb) w w' ∧ w'.heap[eb]? = some (.cells #[.int .i64 q] 30 (0, 0)) := by
  have hc : w.cell? ⟨eb, 0, none⟩ = some (.int .i64 x) := cell_block he rfl
  have hf := frozen_row he
  have hl := in_heap he
  have hta : ∀ (v : Value) (w : World), (Instr.typeAssert (.iface 156 v) 20 156 true).run Tryz.prog w = .ok (.tuple #[v, .bool true]) w := fun v w => by kernel_rfl
  unfold ptrV stopV
  refine callsD_of_wpS Tryz.func55 rfl fun c₀ cs hu => ?_
  apply wpS_seq
  apply wpS_region
  simp only [Tryz.ntmps55, List.size_toArray, List.length_cons, List.length_nil, Nat.reduceAdd, Nat.reduceSub, Array.replicate_succ, Array.replicate_zero, List.push_toArray, List.append_toArray, List.nil_append, List.cons_append]
  simp [wpOpsS, go_sem, recoverD, hu, Exit.thenS]
  refine wpS_of_wp ?_
  clear hu
  go_wp2
  unfold bodyPostS
  have hk : Kept (· = eb) w (w.setCell ⟨eb, 0, none⟩ (.int .i64 q)) := (Kept.refl (· = eb) w).setCell _ _ (.inl rfl)
  have h2 : (w.setCell ⟨eb, 0, none⟩ (.int .i64 q)).heap[eb]? = some (.cells #[.int .i64 q] 30 (0, 0)) := by rw [setCell_one he]; rfl
  exact ⟨rfl, _, rfl, .tuple #[], results_none rfl _ _ _, rfl, rfl, hk.alloc _, (Kept.of_below (F := fun _ => False) (low1 _ _)).blk h2 id⟩
set_option maxRecDepth 100000 in
theorem caught_idle (eb : Nat) (w : World) :
    CallsD Tryz.prog 55 #[ptrV eb] .returning w fun e u' w' => e = .returned (.tuple #[]) ∧ u' = .returning ∧ w' = w := by
  unfold ptrV
  refine callsD_of_wpS Tryz.func55 rfl fun c₀ cs hu => ?_
  apply wpS_seq
  apply wpS_region
  simp only [Tryz.ntmps55, List.size_toArray, List.length_cons, List.length_nil, Nat.reduceAdd, Nat.reduceSub, Array.replicate_succ, Array.replicate_zero, List.push_toArray, List.append_toArray, List.nil_append, List.cons_append]
  simp [wpOpsS, go_sem, recoverD, hu, Exit.thenS]
  refine wpS_of_wp ?_
  go_wp2
  cases c₀
  simp_all [bodyPostS, results, Tryz.results55]
set_option maxRecDepth 100000 in
/-- The other one: where an error is told the log is not. -/
theorem open1_err (he : w.heap[eb]? = some (.cells #[.int .i64 x] 30 (0, 0))) {v : Value} (hl : w.heap[lb]? = some (.cells #[v] 38 (0, 0))) (hx : ¬ x = 0) :
    CallsD Tryz.prog 54 #[ptrV eb, ptrV lb] .returning w fun e u' w' => u' = .returning ∧ e = .returned (.tuple #[]) ∧ w' = w.setCell ⟨lb, 0, none⟩ (.pointer none) := by
  have hc : w.cell? ⟨eb, 0, none⟩ = some (.int .i64 x) := cell_block he rfl
  have hc2 : w.cell? ⟨lb, 0, none⟩ = some v := cell_block hl rfl
  have hf := frozen_row hl
  have hlt := in_heap hl
  unfold ptrV
  go_enter_d Tryz.func54, Tryz.ntmps54
  go_wp2
  go_end0
  exact ⟨rfl, rfl⟩
set_option maxRecDepth 100000 in
theorem open1_ok (he : w.heap[eb]? = some (.cells #[.int .i64 0] 30 (0, 0))) :
    CallsD Tryz.prog 54 #[ptrV eb, ptrV lb] .returning w fun e u' w' => u' = .returning ∧ e = .returned (.tuple #[]) ∧ w' = w := by
  have hc : w.cell? ⟨eb, 0, none⟩ = some (.int .i64 0) := cell_block he rfl
  unfold ptrV
  go_enter_d Tryz.func54, Tryz.ntmps54
  go_wp2
  go_end0
  exact ⟨rfl, rfl⟩
end
end Go.Proofs.YtgpenpnobjecgaaGreatDoor

/- WDoor0 -/
namespace Go.Proofs.YtgpenpnobjecgaaGreatDoor
set_option maxRecDepth 100000
open Go.RowKit Dk

section
variable {w : World} {eb lb : Nat} {x : Int} {q : Nat} {tmps : Array Value} {R : Ending → World → Prop} {v : Value}
def doors (lb eb : Nat) : List Deferred := [{ target := .fn (.func 55) #[], args := #[ptrV eb] }, { target := .fn (.func 54) #[ptrV eb, ptrV lb], args := #[] }]
theorem results_open (h2 : tmps.getD 2 undef = ptrV lb) (h3 : tmps.getD 3 undef = ptrV eb) (hl : w.heap[lb]? = some (.cells #[v] 38 (0, 0))) (he : w.heap[eb]? = some (.cells #[.int .i64 x] 30 (0, 0))) :
    (results Tryz.f16 tmps).run Tryz.prog w = .ok (.tuple #[v, .int .i64 x]) w := by
  have hc : w.cell? ⟨eb, 0, none⟩ = some (.int .i64 x) := cell_block he rfl
  have hc2 : w.cell? ⟨lb, 0, none⟩ = some v := cell_block hl rfl
  unfold ptrV at h2 h3
  rw [Array.getD_eq_getD_getElem?] at h2 h3
  simp [results, Tryz.results16, h2, h3, go_sem, hc, hc2]
/-- It gives up. -/
theorem door_panic (h2 : tmps.getD 2 undef = ptrV lb) (h3 : tmps.getD 3 undef = ptrV eb) (hq : q ≠ 0) (hl : w.heap[lb]? = some (.cells #[v] 38 (0, 0))) (he : w.heap[eb]? = some (.cells #[.int .i64 0] 30 (0, 0))) (hne : lb ≠ eb)
    (hR : ∀ w', Kept (fun b => b = lb ∨ b = eb) w w' → R (.returned (.tuple #[.pointer none, .int .i64 q])) w') :
    bodyPostD Tryz.prog Tryz.f16 R (.panic [{ v := stopV q, recovered := false }]) { tmps := tmps, defers := doors lb eb } w := by
  unfold bodyPostD doors
  refine leaves_cons (f := 55) (args := #[ptrV eb]) (by simp) (by simp [go_sem]) ?_
  refine (caught_panic he []).mono ?_
  rintro e u' w1 ⟨rfl, rfl, hk1, he1⟩
  have hl1 := hk1.blk hl (fun e => hne e)
  simp only [settle, List.dropWhile]
  refine leaves_cons (f := 54) (args := #[ptrV eb, ptrV lb]) (by simp) (by simp [go_sem]) ?_
  refine (open1_err he1 hl1 (by omega)).mono ?_
  rintro e u' w2 ⟨rfl, rfl, rfl⟩
  have hk2 : Kept (· = lb) w1 (w1.setCell ⟨lb, 0, none⟩ (.pointer none)) := (Kept.refl (· = lb) w1).setCell _ _ (.inl rfl)
  refine ⟨_, results_open h2 h3 (by rw [setCell_one hl1]; rfl) (hk2.blk he1 fun e => hne e.symm), hR _ ((hk1.mono fun b _ e => .inr e).then (hk2.mono fun b _ e => .inl e))⟩
/-- It is done. -/
theorem door_ret (h2 : tmps.getD 2 undef = ptrV lb) (h3 : tmps.getD 3 undef = ptrV eb) (hl : w.heap[lb]? = some (.cells #[v] 38 (0, 0))) (he : w.heap[eb]? = some (.cells #[.int .i64 0] 30 (0, 0)))
    (hR : R (.returned (.tuple #[v, .int .i64 0])) w) :
    bodyPostD Tryz.prog Tryz.f16 R .ret { tmps := tmps, defers := doors lb eb } w := by
  unfold bodyPostD doors
  refine leaves_cons (f := 55) (args := #[ptrV eb]) (by simp) (by simp [go_sem]) ?_
  refine (caught_idle eb w).mono ?_
  rintro e u' w1 ⟨rfl, rfl, rfl⟩
  simp only [settle]
  refine leaves_cons (f := 54) (args := #[ptrV eb, ptrV lb]) (by simp) (by simp [go_sem]) ?_
  refine (open1_ok he).mono ?_
  rintro e u' w2 ⟨rfl, rfl, rfl⟩
  exact ⟨_, results_open h2 h3 hl he, hR⟩
end
end Go.Proofs.YtgpenpnobjecgaaGreatDoor

/- WSnap1 -/
namespace Go.Proofs.YtgpenpnobjecgaaGreatDoor
set_option maxRecDepth 100000
open Go.RowKit Dk

section
variable {w0 w : World} {g dg : Nat} {d : DiskS} {recs : List Nat} {own : Nat → Option DTag} {L : LogS} {lf : Nat → Prop} {sA : Option Addr} {sC : Nat} {rA : Option Addr} {rC : Nat} {rblk : Option Nat} {qs : List (Option Addr × Nat)} {eb : Nat} {q : Nat} {x : Int} {tmps : Array Value} {R : Ending → World → Prop}
def snapDoor (eb : Nat) : List Deferred := [{ target := .fn (.func 55) #[], args := #[ptrV eb] }]
theorem results_snap (h2 : tmps.getD 2 undef = ptrV eb) (he : w.heap[eb]? = some (.cells #[.int .i64 x] 30 (0, 0))) : (results Tryz.f67 tmps).run Tryz.prog w = .ok (.int .i64 x) w := by
  have hc : w.cell? ⟨eb, 0, none⟩ = some (.int .i64 x) := cell_block he rfl
  unfold ptrV at h2
  rw [Array.getD_eq_getD_getElem?] at h2
  simp [results, Tryz.results67, h2, go_sem, hc]
theorem snap_panic (h2 : tmps.getD 2 undef = ptrV eb) (he : w.heap[eb]? = some (.cells #[.int .i64 0] 30 (0, 0)))
    (hR : ∀ w', Kept (· = eb) w w' → R (.returned (.int .i64 q)) w') :
    bodyPostD Tryz.prog Tryz.f67 R (.panic [{ v := stopV q, recovered := false }]) { tmps := tmps, defers := snapDoor eb } w := by
  unfold bodyPostD snapDoor
  refine leaves_cons (f := 55) (args := #[ptrV eb]) (by simp) (by simp [go_sem]) ?_
  refine (caught_panic he []).mono ?_
  rintro e u' w1 ⟨rfl, rfl, hk1, he1⟩
  simp only [settle, List.dropWhile]
  exact ⟨_, results_snap h2 he1, hR _ hk1⟩
theorem snap_ret (h2 : tmps.getD 2 undef = ptrV eb) (he : w.heap[eb]? = some (.cells #[.int .i64 x] 30 (0, 0))) (hR : R (.returned (.int .i64 x)) w) :
    bodyPostD Tryz.prog Tryz.f67 R .ret { tmps := tmps, defers := snapDoor eb } w := by
  unfold bodyPostD snapDoor
  refine leaves_cons (f := 55) (args := #[ptrV eb]) (by simp) (by simp [go_sem]) ?_
  refine (caught_idle eb w).mono ?_
  rintro e u' w1 ⟨rfl, rfl, rfl⟩
  exact ⟨_, results_snap h2 he, hR⟩
set_option maxRecDepth 100000 in
set_option maxHeartbeats 1000000 in
theorem snap1_any (hd : DAt w dg d recs own) (hO : Ok d) (hH : Home w0 w (foot own)) (M : LMem w g dg L lf sA sC rA rC rblk qs) {lb bb : Nat} (hlb : w.heap[lb]? = some (.cells #[ptrV g] 38 (0, 0))) (b : Bs) (A : Option Addr) (C : Nat) (hbb : w.heap[bb]? = some (.cells #[.slice A b.length C] 22 (0, 0))) (X : Txt w A b.length C b) (hb : b.length ≤ 4611686018427387904) (hbf : ∀ ad, A = some ad → ¬ foot own ad.block) (hn : L.epoch ≤ 1099511627776) :
    Calls Tryz.prog 67 #[ptrV lb, ptrV bb] w (DPost w dg own (make1W d (L.epoch + 1) b)) := by
  obtain ⟨w1, hw1⟩ : ∃ w1, w1 = w.alloc (.cells #[.int .i64 0] 30) := ⟨_, rfl⟩
  have hB : RowKit.Below w.heap.size w w1 := by rw [hw1]; exact low1 _ _
  have he1 : w1.heap[w.heap.size]? = some (.cells #[.int .i64 0] 30 (0, 0)) := by rw [hw1]; exact blk1 _ _
  have q0 : w1.cell? ⟨g, 0, none⟩ = some (ptrV dg) := cell_block (bblk hB M.row) rfl
  have q1 : w1.cell? ⟨g, 1, none⟩ = some (.int .i64 L.epoch) := cell_block (bblk hB M.row) rfl
  have q2 : w1.cell? ⟨lb, 0, none⟩ = some (ptrV g) := cell_block (bblk hB hlb) rfl
  have q3 : w1.cell? ⟨bb, 0, none⟩ = some (.slice A b.length C) := cell_block (bblk hB hbb) rfl
  have hfoot := hd.lt
  have hmk := Lib.hid (fun W (hW : RowKit.Below w.heap.size w W) => wmake_any (hd.below hW) hO (hH.next hW) (L.epoch + 1) (by omega) b A C (X.below hW) hb hbf)
  simp only [Int.natCast_add, Int.natCast_one] at hmk
  have HB := Lib.hid hB
  have HE := Lib.hid he1
  have HF := Lib.hid hfoot
  have h63 : (L.epoch : Int) ≤ 1099511627776 := by omega
  clear hd hO hH M hlb hbb X hbf hB he1 hfoot hn
  unfold ptrV at *
  go_enter_defers Tryz.func67, Tryz.ntmps67
  go_upto_region 2 with (fail)
  rw [← hw1]
  clear hw1
  have HALL := Lib.hid (show ∀ W, w1.drew = W → W.cell? ⟨g, 0, none⟩ = some (.pointer (some ⟨dg, 0, none⟩)) ∧ W.cell? ⟨g, 1, none⟩ = some (.int .i64 L.epoch) ∧ W.cell? ⟨lb, 0, none⟩ = some (.pointer (some ⟨g, 0, none⟩)) ∧ W.cell? ⟨bb, 0, none⟩ = some (.slice A b.length C) from fun W h => by subst h; exact ⟨q0, q1, q2, q3⟩)
  have h63b : (0 : Int) ≤ L.epoch := by omega
  clear q0 q1 q2 q3
  -- REGION2
  refine wp_region_reg 10 14 (fun w w' : World => w = w') (by kernel_rfl) (by kernel_rfl) (by kernel_rfl) (by kernel_rfl) (by kernel_rfl) (fun _ => rfl) (fun _ _ _ h h2 => h.trans h2) [.is (.pointer (some ⟨g, 0, none⟩) : Value), .is (.pointer (some ⟨g, 0, none⟩) : Value), .is (.pointer (some ⟨g, 0, none⟩) : Value), .is (.pointer (some ⟨dg, 0, none⟩) : Value), .is (.pointer (some ⟨g, 0, none⟩) : Value), .is (.pointer (some ⟨g, 0, none⟩) : Value), .is (.pointer (some ⟨g, 1, none⟩) : Value), .is (.int .i64 L.epoch : Value), .is (.int .i64 ((L.epoch : Int) + 1) : Value), .is (.slice A b.length C : Value)] rfl (fun vs => ?_) (fun vs wr hR h => ?_)
  · refine RegHead.cons (fun wr hR h => ?_) ?_
    · exact relAt.pureS (fun _ => rfl) (by kernel_rfl) (by kernel_rfl) (run_load_plog (HALL.out _ hR).2.2.1)
    refine RegHead.cons (fun wr hR h => ?_) ?_
    · exact relAt.pure (fun _ => rfl) (by kernel_rfl) (by kernel_rfl)
    refine RegHead.cons (fun wr hR h => ?_) ?_
    · exact relAt.pure (fun _ => rfl) (by kernel_rfl) (by kernel_rfl)
    refine RegHead.cons (fun wr hR h => ?_) ?_
    · exact relAt.pureS (fun _ => rfl) (by kernel_rfl) (by kernel_rfl) (run_load_pdisk (HALL.out _ hR).1)
    refine RegHead.cons (fun wr hR h => ?_) ?_
    · exact relAt.pureS (fun _ => rfl) (by kernel_rfl) (by kernel_rfl) (run_load_plog (HALL.out _ hR).2.2.1)
    refine RegHead.cons (fun wr hR h => ?_) ?_
    · exact relAt.pure (fun _ => rfl) (by kernel_rfl) (by kernel_rfl)
    refine RegHead.cons (fun wr hR h => ?_) ?_
    · exact relAt.pure (fun _ => rfl) (by kernel_rfl) (by kernel_rfl)
    refine RegHead.cons (fun wr hR h => ?_) ?_
    · exact relAt.pureS (fun _ => rfl) (by kernel_rfl) (by kernel_rfl) (run_load_n (HALL.out _ hR).2.1)
    refine RegHead.cons (fun wr hR h => ?_) ?_
    · exact relAt.pureS (fun _ => rfl) (by kernel_rfl) (by kernel_rfl) (run_addW wr 3 (.tmp 10) (.const (.int .i64 1)) _ _ (by omega))
    refine RegHead.cons (fun wr hR h => ?_) ?_
    · exact relAt.pureS (fun _ => rfl) (by kernel_rfl) (by kernel_rfl) (run_load_bytes (HALL.out _ hR).2.2.2)
    exact trivial
  · obtain rfl := hR
    clear h HALL
    refine wp_frame (new := [(.pointer (some ⟨g, 0, none⟩) : Value), (.pointer (some ⟨g, 0, none⟩) : Value), (.pointer (some ⟨g, 0, none⟩) : Value), (.pointer (some ⟨dg, 0, none⟩) : Value), (.pointer (some ⟨g, 0, none⟩) : Value), (.pointer (some ⟨g, 0, none⟩) : Value), (.pointer (some ⟨g, 1, none⟩) : Value), (.int .i64 L.epoch : Value), (.int .i64 ((L.epoch : Int) + 1) : Value), (.slice A b.length C : Value)]) 3 13 (by kernel_rfl) ?_
    simp only [List.take, List.drop, List.cons_append, List.nil_append]
    -- END2
    go_wp2_with fail
    go_at_call 61
    refine (hmk.out _ (HB.out.drew)).mono ?_
    intro e w2 h
    obtain ⟨he, h1⟩ := h
    have H2 := Lib.hid h1
    obtain ⟨_, _, _, _, ht⟩ := h1
    have he2 : w2.heap[w.heap.size]? = some (.cells #[.int .i64 0] 30 (0, 0)) := ht.kept.blk (bblk ((Below.refl _ _).drew) HE.out) (fun h => by have := HF.out _ h; omega)
    have ce2 : w2.cell? ⟨w.heap.size, 0, none⟩ = some (.int .i64 0) := cell_block he2 rfl
    have fe2 := frozen_row he2
    have le2 := in_heap he2
    have HE2 := Lib.hid he2
    clear ht he2
    have HFIN : Hid (∀ w', Kept (· = w.heap.size) w2 w' → DPost w dg own (make1W d (L.epoch + 1) b) (.returned (.int .i64 (make1W d (L.epoch + 1) b).2)) w') := Lib.hid fun w' hk => by
      obtain ⟨hO, recs2, own2, hd2, ht2⟩ := H2.out
      have ht3 := (Turned.below (HB.out.drew)).trans ht2
      have hn : ¬ foot own2 w.heap.size := fun h => by
        have h3 := ht2.foot _ (in_heap (bblk ((Below.refl _ _).drew) HE.out)) h
        have := HF.out _ h3
        omega
      exact ⟨rfl, hO, recs2, own2, hd2.kept hk fun b hb e => hn (e ▸ hb), ht3.kept.trans hk fun b e => .inr (by omega), fun b hlt h => ht3.foot b hlt h⟩
    by_cases hq : (make1W d (L.epoch + 1) b).2 = 0
    · rw [if_pos hq] at he
      subst he
      rw [hq] at HFIN
      clear hq H2
      go_wp2_with fail
      have hrow : (w2.setCell ⟨w.heap.size, 0, none⟩ (.int .i64 0)).heap[w.heap.size]? = some (.cells #[.int .i64 0] 30 (0, 0)) := by rw [setCell_one HE2.out]; rfl
      exact snap_ret rfl hrow (HFIN.out _ ((Kept.refl _ _).setCell _ _ (.inl rfl)))
    · rw [if_neg hq] at he
      subst he
      clear hq H2
      unfold stopped
      go_wp2_with fail
      exact snap_panic rfl HE2.out HFIN.out
set_option maxRecDepth 100000 in
set_option maxHeartbeats 1000000 in
theorem snap2_any (hd : DAt w dg d recs own) (hO : Ok d) (M : LMem w g dg L lf sA sC rA rC rblk qs) {lb nb : Nat} (hlb : w.heap[lb]? = some (.cells #[ptrV g] 38 (0, 0))) (s : Bs) (hnb : w.heap[nb]? = some (.cells #[strV s] 9 (0, 0))) (hs : s.length ≤ maxLen) :
    Calls Tryz.prog 68 #[ptrV lb, ptrV nb] w (DPost w dg own (Dk.remove d s)) := by
  have q0 : w.cell? ⟨g, 0, none⟩ = some (ptrV dg) := cell_block M.row rfl
  have q2 : w.cell? ⟨lb, 0, none⟩ = some (ptrV g) := cell_block hlb rfl
  have q3 : w.cell? ⟨nb, 0, none⟩ = some (strV s) := cell_block hnb rfl
  have HR := Lib.hid (remove_any (hd.below ((Below.refl _ w).drew)) hO s hs)
  clear hd hO M hlb hnb
  unfold ptrV strV at *
  go_enter Tryz.func68, Tryz.ntmps68
  go_upto_region 1 with (fail)
  go_region_law (go_simp; go_at_call 58; refine HR.out.mono ?_; rintro e w2 ⟨rfl, h1⟩; have H2 := Lib.hid h1; clear h1)
  all_goals
    go_wp2_with fail
    go_ret
    obtain ⟨h1, recs2, own2, h2, h3⟩ := H2.out
    exact ⟨rfl, h1, recs2, own2, h2, (Turned.below ((Below.refl _ w).drew)).trans h3⟩
end
end Go.Proofs.YtgpenpnobjecgaaGreatDoor
