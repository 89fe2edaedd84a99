/- Package wicketref02's turn: the walk. -/
import Derived.Test.YtpdhgijeanbmcaaDoorRturn
namespace Go.Proofs.YtpdhgijeanbmcaaDoor
open Go.RowKit

theorem sched_start2 (t1 t2 t3 : TypeId) (w : World) (r : Sha.Reg) (p : Nat → UInt8) :
    Sched w (((w.alloc (.cells (r.list.map V32).toArray t1)).alloc (.cells (zeros 8) t2)).alloc (.cells (zeros 64) t3)) r p 0 := by
  have h8 : ∀ n j, j < n → (zeros n)[j]? = some (V32 0) := fun n j hj => by simp [zeros, hj]
  have e1 : ∀ o, w.heap.size + 1 = (w.alloc o).heap.size := fun o => by simp
  have e2 : ∀ o o', w.heap.size + 1 + 1 = ((w.alloc o).alloc o').heap.size := fun o o' => by simp
  refine ⟨arr_old (arr_old (arr_new rfl fun j hj => ?_)), ?_, ?_, (((Below.refl _ _).alloc (by simp) _).alloc (by simp) _).alloc (by simp; omega) _⟩
  · replace hj : j < 8 := hj
    have : j = 0 ∨ j = 1 ∨ j = 2 ∨ j = 3 ∨ j = 4 ∨ j = 5 ∨ j = 6 ∨ j = 7 := by omega
    rcases this with rfl | rfl | rfl | rfl | rfl | rfl | rfl | rfl <;> rfl
  · rw [e1]; exact arr_old (arr_new (by simp [zeros]) (h8 8))
  · rw [e2]; exact arr_new (by simp [zeros]) fun j hj => by rw [h8 64 j hj]; simp [wF]

theorem rround_eq (x : BitVec 32) (n : Int) (w : World) (hn : 1 ≤ n) (hn' : n ≤ 31) :
    Calls Tryd.prog 78 #[V32 x, .int .i64 n] w fun e w' => e = .returned (V32 (Sha.rot x n.toNat)) ∧ w = w' :=
  (rround_any x n w hn hn').mono fun _ _ ⟨h1, h2⟩ => ⟨h1, h2.symm⟩
def At4 (w : World) (r : Sha.Reg) (p : Nat → UInt8) (i : Value) (wr : World) : Prop := ∃ k : Nat, k ≤ 64 ∧ i = .int .i64 k ∧ Sched w wr r p k
/-- In the midst of the t-th word. -/
def In4 (w : World) (r : Sha.Reg) (p : Nat → UInt8) (t : Nat) (i : Value) (wr : World) : Prop :=
  ∃ k : Nat, k ≤ 4 ∧ i = .int .i64 k ∧ Arr wr w.heap.size 8 (regF r) ∧ Arr wr (w.heap.size + 1) 8 (fun _ => V32 0) ∧
    Arr wr (w.heap.size + 1 + 1) 64 (fun j => if j = t then V32 (part (fun i => p (4 * t + i)) k) else wF p t j) ∧ Below w.heap.size w wr
/-- The rounds: the register of 8 words at block g, the schedule behind them. -/
structure Loop3 (w wr : World) (g : Nat) (r : Sha.Reg) (p : Nat → UInt8) (q : Sha.Reg) : Prop where
  reg : ∃ t, wr.heap[g]? = some (.cells (q.list.map V32).toArray t (0, 0))
  sch : Sched w wr r p 64
  gt : w.heap.size + 1 + 1 < g
def At5 (w : World) (g : Nat) (r : Sha.Reg) (p : Nat → UInt8) (i : Value) (wr : World) : Prop := ∃ k : Nat, k ≤ 64 ∧ i = .int .i64 k ∧ Loop3 w wr g r p (Sha.rounds p r k)
theorem Loop3.drewN {w wr : World} {g n : Nat} {r q : Sha.Reg} {p : Nat → UInt8} (h : Loop3 w wr g r p q) : Loop3 w (wr.drewN n) g r p q := ⟨h.reg, h.sch.drewN, h.gt⟩
theorem Sched.grown {w wr w' : World} {r : Sha.Reg} {p : Nat → UInt8} {k g : Nat} (S : Sched w wr r p k) (hg : wr.grownBy w' (some g)) (h : w.heap.size + 1 + 1 < g) : Sched w w' r p k :=
  ⟨S.reg.grown hg (by omega), S.out.grown hg (by omega), S.arr.grown hg (by omega), S.low.grown hg S.low.size (fun k hk => by obtain rfl := Option.some.inj hk; omega)⟩
/-- The words of q, the first k of them with those of r added. -/
def addF (r q : Sha.Reg) (k j : Nat) : Value := V32 (if j < k then q.list.getD j 0 + r.list.getD j 0 else q.list.getD j 0)
def At6 (w : World) (g : Nat) (r : Sha.Reg) (p : Nat → UInt8) (i : Value) (wr : World) : Prop :=
  ∃ k : Nat, k ≤ 8 ∧ i = .int .i64 k ∧ Arr wr g 8 (addF r (Sha.rounds p r 64) k) ∧ Sched w wr r p 64 ∧ w.heap.size + 1 + 1 < g
theorem At6.start {w wr : World} {g : Nat} {r : Sha.Reg} {p : Nat → UInt8} (h : Loop3 w wr g r p (Sha.rounds p r 64)) : At6 w g r p (.int .i64 0) wr := by
  obtain ⟨⟨t, hr⟩, hs, hg⟩ := h
  refine ⟨0, by omega, rfl, ⟨_, t, hr, rfl, fun j hj => ?_⟩, hs, hg⟩
  have : j = 0 ∨ j = 1 ∨ j = 2 ∨ j = 3 ∨ j = 4 ∨ j = 5 ∨ j = 6 ∨ j = 7 := by omega
  rcases this with rfl | rfl | rfl | rfl | rfl | rfl | rfl | rfl <;> rfl
theorem At6.next {w wr : World} {g k : Nat} {r : Sha.Reg} {p : Nat → UInt8} (hk : k < 8) (h : Arr wr g 8 (addF r (Sha.rounds p r 64) k)) (hs : Sched w wr r p 64) (hg : w.heap.size + 1 + 1 < g) :
    At6 w g r p (.int .i64 ((k : Int) + 1)) (wr.setCell ⟨g, k, none⟩ (V32 ((Sha.rounds p r 64).list.getD k 0 + r.list.getD k 0))).drew :=
  ⟨k + 1, by omega, by go_num, (h.set k _ hk).ext fun j _ => by
    unfold addF
    by_cases e : j = k
    · subst e; simp
    · rw [if_neg e]
      by_cases e2 : j < k
      · rw [if_pos e2, if_pos (by omega)]
      · rw [if_neg e2, if_neg (by omega)], (hs.grown (grownBy_setCell _ _ _ _) hg).drew, hg⟩
theorem At6.done {wr : World} {g : Nat} {r : Sha.Reg} {p : Nat → UInt8} (h : Arr wr g 8 (addF r (Sha.rounds p r 64) 8)) : ∃ t, wr.heap[g]? = some (.cells ((Sha.turn r p).list.map V32).toArray t (0, 0)) := by
  refine h.row _ rfl fun j hj => ?_
  have : j = 0 ∨ j = 1 ∨ j = 2 ∨ j = 3 ∨ j = 4 ∨ j = 5 ∨ j = 6 ∨ j = 7 := by omega
  rcases this with rfl | rfl | rfl | rfl | rfl | rfl | rfl | rfl <;> (simp only [addF, Sha.turn, Sha.Reg.add, Sha.Reg.list]; simp [BitVec.add_comm])
theorem reg_one (q : Sha.Reg) : (q.list.map V32).toArray.all (·.oneCell') = true := by simp [Sha.Reg.list, V32, Value.oneCell']
theorem reg_row {w : World} {b : Nat} {q : Sha.Reg} {t : TypeId} {fr : Nat × Nat} (h : w.heap[b]? = some (.cells (q.list.map V32).toArray t fr)) :
    w.cell? ⟨b, 0, none⟩ = some (V32 q.a) ∧ w.cell? ⟨b, 1, none⟩ = some (V32 q.b) ∧ w.cell? ⟨b, 2, none⟩ = some (V32 q.c) ∧ w.cell? ⟨b, 3, none⟩ = some (V32 q.d) ∧
    w.cell? ⟨b, 4, none⟩ = some (V32 q.e) ∧ w.cell? ⟨b, 5, none⟩ = some (V32 q.f) ∧ w.cell? ⟨b, 6, none⟩ = some (V32 q.g) ∧ w.cell? ⟨b, 7, none⟩ = some (V32 q.h) :=
  ⟨cell_block h rfl, cell_block h rfl, cell_block h rfl, cell_block h rfl, cell_block h rfl, cell_block h rfl, cell_block h rfl, cell_block h rfl⟩
theorem In4.start {w wr : World} {r : Sha.Reg} {p : Nat → UInt8} {t : Nat} (S : Sched w wr r p t) : In4 w r p t (.int .i64 0) wr :=
  ⟨0, by omega, rfl, S.reg, S.out, S.arr.ext fun j _ => by
    by_cases e : j = t
    · subst e; simp [wF, part]
    · rw [if_neg e], S.low⟩
theorem In4.next {w wr : World} {r : Sha.Reg} {p : Nat → UInt8} {t k : Nat} (ht : t < 64) (hk : k < 4) (h0 : Arr wr w.heap.size 8 (regF r)) (h1 : Arr wr (w.heap.size + 1) 8 (fun _ => V32 0))
    (h2 : Arr wr (w.heap.size + 1 + 1) 64 (fun j => if j = t then V32 (part (fun i => p (4 * t + i)) k) else wF p t j)) (hB : Below w.heap.size w wr) :
    In4 w r p t (.int .i64 ((k : Int) + 1)) (wr.setCell ⟨w.heap.size + 1 + 1, t, none⟩ (V32 (part (fun i => p (4 * t + i)) k * 256#32 + BitVec.setWidth 32 (p (4 * t + k)).toBitVec))).drew :=
  ⟨k + 1, by omega, by go_num, h0.other _ _ (by show w.heap.size + 1 + 1 ≠ _; omega), h1.other _ _ (by show w.heap.size + 1 + 1 ≠ _; omega), (h2.set t _ ht).ext fun j _ => by
    by_cases e : j = t
    · subst e; simp [part]
    · simp only [if_neg e], (hB.setCell (by show w.heap.size ≤ w.heap.size + 1 + 1; omega) _).drew⟩
theorem In4.done {w wr : World} {r : Sha.Reg} {p : Nat → UInt8} {t : Nat} (ht : t < 16) (h0 : Arr wr w.heap.size 8 (regF r)) (h1 : Arr wr (w.heap.size + 1) 8 (fun _ => V32 0))
    (h2 : Arr wr (w.heap.size + 1 + 1) 64 (fun j => if j = t then V32 (part (fun i => p (4 * t + i)) 4) else wF p t j)) (hB : Below w.heap.size w wr) : Sched w wr r p (t + 1) :=
  ⟨h0, h1, h2.ext fun j _ => by
    by_cases e : j = t
    · subst e
      rw [if_pos rfl, part_word]
      unfold wF
      rw [if_pos (by omega), Sha.sched_lt p j ht]
      rfl
    · rw [if_neg e]
      unfold wF
      by_cases e2 : j < t
      · rw [if_pos e2, if_pos (by omega)]
      · rw [if_neg e2, if_neg (by omega)], hB⟩

set_option maxRecDepth 100000 in
set_option maxHeartbeats 4000000 in
theorem rturn_any (r : Sha.Reg) (b o n c at_ : Nat) (p : Nat → UInt8) (w : World) (hn : at_ + 64 ≤ n) (hn2 : n ≤ 4611686018427387904) (hb : b < w.heap.size) (hp : ∀ j, j < 64 → w.cell? ⟨b, o + (at_ + j), none⟩ = some (V8 (p j)))
    (hR0 : 2 < w.heap.size) (hR : ∀ j, j < 64 → w.cell? ⟨2, j, none⟩ = some (V32 (Sha.root j))) :
    Calls Tryd.prog 77 #[regV r, .slice (some ⟨b, o, none⟩) n c, .int .i64 at_] w fun e w' =>
      e = .returned (regV (Sha.turn r p)) ∧ Below w.heap.size w w' := by
  have hp' := Lib.hid hp
  have hR' := Lib.hid hR
  clear hp hR
  go_enter Tryd.func77, Tryd.ntmps77
  go_wp2
  go_loopw [8, 9, 10, 11, 12, 13] (fun i _ _ _ _ _ wr => At4 w r p i wr) (fun i _ _ _ _ _ _ => 64 - (intOf i).toNat)
  case atStart => exact ⟨0, by omega, rfl, sched_start2 _ _ _ w r p⟩
  case round =>
    obtain ⟨t, ht, rfl, S⟩ := hrel
    by_cases hlt : t < 64
    · by_cases h16 : t < 16
      · have S2 := Lib.hid S
        clear S
        have hj1 : (t : Int) < 64 := by omega
        have hj2 : (t : Int) < 16 := by omega
        go_wp2
        go_loopw [9] (fun i wr => In4 w r p t i wr) (fun i _ => 4 - (intOf i).toNat)
        case atStart => exact In4.start S2.out
        case round =>
          clear S2
          obtain ⟨k, hk, rfl, A0, A1, A2, B⟩ := hrel
          by_cases hk4 : k < 4
          · have d0 := A2.cell t (by omega)
            rw [if_pos rfl] at d0
            have d1 := A2.frozen t
            have hi0 : (0 : Int) ≤ (t : Int) := by omega
            have w0 : IntKind.i64.wrap (4 * (t : Int)) = 4 * t := IntWalk.i64_in _ (by omega)
            have w1 : IntKind.i64.wrap ((at_ : Int) + 4 * (t : Int)) = at_ + 4 * t := IntWalk.i64_in _ (by omega)
            have w2 : IntKind.i64.wrap ((at_ : Int) + 4 * (t : Int) + k) = at_ + 4 * t + k := IntWalk.i64_in _ (by omega)
            have n0 : ((at_ : Int) + 4 * (t : Int) + k).toNat = at_ + 4 * t + k := by omega
            have a0 : (0 : Int) ≤ (at_ : Int) + 4 * (t : Int) + k := by omega
            have b0 : (at_ : Int) + 4 * (t : Int) + k < (n : Int) := by omega
            have c0 := (B.cell (p := ⟨b, o + (at_ + 4 * t + k), none⟩) hb).trans (show w.cell? ⟨b, o + (at_ + 4 * t + k), none⟩ = some (V8 (p (4 * t + k))) by rw [Nat.add_assoc at_]; exact hp'.out (4 * t + k) (by omega))
            have a2 := Lib.hid A2
            have a1 := Lib.hid A1
            have a3 := Lib.hid A0
            clear A0 A1 A2
            go_wp2
            go_still_tail 17, (by kernel_rfl)
            change wpList _ _ _ _ _ wr.drew
            go_wp2
            go_roundw
            case rel =>
              exact In4.next hlt hk4 a3.out a1.out a2.out B
            case measure => simp [intOf]; omega
          · obtain rfl : k = 4 := by omega
            have S3 := Lib.hid (In4.done h16 A0 A1 A2 B)
            clear A0 A1 A2 B
            go_wp2
            go_roundw
            case rel => exact ⟨t + 1, by omega, by go_num, S3.out⟩
            case measure => simp [intOf]; omega
      · have c15 := (S.arr.cell (t - 15) (by omega)).trans (congrArg some (wF_at p t (t - 15) (by omega)))
        have c2 := (S.arr.cell (t - 2) (by omega)).trans (congrArg some (wF_at p t (t - 2) (by omega)))
        have c16 := (S.arr.cell (t - 16) (by omega)).trans (congrArg some (wF_at p t (t - 16) (by omega)))
        have c7 := (S.arr.cell (t - 7) (by omega)).trans (congrArg some (wF_at p t (t - 7) (by omega)))
        have d0 := S.arr.cell t (by omega)
        have d1 := S.arr.frozen t
        have n15 : ((t : Int) - 15).toNat = t - 15 := by omega
        have n2 : ((t : Int) - 2).toNat = t - 2 := by omega
        have n16 : ((t : Int) - 16).toNat = t - 16 := by omega
        have n7 : ((t : Int) - 7).toNat = t - 7 := by omega
        have z15 : (15 : Int) ≤ (t : Int) := by omega
        have z2 : (2 : Int) ≤ (t : Int) := by omega
        have z16 : (16 : Int) ≤ (t : Int) := by omega
        have z7 : (7 : Int) ≤ (t : Int) := by omega
        have y15 : (t : Int) - 15 < 64 := by omega
        have y2 : (t : Int) - 2 < 64 := by omega
        have y16 : (t : Int) - 16 < 64 := by omega
        have y7 : (t : Int) - 7 < 64 := by omega
        have w15 : IntKind.i64.wrap ((t : Int) - 15) = t - 15 := IntWalk.i64_in _ (by omega)
        have w2 : IntKind.i64.wrap ((t : Int) - 2) = t - 2 := IntWalk.i64_in _ (by omega)
        have w16 : IntKind.i64.wrap ((t : Int) - 16) = t - 16 := IntWalk.i64_in _ (by omega)
        have w7 : IntKind.i64.wrap ((t : Int) - 7) = t - 7 := IntWalk.i64_in _ (by omega)
        have hi1 : (t : Int) < 64 := by omega
        have hi0 : (0 : Int) ≤ (t : Int) := by omega
        have hi2 : ¬ (t : Int) < 16 := by omega
        have S2 := Lib.hid S
        clear S
        go_wp2_with (go_at_call 78; refine (rround_eq _ _ _ (by omega) (by omega)).mono ?_; rintro e w' ⟨rfl, rfl⟩)
        go_still_tail 15, (by kernel_rfl)
        change wpList _ _ _ _ _ wr.drew
        go_wp2
        go_roundw
        case rel => exact ⟨t + 1, by omega, by go_num, (S2.out.next (by omega) _ (sched_hi p t (by omega))).drew⟩
        case measure => simp [intOf]; omega
    · obtain rfl : t = 64 := by omega
      rw [show ((64 : Nat) : Int) = 64 from rfl]
      have r0 : wr.cell? ⟨w.heap.size, 0, none⟩ = some (V32 r.a) := S.reg.cell 0 (by omega)
      have r1 : wr.cell? ⟨w.heap.size, 1, none⟩ = some (V32 r.b) := S.reg.cell 1 (by omega)
      have r2 : wr.cell? ⟨w.heap.size, 2, none⟩ = some (V32 r.c) := S.reg.cell 2 (by omega)
      have r3 : wr.cell? ⟨w.heap.size, 3, none⟩ = some (V32 r.d) := S.reg.cell 3 (by omega)
      have r4 : wr.cell? ⟨w.heap.size, 4, none⟩ = some (V32 r.e) := S.reg.cell 4 (by omega)
      have r5 : wr.cell? ⟨w.heap.size, 5, none⟩ = some (V32 r.f) := S.reg.cell 5 (by omega)
      have r6 : wr.cell? ⟨w.heap.size, 6, none⟩ = some (V32 r.g) := S.reg.cell 6 (by omega)
      have r7 : wr.cell? ⟨w.heap.size, 7, none⟩ = some (V32 r.h) := S.reg.cell 7 (by omega)
      have S2 := Lib.hid S
      clear S
      go_wp2
      have L0 : Loop3 w (wr.alloc (.cells (r.list.map V32).toArray 86)) wr.heap.size r p r :=
        ⟨⟨_, heap_alloc_new _ _⟩, ⟨arr_old S2.out.reg, arr_old S2.out.out, arr_old S2.out.arr, S2.out.low.alloc S2.out.low.size _⟩, S2.out.arr.size⟩
      have L1 := Lib.hid L0
      clear L0
      obtain ⟨g, hg⟩ : ∃ g, g = wr.heap.size := ⟨_, rfl⟩
      rw [← hg] at L1 ⊢
      clear hg S2 r0 r1 r2 r3 r4 r5 r6 r7
      go_loopw [15, 16, 17, 18, 19, 20, 21] (fun i _ _ _ _ _ _ wr => At5 w g r p i wr) (fun i _ _ _ _ _ _ _ => 64 - (intOf i).toNat)
      case atStart => exact ⟨0, by omega, rfl, L1.out⟩
      case round =>
        clear L1
        obtain ⟨k, hk, rfl, L⟩ := hrel
        by_cases hlt : k < 64
        · obtain ⟨tt, hreg⟩ := L.reg
          obtain ⟨r0, r1, r2, r3, r4, r5, r6, r7⟩ := reg_row hreg
          have hi0 : (0 : Int) ≤ (k : Int) := by omega
          have hi1 : (k : Int) < 64 := by omega
          have c1 := (L.sch.arr.cell k (by omega)).trans (congrArg some (wF_at p 64 k (by omega)))
          have c2 := (L.sch.low.cell (p := ⟨2, k, none⟩) hR0).trans (hR'.out k (by omega))
          have L' := Lib.hid L
          have Hreg := Lib.hid hreg
          clear L hreg
          go_wp2
          go_quiet (fail)
          go_wp2
          have L2 := L'.out.drewN (n := nq)
          clear r0 r1 r2 r3 r4 r5 r6 r7 c1 c2 Hreg L'
          generalize wr.drewN nq = wq at L2 ⊢
          obtain ⟨tt, hreg⟩ := L2.reg
          obtain ⟨r0, r1, r2, r3, r4, r5, r6, r7⟩ := reg_row hreg
          have c1 := (L2.sch.arr.cell k (by omega)).trans (congrArg some (wF_at p 64 k (by omega)))
          have c2 := (L2.sch.low.cell (p := ⟨2, k, none⟩) hR0).trans (hR'.out k (by omega))
          have L' := Lib.hid L2
          have Hreg := Lib.hid hreg
          clear L2 hreg
          go_quiet ((go_at_call 78; exact Calls.quiet_of_same (rround_any _ _ _ (by omega) (by omega))))
          go_wp2_with (first | (go_at_call 78; refine (rround_eq _ _ _ (by omega) (by omega)).mono ?_; rintro e w' ⟨rfl, rfl⟩) | (refine wpList_store_row' rfl 86 _ _ rfl g ((Sha.rounds p r (k + 1)).list.map V32).toArray rfl rfl tt _ Hreg.out (by kernel_rfl) rfl (reg_one _) ?_; intro w5 h5 g5 s5; have H5 := Lib.hid h5; have G5 := Lib.hid g5; clear h5 g5 s5))
          go_roundw
          case rel => exact ⟨k + 1, by omega, by go_num, ⟨⟨tt, H5.out⟩, (L'.out.drewN (n := nq)).sch.grown G5.out L'.out.gt, L'.out.gt⟩⟩
          case measure => simp [intOf]; omega
        · obtain rfl : k = 64 := by omega
          rw [show ((64 : Nat) : Int) = 64 from rfl]
          have L2 := Lib.hid (At6.start L)
          clear L
          go_wp2
          go_loopw [22] (fun i wr => At6 w g r p i wr) (fun i _ => 8 - (intOf i).toNat)
          case atStart => exact L2.out
          case round =>
            clear L2
            obtain ⟨k, hk, rfl, A, S, hg⟩ := hrel
            by_cases hlt : k < 8
            · have c0 := A.cell k (by omega)
              have e0 : addF r (Sha.rounds p r 64) k k = V32 ((Sha.rounds p r 64).list.getD k 0) := by simp [addF]
              rw [e0] at c0
              have c1 : wr.cell? ⟨w.heap.size, k, none⟩ = some (V32 (r.list.getD k 0)) := S.reg.cell k (by omega)
              have f0 := A.frozen k
              have hi0 : (0 : Int) ≤ (k : Int) := by omega
              have hi1 : (k : Int) < 8 := by omega
              have Q := Lib.hid (At6.next hlt A S hg)
              clear A S hg e0
              go_wp2
              go_still_tail 9, (by kernel_rfl)
              change wpList _ _ _ _ _ wr.drew
              go_wp2
              go_roundw
              case rel => simpa using Q.out
              case measure => simp [intOf]; omega
            · obtain rfl : k = 8 := by omega
              obtain ⟨t8, h8⟩ := At6.done A
              obtain ⟨old, t', ho, hos, _⟩ := S.out
              have H8 := Lib.hid h8
              have HO := Lib.hid ho
              have HS := Lib.hid hos
              have S3 := Lib.hid S
              clear A S h8 ho hos
              go_wp2_with (first | (refine wpList_load_row rfl 86 _ rfl g rfl t8 _ (0, 0) _ H8.out Tryd.underlying86 rfl (by kernel_rfl) ?_) | (refine wpList_store_row rfl 86 _ _ rfl (w.heap.size + 1) _ rfl rfl t' old HO.out (by kernel_rfl) HS.out (reg_one _) ?_))
              refine bodyPost_ret (results_cell_row rfl _ _ (w.heap.size + 1) t' _ (0, 0) _ rfl (setRow_heap _ _ _ _ _ _ HO.out) Tryd.underlying86 rfl (by kernel_rfl)) rfl ⟨rfl, ?_⟩
              exact Go.Proofs.YtpdhgijeanbmcaaDoor.below_setRow S3.out.low (by omega) _
end Go.Proofs.YtpdhgijeanbmcaaDoor
