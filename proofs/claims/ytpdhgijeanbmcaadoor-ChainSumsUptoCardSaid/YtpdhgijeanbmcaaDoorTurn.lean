import Derived.Test.YtpdhgijeanbmcaaDoorProg
import Derived.Test.YtpdhgijeanbmcaaDoorBase
import Derived.Test.YtpdhgijeanbmcaaDoorSha
import Derived.Deep.QuietTactic
import Derived.BigQuiet
import Derived.Lib.Hide
import Derived.StillTailTactics
namespace Go.Proofs.YtpdhgijeanbmcaaDoor
open Go.RowKit
theorem round_any (x : BitVec 32) (n : Int) (w : World) (hn : 1 ≤ n) (hn' : n ≤ 31) :
    Calls Tryd.prog 76 #[V32 x, .int .u64 n] w fun e w' => e = .returned (V32 (Sha.rot x n.toNat)) ∧ w' = w := by
  have h0 : 0 ≤ n := by omega
  have h1 : n ≤ 32 := by omega
  have h2 : 0 ≤ 32 - n := by omega
  have h3 : 32 - n ≤ 32 := by omega
  go_enter Tryd.func76, Tryd.ntmps76
  go_wp2
  go_ret
  refine ⟨?_, rfl⟩
  simp only [Sha.rot]
  rw [show (32 - n).toNat = 32 - n.toNat from by omega]
  rfl

/-- Block b is n cells, not frozen, whose j-th holds f j. -/
def Arr (w : World) (b n : Nat) (f : Nat → Value) : Prop :=
  ∃ cs t, w.heap[b]? = some (.cells cs t (0, 0)) ∧ cs.size = n ∧ ∀ j, j < n → cs[j]? = some (f j)
theorem Arr.cell {w : World} {b n : Nat} {f : Nat → Value} (h : Arr w b n f) (j : Nat) (hj : j < n) : w.cell? ⟨b, j, none⟩ = some (f j) := by
  obtain ⟨cs, t, hb, _, hc⟩ := h
  simp [World.cell?, hb, hc j hj]
theorem Arr.frozen {w : World} {b n : Nat} {f : Nat → Value} (h : Arr w b n f) (j : Nat) : w.frozen? ⟨b, j, none⟩ = false := by
  obtain ⟨cs, t, hb, _, hc⟩ := h
  simp [World.frozen?, hb]
theorem Arr.size {w : World} {b n : Nat} {f : Nat → Value} (h : Arr w b n f) : b < w.heap.size := by
  obtain ⟨cs, t, hb, _, hc⟩ := h
  exact (Array.getElem?_eq_some_iff.1 hb).1
theorem Arr.ext {w : World} {b n : Nat} {f g : Nat → Value} (h : Arr w b n f) (hg : ∀ j, j < n → f j = g j) : Arr w b n g := by
  obtain ⟨cs, t, hb, hs, hc⟩ := h
  exact ⟨cs, t, hb, hs, fun j hj => by rw [hc j hj, hg j hj]⟩
theorem Arr.set {w : World} {b n : Nat} {f : Nat → Value} (h : Arr w b n f) (i : Nat) (v : Value) (hi : i < n) : Arr (w.setCell ⟨b, i, none⟩ v) b n (fun j => if j = i then v else f j) := by
  obtain ⟨cs, t, hb, hs, hc⟩ := h
  refine ⟨cs.setIfInBounds i v, t, ?_, by simpa using hs, fun j hj => ?_⟩
  · simp [World.setCell, Array.getElem?_modify, hb]
  · rw [Array.getElem?_setIfInBounds]
    by_cases e : i = j
    · subst e; simp [hs, hi]
    · rw [if_neg e, hc j hj]; simp [Ne.symm e]
theorem Arr.other {w : World} {b n : Nat} {f : Nat → Value} (h : Arr w b n f) (a : Addr) (v : Value) (hb : a.block ≠ b) : Arr (w.setCell a v) b n f := by
  obtain ⟨cs, t, hh, r⟩ := h
  exact ⟨cs, t, by rw [Below.heap_setCell _ _ _ _ (by omega)]; exact hh, r⟩
theorem Arr.drew {w : World} {b n : Nat} {f : Nat → Value} (h : Arr w b n f) : Arr w.drew b n f := h
theorem Arr.below {w w' : World} {b n B : Nat} {f : Nat → Value} (h : Arr w b n f) (hw : Below B w w') (hb : b < B) : Arr w' b n f := by
  obtain ⟨cs, t, hh, r⟩ := h
  exact ⟨cs, t, by rw [hw.block b hb]; exact hh, r⟩

abbrev regV (q : Sha.Reg) : Value := .agg #[V32 q.a, V32 q.b, V32 q.c, V32 q.d, V32 q.e, V32 q.f, V32 q.g, V32 q.h]
theorem below_setRow {B : Nat} {a w : World} (h : Below B a w) {g : Nat} (hp : B ≤ g) (cs : Array Value) : Below B a (w.setRow g cs) :=
  h.trans ⟨rfl, rfl, rfl, by simp, fun k hk => setRow_other _ _ _ _ (by omega)⟩
def regF (r : Sha.Reg) (j : Nat) : Value := V32 (r.list.getD j 0)
def wF (p : Nat → UInt8) (k j : Nat) : Value := V32 (if j < k then Sha.sched p j else 0)

theorem arr_new {w : World} {cs : Array Value} {t : TypeId} {f : Nat → Value} {n : Nat} (hn : cs.size = n) (hf : ∀ j, j < n → cs[j]? = some (f j)) : Arr (w.alloc (.cells cs t)) w.heap.size n f :=
  ⟨cs, t, heap_alloc_new _ _, hn, hf⟩
theorem arr_old {w : World} {o : Obj} {b n : Nat} {f : Nat → Value} (h : Arr w b n f) : Arr (w.alloc o) b n f := by
  have hs := h.size
  obtain ⟨cs, t, hh, r⟩ := h
  exact ⟨cs, t, by rw [heap_alloc_old _ _ hs]; exact hh, r⟩

/-- What the three arrays hold while the schedule is made. -/
structure Sched (w wr : World) (r : Sha.Reg) (p : Nat → UInt8) (k : Nat) : Prop where
  reg : Arr wr w.heap.size 8 (regF r)
  out : Arr wr (w.heap.size + 1) 8 (fun _ => V32 0)
  arr : Arr wr (w.heap.size + 1 + 1) 64 (wF p k)
  low : Below w.heap.size w wr

theorem Sched.next {w wr : World} {r : Sha.Reg} {p : Nat → UInt8} {k : Nat} (h : Sched w wr r p k) (hk : k < 64) (x : BitVec 32) (hx : x = Sha.sched p k) :
    Sched w (wr.setCell ⟨w.heap.size + 1 + 1, k, none⟩ (V32 x)) r p (k + 1) := by
  subst hx
  refine ⟨h.reg.other _ _ (by show w.heap.size + 1 + 1 ≠ _; omega), h.out.other _ _ (by show w.heap.size + 1 + 1 ≠ _; omega), (h.arr.set k _ hk).ext fun j hj => ?_, h.low.setCell (by simp; omega) _⟩
  unfold wF
  by_cases e : j = k
  · subst e; simp
  · rw [if_neg e]
    by_cases e2 : j < k
    · rw [if_pos e2, if_pos (by omega)]
    · rw [if_neg e2, if_neg (by omega)]
theorem Sched.drew {w wr : World} {r : Sha.Reg} {p : Nat → UInt8} {k : Nat} (h : Sched w wr r p k) : Sched w wr.drew r p k := ⟨h.reg, h.out, h.arr, h.low.drew⟩
theorem Sched.drewN {w wr : World} {r : Sha.Reg} {p : Nat → UInt8} {k n : Nat} (h : Sched w wr r p k) : Sched w (wr.drewN n) r p k :=
  ⟨h.reg, h.out, h.arr, ⟨h.low.os, h.low.tape, h.low.output, h.low.size, h.low.block⟩⟩

def zeros (n : Nat) : Array Value := (List.replicate n (V32 0)).toArray
theorem sched_start (w : World) (r : Sha.Reg) (p : Nat → UInt8) :
    Sched w (((w.alloc (.cells (r.list.map V32).toArray 92)).alloc (.cells (zeros 8) 92)).alloc (.cells (zeros 64) 98)) r p 0 := by
  have h8 : ∀ n j, j < n → (zeros n)[j]? = some (V32 0) := fun n j hj => by simp [zeros, hj]
  have e1 : ∀ o, w.heap.size + 1 = (w.alloc o).heap.size := fun o => by simp
  have e2 : ∀ o o', w.heap.size + 1 + 1 = ((w.alloc o).alloc o').heap.size := fun o o' => by simp
  refine ⟨arr_old (arr_old (arr_new rfl fun j hj => ?_)), ?_, ?_, (((Below.refl _ _).alloc (by simp) _).alloc (by simp) _).alloc (by simp; omega) _⟩
  · replace hj : j < 8 := hj
    have : j = 0 ∨ j = 1 ∨ j = 2 ∨ j = 3 ∨ j = 4 ∨ j = 5 ∨ j = 6 ∨ j = 7 := by omega
    rcases this with rfl | rfl | rfl | rfl | rfl | rfl | rfl | rfl <;> rfl
  · rw [e1]; exact arr_old (arr_new (by simp [zeros]) (h8 8))
  · rw [e2]; exact arr_new (by simp [zeros]) fun j hj => by rw [h8 64 j hj]; simp [wF]

def At1 (w : World) (r : Sha.Reg) (p : Nat → UInt8) (m : Nat) (i : Value) (wr : World) : Prop := ∃ k : Nat, k ≤ m ∧ i = .int .i64 k ∧ Sched w wr r p k
def At2 (w : World) (r : Sha.Reg) (p : Nat → UInt8) (i : Value) (wr : World) : Prop := ∃ k : Nat, 16 ≤ k ∧ k ≤ 64 ∧ i = .int .i64 k ∧ Sched w wr r p k

theorem sched_lo (p : Nat → UInt8) (k : Nat) (h : k < 16) : Sha.word (p (4 * k)) (p (4 * k + 1)) (p (4 * k + 2)) (p (4 * k + 3)) = Sha.sched p k := by
  rw [Sha.sched, dif_pos h]
theorem sched_hi (p : Nat → UInt8) (k : Nat) (h : 16 ≤ k) :
    Sha.sched p (k - 16) + (Sha.rot (Sha.sched p (k - 15)) 7 ^^^ Sha.rot (Sha.sched p (k - 15)) 18 ^^^ Sha.sched p (k - 15) >>> 3) + Sha.sched p (k - 7) +
      (Sha.rot (Sha.sched p (k - 2)) 17 ^^^ Sha.rot (Sha.sched p (k - 2)) 19 ^^^ Sha.sched p (k - 2) >>> 10) = Sha.sched p k := by
  conv => rhs; rw [Sha.sched, dif_neg (by omega)]
  rfl
structure RegIs (q : Sha.Reg) (a b c d e f g h : Value) : Prop where
  a : a = V32 q.a
  b : b = V32 q.b
  c : c = V32 q.c
  d : d = V32 q.d
  e : e = V32 q.e
  f : f = V32 q.f
  g : g = V32 q.g
  h : h = V32 q.h
def At3 (w : World) (r : Sha.Reg) (p : Nat → UInt8) (a b c d e f g h i : Value) (wr : World) : Prop :=
  ∃ k : Nat, k ≤ 64 ∧ i = .int .i64 k ∧ RegIs (Sha.rounds p r k) a b c d e f g h ∧ Sched w wr r p 64
theorem wF_at (p : Nat → UInt8) (k j : Nat) (h : j < k) : wF p k j = V32 (Sha.sched p j) := by unfold wF; rw [if_pos h]

set_option maxRecDepth 100000 in
set_option maxHeartbeats 4000000 in
theorem turn_any (r : Sha.Reg) (b o n c : Nat) (p : Nat → UInt8) (w : World) (hn : 64 ≤ n) (hb : b < w.heap.size) (hp : ∀ j, j < 64 → w.cell? ⟨b, o + j, none⟩ = some (V8 (p j)))
    (hR0 : 1 < w.heap.size) (hR : ∀ j, j < 64 → w.cell? ⟨1, j, none⟩ = some (V32 (Sha.root j))) :
    Calls Tryd.prog 70 #[.agg #[V32 r.a, V32 r.b, V32 r.c, V32 r.d, V32 r.e, V32 r.f, V32 r.g, V32 r.h], .slice (some ⟨b, o, none⟩) n c] w fun e w' =>
      e = .returned (regV (Sha.turn r p)) ∧ Below w.heap.size w w' := by
  have hp' := Lib.hid hp
  have hR' := Lib.hid hR
  clear hp hR
  go_enter Tryd.func70, Tryd.ntmps70
  go_wp2
  go_loopw [6, 21] (fun _ i wr => At1 w r p 16 i wr)
    (fun _ i _ => 16 - (intOf i).toNat)
  case atStart =>
    exact ⟨0, by omega, rfl, sched_start w r p⟩
  case round =>
    obtain ⟨k, hk, rfl, S⟩ := hrel
    by_cases hlt : k < 16
    · have hi0 : (0 : Int) ≤ (k : Int) := by omega
      have hi1 : (k : Int) < 64 := by omega
      have n0 : (4 * (k : Int)).toNat = 4 * k := by omega
      have n1 : (4 * (k : Int) + 1).toNat = 4 * k + 1 := by omega
      have n2 : (4 * (k : Int) + 2).toNat = 4 * k + 2 := by omega
      have n3 : (4 * (k : Int) + 3).toNat = 4 * k + 3 := by omega
      have a0 : (0 : Int) ≤ 4 * (k : Int) := by omega
      have a1 : (0 : Int) ≤ 4 * (k : Int) + 1 := by omega
      have a2 : (0 : Int) ≤ 4 * (k : Int) + 2 := by omega
      have a3 : (0 : Int) ≤ 4 * (k : Int) + 3 := by omega
      have b0 : 4 * (k : Int) < (n : Int) := by omega
      have b1 : 4 * (k : Int) + 1 < (n : Int) := by omega
      have b2 : 4 * (k : Int) + 2 < (n : Int) := by omega
      have b3 : 4 * (k : Int) + 3 < (n : Int) := by omega
      have w0 : IntKind.i64.wrap (4 * (k : Int)) = 4 * k := IntWalk.i64_in _ (by omega)
      have w1 : IntKind.i64.wrap (4 * (k : Int) + 1) = 4 * k + 1 := IntWalk.i64_in _ (by omega)
      have w2 : IntKind.i64.wrap (4 * (k : Int) + 2) = 4 * k + 2 := IntWalk.i64_in _ (by omega)
      have w3 : IntKind.i64.wrap (4 * (k : Int) + 3) = 4 * k + 3 := IntWalk.i64_in _ (by omega)
      have c0 := (S.low.cell (p := ⟨b, o + 4 * k, none⟩) hb).trans (hp'.out (4 * k) (by omega))
      have c1 := (S.low.cell (p := ⟨b, o + (4 * k + 1), none⟩) hb).trans (hp'.out (4 * k + 1) (by omega))
      have c2 := (S.low.cell (p := ⟨b, o + (4 * k + 2), none⟩) hb).trans (hp'.out (4 * k + 2) (by omega))
      have c3 := (S.low.cell (p := ⟨b, o + (4 * k + 3), none⟩) hb).trans (hp'.out (4 * k + 3) (by omega))
      have d0 := S.arr.cell k (by omega)
      have d1 := S.arr.frozen k
      go_wp2
      go_still_tail 35, (by kernel_rfl)
      change wpList _ _ _ _ _ wr.drew
      go_wp2
      exact ⟨⟨k + 1, by omega, by go_num, (S.next (by omega) _ (sched_lo p k hlt)).drew⟩, by simp [intOf]; omega⟩
    · obtain rfl : k = 16 := by omega
      have S2 := Lib.hid S
      clear S
      rw [show ((16 : Nat) : Int) = 16 from rfl]
      go_wp2
      go_loopw [7, 8, 9] (fun i _ _ wr => At2 w r p i wr) (fun i _ _ _ => 64 - (intOf i).toNat)
      case atStart => exact ⟨16, by omega, by omega, rfl, S2.out⟩
      case round =>
        clear S2
        obtain ⟨k, hk0, hk, rfl, S⟩ := hrel
        by_cases hlt : k < 64
        · have c15 := (S.arr.cell (k - 15) (by omega)).trans (congrArg some (wF_at p k (k - 15) (by omega)))
          have c2 := (S.arr.cell (k - 2) (by omega)).trans (congrArg some (wF_at p k (k - 2) (by omega)))
          have c16 := (S.arr.cell (k - 16) (by omega)).trans (congrArg some (wF_at p k (k - 16) (by omega)))
          have c7 := (S.arr.cell (k - 7) (by omega)).trans (congrArg some (wF_at p k (k - 7) (by omega)))
          have d0 := S.arr.cell k (by omega)
          have d1 := S.arr.frozen k
          have n15 : ((k : Int) - 15).toNat = k - 15 := by omega
          have n2 : ((k : Int) - 2).toNat = k - 2 := by omega
          have n16 : ((k : Int) - 16).toNat = k - 16 := by omega
          have n7 : ((k : Int) - 7).toNat = k - 7 := by omega
          have z15 : (15 : Int) ≤ (k : Int) := by omega
          have z2 : (2 : Int) ≤ (k : Int) := by omega
          have z16 : (16 : Int) ≤ (k : Int) := by omega
          have z7 : (7 : Int) ≤ (k : Int) := by omega
          have y15 : (k : Int) - 15 < 64 := by omega
          have y2 : (k : Int) - 2 < 64 := by omega
          have y16 : (k : Int) - 16 < 64 := by omega
          have y7 : (k : Int) - 7 < 64 := by omega
          have w15 : IntKind.i64.wrap ((k : Int) - 15) = k - 15 := IntWalk.i64_in _ (by omega)
          have w2 : IntKind.i64.wrap ((k : Int) - 2) = k - 2 := IntWalk.i64_in _ (by omega)
          have w16 : IntKind.i64.wrap ((k : Int) - 16) = k - 16 := IntWalk.i64_in _ (by omega)
          have w7 : IntKind.i64.wrap ((k : Int) - 7) = k - 7 := IntWalk.i64_in _ (by omega)
          have hi1 : (k : Int) < 64 := by omega
          have hi0 : (0 : Int) ≤ (k : Int) := by omega
          go_wp2
          go_quiet (fail)
          go_wp2
          have S2 := S.drewN (n := nq)
          clear c15 c2 c16 c7 d0 d1 S
          generalize wr.drewN nq = wq at S2 ⊢
          have c16 := (S2.arr.cell (k - 16) (by omega)).trans (congrArg some (wF_at p k (k - 16) (by omega)))
          have c7 := (S2.arr.cell (k - 7) (by omega)).trans (congrArg some (wF_at p k (k - 7) (by omega)))
          have d0 := S2.arr.cell k (by omega)
          have d1 := S2.arr.frozen k
          refine wp_region_still_tail 29 (by kernel_rfl) (by kernel_rfl) ?_
          simp only [List.take_succ_cons, List.take_zero, List.drop_succ_cons, List.drop_zero]
          repeat (first | still_step | still_call (round_any _ _ _ (by omega) (by omega)))
          refine wpStill_nil ?_
          change wpList _ _ _ _ _ wq.drew
          go_wp2
          go_roundw
          case rel => exact ⟨k + 1, by omega, by omega, by go_num, (S2.next (by omega) _ (sched_hi p k hk0)).drew⟩
          case measure => simp [intOf]; omega
        · obtain rfl : k = 64 := by omega
          rw [show ((64 : Nat) : Int) = 64 from rfl]
          have r0 : wr.cell? ⟨w.heap.size, 0, none⟩ = some (V32 r.a) := S.reg.cell 0 (by omega)
          have r1 : wr.cell? ⟨w.heap.size, 1, none⟩ = some (V32 r.b) := S.reg.cell 1 (by omega)
          have r2 : wr.cell? ⟨w.heap.size, 2, none⟩ = some (V32 r.c) := S.reg.cell 2 (by omega)
          have r3 : wr.cell? ⟨w.heap.size, 3, none⟩ = some (V32 r.d) := S.reg.cell 3 (by omega)
          have r4 : wr.cell? ⟨w.heap.size, 4, none⟩ = some (V32 r.e) := S.reg.cell 4 (by omega)
          have r5 : wr.cell? ⟨w.heap.size, 5, none⟩ = some (V32 r.f) := S.reg.cell 5 (by omega)
          have r6 : wr.cell? ⟨w.heap.size, 6, none⟩ = some (V32 r.g) := S.reg.cell 6 (by omega)
          have r7 : wr.cell? ⟨w.heap.size, 7, none⟩ = some (V32 r.h) := S.reg.cell 7 (by omega)
          have S2 := Lib.hid S
          clear S
          go_wp2
          go_quiet (fail)
          go_wp2
          have S3 := Lib.hid (S2.out.drewN (n := nq))
          clear S2 r0 r1 r2 r3 r4 r5 r6 r7
          generalize wr.drewN nq = wq at S3 ⊢
          go_loopw [10, 11, 12, 13, 14, 15, 16, 17, 117] (fun a b c d e f g h i wr => At3 w r p a b c d e f g h i wr) (fun _ _ _ _ _ _ _ _ i _ => 64 - (intOf i).toNat)
          case atStart => exact ⟨0, by omega, rfl, ⟨rfl, rfl, rfl, rfl, rfl, rfl, rfl, rfl⟩, S3.out⟩
          case round =>
            clear S3
            obtain ⟨k, hk, rfl, ⟨rfl, rfl, rfl, rfl, rfl, rfl, rfl, rfl⟩, S⟩ := hrel
            by_cases hlt : k < 64
            · have hi0 : (0 : Int) ≤ (k : Int) := by omega
              have hi1 : (k : Int) < 64 := by omega
              have c1 := (S.arr.cell k (by omega)).trans (congrArg some (wF_at p 64 k (by omega)))
              have c2 := (S.low.cell (p := ⟨1, k, none⟩) hR0).trans (hR'.out k (by omega))
              go_wp2
              go_quiet ((go_at_call 76; exact Calls.quiet_of_same (round_any _ _ _ (by omega) (by omega))))
              go_wp2_with (go_at_call 76; refine (round_any _ _ _ (by omega) (by omega)).mono ?_; rintro e w' ⟨rfl, rfl⟩)
              go_roundw
              case rel => exact ⟨k + 1, by omega, by go_num, ⟨rfl, rfl, rfl, rfl, rfl, rfl, rfl, rfl⟩, S.drewN⟩
              case measure => simp [intOf]; omega
            · obtain rfl : k = 64 := by omega
              have r0 : wr.cell? ⟨w.heap.size, 0, none⟩ = some (V32 r.a) := S.reg.cell 0 (by omega)
              have r1 : wr.cell? ⟨w.heap.size, 1, none⟩ = some (V32 r.b) := S.reg.cell 1 (by omega)
              have r2 : wr.cell? ⟨w.heap.size, 2, none⟩ = some (V32 r.c) := S.reg.cell 2 (by omega)
              have r3 : wr.cell? ⟨w.heap.size, 3, none⟩ = some (V32 r.d) := S.reg.cell 3 (by omega)
              have r4 : wr.cell? ⟨w.heap.size, 4, none⟩ = some (V32 r.e) := S.reg.cell 4 (by omega)
              have r5 : wr.cell? ⟨w.heap.size, 5, none⟩ = some (V32 r.f) := S.reg.cell 5 (by omega)
              have r6 : wr.cell? ⟨w.heap.size, 6, none⟩ = some (V32 r.g) := S.reg.cell 6 (by omega)
              have r7 : wr.cell? ⟨w.heap.size, 7, none⟩ = some (V32 r.h) := S.reg.cell 7 (by omega)
              obtain ⟨old, t, hold, hsz, _⟩ := S.out
              have hold' := Lib.hid hold
              have hsz' := Lib.hid hsz
              have S4 := Lib.hid S
              clear hold hsz S
              go_wp2_with (refine wpList_store_row rfl 92 _ _ rfl (w.heap.size + 1) _ rfl rfl t old hold'.out (by kernel_rfl) hsz'.out (by kernel_rfl) ?_)

              refine bodyPost_ret (results_cell_row rfl _ _ (w.heap.size + 1) t _ (0, 0) _ rfl (setRow_heap _ _ _ _ _ _ hold'.out) Tryd.underlying92 rfl (by kernel_rfl)) rfl ⟨rfl, ?_⟩
              exact below_setRow S4.out.low (by omega) _
end Go.Proofs.YtpdhgijeanbmcaaDoor
