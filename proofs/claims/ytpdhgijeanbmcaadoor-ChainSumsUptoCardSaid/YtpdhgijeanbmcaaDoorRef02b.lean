/- Package wicketref02: Begin, blocks, Total, Sum. -/
import Derived.Test.YtpdhgijeanbmcaaDoorRef02
namespace Go.Proofs.YtpdhgijeanbmcaaDoor
open Go.RowKit

set_option maxRecDepth 100000 in
theorem rbegin_any (w : World) : Calls Tryd.prog 67 #[] w fun e w' => e = .returned (regV Sha.init) ∧ Below w.heap.size w w' := by
  go_enter Tryd.func67, Tryd.ntmps67
  go_wp2
  refine bodyPost_ret (v := regV Sha.init) ?_ rfl ⟨rfl, (Below.refl _ _).alloc (Nat.le_refl _) _⟩
  simp [results, Tryd.results67, go_sem]
  exact ⟨rfl, rfl, rfl, rfl, rfl, rfl, rfl, rfl⟩

theorem in_heap {w : World} {b : Nat} {o : Obj} (h : w.heap[b]? = some o) : b < w.heap.size := (Array.getElem?_eq_some_iff.1 h).1
theorem reg_size (q : Sha.Reg) : (q.list.map V32).toArray.size = 8 := rfl
theorem take_blocks (r : Sha.Reg) (l : List UInt8) (i : Nat) (h : 64 * i + 64 ≤ l.length) :
    Sha.turn (Sha.blocks r (l.take (64 * i))) (fun j => l.getD (64 * i + j) 0) = Sha.blocks r (l.take (64 * (i + 1))) := by
  have e : l.take (64 * (i + 1)) = l.take (64 * i) ++ (l.drop (64 * i)).take 64 := by rw [← List.take_add]; congr 1
  have h1 : (l.take (64 * i)).length = 64 * i := by simp; omega
  have h2 : ((l.drop (64 * i)).take 64).length = 64 := by simp; omega
  rw [e, Sha.blocks_last _ _ _ (by omega) h2]
  apply Sha.turn_congr
  intro j hj
  simp [List.getD, hj]
theorem all_blocks (r : Sha.Reg) (l : List UInt8) (i : Nat) (h : ¬ 64 * i + 64 ≤ l.length) (hi : 64 * i ≤ l.length) : Sha.blocks r (l.take (64 * i)) = Sha.blocks r l := by
  have e : l = l.take (64 * i) ++ l.drop (64 * i) := (List.take_append_drop _ _).symm
  conv => rhs; rw [e]
  rw [Sha.blocks_rest _ _ _ (by simp; omega) (by simp; omega)]

structure BRel (w : World) (r : Sha.Reg) (l : List UInt8) (i : Nat) (wr : World) : Prop where
  le : 64 * i ≤ l.length
  reg : ∃ t, wr.heap[w.heap.size]? = some (.cells ((Sha.blocks r (l.take (64 * i))).list.map V32).toArray t (0, 0))
  out : Arr wr (w.heap.size + 1) 8 (fun _ => V32 0)
  low : Below w.heap.size w wr
def BAt (w : World) (r : Sha.Reg) (l : List UInt8) (v : Value) (wr : World) : Prop := ∃ i : Nat, v = .int .i64 ((64 * i : Nat) : Int) ∧ BRel w r l i wr
theorem BAt.start (t1 t2 : TypeId) (w : World) (r : Sha.Reg) (l : List UInt8) : BAt w r l (.int .i64 0) ((w.alloc (.cells (r.list.map V32).toArray t1)).alloc (.cells (zeros 8) t2)) := by
  have e1 : ∀ o, w.heap.size + 1 = (w.alloc o).heap.size := fun o => by simp
  refine ⟨0, rfl, by omega, ⟨t1, ?_⟩, ?_, ((Below.refl _ _).alloc (Nat.le_refl _) _).alloc (by simp) _⟩
  · rw [Sha.blocks_short _ _ (by simp)]
    exact heap_alloc2_old _ _ _
  · rw [e1]
    exact arr_new (by simp [zeros]) fun j hj => by rw [zeros, List.getElem?_toArray, List.getElem?_replicate, if_pos hj]

set_option maxRecDepth 100000 in
set_option maxHeartbeats 4000000 in
theorem rblocks_any (r : Sha.Reg) (l : List UInt8) (a : Option Addr) (m c : Nat) (w : World) (hm : m = l.length) (hT : Tabs w) (S : Src w a c l) (hlen : l.length < 1152921504606846976) :
    Calls Tryd.prog 75 #[regV r, .slice a m c] w fun e w' => e = .returned (regV (Sha.blocks r l)) ∧ Below w.heap.size w w' := by
  have S' := Lib.hid S
  have Hm := Lib.hid hm
  have hml : m < 1152921504606846976 := by omega
  clear S hm
  go_enter Tryd.func75, Tryd.ntmps75
  go_wp2
  go_loopw [5] (fun i wr => BAt w r l i wr) (fun i _ => m + 1 - (intOf i).toNat)
  case atStart => exact BAt.start _ _ w r l
  case round =>
    obtain ⟨i, rfl, R⟩ := hrel
    obtain ⟨k, hk⟩ : ∃ k, k = 64 * i := ⟨_, rfl⟩
    rw [← hk]
    have hle := R.le
    have hkm : k ≤ m := by have := Hm.out; omega
    have R' := Lib.hid R
    have Hk := Lib.hid hk
    clear R hk hle
    by_cases hlt : (k : Int) + 64 ≤ (m : Int)
    · obtain ⟨b, o, rfl, hsrc⟩ := S'.out.at_.at_ (by have := Hm.out; omega)
      obtain ⟨t, hreg⟩ := R'.out.reg
      obtain ⟨r0, r1, r2, r3, r4, r5, r6, r7⟩ := reg_row hreg
      have Hreg := Lib.hid hreg
      have Hs := Lib.hid hsrc
      have hTr := hT.below R'.out.low
      have hbl : b < w.heap.size := S'.out.lt _ rfl
      have hbr : b < wr.heap.size := Nat.lt_of_lt_of_le hbl R'.out.low.size
      obtain ⟨p, hp⟩ : ∃ p : Nat → UInt8, p = fun j => l.getD (k + j) 0 := ⟨_, rfl⟩
      have hregw : w.heap.size < wr.heap.size := in_heap hreg
      have hsrc2 : ∀ j, j < 64 → wr.cell? ⟨b, o + (k + j), none⟩ = some (V8 (p j)) := fun j hj => by rw [hp]; exact (R'.out.low.cell (p := ⟨b, o + (k + j), none⟩) hbl).trans (hsrc (k + j) (by have := Hm.out; omega))
      have Hs2 := Lib.hid hsrc2
      have Hp := Lib.hid hp
      clear hreg hsrc hsrc2 hp
      go_wp2_with (first | (go_at_call 77; refine (rturn_any (Sha.blocks r (l.take (64 * i))) b o m c k p _ (by omega) (by omega) (by exact hbr) (by exact Hs2.out) (by exact hTr.size.2.2) (by exact hTr.rrootsAt)).mono ?_; rintro e w1 ⟨rfl, hB⟩; have HB := Lib.hid hB; clear hB) | (refine wpList_store_row' rfl 86 _ _ rfl w.heap.size ((Sha.turn (Sha.blocks r (l.take (64 * i))) p).list.map V32).toArray rfl rfl t _ ((HB.out.block _ hregw).trans Hreg.out) (by rw [reg_size]; kernel_rfl) ((reg_size _).trans (reg_size _).symm) (reg_one _) ?_; intro w5 h5 g5 s5; have H5 := Lib.hid h5; have G5 := Lib.hid g5; clear h5 g5 s5))
      go_roundw
      case rel =>
        refine ⟨i + 1, by rw [show ((64 * (i + 1) : Nat) : Int) = (k : Int) + 64 from by have := Hk.out; omega], by have := Hm.out; have := Hk.out; omega, ⟨t, ?_⟩, ?_, ?_⟩
        · rw [← take_blocks r l i (by have := Hm.out; have := Hk.out; omega), ← Hk.out, ← Hp.out]
          have := H5.out
          rw [← Hk.out] at this
          exact this
        · exact (R'.out.out.below HB.out R'.out.out.size).grown G5.out (by omega)
        · exact (R'.out.low.trans (HB.out.mono R'.out.low.size)).grown G5.out (Nat.le_trans R'.out.low.size HB.out.size) (fun k' hk' => by obtain rfl := Option.some.inj hk'; exact Nat.le_refl _)
      case measure => simp [intOf]; omega
    · have hR := R'.out.reg
      rw [all_blocks r l i (by have := Hm.out; have := Hk.out; omega) R'.out.le] at hR
      obtain ⟨t, hreg⟩ := hR
      obtain ⟨old, t', ho, hos, _⟩ := R'.out.out
      have H8 := Lib.hid hreg
      have HO := Lib.hid ho
      have HS := Lib.hid hos
      clear hreg ho hos
      go_wp2_with (first | (refine wpList_load_row rfl 86 _ rfl w.heap.size rfl t _ (0, 0) _ H8.out Tryd.underlying86 rfl (by kernel_rfl) ?_) | (refine wpList_store_row rfl 86 _ _ rfl (w.heap.size + 1) _ rfl rfl t' old HO.out (by kernel_rfl) HS.out (reg_one _) ?_))
      refine bodyPost_ret (results_cell_row rfl _ _ (w.heap.size + 1) t' _ (0, 0) _ rfl (setRow_heap _ _ _ _ _ _ HO.out) Tryd.underlying86 rfl (by kernel_rfl)) rfl ⟨rfl, ?_⟩
      exact Go.Proofs.YtpdhgijeanbmcaaDoor.below_setRow R'.out.low (by omega) _

/-! ### Total and Sum -/
theorem Acc.lit' {e size : Nat} {w0 w : World} {base g : Nat} (hg : g = w.heap.size) (cs : Array Value) (n : Nat) (hb : Below base w0 w) (hl : base ≤ w.heap.size) (hm : n ≤ maxLen) (hs : cs.size = n * size) :
    Acc e size w0 (w.alloc (.cells cs e)) base (some ⟨g, 0, none⟩) n n cs.toList := by
  subst hg
  exact Acc.lit w base w0 cs n hb hl hm hs
theorem rpad_next (l : List UInt8) (z : Nat) : (l ++ 0x80 :: List.replicate z 0).map V8 ++ [V8 0] = (l ++ 0x80 :: List.replicate (z + 1) 0).map V8 := by
  simp [List.replicate_succ']
theorem rpad_end (l : List UInt8) : (l ++ 0x80 :: List.replicate ((119 - l.length % 64) % 64) 0) ++ Sha.eight (8 * l.length) = l ++ Sha.pad l.length := by
  simp [Sha.pad]
/-- The text that is filled up, w2 being the world in which that was begun. -/
def TAt (w2 : World) (base : Nat) (l : List UInt8) (m : Nat) (v : Value) (wr : World) : Prop :=
  ∃ z B C, z ≤ (119 - m % 64) % 64 ∧ v = .slice B (m + 1 + z) C ∧ Acc 5 1 w2 wr base B C (m + 1 + z) ((l ++ 0x80 :: List.replicate z 0).map V8)
theorem box_reg {w : World} {b : Nat} {r : Sha.Reg} {x y : Value} {t : TypeId} {fr : Nat × Nat} (h : w.heap[b]? = some (.cells #[V32 r.a, V32 r.b, V32 r.c, V32 r.d, V32 r.e, V32 r.f, V32 r.g, V32 r.h, x, y] t fr)) :
    w.cell? ⟨b, 0, none⟩ = some (V32 r.a) ∧ w.cell? ⟨b, 1, none⟩ = some (V32 r.b) ∧ w.cell? ⟨b, 2, none⟩ = some (V32 r.c) ∧ w.cell? ⟨b, 3, none⟩ = some (V32 r.d) ∧
    w.cell? ⟨b, 4, none⟩ = some (V32 r.e) ∧ w.cell? ⟨b, 5, none⟩ = some (V32 r.f) ∧ w.cell? ⟨b, 6, none⟩ = some (V32 r.g) ∧ w.cell? ⟨b, 7, none⟩ = some (V32 r.h) :=
  ⟨cell_block h rfl, cell_block h rfl, cell_block h rfl, cell_block h rfl, cell_block h rfl, cell_block h rfl, cell_block h rfl, cell_block h rfl⟩
theorem rpad_len (l : List UInt8) (m z : Nat) (hm : m = l.length) (hz : z = (119 - m % 64) % 64) : m + 1 + z + 8 = (l ++ Sha.pad m).length ∧ (l ++ 0x80 :: List.replicate z 0).map V8 ++ (Sha.eight (8 * m)).map V8 = (l ++ Sha.pad m).map V8 := by
  subst hm hz
  refine ⟨by rw [List.length_append]; simp [Sha.pad, Sha.eight]; omega, by rw [← rpad_end]; simp⟩
def sumW (r : Sha.Reg) (k : Nat) (j : Nat) : Value := if j < k then byteF (Sha.bytes r) j else V8 0

theorem reight_int (x : Int) (n : Nat) (hx : x = (n : Int)) (w : World) : Calls Tryd.prog 73 #[.int .u64 x] w (RetB w 8 (Sha.eight n)) := by
  subst hx
  exact reight_any n w

def CAt (w6 : World) (r : Sha.Reg) (i : Value) (wr : World) : Prop := ∃ k : Nat, k ≤ 32 ∧ i = .int .i64 k ∧ Arr wr w6.heap.size 32 (sumW r k) ∧ Below w6.heap.size w6 wr
theorem CAt.start (w6 : World) (r : Sha.Reg) (t : TypeId) : CAt w6 r (.int .i64 0) (w6.alloc (.cells (zeros8 32) t)) :=
  ⟨0, by omega, rfl, arr_new (zeros8_size 32) fun j hj => by rw [zeros8_at 32 j hj]; simp [sumW], (Below.refl _ _).alloc (Nat.le_refl _) _⟩
theorem CAt.next {w6 wr : World} {r : Sha.Reg} {k : Nat} (hk : k < 32) (h : Arr wr w6.heap.size 32 (sumW r k)) (hB : Below w6.heap.size w6 wr) :
    CAt w6 r (.int .i64 ((k : Int) + 1)) (wr.setCell ⟨w6.heap.size, k, none⟩ (byteF (Sha.bytes r) k)) :=
  ⟨k + 1, by omega, by go_num, (h.set k _ hk).ext fun j _ => by
    unfold sumW
    by_cases e : j = k
    · subst e; simp
    · rw [if_neg e]
      by_cases e2 : j < k
      · rw [if_pos e2, if_pos (by omega)]
      · rw [if_neg e2, if_neg (by omega)], hB.setCell (Nat.le_refl _) _⟩

set_option maxRecDepth 100000 in
set_option maxHeartbeats 4000000 in
theorem rtotal_any (l : List UInt8) (a : Option Addr) (m c : Nat) (w : World) (hm : m = l.length) (hT : Tabs w) (S : Src w a c l) (hlen : l.length < 70368744177664) :
    Calls Tryd.prog 66 #[.agg #[V32 Sha.init.a, V32 Sha.init.b, V32 Sha.init.c, V32 Sha.init.d, V32 Sha.init.e, V32 Sha.init.f, V32 Sha.init.g, V32 Sha.init.h, .int .u64 0, .slice a m c]] w fun e w' =>
      e = .returned (sumV (Sha.sum l)) ∧ Below w.heap.size w w' := by
  have S' := Lib.hid S
  have Hm := Lib.hid hm
  have hml : m < 70368744177664 := by omega
  clear S hm
  have z1 : 0 + m ≤ maxLen := by unfold maxLen; omega
  have z2 : (0 + m) * 1 ≤ 140737488355328 := by omega
  have z3 : m + 1 ≤ maxLen := by unfold maxLen; omega
  have z4 : (m + 1) * 1 ≤ 140737488355328 := by omega
  go_enter Tryd.func66, Tryd.ntmps66
  have hbox : ∀ o o', Below w.heap.size w ((w.alloc o).alloc o') := fun o o' => ((Below.refl _ _).alloc (Nat.le_refl _) _).alloc (by simp) _
  have hbox3 : ∀ o o' o'', Below w.heap.size w (((w.alloc o).alloc o').alloc o'') := fun o o' o'' => (((Below.refl _ _).alloc (Nat.le_refl _) _).alloc (by simp) _).alloc (by simp; omega) _
  have HB := Lib.hid hbox
  have HB3 := Lib.hid hbox3
  clear hbox hbox3
  go_wp2_with (first | (at_builtin; refine wpList_acc rfl _ _ 22 rfl 5 1 1 _ Tryd.underlying22 info_u8' rfl (by decide) _ (w.heap.size + 1 + 1) (some ⟨w.heap.size + 1 + 1, 0, none⟩) 0 0 [] rfl (Acc.lit' (by simp) #[] 0 (Below.refl _ _) (by simp) (by decide) rfl) a m c (l.map V8) rfl (by simp [Hm.out]) (S'.out.below (HB3.out _ _ _)).at_.cells S'.out.nil S'.out.od (ones' l) z1 z2 ?_; intro B1 D1 w1 hacc hg hnew; rw [Nat.zero_add, List.nil_append] at hacc; have HA1 := Lib.hid hacc; clear hacc hg hnew) | (at_builtin; refine wpList_acc1 rfl _ _ 22 rfl 5 1 _ Tryd.underlying22 info_u8' rfl _ (w.heap.size + 1 + 1) B1 D1 m _ (V8 0x80) rfl HA1.out rfl rfl z3 z4 ?_; intro B2 D2 w2 hacc hg hnew; have HA2 := Lib.hid hacc; clear hacc hg hnew))
  have hs0 : TAt w2 (w.heap.size + 1 + 1) l m (.slice B2 (m + 1) D2) w2 := ⟨0, B2, D2, by omega, rfl, by
    have := HA2.out.own
    exact ⟨by simpa using this, Below.refl _ _, HA2.out.base_le⟩⟩
  have Hs0 := Lib.hid hs0
  have hboxc : w2.heap[w.heap.size]? = some (.cells #[V32 Sha.init.a, V32 Sha.init.b, V32 Sha.init.c, V32 Sha.init.d, V32 Sha.init.e, V32 Sha.init.f, V32 Sha.init.g, V32 Sha.init.h, .int .u64 0, .slice a m c] 89 (0, 0)) :=
    (HA2.out.low.block w.heap.size (by omega)).trans (heap_alloc2_old _ _ _)
  have houtc : ∃ old t, w2.heap[w.heap.size + 1]? = some (.cells old t (0, 0)) ∧ old.size = 32 := ⟨_, _, (HA2.out.low.block (w.heap.size + 1) (by omega)).trans (heap_alloc2_new _ _ _), rfl⟩
  obtain ⟨old, ot, ho, hos⟩ := houtc
  have HO := Lib.hid ho
  have HOS := Lib.hid hos
  have HBX := Lib.hid hboxc
  have hlow2 : Below w.heap.size w w2 := (HB.out _ _).trans (HA2.out.low.mono (by omega))
  have HL2 := Lib.hid hlow2
  have hb2 : w.heap.size + 1 + 1 ≤ w2.heap.size := HA2.out.base_le
  clear hs0 hboxc ho hos hlow2 HA1 HA2
  go_loopw [4] (fun v wr => TAt w2 (w.heap.size + 1 + 1) l m v wr) (fun v _ => match v with | .slice _ n _ => m + 66 - n | _ => 0)
  case atStart => exact Hs0.out
  case round =>
    clear Hs0
    obtain ⟨z, B, C, hz, rfl, R⟩ := hrel
    have R' := Lib.hid R
    clear R
    by_cases hlt : z = (119 - m % 64) % 64
    · have ht : (((m : Int) + 1 + (z : Int)) % 64 != 56) = false := by
        simp; omega
      have y1 : m + 1 + z + 8 ≤ maxLen := by unfold maxLen; omega
      have y2 : (m + 1 + z + 8) * 1 ≤ 140737488355328 := by omega
      have hpl := Lib.hid (rpad_len l m z Hm.out hlt)
      clear hlt hz
      go_wp2_with (first | (go_at_call 73; refine (reight_int _ (8 * m) (by omega) _).mono ?_; rintro e w3 ⟨B3, C3, rfl, hE⟩; have HE := Lib.hid hE; clear hE) | (at_builtin; refine wpList_acc rfl _ _ 22 rfl 5 1 1 _ Tryd.underlying22 info_u8' rfl (by decide) w2 (w.heap.size + 1 + 1) B C (m + 1 + z) _ rfl (R'.out.below HE.out.low) B3 8 C3 ((Sha.eight (8 * m)).map V8) rfl rfl HE.out.at_ HE.out.nil HE.out.src.od (ones' _) y1 y2 ?_; intro B4 D4 w4 hacc hg4 hnew; rw [hpl.out.2] at hacc; obtain ⟨q0, q1, q2, q3, q4, q5, q6, q7⟩ := box_reg ((hacc.low.block w.heap.size (by omega)).trans HBX.out); have HA4 := Lib.hid hacc; clear hacc hg4 hnew) | (go_at_call 75; refine (rblocks_any Sha.init (l ++ Sha.pad m) B4 (m + 1 + z + 8) D4 w4 hpl.out.1 (hT.below (HL2.out.trans (HA4.out.low.mono (by omega)))) HA4.out.src (by rw [← hpl.out.1]; omega)).mono ?_; rintro e w5 ⟨rfl, hB5⟩; have HB5 := Lib.hid hB5; clear hB5) | (go_at_call 74; refine (rwords_any (Sha.blocks Sha.init (l ++ Sha.pad m)) _).mono ?_; rintro e w6 ⟨B6, C6, rfl, hW⟩; have HW := Lib.hid hW; clear hW))
      rcases HW.out.form with ⟨_, h0, _⟩ | ⟨g, cur, rfl, hg1, hg2, _⟩
      · omega
      · obtain ⟨b6, o6, hb6, hsrc6⟩ := HW.out.at_.bytes.at_ (by rw [bytes_len]; omega)
        simp only [Option.some.injEq, Addr.mk.injEq, and_true] at hb6
        obtain ⟨rfl, rfl⟩ := hb6
        have Hs6 := Lib.hid hsrc6
        have hlow6 : Below w.heap.size w w6 := ((HL2.out.trans (HA4.out.low.mono (by omega))).trans (HB5.out.mono (by have := HA4.out.base_le; omega))).trans (HW.out.low.mono (by have := HA4.out.base_le; have := HB5.out.size; omega))
        have hout6 : w6.heap[w.heap.size + 1]? = some (.cells old ot (0, 0)) := by
          have i4 := HA4.out.base_le
          have i5 := HB5.out.size
          exact (HW.out.low.block _ (by omega)).trans ((HB5.out.block _ (by omega)).trans ((HA4.out.low.block _ (by omega)).trans HO.out))
        have hsz6 : w.heap.size + 1 < w6.heap.size := in_heap hout6
        have HL6 := Lib.hid hlow6
        have HO6 := Lib.hid hout6
        obtain ⟨q, hq⟩ : ∃ q, q = Sha.blocks Sha.init (l ++ Sha.pad m) := ⟨_, rfl⟩
        rw [← hq] at hsrc6 HW Hs6 ⊢
        have HQ := Lib.hid hq
        clear hsrc6 hlow6 hout6 hq
        go_loopw [7] (fun i wr => CAt w6 q i wr) (fun i _ => 32 - (intOf i).toNat)
        case atStart => exact CAt.start w6 q _
        case round =>
          obtain ⟨k, hk, rfl, A, B⟩ := hrel
          by_cases hk32 : k < 32
          · obtain ⟨v, hv⟩ : ∃ v, V8 v = byteF (Sha.bytes q) k := ⟨_, rfl⟩
            have c0 : wr.cell? ⟨g, k, none⟩ = some (V8 v) := (B.cell (p := ⟨g, k, none⟩) hg2).trans (by rw [hv]; have := Hs6.out k (by rw [bytes_len]; exact hk32); rwa [Nat.zero_add] at this)
            have HV := Lib.hid hv
            have d0 := A.cell k hk32
            have d1 := A.frozen k
            have hi0 : (0 : Int) ≤ (k : Int) := by omega
            have hi1 : (k : Int) < 32 := by omega
            have NX := Lib.hid (CAt.next hk32 A B)
            clear A B hv
            go_wp2
            go_roundw
            case rel => rw [HV.out]; exact NX.out
            case measure => simp [intOf]; omega
          · obtain rfl : k = 32 := by omega
            obtain ⟨t, ht⟩ := (A.ext (g := byteF (Sha.bytes q)) fun j hj => by simp [sumW, hj]).sum (bytes_len q)
            have ht' := Lib.hid ht
            have B' := Lib.hid B
            clear ht A B
            go_wp2_with (first | (refine wpList_load_sum rfl 29 _ rfl w6.heap.size rfl t (Sha.bytes q) 32 (0, 0) _ ht'.out Tryd.underlying29 (by kernel_rfl) rfl ?_) | (refine wpList_store_sum rfl 29 _ _ rfl (w.heap.size + 1) (Sha.bytes q) 32 rfl rfl ot old ((B'.out.block _ hsz6).trans HO6.out) (by kernel_rfl) rfl HOS.out ?_))
            refine bodyPost_ret (results_sum rfl _ _ (w.heap.size + 1) ot (Sha.bytes q) 32 (0, 0) _ rfl (setRow_heap _ _ _ _ _ _ ((B'.out.block _ hsz6).trans HO6.out)) Tryd.underlying29 (by kernel_rfl) rfl) rfl ⟨?_, ?_⟩
            · rw [HQ.out, Hm.out]; rfl
            · exact Go.Proofs.YtpdhgijeanbmcaaDoor.below_setRow (HL6.out.trans (B'.out.mono (by omega))) (by omega) _
    · have ht : (((m : Int) + 1 + (z : Int)) % 64 != 56) = true := by
        simp; omega
      have y1 : m + 1 + z + 1 ≤ maxLen := by unfold maxLen; omega
      have y2 : (m + 1 + z + 1) * 1 ≤ 140737488355328 := by omega
      go_wp2_with (at_builtin; refine wpList_acc1 rfl _ _ 22 rfl 5 1 _ Tryd.underlying22 info_u8' rfl w2 (w.heap.size + 1 + 1) B C (m + 1 + z) _ (V8 0) rfl R'.out rfl rfl y1 y2 ?_; intro B3 D3 w3 hacc hg3 hnew; have HA := Lib.hid hacc; clear hacc hg3 hnew)
      go_roundw
      case rel => exact ⟨z + 1, B3, D3, by omega, rfl, by rw [← rpad_next]; exact HA.out⟩
      case measure => simp; omega

set_option maxRecDepth 100000 in
theorem rsum_any (l : List UInt8) (a : Option Addr) (m c : Nat) (w : World) (hm : m = l.length) (hT : Tabs w) (S : Src w a c l) (hlen : l.length < 70368744177664) :
    Calls Tryd.prog 43 #[.slice a m c] w fun e w' => e = .returned (sumV (Sha.sum l)) ∧ Below w.heap.size w w' := by
  have S' := Lib.hid S
  have Hm := Lib.hid hm
  clear S hm
  have hb1 : ∀ o, Below w.heap.size w (w.alloc o) := fun o => (Below.refl _ _).alloc (Nat.le_refl _) _
  have HB := Lib.hid hb1
  have ho : ∀ o, (w.alloc o).heap[w.heap.size]? = some o := fun o => heap_alloc_new _ _
  have HO := Lib.hid ho
  clear hb1 ho
  go_enter Tryd.func43, Tryd.ntmps43
  go_wp2_with (first | (go_at_call 67; refine (rbegin_any _).mono ?_; rintro e w1 ⟨rfl, hB⟩; have HB1 := Lib.hid hB; clear hB) | (go_at_call 66; refine (rtotal_any l a m c w1 Hm.out ((hT.below (HB.out _)).below HB1.out) ((S'.out.below (HB.out _)).below HB1.out) hlen).mono ?_; rintro e w2 ⟨rfl, hB⟩; have HB2 := Lib.hid hB; clear hB) | (refine wpList_store_sum rfl 29 _ _ rfl w.heap.size (Sha.sum l) 32 rfl rfl _ _ ((HB2.out.block _ (in_heap ((HB1.out.block _ (by simp)).trans (HO.out _)))).trans ((HB1.out.block _ (by simp)).trans (HO.out _))) (by kernel_rfl) rfl rfl ?_))
  have h1 := (HB1.out.block _ (by simp)).trans (HO.out (.cells (zeros8 32) 29))
  refine bodyPost_ret (results_sum rfl _ _ w.heap.size _ (Sha.sum l) 32 (0, 0) _ rfl (setRow_heap _ _ _ _ _ _ ((HB2.out.block _ (in_heap h1)).trans h1)) Tryd.underlying29 (by kernel_rfl) rfl) rfl ⟨rfl, ?_⟩
  refine Go.Proofs.YtpdhgijeanbmcaaDoor.below_setRow (((HB.out _).trans (HB1.out.mono (by simp))).trans (HB2.out.mono ?_)) (Nat.le_refl _) _
  exact Nat.le_trans (by simp) HB1.out.size
end Go.Proofs.YtpdhgijeanbmcaaDoor
