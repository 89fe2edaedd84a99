/- (*Hash).Write: what was taken is taken behind what had been taken. -/
import Derived.Test.YtpdhgijeanbmcaaDoorWriteB
namespace Go.Proofs.YtpdhgijeanbmcaaDoor
open Go.RowKit

set_option maxRecDepth 100000 in
set_option maxHeartbeats 8000000 in
theorem write_any (hb : Nat) (L l : List UInt8) (a : Option Addr) (c : Nat) (w : World) (hT : Tabs w) (hN : NoTab hb) (H : HashAt w hb L) (S : BytesAt w a l) (hc : l.length ≤ c)
    (hne : ∀ ad, a = some ad → ad.block ≠ hb) (hlen : L.length + l.length < 4611686018427387904) :
    Calls Tryd.prog 63 #[.pointer (some ⟨hb, 0, none⟩), .slice a l.length c] w fun e w' => e = .returned (.tuple #[]) ∧ HashAt w' hb (L ++ l) ∧ w.grownBy w' (some hb) := by
  have hstart : WAt w hb L l (.slice a l.length c) w := ⟨0, a, c, rfl, by omega, by omega, S, hne, by simpa using H, World.grownBy.refl _ _⟩
  have hs := Lib.hid hstart
  clear hstart H S hne
  go_enter Tryd.func63, Tryd.ntmps63
  go_wp2
  go_loopw [1, 4, 5] (fun v _ _ wr => WAt w hb L l v wr) (fun v _ _ _ => match v with | .slice _ n _ => n | _ => 0)
  case atStart => exact hs.out
  case round =>
    clear hs
    obtain ⟨i, A, C, rfl, R⟩ := hrel
    by_cases hm : l.length - i = 0
    · have hm' : ¬ (0 : Int) < ((l.length - i : Nat) : Int) := by omega
      have R' := Lib.hid R
      clear R
      go_wp2
      go_end0
      have e : l.take i = l := List.take_of_length_le (by omega)
      exact ⟨rfl, by rw [← e]; exact R'.out.hash, R'.out.grown⟩
    · have hm' : (0 : Int) < ((l.length - i : Nat) : Int) := by omega
      obtain ⟨A0, q, rest, t, hL, I⟩ := R.hash
      have hlt := congrArg List.length hL
      simp only [List.length_append, List.length_take] at hlt
      obtain ⟨m, hmm⟩ : ∃ m, m = l.length - i := ⟨_, rfl⟩
      obtain ⟨n, hn⟩ : ∃ n, n = (A0 ++ q).length := ⟨_, rfl⟩
      have hn' := hn
      simp only [List.length_append] at hn'
      have hnlt : n < 4611686018427387904 := by have := R.le; omega
      have hw1 := I.whole
      have hw2 := I.short
      have hnq : n % 64 = q.length := by omega
      have R' := Lib.hid R
      have I' := Lib.hid I
      have h72 : wr.cell? ⟨hb, 72, none⟩ = some (.int .u64 (n : Int)) := cell_block I.heap (by rw [hn]; exact hash_taken _ _ _ I.len)
      have hfr := fun j => frozen_of_row wr hb j _ t I.heap
      rw [← hmm] at hm hm' ⊢
      have hc' : (m : Int) ≤ (C : Int) := by have := R.cap; omega
      have hmC : m ≤ C := by omega
      have Hm := Lib.hid hmm
      have Hn := Lib.hid hn
      have Hn' := Lib.hid hn'
      have Hlt := Lib.hid hlt
      have HL := Lib.hid hL
      have Hq := Lib.hid hnq
      clear hmm hn hn' hlt hL R I hnq hw1 hw2
      by_cases h1 : q.length = 0 ∧ 64 ≤ m
      · have z : ((n : Int) % 64 == 0) = true := by have := Hq.out; simp; omega
        have hm64 : (64 : Int) ≤ (m : Int) := by omega
        have hC64 : (64 : Int) ≤ (C : Int) := by omega
        have H1 := Lib.hid h1
        clear h1
        obtain ⟨b, o, rfl, hsrc⟩ := R'.out.src.at_ (by have := Hm.out; simp; omega)
        obtain ⟨p, hp⟩ : ∃ p : Nat → UInt8, p = fun j => (l.drop i).getD j 0 := ⟨_, rfl⟩
        have hsrc' : ∀ j, j < 64 → wr.cell? ⟨b, o + j, none⟩ = some (V8 (p j)) := fun j hj => by rw [hp]; exact hsrc j (by have := Hm.out; simp; omega)
        have Hp := Lib.hid hp
        clear hp
        have Hs := Lib.hid hsrc'
        have hbl : b < wr.heap.size := World.block_lt_of_cell? wr _ (hsrc' 0 (by omega))
        have hTr := hT.grown R'.out.grown hN
        obtain ⟨r0, r1, r2, r3, r4, r5, r6, r7, rf⟩ := hash_cells I'.out.heap
        have hbt : hb < wr.heap.size := (Array.getElem?_eq_some_iff.1 I'.out.heap).1
        clear hsrc hsrc'
        go_wp2
        go_region_with (go_at_call 70; refine (turn_any (Sha.blocks Sha.init A0) b o 64 64 p _ (by omega) (by exact hbl) (by exact Hs.out) (by exact hTr.size.2.1) (by exact hTr.rootsAt)).mono ?_; rintro e w1 ⟨rfl, hB⟩; have heap1 := (hB.block hb hbt).trans I'.out.heap; obtain ⟨s0, s1, s2, s3, s4, s5, s6, s7, sf⟩ := hash_cells heap1; have s72 : w1.cell? ⟨hb, 72, none⟩ = some (.int .u64 (n : Int)) := (World.cell?_of_block (w := wr) (hB.block hb hbt)).trans h72; have HB := Lib.hid hB; have HH := Lib.hid heap1; clear hB heap1)
        have hfin := fun W => path_whole (w1 := W) HL.out H1.out.1 Hm.out H1.out.2 Hn.out R'.out I'.out Hp.out
        have Hfin := Lib.hid hfin
        clear hfin
        by_cases hC : C = 64
        · have f := Hfin.out w1 HB.out
          rw [if_pos hC] at f
          have F := Lib.hid f
          clear f
          subst hC
          obtain rfl : m = 64 := by omega
          go_wp2
          go_roundw
          case rel => exact F.out
          case measure => simp
        · have f := Hfin.out w1 HB.out
          rw [if_neg hC] at f
          have F := Lib.hid f
          clear f
          go_wp2
          go_roundw
          case rel => exact F.out
          case measure => simp; omega
      · obtain ⟨e, he⟩ : ∃ e, e = q.length := ⟨_, rfl⟩
        obtain ⟨ck, hck⟩ : ∃ ck, ck = (l.drop i).take (min m (64 - e)) := ⟨_, rfl⟩
        have hckl : ck.length = min m (64 - e) := by rw [hck]; simp; have := Hm.out; omega
        have hck2 : ck = (l.drop i).take ck.length := by rw [hckl]; exact hck
        have z : (n : Int) % 64 = (e : Int) := by have := Hq.out; omega
        have hes : e < 64 := by have := I'.out.short; omega
        have hz1 : ck.length ≤ m := by omega
        have hz2 : e + ck.length ≤ 64 := by omega
        have hz3 : 0 < ck.length := by omega
        have hgd : ((e : Int) == 0) = true → ¬ (64 : Int) ≤ (m : Int) := by
          intro h; simp at h; omega
        obtain ⟨b, o, rfl, hsrc⟩ := R'.out.src.at_ (by have := Hm.out; simp; omega)
        have hsrc' : ∀ j, j < ck.length → wr.cell? ⟨b, o + j, none⟩ = some (byteF ck j) := fun j hj => by
          rw [hsrc j (by have := Hm.out; simp; omega), hck2]
          simp [byteF, List.getD, hj]
        have Hs := Lib.hid hsrc'
        have He := Lib.hid he
        have Hck := Lib.hid hck2
        have Hckl := Lib.hid hckl
        have heap0 := Lib.hid I'.out.heap
        have hfin := fun W => path_part (w2 := W) he HL.out Hm.out hck2 hz1 hz2 R'.out I'.out
        have Hfin := Lib.hid hfin
        have Hgd := Lib.hid hgd
        have H1 := Lib.hid h1
        have hTr := hT.grown R'.out.grown hN
        clear hfin hsrc hsrc' he hck hck2 hckl h1
        have he1 : e ≤ 64 := by omega
        have he2 : (e : Int) ≤ 64 := by omega
        have he3 : (0 : Int) ≤ (e : Int) := by omega
        have hne64 : ¬ 64 = e := by omega
        have hzz : (((e : Int) == 0) = true ∧ ¬ (64 : Int) ≤ (m : Int)) ∨ ((e : Int) == 0) = false := by
          by_cases hz : ((e : Int) == 0) = true
          · exact .inl ⟨hz, hgd hz⟩
          · exact .inr (by simpa using hz)
        clear hgd
        by_cases hf : ((e : Int) + (ck.length : Int) == 64) = true
        · by_cases hC : C = ck.length
          · have hC' : m - ck.length = 0 := by omega
            rcases hzz with ⟨z1, z2⟩ | z1
            all_goals
              go_wp2_with (refine wpList_copy_hash rfl _ _ 22 22 rfl 5 Tryd.underlying22 (by kernel_rfl) hb e (64 - e) (64 - e) b o m C rfl rfl _ rest _ t heap0.out I'.out.len ck Hckl.out Hs.out hz2 ?_; intro w2 hh2 hg2; obtain ⟨s0, s1, s2, s3, s4, s5, s6, s7, sf⟩ := hash_cells hh2; have s72 := cell_block hh2 (hash_taken _ _ _ (by simp; have := I'.out.len; omega)); rw [← Hn.out] at s72; have HH := Lib.hid hh2; have HG := Lib.hid hg2; clear hh2 hg2)
              obtain ⟨p, hp⟩ : ∃ p : Nat → UInt8, p = fun j => (rest.take e ++ ck ++ rest.drop (e + ck.length)).getD j 0 := ⟨_, rfl⟩
              have Hp := Lib.hid hp
              clear hp
              have hW := Lib.hid (full_src He.out I'.out.len Hn.out hz2 HH.out Hp.out)
              have hT2 : Tabs (w2.setCell ⟨hb, 72, none⟩ (.int .u64 ((n : Int) + (ck.length : Int)))) := (hTr.grown HG.out hN).grown (grownBy_setCell _ _ _ _) hN
              go_region_with (go_at_call 70; refine (turn_any (Sha.blocks Sha.init A0) hb 8 64 64 p _ (by omega) (by exact hW.out.1) (by exact hW.out.2) (by exact hT2.size.2.1) (by exact hT2.rootsAt)).mono ?_; rintro e' w3 ⟨rfl, hB⟩; have hB' : Below _ (w2.setCell ⟨hb, 72, none⟩ (.int .u64 ((n : Int) + (ck.length : Int)))) w3 := ⟨hB.os, hB.tape, hB.output, hB.size, hB.block⟩; have HB := Lib.hid hB'; obtain ⟨u0, u1, u2, u3, u4, u5, u6, u7, uf⟩ := hash_cells ((hB.block hb hW.out.1).trans (full_heap I'.out.len Hn.out HH.out hz2)); clear hB hB')
              go_wp2
              go_roundw
              case rel =>
                have h3 := full_end He.out I'.out.whole I'.out.len I'.out.same Hn.out hf HH.out HB.out p Hp.out
                have h := Hfin.out _ (grownBy_trans HG.out h3.2.2) _ h3.1 h3.2.1
                rw [if_pos hC, hC', show C - ck.length = 0 from by omega] at h
                exact h
              case measure => simp; omega
          · rcases hzz with ⟨z1, z2⟩ | z1
            all_goals
              go_wp2_with (refine wpList_copy_hash rfl _ _ 22 22 rfl 5 Tryd.underlying22 (by kernel_rfl) hb e (64 - e) (64 - e) b o m C rfl rfl _ rest _ t heap0.out I'.out.len ck Hckl.out Hs.out hz2 ?_; intro w2 hh2 hg2; obtain ⟨s0, s1, s2, s3, s4, s5, s6, s7, sf⟩ := hash_cells hh2; have s72 := cell_block hh2 (hash_taken _ _ _ (by simp; have := I'.out.len; omega)); rw [← Hn.out] at s72; have HH := Lib.hid hh2; have HG := Lib.hid hg2; clear hh2 hg2)
              obtain ⟨p, hp⟩ : ∃ p : Nat → UInt8, p = fun j => (rest.take e ++ ck ++ rest.drop (e + ck.length)).getD j 0 := ⟨_, rfl⟩
              have Hp := Lib.hid hp
              clear hp
              have hW := Lib.hid (full_src He.out I'.out.len Hn.out hz2 HH.out Hp.out)
              have hT2 : Tabs (w2.setCell ⟨hb, 72, none⟩ (.int .u64 ((n : Int) + (ck.length : Int)))) := (hTr.grown HG.out hN).grown (grownBy_setCell _ _ _ _) hN
              go_region_with (go_at_call 70; refine (turn_any (Sha.blocks Sha.init A0) hb 8 64 64 p _ (by omega) (by exact hW.out.1) (by exact hW.out.2) (by exact hT2.size.2.1) (by exact hT2.rootsAt)).mono ?_; rintro e' w3 ⟨rfl, hB⟩; have hB' : Below _ (w2.setCell ⟨hb, 72, none⟩ (.int .u64 ((n : Int) + (ck.length : Int)))) w3 := ⟨hB.os, hB.tape, hB.output, hB.size, hB.block⟩; have HB := Lib.hid hB'; obtain ⟨u0, u1, u2, u3, u4, u5, u6, u7, uf⟩ := hash_cells ((hB.block hb hW.out.1).trans (full_heap I'.out.len Hn.out HH.out hz2)); clear hB hB')
              go_wp2
              go_roundw
              case rel =>
                have h3 := full_end He.out I'.out.whole I'.out.len I'.out.same Hn.out hf HH.out HB.out p Hp.out
                have h := Hfin.out _ (grownBy_trans HG.out h3.2.2) _ h3.1 h3.2.1
                rw [if_neg hC] at h
                exact h
              case measure => simp; omega
        · have hf' : ((e : Int) + (ck.length : Int) == 64) = false := by simpa using hf
          clear hf
          by_cases hC : C = ck.length
          · have hC' : m - ck.length = 0 := by omega
            rcases hzz with ⟨z1, z2⟩ | z1
            all_goals
              go_wp2_with (refine wpList_copy_hash rfl _ _ 22 22 rfl 5 Tryd.underlying22 (by kernel_rfl) hb e (64 - e) (64 - e) b o m C rfl rfl _ rest _ t heap0.out I'.out.len ck Hckl.out Hs.out hz2 ?_; intro w2 hh2 hg2; obtain ⟨s0, s1, s2, s3, s4, s5, s6, s7, sf⟩ := hash_cells hh2; have s72 := cell_block hh2 (hash_taken _ _ _ (by simp; have := I'.out.len; omega)); rw [← Hn.out] at s72; have HH := Lib.hid hh2; have HG := Lib.hid hg2; clear hh2 hg2)
              have hw2 := Lib.hid (part_end He.out I'.out.whole I'.out.len Hn.out hz2 hf' HH.out)
              go_roundw
              case rel =>
                have h := Hfin.out _ (grownBy_trans HG.out (grownBy_setCell _ _ _ _)) _ hw2.out.1 hw2.out.2
                rw [if_pos hC, hC', show C - ck.length = 0 from by omega] at h
                exact h
              case measure => simp; omega
          · rcases hzz with ⟨z1, z2⟩ | z1
            all_goals
              go_wp2_with (refine wpList_copy_hash rfl _ _ 22 22 rfl 5 Tryd.underlying22 (by kernel_rfl) hb e (64 - e) (64 - e) b o m C rfl rfl _ rest _ t heap0.out I'.out.len ck Hckl.out Hs.out hz2 ?_; intro w2 hh2 hg2; obtain ⟨s0, s1, s2, s3, s4, s5, s6, s7, sf⟩ := hash_cells hh2; have s72 := cell_block hh2 (hash_taken _ _ _ (by simp; have := I'.out.len; omega)); rw [← Hn.out] at s72; have HH := Lib.hid hh2; have HG := Lib.hid hg2; clear hh2 hg2)
              have hw2 := Lib.hid (part_end He.out I'.out.whole I'.out.len Hn.out hz2 hf' HH.out)
              go_roundw
              case rel =>
                have h := Hfin.out _ (grownBy_trans HG.out (grownBy_setCell _ _ _ _)) _ hw2.out.1 hw2.out.2
                rw [if_neg hC] at h
                exact h
              case measure => simp; omega
end Go.Proofs.YtpdhgijeanbmcaaDoor
