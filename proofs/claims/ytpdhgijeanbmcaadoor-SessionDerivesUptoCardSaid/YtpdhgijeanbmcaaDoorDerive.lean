/- session.Derive is PBKDF2 with HMAC-SHA-256. -/
import Derived.Test.YtpdhgijeanbmcaaDoorDrv
namespace Go.Proofs.YtpdhgijeanbmcaaDoor
open Go.RowKit

set_option maxRecDepth 100000 in
set_option maxHeartbeats 400000 in
theorem derive_any (p s : List UInt8) (pa sa : Option Addr) (pm pc sm sc N n : Nat) (w : World) (hpm : pm = p.length) (hsm : sm = s.length) (hT : Tabs w) (SP : Src w pa pc p) (SS : Src w sa sc s) (hp : p.length < 1099511627776) (hs : s.length < 1099511627776) (hN : 0 < N) (hN3 : N ≤ 300) (hn : 0 < n) (hn2 : n ≤ 200) :
    Calls Tryd.prog 11 #[.slice pa pm pc, .slice sa sm sc, .int .i64 N, .int .i64 n] w (RetB w n ((Sha.derived p s N 7).take n)) := by
  have Hpm := Lib.hid hpm
  have Hsm := Lib.hid hsm
  have HSP := Lib.hid SP
  have HSS := Lib.hid SS
  clear hpm hsm SP SS
  have a1 : ¬ (N : Int) < 1 := by omega
  have a2 : ¬ (100000 : Int) < (N : Int) := by omega
  have a3 : ¬ (n : Int) < 1 := by omega
  have a4 : ¬ (1024 : Int) < (n : Int) := by omega
  go_enter Tryd.func11, Tryd.ntmps11
  go_wp2
  go_loopw [9, 10, 11, 12, 13] (fun v i _ _ _ wr => ∃ j B C, j ≤ 7 ∧ i = .int .i64 ((j + 1 : Nat) : Int) ∧ v = .slice B (32 * j) C ∧ Acc 5 1 w wr w.heap.size B C (32 * j) ((Sha.derived p s N j).map V8)) (fun _ i _ _ _ _ => 40 - (intOf i).toNat)
  case atStart => exact ⟨0, none, 0, by omega, rfl, rfl, Acc.start _ _ _ _ _ (Below.refl _ _) (Nat.le_refl _)⟩
  case round =>
    obtain ⟨j, B, C, hj, rfl, rfl, hA⟩ := hrel
    have HA := Lib.hid hA
    clear hA
    by_cases hlt : 32 * j < n
    · have hli : ((32 * j : Nat) : Int) < (n : Int) := by omega
      have hj6 : j ≤ 6 := by omega
      obtain ⟨q, hq⟩ : ∃ q, q = 32 * j := ⟨_, rfl⟩
      rw [← hq] at HA hli ⊢
      have Hq := Lib.hid hq
      clear hq hlt
      have hU := Lib.hid (show Sha.pu p s (j + 1) 0 = Sha.mac p (s ++ Sha.numb (j + 1)) from rfl)
      obtain ⟨U, hUe⟩ : ∃ U, U = Sha.pu p s (j + 1) 0 := ⟨_, rfl⟩
      rw [← hUe] at hU
      have hUl : U.length = 32 := by rw [hUe]; exact Sha.pu_len _ _ _ _
      have HUl := Lib.hid hUl
      have HUe := Lib.hid hUe
      have Hlo := Lib.hid HA.out.low
      have Hnum := Lib.hid (numb_at j hj6)
      clear hUe hUl
      go_wp2_with (first | (go_at_call 37; refine (mac_two dmac_ok p s (Sha.numb (j + 1)) U pa sa (some ⟨wr.heap.size, 0, none⟩) pm pc sm sc 4 4 (wr.heap.size + 1) _ _ (size_alloc _ _).symm hU.out Hpm.out Hsm.out rfl (hT.below (bthen Hlo.out (low1 _ _))) (HSP.out.below (bthen Hlo.out (low1 _ _))) (HSS.out.below (bthen Hlo.out (low1 _ _))) (numb_cells _ _ _ _ Hnum.out) (by omega) (by simp [Sha.numb]; omega)).mono ?_; rintro e w5 ⟨rfl, hB⟩; have HB5 := Lib.hid hB; clear hB) | (refine wpList_load_sum rfl 29 _ rfl w5.heap.size rfl _ U 32 _ _ H6.out Tryd.underlying29 (by kernel_rfl) HUl.out ?_) | (refine wpList_store_row' rfl 29 _ _ rfl w6.heap.size (U.map V8).toArray rfl rfl _ _ (blk1 _ _) (size_sum' U HUl.out) (by simp [HUl.out]) (oneCells U) ?_; intro w7 h7 g7 s7; have H7 := Lib.hid h7; have G7 := Lib.hid g7; clear h7 g7 s7) | (refine wpList_store_row' rfl 29 _ _ rfl w5.heap.size (U.map V8).toArray rfl rfl _ _ (blk1 _ _) (size_sum' U HUl.out) (by simp [HUl.out]) (oneCells U) ?_; intro w6 h6 g6 s6; have H6 := Lib.hid h6; have G6 := Lib.hid g6; clear h6 g6 s6))
      have hD := DAt.start ((HA.out.alloc _).below HB5.out) H6.out G6.out H7.out G7.out HUl.out
      rw [HUe.out] at hD
      have HD := Lib.hid hD
      clear hD H6 G6 H7 G7 HB5 hU Hnum
      obtain ⟨ub, hub⟩ : ∃ ub, ub = w5.heap.size := ⟨_, rfl⟩
      obtain ⟨tb, htb⟩ : ∃ tb, tb = w6.heap.size := ⟨_, rfl⟩
      rw [← hub, ← htb] at HD ⊢
      clear hub htb
      go_loopw [13, 53] (fun _ r wq => ∃ k : Nat, k ≤ N - 1 ∧ r = .int .i64 k ∧ DAt w wq ub tb B C q (Sha.derived p s N j) (Sha.pu p s (j + 1) k) (byteF (Sha.pt p s (j + 1) k))) (fun _ r _ => N - (intOf r).toNat)
      case atStart => exact ⟨0, by omega, rfl, HD.out⟩
      case round =>
        clear HD HA
        obtain ⟨k, hk, rfl, hD⟩ := hrel
        have HD := Lib.hid hD
        clear hD
        by_cases hlt : k < N - 1
        · have hki : (k : Int) < (N : Int) - 1 := by omega
          obtain ⟨V, hV⟩ : ∃ V, V = Sha.pu p s (j + 1) (k + 1) := ⟨_, rfl⟩
          obtain ⟨T, hTe⟩ : ∃ T, T = Sha.pt p s (j + 1) k := ⟨_, rfl⟩
          obtain ⟨U0, hU0⟩ : ∃ U0, U0 = Sha.pu p s (j + 1) k := ⟨_, rfl⟩
          have hVm : V = Sha.mac p U0 := by rw [hV, hU0]; rfl
          have hVl : V.length = 32 := by rw [hV]; exact Sha.pu_len _ _ _ _
          have hU0l : U0.length = 32 := by rw [hU0]; exact Sha.pu_len _ _ _ _
          have hTl : T.length = 32 := by rw [hTe]; exact Sha.pt_len _ _ _ _
          have hTn : Sha.pt p s (j + 1) (k + 1) = Sha.xors T V := by rw [hV, hTe]; rfl
          rw [← hU0, ← hTe] at HD
          have HV := Lib.hid hV
          have HVm := Lib.hid hVm
          have HVl := Lib.hid hVl
          have HU0l := Lib.hid hU0l
          have HTl := Lib.hid hTl
          have HTn := Lib.hid hTn
          obtain ⟨tu, hu⟩ := HD.out.u
          have Hu := Lib.hid hu
          have Hlo2 := Lib.hid HD.out.acc.low
          clear hV hTe hU0 hVm hVl hU0l hTl hTn hu
          go_wp2_with (first | (go_at_call 37; refine (mac_one dmac_ok p U0 V pa (some ⟨ub, 0, none⟩) pm pc 32 32 wr.heap.size wr _ rfl HVm.out Hpm.out HU0l.out.symm (hT.below Hlo2.out) (HSP.out.below Hlo2.out) ⟨box_bytes Hu.out, by rw [HU0l.out]; exact Nat.le_refl _, (fun h => by cases h), fun ad had => ⟨_, _, (Option.some.inj had).symm, in_heap Hu.out⟩⟩ (by omega) (by rw [HU0l.out]; decide)).mono ?_; rintro e w8 ⟨rfl, hB⟩; have HB8 := Lib.hid hB; clear hB) | (refine wpList_store_row' rfl 29 _ _ rfl ub (V.map V8).toArray rfl rfl _ _ (bblk HB8.out Hu.out) (size_sum' V HVl.out) (by simp [HVl.out, HU0l.out]) (oneCells V) ?_; intro w9 h9 g9 s9; have HD9 := Lib.hid ((HD.out.below HB8.out).setu g9 ⟨_, h9⟩); clear h9 g9 s9))
          have h90 := HD9.out.ext fun j _ => (congrFun (xorF_zero T V) j).symm
          have HD0 := Lib.hid h90
          clear h90 HD9 HB8 Hu Hlo2 HD
          go_loopw [13, 59] (fun _ i wq => ∃ e : Nat, e ≤ 32 ∧ i = .int .i64 e ∧ DAt w wq ub tb B C q (Sha.derived p s N j) V (xorF T V e)) (fun _ i _ => 32 - (intOf i).toNat)
          case atStart => exact ⟨0, by omega, rfl, HD0.out⟩
          case round =>
            clear HD0
            obtain ⟨e, he, rfl, hD⟩ := hrel
            have HD := Lib.hid hD
            clear hD
            by_cases hlt2 : e < 32
            · have hei : (e : Int) < 32 := by omega
              have hei0 : (0 : Int) ≤ (e : Int) := by omega
              have c0 := HD.out.t.cell e hlt2
              have f0 := HD.out.t.frozen e
              have c1 := HD.out.ucell e (by rw [HVl.out]; exact hlt2)
              rw [show xorF T V e e = V8 (T.getD e 0) from by simp [xorF, byteF]] at c0
              have hset := (HD.out.sett (v := V8 (T.getD e 0 ^^^ V.getD e 0)) hlt2).ext fun j _ => xorF_next T V e j
              obtain ⟨x, hx⟩ : ∃ x, x = T.getD e 0 := ⟨_, rfl⟩
              obtain ⟨y, hy⟩ : ∃ y, y = V.getD e 0 := ⟨_, rfl⟩
              rw [← hx] at c0 hset
              rw [← hy] at c1 hset
              have HSet := Lib.hid hset
              clear hx hy hset
              go_wp2
              go_region
              go_wp2
              go_roundw
              case rel => exact ⟨e + 1, by omega, by go_num, HSet.out.below ((Below.refl _ _).drew)⟩
              case measure => simp [intOf]; omega
            · have hei : ¬ (e : Int) < 32 := by omega
              have he32 : e = 32 := by omega
              have hD := HD.out
              rw [he32] at hD
              have hD2 := hD.ext fun j hj => xorF_end T V HTl.out HVl.out j hj
              rw [← HTn.out] at hD2
              have HD3 := Lib.hid hD2
              clear hD hD2 he32
              go_wp2
              refine ⟨⟨k + 1, by omega, by go_num, ?_⟩, by simp [intOf]; omega⟩
              rw [← HV.out]
              exact HD3.out
        · have hki : ¬ (k : Int) < (N : Int) - 1 := by omega
          have hkN : k = N - 1 := by omega
          have hD := HD.out
          rw [hkN] at hD
          have htl := Sha.pt_len p s (j + 1) (N - 1)
          have hnx : Sha.derived p s N j ++ Sha.pt p s (j + 1) (N - 1) = Sha.derived p s N (j + 1) := rfl
          obtain ⟨T, hTe⟩ : ∃ T, T = Sha.pt p s (j + 1) (N - 1) := ⟨_, rfl⟩
          rw [← hTe] at hD htl hnx
          have HTl := Lib.hid htl
          have Hnx := Lib.hid hnx
          have HD3 := Lib.hid hD
          have hsrc : BytesAt wr (some ⟨tb, 0, none⟩) T := arr_src (by rw [htl]; exact hD.t)
          have Hsrc := Lib.hid hsrc
          have y1 : q + 32 ≤ maxLen := by have := Hq.out; unfold maxLen; omega
          have y2 : (q + 32) * 1 ≤ 140737488355328 := by have := Hq.out; omega
          clear hD hTe htl hnx hkN hsrc HD
          go_wp2_with (at_builtin; refine wpList_acc rfl _ _ 22 rfl 5 1 1 _ Tryd.underlying22 info_u8' rfl (by decide) w w.heap.size B C q _ rfl HD3.out.acc (some ⟨tb, 0, none⟩) 32 32 (T.map V8) rfl (by simp [HTl.out]) Hsrc.out.cells (fun h => by cases h) (fun ad h => ⟨_, _, (Option.some.inj h).symm⟩) (ones' T) y1 y2 ?_; intro B2 D2 w9 hacc hg hnew; rw [← List.map_append, Hnx.out] at hacc; have HA9 := Lib.hid hacc; clear hacc hg hnew)
          refine ⟨⟨j + 1, B2, D2, by omega, by go_num, by rw [Hq.out]; rfl, ?_⟩, by simp [intOf]; omega⟩
          have := HA9.out
          rw [Hq.out] at this
          exact this
    · have hli : ¬ ((32 * j : Nat) : Int) < (n : Int) := by omega
      obtain ⟨q, hq⟩ : ∃ q, q = 32 * j := ⟨_, rfl⟩
      rw [← hq] at HA hli ⊢
      have hcap := HA.out.cap
      have hnq : n ≤ q := by omega
      have hnc : (n : Int) ≤ (C : Int) := by omega
      have hA := HA.out
      rcases hA.form with ⟨_, h0, _⟩ | ⟨g, cur, hBg, _, _, _, _⟩
      · omega
      · subst hBg
        have hjd : (Sha.derived p s N j).take n = (Sha.derived p s N 7).take n := Sha.derived_take p s N j 7 n hj (by omega)
        have hsrc := hA.src.take n
        rw [hjd] at hsrc
        have hlen : n = ((Sha.derived p s N 7).take n).length := by rw [List.length_take, Sha.derived_len]; omega
        obtain ⟨L, hL⟩ : ∃ L, L = (Sha.derived p s N 7).take n := ⟨_, rfl⟩
        rw [← hL] at hsrc hlen
        have Hsrc := Lib.hid hsrc
        have Hlen := Lib.hid hlen
        have HA2 := Lib.hid hA
        have HLe := Lib.hid hL
        clear hL hjd hsrc hlen hA HA hq
        go_wp2_with (go_at_call 38; refine (clone_any L _ n C wr Hlen.out Hsrc.out (by have := Hlen.out; omega)).mono ?_; rintro e w9 ⟨B9, C9, rfl, hacc⟩; have HA9 := Lib.hid hacc; clear hacc)
        go_ret
        rw [← HLe.out]
        exact ⟨B9, C9, rfl, HA9.out.rebase HA2.out.low.size HA2.out.low⟩
end Go.Proofs.YtpdhgijeanbmcaaDoor
