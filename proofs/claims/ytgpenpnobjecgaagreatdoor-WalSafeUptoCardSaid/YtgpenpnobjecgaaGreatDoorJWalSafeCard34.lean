/- WalCuts: where the input is past its bounds, the law tells live(). -/
import Derived.Laws.OwnMore
import Derived.BigQuiet
import Derived.Test.YtgpenpnobjecgaaGreatDoorJWalSafeCard5
import Derived.Test.YtgpenpnobjecgaaGreatDoorJWalSafeCard11
import Derived.Test.YtgpenpnobjecgaaGreatDoorJWalSafeCard12
import Derived.Test.YtgpenpnobjecgaaGreatDoorJWalSafeCard31
import Derived.Test.YtgpenpnobjecgaaGreatDoorJWalSafeCard33
/- RSeal -/
namespace Go.Proofs.YtgpenpnobjecgaaGreatDoor
set_option maxRecDepth 100000
open Go.RowKit

theorem word_take (x : BitVec 32) (i : Nat) (h : i < 4) : ((wordB x).take i).map V8 ++ [Value.int .u8 (((x.toNat / 256 ^ i : Nat) : Int) % 256)] = ((wordB x).take (i + 1)).map V8 := by
  have hl : i < (wordB x).length := by rw [wordB_len]; exact h
  rw [List.take_add_one, List.getElem?_eq_getElem hl, List.map_append]
  congr 1
  show [_] = [V8 _]
  congr 1
  unfold V8
  congr 1
  have : i = 0 ∨ i = 1 ∨ i = 2 ∨ i = 3 := by omega
  rcases this with rfl | rfl | rfl | rfl <;> simp [wordB, BitVec.toNat_setWidth, BitVec.toNat_ushiftRight, Nat.shiftRight_eq_div_pow]
set_option maxRecDepth 100000 in
set_option maxHeartbeats 1000000 in
theorem rfour_any (x : BitVec 32) (w : World) : Calls Tryz.prog 89 #[V32 x] w (RetF w (wordB x)) := by
  suffices h : Calls Tryz.prog 89 #[V32 x] w (RetB w 4 (wordB x)) from h.mono fun e w' h => h.fresh rfl
  obtain ⟨z, hz⟩ : ∃ z, z = x.toNat := ⟨_, rfl⟩
  have HZ := Lib.hid hz
  unfold V32
  rw [← hz]
  clear hz
  go_enter Tryz.func89, Tryz.ntmps89
  go_wp2
  go_loopw [0, 3, 4] (fun nv lv iv wr => ∃ (i m : Nat) (B : Option Addr) (C : Nat), nv = .int .u32 m ∧ lv = .slice B i C ∧ iv = .int .i64 i ∧ Hid (i ≤ 4 ∧ m = x.toNat / 256 ^ i) ∧ Acc 5 1 w wr w.heap.size B C i (((wordB x).take i).map V8)) (fun _ _ iv _ => 4 - (intOf iv).toNat)
  case atStart => exact ⟨0, z, none, 0, rfl, rfl, rfl, Lib.hid ⟨Nat.zero_le _, by simp [HZ.out]⟩, Acc.start _ _ _ _ _ (Below.refl _ _) (Nat.le_refl _)⟩
  case round =>
    obtain ⟨i, m, B, C, rfl, rfl, rfl, hG, hA⟩ := hrel
    have HA := Lib.hid hA
    clear hA
    have hi4 := hG.out.1
    by_cases hlt : i < 4
    · have h1 : (i : Int) < 4 := by omega
      have z1 : i + 1 ≤ maxLen := by unfold maxLen; omega
      have z2 : (i + 1) * 1 ≤ 140737488355328 := by omega
      have hm : m < 4294967296 := by
        have := x.isLt
        rw [hG.out.2]
        exact Nat.lt_of_le_of_lt (Nat.div_le_self _ _) this
      go_wp2_with (at_builtin; refine wpList_acc1 rfl _ _ 22 rfl 5 1 _ Tryz.underlying22 info_u8' rfl w w.heap.size B C i (((wordB x).take i).map V8) _ rfl HA.out rfl rfl z1 z2 ?_; intro B2 D2 w2 hacc hg hnew; have HA2 := Lib.hid hacc; clear hacc hg hnew)
      go_roundw
      case rel =>
        refine ⟨i + 1, m / 256, B2, D2, by go_num, rfl, by go_num, Lib.hid ⟨by omega, ?_⟩, ?_⟩
        · rw [hG.out.2, Nat.div_div_eq_div_mul, Nat.pow_succ]
        · have := HA2.out
          rw [← word_take x i hlt, ← hG.out.2]
          simpa using this
      case measure => simp [intOf]; omega
    · obtain rfl : i = 4 := by omega
      go_wp2
      go_ret
      exact ⟨B, C, rfl, HA.out⟩
set_option maxRecDepth 100000 in
set_option maxHeartbeats 1000000 in
theorem rsum1_any (k : UInt8) (l : List UInt8) (A : Option Addr) (C : Nat) (w : World) (X : Txt w A l.length C l) (hl : l.length ≤ 2097152) :
    Calls Tryz.prog 90 #[V8 k, .slice A l.length C] w fun e w' => e = .returned (V32 (crcOn (frameCrc (headOf l.length) [k]) l)) ∧ Below w.heap.size w w' := by
  have HX := Lib.hid X
  have HN := Lib.hid hl
  obtain ⟨hd, hhd⟩ : ∃ hd, hd = headOf l.length := ⟨_, rfl⟩
  have h4 : Hid (Calls Tryz.prog 89 #[V32 (BitVec.ofNat 32 l.length)] w (RetF w hd)) := by
    rw [hhd]
    exact Lib.hid (rfour_any (BitVec.ofNat 32 l.length) w)
  have Hhl : Hid (hd.length = 4) := by rw [hhd]; exact Lib.hid rfl
  rw [← hhd]
  clear X hl hhd
  go_enter Tryz.func90, Tryz.ntmps90
  go_wp2_with fail
  have hcw : Value.int .u32 ((l.length : Int) % 4294967296) = V32 (BitVec.ofNat 32 l.length) := by unfold V32; simp
  rw [hcw]
  clear hcw
  go_at_call 89
  refine h4.out.mono ?_
  rintro e w1 ⟨B1, C1, b1, rfl, F1⟩
  have F1 := Lib.hid F1
  clear h4
  go_wp2_with fail
  go_at_call 120
  refine (rcrc_any hd _ _ _ _ F1.out.txt (by rw [Hhl.out]; decide)).mono ?_
  rintro e w2 ⟨rfl, rfl⟩
  go_wp2_with fail
  have F2 := Lib.hid (F1.out.next (low1 _ (.cells #[V8 k] 5)))
  have Hk := Lib.hid (Txt.of_one (w := w1.alloc (.cells #[V8 k] 5)) (blk1 _ _) rfl)
  go_at_call 121
  refine (rcrcon_any (crcOn 0 hd) [k] _ _ _ _ Hk.out (by decide)).mono ?_
  rintro e w3 ⟨rfl, rfl⟩
  go_wp2_with fail
  go_at_call 121
  refine (rcrcon_any _ l _ _ _ _ (HX.out.below F2.out.low) (by have := HN.out; omega)).mono ?_
  rintro e w4 ⟨rfl, rfl⟩
  go_wp2
  go_ret
  exact ⟨rfl, F2.out.low⟩

theorem RetB.freshN {w w' : World} {n : Nat} {l : List UInt8} {e : Ending} (h : RetB w n l e w') (hn : n = l.length) : RetF w l e w' := h.fresh hn
theorem Fresh.since {w w1 w2 : World} {B : Option Addr} {D : Nat} {l : List UInt8} {blk : Option Nat} (hl : Below w.heap.size w w1) (h : Fresh w1 w2 B D l blk) : Fresh w w2 B D l blk := ⟨h.own, fun b e => Nat.le_trans hl.size (h.fresh b e), bthen hl h.low⟩
theorem RetF.since {w w1 w2 : World} {l : List UInt8} {e : Ending} (hl : Below w.heap.size w w1) (h : RetF w1 l e w2) : RetF w l e w2 := by
  obtain ⟨B, C, blk, he, hf⟩ := h
  exact ⟨B, C, blk, he, hf.since hl⟩
theorem joinedF (x y : List UInt8) (a : Option Addr) (c : Nat) (a2 : Option Addr) (c2 : Nat) (w : World) (X : Txt w a x.length c x) (Y : Txt w a2 y.length c2 y) (hn : x.length ≤ 1099511627776) (hm : y.length ≤ 1099511627776) :
    Calls Tryz.prog 87 #[.slice a x.length c, .slice a2 y.length c2] w (RetF w (x ++ y)) :=
  (joined_any x y a x.length c a2 y.length c2 w X Y hn hm).mono fun _ _ h => h.fresh (by simp)
set_option maxRecDepth 100000 in
set_option maxHeartbeats 1000000 in
/-- wicketref01.Seal, of what fits. -/
theorem rseal_any (k : UInt8) (l : List UInt8) (A : Option Addr) (C : Nat) (w : World) (X : Txt w A l.length C l) (hk : k ≠ 0) (hl : l.length ≤ 2097152) :
    Calls Tryz.prog 49 #[V8 k, .slice A l.length C] w (RetSeal w (sealed k l, 0)) := by
  have hkd : decide (k = 0) = false := by simpa using hk
  have hn' : decide ((2097152 : Int) < l.length) = false := by simp; omega
  have HX := Lib.hid X
  have HN := Lib.hid hl
  obtain ⟨hd, hhd⟩ : ∃ hd, hd = headOf l.length := ⟨_, rfl⟩
  obtain ⟨cr, hcr⟩ : ∃ cr, cr = crcOn (frameCrc (headOf l.length) [k]) l := ⟨_, rfl⟩
  have HS := Lib.hid (show sealed k l = (hd ++ wordB cr ++ [k]) ++ l by unfold sealed; rw [hhd, hcr])
  have h4 : Hid (Calls Tryz.prog 89 #[V32 (BitVec.ofNat 32 l.length)] w (RetF w hd)) := by
    rw [hhd]
    exact Lib.hid (rfour_any (BitVec.ofNat 32 l.length) w)
  have hs : Hid (∀ W, Below w.heap.size w W → Calls Tryz.prog 90 #[V8 k, .slice A l.length C] W fun e w' => e = .returned (V32 cr) ∧ Below W.heap.size W w') := by
    rw [hcr]
    exact Lib.hid fun W hW => rsum1_any k l A C W (X.below hW) hl
  have Hhl : Hid (hd.length = 4) := by rw [hhd]; exact Lib.hid rfl
  clear X hl hhd hcr hk
  go_enter Tryz.func49, Tryz.ntmps49
  go_wp2_with fail
  have hcw : Value.int .u32 ((l.length : Int) % 4294967296) = V32 (BitVec.ofNat 32 l.length) := by unfold V32; simp
  rw [hcw]
  clear hcw
  go_at_call 89
  refine h4.out.mono ?_
  rintro e w1 ⟨B1, C1, b1, rfl, F1⟩
  have F1 := Lib.hid F1
  clear h4
  go_wp2_with fail
  go_at_call 90
  refine (hs.out w1 F1.out.low).mono ?_
  rintro e w2 ⟨rfl, h2⟩
  have F2 := Lib.hid (F1.out.next h2)
  clear F1 hs h2
  go_wp2_with fail
  go_at_call 89
  refine (rfour_any cr w2).mono ?_
  rintro e w3 ⟨B3, C3, b3, rfl, F3⟩
  have F4 := Lib.hid (F2.out.next F3.low)
  have F3 := Lib.hid F3
  have hw4 : (wordB cr).length = 4 := rfl
  have Hw4 := Lib.hid hw4
  generalize wordB cr = wc at F3 HS Hw4 ⊢
  clear F2 hw4
  go_wp2_with fail
  go_at_call 87
  refine (joinedF hd wc _ _ _ _ w3 F4.out.txt F3.out.txt (by rw [Hhl.out]; decide) (by rw [Hw4.out]; decide)).mono ?_
  rintro e w5 ⟨B5, C5, b5, rfl, F5⟩
  have F6 := Lib.hid (F5.since F4.out.low)
  have Hp : Hid ((hd ++ wc).length = 8) := Lib.hid (by rw [List.length_append, Hhl.out, Hw4.out])
  generalize hd ++ wc = pre at F6 HS Hp ⊢
  clear F5 F4 F3
  have z1 : pre.length + 1 ≤ maxLen := by rw [Hp.out]; decide
  have z2 : (pre.length + 1) * 1 ≤ 140737488355328 := by rw [Hp.out]; decide
  go_wp2_with (at_builtin; refine wpList_app rfl _ _ 22 rfl 5 1 1 _ Tryz.underlying22 info_u8r rfl (by decide) B5 pre.length C5 (pre.map V8) b5 rfl (F6.out.own.below (low1 _ _)) (some ⟨w5.heap.size, 0, none⟩) 1 1 ([k].map V8) rfl rfl (CellsAt.of_block (blk1 _ _)) (fun h => by cases h) (fun ad h => ⟨_, _, (Option.some.inj h).symm⟩) (bone _) z1 z2 ?_; intro B7 D7 w7 b7 h1 h2 h3; have F7 := Lib.hid ((F6.out.next (low1 _ _)).app (l' := [k]) rfl h1 h2 h3); clear h1 h2 h3)
  have hpl : (pre ++ [k]).length = pre.length + 1 := by simp
  rw [← hpl]
  go_at_call 87
  refine (joinedF (pre ++ [k]) l _ _ _ _ w7 F7.out.txt (HX.out.below F7.out.low) (by rw [hpl, Hp.out]; decide) (by have := HN.out; omega)).mono ?_
  rw [← HS.out]
  rintro e w8 ⟨B8, C8, b8, rfl, F8⟩
  have F9 := Lib.hid (F8.since F7.out.low)
  clear F8 hpl
  go_wp2
  go_ret2
  exact ⟨B8, C8, b8, rfl, F9.out.own, F9.out.fresh, F9.out.low⟩
end Go.Proofs.YtgpenpnobjecgaaGreatDoor

/- R6Bytes -/
namespace Go.Proofs.YtgpenpnobjecgaaGreatDoor
set_option maxRecDepth 100000
open Go.RowKit

set_option maxRecDepth 100000 in
set_option maxHeartbeats 1000000 in
theorem r6frame_any (k : UInt8) (n : Nat) (p : List UInt8) (A : Option Addr) (C : Nat) (w : World) (X : TxtW w A p.length C p) (hk : k ≠ 0) (hn : n < 9223372036854775808) (hl : p.length ≤ 2097142) :
    Calls Tryz.prog 12 #[V8 k, .int .i64 n, .slice A p.length C] w (RetF w (sealW k n p)) := by
  have hgl := groups_len n (by omega)
  have hnil : Txt w none 0 0 [] := ⟨rfl, ⟨⟨fun h => by cases h⟩, Nat.le_refl _, fun _ => rfl, fun ad h => by cases h⟩⟩
  have hpu := Lib.hid (rputuint_any [] none 0 0 n w hnil (by decide) (by omega))
  have HX := Lib.hid X
  have HK := Lib.hid hk
  obtain ⟨G, hG⟩ : ∃ G, G = groups n := ⟨_, rfl⟩
  have hs := Lib.hid (show sealed k (G ++ p) = sealW k n p by rw [hG]; rfl)
  rw [← hG, List.nil_append] at hpu
  rw [← hG] at hgl
  have hcv := conv_u64 n hn
  clear X hnil hG hk hn
  have z1 : G.length + p.length ≤ maxLen := by unfold maxLen; omega
  have z2 : (G.length + p.length) * 1 ≤ 140737488355328 := by omega
  go_enter Tryz.func12, Tryz.ntmps12
  go_wp2_with fail
  go_at_call 48
  refine hpu.out.mono ?_
  intro e w1 h
  obtain ⟨B1, C1, b1, rfl, F1⟩ := h.fresh (by simp)
  have H1 := Lib.hid F1
  clear h F1 hpu hcv
  go_wp2_with (at_builtin; refine wpList_app0 rfl _ _ 22 rfl 5 1 1 _ Tryz.underlying22 info_u8r rfl (by decide) B1 G.length C1 (G.map V8) b1 rfl H1.out.own A p.length C (p.map V8) rfl (by simp) (HX.out.below H1.out.low).cells HX.out.nil (bone p) z1 z2 ?_; intro B2 D2 w2 b2 h1 h2 h3; have F2 := Lib.hid (H1.out.app rfl h1 h2 h3); clear h1 h2 h3)
  go_at_call 49
  have hsl : (G ++ p).length = G.length + p.length := List.length_append
  rw [← hsl]
  refine (rseal_any k (G ++ p) B2 D2 w2 F2.out.txt HK.out (by omega)).mono ?_
  rw [hs.out]
  rintro e w3 ⟨B3, C3, b3, rfl, h1, h2, h3⟩
  have F3 : Fresh w w3 B3 C3 (sealW k n p) b3 := ⟨h1, fun b hb => Nat.le_trans F2.out.low.size (h2 b hb), bthen F2.out.low h3⟩
  have F3 := Lib.hid F3
  clear h1 h2 h3 hsl
  go_wp2
  go_ret
  exact ⟨B3, C3, b3, rfl, F3.out⟩
set_option maxRecDepth 100000 in
set_option maxHeartbeats 1000000 in
theorem r6bytes_any (n : Nat) (state : List UInt8) (records : List (List UInt8)) (A : Option Addr) (C : Nat) (R : Option Addr) (K : Nat) (w : World) (X : TxtW w A state.length C state) (Y : RowsW w R records.length records) (hn : n < 9223372036854775808) (hl : state.length ≤ 1048576) (hr : ∀ r ∈ records, r.length ≤ 65536) (hc : records.length ≤ 4194304) :
    Calls Tryz.prog 11 #[.int .i64 n, .slice A state.length C, .slice R records.length K] w (RetF w (bytesW n state records)) := by
  have hs := Lib.hid (r6frame_any 1 n state A C w X (by decide) (by omega) (by omega))
  have HY := Lib.hid Y
  have HR := Lib.hid hr
  have hv : (V8 1) = .int .u8 1 := rfl
  rw [hv] at hs
  clear X Y hr hv
  go_enter Tryz.func11, Tryz.ntmps11
  go_wp2_with fail
  go_at_call 12
  refine hs.out.mono ?_
  rintro e w1 ⟨B1, C1, b1, rfl, F1⟩
  have F1 := Lib.hid F1
  have HN := Lib.hid hn
  clear hs hn
  go_wp2
  go_loopw [7, 8] (fun sv iv wr => ∃ (i : Nat) (acc : List UInt8) (B : Option Addr) (D : Nat) (blk : Option Nat), sv = .slice B acc.length D ∧ iv = .int .i64 i ∧ Hid (i ≤ records.length ∧ acc = sealW 1 n state ++ recsW 1 (records.take i) ∧ Fresh w wr B D acc blk)) (fun _ iv _ => records.length - (intOf iv).toNat)
  case atStart => exact ⟨0, sealW 1 n state, B1, C1, b1, rfl, rfl, Lib.hid ⟨Nat.zero_le _, by simp [recsW], F1.out⟩⟩
  case round =>
    obtain ⟨i, acc, B, D, blk, rfl, rfl, hI⟩ := hrel
    by_cases hlt : i < records.length
    · have h1 : (i : Int) < records.length := by omega
      obtain ⟨r, hr⟩ : ∃ r, records[i]? = some r := ⟨_, List.getElem?_eq_getElem hlt⟩
      obtain ⟨b, o, Br, cr, rfl, q1, q2⟩ := (HY.out.below hI.out.2.2.low).each i r hr
      have hrl := HR.out r (List.mem_of_getElem? hr)
      have hs2 := Lib.hid (fun W (hW : RowKit.Below wr.heap.size wr W) => r6frame_any 2 (i + 1) r Br cr W (q2.below hW) (by decide) (by omega) (by omega))
      rw [show (V8 2) = .int .u8 2 from rfl] at hs2
      have Hr := Lib.hid hr
      have Hrl := Lib.hid hrl
      have hal : acc.length ≤ 1048595 + 65555 * i := by
        have h1 := recsW_len (records.take i) 1 (by rw [List.length_take]; omega) (fun x hx => HR.out x (List.mem_of_mem_take hx))
        have h2 := groups_len n (by have := HN.out; omega)
        rw [hI.out.2.1, List.length_append, sealW_len]
        rw [List.length_take, Nat.min_eq_left (by omega)] at h1
        omega
      have hsl : (sealW 2 (i + 1) r).length ≤ 65555 := by
        rw [sealW_len]
        have := groups_len (i + 1) (by omega)
        omega
      have htk : records.take i ++ [r] = records.take (i + 1) := by rw [List.take_add_one, hr]; rfl
      have hnx : acc ++ sealW 2 (i + 1) r = sealW 1 n state ++ recsW 1 (records.take (i + 1)) := by
        rw [hI.out.2.1, ← htk, recsW_push, List.append_assoc, List.length_take, Nat.min_eq_left (by omega), Nat.add_comm 1 i]
      have Hnx := Lib.hid hnx
      obtain ⟨sl, hsl2⟩ : ∃ sl, sl = sealW 2 (i + 1) r := ⟨_, rfl⟩
      rw [← hsl2] at Hnx hs2 hsl
      have z1 : acc.length + sl.length ≤ maxLen := by unfold maxLen; omega
      have z2 : (acc.length + sl.length) * 1 ≤ 140737488355328 := by omega
      clear hr q2 hrl hal hsl htk hnx hsl2
      go_wp2_with fail
      go_at_call 12
      have hs3 := hs2.out wr (Below.refl _ _)
      rw [Int.natCast_add, Int.natCast_one] at hs3
      refine hs3.mono ?_
      rintro e w2 ⟨B2, C2, b2, rfl, F2⟩
      have F2 := Lib.hid F2
      clear hs3 hs2
      go_wp2_with (at_builtin; refine wpList_app rfl _ _ 22 rfl 5 1 1 _ Tryz.underlying22 info_u8r rfl (by decide) B acc.length D (acc.map V8) blk rfl (hI.out.2.2.own.below F2.out.low) B2 sl.length C2 (sl.map V8) rfl (by simp) F2.out.txt.src.at_.cells F2.out.txt.src.nil F2.out.txt.src.od (bone sl) z1 z2 ?_; intro B3 D3 w3 b3 h1 h2 h3; have F3 := Lib.hid ((hI.out.2.2.next F2.out.low).app rfl h1 h2 h3); clear h1 h2 h3)
      go_roundw
      case rel => exact ⟨i + 1, acc ++ sl, B3, D3, b3, by simp, by go_num, Lib.hid ⟨by omega, Hnx.out, F3.out⟩⟩
      case measure => simp [intOf]; omega
    · obtain rfl : i = records.length := by have := hI.out.1; omega
      have h1 : ¬ (records.length : Int) < (records.length : Int) := by omega
      go_wp2
      go_ret
      have h2 := hI.out.2.1
      rw [List.take_length] at h2
      have F := hI.out.2.2
      rw [h2] at F ⊢
      exact ⟨B, D, blk, rfl, F⟩
end Go.Proofs.YtgpenpnobjecgaaGreatDoor

/- App2 -/
namespace Go.Proofs.YtgpenpnobjecgaaGreatDoor
set_option maxRecDepth 100000
open Go.RowKit

/-- New memory alone, and all of it bytes. -/
structure LowU (w w' : World) : Prop where
  low : Below w.heap.size w w'
  byt : ∀ b, w.heap.size ≤ b → b < w'.heap.size → ∃ cs fr, w'.heap[b]? = some (.cells cs 5 fr)
theorem LowU.refl (w : World) : LowU w w := ⟨Below.refl _ _, fun b h1 h2 => by omega⟩
theorem LowU.then {w w1 w2 : World} (h : LowU w w1) (h' : LowU w1 w2) : LowU w w2 := ⟨bthen h.low h'.low, fun b h1 h2 => by
  rcases Nat.lt_or_ge b w1.heap.size with h3 | h3
  · obtain ⟨cs, fr, h4⟩ := h.byt b h1 h3
    exact ⟨cs, fr, bblk h'.low h4⟩
  · exact h'.byt b h3 h2⟩
theorem lowU1 (w : World) (cs : Array Value) : LowU w (w.alloc (.cells cs 5)) := ⟨low1 _ _, fun b h1 h2 => by
  have h3 : b = w.heap.size := by simp at h2; omega
  subst h3
  exact ⟨cs, _, blk1 _ _⟩⟩
theorem lowU_grow (w : World) (cs : Array Value) : LowU w (w.drew.alloc (.cells cs 5)) := ⟨(low1 _ _).drew, fun b h1 h2 => by
  have h3 : b = w.drew.heap.size := by simp at h2; show b = w.heap.size; omega
  subst h3
  exact ⟨cs, _, blk1 _ _⟩⟩
theorem app_bytes {w : World} {g n C m c : Nat} {xs news : List UInt8} (ty : TypeId) (H : OwnR w 5 1 (some ⟨g, 0, none⟩) n C (xs.map V8) (some g)) (a : Addr) (hl : news.length = m) (hnews : ∀ j u, (news.map V8)[j]? = some u → w.cell? (a.add j) = some u) (hnm : n + m ≤ 70368744177664) :
    ∃ gB D w', (Builtin.append_ #[22, 22] ty #[.slice (some ⟨g, 0, none⟩) n C, .slice (some a) m c]).run Tryz.prog w = .ok (.slice (some ⟨gB, 0, none⟩) (n + m) D) w' ∧
      OwnR w' 5 1 (some ⟨gB, 0, none⟩) (n + m) D ((xs ++ news).map V8) (some gB) ∧ ((gB = g ∧ D = C ∧ w.grownBy w' (some g) ∧ w'.heap.size = w.heap.size) ∨ (gB = w.heap.size ∧ LowU w w')) := by
  obtain ⟨i, hi, hz, hsize, hby⟩ := info_parts info_u8r
  rcases H.form with ⟨h, _⟩ | ⟨g', cur, hg', _, hg, h1, h2, h3, h4⟩
  · cases h
  obtain rfl : g = g' := by cases hg'; rfl
  have hxl : (xs.map V8).length = n * 1 := H.length
  by_cases hroom : n + m ≤ C
  · have hbg : 0 ≤ g := Nat.zero_le _
    have hlen : (xs.map V8 ++ news.map V8).length = (n + m) * i.size := by rw [List.length_append, hsize, hxl, List.length_map, hl]; omega
    have hfit : n * i.size + (news.map V8).length ≤ cur.size := by rw [hsize, List.length_map, hl, h3]; omega
    have hr := run_append_room (P := Tryz.prog) w 22 ty 5 i Tryz.underlying22 hi g n C cur hg a m c (news.map V8) (by rw [hsize, List.length_map, hl]; omega) hnews (bone news) hroom hfit
    refine ⟨g, C, _, hr, .of_row (setRow_heap w g cur _ 5 _ hg) hroom h2 ?_ ?_, .inl ⟨rfl, rfl, ⟨rfl, rfl, rfl, by simp, fun k _ hk => setRow_other w g k _ (fun e => hk (by simp [e]))⟩, by simp⟩⟩
    · simp only [List.size_toArray, List.length_append, List.length_take, List.length_drop, Array.length_toList]
      omega
    · rw [hsize]
      rw [h4, List.map_append, show (n + m) * 1 = (xs.map V8 ++ news.map V8).length by rw [hlen, hsize]]
      exact List.take_left
  · have hold : ∀ (j : Nat) v, (xs.map V8)[j]? = some v → w.cell? ((⟨g, 0, none⟩ : Addr).add j) = some v := fun j v hj => by
      obtain ⟨g2, hg2, _, hc⟩ := H.cell hj
      obtain rfl : g = g2 := by cases hg2; rfl
      rw [Addr.add_lit]
      simpa using hc
    have hr := run_append_grow (P := Tryz.prog) w 22 ty 5 i _ Tryz.underlying22 hi hz ⟨g, 0, none⟩ n C (xs.map V8) (by rw [hsize]; exact hxl) hold a m c (news.map V8) (by rw [hsize]; simp [hl]) hnews (by omega) (by omega) (growslice_fits (by omega) (by rw [hby]; omega))
    have hge := grownCap_ge w (n + m) C 5
    have hcm := grownCap_le_maxLen w (n + m) C 5 (by unfold maxLen; omega)
    refine ⟨w.heap.size, _, _, hr, .of_row (heap_alloc_new w.drew _) hge hcm ?_ ?_, .inr ⟨rfl, lowU_grow w _⟩⟩
    · simp only [Array.size_append, List.size_toArray, size_zeroCells, hxl, List.length_map, hl, Value.cells, List.length_singleton]
      omega
    · rw [List.map_append]
      simp only [Array.toList_append]
      rw [show (n + m) * 1 = (xs.map V8 ++ news.map V8).length by rw [List.length_append, hxl, List.length_map, hl]; omega]
      exact List.take_left
theorem txt_cells {w : World} {a : Addr} {n c : Nat} {l : List UInt8} (X : Txt w (some a) n c l) : ∀ (j : Nat) u, (l.map V8)[j]? = some u → w.cell? (a.add j) = some u := fun j u hj => by
  have hlt : j < l.length := by have := (List.getElem?_eq_some_iff.1 hj).1; simpa using this
  obtain ⟨b, o, e, hc⟩ := X.src.at_.at_ (by omega)
  obtain rfl := Option.some.inj e
  rw [Addr.add_lit]
  have h1 := hc j (by simpa using hlt)
  rw [h1]
  rw [← hj]
  simp [byteF, V8, List.getD, hlt]
end Go.Proofs.YtgpenpnobjecgaaGreatDoor

/- R6Name -/
namespace Go.Proofs.YtgpenpnobjecgaaGreatDoor
set_option maxRecDepth 100000
open Go.RowKit Dk

theorem dec_small {m : Nat} (h : m < 10) : Lib.decDigits m = [UInt8.ofNat (48 + m)] := by rw [Lib.decDigits, dif_pos h]
theorem dec_more {m : Nat} (h : ¬ m < 10) : Lib.decDigits m = Lib.decDigits (m / 10) ++ [UInt8.ofNat (48 + m % 10)] := by
  conv => lhs; rw [Lib.decDigits, dif_neg h]
theorem v8_digit (m : Nat) : V8 (UInt8.ofNat (48 + m % 10)) = .int .u8 (48 + (m : Int) % 10) := by
  simp only [V8, UInt8.toNat_ofNat']
  congr 1
  omega
theorem str_add (c : UInt8) (l : Bs) : (⟨#[c]⟩ : ByteArray) ++ ⟨l.toArray⟩ = ⟨(c :: l).toArray⟩ := by
  rw [ByteArray.ext_iff]
  simp
set_option maxRecDepth 100000 in
set_option maxHeartbeats 1000000 in
theorem r6digits_any (n : Nat) (hn : n < 9223372036854775808) (w : World) : Calls Tryz.prog 53 #[.int .i64 n] w fun e w' => e = .returned (strV (Lib.itoa n)) ∧ LowU w w' := by
  have hlen := Lib.hid (show (Lib.decDigits n).length ≤ 21 by have := Lib.itoa_length_le n (by omega) (by omega); rwa [Lib.itoa_nonneg] at this)
  rw [Lib.itoa_nonneg]
  have HN := Lib.hid hn
  obtain ⟨D, hD⟩ : ∃ D, D = Lib.decDigits n := ⟨_, rfl⟩
  rw [← hD] at hlen ⊢
  have HD := Lib.hid hD
  clear hD hn
  go_enter Tryz.func53, Tryz.ntmps53
  go_wp2
  go_loopw [0, 3] (fun nv sv wr => ∃ (m : Nat) (l : Bs), nv = .int .i64 m ∧ sv = .string ⟨l.toArray⟩ ∧ Hid (D = Lib.decDigits m ++ l ∧ m ≤ n) ∧ LowU w wr) (fun nv _ _ => (intOf nv).toNat)
  case atStart => exact ⟨n, [], rfl, rfl, Lib.hid ⟨by rw [List.append_nil]; exact HD.out, Nat.le_refl _⟩, LowU.refl _⟩
  case round =>
    obtain ⟨m, l, rfl, rfl, hG, hB⟩ := hrel
    have HB := Lib.hid hB
    have hl : l.length ≤ 21 := by have := hlen.out; rw [hG.out.1, List.length_append] at this; omega
    have hsz : (⟨l.toArray⟩ : ByteArray).size = l.length := by simp [ByteArray.size]
    have hmn : m < 9223372036854775808 := by have := hG.out.2; have := HN.out; omega
    obtain ⟨c, hc⟩ : ∃ c, c = UInt8.ofNat (48 + m % 10) := ⟨_, rfl⟩
    have Hc := Lib.hid hc
    have hcv : (convert 22 9 (.slice (some ⟨wr.heap.size, 0, none⟩) 1 1)).run Tryz.prog (wr.alloc (.cells #[.int .u8 (48 + (m : Int) % 10)] 5)) = .ok (.string ⟨#[c]⟩) (wr.alloc (.cells #[.int .u8 (48 + (m : Int) % 10)] 5)) :=
      text_of (l := [c]) rfl (Txt.of_one (blk1 _ _) (by rw [hc]; exact (v8_digit m).symm)).src
    have HL := Lib.hid (lowU1 wr #[.int .u8 (48 + (m : Int) % 10)])
    clear hB hc
    by_cases hlt : m < 10
    · have h1 : (m : Int) / 10 ≤ 0 := by omega
      go_wp2
      go_ret
      have h10 : Lib.decDigits m = [c] := by rw [Hc.out, Nat.mod_eq_of_lt hlt]; exact dec_small hlt
      refine ⟨?_, HB.out.then HL.out⟩
      show Ending.returned (Value.string ((⟨#[c]⟩ : ByteArray) ++ ⟨l.toArray⟩)) = _
      rw [str_add, hG.out.1, h10]
      rfl
    · have h1 : ¬ (m : Int) / 10 ≤ 0 := by omega
      go_wp2
      go_roundw
      case rel => exact ⟨m / 10, c :: l, by go_num, congrArg Value.string (str_add _ _), Lib.hid ⟨by rw [hG.out.1, dec_more hlt, List.append_assoc, ← Hc.out]; rfl, by have := hG.out.2; omega⟩, HB.out.then HL.out⟩
      case measure => simp [intOf]; omega
set_option maxRecDepth 100000 in
set_option maxHeartbeats 1000000 in
theorem r6name_u (n : Nat) (hn : n < 9223372036854775808) (w : World) : Calls Tryz.prog 14 #[.int .i64 n] w fun e w' => e = .returned (strV (nameW n)) ∧ LowU w w' := by
  have hi := Lib.hid (r6digits_any n hn w)
  generalize hl : Lib.itoa (n : Int) = l at hi
  have Hl := Lib.hid hl
  have hll : l.length ≤ 21 := by rw [← hl]; exact Lib.itoa_length_le n (by omega) (by omega)
  clear hl
  have hsz : (⟨l.toArray⟩ : ByteArray).size = l.length := by simp [ByteArray.size]
  go_enter Tryz.func14, Tryz.ntmps14
  go_wp2_with fail
  go_at_call 53
  refine hi.out.mono ?_
  rintro e w1 ⟨rfl, hB⟩
  have HB := Lib.hid hB
  clear hi hB
  unfold strV
  go_wp2
  go_ret
  refine ⟨?_, HB.out⟩
  unfold nameW
  rw [Hl.out]
  rfl
theorem r6name_any (n : Nat) (hn : n < 9223372036854775808) (w : World) : Calls Tryz.prog 14 #[.int .i64 n] w fun e w' => e = .returned (strV (nameW n)) ∧ Below w.heap.size w w' :=
  (r6name_u n hn w).mono fun _ _ h => ⟨h.1, h.2.low⟩
end Go.Proofs.YtgpenpnobjecgaaGreatDoor

/- LawCuts0 -/
namespace Go.Proofs.YtgpenpnobjecgaaGreatDoor
set_option maxRecDepth 100000
open Go.RowKit Dk

/-- The law's argument. -/
def tornV (n torn : Int) (A B R : Option Addr) (a b r C D K : Nat) : Value := .agg #[.int .i64 n, .slice A a C, .slice R r K, .slice B b D, .int .i64 torn]
set_option maxRecDepth 100000 in
set_option maxHeartbeats 4000000 in
theorem cuts_past {n torn : Int} {a b r : Nat} {A B R : Option Addr} {C D K : Nat} {w : World} (hT : Tabs6 w) (hb : n < 1 ∨ 1099511627776 ≤ n ∨ 1048576 < a ∨ 65536 < b ∨ 10000 < r) :
    Calls Tryz.prog 3 #[tornV n torn A B R a b r C D K] w fun e w' => e = .returned (.bool true) ∧ RowKit.Below w.heap.size w w' := by
  have HT := Lib.hid hT
  have key : decide (n < 1) = true ∨ (decide (n < 1) = false ∧ decide ((1099511627776 : Int) ≤ n) = true) ∨ (decide (n < 1) = false ∧ decide ((1099511627776 : Int) ≤ n) = false ∧ decide ((1048576 : Int) < a) = true) ∨ (decide (n < 1) = false ∧ decide ((1099511627776 : Int) ≤ n) = false ∧ decide ((1048576 : Int) < a) = false ∧ decide ((65536 : Int) < b) = true) ∨ (decide (n < 1) = false ∧ decide ((1099511627776 : Int) ≤ n) = false ∧ decide ((1048576 : Int) < a) = false ∧ decide ((65536 : Int) < b) = false ∧ decide ((10000 : Int) < r) = true) := by
    simp only [decide_eq_true_eq, decide_eq_false_iff_not]
    omega
  clear hT hb
  unfold tornV
  rcases key with k1 | ⟨k1, k2⟩ | ⟨k1, k2, k3⟩ | ⟨k1, k2, k3, k4⟩ | ⟨k1, k2, k3, k4, k5⟩
  all_goals
    go_enter Tryz.func3, Tryz.ntmps3
    go_wp2
    go_quiet (fail)
    have HB := Lib.hid (bthen (low1 w (.cells #[Value.int .i64 n, .slice A a C, .slice R r K, .slice B b D, .int .i64 torn] 25)) (below_drewN _ nq))
    go_wp2_with (go_at_call 10; refine (l6live_any (HT.out.low HB.out)).mono ?_; rintro e w9 ⟨rfl, h9⟩; have H9 := Lib.hid (bthen HB.out h9); clear h9)
    go_ret
    exact ⟨rfl, H9.out⟩
end Go.Proofs.YtgpenpnobjecgaaGreatDoor
