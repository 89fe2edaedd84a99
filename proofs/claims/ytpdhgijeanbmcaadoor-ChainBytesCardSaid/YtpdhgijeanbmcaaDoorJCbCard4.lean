/- chain.Holds. -/
import Derived.SliceStrings
import Derived.Laws.CopyOwn
import Derived.Laws.MakeOwn
import Derived.Lib.AppendStr
import Derived.Deep.DeepCutAuto
import Derived.Test.YtpdhgijeanbmcaaDoorJCbCard3
/- RMac -/
namespace Go.Proofs.YtpdhgijeanbmcaaDoor
open Go.RowKit

theorem grownBy_none {w w' : World} (h : w.grownBy w' none) : Below w.heap.size w w' := ⟨h.os, h.tape, h.output, h.size, fun i hi => h.block i hi (fun e => by cases e)⟩
theorem Acc.keep {e size : Nat} {w0 w w' : World} {base : Nat} {A A' : Option Addr} {C n : Nat} {cs : List Value} (h : Acc e size w0 w base A C n cs) (hg : w.grownBy w' (A'.map (·.block))) (hk : ∀ ad, A' = some ad → base ≤ ad.block)
    (hne : ∀ ad ad', A = some ad → A' = some ad' → ad.block ≠ ad'.block) : Acc e size w0 w' base A C n cs := by
  cases A' with
  | none => exact h.below (grownBy_none hg)
  | some ad' => exact h.other hg (hk ad' rfl) fun ad had => hne ad ad' had rfl
theorem zero_next (K : List UInt8) (q e : Nat) (h : q ≤ e) : (K ++ List.replicate (e - q) 0).map V8 ++ [V8 0] = (K ++ List.replicate (e + 1 - q) 0).map V8 := by
  rw [show e + 1 - q = e - q + 1 by omega]
  simp [List.replicate_succ']
/-- The key, filled up to e bytes. -/
def KAt (w0 : World) (base : Nat) (K : List UInt8) (v : Value) (wr : World) : Prop := ∃ e B C, K.length ≤ e ∧ e ≤ 64 ∧ v = .slice B e C ∧ Acc 5 1 w0 wr base B C e ((K ++ List.replicate (e - K.length) 0).map V8)
/-- Two lists of the call's own that lie apart. -/
structure Two (w2 wr : World) (base : Nat) (B1 : Option Addr) (C1 n1 : Nat) (l1 : List UInt8) (B2 : Option Addr) (C2 n2 : Nat) (l2 : List UInt8) : Prop where
  one : Acc 5 1 w2 wr base B1 C1 n1 (l1.map V8)
  two : Acc 5 1 w2 wr base B2 C2 n2 (l2.map V8)
  apart : ∀ ad ad', B1 = some ad → B2 = some ad' → ad.block ≠ ad'.block
theorem Two.start (w2 : World) : Two w2 w2 w2.heap.size none 0 0 [] none 0 0 [] := ⟨Acc.start _ _ _ _ _ (Below.refl _ _) (Nat.le_refl _), Acc.start _ _ _ _ _ (Below.refl _ _) (Nat.le_refl _), fun _ _ h => by cases h⟩
theorem Two.at1 {w2 wr w' : World} {base : Nat} {B1 B2 D1 : Option Addr} {C1 n1 C2 n2 E1 m1 : Nat} {l1 l2 l3 : List UInt8} (h : Two w2 wr base B1 C1 n1 l1 B2 C2 n2 l2)
    (ha : Acc 5 1 w2 w' base D1 E1 m1 (l3.map V8)) (hg : wr.grownBy w' (B1.map (·.block))) (hn : ∀ ad, D1 = some ad → B1 = some ad ∨ wr.heap.size ≤ ad.block) : Two w2 w' base D1 E1 m1 l3 B2 C2 n2 l2 :=
  ⟨ha, h.two.keep hg (fun ad had => (h.one.block ad had).1) (fun ad ad' h1 h2 => (h.apart ad' ad h2 h1).symm), fun ad ad' h1 h2 => by
    rcases hn ad h1 with h3 | h3
    · exact h.apart ad ad' h3 h2
    · have := (h.two.block ad' h2).2; omega⟩
theorem Two.at2 {w2 wr w' : World} {base : Nat} {B1 B2 D2 : Option Addr} {C1 n1 C2 n2 E2 m2 : Nat} {l1 l2 l3 : List UInt8} (h : Two w2 wr base B1 C1 n1 l1 B2 C2 n2 l2)
    (ha : Acc 5 1 w2 w' base D2 E2 m2 (l3.map V8)) (hg : wr.grownBy w' (B2.map (·.block))) (hn : ∀ ad, D2 = some ad → B2 = some ad ∨ wr.heap.size ≤ ad.block) : Two w2 w' base B1 C1 n1 l1 D2 E2 m2 l3 :=
  ⟨h.one.keep hg (fun ad had => (h.two.block ad had).1) (fun ad ad' h1 h2 => h.apart ad ad' h1 h2), ha, fun ad ad' h1 h2 => by
    rcases hn ad' h2 with h3 | h3
    · exact h.apart ad ad' h1 h3
    · have := (h.one.block ad h1).2; omega⟩
theorem rsum_is (R : List UInt8) (l : List UInt8) (a : Option Addr) (m c : Nat) (w : World) (hR : R = Sha.sum l) (hm : m = l.length) (hT : Tabs w) (S : Src w a c l) (hlen : l.length < 70368744177664) :
    Calls Tryd.prog 43 #[.slice a m c] w fun e w' => e = .returned (sumV R) ∧ Below w.heap.size w w' := by
  subst hR
  exact rsum_any l a m c w hm hT S hlen
theorem size_sum' (l : List UInt8) (h : l.length = 32) : (Tryd.prog.info? 29).map (·.size) = some (l.map V8).toArray.size := by
  rw [show (Tryd.prog.info? 29).map (·.size) = some 32 from by kernel_rfl]
  simp [h]
theorem box_bytes {w : World} {g : Nat} {s : List UInt8} {t : TypeId} {fr : Nat × Nat} (h : w.heap[g]? = some (.cells (s.map V8).toArray t fr)) : BytesAt w (some ⟨g, 0, none⟩) s :=
  ⟨fun _ => ⟨g, 0, rfl, fun j hj => by rw [Nat.zero_add]; exact cell_block h (by simp [byteF, hj, List.getD])⟩⟩

set_option maxRecDepth 100000 in
set_option maxHeartbeats 400000 in
theorem rmac_any (key : List UInt8) (a : Option Addr) (m c : Nat) (ps : List Part) (b n : Nat) (w : World) (hm : m = key.length) (hT : Tabs w) (S : Src w a c key) (hn : n = ps.length) (hP : Parts w b ps)
    (hlen : key.length < 70368744177664) (hn9 : n ≤ 1000000) (htot : tot ps ps.length ≤ 35184372088832) :
    Calls Tryd.prog 39 #[.slice a m c, .slice (some ⟨b, 0, none⟩) n n] w fun e w' => e = .returned (sumV (Sha.mac key (cat ps ps.length))) ∧ Below w.heap.size w w' := by
  have S' := Lib.hid S
  have HP := Lib.hid hP
  have Hm := Lib.hid hm
  have hml : m < 70368744177664 := by omega
  have Hn := Lib.hid hn
  have Ht := Lib.hid htot
  have Hmac : Sha.mac key (cat ps ps.length) = Sha.sum (Sha.xout key ++ Sha.sum (Sha.xin key ++ cat ps ps.length)) := rfl
  have HMac := Lib.hid Hmac
  obtain ⟨R, hR⟩ : ∃ R, R = Sha.mac key (cat ps ps.length) := ⟨_, rfl⟩
  rw [← hR] at HMac ⊢
  have hRl : R.length = 32 := by rw [hR]; exact Sha.mac_len _ _
  have HRl := Lib.hid hRl
  have z1 : 0 + m ≤ maxLen := by unfold maxLen; omega
  have z2 : (0 + m) * 1 ≤ 140737488355328 := by omega
  have Hlen := Lib.hid hlen
  clear S hP hm hn htot Hmac hR hRl hlen
  have HB0 := Lib.hid (low1 w)
  have HB1 := Lib.hid (low2 w)
  have HZ0 := Lib.hid (blk1 w (.cells (zeros8 32) 29))
  have hcase : 64 < m ∨ ¬ 64 < m := by omega
  rcases hcase with h64 | h64
  case' inl =>
    have hi : (64 : Int) < (m : Int) := by omega
    have hkey : Sha.sum key = Sha.key key := by unfold Sha.key; rw [if_pos (by have := Hm.out; omega)]
    obtain ⟨K, hK⟩ : ∃ K, K = Sha.key key := ⟨_, rfl⟩
    rw [← hK] at hkey
    have hKl : K.length = 32 := by rw [← hkey]; exact Sha.sum_length _
    have HK := Lib.hid hK
    have Hk := Lib.hid hkey.symm
    have HKl := Lib.hid hKl
    have y1 : 0 + 32 ≤ maxLen := by decide
    have y2 : (0 + 32) * 1 ≤ 140737488355328 := by decide
    clear hK hkey hKl
    go_enter Tryd.func39, Tryd.ntmps39
    go_wp2_with (first | (go_at_call 43; refine (rsum_is K key B1 _ D1 w1 Hk.out Hm.out (hT.below ((HB0.out _).trans (HA1.out.low.mono (by omega)))) HA1.out.src Hlen.out).mono ?_; rintro e w2 ⟨rfl, hB⟩; have HB2 := Lib.hid hB; clear hB) | (refine wpList_store_row' rfl 29 _ _ rfl w2.heap.size (K.map V8).toArray rfl rfl _ _ (blk1 _ _) (size_sum' K HKl.out) (by simp [HKl.out]) (oneCells K) ?_; intro w3 h3 g3 s3; have H3 := Lib.hid h3; have HG3 := Lib.hid g3; clear h3 g3 s3) | (at_builtin; refine wpList_acc rfl _ _ 22 rfl 5 1 1 _ Tryd.underlying22 info_u8' rfl (by decide) w3 w3.heap.size (some ⟨w3.heap.size, 0, none⟩) 0 0 [] rfl (Acc.lit' rfl #[] 0 (Below.refl _ _) (Nat.le_refl _) (by decide) rfl) (some ⟨w2.heap.size, 0, none⟩) 32 32 (K.map V8) rfl (by simp [HKl.out]) (box_bytes (at_old _ H3.out)).cells (fun h => by cases h) (fun ad h => ⟨_, _, (Option.some.inj h).symm⟩) (ones' K) y1 y2 ?_; intro B4 D4 w4 hacc hg hnew; rw [List.nil_append, Nat.zero_add] at hacc; have HA4 := Lib.hid hacc; clear hacc hg hnew) | (at_builtin; refine wpList_acc rfl _ _ 22 rfl 5 1 1 _ Tryd.underlying22 info_u8' rfl (by decide) _ (w.heap.size + 1) (some ⟨w.heap.size + 1, 0, none⟩) 0 0 [] rfl (Acc.lit' (by simp) #[] 0 (Below.refl _ _) (by simp) (by decide) rfl) a m c (key.map V8) rfl (by simp [Hm.out]) (S'.out.below (HB1.out _ _)).at_.cells S'.out.nil S'.out.od (ones' key) z1 z2 ?_; intro B1 D1 w1 hacc hg hnew; rw [List.nil_append, Nat.zero_add] at hacc; have HA1 := Lib.hid hacc; clear hacc hg hnew))
    have i1 := HA1.out.base_le
    have i2 := HB2.out.size
    have hl3 : Below (w.heap.size + 1) (w.alloc (.cells (zeros8 32) 29)) w3 := ((HA1.out.low.trans (HB2.out.mono i1)).alloc (by omega) _).grown HG3.out (by rw [size_alloc]; omega) (fun k hk => by obtain rfl := Option.some.inj hk; omega)
    have HL3 := Lib.hid hl3
    clear i1 i2 hl3
    have hka : KAt (w.alloc (.cells (zeros8 32) 29)) (w.heap.size + 1) (Sha.key key) (.slice B4 32 D4) w4 := by
      rw [← HK.out]
      refine ⟨32, B4, D4, by rw [HKl.out]; decide, by decide, rfl, ?_⟩
      have := HA4.out.rebase (by have := HL3.out.size; simp at this; omega) HL3.out
      simpa [HKl.out] using this
    have HKA := Lib.hid hka
    clear hka HA4 HL3 HG3 H3 HB2 HA1 hi h64 y1 y2 HK Hk HKl
  case' inr =>
    have hi : ¬ (64 : Int) < (m : Int) := by omega
    have hkey : key = Sha.key key := by unfold Sha.key; rw [if_neg (by have := Hm.out; omega)]
    go_enter Tryd.func39, Tryd.ntmps39
    go_wp2_with (first | (at_builtin; refine wpList_acc rfl _ _ 22 rfl 5 1 1 _ Tryd.underlying22 info_u8' rfl (by decide) _ (w.heap.size + 1) (some ⟨w.heap.size + 1, 0, none⟩) 0 0 [] rfl (Acc.lit' (by simp) #[] 0 (Below.refl _ _) (by simp) (by decide) rfl) a m c (key.map V8) rfl (by simp [Hm.out]) (S'.out.below (HB1.out _ _)).at_.cells S'.out.nil S'.out.od (ones' key) z1 z2 ?_; intro B1 D1 w1 hacc hg hnew; rw [List.nil_append, Nat.zero_add] at hacc; have HA1 := Lib.hid hacc; clear hacc hg hnew))
    have hka : KAt (w.alloc (.cells (zeros8 32) 29)) (w.heap.size + 1) (Sha.key key) (.slice B1 m D1) w1 := by
      have e : m = (Sha.key key).length := by rw [← hkey]; exact Hm.out
      refine ⟨m, B1, D1, by omega, by omega, rfl, ?_⟩
      rw [← e, Nat.sub_self, ← hkey, List.replicate_zero, List.append_nil]
      exact HA1.out
    have HKA := Lib.hid hka
    clear hka HA1 hi h64 hkey
  all_goals
    obtain ⟨K0, hK0⟩ : ∃ K0, K0 = Sha.key key := ⟨_, rfl⟩
    rw [← hK0] at HKA
    have hpad : K0 ++ List.replicate (64 - K0.length) 0 = Sha.kpad key := by rw [hK0]; rfl
    have Hpad := Lib.hid hpad
    clear hK0 hpad
    go_loopw [5] (fun v wr => KAt (w.alloc (.cells (zeros8 32) 29)) (w.heap.size + 1) K0 v wr) (fun v _ => match v with | .slice _ e _ => 64 - e | _ => 0)
    case atStart => exact HKA.out
    case round =>
      clear HKA
      obtain ⟨e, B, C, he1, he, rfl, hA⟩ := hrel
      have HA := Lib.hid hA
      clear hA
      by_cases hlt : e < 64
      · have hei : (e : Int) < 64 := by omega
        have y3 : e + 1 ≤ maxLen := by unfold maxLen; omega
        have y4 : (e + 1) * 1 ≤ 140737488355328 := by omega
        go_wp2_with (at_builtin; refine wpList_acc1 rfl _ _ 22 rfl 5 1 _ Tryd.underlying22 info_u8' rfl _ (w.heap.size + 1) B C e _ (V8 0) rfl HA.out rfl rfl y3 y4 ?_; intro B3 D3 w5 hacc hg3 hnew; rw [zero_next _ _ _ he1] at hacc; have HA5 := Lib.hid hacc; clear hacc hg3 hnew)
        go_roundw
        case rel => exact ⟨e + 1, B3, D3, by omega, by omega, rfl, HA5.out⟩
        case measure => simp; omega
      · have hei : ¬ (e : Int) < 64 := by omega
        have he64 : e = 64 := by omega
        have hA := HA.out
        rw [show e - K0.length = 64 - K0.length by omega, Hpad.out] at hA
        obtain ⟨K, hK⟩ : ∃ K, K = Sha.kpad key := ⟨_, rfl⟩
        rw [← hK] at hA
        have hKl : K.length = 64 := by rw [hK]; exact Sha.kpad_len _
        have hxi : Sha.xin key = K.map (· ^^^ 0x36) := by rw [hK]; rfl
        have hxo : Sha.xout key = K.map (· ^^^ 0x5c) := by rw [hK]; rfl
        have HKl := Lib.hid hKl
        have Hxi := Lib.hid hxi
        have Hxo := Lib.hid hxo
        have hlow : Below w.heap.size w wr := (HB0.out _).trans (hA.low.mono (by omega))
        have hres := (hA.low.block _ (by omega)).trans HZ0.out
        have hsz := hA.base_le
        obtain ⟨kb, ko, rfl, hcell⟩ := hA.src.at_.at_ (by omega)
        have hkc : ∀ W, Below wr.heap.size wr W → ∀ j, j < 64 → W.cell? ⟨kb, ko + j, none⟩ = some (V8 (K.getD j 0)) := fun W hW j hj => ((hA.src.at_.below hW).at_ (by omega)).elim fun b h => h.elim fun o h => by
          obtain ⟨h1, h2⟩ := h
          simp only [Option.some.injEq, Addr.mk.injEq, and_true] at h1
          obtain ⟨rfl, rfl⟩ := h1
          exact h2 j (by omega)
        have hcap := hA.cap
        have HKC := Lib.hid hkc
        have HL := Lib.hid hlow
        have HRes := Lib.hid hres
        have He64 := Lib.hid he64
        clear hcell hkc hlow hres he64 hA HA Hpad hK hKl hxi hxo he1 he hlt
        rename World => w6
        go_wp2
        go_loopw [7, 8, 9] (fun u v i wq => ∃ j B1 C1 B2 C2, j ≤ 64 ∧ i = .int .i64 (j : Nat) ∧ u = .slice B1 j C1 ∧ v = .slice B2 j C2 ∧ Two w6 wq w6.heap.size B1 C1 j ((K.map (· ^^^ 0x36)).take j) B2 C2 j ((K.map (· ^^^ 0x5c)).take j)) (fun _ _ i _ => 64 - (intOf i).toNat)
        case atStart => exact ⟨0, none, 0, none, 0, by omega, rfl, rfl, rfl, by simpa using Two.start w6⟩
        case round =>
          obtain ⟨j, B1, C1, B2, C2, hj, rfl, rfl, rfl, hM⟩ := hrel
          have HM := Lib.hid hM
          clear hM
          by_cases hlt : j < 64
          · have hki : (j : Int) < 64 := by omega
            have hke : (j : Int) < (e : Int) := by have := He64.out; omega
            have hki0 : (0 : Int) ≤ (j : Int) := by omega
            have hn1 := cut_next K 0x36 j (by rw [HKl.out]; exact hlt)
            have hn2 := cut_next K 0x5c j (by rw [HKl.out]; exact hlt)
            have c0 := HKC.out _ HM.out.one.low j hlt
            have hkk := fun W hW => HKC.out W hW j hlt
            obtain ⟨x, hx⟩ : ∃ x, x = K.getD j 0 := ⟨_, rfl⟩
            rw [← hx] at hn1 hn2 c0
            simp only [← hx] at hkk
            have Hkk := Lib.hid hkk
            have Hn1 := Lib.hid (congrArg (List.map V8) hn1)
            have Hn2 := Lib.hid (congrArg (List.map V8) hn2)
            have y5 : j + 1 ≤ maxLen := by unfold maxLen; omega
            have y6 : (j + 1) * 1 ≤ 140737488355328 := by omega
            clear hn1 hn2 hx hkk
            go_wp2_with (first | (at_builtin; refine wpList_acc1 rfl _ _ 22 rfl 5 1 _ Tryd.underlying22 info_u8' rfl w6 w6.heap.size B2 C2 j _ _ rfl HM8.out.two rfl rfl y5 y6 ?_; intro B4 D4 w9 hacc hg hnew; rw [← List.map_singleton, ← List.map_append, Hn2.out] at hacc; have HM9 := Lib.hid (HM8.out.at2 hacc hg hnew); clear hacc hg hnew) | (at_builtin; refine wpList_acc1 rfl _ _ 22 rfl 5 1 _ Tryd.underlying22 info_u8' rfl w6 w6.heap.size B1 C1 j _ _ rfl HM.out.one rfl rfl y5 y6 ?_; intro B3 D3 w8 hacc hg hnew; rw [← List.map_singleton, ← List.map_append, Hn1.out] at hacc; have HM8 := Lib.hid (HM.out.at1 hacc hg hnew); have c1 := Hkk.out _ hacc.low; clear hacc hg hnew))
            go_roundw
            case rel => exact ⟨j + 1, B3, D3, B4, D4, by omega, by go_num, rfl, rfl, HM9.out⟩
            case measure => simp [intOf]; omega
          · have hki : ¬ (j : Int) < 64 := by omega
            have hj64 : j = 64 := by omega
            have hM := HM.out
            rw [List.take_of_length_le (by simp [HKl.out]; omega), List.take_of_length_le (by simp [HKl.out]; omega), ← Hxi.out, ← Hxo.out] at hM
            have HM2 := Lib.hid hM
            have Hj := Lib.hid hj64
            clear hM hj64 HM hj hlt
            go_wp2
            go_loopw [7, 10] (fun u i wq => ∃ k B1 C1, k ≤ n ∧ i = .int .i64 (k : Nat) ∧ u = .slice B1 (j + tot ps k) C1 ∧ Two w6 wq w6.heap.size B1 C1 (j + tot ps k) (Sha.xin key ++ cat ps k) B2 C2 j (Sha.xout key)) (fun _ i _ => n - (intOf i).toNat)
            case atStart => exact ⟨0, B1, C1, by omega, rfl, rfl, by simpa [cat, tot] using HM2.out⟩
            case round =>
              clear HM2
              obtain ⟨k, B3, C3, hk, rfl, rfl, hM⟩ := hrel
              have HM := Lib.hid hM
              clear hM
              by_cases hlt : k < n
              · have hk' : k < ps.length := by have := Hn.out; omega
                have hki : (k : Int) < n := by omega
                have hki0 : (0 : Int) ≤ (k : Int) := by omega
                have hlo : Below w.heap.size w wr := HL.out.trans (HM.out.one.low.mono HL.out.size)
                have c0 := (HP.out.below hlo).at_ k hk'
                have hsrc := (HP.out.below hlo).src k hk'
                have hcat := cat_succ ps k hk'
                have hle := tot_le ps (k + 1) (by omega)
                have hts := tot_succ ps k hk'
                have hT9 := Ht.out
                obtain ⟨l, hl⟩ : ∃ l, l = ps[k].l := ⟨_, rfl⟩
                rw [← hl] at c0 hsrc hcat hts
                obtain ⟨q, hq⟩ : ∃ q, q = l.length := ⟨_, rfl⟩
                rw [← hq] at c0 hts
                have y7 : j + tot ps k + q ≤ maxLen := by have := Hj.out; unfold maxLen; omega
                have y8 : (j + tot ps k + q) * 1 ≤ 140737488355328 := by have := Hj.out; omega
                have Hts := Lib.hid hts
                have Hq := Lib.hid hq
                have Hsrc := Lib.hid hsrc
                have Hcat := Lib.hid hcat
                clear hsrc hcat hle hts hT9 hl hq hlo
                go_wp2_with (at_builtin; refine wpList_acc rfl _ _ 22 rfl 5 1 1 _ Tryd.underlying22 info_u8' rfl (by decide) w6 w6.heap.size B3 C3 (j + tot ps k) _ rfl HM.out.one ps[k].a q ps[k].c (l.map V8) rfl (by simp [Hq.out]) Hsrc.out.at_.cells Hsrc.out.nil Hsrc.out.od (ones' l) y7 y8 ?_; intro B4 D4 w9 hacc hg hnew; rw [← List.map_append, List.append_assoc, ← Hcat.out, Nat.add_assoc, ← Hts.out] at hacc; have HM9 := Lib.hid (HM.out.at1 hacc hg hnew); clear hacc hg hnew)
                go_roundw
                case rel => exact ⟨k + 1, B4, D4, by omega, by go_num, by rw [Hts.out, Nat.add_assoc], HM9.out⟩
                case measure => simp [intOf]; omega
              · have hki : ¬ (k : Int) < n := by omega
                have hkn : k = ps.length := by have := Hn.out; omega
                have hM := HM.out
                have hk0 : j + tot ps k = (Sha.xin key ++ cat ps ps.length).length := by rw [List.length_append, cat_length, Hxi.out, hkn, Hj.out]; simp [HKl.out]
                have hxl : (Sha.xin key ++ cat ps ps.length).length < 70368744177664 := by rw [← hk0, hkn]; have := Ht.out; have := Hj.out; omega
                rw [show cat ps k = cat ps ps.length by rw [hkn]] at hM
                obtain ⟨q, hq⟩ : ∃ q, q = j + tot ps k := ⟨_, rfl⟩
                rw [← hq] at hM hk0 ⊢
                have hmac := HMac.out
                obtain ⟨s, hs⟩ : ∃ s, s = Sha.sum (Sha.xin key ++ cat ps ps.length) := ⟨_, rfl⟩
                rw [← hs] at hmac
                have hsl : s.length = 32 := by rw [hs]; rfl
                have hyl : (Sha.xout key).length = j := by rw [Hxo.out, Hj.out]; simp [HKl.out]
                have hl2 : (Sha.xout key ++ s).length < 70368744177664 := by rw [List.length_append, hyl, Hj.out, hsl]; decide
                have hl3 : j + 32 = (Sha.xout key ++ s).length := by rw [List.length_append, hyl, hsl]
                have y7 : j + 32 ≤ maxLen := by have := Hj.out; unfold maxLen; omega
                have y8 : (j + 32) * 1 ≤ 140737488355328 := by have := Hj.out; omega
                have hlo : Below w.heap.size w wr := HL.out.trans (HM.out.one.low.mono HL.out.size)
                have HT9 := Lib.hid (hT.below hlo)
                have Hlo := Lib.hid hlo
                have Hs := Lib.hid hs
                have Hsl := Lib.hid hsl
                have Hl2 := Lib.hid hl2
                have Hl3 := Lib.hid hl3
                have Hk0 := Lib.hid hk0
                have Hxl := Lib.hid hxl
                have Hmac2 := Lib.hid hmac
                have HM9 := Lib.hid hM
                clear hM hq hmac hs hsl hyl hl2 hl3 hk0 hxl hkn hlo HM
                rename World => w7
                have i6 := in_heap HRes.out
                go_wp2_with (first | (go_at_call 43; refine (rsum_is R (Sha.xout key ++ s) B6 _ D6 w10 Hmac2.out Hl3.out (hT.below (HL.out.trans (HA10.out.low.mono HL.out.size))) HA10.out.src Hl2.out).mono ?_; rintro e w11 ⟨rfl, hB⟩; have HB11 := Lib.hid hB; clear hB) | (go_at_call 43; refine (rsum_is s _ B3 q C3 w7 Hs.out Hk0.out HT9.out HM9.out.one.src Hxl.out).mono ?_; rintro e w8 ⟨rfl, hB⟩; have HB8 := Lib.hid hB; clear hB) | (refine wpList_store_sum rfl 29 _ _ rfl w.heap.size R 32 rfl rfl _ _ (bblk HB11.out ((HA10.out.low.block _ i6).trans HRes.out)) (by kernel_rfl) HRl.out rfl ?_) | (refine wpList_store_row' rfl 29 _ _ rfl w8.heap.size (s.map V8).toArray rfl rfl _ _ (blk1 _ _) (size_sum' s Hsl.out) (by simp [Hsl.out]) (oneCells s) ?_; intro w9 h9 g9 s9; have H9 := Lib.hid h9; have HA9 := Lib.hid (((HM9.out.two.below HB8.out).alloc _).other g9 (Nat.le_trans HM9.out.one.base_le HB8.out.size) (fun ad had => Nat.ne_of_lt (Nat.lt_of_lt_of_le (HM9.out.two.block ad had).2 HB8.out.size))); clear h9 g9 s9) | (at_builtin; refine wpList_acc rfl _ _ 22 rfl 5 1 1 _ Tryd.underlying22 info_u8' rfl (by decide) w6 w6.heap.size B2 C2 j _ rfl HA9.out (some ⟨w8.heap.size, 0, none⟩) 32 32 (s.map V8) rfl (by simp [Hsl.out]) (box_bytes H9.out).cells (fun h => by cases h) (fun ad h => ⟨_, _, (Option.some.inj h).symm⟩) (ones' s) y7 y8 ?_; intro B6 D6 w10 hacc hg hnew; rw [← List.map_append] at hacc; have HA10 := Lib.hid hacc; clear hacc hg hnew))
                refine bodyPost_ret (results_sum rfl _ _ w.heap.size _ R 32 (0, 0) _ rfl (setRow_heap _ _ _ _ _ _ (bblk HB11.out ((HA10.out.low.block _ i6).trans HRes.out))) Tryd.underlying29 (by kernel_rfl) HRl.out) rfl ⟨rfl, ?_⟩
                exact brow (bthen (HL.out.trans (HA10.out.low.mono HL.out.size)) HB11.out) (Nat.le_refl _) _
end Go.Proofs.YtpdhgijeanbmcaaDoor

/- Leaves -/
namespace Go.Proofs.YtpdhgijeanbmcaaDoor
open Go.RowKit Go.Great

set_option maxRecDepth 100000 in
theorem num_any (k : Int) (w : World) : Calls Tryd.prog 13 #[.int .i64 k] w fun e w' => e = .returned (.int .i64 k) ∧ w = w' := by
  go_enter Tryd.func13, Tryd.ntmps13
  go_wp2
  go_ret
  exact ⟨rfl, rfl⟩

/-- A slice of strings that may be read. -/
structure Strs (w : World) (a : Option Addr) (n : Nat) (ts : List (List UInt8)) : Prop where
  len : n = ts.length
  at_ : 0 < n → ∃ b o, a = some ⟨b, o, none⟩ ∧ ∀ k (hk : k < ts.length), w.cell? ⟨b, o + k, none⟩ = some (.string ⟨ts[k].toArray⟩)
theorem Strs.below {w w' : World} {a : Option Addr} {n : Nat} {ts : List (List UInt8)} (h : Strs w a n ts) (hb : Below w.heap.size w w') : Strs w' a n ts :=
  ⟨h.len, fun h0 => by
    obtain ⟨b, o, e, hc⟩ := h.at_ h0
    exact ⟨b, o, e, fun k hk => (hb.cell (p := ⟨b, o + k, none⟩) (World.block_lt_of_cell? w _ (hc k hk))).trans (hc k hk)⟩⟩
theorem txt_of_string (W : World) (l : List UInt8) (c : Nat) (t : TypeId) (fr : Nat × Nat) (hc : l.length ≤ c) : Txt (W.alloc (.cells (bytesRow ⟨l.toArray⟩ c) t fr)).drew (some ⟨W.heap.size, 0, none⟩) l.length c l := by
  have hb : (W.alloc (.cells (bytesRow ⟨l.toArray⟩ c) t fr)).drew.heap[W.heap.size]? = some (.cells (bytesRow ⟨l.toArray⟩ c) t fr) := at_new _ _ rfl
  refine ⟨rfl, ⟨fun h0 => ⟨W.heap.size, 0, rfl, fun j hj => ?_⟩⟩, hc, (fun h => by cases h), fun ad had => ⟨W.heap.size, 0, (Option.some.inj had).symm, in_heap hb⟩⟩
  rw [Nat.zero_add, cell_block hb (bytesRow_at ⟨l.toArray⟩ c j (by simpa using hj))]
  simp [byteF, V8, List.getD, hj]

set_option maxRecDepth 100000 in
set_option maxHeartbeats 400000 in
theorem leaves_any (ts : List (List UInt8)) (a : Option Addr) (n c : Nat) (w : World) (hT : Tabs w) (S : Strs w a n ts) (hn : n ≤ 1000) (hs : ∀ t ∈ ts, t.length < 1099511627776) :
    Calls Tryd.prog 16 #[.slice a n c] w (RetS w (ts.map Tree.leaf)) := by
  obtain ⟨z0, hz0, hinfo⟩ := info_sum'
  have HI := Lib.hid hinfo
  have HZ0 := Lib.hid hz0
  have HS := Lib.hid S
  have hl := S.len
  have Hl := Lib.hid hl
  have Hs := Lib.hid hs
  clear hinfo hz0 S hl hs
  go_enter Tryd.func16, Tryd.ntmps16
  go_wp2
  go_loopw [3, 4] (fun v i wr => ∃ k B C, k ≤ n ∧ i = .int .i64 (k : Nat) ∧ v = .slice B k C ∧ Acc 29 32 w wr w.heap.size B C k (sumCells ((ts.take k).map Tree.leaf))) (fun _ i _ => n - (intOf i).toNat)
  case atStart => exact ⟨0, none, 0, by omega, rfl, rfl, Acc.start _ _ _ _ _ (Below.refl _ _) (Nat.le_refl _)⟩
  case round =>
    obtain ⟨k, B, C, hk, rfl, rfl, hA⟩ := hrel
    have HA := Lib.hid hA
    clear hA
    by_cases hlt : k < n
    · have hki : (k : Int) < (n : Int) := by omega
      have hki0 : (0 : Int) ≤ (k : Int) := by omega
      have hk' : k < ts.length := by have := Hl.out; omega
      obtain ⟨b, o, ha, hc⟩ := (HS.out.below HA.out.low).at_ (by omega)
      subst ha
      have c0 := hc k hk'
      have htl := Hs.out ts[k] (by simp)
      have hnx : (ts.take (k + 1)).map Tree.leaf = (ts.take k).map Tree.leaf ++ [Tree.leaf ts[k]] := by rw [List.take_succ_eq_append_getElem hk', List.map_append]; rfl
      obtain ⟨l, hl⟩ : ∃ l, l = ts[k] := ⟨_, rfl⟩
      rw [← hl] at c0 htl hnx
      obtain ⟨s, hse⟩ : ∃ s, s = Tree.leaf l := ⟨_, rfl⟩
      have hsl : s.length = 32 := by rw [hse]; rfl
      rw [← hse] at hnx
      have hrl := Lib.hid (show ∀ (W : World) (ad : Option Addr) (m c : Nat), Tabs W → Txt W ad m c l → Calls Tryd.prog 40 #[.slice ad m c] W (RetSum W s) from fun W ad m c hT S => by rw [hse]; exact rleaf_any l ad m c W hT S (by omega))
      have Hsl := Lib.hid hsl
      have Hse := Lib.hid hse
      have Hnx := Lib.hid hnx
      have Htl := Lib.hid htl
      have z1 : k + 1 ≤ maxLen := by unfold maxLen; omega
      have z2 : (k + 1) * 32 ≤ 140737488355328 := by omega
      have hcv : ∀ W : World, (convert 9 22 (.string ⟨l.toArray⟩)).run Tryd.prog W = .ok (.slice (some ⟨W.heap.size, 0, none⟩) l.length (grownCap W l.length 0 5)) (W.drew.alloc (.cells (bytesRow ⟨l.toArray⟩ (grownCap W l.length 0 5)) 5 ((bytesRow ⟨l.toArray⟩ (grownCap W l.length 0 5)).size, (bytesRow ⟨l.toArray⟩ (grownCap W l.length 0 5)).size + 1))) := fun W => run_bytes_of_string W 9 22 5 ⟨l.toArray⟩ Tryd.underlying9 Tryd.underlying22 Tryd.underlying5
      have HG := Lib.hid (grownCap_ge wr l.length 0 5)
      clear hc hl hnx hsl hse htl
      go_wp2_with (first | (go_at_call 40; refine (hrl.out _ _ _ _ (hT.below (bthen HA.out.low (low1 _ _).drew)) (txt_of_string wr l _ _ _ HG.out)).mono ?_; rintro e w2 ⟨rfl, hB⟩; have HB := Lib.hid (bthen (low1 _ _).drew hB); clear hB) | (refine wpList_build_sum rfl _ rfl s rfl Hsl.out ?_) | (at_builtin; refine wpList_acc rfl _ _ 31 rfl 29 32 32 z0 Tryd.underlying31 HI.out HZ0.out (by decide) w w.heap.size B C k _ rfl ((HA.out.below HB.out).alloc _) (some ⟨w2.heap.size, 0, none⟩) 1 1 (s.map V8) rfl (by simp [Hsl.out]) (box_bytes (blk1 _ _)).cells (fun h => by cases h) (fun ad h => ⟨_, _, (Option.some.inj h).symm⟩) (ones' s) z1 z2 ?_; intro B2 D2 w3 hacc hg hnew; rw [← sumCells_one s, ← sumCells_append, ← Hnx.out] at hacc; have HA3 := Lib.hid hacc; clear hacc hg hnew))
      go_roundw
      case rel => exact ⟨k + 1, B2, D2, by omega, by go_num, rfl, HA3.out⟩
      case measure => simp [intOf]; omega
    · obtain rfl : k = n := by omega
      go_wp2
      go_ret
      exact RetS.of HA.out (by rw [Hl.out]; simp) (by rw [Hl.out, List.take_length])
end Go.Proofs.YtpdhgijeanbmcaaDoor

/- Door2 -/
namespace Go.Proofs.YtpdhgijeanbmcaaDoor
open Go.ChangeShapes Go.WideShapes Go.ChangeAt Go.RowKit

theorem bulk_part {H : Type} {d : DataW H} : ∀ {l : List (DataW H)}, d ∈ l → Rows.uptoBulk d ≤ Rows.uptoBulkAll l
  | [], h => by cases h
  | x :: r, h => by
    simp only [Rows.uptoBulkAll]
    cases List.mem_cons.1 h with
    | inl e => subst e; omega
    | inr e => have := bulk_part e; omega
theorem cellsStr : Tryd.prog.cellsOf 9 = 1 := by kernel_rfl
theorem cellsSum : Tryd.prog.cellsOf 29 = 32 := by kernel_rfl
section
variable {H : Type} {enc : TypeId × Value → H}
theorem open_strs {W : World} {base : Nat} {v : Value} {d : DataW H} {p : List MemPlace} (hval : Value.okWide Tryd.prog W .any base 28 v) (h : DataW.Trod enc Tryd.prog W 0 (fun _ => true) true 28 v d p) :
    ∃ a n c ts, v = .slice a n c ∧ Strs W a n ts ∧ n ≤ c ∧ ∀ t ∈ ts, t.length ≤ Rows.uptoBulk d := by
  obtain ⟨a1, len, cap, rfl⟩ := okWide_slice Tryd.underlying28 hval
  obtain ⟨fuel, hf⟩ := h
  rcases open_strings Tryd.underlying28 Tryd.underlying9 cellsStr hf with ⟨hcs, hx⟩ | ⟨a, len', cap', ss, hcs, _, hl, hm, hz, hx, hcell, hsz⟩
  · simp [Value.cells] at hcs
    obtain ⟨rfl, rfl, rfl⟩ := hcs
    exact ⟨none, 0, 0, [], rfl, ⟨rfl, fun h => by omega⟩, Nat.le_refl _, fun _ h => by cases h⟩
  · simp [Value.cells] at hcs
    obtain ⟨rfl, rfl, rfl⟩ := hcs
    simp only [Prod.mk.injEq] at hx
    obtain ⟨rfl, rfl⟩ := hx
    simp only [if_true] at hz
    have hh : W.has Tryd.prog .any base a 9 cap := by
      simp only [Value.okWide, Tryd.underlying28, Cell.okWide, Cell.ok] at hval
      exact hval.2.2
    obtain ⟨_, hspot, row, cells, hsh, _⟩ := hh
    obtain ⟨ab, ao, spot⟩ := a
    obtain rfl : spot = none := hspot
    refine ⟨some ⟨ab, ao, none⟩, len, cap, (ss.take len).map fun s => s.data.toList, rfl, ⟨by simp; omega, fun _ => ⟨ab, ao, rfl, fun k hk => ?_⟩⟩, hl, fun t ht => ?_⟩
    · have hk' : k < len := by simp at hk; omega
      have hcj := hcell k (by omega)
      rw [Addr.add_lit] at hcj
      rw [hcj]
      simp [List.getD, List.getElem?_eq_getElem (show k < ss.length by omega)]
    · obtain ⟨s, hs, rfl⟩ := List.mem_map.1 ht
      have h1 : (DataW.lit (.string s.data.toList) : DataW H) ∈ strs (ss.take len) := List.mem_map.2 ⟨s, hs, rfl⟩
      have h2 := bulk_part h1
      simp only [Rows.uptoBulk] at h2 ⊢
      omega
set_option maxRecDepth 100000 in
theorem open_sumV {W : World} {base : Nat} {v : Value} (hval : Value.okWide Tryd.prog W .any base 29 v) : ∃ x : List UInt8, x.length = 32 ∧ v = sumV x := by
  have h1 : ∃ cs, v = .agg cs ∧ cs.size = Tryd.prog.cellsOf 29 ∧ Row.okWide Tryd.prog W .any base 29 cs := by
    simpa only [Value.okWide, Tryd.underlying29] using hval
  obtain ⟨cs, rfl, hsz, ts, hts, _, hc⟩ := h1
  rw [cellsSum] at hsz
  have ht : Tryd.prog.cellTypes Tryd.prog.depth 29 = some (List.replicate 32 5) := by kernel_rfl
  obtain rfl := Option.some.inj (ht.symm.trans hts)
  have hv : ∀ i, i < 32 → ∃ b : UInt8, cs[i]? = some (V8 b) := fun i hi => by
    obtain ⟨u, hu, hok⟩ := hc i cs[i] (Array.getElem?_eq_getElem (by omega))
    have hu8 : u = 5 := List.eq_of_mem_replicate (List.mem_of_getElem? hu)
    subst hu8
    have hok2 : ∃ n : Int, cs[i] = .int .u8 n ∧ 0 ≤ n ∧ n ≤ 255 := by
      generalize cs[i] = q at hok
      simp only [Cell.okWide, Tryd.underlying5] at hok
      cases q <;> simp [Cell.ok, Tryd.underlying5] at hok
      obtain ⟨rfl, h1, h2⟩ := hok
      exact ⟨_, rfl, h1, h2⟩
    obtain ⟨n, hn, h0, h255⟩ := hok2
    refine ⟨UInt8.ofNat n.toNat, ?_⟩
    rw [Array.getElem?_eq_getElem (by omega), hn]
    simp only [V8, UInt8.toNat_ofNat']
    congr 2
    omega
  obtain ⟨f, hf⟩ : ∃ f : Nat → UInt8, ∀ i, i < 32 → cs[i]? = some (V8 (f i)) := ⟨fun i => if h : i < 32 then (hv i h).choose else 0, fun i hi => by
    have := (hv i hi).choose_spec
    simpa only [dif_pos hi] using this⟩
  refine ⟨(List.range 32).map f, by rw [List.length_map, List.length_range], ?_⟩
  unfold sumV
  congr 1
  apply Array.ext_getElem?
  intro i
  by_cases hi : i < 32
  · rw [hf i hi, List.getElem?_toArray, List.getElem?_map, List.getElem?_map, List.getElem?_range hi, Option.map_some, Option.map_some]
  · rw [Array.getElem?_eq_none (by omega), Array.getElem?_eq_none (by rw [List.size_toArray, List.length_map, List.length_map, List.length_range]; omega)]
theorem open_i64 {W : World} {base : Nat} {v : Value} (hval : Value.okWide Tryd.prog W .any base 3 v) : ∃ n : Int, v = .int .i64 n ∧ -9223372036854775808 ≤ n ∧ n ≤ 9223372036854775807 := by
  obtain ⟨n, rfl⟩ := okWide_int Tryd.underlying3 hval
  refine ⟨n, rfl, ?_⟩
  simp only [Value.okWide, Tryd.underlying3, Cell.okWide, Cell.ok] at hval
  have h1 : IntKind.i64.min ≤ n ∧ n ≤ IntKind.i64.max := hval.2
  exact h1
end
end Go.Proofs.YtpdhgijeanbmcaaDoor

/- Num -/
namespace Go.Proofs.YtpdhgijeanbmcaaDoor
open Go.RowKit

def groups (n : Nat) : List UInt8 := if _h : n < 128 then [UInt8.ofNat n] else UInt8.ofNat (128 + n % 128) :: groups (n / 128)
termination_by n
decreasing_by omega
theorem groups_small {n : Nat} (h : n < 128) : groups n = [UInt8.ofNat n] := by rw [groups, dif_pos h]
theorem groups_more {n : Nat} (h : ¬ n < 128) : groups n = UInt8.ofNat (128 + n % 128) :: groups (n / 128) := by rw [groups, dif_neg h]
/-- How far the reckoning has come: what has been laid, what is left. -/
structure GrAt (N : Nat) (pre : List UInt8) (m : Nat) : Prop where
  eq : groups N = pre ++ groups m
  mul : 2 ^ (7 * pre.length) * m ≤ N
  len : pre.length = 0 ∨ 2 ^ (7 * pre.length) ≤ N
theorem GrAt.start (N : Nat) : GrAt N [] N := ⟨rfl, by simp, .inl rfl⟩
theorem GrAt.next {N : Nat} {pre : List UInt8} {m : Nat} (h : GrAt N pre m) (hm : ¬ m < 128) : GrAt N (pre ++ [UInt8.ofNat (128 + m % 128)]) (m / 128) := by
  have e : 2 ^ (7 * (pre.length + 1)) = 2 ^ (7 * pre.length) * 128 := by rw [Nat.mul_add, Nat.pow_add]
  refine ⟨by rw [h.eq, groups_more hm]; simp, ?_, .inr ?_⟩
  · rw [List.length_append, List.length_singleton, e, Nat.mul_assoc]
    exact Nat.le_trans (Nat.mul_le_mul_left _ (Nat.mul_div_le m 128)) h.mul
  · rw [List.length_append, List.length_singleton, e]
    exact Nat.le_trans (Nat.mul_le_mul_left _ (by omega)) h.mul
theorem GrAt.short {N : Nat} {pre : List UInt8} {m : Nat} (h : GrAt N pre m) (hN : N < 18446744073709551616) : pre.length ≤ 9 := by
  rcases h.len with h1 | h1
  · omega
  · by_cases h2 : pre.length ≤ 9
    · exact h2
    · have h3 : 2 ^ 70 ≤ 2 ^ (7 * pre.length) := Nat.pow_le_pow_right (by omega) (by omega)
      have h4 : (2 : Nat) ^ 70 = 1180591620717411303424 := by decide
      omega
theorem GrAt.done {N : Nat} {pre : List UInt8} {m : Nat} (h : GrAt N pre m) (hm : m < 128) : groups N = pre ++ [UInt8.ofNat m] := by rw [h.eq, groups_small hm]
theorem groups_len (N : Nat) (hN : N < 18446744073709551616) : (groups N).length ≤ 10 := by
  have key : ∀ (k m : Nat) (pre : List UInt8), m ≤ k → GrAt N pre m → (groups N).length ≤ 10 := by
    intro k
    induction k with
    | zero =>
      intro m pre hm h
      rw [h.done (by omega)]
      have := h.short hN
      simp; omega
    | succ k ih =>
      intro m pre hm h
      by_cases h1 : m < 128
      · rw [h.done h1]
        have := h.short hN
        simp; omega
      · exact ih (m / 128) _ (by omega) (h.next h1)
  exact key N N [] (Nat.le_refl _) (GrAt.start N)
theorem v8_more (m : Nat) : V8 (UInt8.ofNat (128 + m % 128)) = .int .u8 (128 + (m : Int) % 128) := by
  simp only [V8, UInt8.toNat_ofNat']
  congr 1
  omega
theorem v8_low (m : Nat) (h : m < 128) : V8 (UInt8.ofNat m) = .int .u8 (m : Int) := by
  simp only [V8, UInt8.toNat_ofNat']
  congr 1
  omega

set_option maxRecDepth 100000 in
set_option maxHeartbeats 1000000 in
theorem groups_any (N : Nat) (w : World) (hN : N < 18446744073709551616) : Calls Tryd.prog 69 #[.int .u64 N] w (RetB w (groups N).length (groups N)) := by
  have HG0 := Lib.hid (GrAt.start N)
  have HN := Lib.hid hN
  go_enter Tryd.func69, Tryd.ntmps69
  go_wp2
  go_loopw [0, 3] (fun nv lv wr => ∃ (m : Nat) (pre : List UInt8) (B : Option Addr) (C : Nat), nv = .int .u64 m ∧ lv = .slice B pre.length C ∧ Hid (GrAt N pre m ∧ m ≤ N) ∧ Acc 5 1 w wr w.heap.size B C pre.length (pre.map V8)) (fun nv _ _ => (intOf nv).toNat)
  case atStart => exact ⟨N, [], none, 0, rfl, rfl, Lib.hid ⟨HG0.out, Nat.le_refl _⟩, Acc.start _ _ _ _ _ (Below.refl _ _) (Nat.le_refl _)⟩
  case round =>
    obtain ⟨m, pre, B, C, rfl, rfl, hG, hA⟩ := hrel
    have HA := Lib.hid hA
    have hs := hG.out.1.short HN.out
    have z1 : pre.length + 1 ≤ maxLen := by unfold maxLen; omega
    have z2 : (pre.length + 1) * 1 ≤ 140737488355328 := by omega
    have hm64 : m < 18446744073709551616 := by have := hG.out.2; have := HN.out; omega
    clear hA
    by_cases hlt : m < 128
    · have h1 : ¬ (128 : Int) ≤ (m : Int) := by omega
      go_wp2_with (at_builtin; refine wpList_acc1 rfl _ _ 22 rfl 5 1 _ Tryd.underlying22 info_u8' rfl w w.heap.size B C pre.length (pre.map V8) _ rfl HA.out rfl rfl z1 z2 ?_; intro B2 D2 w2 hacc hg hnew; have HA2 := Lib.hid hacc; clear hacc hg hnew)
      go_ret
      have hgr := hG.out.1.done hlt
      rw [hgr]
      refine ⟨B2, D2, by simp, ?_⟩
      have := HA2.out
      rw [← v8_low m hlt] at this
      simpa using this
    · have h1 : (128 : Int) ≤ (m : Int) := by omega
      go_wp2_with (at_builtin; refine wpList_acc1 rfl _ _ 22 rfl 5 1 _ Tryd.underlying22 info_u8' rfl w w.heap.size B C pre.length (pre.map V8) _ rfl HA.out rfl rfl z1 z2 ?_; intro B2 D2 w2 hacc hg hnew; have HA2 := Lib.hid hacc; clear hacc hg hnew)
      go_roundw
      case rel =>
        refine ⟨m / 128, pre ++ [UInt8.ofNat (128 + m % 128)], B2, D2, by go_num, by simp, Lib.hid ⟨hG.out.1.next hlt, by have := hG.out.2; omega⟩, ?_⟩
        have := HA2.out
        rw [← v8_more m] at this
        simpa using this
      case measure => simp [intOf]; omega
end Go.Proofs.YtpdhgijeanbmcaaDoor

/- Num2 -/
namespace Go.Proofs.YtpdhgijeanbmcaaDoor
open Go.RowKit

theorem RetB.cast {w w' : World} {n : Nat} {l l' : List UInt8} {e : Ending} (h : RetB w n l e w') (hl : l = l') : RetB w n l' e w' := by rw [← hl]; exact h

set_option maxRecDepth 100000 in
set_option maxHeartbeats 1000000 in
theorem joined_any (x y : List UInt8) (a : Option Addr) (n c : Nat) (a2 : Option Addr) (m c2 : Nat) (w : World) (X : Txt w a n c x) (Y : Txt w a2 m c2 y) (hn : n ≤ 1099511627776) (hm : m ≤ 1099511627776) :
    Calls Tryd.prog 68 #[.slice a n c, .slice a2 m c2] w (RetB w (n + m) (x ++ y)) := by
  have HX := Lib.hid X
  have HY := Lib.hid Y
  have z1 : 0 + n ≤ maxLen := by unfold maxLen; omega
  have z2 : (0 + n) * 1 ≤ 140737488355328 := by omega
  have z3 : n + m ≤ maxLen := by unfold maxLen; omega
  have z4 : (n + m) * 1 ≤ 140737488355328 := by omega
  clear X Y
  go_enter Tryd.func68, Tryd.ntmps68
  go_wp2_with (first | (at_builtin; refine wpList_acc rfl _ _ 22 rfl 5 1 1 _ Tryd.underlying22 info_u8' rfl (by decide) w w.heap.size B1 D1 n (x.map V8) rfl HA1.out a2 m c2 (y.map V8) rfl (by simp [HY.out.len]) (HY.out.src.below HA1.out.low).at_.cells (HY.out.src.nil) (HY.out.below HA1.out.low).src.od (ones' y) z3 z4 ?_; intro B2 D2 w2 hacc hg hnew; have HA2 := Lib.hid hacc; clear hacc hg hnew) | (at_builtin; refine wpList_acc rfl _ _ 22 rfl 5 1 1 _ Tryd.underlying22 info_u8' rfl (by decide) w w.heap.size none 0 0 [] rfl (Acc.start _ _ _ _ _ (Below.refl _ _) (Nat.le_refl _)) a n c (x.map V8) rfl (by simp [HX.out.len]) HX.out.src.at_.cells HX.out.src.nil HX.out.src.od (ones' x) z1 z2 ?_; intro B1 D1 w1 hacc hg hnew; rw [List.nil_append, Nat.zero_add] at hacc; have HA1 := Lib.hid hacc; clear hacc hg hnew))
  go_ret
  exact ⟨B2, D2, rfl, by rw [List.map_append]; exact HA2.out⟩

theorem RetB.txt {w w' : World} {n : Nat} {l : List UInt8} {e : Ending} (h : RetB w n l e w') (hn : n = l.length) : ∃ B C, e = .returned (.slice B n C) ∧ Txt w' B n C l ∧ Below w.heap.size w w' := by
  obtain ⟨B, C, he, hA⟩ := h
  refine ⟨B, C, he, ⟨hn, ⟨hA.at_.bytes, by rw [← hn]; exact hA.cap, hA.nil, fun ad had => ?_⟩⟩, hA.low⟩
  rcases hA.form with ⟨h0, _⟩ | ⟨g, _, hg, _, hs, _⟩
  · rw [had] at h0; cases h0
  · rw [had] at hg
    obtain rfl := Option.some.inj hg
    exact ⟨g, 0, rfl, hs⟩

set_option maxRecDepth 100000 in
set_option maxHeartbeats 1000000 in
theorem rputuint_any (x : List UInt8) (a : Option Addr) (n c N : Nat) (w : World) (X : Txt w a n c x) (hn : n ≤ 1099511627776) (hN : N < 18446744073709551616) :
    Calls Tryd.prog 60 #[.slice a n c, .int .u64 N] w (RetB w (n + (groups N).length) (x ++ groups N)) := by
  have HX := Lib.hid X
  have hg := Lib.hid (groups_any N w hN)
  have hgl := groups_len N hN
  obtain ⟨G, hG⟩ : ∃ G, G = groups N := ⟨_, rfl⟩
  rw [← hG] at hg hgl ⊢
  clear X hG
  go_enter Tryd.func60, Tryd.ntmps60
  go_wp2_with fail
  go_at_call 69
  refine hg.out.mono ?_
  intro e w1 h1
  obtain ⟨B, C, rfl, hT, hB⟩ := h1.txt rfl
  have HT := Lib.hid hT
  have HB := Lib.hid hB
  clear h1 hT hB
  go_wp2_with fail
  go_at_call 68
  refine (joined_any x G a n c B G.length C w1 (HX.out.below HB.out) HT.out hn (by omega)).mono ?_
  rintro e w2 ⟨B2, C2, rfl, hA⟩
  have HA := Lib.hid (hA.rebase HB.out.size HB.out)
  clear hA
  go_wp2
  go_ret
  exact ⟨B2, C2, rfl, HA.out⟩
end Go.Proofs.YtpdhgijeanbmcaaDoor

/- Num3 -/
namespace Go.Proofs.YtpdhgijeanbmcaaDoor
open Go.RowKit

theorem made_size (k : Nat) : (madeCells #[Value.int .u8 0] k).toList.length = k := by simp [madeCells]
theorem made_blk (w : World) (k : Nat) : (w.alloc (.cells (madeCells #[Value.int .u8 0] k) 5)).heap[w.heap.size]? = some (.cells (madeCells #[Value.int .u8 0] k).toList.toArray 5 (0, 0)) := by
  rw [Array.toArray_toList]
  exact blk1 _ _
theorem copied_acc {w w' : World} {x : List UInt8} {n k : Nat} (hn : n = x.length) (hk : n ≤ k) (hm : k ≤ maxLen) (hb : Below w.heap.size w w')
    (h : w'.heap[w.heap.size]? = some (.cells (splice (madeCells #[Value.int .u8 0] k).toList 0 (x.map V8)).toArray 5 (0, 0))) : Acc 5 1 w w' w.heap.size (some ⟨w.heap.size, 0, none⟩) k n (x.map V8) := by
  have hl := made_size k
  refine ⟨⟨by simp [hn], .inr ⟨w.heap.size, k, _, rfl, Nat.le_refl _, h, hk, hm, ?_, ?_⟩⟩, hb, hb.size⟩
  · simp only [List.size_toArray]
    unfold splice
    simp only [List.length_append, List.length_take, List.length_drop, List.length_map, hl]
    omega
  · unfold splice
    simp [hn]

theorem or_table : ∀ k : Fin 256, bits .or .u8 ((k.val : Nat) : Int) 128 = ((128 + k.val % 128 : Nat) : Int) := by decide +kernel
theorem v8_or (m : Nat) : V8 (UInt8.ofNat (128 + m % 128)) = .int .u8 (bits .or .u8 ((m : Int) % 256) 128) := by
  have h := or_table ⟨m % 256, Nat.mod_lt _ (by omega)⟩
  simp only at h
  rw [show (m : Int) % 256 = ((m % 256 : Nat) : Int) by omega, h, v8_more]
  congr 1
  omega
theorem txt_copy {w : World} {a : Option Addr} {n c : Nat} {x : List UInt8} {g : Addr} (h : Txt w a n c x) : 0 < (x.map V8).length → some g = some g ∧ ∃ ad, a = some ad ∧ ∀ j v, (x.map V8)[j]? = some v → w.cell? (ad.add j) = some v := fun h0 => by
  obtain ⟨b, o, ha, hc⟩ := h.src.at_.cells.at_ h0
  exact ⟨rfl, ⟨b, o, none⟩, ha, fun j v hj => by rw [Addr.add_lit]; exact hc j v hj⟩

set_option maxRecDepth 100000 in
set_option maxHeartbeats 1000000 in
theorem putuint_any (x : List UInt8) (a : Option Addr) (n c N : Nat) (w : World) (X : Txt w a n c x) (hn : n ≤ 1099511627776) (hN : N < 18446744073709551616) :
    Calls Tryd.prog 58 #[.slice a n c, .int .u64 N] w (RetB w (n + (groups N).length) (x ++ groups N)) := by
  obtain ⟨i0, hi0, hz0, hs0, hb0⟩ := info_u8i
  have hmk : (Instr.makeSlice 22 (.int .i64 (n : Int)) (.int .i64 ((n : Int) + 10))).run Tryd.prog w = .ok (.slice (some ⟨w.heap.size, 0, none⟩) n (n + 10)) (w.alloc (.cells (madeCells #[Value.int .u8 0] (n + 10)) 5)) := by
    have h := run_make (P := Tryd.prog) w 22 5 i0 (.int .u8 0) Tryd.underlying22 hi0 hz0 .i64 .i64 (n : Int) ((n : Int) + 10) (by omega) (by omega) (by rw [hb0]; omega) (by omega)
    rw [hs0, show ((n : Int) + 10).toNat = n + 10 by omega, Int.toNat_natCast, Nat.mul_one] at h
    exact h
  have HX := Lib.hid X
  have HN := Lib.hid hN
  have HG0 := Lib.hid (GrAt.start N)
  have hml := made_size (n + 10)
  clear X
  go_enter Tryd.func58, Tryd.ntmps58
  go_wp2_with (refine wpList_copy_splice rfl _ _ 22 22 rfl 5 Tryd.underlying22 (by kernel_rfl) (some ⟨w.heap.size, 0, none⟩) a n (n + 10) n c rfl rfl w.heap.size 0 (madeCells #[Value.int .u8 0] (n + 10)).toList 5 (made_blk w (n + 10)) (x.map V8) (by simp [HX.out.len]) (txt_copy (HX.out.below (low1 _ _))) (by rw [hml]; simp; have := HX.out.len; omega) (ones' x) w.heap.size w (low1 _ _) (Nat.le_refl _) ?_; intro w2 hh hb; have HA2 := Lib.hid (copied_acc HX.out.len (by omega) (by unfold maxLen; omega) hb hh.out); clear hh hb)
  clear hmk hml
  simp only [Act.put, List.setIfInBounds_toArray, List.set_cons_succ, List.set_cons_zero, List.length_map, goInt]
  go_loopw [1, 5] (fun nv lv wr => ∃ (m : Nat) (pre : List UInt8) (B : Option Addr) (C : Nat), nv = .int .u64 m ∧ lv = .slice B (n + pre.length) C ∧ Hid (GrAt N pre m ∧ m ≤ N) ∧ Acc 5 1 w wr w.heap.size B C (n + pre.length) ((x ++ pre).map V8)) (fun nv _ _ => (intOf nv).toNat)
  case atStart => exact ⟨N, [], _, _, rfl, rfl, Lib.hid ⟨HG0.out, Nat.le_refl _⟩, by simpa using HA2.out⟩
  case round =>
    clear HA2
    obtain ⟨m, pre, B, C, rfl, rfl, hG, hA⟩ := hrel
    have HA := Lib.hid hA
    have hs := hG.out.1.short HN.out
    have z1 : n + pre.length + 1 ≤ maxLen := by unfold maxLen; omega
    have z2 : (n + pre.length + 1) * 1 ≤ 140737488355328 := by omega
    have hm64 : m < 18446744073709551616 := by have := hG.out.2; have := HN.out; omega
    clear hA
    by_cases hlt : m < 128
    · have h1 : ¬ (127 : Int) < (m : Int) := by omega
      go_wp2_with (at_builtin; refine wpList_acc1 rfl _ _ 22 rfl 5 1 _ Tryd.underlying22 info_u8' rfl w w.heap.size B C (n + pre.length) ((x ++ pre).map V8) _ rfl HA.out rfl rfl z1 z2 ?_; intro B2 D2 w3 hacc hg hnew; have HA3 := Lib.hid hacc; clear hacc hg hnew)
      go_ret
      have hgr := hG.out.1.done hlt
      rw [hgr]
      refine ⟨B2, D2, by simp [Nat.add_assoc], ?_⟩
      have := HA3.out
      rw [← v8_low m hlt] at this
      simpa [Nat.add_assoc] using this
    · have h1 : (127 : Int) < (m : Int) := by omega
      go_wp2_with (at_builtin; refine wpList_acc1 rfl _ _ 22 rfl 5 1 _ Tryd.underlying22 info_u8' rfl w w.heap.size B C (n + pre.length) ((x ++ pre).map V8) _ rfl HA.out rfl rfl z1 z2 ?_; intro B2 D2 w3 hacc hg hnew; have HA3 := Lib.hid hacc; clear hacc hg hnew)
      go_roundw
      case rel =>
        refine ⟨m / 128, pre ++ [UInt8.ofNat (128 + m % 128)], B2, D2, by go_num, by simp [Nat.add_assoc], Lib.hid ⟨hG.out.1.next hlt, by have := hG.out.2; omega⟩, ?_⟩
        have := HA3.out
        rw [← v8_or m] at this
        simpa [Nat.add_assoc] using this
      case measure => simp [intOf]; omega
end Go.Proofs.YtpdhgijeanbmcaaDoor

/- Num4 -/
namespace Go.Proofs.YtpdhgijeanbmcaaDoor
open Go.RowKit

theorem strCells_mk (s : List UInt8) : Lib.strCells ⟨s.toArray⟩ = s.map V8 := by
  simp [Lib.strCells, V8]
theorem size_mk (s : List UInt8) : (⟨s.toArray⟩ : ByteArray).size = s.length := by
  simp [ByteArray.size]
/-- 'append(b, s...)', s a string. -/
theorem wpList_acc_str {ops : Array Oper} {rest : List Oper} {o : Oper} {a : Act} {w : World} {Q : Exit → Act → World → Prop} (hgd : o.guard = none) (sl x : Operand) (ho : o.op = .call { callee := .builtin .append, args := #[sl, x], argTypes := #[22, 9] })
    (w0 : World) (base : Nat) (A : Option Addr) (C n : Nat) (cs : List Value) (hs : a.eval sl = .slice A n C) (H : Acc 5 1 w0 w base A C n cs) (s : List UInt8) (hx : a.eval x = .string ⟨s.toArray⟩) (hb : n + s.length ≤ 1099511627776)
    (h : ∀ B D w', Acc 5 1 w0 w' base B D (n + s.length) (cs ++ s.map V8) → wpList Tryd.prog ops Q rest (a.put o.dst (.slice B (n + s.length) D)) w') : wpList Tryd.prog ops Q (o :: rest) a w := by
  obtain ⟨i, hi, hz, hsz, hby⟩ := info_u8i
  have hbase := H.base_le
  refine Lib.wpList_append_own_string w hgd sl x 22 9 ho base 5 i Tryd.underlying22 Tryd.underlying9 hi hz hsz hby (.slice A n C) n cs hs H.own ⟨s.toArray⟩ hx (by rw [size_mk]; unfold maxLen; omega) (by rw [size_mk]; omega) hbase ?_
  rw [size_mk, strCells_mk]
  intro v' w' hown hg _
  have hlow : Below base w0 w' := H.low.grown hg hbase (fun k hk => by
    cases A with
    | none => cases hk
    | some ad => obtain rfl := Option.some.inj hk; exact (H.block ad rfl).1)
  rcases hown.2 with ⟨rfl, h0⟩ | ⟨g, cap, cur, rfl, h1⟩
  · have := h none 0 w'
    rw [show n + s.length = 0 from h0] at this hown
    exact this ⟨hown, hlow, Nat.le_trans hbase hg.size⟩
  · exact h _ _ w' ⟨hown, hlow, Nat.le_trans hbase hg.size⟩

set_option maxRecDepth 100000 in
set_option maxHeartbeats 1000000 in
theorem puttext_any (x s : List UInt8) (a : Option Addr) (n c : Nat) (w : World) (X : Txt w a n c x) (hn : n ≤ 549755813888) (hs : s.length ≤ 274877906944) :
    Calls Tryd.prog 57 #[.slice a n c, .string ⟨s.toArray⟩] w (RetB w (n + (groups s.length).length + s.length) (x ++ groups s.length ++ s)) := by
  have hp := Lib.hid (putuint_any x a n c s.length w X (by omega) (by omega))
  have hgl := groups_len s.length (by omega)
  have hsz := size_mk s
  obtain ⟨G, hG⟩ : ∃ G, G = groups s.length := ⟨_, rfl⟩
  rw [← hG] at hp hgl ⊢
  have z0 : s.length < 18446744073709551616 := by omega
  clear X hG
  go_enter Tryd.func57, Tryd.ntmps57
  go_wp2_with fail
  go_at_call 58
  refine hp.out.mono ?_
  rintro e w1 ⟨B, C, rfl, hA⟩
  have HA := Lib.hid hA
  clear hA
  go_wp2_with (refine wpList_acc_str rfl _ _ rfl w w.heap.size B C (n + G.length) ((x ++ G).map V8) rfl HA.out s rfl (by omega) ?_; intro B2 D2 w2 hacc; have HA2 := Lib.hid hacc; clear hacc)
  go_ret
  exact ⟨B2, D2, rfl, by have := HA2.out; rw [← List.map_append] at this; exact this⟩

set_option maxRecDepth 100000 in
set_option maxHeartbeats 1000000 in
theorem rputtext_any (x s : List UInt8) (a : Option Addr) (n c : Nat) (w : World) (X : Txt w a n c x) (hn : n ≤ 549755813888) (hs : s.length ≤ 274877906944) :
    Calls Tryd.prog 61 #[.slice a n c, .string ⟨s.toArray⟩] w (RetB w (n + (groups s.length).length + s.length) (x ++ groups s.length ++ s)) := by
  have hp := Lib.hid (rputuint_any x a n c s.length w X (by omega) (by omega))
  have hgl := groups_len s.length (by omega)
  have hsz := size_mk s
  have hxn := Lib.hid X.len
  obtain ⟨G, hG⟩ : ∃ G, G = groups s.length := ⟨_, rfl⟩
  rw [← hG] at hp hgl ⊢
  have z0 : s.length < 18446744073709551616 := by omega
  have hcv : ∀ W : World, (convert 9 22 (.string ⟨s.toArray⟩)).run Tryd.prog W = .ok (.slice (some ⟨W.heap.size, 0, none⟩) s.length (grownCap W s.length 0 5)) (W.drew.alloc (.cells (bytesRow ⟨s.toArray⟩ (grownCap W s.length 0 5)) 5 ((bytesRow ⟨s.toArray⟩ (grownCap W s.length 0 5)).size, (bytesRow ⟨s.toArray⟩ (grownCap W s.length 0 5)).size + 1))) := fun W => run_bytes_of_string W 9 22 5 ⟨s.toArray⟩ Tryd.underlying9 Tryd.underlying22 Tryd.underlying5
  clear X hG
  go_enter Tryd.func61, Tryd.ntmps61
  go_wp2_with fail
  go_at_call 60
  refine hp.out.mono ?_
  intro e w1 h1
  obtain ⟨B, C, rfl, hT, hB⟩ := h1.txt (by rw [List.length_append, ← hxn.out])
  have HT := Lib.hid hT
  have HB := Lib.hid hB
  have HG := Lib.hid (grownCap_ge w1 s.length 0 5)
  clear h1 hT hB
  go_wp2_with fail
  go_at_call 68
  refine (joined_any (x ++ G) s B (n + G.length) C (some ⟨w1.heap.size, 0, none⟩) s.length _ _ (HT.out.below (low1 _ _).drew) (txt_of_string w1 s _ _ _ HG.out) (by omega) (by omega)).mono ?_
  rintro e w3 ⟨B2, C2, rfl, hA⟩
  have HA := Lib.hid (hA.rebase (bthen HB.out (low1 _ _).drew).size (bthen HB.out (low1 _ _).drew))
  clear hA
  go_wp2
  go_ret
  exact ⟨B2, C2, rfl, HA.out⟩
end Go.Proofs.YtpdhgijeanbmcaaDoor

/- Ent -/
namespace Go.Proofs.YtpdhgijeanbmcaaDoor
open Go.RowKit

def entV (n : Int) (at_ : Nat) (k : Int) (s : List UInt8) : Value := .agg #[.int .i64 n, .int .u64 at_, .int .i64 k, .string ⟨s.toArray⟩]
def validB (n k : Int) (s : List UInt8) : Bool := decide (0 ≤ n) && decide (n < 2048) && decide (1 ≤ k) && decide (k ≤ 255) && decide (s.length ≤ 512)
set_option maxRecDepth 100000 in
set_option maxHeartbeats 1000000 in
theorem valid_any (n : Int) (at_ : Nat) (k : Int) (s : List UInt8) (w : World) :
    Calls Tryd.prog 56 #[entV n at_ k s] w fun e w' => e = .returned (.bool (validB n k s)) ∧ Below w.heap.size w w' := by
  have hsz := size_mk s
  unfold entV
  obtain ⟨bs, hbs⟩ : ∃ bs : ByteArray, bs = ⟨s.toArray⟩ := ⟨_, rfl⟩
  rw [← hbs] at hsz ⊢
  have Hsz := Lib.hid hsz
  clear hbs
  unfold validB
  rw [← hsz]
  clear hsz
  by_cases h1 : 0 ≤ n
  · by_cases h2 : n < 2048
    · by_cases h3 : 1 ≤ k
      · by_cases h4 : k ≤ 255
        · by_cases h5 : bs.size ≤ 512
          · have h6 : (bs.size : Int) ≤ 512 := by omega
            go_enter Tryd.func56, Tryd.ntmps56
            go_wp2
            go_ret
            exact ⟨by simp [h1, h2, h3, h4, h5], low1 _ _⟩
          · have h6 : ¬ (bs.size : Int) ≤ 512 := by omega
            go_enter Tryd.func56, Tryd.ntmps56
            go_wp2
            go_ret
            exact ⟨by simp [h1, h2, h3, h4, h5], low1 _ _⟩
        · go_enter Tryd.func56, Tryd.ntmps56
          go_wp2
          go_ret
          exact ⟨by simp [h1, h2, h3, h4]; intros; omega, low1 _ _⟩
      · go_enter Tryd.func56, Tryd.ntmps56
        go_wp2
        go_ret
        exact ⟨by simp [h1, h2, h3]; intros; omega, low1 _ _⟩
    · go_enter Tryd.func56, Tryd.ntmps56
      go_wp2
      go_ret
      exact ⟨by simp [h1, h2]; intros; omega, low1 _ _⟩
  · go_enter Tryd.func56, Tryd.ntmps56
    go_wp2
    go_ret
    exact ⟨by simp [h1]; intros; omega, low1 _ _⟩
set_option maxRecDepth 100000 in
set_option maxHeartbeats 1000000 in
theorem rright_any (n : Int) (at_ : Nat) (k : Int) (s : List UInt8) (w : World) :
    Calls Tryd.prog 59 #[entV n at_ k s] w fun e w' => e = .returned (.bool (validB n k s)) ∧ Below w.heap.size w w' := by
  have hsz := size_mk s
  unfold entV
  obtain ⟨bs, hbs⟩ : ∃ bs : ByteArray, bs = ⟨s.toArray⟩ := ⟨_, rfl⟩
  rw [← hbs] at hsz ⊢
  have Hsz := Lib.hid hsz
  clear hbs
  unfold validB
  rw [← hsz]
  clear hsz
  by_cases h1 : 0 ≤ n
  · by_cases h2 : n < 2048
    · by_cases h3 : 1 ≤ k
      · by_cases h4 : k ≤ 255
        · by_cases h5 : bs.size ≤ 512
          · have h6 : (bs.size : Int) ≤ 512 := by omega
            go_enter Tryd.func59, Tryd.ntmps59
            go_wp2
            go_ret
            exact ⟨by simp [h1, h2, h3, h4, h5], low1 _ _⟩
          · have h6 : ¬ (bs.size : Int) ≤ 512 := by omega
            go_enter Tryd.func59, Tryd.ntmps59
            go_wp2
            go_ret
            exact ⟨by simp [h1, h2, h3, h4, h5], low1 _ _⟩
        · go_enter Tryd.func59, Tryd.ntmps59
          go_wp2
          go_ret
          exact ⟨by simp [h1, h2, h3, h4]; intros; omega, low1 _ _⟩
      · go_enter Tryd.func59, Tryd.ntmps59
        go_wp2
        go_ret
        exact ⟨by simp [h1, h2, h3]; intros; omega, low1 _ _⟩
    · go_enter Tryd.func59, Tryd.ntmps59
      go_wp2
      go_ret
      exact ⟨by simp [h1, h2]; intros; omega, low1 _ _⟩
  · go_enter Tryd.func59, Tryd.ntmps59
    go_wp2
    go_ret
    exact ⟨by simp [h1]; intros; omega, low1 _ _⟩
end Go.Proofs.YtpdhgijeanbmcaaDoor

/- Reg -/
namespace Go.Proofs.YtpdhgijeanbmcaaDoor
open Go.RowKit

/-- What an operation is to yield: one value, known by name, or any that meets a property. -/
structure Yld (R : World → World → Prop) where
  val : Option Value
  p : Value → World → Prop
  st : ∀ v w w', p v w → R w w' → p v w'
  only : ∀ u, val = some u → ∀ v w, p v w → v = u
def Yld.is {R : World → World → Prop} (u : Value) : Yld R := ⟨some u, fun v _ => v = u, fun _ _ _ h _ => h, fun _ e _ _ h => h.trans (Option.some.inj e)⟩
def Yld.pr {R : World → World → Prop} (p : Value → World → Prop) (st : ∀ v w w', p v w → R w w' → p v w') : Yld R := ⟨none, p, st, fun _ e => by cases e⟩
def Yld.post {R : World → World → Prop} (D : Yld R) : Post R := ⟨D.p, D.st⟩
def Yld.value {R : World → World → Prop} (D : Yld R) (v : Value) : Value := match D.val with
  | some u => u
  | none => v
theorem Yld.value_eq {R : World → World → Prop} (D : Yld R) (v : Value) (w : World) (h : D.p v w) : D.value v = v := by
  unfold Yld.value
  cases hv : D.val with
  | none => rfl
  | some u => exact (D.only u hv v w h).symm

section
variable {P : Program} {ops : Array Oper} {R : World → World → Prop} {Q : Exit → Act → World → Prop}

/-- Which of the region's first n operations writes slot t. -/
def writer (ops : Array Oper) (t : Tmp) : Nat → Option Nat
  | 0 => none
  | n + 1 => match (ops[n]?).bind (·.dst) with
    | some d => if d == t then some n else writer ops t n
    | none => writer ops t n
def valAt (Ds : List (Yld R)) (vs : Nat → Value) (j : Nat) : Value := match Ds[j]? with
  | some D => D.value (vs j)
  | none => vs j
def lookD (ops : Array Oper) (Ds : List (Yld R)) (vs : Nat → Value) (a0 : Act) (n : Nat) : Operand → Value
  | .tmp t => match writer ops t n with
    | some j => valAt Ds vs j
    | none => a0.eval (.tmp t)
  | x => a0.eval x
def yieldD (Ds : List (Yld R)) (vs : Nat → Value) (g : Nat) : Option Bool := match valAt Ds vs g with
  | .bool b => some b
  | _ => none
/-- What the operation's run is to be. -/
def meets (P : Program) (R : World → World → Prop) (D : Yld R) (w : World) : Result Next → Prop
  | .ok (.value v) w' => R w w' ∧ D.p v w'
  | .ok .skip w' => R w w' ∧ D.p undef w'
  | .ok (.enter f args) w' => Calls P f args w' fun e w'' => ∃ v, e = .returned v ∧ R w w'' ∧ D.p v w''
  | .ok (.row row args) w' => Rows P row args w' fun v w'' => R w w'' ∧ D.p v w''
  | _ => False
def relAt (P : Program) (R : World → World → Prop) (D : Yld R) (o : Oper) (E : Operand → Value) (y : Nat → Option Bool) (w : World) : Prop :=
  if Region.wanted o y then meets P R D w ((execOp E o).run P w) else D.p undef w

def RegHead (P : Program) (ops : Array Oper) (R : World → World → Prop) (w0 : World) (a0 : Act) (n : Nat) (Ds : List (Yld R)) (vs : Nat → Value) : List Oper → List (Yld R) → Nat → Prop
  | _, [], _ => True
  | [], _ :: _, _ => False
  | o :: l, D :: r, k => (∀ w, R w0 w → allOf (fun i w => ((Ds[i]?).getD (Yld.is undef)).p (vs i) w) w (depsOf o) → relAt P R D o (lookD ops Ds vs a0 n) (yieldD Ds vs) w) ∧ RegHead P ops R w0 a0 n Ds vs l r (k + 1)

theorem writer_some {t : Tmp} : ∀ {n j : Nat}, writer ops t n = some j → j < n ∧ ∃ q, ops[j]? = some q ∧ q.dst = some t
  | 0, j, h => by simp [writer] at h
  | n + 1, j, h => by
    unfold writer at h
    cases ho : ops[n]? with
    | none =>
      simp [ho] at h
      obtain ⟨h1, h2⟩ := writer_some h
      exact ⟨by omega, h2⟩
    | some q =>
      cases hd : q.dst with
      | none =>
        simp [ho, hd] at h
        obtain ⟨h1, h2⟩ := writer_some h
        exact ⟨by omega, h2⟩
      | some d =>
        simp [ho, hd] at h
        split at h
        · next e =>
          obtain rfl := Option.some.inj h
          exact ⟨by omega, q, ho, by rw [hd, e]⟩
        · obtain ⟨h1, h2⟩ := writer_some h
          exact ⟨by omega, h2⟩
theorem writer_none {t : Tmp} : ∀ {n : Nat}, writer ops t n = none → ∀ j q, j < n → ops[j]? = some q → q.dst ≠ some t
  | 0, _, j, q, hj, _ => by omega
  | n + 1, h, j, q, hj, hq => by
    unfold writer at h
    by_cases e : j = n
    · subst e
      intro hd
      simp [hq, hd] at h
    · have hr : writer ops t n = none := by
        cases ho : (ops[n]?).bind (·.dst) with
        | none => simp only [ho] at h; exact h
        | some d =>
          simp only [ho] at h
          split at h
          · cases h
          · exact h
      exact writer_none hr j q (by omega) hq
/-- The slots that are written lie in the frame. -/
def sizeB (ops : Array Oper) (n : Nat) (s : Nat) : Bool := (List.range n).all fun k => match ops[k]? with
  | none => false
  | some o => match o.dst with
    | none => true
    | some d => decide (d < s)
theorem size_spec {n s k : Nat} {o : Oper} {d : Tmp} (h : sizeB ops n s = true) (hk : k < n) (ho : ops[k]? = some o) (hd : o.dst = some d) : d < s := by
  have h1 := List.all_eq_true.1 h k (List.mem_range.2 hk)
  simpa [ho, hd] using h1
/-- A guard asks an operation that writes a slot. -/
def guardB (ops : Array Oper) (n : Nat) : Bool := (List.range n).all fun k => match ops[k]? with
  | none => false
  | some o => match o.guard with
    | none => true
    | some (g, _) => match ops[g]? with
      | none => false
      | some q => q.dst.isSome
theorem guard_spec {n k g : Nat} {b : Bool} {o : Oper} (h : guardB ops n = true) (hk : k < n) (ho : ops[k]? = some o) (hg : o.guard = some (g, b)) : ∃ q d, ops[g]? = some q ∧ q.dst = some d := by
  have h1 := List.all_eq_true.1 h k (List.mem_range.2 hk)
  simp only [ho, hg] at h1
  cases hq : ops[g]? with
  | none => simp [hq] at h1
  | some q =>
    simp only [hq, Option.isSome_iff_exists] at h1
    obtain ⟨d, hd⟩ := h1
    exact ⟨q, d, rfl, hd⟩

theorem relOp_of_at {D : Yld R} {o : Oper} {E : Operand → Value} {y : Nat → Option Bool} {a : Act} {w : World} (hrf : ∀ w, R w w) (he : execOp a.eval o = execOp E o) (hw : Region.wanted o (yielded ops a.tmps) = Region.wanted o y) (h : relAt P R D o E y w) : relOp P ops R D.p o a w := by
  unfold relOp wpList
  unfold relAt at h
  rw [hw]
  by_cases hg : Region.wanted o y = true
  · rw [if_pos hg] at h ⊢
    left
    unfold Oper.wp
    rw [he]
    cases hr : (execOp E o).run P w with
    | ok x w' =>
      rw [hr] at h
      cases x <;> simp only [meets] at h
      case value v => exact ⟨rfl, _, rfl, h⟩
      case skip => exact ⟨rfl, _, rfl, h⟩
      case enter f args =>
        refine Calls.mono h ?_
        rintro e w'' ⟨v, rfl, h1, h2⟩
        exact ⟨rfl, v, rfl, h1, h2⟩
      case row row args => exact Rows.mono h fun v w'' hh => ⟨rfl, v, rfl, hh⟩
    | halt x w' =>
      rw [hr] at h
      exact False.elim h
  · rw [if_neg hg] at h ⊢
    unfold wpList
    exact ⟨rfl, _, rfl, hrf _, h⟩

theorem acts_size (vs : Nat → Value) (a0 : Act) : ∀ k, (acts ops vs a0 k).tmps.size = a0.tmps.size
  | 0 => rfl
  | k + 1 => by
    unfold acts
    cases ops[k]? with
    | none => exact acts_size vs a0 k
    | some o => cases hd : o.dst <;> simp [Act.put, hd, acts_size vs a0 k]

theorem reg_head {w0 : World} {a0 : Act} {n : Nat} {Ds : List (Yld R)} {vs : Nat → Value} : ∀ {l : List Oper} {r : List (Yld R)} {k : Nat}, RegHead P ops R w0 a0 n Ds vs l r k → ∀ (i : Nat) (D : Yld R), r[i]? = some D → ∃ o, l[i]? = some o ∧ ∀ w, R w0 w → allOf (fun i w => ((Ds[i]?).getD (Yld.is undef)).p (vs i) w) w (depsOf o) → relAt P R D o (lookD ops Ds vs a0 n) (yieldD Ds vs) w
  | _, [], _, _, i, D, hD => by simp at hD
  | [], _ :: _, _, h, _, _, _ => False.elim h
  | o :: l, D0 :: r, k, h, 0, D, hD => by
    obtain rfl : D0 = D := by simpa using hD
    exact ⟨o, rfl, h.1⟩
  | o :: l, D0 :: r, k, h, i + 1, D, hD => by
    obtain ⟨q, hq, hh⟩ := reg_head h.2 i D (by simpa using hD)
    exact ⟨q, by simpa using hq, hh⟩

/-- THE LAW, in its second form: each of the first n operations is asked about known values alone. -/
theorem wp_region_reg {id : Nat} {a : Act} {w : World} {l : List Oper} (n s : Nat) (R : World → World → Prop) (hm : P.follows .mixedOrders = true) (hB : relB l.toArray n = true) (hS : sizeB l.toArray n s = true) (hs : a.tmps.size = s) (hG : guardB l.toArray n = true) (hrf : ∀ w, R w w) (htr : ∀ w w' w'', R w w' → R w' w'' → R w w'')
    (Ds : List (Yld R)) (hD : Ds.length = n) (h : ∀ vs, RegHead P l.toArray R w.drew a n Ds vs l Ds 0)
    (ht : ∀ vs w', R w.drew w' → allOf (fun i w => ((Ds[i]?).getD (Yld.is undef)).p (vs i) w) w' (List.range n) → wpList P l.toArray Q (l.drop n) (acts l.toArray (valAt Ds vs) a n) w') : (Code.region id l.toArray true).wp P Q a w := by
  have hB' := hB
  simp only [relB, Bool.and_eq_true, decide_eq_true_eq] at hB'
  obtain ⟨⟨⟨⟨⟨⟨hsel, hn⟩, _⟩, _⟩, hpl⟩, hself⟩, _⟩ := hB'
  subst hs
  refine wp_region_any hm ?_
  have hDs : ∀ k, k < n → ∃ D, Ds[k]? = some D := fun k hk => ⟨Ds[k]'(by omega), List.getElem?_eq_getElem (by omega)⟩
  have key := rel_any (P := P) (Q := Q) (ops := l.toArray) (D := fun k => ((Ds[k]?).getD (Yld.is undef)).p) (a0 := a) (w0 := w.drew) hB (fun k v w w' h1 h2 => ((Ds[k]?).getD (Yld.is undef)).st v w w' h1 h2) htr
    (fun k o vs w' hk ho hR hdeps => by
      obtain ⟨D, hDk⟩ := hDs k hk
      obtain ⟨o', ho', hh⟩ := reg_head (h vs) k D hDk
      obtain rfl : o = o' := Option.some.inj (ho.symm.trans (by simpa using ho'))
      have hh := hh w' hR (allOf_iff.2 hdeps)
      obtain ⟨o2, ho2, hgu, hlt, hoth⟩ := plain_spec hpl hk
      obtain rfl : o = o2 := Option.some.inj (ho.symm.trans ho2)
      have hrep := rep_acts a vs hpl k (by omega)
      have hval : ∀ j ∈ depsOf o, valAt Ds vs j = vs j := fun j hj => by
        have hjn : j < n := by have := hlt j hj; omega
        obtain ⟨Dj, hDj⟩ := hDs j hjn
        have := hdeps j hj
        simp only [hDj, Option.getD_some] at this
        simp only [valAt, hDj]
        exact Dj.value_eq _ _ this
      have hslot : ∀ j q d, j ∈ depsOf o → l.toArray[j]? = some q → q.dst = some d → (acts l.toArray vs a k).tmps[d]? = some (vs j) := fun j q d hj hq hd => by
        have hjk := hlt j hj
        have h1 := hrep.val j q d (by omega) hq hd (by simpa using hjk)
        have h2 := size_spec hS (show j < n by omega) hq hd
        rw [h1, Array.getElem?_setIfInBounds_self, if_pos h2]
      have he : execOp (acts l.toArray vs a k).eval o = execOp (lookD l.toArray Ds vs a n) o := execOp_congr o (Region.noSelect_spec hsel k o · · ho) fun x hx => by
        cases x with
        | tmp t =>
          have ht : t ∈ tmpsOf o := List.mem_filterMap.2 ⟨.tmp t, by simpa using hx, rfl⟩
          show (acts l.toArray vs a k).tmps.getD t undef = match writer l.toArray t n with
            | some j => valAt Ds vs j
            | none => a.tmps.getD t undef
          cases hwr : writer l.toArray t n with
          | some j =>
            obtain ⟨hjn, q, hq, hqt⟩ := writer_some hwr
            have hjk : j ≠ k := fun e => by
              subst e
              obtain rfl : o = q := Option.some.inj (ho.symm.trans hq)
              exact self_spec hself hk ho t ht hqt
            obtain ⟨q', hq', _, hdep⟩ := hoth j hjn hjk
            obtain rfl : q = q' := Option.some.inj (hq.symm.trans hq')
            have hjd := hdep t ht hqt
            have h1 := hslot j q t hjd hq hqt
            show _ = valAt Ds vs j
            rw [hval j hjd]
            simp [h1]
          | none =>
            have h1 := hrep.other t fun j q hj hq _ => writer_none hwr j q (by omega) hq
            show _ = a.tmps.getD t undef
            simp [h1]
        | _ => rfl
      have hwn : Region.wanted o (yielded l.toArray (acts l.toArray vs a k).tmps) = Region.wanted o (yieldD Ds vs) := by
        unfold Region.wanted
        cases hgd : o.guard with
        | none => rfl
        | some gb =>
          obtain ⟨g, b⟩ := gb
          have hgm := hgu g b hgd
          obtain ⟨q, d, hq, hd⟩ := guard_spec hG hk ho hgd
          have h1 := hslot g q d hgm hq hd
          have : yielded l.toArray (acts l.toArray vs a k).tmps g = yieldD Ds vs g := by
            simp only [yielded, hq, yieldD, hval g hgm, Option.bind_some, hd, h1]
            cases vs g <;> rfl
          simp only [this]
      have hrel := relOp_of_at (ops := l.toArray) hrf he hwn hh
      simp only [hDk, Option.getD_some]
      exact hrel)
    (fun vs w' hR hDv => by
      have h1 := ht vs w' hR (allOf_iff.2 fun i hi => hDv i (List.mem_range.1 hi))
      have h2 : acts l.toArray (valAt Ds vs) a n = acts l.toArray vs a n := by
        have : ∀ k, k ≤ n → acts l.toArray (valAt Ds vs) a k = acts l.toArray vs a k := by
          intro k
          induction k with
          | zero => intro _; rfl
          | succ k ih =>
            intro hk
            obtain ⟨D, hDk⟩ := hDs k (by omega)
            have h3 := hDv k (by omega)
            simp only [hDk, Option.getD_some] at h3
            have h4 : valAt Ds vs k = vs k := by
              simp only [valAt, hDk]
              exact D.value_eq _ _ h3
            simp only [acts, ih (by omega), h4]
        exact this n (Nat.le_refl _)
      rw [h2] at h1
      simpa using h1)
    n (List.range n) (Array.replicate l.toArray.size false) (fun _ => undef) a w.drew (by simp) List.nodup_range
    (fun i => by
      rw [List.mem_range]
      exact ⟨fun hi => ⟨hi, getD_in (by simp at hn ⊢; omega) (getD_replicate_false _ _)⟩, fun hi => hi.1⟩)
    ⟨by simp, fun j oj _ hl => (by rw [getD_replicate_false] at hl; cases hl), fun t _ ht => getD_in (by simpa using ht) (getD_replicate_false _ _)⟩
    ⟨rfl, rfl, fun _ _ => rfl, fun k o d _ _ _ hS => (by rw [getD_replicate_false] at hS; cases hS)⟩ (fun i _ hS => (by rw [getD_replicate_false] at hS; cases hS)) (hrf _)
  rw [show n + (l.toArray.size - n) = l.toArray.size by simp at hn ⊢; omega] at key
  exact key

theorem RegHead.cons {w0 : World} {a0 : Act} {n : Nat} {Ds : List (Yld R)} {vs : Nat → Value} {o : Oper} {l : List Oper} {D : Yld R} {r : List (Yld R)} {k : Nat} (h1 : ∀ w, R w0 w → allOf (fun i w => ((Ds[i]?).getD (Yld.is undef)).p (vs i) w) w (depsOf o) → relAt P R D o (lookD ops Ds vs a0 n) (yieldD Ds vs) w)
    (h2 : RegHead P ops R w0 a0 n Ds vs l r (k + 1)) : RegHead P ops R w0 a0 n Ds vs (o :: l) (D :: r) k := ⟨h1, h2⟩

/-- The frame behind the region, written out: the first s slots and those from m on as they were, the others new. -/
theorem wp_frame {xs new : List Value} {df : List Deferred} {vs : Nat → Value} {n : Nat} {w : World} {rest : List Oper} (s m : Nat) (h : acts ops vs ⟨xs.toArray, df⟩ n = ⟨(xs.take s ++ (new ++ xs.drop m)).toArray, df⟩)
    (hw : wpList P ops Q rest ⟨(xs.take s ++ (new ++ xs.drop m)).toArray, df⟩ w) : wpList P ops Q rest (acts ops vs ⟨xs.toArray, df⟩ n) w := by
  rw [h]; exact hw

def overlay (xs : List Value) : List (Nat × List Value) → List Value
  | [] => xs
  | (s, new) :: r => overlay (xs.take s ++ (new ++ xs.drop (s + new.length))) r
/-- The same, several rows of slots being new. -/
theorem wp_frame2 {xs : List Value} {ps : List (Nat × List Value)} {df : List Deferred} {vs : Nat → Value} {n : Nat} {w : World} {rest : List Oper} (h : acts ops vs ⟨xs.toArray, df⟩ n = ⟨(overlay xs ps).toArray, df⟩)
    (hw : wpList P ops Q rest ⟨(overlay xs ps).toArray, df⟩ w) : wpList P ops Q rest (acts ops vs ⟨xs.toArray, df⟩ n) w := by
  rw [h]; exact hw

/- The answers, one for each kind of operation. -/
theorem relAt.pure {u : Value} {o : Oper} {E : Operand → Value} {y : Nat → Option Bool} {w : World} (hrf : ∀ w, R w w) (hw : Region.wanted o y = true) (hr : (execOp E o).run P w = .ok (.value u) w) : relAt P R (Yld.is u) o E y w := by
  unfold relAt
  rw [if_pos hw, hr]
  exact ⟨hrf _, rfl⟩
theorem relAt.skip {o : Oper} {E : Operand → Value} {y : Nat → Option Bool} {w : World} (hw : Region.wanted o y = false) : relAt P R (Yld.is undef) o E y w := by
  unfold relAt
  rw [if_neg (by rw [hw]; decide)]
  rfl
theorem relAt.value {D : Yld R} {u : Value} {o : Oper} {E : Operand → Value} {y : Nat → Option Bool} {w w' : World} (hw : Region.wanted o y = true) (hr : (execOp E o).run P w = .ok (.value u) w') (hR : R w w') (hD : D.p u w') : relAt P R D o E y w := by
  unfold relAt
  rw [if_pos hw, hr]
  exact ⟨hR, hD⟩
/-- An operation that only yields a value: what is run, and the value made of it. -/
def valS (s : Sem Value) : Sem Next := do pure (.value (← s))
theorem run_valS {s : Sem Value} {u : Value} {w w' : World} (h : s.run P w = .ok u w') : (valS s).run P w = .ok (.value u) w' := by
  simp [valS, h]
theorem relAt.pureS {u : Value} {o : Oper} {E : Operand → Value} {y : Nat → Option Bool} {w : World} {s : Sem Value} (hrf : ∀ w, R w w) (hw : Region.wanted o y = true) (he : execOp E o = valS s) (hr : s.run P w = .ok u w) : relAt P R (Yld.is u) o E y w :=
  relAt.pure hrf hw (by rw [he]; exact run_valS hr)
theorem relAt.valueS {D : Yld R} {u : Value} {o : Oper} {E : Operand → Value} {y : Nat → Option Bool} {w w' : World} {s : Sem Value} (hw : Region.wanted o y = true) (he : execOp E o = valS s) (hr : s.run P w = .ok u w') (hR : R w w') (hD : D.p u w') : relAt P R D o E y w :=
  relAt.value hw (by rw [he]; exact run_valS hr) hR hD
theorem relAt.call {D : Yld R} {f : FuncId} {args : Array Value} {o : Oper} {E : Operand → Value} {y : Nat → Option Bool} {w : World} (hw : Region.wanted o y = true) (hr : (execOp E o).run P w = .ok (.enter f args) w) (h : Calls P f args w fun e w' => ∃ v, e = .returned v ∧ R w w' ∧ D.p v w') : relAt P R D o E y w := by
  unfold relAt
  rw [if_pos hw, hr]
  exact h
end
end Go.Proofs.YtpdhgijeanbmcaaDoor

/- Runs -/
namespace Go.Proofs.YtpdhgijeanbmcaaDoor
open Go.RowKit Go.Great

theorem run_load_at_sum (w : World) (b o : Nat) (l : List UInt8) (hc : w.rangeAt b o (l.map V8)) (hl : l.length = 32) : (Instr.loadAt 29 (.pointer (some ⟨b, o, none⟩))).run Tryd.prog w = .ok (sumV l) w :=
  run_loadAt_mid w b o 29 (l.map V8) _ hc Tryd.underlying29 rfl (by rw [show (Tryd.prog.info? 29).map (·.size) = some 32 from by kernel_rfl, List.length_map, hl])
theorem run_load_box_sum (w : World) (g : Nat) (t : TypeId) (fr : Nat × Nat) (l : List UInt8) (hg : w.heap[g]? = some (.cells (l.map V8).toArray t fr)) (hl : l.length = 32) : (Instr.loadAt 29 (.pointer (some ⟨g, 0, none⟩))).run Tryd.prog w = .ok (sumV l) w := by
  simp only [Instr.loadAt, Instr.sureAddr, Sem.run_bind, Sem.run_pure, Result.andThen_ok]
  exact run_loadVar_row w g t 29 (l.map V8).toArray fr _ hg Tryd.underlying29 rfl (size_sum l hl)
/-- An operation on two values, behind the model's own guard. -/
def binS (op : BinOp) (t : TypeId) (x y : Operand) (a b : Value) : Sem Value := do eqGuard op t x y a b; binOp op t a b
theorem run_binS {P : Program} {op : BinOp} {t : TypeId} {x y : Operand} {a b v : Value} {w : World} (hg : (eqGuard op t x y a b).run P w = .ok () w) (h : (binOp op t a b).run P w = .ok v w) : (binS op t x y a b).run P w = .ok v w := by
  simp [binS, Sem.run_bind, hg, h]
theorem run_eql_sums (w : World) (p q : Operand) (x y : List UInt8) (bb : Bool) (hx : x.length = 32) (hy : y.length = 32) (h : (x == y) = bb) : (binS .eql 29 p q (sumV x) (sumV y)).run Tryd.prog w = .ok (.bool bb) w := by
  have hel := eql_sumV x y w hx hy
  rw [h] at hel
  exact run_binS (by kernel_rfl) hel
section
variable {P : Program} (w : World) (t : TypeId) (p q : Operand) (a b : Int)
theorem guard_int (op : BinOp) (k : IntKind) : (eqGuard op t p q (.int k a) (.int k b)).run P w = .ok () w := by cases op <;> rfl
theorem run_int_sub (h : -9223372036854775808 ≤ a - b ∧ a - b ≤ 9223372036854775807) : (binS .sub t p q (.int .i64 a) (.int .i64 b)).run P w = .ok (.int .i64 (a - b)) w :=
  run_binS (guard_int w t p q a b _ _) (by rw [binOp_sub]; show Result.ok (Value.int .i64 (IntKind.i64.wrap (a - b))) w = _; rw [IntWalk.i64_in _ h])
theorem run_int_add (h : -9223372036854775808 ≤ a + b ∧ a + b ≤ 9223372036854775807) : (binS .add t p q (.int .i64 a) (.int .i64 b)).run P w = .ok (.int .i64 (a + b)) w :=
  run_binS (guard_int w t p q a b _ _) (by rw [binOp_add]; show Result.ok (Value.int .i64 (IntKind.i64.wrap (a + b))) w = _; rw [IntWalk.i64_in _ h])
end
/-- Where element k of a slice of sums lies. -/
theorem run_sums_index (w : World) (bl off n c k : Nat) (hk : k < n) : (Instr.indexAt 31 (.slice (some ⟨bl, off, none⟩) n c) (.int .i64 k)).run Tryd.prog w = .ok (.pointer (some ⟨bl, off + k * 32, none⟩)) w := by
  rw [run_indexAt_slice (P := Tryd.prog) (w := w) 31 _ n c .i64 k Tryd.underlying31, if_pos ⟨by omega, by omega⟩, show (sizeOf (Tryd.prog.elem 31)).run Tryd.prog w = .ok 32 w by kernel_rfl]
  simp [Result.andThen, Addr.add_lit]
theorem sums_info (w : World) : (sizeOf (Tryd.prog.elem 31)).run Tryd.prog w = .ok 32 w := by kernel_rfl
theorem run_sums_to (w : World) (a : Option Addr) (n c k : Nat) (ha : ∀ ad, a = some ad → ∃ b o, ad = ⟨b, o, none⟩) (hk : k ≤ c) : (Instr.sliceAt 31 (.slice a n c) none (some (.int .i64 k)) none).run Tryd.prog w = .ok (.slice a k c) w := by
  rw [run_sliceAt_slice (P := Tryd.prog) (w := w) 31 _ _ _ _ Tryd.underlying31, run_slice_h (P := Tryd.prog) (w := w) 31 a n c Tryd.underlying31 .i64 k (by omega) (by omega), sums_info]
  simp only [Result.andThen, sliced, Int.toNat_natCast, Nat.zero_mul, Nat.sub_zero]
  cases a with
  | none => simp
  | some ad =>
    obtain ⟨b, o, rfl⟩ := ha ad rfl
    simp [Addr.add_lit]
theorem run_sums_from (w : World) (a : Option Addr) (n c k : Nat) (hk : k ≤ n) : (Instr.sliceAt 31 (.slice a n c) (some (.int .i64 k)) none none).run Tryd.prog w = .ok (.slice (if c = k then a else a.map (·.add (k * 32))) (n - k : Nat) (c - k : Nat)) w := by
  rw [run_sliceAt_slice (P := Tryd.prog) (w := w) 31 _ _ _ _ Tryd.underlying31, run_slice_l (P := Tryd.prog) (w := w) 31 a n c Tryd.underlying31 .i64 k (by omega) (by omega), sums_info]
  simp only [Result.andThen, sliced, Int.toNat_natCast]
end Go.Proofs.YtpdhgijeanbmcaaDoor

/- Reg2 -/
namespace Go.Proofs.YtpdhgijeanbmcaaDoor
open Go.RowKit

section
variable {P : Program} {ops : Array Oper} {R : World → World → Prop} {Q : Exit → Act → World → Prop}

/-- What has come up brings what it waits for. -/
def Down (ops : Array Oper) (n : Nat) (S : Nat → Bool) : Prop := ∀ j q, j < n → ops[j]? = some q → S j = true → ∀ i ∈ depsOf q, i < j ∧ S i = true
/-- j waits for k, at however many removes. -/
def reach (ops : Array Oper) : Nat → Nat → Nat → Bool
  | 0, _, _ => false
  | f + 1, j, k => match ops[j]? with
    | none => false
    | some q => (depsOf q).any fun i => i == k || reach ops f i k
theorem Down.come {n : Nat} {S : Nat → Bool} (h : Down ops n S) : ∀ (f j k : Nat), j < n → S j = true → reach ops f j k = true → S k = true
  | 0, _, _, _, _, hr => by simp [reach] at hr
  | f + 1, j, k, hj, hS, hr => by
    unfold reach at hr
    cases hq : ops[j]? with
    | none => simp [hq] at hr
    | some q =>
      simp only [hq, List.any_eq_true, Bool.or_eq_true, beq_iff_eq] at hr
      obtain ⟨i, hi, hr⟩ := hr
      obtain ⟨hij, hSi⟩ := h j q hj hq hS i hi
      rcases hr with rfl | hr
      · exact hSi
      · exact h.come f i k (by omega) hSi hr
theorem Down.not {n : Nat} {S : Nat → Bool} (h : Down ops n S) (f : Nat) {j k : Nat} (hk : S k = false) (hj : j < n) (hr : reach ops f j k = true) : S j = false := by
  cases e : S j with
  | false => rfl
  | true => rw [h.come f j k hj e hr] at hk; cases hk

def meetsI (P : Program) (R : World → World → Prop) (p : Value → World → Prop) (w : World) : Result Next → Prop
  | .ok (.value v) w' => R w w' ∧ p v w'
  | .ok .skip w' => R w w' ∧ p undef w'
  | .ok (.enter f args) w' => Calls P f args w' fun e w'' => ∃ v, e = .returned v ∧ R w w'' ∧ p v w''
  | .ok (.row row args) w' => Rows P row args w' fun v w'' => R w w'' ∧ p v w''
  | _ => False
def relAtI (P : Program) (R : World → World → Prop) (p : Value → World → Prop) (o : Oper) (E : Operand → Value) (y : Nat → Option Bool) (w : World) : Prop :=
  if Region.wanted o y then meetsI P R p w ((execOp E o).run P w) else R w w ∧ p undef w
def setB (S : Nat → Bool) (k : Nat) : Nat → Bool := fun i => if i = k then true else S i
theorem keepI {I : List Bool → World → Prop} {ks : List Nat} {S : Nat → Bool} {k : Nat} {w : World} (hk : k ∉ ks) (h : I (ks.map S) w) : I (ks.map (setB S k)) w := by
  have : ks.map (setB S k) = ks.map S := List.map_congr_left fun i hi => by
    unfold setB
    rw [if_neg (fun e => hk (by rw [← e]; exact hi))]
  rw [this]; exact h

/-- What is to be shown of operation k. -/
def AskI (P : Program) (ops : Array Oper) (R : World → World → Prop) (I : List Bool → World → Prop) (ks : List Nat) (a0 : Act) (n : Nat) (Ds : List (Yld R)) (vs : Nat → Value) (o : Oper) (D : Yld R) (k : Nat) : Prop :=
  ∀ S w, Down ops n S → S k = false → (∀ j ∈ depsOf o, S j = true) → I (ks.map S) w → allOf (fun i w => ((Ds[i]?).getD (Yld.is undef)).p (vs i) w) w (depsOf o) →
    relAtI P (fun w w' => R w w' ∧ I (ks.map (setB S k)) w') D.p o (lookD ops Ds vs a0 n) (yieldD Ds vs) w
def RegHeadI (P : Program) (ops : Array Oper) (R : World → World → Prop) (I : List Bool → World → Prop) (ks : List Nat) (a0 : Act) (n : Nat) (Ds : List (Yld R)) (vs : Nat → Value) : List Oper → List (Yld R) → Nat → Prop
  | _, [], _ => True
  | [], _ :: _, _ => False
  | o :: l, D :: r, k => AskI P ops R I ks a0 n Ds vs o D k ∧ RegHeadI P ops R I ks a0 n Ds vs l r (k + 1)
theorem RegHeadI.cons {I : List Bool → World → Prop} {ks : List Nat} {a0 : Act} {n : Nat} {Ds : List (Yld R)} {vs : Nat → Value} {o : Oper} {l : List Oper} {D : Yld R} {r : List (Yld R)} {k : Nat}
    (h1 : ∀ S w, Down ops n S → S k = false → (∀ j ∈ depsOf o, S j = true) → I (ks.map S) w → allOf (fun i w => ((Ds[i]?).getD (Yld.is undef)).p (vs i) w) w (depsOf o) →
      relAtI P (fun w w' => R w w' ∧ I (ks.map (setB S k)) w') D.p o (lookD ops Ds vs a0 n) (yieldD Ds vs) w)
    (h2 : RegHeadI P ops R I ks a0 n Ds vs l r (k + 1)) : RegHeadI P ops R I ks a0 n Ds vs (o :: l) (D :: r) k := ⟨h1, h2⟩
theorem regI_head {I : List Bool → World → Prop} {ks : List Nat} {a0 : Act} {n : Nat} {Ds : List (Yld R)} {vs : Nat → Value} : ∀ {l : List Oper} {r : List (Yld R)} {k : Nat}, RegHeadI P ops R I ks a0 n Ds vs l r k → ∀ (i : Nat) (D : Yld R), r[i]? = some D → ∃ o, l[i]? = some o ∧ AskI P ops R I ks a0 n Ds vs o D (k + i)
  | _, [], _, _, i, D, hD => by simp at hD
  | [], _ :: _, _, h, _, _, _ => False.elim h
  | o :: l, D0 :: r, k, h, 0, D, hD => by
    obtain rfl : D0 = D := by simpa using hD
    exact ⟨o, rfl, h.1⟩
  | o :: l, D0 :: r, k, h, i + 1, D, hD => by
    obtain ⟨q, hq, hh⟩ := regI_head h.2 i D (by simpa using hD)
    exact ⟨q, by simpa using hq, by rw [show k + (i + 1) = k + 1 + i by omega]; exact hh⟩

theorem relOp_of_atI {R' : World → World → Prop} {p : Value → World → Prop} {o : Oper} {E : Operand → Value} {y : Nat → Option Bool} {a : Act} {w : World} (he : execOp a.eval o = execOp E o) (hw : Region.wanted o (yielded ops a.tmps) = Region.wanted o y) (h : relAtI P R' p o E y w) : relOp P ops R' p o a w := by
  unfold relOp wpList
  unfold relAtI at h
  rw [hw]
  by_cases hg : Region.wanted o y = true
  · rw [if_pos hg] at h ⊢
    left
    unfold Oper.wp
    rw [he]
    cases hr : (execOp E o).run P w with
    | ok x w' =>
      rw [hr] at h
      cases x <;> simp only [meetsI] at h
      case value v => exact ⟨rfl, _, rfl, h⟩
      case skip => exact ⟨rfl, _, rfl, h⟩
      case enter f args =>
        refine Calls.mono h ?_
        rintro e w'' ⟨v, rfl, h1, h2⟩
        exact ⟨rfl, v, rfl, h1, h2⟩
      case row row args => exact Rows.mono h fun v w'' hh => ⟨rfl, v, rfl, hh⟩
    | halt x w' =>
      rw [hr] at h
      exact False.elim h
  · rw [if_neg hg] at h ⊢
    unfold wpList
    exact ⟨rfl, _, rfl, h⟩

theorem inv_any {n : Nat} {a0 : Act} {D : Nat → Value → World → Prop} {J : (Nat → Bool) → World → Prop} (hB : relB ops n = true) (hst : ∀ k v w w', D k v w → R w w' → D k v w')
    (hop : ∀ k o vs w S, k < n → ops[k]? = some o → Down ops n S → S k = false → (∀ j ∈ depsOf o, S j = true) → J S w → (∀ j ∈ depsOf o, D j (vs j) w) → relOp P ops (fun w w' => R w w' ∧ J (setB S k) w') (D k) o (acts ops vs a0 k) w)
    (htail : ∀ vs w, J (fun i => decide (i < n)) w → (∀ k, k < n → D k (vs k) w) → wpList P ops Q (ops.toList.drop n) (acts ops vs a0 n) w) :
    ∀ (f : Nat) (un : List Nat) (listed : Array Bool) (vs : Nat → Value) (a : Act) (w : World), un.length = f → un.Nodup → (∀ i, i ∈ un ↔ i < n ∧ listed.getD i true = false) → HeadInv .any ops n listed →
      Rep ops n a0 vs (fun i => listed.getD i false) a → (∀ i, i < n → listed.getD i false = true → D i (vs i) w) → Down ops n (fun i => listed.getD i false) → J (fun i => listed.getD i false) w → wpAny P .any ops Q (f + (ops.size - n)) listed a w := by
  simp only [relB, Bool.and_eq_true, decide_eq_true_eq] at hB
  obtain ⟨⟨⟨⟨⟨⟨hsel, hn⟩, hs⟩, hc⟩, hpl⟩, hself⟩, hseq⟩ := hB
  intro f
  induction f with
  | zero =>
    intro un listed vs a w hf _ hun inv hrep hD hdown hJ
    obtain rfl : un = [] := List.eq_nil_of_length_eq_zero hf
    have hall : ∀ i, i < n → listed.getD i false = true := fun i hi => by
      cases h : listed.getD i false with
      | true => rfl
      | false => exact absurd ((hun i).2 ⟨hi, getD_in (by rw [inv.size]; omega) h⟩) (by simp)
    have hl := upto_array ops.size n listed inv.size fun i hi => ⟨fun h => (Nat.lt_or_ge i n).resolve_right fun h' => by
      rw [getD_both (inv.tail i h' hi)] at h
      exact absurd h (by simp), fun h => hall i h⟩
    have ha : a = acts ops vs a0 n := rep_unique hrep (rep_acts a0 vs hpl n (Nat.le_refl _)) fun i hi => by simp [hi, hall i hi]
    have hdl : (ops.toList.drop n).length = ops.size - n := by simp
    have hJe : (fun i => listed.getD i false) = (fun i => decide (i < n)) := by
      funext i
      by_cases hi : i < n
      · rw [hall i hi]; simp [hi]
      · by_cases hi2 : i < ops.size
        · rw [getD_both (inv.tail i (by omega) hi2)]; simp [hi]
        · have : listed.getD i false = false := by
            have h2 : listed.size ≤ i := by rw [inv.size]; omega
            simp [Array.getD, Nat.not_lt.2 h2]
          rw [this]; simp [hi]
    rw [hJe] at hJ
    have := wpAny_of_seq (P := P) (md := .any) (ops := ops) (Q' := Q) (ops.toList.drop n) n listed a w (fun j => by simp [List.getElem?_drop]) (by rw [hdl, hl]; exact hseq) (by rw [ha]; exact htail vs w hJ fun k hk => hD k hk (hall k hk))
    rw [hdl] at this
    rw [Nat.zero_add]
    exact this
  | succ f ih =>
    intro un listed vs a w hf hnd hun inv hrep hD hdown hJ
    have hex : ∃ i, i < n ∧ listed.getD i true = false := by
      cases un with
      | nil => simp at hf
      | cons i un => exact ⟨i, (hun i).1 (by simp)⟩
    have hready : ∃ i, i ∈ Region.ready .any ops listed := by
      obtain ⟨i, hi⟩ := hex
      induction i using Nat.strongRecOn with
      | _ i ihi =>
        obtain ⟨o, ho, _, hlt, _⟩ := plain_spec hpl hi.1
        by_cases hall : ∀ e ∈ o.after, Region.binds .any e = true → listed.getD e.on false = true
        · exact ⟨i, mem_ready.2 ⟨hi.2, o, ho, hall⟩⟩
        · simp only [Classical.not_forall] at hall
          obtain ⟨e, he, hb, hne⟩ := hall
          have hlt' : e.on < i := hlt e.on (by simp only [depsOf, List.mem_map, List.mem_filter]; exact ⟨e, ⟨by simpa using he, hb⟩, rfl⟩)
          exact ihi e.on hlt' ⟨by omega, getD_in (by rw [inv.size]; omega) (by simpa using hne)⟩
    obtain ⟨i0, hi0⟩ := hex
    rw [show f + 1 + (ops.size - n) = (f + (ops.size - n)) + 1 by omega]
    refine ⟨fun h0 => (by obtain ⟨i, hi⟩ := hready; rw [h0] at hi; exact absurd hi (by simp)), fun j hj => ?_⟩
    have hjn : j < n := by
      rcases Nat.lt_or_ge j n with h | h
      · exact h
      · have hjs : j < ops.size := by
          obtain ⟨_, o, ho, _⟩ := mem_ready.1 hj
          exact (Array.getElem?_eq_some_iff.1 ho).1
        exact absurd hj (tail_waits hs hc (show n < ops.size by omega) inv _ i0 rfl hi0.1 hi0.2 j h)
    obtain ⟨hjun, o, ho, hall⟩ := mem_ready.1 hj
    obtain ⟨o', ho', hg, hlt, _⟩ := plain_spec hpl hjn
    obtain rfl : o = o' := Option.some.inj (ho.symm.trans ho')
    have hdeps : ∀ i ∈ depsOf o, listed.getD i false = true := fun i hi => by
      simp only [depsOf, List.mem_map, List.mem_filter] at hi
      obtain ⟨e, ⟨he, hb⟩, rfl⟩ := hi
      exact hall e (by simpa using he) hb
    have he := eval_rep (vs := vs) hpl hself (Region.noSelect_spec hsel j o · · ho) hrep hjn ho hdeps
    have hsz : a.tmps.size = (acts ops vs a0 j).tmps.size := hrep.size.trans (rep_acts a0 vs hpl j (by omega)).size.symm
    have hSj : listed.getD j false = false := by
      have hjs : j < listed.size := by rw [inv.size]; omega
      have h1 : listed.getD j true = false := hjun
      simp only [Array.getD, hjs, dif_pos] at h1 ⊢
      exact h1
    refine wpOp_rel ho (wanted_rep hpl hrep hjn ho hdeps) he hsz (hop j o vs w _ hjn ho hdown hSj hdeps hJ fun i hi => hD i (by have := hlt i hi; omega) (hdeps i hi)) fun v w' hr hDv => ?_
    have hjs : j < listed.size := by rw [inv.size]; omega
    have hset : ∀ i, (listed.setIfInBounds j true).getD i false = true ↔ i = j ∨ listed.getD i false = true := fun i => by
      by_cases hij : j = i
      · subst hij; simp [hjs]
      · rw [getD_set_ne false hij]
        exact ⟨.inr, fun h => h.resolve_left fun e => hij e.symm⟩
    have hset2 : ∀ i, (listed.setIfInBounds j true).getD i true = false ↔ i ≠ j ∧ listed.getD i true = false := fun i => by
      by_cases hij : j = i
      · subst hij; simp [hjs]
      · rw [getD_set_ne true hij]
        exact ⟨fun h => ⟨fun e => hij e.symm, h⟩, fun h => h.2⟩
    have hsetB : (fun i => (listed.setIfInBounds j true).getD i false) = setB (fun i => listed.getD i false) j := by
      funext i
      unfold setB
      by_cases hij : j = i
      · subst hij; simp [hjs]
      · rw [getD_set_ne false hij, if_neg fun e => hij e.symm]
    have hju : j ∈ un := (hun j).2 ⟨hjn, hjun⟩
    refine ih (un.erase j) _ (fun i => if i = j then v else vs i) _ w' (by rw [List.length_erase_of_mem hju, hf]; rfl) (hnd.erase j) (fun i => ?_) (inv.set hj hjn) (rep_put hpl hrep hjn ho v _ hset) (fun i hi hS => ?_) ?_ (by rw [hsetB]; exact hr.2)
    · rw [hnd.mem_erase_iff, hun, hset2]
      exact ⟨fun h => ⟨h.2.1, h.1, h.2.2⟩, fun h => ⟨h.2.1, h.1, h.2.2⟩⟩
    · by_cases hij : i = j
      · subst hij; rw [if_pos rfl]; exact hDv
      · rw [if_neg hij]
        exact hst _ _ _ _ (hD i hi (((hset i).1 hS).resolve_left hij)) hr.1
    · intro i q hi hq hS i2 hi2
      by_cases hij : i = j
      · subst hij
        obtain rfl : o = q := Option.some.inj (ho.symm.trans hq)
        exact ⟨hlt i2 hi2, (hset i2).2 (.inr (hdeps i2 hi2))⟩
      · obtain ⟨h1, h2⟩ := hdown i q hi hq (((hset i).1 hS).resolve_left hij) i2 hi2
        exact ⟨h1, (hset i2).2 (.inr h2)⟩

/-- THE LAW, in its third form. -/
theorem wp_region_inv {id : Nat} {a : Act} {w : World} {l : List Oper} (n s : Nat) (R : World → World → Prop) (ks : List Nat) (I : List Bool → World → Prop) (hm : P.follows .mixedOrders = true) (hB : relB l.toArray n = true) (hS : sizeB l.toArray n s = true) (hs : a.tmps.size = s) (hG : guardB l.toArray n = true)
    (Ds : List (Yld R)) (hD : Ds.length = n) (h0 : I (ks.map fun _ => false) w.drew) (h : ∀ vs, RegHeadI P l.toArray R I ks a n Ds vs l Ds 0)
    (ht : ∀ vs w', I (ks.map fun i => decide (i < n)) w' → allOf (fun i w => ((Ds[i]?).getD (Yld.is undef)).p (vs i) w) w' (List.range n) → wpList P l.toArray Q (l.drop n) (acts l.toArray (valAt Ds vs) a n) w') : (Code.region id l.toArray true).wp P Q a w := by
  have hB' := hB
  simp only [relB, Bool.and_eq_true, decide_eq_true_eq] at hB'
  obtain ⟨⟨⟨⟨⟨⟨hsel, hn⟩, _⟩, _⟩, hpl⟩, hself⟩, _⟩ := hB'
  subst hs
  refine wp_region_any hm ?_
  have hDs : ∀ k, k < n → ∃ D, Ds[k]? = some D := fun k hk => ⟨Ds[k]'(by omega), List.getElem?_eq_getElem (by omega)⟩
  have key := inv_any (P := P) (Q := Q) (ops := l.toArray) (D := fun k => ((Ds[k]?).getD (Yld.is undef)).p) (a0 := a) (J := fun S w => I (ks.map S) w) hB (fun k v w w' h1 h2 => ((Ds[k]?).getD (Yld.is undef)).st v w w' h1 h2)
    (fun k o vs w' S hk ho hdown hSk hSd hI hdeps => by
      obtain ⟨D, hDk⟩ := hDs k hk
      obtain ⟨o', ho', hh⟩ := regI_head (h vs) k D hDk
      obtain rfl : o = o' := Option.some.inj (ho.symm.trans (by simpa using ho'))
      rw [Nat.zero_add] at hh
      have hh := hh S w' hdown hSk hSd hI (allOf_iff.2 hdeps)
      obtain ⟨o2, ho2, hgu, hlt, hoth⟩ := plain_spec hpl hk
      obtain rfl : o = o2 := Option.some.inj (ho.symm.trans ho2)
      have hrep := rep_acts a vs hpl k (by omega)
      have hval : ∀ j ∈ depsOf o, valAt Ds vs j = vs j := fun j hj => by
        have hjn : j < n := by have := hlt j hj; omega
        obtain ⟨Dj, hDj⟩ := hDs j hjn
        have := hdeps j hj
        simp only [hDj, Option.getD_some] at this
        simp only [valAt, hDj]
        exact Dj.value_eq _ _ this
      have hslot : ∀ j q d, j ∈ depsOf o → l.toArray[j]? = some q → q.dst = some d → (acts l.toArray vs a k).tmps[d]? = some (vs j) := fun j q d hj hq hd => by
        have hjk := hlt j hj
        have h1 := hrep.val j q d (by omega) hq hd (by simpa using hjk)
        have h2 := size_spec hS (show j < n by omega) hq hd
        rw [h1, Array.getElem?_setIfInBounds_self, if_pos h2]
      have he : execOp (acts l.toArray vs a k).eval o = execOp (lookD l.toArray Ds vs a n) o := execOp_congr o (Region.noSelect_spec hsel k o · · ho) fun x hx => by
        cases x with
        | tmp t =>
          have ht : t ∈ tmpsOf o := List.mem_filterMap.2 ⟨.tmp t, by simpa using hx, rfl⟩
          show (acts l.toArray vs a k).tmps.getD t undef = match writer l.toArray t n with
            | some j => valAt Ds vs j
            | none => a.tmps.getD t undef
          cases hwr : writer l.toArray t n with
          | some j =>
            obtain ⟨hjn, q, hq, hqt⟩ := writer_some hwr
            have hjk : j ≠ k := fun e => by
              subst e
              obtain rfl : o = q := Option.some.inj (ho.symm.trans hq)
              exact self_spec hself hk ho t ht hqt
            obtain ⟨q', hq', _, hdep⟩ := hoth j hjn hjk
            obtain rfl : q = q' := Option.some.inj (hq.symm.trans hq')
            have hjd := hdep t ht hqt
            have h1 := hslot j q t hjd hq hqt
            show _ = valAt Ds vs j
            rw [hval j hjd]
            simp [h1]
          | none =>
            have h1 := hrep.other t fun j q hj hq _ => writer_none hwr j q (by omega) hq
            show _ = a.tmps.getD t undef
            simp [h1]
        | _ => rfl
      have hwn : Region.wanted o (yielded l.toArray (acts l.toArray vs a k).tmps) = Region.wanted o (yieldD Ds vs) := by
        unfold Region.wanted
        cases hgd : o.guard with
        | none => rfl
        | some gb =>
          obtain ⟨g, b⟩ := gb
          have hgm := hgu g b hgd
          obtain ⟨q, d, hq, hd⟩ := guard_spec hG hk ho hgd
          have h1 := hslot g q d hgm hq hd
          have : yielded l.toArray (acts l.toArray vs a k).tmps g = yieldD Ds vs g := by
            simp only [yielded, hq, yieldD, hval g hgm, Option.bind_some, hd, h1]
            cases vs g <;> rfl
          simp only [this]
      have hrel := relOp_of_atI (ops := l.toArray) he hwn hh
      simp only [hDk, Option.getD_some]
      exact hrel)
    (fun vs w' hI hDv => by
      have h1 := ht vs w' hI (allOf_iff.2 fun i hi => hDv i (List.mem_range.1 hi))
      have h2 : acts l.toArray (valAt Ds vs) a n = acts l.toArray vs a n := by
        have : ∀ k, k ≤ n → acts l.toArray (valAt Ds vs) a k = acts l.toArray vs a k := by
          intro k
          induction k with
          | zero => intro _; rfl
          | succ k ih =>
            intro hk
            obtain ⟨D, hDk⟩ := hDs k (by omega)
            have h3 := hDv k (by omega)
            simp only [hDk, Option.getD_some] at h3
            have h4 : valAt Ds vs k = vs k := by
              simp only [valAt, hDk]
              exact D.value_eq _ _ h3
            simp only [acts, ih (by omega), h4]
        exact this n (Nat.le_refl _)
      rw [h2] at h1
      simpa using h1)
    n (List.range n) (Array.replicate l.toArray.size false) (fun _ => undef) a w.drew (by simp) List.nodup_range
    (fun i => by
      rw [List.mem_range]
      exact ⟨fun hi => ⟨hi, getD_in (by simp at hn ⊢; omega) (getD_replicate_false _ _)⟩, fun hi => hi.1⟩)
    ⟨by simp, fun j oj _ hl => (by rw [getD_replicate_false] at hl; cases hl), fun t _ ht => getD_in (by simpa using ht) (getD_replicate_false _ _)⟩
    ⟨rfl, rfl, fun _ _ => rfl, fun k o d _ _ _ hS => (by rw [getD_replicate_false] at hS; cases hS)⟩ (fun i _ hS => (by rw [getD_replicate_false] at hS; cases hS))
    (fun j q _ _ hS => (by have hS : (Array.replicate l.toArray.size false).getD j false = true := hS; rw [getD_replicate_false] at hS; cases hS)) (by
      have : (fun i => (Array.replicate l.toArray.size false).getD i false) = fun _ => false := by
        funext i; exact getD_replicate_false _ _
      rw [this]; exact h0)
  rw [show n + (l.toArray.size - n) = l.toArray.size by simp at hn ⊢; omega] at key
  exact key

theorem relAtI.value {R' : World → World → Prop} {p : Value → World → Prop} {u : Value} {o : Oper} {E : Operand → Value} {y : Nat → Option Bool} {w w' : World} (hw : Region.wanted o y = true) (hr : (execOp E o).run P w = .ok (.value u) w') (hR : R' w w') (hD : p u w') : relAtI P R' p o E y w := by
  unfold relAtI
  rw [if_pos hw, hr]
  exact ⟨hR, hD⟩
theorem relAtI.valueS {R' : World → World → Prop} {p : Value → World → Prop} {u : Value} {o : Oper} {E : Operand → Value} {y : Nat → Option Bool} {w w' : World} {s : Sem Value} (hw : Region.wanted o y = true) (he : execOp E o = valS s) (hr : s.run P w = .ok u w') (hR : R' w w') (hD : p u w') : relAtI P R' p o E y w :=
  relAtI.value hw (by rw [he]; exact run_valS hr) hR hD
theorem relAtI.pure {R' : World → World → Prop} {u : Value} {o : Oper} {E : Operand → Value} {y : Nat → Option Bool} {w : World} (hR : R' w w) (hw : Region.wanted o y = true) (hr : (execOp E o).run P w = .ok (.value u) w) : relAtI P R' (Yld.is (R := R) u).p o E y w :=
  relAtI.value hw hr hR rfl
theorem relAtI.pureS {R' : World → World → Prop} {u : Value} {o : Oper} {E : Operand → Value} {y : Nat → Option Bool} {w : World} {s : Sem Value} (hR : R' w w) (hw : Region.wanted o y = true) (he : execOp E o = valS s) (hr : s.run P w = .ok u w) : relAtI P R' (Yld.is (R := R) u).p o E y w :=
  relAtI.valueS hw he hr hR rfl
theorem relAtI.skip {R' : World → World → Prop} {o : Oper} {E : Operand → Value} {y : Nat → Option Bool} {w : World} (hR : R' w w) (hw : Region.wanted o y = false) : relAtI P R' (Yld.is (R := R) undef).p o E y w := by
  unfold relAtI
  rw [if_neg (by rw [hw]; decide)]
  exact ⟨hR, rfl⟩
/-- An operation that only acts. -/
def actS (s : Sem Unit) : Sem Next := do s; pure .skip
theorem relAtI.act {R' : World → World → Prop} {p : Value → World → Prop} {o : Oper} {E : Operand → Value} {y : Nat → Option Bool} {w w' : World} {s : Sem Unit} (hw : Region.wanted o y = true) (he : execOp E o = actS s) (hr : s.run P w = .ok () w') (hR : R' w w') (hD : p undef w') : relAtI P R' p o E y w := by
  unfold relAtI
  rw [if_pos hw, he]
  have : (actS s).run P w = .ok .skip w' := by simp [actS, hr]
  rw [this]
  exact ⟨hR, hD⟩
theorem relAtI.call {R' : World → World → Prop} {p : Value → World → Prop} {f : FuncId} {args : Array Value} {o : Oper} {E : Operand → Value} {y : Nat → Option Bool} {w : World} (hw : Region.wanted o y = true) (hr : (execOp E o).run P w = .ok (.enter f args) w) (h : Calls P f args w fun e w' => ∃ v, e = .returned v ∧ R' w w' ∧ p v w') : relAtI P R' p o E y w := by
  unfold relAtI
  rw [if_pos hw, hr]
  exact h
end
end Go.Proofs.YtpdhgijeanbmcaaDoor

/- Mid -/
namespace Go.Proofs.YtpdhgijeanbmcaaDoor
open Go.RowKit Go.Great

def setMany (cs : List Value) (o : Nat) : List Value → List Value
  | [] => cs
  | v :: r => setMany (cs.set o v) (o + 1) r
theorem setMany_mid (post : List Value) : ∀ (vs mid pre : List Value), mid.length = vs.length → setMany (pre ++ (mid ++ post)) pre.length vs = pre ++ (vs ++ post)
  | [], mid, pre, h => by
    obtain rfl : mid = [] := List.eq_nil_of_length_eq_zero h
    rfl
  | v :: r, [], pre, h => by simp at h
  | v :: r, m :: mid, pre, h => by
    have ih := setMany_mid post r mid (pre ++ [v]) (by simpa using h)
    unfold setMany
    have e : (pre ++ (m :: mid ++ post)).set pre.length v = pre ++ [v] ++ (mid ++ post) := by simp
    rw [e]
    have e2 : (pre ++ [v]).length = pre.length + 1 := by simp
    rw [e2] at ih
    rw [ih]
    simp
theorem setMany_sums (L : List (List UInt8)) (h : ∀ x ∈ L, x.length = 32) (j : Nat) (hj : j < L.length) (x : List UInt8) (hx : x.length = 32) : setMany (sumCells L) (j * 32) (x.map V8) = sumCells (L.set j x) := by
  have e : L = L.take j ++ (L[j] :: L.drop (j + 1)) := by rw [← List.drop_eq_getElem_cons hj]; simp
  have hl : (sumCells (L.take j)).length = j * 32 := by
    rw [sumCells_length _ fun x hx => h x (List.mem_of_mem_take hx)]; simp; omega
  have e2 : sumCells L = sumCells (L.take j) ++ (L[j].map V8 ++ sumCells (L.drop (j + 1))) := by
    rw [← sumCells_cons, ← sumCells_append, ← e]
  rw [e2, ← hl, setMany_mid _ _ _ _ (by simp [hx, h L[j] (by simp)]), List.set_eq_take_append_cons_drop, if_pos hj, sumCells_append, sumCells_cons]
theorem Acc.setCells {e size : Nat} {w0 : World} {base g C n : Nat} : ∀ (vs : List Value) (o : Nat) (w : World) (cs : List Value), Acc e size w0 w base (some ⟨g, 0, none⟩) C n cs →
    Acc e size w0 (w.setCells g o vs) base (some ⟨g, 0, none⟩) C n (setMany cs o vs) ∧ w.grownBy (w.setCells g o vs) (some g)
  | [], o, w, cs, h => ⟨h, World.grownBy.refl _ _⟩
  | v :: r, o, w, cs, h => by
    obtain ⟨h1, h2⟩ := h.set ⟨g, 0, none⟩ rfl o v
    obtain ⟨h3, h4⟩ := Acc.setCells r (o + 1) _ _ h1
    exact ⟨h3, World.grownBy.trans h2 h4⟩
theorem Acc.there {e size : Nat} {w0 w : World} {base g C n : Nat} {cs : List Value} (h : Acc e size w0 w base (some ⟨g, 0, none⟩) C n cs) (o k : Nat) (hk : o + k ≤ n * size) : w.there g o k := fun j hj => by
  refine ⟨?_, h.frozen ⟨g, 0, none⟩ rfl (o + j)⟩
  rcases h.form with ⟨hn, _⟩ | ⟨g', cur, hg, hb, hs, hh, h1, h2, h3, h4⟩
  · cases hn
  · obtain ⟨rfl⟩ := hg
    rw [cell_of_row _ _ _ _ _ _ hh]
    have : n * size ≤ C * size := Nat.mul_le_mul_right _ h1
    rw [Array.getElem?_eq_getElem (by omega)]
    rfl
/-- An element of the call's own slice. -/
theorem acc_range {w w0 : World} {base g C n : Nat} {L : List (List UInt8)} (h : Acc 29 32 w0 w base (some ⟨g, 0, none⟩) C n (sumCells L)) (hL : ∀ x ∈ L, x.length = 32) (hn : n = L.length) (j : Nat) (x : List UInt8) (hj : L[j]? = some x) : w.rangeAt g (0 + j * 32) (x.map V8) := by
  obtain ⟨hlt, rfl⟩ := List.getElem?_eq_some_iff.1 hj
  obtain ⟨b, o, ha, hc⟩ := h.at_.at_ (by rw [sumCells_length L hL]; omega)
  obtain ⟨rfl, rfl⟩ : b = g ∧ o = 0 := by
    have := Option.some.inj ha
    injection this with h1 h2 _
    exact ⟨h1.symm, h2.symm⟩
  intro i v hv
  rw [Nat.add_assoc]
  exact hc _ v (sumCells_at L hL j hlt i v hv)
/-- A sum is stored into a slice of the call's own. -/
theorem run_store_sum_own (w : World) {w0 : World} {base g C n : Nat} {L : List (List UInt8)} (h : Acc 29 32 w0 w base (some ⟨g, 0, none⟩) C n (sumCells L)) (hL : ∀ x ∈ L, x.length = 32) (hn : n = L.length) (j : Nat) (hj : j < n) (x : List UInt8) (hx : x.length = 32) :
    (Instr.storeAt 29 (.pointer (some ⟨g, 0 + j * 32, none⟩)) (sumV x)).run Tryd.prog w = .ok () (w.setCells g (0 + j * 32) (x.map V8)) ∧
      Acc 29 32 w0 (w.setCells g (0 + j * 32) (x.map V8)) base (some ⟨g, 0, none⟩) C n (sumCells (L.set j x)) ∧ w.grownBy (w.setCells g (0 + j * 32) (x.map V8)) (some g) := by
  have h1 := run_storeAt_mid (P := Tryd.prog) w g (0 + j * 32) 29 (x.map V8).toArray (h.there _ _ (by simp [hx]; omega)) (size_sum x hx) (by simpa using oneCells x)
  rw [show (x.map V8).toArray.toList = x.map V8 by simp] at h1
  refine ⟨h1, ?_⟩
  have h2 := Acc.setCells (x.map V8) (0 + j * 32) w _ h
  rw [Nat.zero_add] at h2 ⊢
  rw [setMany_sums L hL j (by omega) x hx] at h2
  exact h2
theorem wpList_store_own {ops : Array Oper} {rest : List Oper} {o : Oper} {a : Act} {w : World} {Q : Exit → Act → World → Prop} (hgd : o.guard = none) (x y : Operand) (ho : o.op = .store 29 x y) {w0 : World} {base g C n : Nat} {L : List (List UInt8)}
    (h : Acc 29 32 w0 w base (some ⟨g, 0, none⟩) C n (sumCells L)) (hL : ∀ x ∈ L, x.length = 32) (hn : n = L.length) (j : Nat) (hj : j < n) (s : List UInt8) (hs : s.length = 32) (hx : a.eval x = .pointer (some ⟨g, j * 32, none⟩)) (hy : a.eval y = sumV s)
    (hk : ∀ w', Acc 29 32 w0 w' base (some ⟨g, 0, none⟩) C n (sumCells (L.set j s)) → w.grownBy w' (some g) → wpList Tryd.prog ops Q rest (a.put o.dst undef) w') : wpList Tryd.prog ops Q (o :: rest) a w := by
  obtain ⟨h1, h2, h3⟩ := run_store_sum_own w h hL hn j hj s hs
  refine wpList_store_mid hgd 29 x y ho g (j * 32) (s.map V8).toArray hx hy (h.there _ _ (by simp [hs]; omega)) (size_sum s hs) (by simpa using oneCells s) ?_
  rw [show (s.map V8).toArray.toList = s.map V8 by simp]
  rw [Nat.zero_add] at h2 h3
  exact hk _ h2 h3
end Go.Proofs.YtpdhgijeanbmcaaDoor

/- Runs2 -/
namespace Go.Proofs.YtpdhgijeanbmcaaDoor
open Go.RowKit Go.Great

theorem run_build_sum (w : World) (s : List UInt8) (hs : s.length = 32) : (Instr.buildSlice 31 1 #[(0, sumV s)]).run Tryd.prog w = .ok (.slice (some ⟨w.heap.size, 0, none⟩) 1 1) (w.alloc (.cells (sumRow s) 29)) := by
  obtain ⟨i, z, hi, hz, hsz, hzs⟩ := info_sum2
  refine run_buildSlice w 31 29 1 #[(0, sumV s)] (sumRow s) i z Tryd.underlying31 hi hz (by rw [hsz]; decide) (by rw [hsz]; decide) ?_
  have := fill_whole (s := 32) (by decide) [sumV s] ((Array.range (1 * 32)).map (z.cells[· % z.cells.size]!)) (by simp [sumV, Value.cells, hs]) (by simp)
  simp only [hsz]
  rw [show [((0 : Nat), sumV s)] = ([sumV s].zipIdx 0).map fun x => (x.2, x.1) from by simp]
  rw [this]
  simp [sumV, Value.cells, sumRow]
def yOwn (w0 : World) (L : List (List UInt8)) : Yld Low := Yld.pr (pOwn w0 L).p (pOwn w0 L).st
def yRow (n : Nat) (cs : Array Value) (t : TypeId) : Yld Low := Yld.pr (pRow n cs t).p (pRow n cs t).st
theorem run_sums_rest (w : World) (a : Option Addr) (n c k : Nat) (hk : k < n) (hc : n ≤ c) : (Instr.sliceAt 31 (.slice a n c) (some (.int .i64 k)) none none).run Tryd.prog w = .ok (.slice (a.map (·.add (k * 32))) (n - k : Nat) (c - k : Nat)) w := by
  rw [run_sums_from w a n c k (by omega), if_neg (by omega)]
end Go.Proofs.YtpdhgijeanbmcaaDoor

/- Holdc -/
namespace Go.Proofs.YtpdhgijeanbmcaaDoor
open Go.RowKit Go.Great

def Tree.holds (root : List UInt8) (n i : Nat) (leaf : List UInt8) (p : List (List UInt8)) : Bool := match Tree.made n i leaf p with
  | some r => r == root
  | none => false

set_option maxRecDepth 100000 in
set_option maxHeartbeats 1000000 in
theorem holds_bad (root leaf : List UInt8) (n i : Int) (a : Option Addr) (np c : Nat) (w : World) (hi : i < 0 ∨ n ≤ i) :
    Calls Tryd.prog 30 #[sumV root, .int .i64 n, .int .i64 i, sumV leaf, .slice a np c] w fun e w' => e = .returned (.bool false) ∧ Below w.heap.size w w' := by
  rcases hi with hi | hi
  · go_enter Tryd.func30, Tryd.ntmps30
    go_wp2
    go_ret
    exact ⟨rfl, low3 _ _ _ _⟩
  · by_cases h0 : i < 0
    · go_enter Tryd.func30, Tryd.ntmps30
      go_wp2
      go_ret
      exact ⟨rfl, low3 _ _ _ _⟩
    · go_enter Tryd.func30, Tryd.ntmps30
      go_wp2
      go_ret
      exact ⟨rfl, low3 _ _ _ _⟩

theorem holds_env {w w0 : World} {root leaf : List UInt8} {a : Option Addr} {np c : Nat} {p : List (List UInt8)} {t1 t2 t3 : TypeId} {t : TypeId} {o : Obj} (hT : Tabs w) (S : Sums w a np c p) (hl : leaf.length = 32)
    (hf : w0.heap[w.heap.size + 1 + 1 + 1]? = some (.cells #[holdFn (w.heap.size + 1) (w.heap.size + 1 + 1) (w.heap.size + 1 + 1 + 1)] t (0, 0)))
    (hg : ((((w.alloc (.cells (sumRow root) t1)).alloc (.cells (sumRow leaf) t2)).alloc (.cells #[.slice a np c] t3)).alloc o).grownBy w0 (some (w.heap.size + 1 + 1 + 1))) :
    HoldEnv w0 (w.heap.size + 1) (w.heap.size + 1 + 1) (w.heap.size + 1 + 1 + 1) leaf a np c p ∧ Below w.heap.size w w0 ∧ w0.heap[w.heap.size]? = some (.cells (root.map V8).toArray t1 (0, 0)) := by
  have hL : Below w.heap.size w w0 := (low4 _ _ _ _ _).grown hg (by simp; omega) (fun k hk => by obtain rfl := Option.some.inj hk; omega)
  have hb := blk4 w (.cells (sumRow root) t1) (.cells (sumRow leaf) t2) (.cells #[.slice a np c] t3) o
  have hk : ∀ b x, b < w.heap.size + 1 + 1 + 1 → ((((w.alloc (.cells (sumRow root) t1)).alloc (.cells (sumRow leaf) t2)).alloc (.cells #[.slice a np c] t3)).alloc o).heap[b]? = some x → w0.heap[b]? = some x :=
    fun b x hlt hx => (hg.block b (in_heap hx) (fun e => absurd (Option.some.inj e) (Nat.ne_of_lt hlt))).trans hx
  exact ⟨⟨hT.below hL, ⟨t2, (0, 0), hk _ _ (by omega) hb.2.1⟩, cell_block (hk _ _ (by omega) hb.2.2.1) rfl, cell_block hf rfl, hl, S.below hL⟩, hL, hk _ _ (by omega) hb.1⟩

/-- An operation whose guard is known to hold goes as one without a guard. -/
theorem wpList_guarded {P : Program} {ops : Array Oper} {rest : List Oper} {o : Oper} {a : Act} {w : World} {Q : Exit → Act → World → Prop} (hg : Region.wanted o (yielded ops a.tmps) = true) (h : wpList P ops Q ({ o with guard := none } :: rest) a w) : wpList P ops Q (o :: rest) a w := by
  unfold wpList at h ⊢
  rw [if_pos hg]
  rw [if_pos (show Region.wanted { o with guard := none } (yielded ops a.tmps) = true from rfl)] at h
  exact h

set_option maxRecDepth 100000 in
set_option maxHeartbeats 1000000 in
theorem holds_any (root leaf : List UInt8) (n i : Nat) (a : Option Addr) (np c : Nat) (p : List (List UInt8)) (w : World) (hi : i < n) (hn : n < 9223372036854775808) (hnp : np < 4611686018427387904) (hr : root.length = 32) (hl : leaf.length = 32) (hT : Tabs w) (S : Sums w a np c p) :
    Calls Tryd.prog 30 #[sumV root, .int .i64 n, .int .i64 i, sumV leaf, .slice a np c] w fun e w' => e = .returned (.bool (Tree.holds root n i leaf p)) ∧ Below w.heap.size w w' := by
  have hin := fun lb pb g w (E : HoldEnv w lb pb g leaf a np c p) => holdsin_any lb pb g leaf a np c p np n i w (Nat.le_refl _) hnp (by omega) hn hi E
  have htk : p.take np = p := by rw [S.len]; simp
  rw [htk] at hin
  have Hin := Lib.hid hin
  have S' := Lib.hid S
  have Hll := Lib.hid hl
  have HRR := Lib.hid hr
  have hi1 : ¬ (i : Int) < 0 := by omega
  have hi2 : ¬ (n : Int) ≤ (i : Int) := by omega
  have hi3 : (i : Int) < (n : Int) := by omega
  have hi4 : (0 : Int) ≤ (i : Int) := by omega
  clear S hl hr htk hin
  go_enter Tryd.func30, Tryd.ntmps30
  have HB4 := Lib.hid (blk4 w (.cells (sumRow root) 29) (.cells (sumRow leaf) 29) (.cells #[.slice a np c] 31) (.cells #[.nilFunc] 69)).2.2.2
  go_upto_region 5 with (refine wpList_store_one' rfl 69 _ _ rfl rfl (w.heap.size + 1 + 1 + 1) (.func (.func 51) #[] #[.pointer (some ⟨w.heap.size + 1, 0, none⟩), .pointer (some ⟨w.heap.size + 1 + 1, 0, none⟩), .pointer (some ⟨w.heap.size + 1 + 1 + 1, 0, none⟩)]) rfl rfl rfl _ _ HB4.out (by kernel_rfl) ?_; intro w0 hf hgr; have hf' := Lib.hid hf; have hgr' := Lib.hid hgr; clear hf hgr)
  obtain ⟨E, hB, hroot⟩ := holds_env (p := p) hT S'.out Hll.out hf'.out hgr'.out
  have hc := E.fn
  have hcp := E.pathAt
  unfold holdFn at hc
  have HE := Lib.hid E
  have HB0 := Lib.hid hB
  have HRoot := Lib.hid hroot
  have hel : ∀ (r : List UInt8), r.length = 32 → ∀ W, (binOp .eql 29 (sumV r) (sumV root)).run Tryd.prog W = .ok (.bool (r == root)) W := fun r h W => eql_sumV r root W h HRR.out
  have Hel := Lib.hid hel
  clear hf' hgr' E hB hroot hel
  go_wp2_with (first | (go_at_call 51; refine (Hin.out _ _ _ _ HE.out).mono ?_; rintro e w3 ⟨r, bb, rfl, hrl, hmd, hB⟩; have HRL := Lib.hid hrl; have HMD := Lib.hid hmd; have HB3 := Lib.hid hB; clear hrl hmd hB; cases bb) | (refine wpList_store_row' rfl 29 _ _ rfl w3.heap.size (r.map V8).toArray rfl rfl _ _ (blk1 _ _) (size_sum r HRL.out) (by simp [HRL.out]) (oneCells r) ?_; intro w4 h4 g4 s4; have hr4 := (g4.block _ (in_heap (at_old _ (bblk HB3.out HRoot.out))) (fun e => absurd (Option.some.inj e) (Nat.ne_of_lt (in_heap (bblk HB3.out HRoot.out))))).trans (at_old _ (bblk HB3.out HRoot.out)); have H4 := Lib.hid h4; have HR4 := Lib.hid hr4; have G4 := Lib.hid g4; have hel := Hel.out r HRL.out; clear h4 g4 s4 hr4) | (refine wpList_guarded rfl ?_; refine wpList_load_sum rfl 29 _ rfl w3.heap.size rfl _ r 32 _ _ H4.out Tryd.underlying29 (by kernel_rfl) HRL.out ?_) | (refine wpList_guarded rfl ?_; refine wpList_load_sum rfl 29 _ rfl w.heap.size rfl _ root 32 _ _ HR4.out Tryd.underlying29 (by kernel_rfl) HRR.out ?_))
  · go_ret
    refine ⟨?_, ?_⟩
    · have : Tree.holds root n i leaf p = false := by unfold Tree.holds; rw [HMD.out]; rfl
      rw [this]; try rfl
    · exact (((HB0.out.trans (HB3.out.mono HB0.out.size)).alloc (Nat.le_trans HB0.out.size HB3.out.size) _).grown G4.out (by rw [size_alloc]; exact Nat.le_succ_of_le (Nat.le_trans HB0.out.size HB3.out.size)) (fun k hk => by obtain rfl := Option.some.inj hk; exact Nat.le_trans HB0.out.size HB3.out.size))
  · go_ret
    refine ⟨?_, ?_⟩
    · have : Tree.holds root n i leaf p = (r == root) := by unfold Tree.holds; rw [HMD.out]; rfl
      rw [this]; try rfl
    · exact (((HB0.out.trans (HB3.out.mono HB0.out.size)).alloc (Nat.le_trans HB0.out.size HB3.out.size) _).grown G4.out (by rw [size_alloc]; exact Nat.le_succ_of_le (Nat.le_trans HB0.out.size HB3.out.size)) (fun k hk => by obtain rfl := Option.some.inj hk; exact Nat.le_trans HB0.out.size HB3.out.size))
end Go.Proofs.YtpdhgijeanbmcaaDoor
