/- wicketref02.Mac is the same HMAC. -/
import Derived.Test.YtpdhgijeanbmcaaDoorDMacb
namespace Go.Proofs.YtpdhgijeanbmcaaDoor
open Go.RowKit

theorem grownBy_none {w w' : World} (h : w.grownBy w' none) : Below w.heap.size w w' := ⟨h.os, h.tape, h.output, h.size, fun i hi => h.block i hi (fun e => by cases e)⟩
theorem Acc.keep {e size : Nat} {w0 w w' : World} {base : Nat} {A A' : Option Addr} {C n : Nat} {cs : List Value} (h : Acc e size w0 w base A C n cs) (hg : w.grownBy w' (A'.map (·.block))) (hk : ∀ ad, A' = some ad → base ≤ ad.block)
    (hne : ∀ ad ad', A = some ad → A' = some ad' → ad.block ≠ ad'.block) : Acc e size w0 w' base A C n cs := by
  cases A' with
  | none => exact h.below (grownBy_none hg)
  | some ad' => exact h.other hg (hk ad' rfl) fun ad had => hne ad ad' had rfl
theorem zero_next (K : List UInt8) (q e : Nat) (h : q ≤ e) : (K ++ List.replicate (e - q) 0).map V8 ++ [V8 0] = (K ++ List.replicate (e + 1 - q) 0).map V8 := by
  rw [show e + 1 - q = e - q + 1 by omega]
  simp [List.replicate_succ']
/-- The key, filled up to e bytes. -/
def KAt (w0 : World) (base : Nat) (K : List UInt8) (v : Value) (wr : World) : Prop := ∃ e B C, K.length ≤ e ∧ e ≤ 64 ∧ v = .slice B e C ∧ Acc 5 1 w0 wr base B C e ((K ++ List.replicate (e - K.length) 0).map V8)
/-- Two lists of the call's own that lie apart. -/
structure Two (w2 wr : World) (base : Nat) (B1 : Option Addr) (C1 n1 : Nat) (l1 : List UInt8) (B2 : Option Addr) (C2 n2 : Nat) (l2 : List UInt8) : Prop where
  one : Acc 5 1 w2 wr base B1 C1 n1 (l1.map V8)
  two : Acc 5 1 w2 wr base B2 C2 n2 (l2.map V8)
  apart : ∀ ad ad', B1 = some ad → B2 = some ad' → ad.block ≠ ad'.block
theorem Two.start (w2 : World) : Two w2 w2 w2.heap.size none 0 0 [] none 0 0 [] := ⟨Acc.start _ _ _ _ _ (Below.refl _ _) (Nat.le_refl _), Acc.start _ _ _ _ _ (Below.refl _ _) (Nat.le_refl _), fun _ _ h => by cases h⟩
theorem Two.at1 {w2 wr w' : World} {base : Nat} {B1 B2 D1 : Option Addr} {C1 n1 C2 n2 E1 m1 : Nat} {l1 l2 l3 : List UInt8} (h : Two w2 wr base B1 C1 n1 l1 B2 C2 n2 l2)
    (ha : Acc 5 1 w2 w' base D1 E1 m1 (l3.map V8)) (hg : wr.grownBy w' (B1.map (·.block))) (hn : ∀ ad, D1 = some ad → B1 = some ad ∨ wr.heap.size ≤ ad.block) : Two w2 w' base D1 E1 m1 l3 B2 C2 n2 l2 :=
  ⟨ha, h.two.keep hg (fun ad had => (h.one.block ad had).1) (fun ad ad' h1 h2 => (h.apart ad' ad h2 h1).symm), fun ad ad' h1 h2 => by
    rcases hn ad h1 with h3 | h3
    · exact h.apart ad ad' h3 h2
    · have := (h.two.block ad' h2).2; omega⟩
theorem Two.at2 {w2 wr w' : World} {base : Nat} {B1 B2 D2 : Option Addr} {C1 n1 C2 n2 E2 m2 : Nat} {l1 l2 l3 : List UInt8} (h : Two w2 wr base B1 C1 n1 l1 B2 C2 n2 l2)
    (ha : Acc 5 1 w2 w' base D2 E2 m2 (l3.map V8)) (hg : wr.grownBy w' (B2.map (·.block))) (hn : ∀ ad, D2 = some ad → B2 = some ad ∨ wr.heap.size ≤ ad.block) : Two w2 w' base B1 C1 n1 l1 D2 E2 m2 l3 :=
  ⟨h.one.keep hg (fun ad had => (h.two.block ad had).1) (fun ad ad' h1 h2 => h.apart ad ad' h1 h2), ha, fun ad ad' h1 h2 => by
    rcases hn ad' h2 with h3 | h3
    · exact h.apart ad ad' h1 h3
    · have := (h.one.block ad h1).2; omega⟩
theorem rsum_is (R : List UInt8) (l : List UInt8) (a : Option Addr) (m c : Nat) (w : World) (hR : R = Sha.sum l) (hm : m = l.length) (hT : Tabs w) (S : Src w a c l) (hlen : l.length < 70368744177664) :
    Calls Tryd.prog 43 #[.slice a m c] w fun e w' => e = .returned (sumV R) ∧ Below w.heap.size w w' := by
  subst hR
  exact rsum_any l a m c w hm hT S hlen
theorem size_sum' (l : List UInt8) (h : l.length = 32) : (Tryd.prog.info? 29).map (·.size) = some (l.map V8).toArray.size := by
  rw [show (Tryd.prog.info? 29).map (·.size) = some 32 from by kernel_rfl]
  simp [h]
theorem box_bytes {w : World} {g : Nat} {s : List UInt8} {t : TypeId} {fr : Nat × Nat} (h : w.heap[g]? = some (.cells (s.map V8).toArray t fr)) : BytesAt w (some ⟨g, 0, none⟩) s :=
  ⟨fun _ => ⟨g, 0, rfl, fun j hj => by rw [Nat.zero_add]; exact cell_block h (by simp [byteF, hj, List.getD])⟩⟩

set_option maxRecDepth 100000 in
set_option maxHeartbeats 400000 in
theorem rmac_any (key : List UInt8) (a : Option Addr) (m c : Nat) (ps : List Part) (b n : Nat) (w : World) (hm : m = key.length) (hT : Tabs w) (S : Src w a c key) (hn : n = ps.length) (hP : Parts w b ps)
    (hlen : key.length < 70368744177664) (hn9 : n ≤ 1000000) (htot : tot ps ps.length ≤ 35184372088832) :
    Calls Tryd.prog 39 #[.slice a m c, .slice (some ⟨b, 0, none⟩) n n] w fun e w' => e = .returned (sumV (Sha.mac key (cat ps ps.length))) ∧ Below w.heap.size w w' := by
  have S' := Lib.hid S
  have HP := Lib.hid hP
  have Hm := Lib.hid hm
  have hml : m < 70368744177664 := by omega
  have Hn := Lib.hid hn
  have Ht := Lib.hid htot
  have Hmac : Sha.mac key (cat ps ps.length) = Sha.sum (Sha.xout key ++ Sha.sum (Sha.xin key ++ cat ps ps.length)) := rfl
  have HMac := Lib.hid Hmac
  obtain ⟨R, hR⟩ : ∃ R, R = Sha.mac key (cat ps ps.length) := ⟨_, rfl⟩
  rw [← hR] at HMac ⊢
  have hRl : R.length = 32 := by rw [hR]; exact Sha.mac_len _ _
  have HRl := Lib.hid hRl
  have z1 : 0 + m ≤ maxLen := by unfold maxLen; omega
  have z2 : (0 + m) * 1 ≤ 140737488355328 := by omega
  have Hlen := Lib.hid hlen
  clear S hP hm hn htot Hmac hR hRl hlen
  have HB0 := Lib.hid (low1 w)
  have HB1 := Lib.hid (low2 w)
  have HZ0 := Lib.hid (blk1 w (.cells (zeros8 32) 29))
  have hcase : 64 < m ∨ ¬ 64 < m := by omega
  rcases hcase with h64 | h64
  case' inl =>
    have hi : (64 : Int) < (m : Int) := by omega
    have hkey : Sha.sum key = Sha.key key := by unfold Sha.key; rw [if_pos (by have := Hm.out; omega)]
    obtain ⟨K, hK⟩ : ∃ K, K = Sha.key key := ⟨_, rfl⟩
    rw [← hK] at hkey
    have hKl : K.length = 32 := by rw [← hkey]; exact Sha.sum_length _
    have HK := Lib.hid hK
    have Hk := Lib.hid hkey.symm
    have HKl := Lib.hid hKl
    have y1 : 0 + 32 ≤ maxLen := by decide
    have y2 : (0 + 32) * 1 ≤ 140737488355328 := by decide
    clear hK hkey hKl
    go_enter Tryd.func39, Tryd.ntmps39
    go_wp2_with (first | (go_at_call 43; refine (rsum_is K key B1 _ D1 w1 Hk.out Hm.out (hT.below ((HB0.out _).trans (HA1.out.low.mono (by omega)))) HA1.out.src Hlen.out).mono ?_; rintro e w2 ⟨rfl, hB⟩; have HB2 := Lib.hid hB; clear hB) | (refine wpList_store_row' rfl 29 _ _ rfl w2.heap.size (K.map V8).toArray rfl rfl _ _ (blk1 _ _) (size_sum' K HKl.out) (by simp [HKl.out]) (oneCells K) ?_; intro w3 h3 g3 s3; have H3 := Lib.hid h3; have HG3 := Lib.hid g3; clear h3 g3 s3) | (at_builtin; refine wpList_acc rfl _ _ 22 rfl 5 1 1 _ Tryd.underlying22 info_u8' rfl (by decide) w3 w3.heap.size (some ⟨w3.heap.size, 0, none⟩) 0 0 [] rfl (Acc.lit' rfl #[] 0 (Below.refl _ _) (Nat.le_refl _) (by decide) rfl) (some ⟨w2.heap.size, 0, none⟩) 32 32 (K.map V8) rfl (by simp [HKl.out]) (box_bytes (at_old _ H3.out)).cells (fun h => by cases h) (fun ad h => ⟨_, _, (Option.some.inj h).symm⟩) (ones' K) y1 y2 ?_; intro B4 D4 w4 hacc hg hnew; rw [List.nil_append, Nat.zero_add] at hacc; have HA4 := Lib.hid hacc; clear hacc hg hnew) | (at_builtin; refine wpList_acc rfl _ _ 22 rfl 5 1 1 _ Tryd.underlying22 info_u8' rfl (by decide) _ (w.heap.size + 1) (some ⟨w.heap.size + 1, 0, none⟩) 0 0 [] rfl (Acc.lit' (by simp) #[] 0 (Below.refl _ _) (by simp) (by decide) rfl) a m c (key.map V8) rfl (by simp [Hm.out]) (S'.out.below (HB1.out _ _)).at_.cells S'.out.nil S'.out.od (ones' key) z1 z2 ?_; intro B1 D1 w1 hacc hg hnew; rw [List.nil_append, Nat.zero_add] at hacc; have HA1 := Lib.hid hacc; clear hacc hg hnew))
    have i1 := HA1.out.base_le
    have i2 := HB2.out.size
    have hl3 : Below (w.heap.size + 1) (w.alloc (.cells (zeros8 32) 29)) w3 := ((HA1.out.low.trans (HB2.out.mono i1)).alloc (by omega) _).grown HG3.out (by rw [size_alloc]; omega) (fun k hk => by obtain rfl := Option.some.inj hk; omega)
    have HL3 := Lib.hid hl3
    clear i1 i2 hl3
    have hka : KAt (w.alloc (.cells (zeros8 32) 29)) (w.heap.size + 1) (Sha.key key) (.slice B4 32 D4) w4 := by
      rw [← HK.out]
      refine ⟨32, B4, D4, by rw [HKl.out]; decide, by decide, rfl, ?_⟩
      have := HA4.out.rebase (by have := HL3.out.size; simp at this; omega) HL3.out
      simpa [HKl.out] using this
    have HKA := Lib.hid hka
    clear hka HA4 HL3 HG3 H3 HB2 HA1 hi h64 y1 y2 HK Hk HKl
  case' inr =>
    have hi : ¬ (64 : Int) < (m : Int) := by omega
    have hkey : key = Sha.key key := by unfold Sha.key; rw [if_neg (by have := Hm.out; omega)]
    go_enter Tryd.func39, Tryd.ntmps39
    go_wp2_with (first | (at_builtin; refine wpList_acc rfl _ _ 22 rfl 5 1 1 _ Tryd.underlying22 info_u8' rfl (by decide) _ (w.heap.size + 1) (some ⟨w.heap.size + 1, 0, none⟩) 0 0 [] rfl (Acc.lit' (by simp) #[] 0 (Below.refl _ _) (by simp) (by decide) rfl) a m c (key.map V8) rfl (by simp [Hm.out]) (S'.out.below (HB1.out _ _)).at_.cells S'.out.nil S'.out.od (ones' key) z1 z2 ?_; intro B1 D1 w1 hacc hg hnew; rw [List.nil_append, Nat.zero_add] at hacc; have HA1 := Lib.hid hacc; clear hacc hg hnew))
    have hka : KAt (w.alloc (.cells (zeros8 32) 29)) (w.heap.size + 1) (Sha.key key) (.slice B1 m D1) w1 := by
      have e : m = (Sha.key key).length := by rw [← hkey]; exact Hm.out
      refine ⟨m, B1, D1, by omega, by omega, rfl, ?_⟩
      rw [← e, Nat.sub_self, ← hkey, List.replicate_zero, List.append_nil]
      exact HA1.out
    have HKA := Lib.hid hka
    clear hka HA1 hi h64 hkey
  all_goals
    obtain ⟨K0, hK0⟩ : ∃ K0, K0 = Sha.key key := ⟨_, rfl⟩
    rw [← hK0] at HKA
    have hpad : K0 ++ List.replicate (64 - K0.length) 0 = Sha.kpad key := by rw [hK0]; rfl
    have Hpad := Lib.hid hpad
    clear hK0 hpad
    go_loopw [5] (fun v wr => KAt (w.alloc (.cells (zeros8 32) 29)) (w.heap.size + 1) K0 v wr) (fun v _ => match v with | .slice _ e _ => 64 - e | _ => 0)
    case atStart => exact HKA.out
    case round =>
      clear HKA
      obtain ⟨e, B, C, he1, he, rfl, hA⟩ := hrel
      have HA := Lib.hid hA
      clear hA
      by_cases hlt : e < 64
      · have hei : (e : Int) < 64 := by omega
        have y3 : e + 1 ≤ maxLen := by unfold maxLen; omega
        have y4 : (e + 1) * 1 ≤ 140737488355328 := by omega
        go_wp2_with (at_builtin; refine wpList_acc1 rfl _ _ 22 rfl 5 1 _ Tryd.underlying22 info_u8' rfl _ (w.heap.size + 1) B C e _ (V8 0) rfl HA.out rfl rfl y3 y4 ?_; intro B3 D3 w5 hacc hg3 hnew; rw [zero_next _ _ _ he1] at hacc; have HA5 := Lib.hid hacc; clear hacc hg3 hnew)
        go_roundw
        case rel => exact ⟨e + 1, B3, D3, by omega, by omega, rfl, HA5.out⟩
        case measure => simp; omega
      · have hei : ¬ (e : Int) < 64 := by omega
        have he64 : e = 64 := by omega
        have hA := HA.out
        rw [show e - K0.length = 64 - K0.length by omega, Hpad.out] at hA
        obtain ⟨K, hK⟩ : ∃ K, K = Sha.kpad key := ⟨_, rfl⟩
        rw [← hK] at hA
        have hKl : K.length = 64 := by rw [hK]; exact Sha.kpad_len _
        have hxi : Sha.xin key = K.map (· ^^^ 0x36) := by rw [hK]; rfl
        have hxo : Sha.xout key = K.map (· ^^^ 0x5c) := by rw [hK]; rfl
        have HKl := Lib.hid hKl
        have Hxi := Lib.hid hxi
        have Hxo := Lib.hid hxo
        have hlow : Below w.heap.size w wr := (HB0.out _).trans (hA.low.mono (by omega))
        have hres := (hA.low.block _ (by omega)).trans HZ0.out
        have hsz := hA.base_le
        obtain ⟨kb, ko, rfl, hcell⟩ := hA.src.at_.at_ (by omega)
        have hkc : ∀ W, Below wr.heap.size wr W → ∀ j, j < 64 → W.cell? ⟨kb, ko + j, none⟩ = some (V8 (K.getD j 0)) := fun W hW j hj => ((hA.src.at_.below hW).at_ (by omega)).elim fun b h => h.elim fun o h => by
          obtain ⟨h1, h2⟩ := h
          simp only [Option.some.injEq, Addr.mk.injEq, and_true] at h1
          obtain ⟨rfl, rfl⟩ := h1
          exact h2 j (by omega)
        have hcap := hA.cap
        have HKC := Lib.hid hkc
        have HL := Lib.hid hlow
        have HRes := Lib.hid hres
        have He64 := Lib.hid he64
        clear hcell hkc hlow hres he64 hA HA Hpad hK hKl hxi hxo he1 he hlt
        rename World => w6
        go_wp2
        go_loopw [7, 8, 9] (fun u v i wq => ∃ j B1 C1 B2 C2, j ≤ 64 ∧ i = .int .i64 (j : Nat) ∧ u = .slice B1 j C1 ∧ v = .slice B2 j C2 ∧ Two w6 wq w6.heap.size B1 C1 j ((K.map (· ^^^ 0x36)).take j) B2 C2 j ((K.map (· ^^^ 0x5c)).take j)) (fun _ _ i _ => 64 - (intOf i).toNat)
        case atStart => exact ⟨0, none, 0, none, 0, by omega, rfl, rfl, rfl, by simpa using Two.start w6⟩
        case round =>
          obtain ⟨j, B1, C1, B2, C2, hj, rfl, rfl, rfl, hM⟩ := hrel
          have HM := Lib.hid hM
          clear hM
          by_cases hlt : j < 64
          · have hki : (j : Int) < 64 := by omega
            have hke : (j : Int) < (e : Int) := by have := He64.out; omega
            have hki0 : (0 : Int) ≤ (j : Int) := by omega
            have hn1 := cut_next K 0x36 j (by rw [HKl.out]; exact hlt)
            have hn2 := cut_next K 0x5c j (by rw [HKl.out]; exact hlt)
            have c0 := HKC.out _ HM.out.one.low j hlt
            have hkk := fun W hW => HKC.out W hW j hlt
            obtain ⟨x, hx⟩ : ∃ x, x = K.getD j 0 := ⟨_, rfl⟩
            rw [← hx] at hn1 hn2 c0
            simp only [← hx] at hkk
            have Hkk := Lib.hid hkk
            have Hn1 := Lib.hid (congrArg (List.map V8) hn1)
            have Hn2 := Lib.hid (congrArg (List.map V8) hn2)
            have y5 : j + 1 ≤ maxLen := by unfold maxLen; omega
            have y6 : (j + 1) * 1 ≤ 140737488355328 := by omega
            clear hn1 hn2 hx hkk
            go_wp2_with (first | (at_builtin; refine wpList_acc1 rfl _ _ 22 rfl 5 1 _ Tryd.underlying22 info_u8' rfl w6 w6.heap.size B2 C2 j _ _ rfl HM8.out.two rfl rfl y5 y6 ?_; intro B4 D4 w9 hacc hg hnew; rw [← List.map_singleton, ← List.map_append, Hn2.out] at hacc; have HM9 := Lib.hid (HM8.out.at2 hacc hg hnew); clear hacc hg hnew) | (at_builtin; refine wpList_acc1 rfl _ _ 22 rfl 5 1 _ Tryd.underlying22 info_u8' rfl w6 w6.heap.size B1 C1 j _ _ rfl HM.out.one rfl rfl y5 y6 ?_; intro B3 D3 w8 hacc hg hnew; rw [← List.map_singleton, ← List.map_append, Hn1.out] at hacc; have HM8 := Lib.hid (HM.out.at1 hacc hg hnew); have c1 := Hkk.out _ hacc.low; clear hacc hg hnew))
            go_roundw
            case rel => exact ⟨j + 1, B3, D3, B4, D4, by omega, by go_num, rfl, rfl, HM9.out⟩
            case measure => simp [intOf]; omega
          · have hki : ¬ (j : Int) < 64 := by omega
            have hj64 : j = 64 := by omega
            have hM := HM.out
            rw [List.take_of_length_le (by simp [HKl.out]; omega), List.take_of_length_le (by simp [HKl.out]; omega), ← Hxi.out, ← Hxo.out] at hM
            have HM2 := Lib.hid hM
            have Hj := Lib.hid hj64
            clear hM hj64 HM hj hlt
            go_wp2
            go_loopw [7, 10] (fun u i wq => ∃ k B1 C1, k ≤ n ∧ i = .int .i64 (k : Nat) ∧ u = .slice B1 (j + tot ps k) C1 ∧ Two w6 wq w6.heap.size B1 C1 (j + tot ps k) (Sha.xin key ++ cat ps k) B2 C2 j (Sha.xout key)) (fun _ i _ => n - (intOf i).toNat)
            case atStart => exact ⟨0, B1, C1, by omega, rfl, rfl, by simpa [cat, tot] using HM2.out⟩
            case round =>
              clear HM2
              obtain ⟨k, B3, C3, hk, rfl, rfl, hM⟩ := hrel
              have HM := Lib.hid hM
              clear hM
              by_cases hlt : k < n
              · have hk' : k < ps.length := by have := Hn.out; omega
                have hki : (k : Int) < n := by omega
                have hki0 : (0 : Int) ≤ (k : Int) := by omega
                have hlo : Below w.heap.size w wr := HL.out.trans (HM.out.one.low.mono HL.out.size)
                have c0 := (HP.out.below hlo).at_ k hk'
                have hsrc := (HP.out.below hlo).src k hk'
                have hcat := cat_succ ps k hk'
                have hle := tot_le ps (k + 1) (by omega)
                have hts := tot_succ ps k hk'
                have hT9 := Ht.out
                obtain ⟨l, hl⟩ : ∃ l, l = ps[k].l := ⟨_, rfl⟩
                rw [← hl] at c0 hsrc hcat hts
                obtain ⟨q, hq⟩ : ∃ q, q = l.length := ⟨_, rfl⟩
                rw [← hq] at c0 hts
                have y7 : j + tot ps k + q ≤ maxLen := by have := Hj.out; unfold maxLen; omega
                have y8 : (j + tot ps k + q) * 1 ≤ 140737488355328 := by have := Hj.out; omega
                have Hts := Lib.hid hts
                have Hq := Lib.hid hq
                have Hsrc := Lib.hid hsrc
                have Hcat := Lib.hid hcat
                clear hsrc hcat hle hts hT9 hl hq hlo
                go_wp2_with (at_builtin; refine wpList_acc rfl _ _ 22 rfl 5 1 1 _ Tryd.underlying22 info_u8' rfl (by decide) w6 w6.heap.size B3 C3 (j + tot ps k) _ rfl HM.out.one ps[k].a q ps[k].c (l.map V8) rfl (by simp [Hq.out]) Hsrc.out.at_.cells Hsrc.out.nil Hsrc.out.od (ones' l) y7 y8 ?_; intro B4 D4 w9 hacc hg hnew; rw [← List.map_append, List.append_assoc, ← Hcat.out, Nat.add_assoc, ← Hts.out] at hacc; have HM9 := Lib.hid (HM.out.at1 hacc hg hnew); clear hacc hg hnew)
                go_roundw
                case rel => exact ⟨k + 1, B4, D4, by omega, by go_num, by rw [Hts.out, Nat.add_assoc], HM9.out⟩
                case measure => simp [intOf]; omega
              · have hki : ¬ (k : Int) < n := by omega
                have hkn : k = ps.length := by have := Hn.out; omega
                have hM := HM.out
                have hk0 : j + tot ps k = (Sha.xin key ++ cat ps ps.length).length := by rw [List.length_append, cat_length, Hxi.out, hkn, Hj.out]; simp [HKl.out]
                have hxl : (Sha.xin key ++ cat ps ps.length).length < 70368744177664 := by rw [← hk0, hkn]; have := Ht.out; have := Hj.out; omega
                rw [show cat ps k = cat ps ps.length by rw [hkn]] at hM
                obtain ⟨q, hq⟩ : ∃ q, q = j + tot ps k := ⟨_, rfl⟩
                rw [← hq] at hM hk0 ⊢
                have hmac := HMac.out
                obtain ⟨s, hs⟩ : ∃ s, s = Sha.sum (Sha.xin key ++ cat ps ps.length) := ⟨_, rfl⟩
                rw [← hs] at hmac
                have hsl : s.length = 32 := by rw [hs]; rfl
                have hyl : (Sha.xout key).length = j := by rw [Hxo.out, Hj.out]; simp [HKl.out]
                have hl2 : (Sha.xout key ++ s).length < 70368744177664 := by rw [List.length_append, hyl, Hj.out, hsl]; decide
                have hl3 : j + 32 = (Sha.xout key ++ s).length := by rw [List.length_append, hyl, hsl]
                have y7 : j + 32 ≤ maxLen := by have := Hj.out; unfold maxLen; omega
                have y8 : (j + 32) * 1 ≤ 140737488355328 := by have := Hj.out; omega
                have hlo : Below w.heap.size w wr := HL.out.trans (HM.out.one.low.mono HL.out.size)
                have HT9 := Lib.hid (hT.below hlo)
                have Hlo := Lib.hid hlo
                have Hs := Lib.hid hs
                have Hsl := Lib.hid hsl
                have Hl2 := Lib.hid hl2
                have Hl3 := Lib.hid hl3
                have Hk0 := Lib.hid hk0
                have Hxl := Lib.hid hxl
                have Hmac2 := Lib.hid hmac
                have HM9 := Lib.hid hM
                clear hM hq hmac hs hsl hyl hl2 hl3 hk0 hxl hkn hlo HM
                rename World => w7
                have i6 := in_heap HRes.out
                go_wp2_with (first | (go_at_call 43; refine (rsum_is R (Sha.xout key ++ s) B6 _ D6 w10 Hmac2.out Hl3.out (hT.below (HL.out.trans (HA10.out.low.mono HL.out.size))) HA10.out.src Hl2.out).mono ?_; rintro e w11 ⟨rfl, hB⟩; have HB11 := Lib.hid hB; clear hB) | (go_at_call 43; refine (rsum_is s _ B3 q C3 w7 Hs.out Hk0.out HT9.out HM9.out.one.src Hxl.out).mono ?_; rintro e w8 ⟨rfl, hB⟩; have HB8 := Lib.hid hB; clear hB) | (refine wpList_store_sum rfl 29 _ _ rfl w.heap.size R 32 rfl rfl _ _ (bblk HB11.out ((HA10.out.low.block _ i6).trans HRes.out)) (by kernel_rfl) HRl.out rfl ?_) | (refine wpList_store_row' rfl 29 _ _ rfl w8.heap.size (s.map V8).toArray rfl rfl _ _ (blk1 _ _) (size_sum' s Hsl.out) (by simp [Hsl.out]) (oneCells s) ?_; intro w9 h9 g9 s9; have H9 := Lib.hid h9; have HA9 := Lib.hid (((HM9.out.two.below HB8.out).alloc _).other g9 (Nat.le_trans HM9.out.one.base_le HB8.out.size) (fun ad had => Nat.ne_of_lt (Nat.lt_of_lt_of_le (HM9.out.two.block ad had).2 HB8.out.size))); clear h9 g9 s9) | (at_builtin; refine wpList_acc rfl _ _ 22 rfl 5 1 1 _ Tryd.underlying22 info_u8' rfl (by decide) w6 w6.heap.size B2 C2 j _ rfl HA9.out (some ⟨w8.heap.size, 0, none⟩) 32 32 (s.map V8) rfl (by simp [Hsl.out]) (box_bytes H9.out).cells (fun h => by cases h) (fun ad h => ⟨_, _, (Option.some.inj h).symm⟩) (ones' s) y7 y8 ?_; intro B6 D6 w10 hacc hg hnew; rw [← List.map_append] at hacc; have HA10 := Lib.hid hacc; clear hacc hg hnew))
                refine bodyPost_ret (results_sum rfl _ _ w.heap.size _ R 32 (0, 0) _ rfl (setRow_heap _ _ _ _ _ _ (bblk HB11.out ((HA10.out.low.block _ i6).trans HRes.out))) Tryd.underlying29 (by kernel_rfl) HRl.out) rfl ⟨rfl, ?_⟩
                exact brow (bthen (HL.out.trans (HA10.out.low.mono HL.out.size)) HB11.out) (Nat.le_refl _) _
end Go.Proofs.YtpdhgijeanbmcaaDoor
