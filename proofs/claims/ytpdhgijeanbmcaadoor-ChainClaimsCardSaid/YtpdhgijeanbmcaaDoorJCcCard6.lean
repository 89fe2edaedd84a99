/- THE CARD of ChainClaims: the law answers true and the arguments read as they did. -/
import Derived.WalkMore
import Derived.Test.YtpdhgijeanbmcaaDoorJCcCard5
/- Rev -/
namespace Go.Proofs.YtpdhgijeanbmcaaDoor
open Go.RowKit Go.Great

/-- The first k and the last k have changed places. -/
def RevAt (M N : List (List UInt8)) (k : Nat) : Prop := N.length = M.length ∧ ∀ i, i < M.length → N[i]? = if i < k ∨ M.length ≤ i + k then M[M.length - 1 - i]? else M[i]?
theorem RevAt.start (M : List (List UInt8)) : RevAt M M 0 := ⟨rfl, fun i hi => by rw [if_neg (by omega)]⟩
theorem RevAt.next {M N : List (List UInt8)} {k m : Nat} (h : RevAt M N k) (hm : k + m + 1 = M.length) (hkm : k < m) {x y : List UInt8} (hx : N[m]? = some x) (hy : N[k]? = some y) : RevAt M ((N.set k x).set m y) (k + 1) := by
  obtain ⟨h1, h2⟩ := h
  refine ⟨by simp [h1], fun i hi => ?_⟩
  by_cases him : i = m
  · subst him
    rw [List.getElem?_set_self (by simp; omega), ← hy, h2 k (by omega), if_neg (by omega), if_pos (by omega), show M.length - 1 - i = k by omega]
  · rw [List.getElem?_set_ne (by omega)]
    by_cases hik : i = k
    · subst hik
      rw [List.getElem?_set_self (by omega), ← hx, h2 m (by omega), if_neg (by omega), if_pos (by omega), show M.length - 1 - i = m by omega]
    · rw [List.getElem?_set_ne (by omega), h2 i hi]
      by_cases hc : i < k ∨ M.length ≤ i + k
      · rw [if_pos hc, if_pos (by omega)]
      · rw [if_neg hc, if_neg (by omega)]
theorem RevAt.done {M N : List (List UInt8)} {k : Nat} (h : RevAt M N k) (hk : M.length ≤ k + k + 1) : N = M.reverse := by
  obtain ⟨h1, h2⟩ := h
  apply List.ext_getElem?
  intro i
  by_cases hi : i < M.length
  · rw [h2 i hi, List.getElem?_reverse hi]
    by_cases hc : i < k ∨ M.length ≤ i + k
    · rw [if_pos hc]
    · rw [if_neg hc, show M.length - 1 - i = i by omega]
  · rw [List.getElem?_eq_none (by omega), List.getElem?_eq_none (by simp; omega)]
theorem RevAt.each {M N : List (List UInt8)} {k : Nat} (h : RevAt M N k) (hM : ∀ x ∈ M, x.length = 32) : ∀ x ∈ N, x.length = 32 := by
  obtain ⟨h1, h2⟩ := h
  intro x hx
  obtain ⟨i, hi, rfl⟩ := List.mem_iff_getElem.1 hx
  have h3 := h2 i (by omega)
  rw [List.getElem?_eq_getElem hi] at h3
  split at h3 <;> exact hM _ (List.mem_of_getElem? h3.symm)

def revI (w0 : World) (base g C n : Nat) (N : List (List UInt8)) (k : Nat) (x : List UInt8) : List Bool → World → Prop
  | [true], w => Acc 29 32 w0 w base (some ⟨g, 0, none⟩) C n (sumCells (N.set k x))
  | _, w => Acc 29 32 w0 w base (some ⟨g, 0, none⟩) C n (sumCells N)

set_option maxRecDepth 100000 in
set_option maxHeartbeats 4000000 in
theorem rev_any (M : List (List UInt8)) (w0 w : World) (base : Nat) (B : Option Addr) (n C : Nat) (hnl : n = M.length) (hn : n < 4611686018427387904) (hM : ∀ x ∈ M, x.length = 32) (H : Acc 29 32 w0 w base B C n (sumCells M)) :
    Calls Tryd.prog 47 #[.slice B n C] w fun e w' => e = .returned (.tuple #[]) ∧ Acc 29 32 w0 w' base B C n (sumCells M.reverse) := by
  have HH := Lib.hid H
  have Hnl := Lib.hid hnl
  have HM := Lib.hid hM
  clear H hnl hM
  go_enter Tryd.func47, Tryd.ntmps47
  go_wp2
  go_loopw [2, 3] (fun i j wr => ∃ (k : Nat) (jz : Int) (N : List (List UInt8)), i = .int .i64 k ∧ j = .int .i64 jz ∧ Hid (jz = (n : Int) - 1 - k ∧ k ≤ n ∧ RevAt M N k) ∧ Acc 29 32 w0 wr base B C n (sumCells N)) (fun i _ _ => n - (intOf i).toNat)
  case atStart => exact ⟨0, (n : Int) - 1, M, rfl, rfl, Lib.hid ⟨by omega, by omega, RevAt.start M⟩, HH.out⟩
  case round =>
    clear HH
    obtain ⟨k, jz, N, rfl, rfl, hrv, hA⟩ := hrel
    have HA := Lib.hid hA
    clear hA
    by_cases hlt : (k : Int) < jz
    · obtain ⟨m, hm⟩ : ∃ m : Nat, jz = (m : Int) := ⟨jz.toNat, by omega⟩
      subst hm
      have hkm : k < m := by omega
      have hmn : k + m + 1 = n := by have := hrv.out.1; omega
      have hNl : N.length = n := by rw [Hnl.out]; exact hrv.out.2.2.1
      have hEach := hrv.out.2.2.each HM.out
      obtain ⟨x, hx, hxm⟩ : ∃ x, N[m]? = some x ∧ x ∈ N := ⟨N[m]'(by omega), List.getElem?_eq_getElem (by omega), by simp⟩
      obtain ⟨y, hy, hym⟩ : ∃ y, N[k]? = some y ∧ y ∈ N := ⟨N[k]'(by omega), List.getElem?_eq_getElem (by omega), by simp⟩
      have Hx := Lib.hid hx
      have Hy := Lib.hid hy
      have HX := Lib.hid (hEach x hxm)
      have HY := Lib.hid (hEach y hym)
      have HE := Lib.hid hEach
      have HNl := Lib.hid hNl
      have Hmn := Lib.hid hmn
      have hBg : ∃ g, B = some ⟨g, 0, none⟩ := by
        rcases HA.out.form with ⟨_, h0, _⟩ | ⟨g, _, hg, _⟩
        · omega
        · exact ⟨g, hg⟩
      obtain ⟨g, rfl⟩ := hBg
      have hki0 : (0 : Int) ≤ (k : Int) := by omega
      have hmn1 : m < n := by omega
      have hkn1 : k < n := by omega
      clear hx hy hxm hym hEach hNl hmn
      go_wp2
      refine wp_region_inv 14 28 (fun _ _ => True) [13] (revI w0 base g C n N k x) (by kernel_rfl) (by kernel_rfl) (by kernel_rfl) (by kernel_rfl) (by kernel_rfl) [.is (.slice (some ⟨g, 0, none⟩) n C : Value), .is (.int .i64 k : Value), .is (.slice (some ⟨g, 0, none⟩) n C : Value), .is (.int .i64 m : Value), .is (.slice (some ⟨g, 0, none⟩) n C : Value), .is (.int .i64 m : Value), .is (.pointer (some ⟨g, 0 + m * 32, none⟩) : Value), .is (sumV x), .is (.slice (some ⟨g, 0, none⟩) n C : Value), .is (.int .i64 k : Value), .is (.pointer (some ⟨g, 0 + k * 32, none⟩) : Value), .is (sumV y), .is (.pointer (some ⟨g, 0 + k * 32, none⟩) : Value), .is undef] rfl (HA.out.drew) (fun vs => ?_) (fun vs wr hI h => ?_)
      · refine RegHeadI.cons (fun S wr hd hSk hSd hI h => ?_) ?_
        · exact relAtI.pure ⟨trivial, keepI (by decide) hI⟩ (by kernel_rfl) (by kernel_rfl)
        refine RegHeadI.cons (fun S wr hd hSk hSd hI h => ?_) ?_
        · exact relAtI.pure ⟨trivial, keepI (by decide) hI⟩ (by kernel_rfl) (by kernel_rfl)
        refine RegHeadI.cons (fun S wr hd hSk hSd hI h => ?_) ?_
        · exact relAtI.pure ⟨trivial, keepI (by decide) hI⟩ (by kernel_rfl) (by kernel_rfl)
        refine RegHeadI.cons (fun S wr hd hSk hSd hI h => ?_) ?_
        · exact relAtI.pure ⟨trivial, keepI (by decide) hI⟩ (by kernel_rfl) (by kernel_rfl)
        refine RegHeadI.cons (fun S wr hd hSk hSd hI h => ?_) ?_
        · exact relAtI.pure ⟨trivial, keepI (by decide) hI⟩ (by kernel_rfl) (by kernel_rfl)
        refine RegHeadI.cons (fun S wr hd hSk hSd hI h => ?_) ?_
        · exact relAtI.pure ⟨trivial, keepI (by decide) hI⟩ (by kernel_rfl) (by kernel_rfl)
        refine RegHeadI.cons (fun S wr hd hSk hSd hI h => ?_) ?_
        · exact relAtI.pureS ⟨trivial, keepI (by decide) hI⟩ (by kernel_rfl) (by kernel_rfl) (run_sums_index wr g 0 n C m hmn1)
        refine RegHeadI.cons (fun S wr hd hSk hSd hI h => ?_) ?_
        · have h13 : S 13 = false := hd.not 14 hSk (by decide) (by decide)
          have hI2 : Acc 29 32 w0 wr base (some ⟨g, 0, none⟩) C n (sumCells N) := by have hI := hI; simp only [List.map, h13] at hI; exact hI
          exact relAtI.pureS ⟨trivial, keepI (by decide) hI⟩ (by kernel_rfl) (by kernel_rfl) (run_load_at_sum wr g (0 + m * 32) x (acc_range hI2 HE.out HNl.out.symm m x Hx.out) HX.out)
        refine RegHeadI.cons (fun S wr hd hSk hSd hI h => ?_) ?_
        · exact relAtI.pure ⟨trivial, keepI (by decide) hI⟩ (by kernel_rfl) (by kernel_rfl)
        refine RegHeadI.cons (fun S wr hd hSk hSd hI h => ?_) ?_
        · exact relAtI.pure ⟨trivial, keepI (by decide) hI⟩ (by kernel_rfl) (by kernel_rfl)
        refine RegHeadI.cons (fun S wr hd hSk hSd hI h => ?_) ?_
        · exact relAtI.pureS ⟨trivial, keepI (by decide) hI⟩ (by kernel_rfl) (by kernel_rfl) (run_sums_index wr g 0 n C k hkn1)
        refine RegHeadI.cons (fun S wr hd hSk hSd hI h => ?_) ?_
        · have h13 : S 13 = false := hd.not 14 hSk (by decide) (by decide)
          have hI2 : Acc 29 32 w0 wr base (some ⟨g, 0, none⟩) C n (sumCells N) := by have hI := hI; simp only [List.map, h13] at hI; exact hI
          exact relAtI.pureS ⟨trivial, keepI (by decide) hI⟩ (by kernel_rfl) (by kernel_rfl) (run_load_at_sum wr g (0 + k * 32) y (acc_range hI2 HE.out HNl.out.symm k y Hy.out) HY.out)
        refine RegHeadI.cons (fun S wr hd hSk hSd hI h => ?_) ?_
        · exact relAtI.pureS ⟨trivial, keepI (by decide) hI⟩ (by kernel_rfl) (by kernel_rfl) (run_sums_index wr g 0 n C k hkn1)
        refine RegHeadI.cons (fun S wr hd hSk hSd hI h => ?_) ?_
        · have h13 : S 13 = false := hSk
          have hI2 : Acc 29 32 w0 wr base (some ⟨g, 0, none⟩) C n (sumCells N) := by have hI := hI; simp only [List.map, h13] at hI; exact hI
          obtain ⟨hs1, hs2, hs3⟩ := run_store_sum_own wr hI2 HE.out HNl.out.symm k hkn1 x HX.out
          exact relAtI.act (by kernel_rfl) (by kernel_rfl) hs1 ⟨trivial, by simp only [List.map, setB, if_true]; exact hs2⟩ rfl
        exact trivial
      · have hI2 : Acc 29 32 w0 wr base (some ⟨g, 0, none⟩) C n (sumCells (N.set k x)) := hI
        have HI2 := Lib.hid hI2
        clear h hI hI2
        refine wp_frame (new := [(.slice (some ⟨g, 0, none⟩) n C : Value), (.int .i64 k : Value), (.slice (some ⟨g, 0, none⟩) n C : Value), (.int .i64 m : Value), (.slice (some ⟨g, 0, none⟩) n C : Value), (.int .i64 m : Value), (.pointer (some ⟨g, 0 + m * 32, none⟩) : Value), (sumV x), (.slice (some ⟨g, 0, none⟩) n C : Value), (.int .i64 k : Value), (.pointer (some ⟨g, 0 + k * 32, none⟩) : Value), (sumV y), (.pointer (some ⟨g, 0 + k * 32, none⟩) : Value)]) 14 27 (by kernel_rfl) ?_
        simp only [List.take, List.drop, List.cons_append, List.nil_append]
        have hNs : ∀ z ∈ N.set k x, z.length = 32 := fun z hz => by
          rcases List.mem_or_eq_of_mem_set hz with hz | rfl
          · exact HE.out z hz
          · exact HX.out
        have HNs := Lib.hid hNs
        clear hNs
        have hmn2 : (m : Int) < (n : Int) := by omega
        have hmi0 : (0 : Int) ≤ (m : Int) := by omega
        go_wp2_with (refine wpList_store_own rfl _ _ rfl HI2.out HNs.out (by simp [HNl.out]) m hmn1 y HY.out rfl rfl ?_; intro w9 hacc9 hg9; have HA9 := Lib.hid hacc9; clear hacc9 hg9)
        go_roundw
        case rel =>
          refine ⟨k + 1, (m : Int) - 1, (N.set k x).set m y, by go_num, rfl, Lib.hid ⟨?_, by omega, ?_⟩, ?_⟩
          · have := Hmn.out; omega
          · exact hrv.out.2.2.next (by rw [← Hnl.out]; exact Hmn.out) hkm Hx.out Hy.out
          · exact HA9.out
        case measure => simp [intOf]; omega
    · go_wp2
      go_end0
      refine ⟨rfl, ?_⟩
      have hN : N = M.reverse := hrv.out.2.2.done (by have := hrv.out.1; have := Hnl.out; omega)
      rw [← hN]
      exact HA.out
end Go.Proofs.YtpdhgijeanbmcaaDoor

/- Path -/
namespace Go.Proofs.YtpdhgijeanbmcaaDoor
open Go.RowKit Go.Great

theorem RetSE.of_rev {w w' : World} {B : Option Addr} {C : Nat} {M : List (List UInt8)} (h : Acc 29 32 w w' w.heap.size B C M.length (sumCells M.reverse)) : RetSE w M.reverse 0 (.returned (.tuple #[.slice B M.length C, .int .i64 0])) w' := by
  have e : M.reverse.length = M.length := List.length_reverse
  refine ⟨B, C, by rw [e], by rw [e]; exact h⟩

def lenOf : Value → Nat
  | .slice _ n _ => n
  | _ => 0
theorem lenOf_slice (a : Option Addr) (n c : Nat) : lenOf (.slice a n c) = n := rfl
/-- Where the descent stands: a part of the leaves, a place in it, and the path so far, last sum first. -/
structure PAt (w : World) (L : List (List UInt8)) (i : Nat) (wr : World) (L' : List (List UInt8)) (a : Option Addr) (n c i' : Nat) (B : Option Addr) (C : Nat) (M : List (List UInt8)) : Prop where
  sums : Sums w a n c L'
  lt : i' < n
  acc : Acc 29 32 w wr w.heap.size B C M.length (sumCells M)
  path : Tree.path L i = Tree.path L' i' ++ M.reverse
  room : M.length + n ≤ L.length
  each : ∀ x ∈ M, x.length = 32

set_option maxRecDepth 100000 in
set_option maxHeartbeats 2000000 in
theorem path_any (L : List (List UInt8)) (a : Option Addr) (n c i : Nat) (w : World) (hi : i < n) (hlen : n < 1099511627776) (hT : Tabs w) (S : Sums w a n c L) :
    Calls Tryd.prog 24 #[.slice a n c, .int .i64 i] w (RetSE w (Tree.path L i) 0) := by
  obtain ⟨z0, hz0, hinfo⟩ := info_sum'
  have HI := Lib.hid hinfo
  have HZ0 := Lib.hid hz0
  have hs : PAt w L i w L a n c i none 0 [] := ⟨S, hi, Acc.start _ _ _ _ _ (Below.refl _ _) (Nat.le_refl _), by simp, by rw [S.len]; simp, fun _ h => by cases h⟩
  have HS := Lib.hid hs
  have hLn := S.len
  have HLn := Lib.hid hLn
  have h1 : ¬ (i : Int) < 0 := by omega
  have h2 : ¬ (n : Int) ≤ (i : Int) := by omega
  clear S hinfo hz0 hs hLn
  go_enter Tryd.func24, Tryd.ntmps24
  go_wp2
  go_step3
  go_wp2
  go_step3
  go_wp2
  simp only [decide_eq_false (show ¬ (i : Int) < 0 by omega), decide_eq_false (show ¬ n ≤ i by omega), Bool.or_false]
  go_loopw [1, 6, 7, 8] (fun iv pv lv _ wr => ∃ (L' : List (List UInt8)) (a' : Option Addr) (n' c' i' : Nat) (B : Option Addr) (C : Nat) (M : List (List UInt8)), iv = .int .i64 i' ∧ pv = .slice B M.length C ∧ lv = .slice a' n' c' ∧ PAt w L i wr L' a' n' c' i' B C M) (fun _ _ lv _ _ => lenOf lv)
  case atStart => exact ⟨L, a, n, c, i, none, 0, [], rfl, rfl, rfl, HS.out⟩
  case round =>
    clear HS
    obtain ⟨L', a', n', c', i', B, C, M, rfl, rfl, rfl, hP⟩ := hrel
    have HP := Lib.hid hP
    clear hP
    by_cases hone : n' = 1
    · have hone2 : ((n' : Int) == 1) = true := by simp; omega
      have hone3 : (n' : Int) = 1 := by omega
      have hl' := HP.out.sums.len
      have hst := Tree.path_stop (l := L') (i := i') (by omega)
      have hpa := HP.out.path
      rw [hst, List.nil_append] at hpa
      have HPA := Lib.hid hpa
      have hMl : M.length < 4611686018427387904 := by have := HP.out.room; have := HLn.out; omega
      clear hl' hst hpa
      go_wp2_with (go_at_call 47; refine (rev_any M w wr w.heap.size B M.length C rfl hMl HP.out.each HP.out.acc).mono ?_; rintro e w1 ⟨rfl, hA1⟩; have HA1 := Lib.hid hA1; clear hA1)
      rw [Exit.noGoto_ret]
      go_ret2
      rw [HPA.out]
      exact RetSE.of_rev HA1.out
    · have hn1 : 1 < n' := by have := HP.out.lt; omega
      have hone2 : ((n' : Int) == 1) = false := by simp; omega
      have hone3 : ¬ (n' : Int) = 1 := by omega
      have hn63 : n' < 1099511627776 := by have := HP.out.room; have := HLn.out; omega
      have hkp := split_pos n'
      have hkl := split_lt hn1
      have hl' := HP.out.sums.len
      have hpl := @Tree.path_left L' i' (by omega)
      have hpr := @Tree.path_right L' i' (by omega)
      rw [← hl'] at hpl hpr
      have Hhalf := half_any n' (by omega)
      have hcap := HP.out.sums.cap
      generalize split n' = k at *
      have hMl : M.length + 1 ≤ 1099511627776 := by have := HP.out.room; have := HLn.out; omega
      have z1 : M.length + 1 ≤ maxLen := by unfold maxLen; omega
      have z2 : (M.length + 1) * 32 ≤ 140737488355328 := by omega
      have hlow := HP.out.acc.low
      have Hlow := Lib.hid hlow
      by_cases hik : i' < k
      · have hik2 : (i' : Int) < (k : Int) := by omega
        have hpp := hpl hik
        have hsl := Tree.root_len (L'.drop k) fun x hx => HP.out.sums.each x (List.mem_of_mem_drop hx)
        have hrt := root_any (L'.drop k) (a'.map (·.add (k * 32))) (n' - k) (c' - k) wr (by rw [List.length_drop]; omega) (hT.below hlow) ((HP.out.sums.rest k hkl).below hlow)
        obtain ⟨s, hse⟩ : ∃ s, s = Tree.root (L'.drop k) := ⟨_, rfl⟩
        rw [← hse] at hpp hsl hrt
        have Hrt := Lib.hid hrt
        have Hsl := Lib.hid hsl
        have Hpp := Lib.hid hpp
        have Hl' := Lib.hid hl'
        clear hpl hpr hpp hsl hrt hse hl' hlow
        go_wp2_with (first | (go_at_call 45; refine (Hhalf _).mono ?_; rintro e w1 ⟨rfl, rfl⟩) | (go_at_call 21; refine Hrt.out.mono ?_; rintro e w2 ⟨rfl, hB⟩; have HB := Lib.hid hB; clear hB) | (refine wpList_build_sum rfl _ rfl s rfl Hsl.out ?_) | (at_builtin; refine wpList_acc rfl _ _ 31 rfl 29 32 32 z0 Tryd.underlying31 HI.out HZ0.out (by decide) w w.heap.size B C M.length (sumCells M) rfl ((HP.out.acc.below HB.out).alloc _) (some ⟨w2.heap.size, 0, none⟩) 1 1 (s.map V8) rfl (by simp [Hsl.out]) (box_bytes (blk1 _ _)).cells (fun h => by cases h) (fun ad h => ⟨_, _, (Option.some.inj h).symm⟩) (ones' s) z1 z2 ?_; intro B2 D2 w3 hacc hg hnew; have HA := Lib.hid hacc; clear hacc hg hnew))
        go_roundw
        case rel =>
          refine ⟨L'.take k, a', k, c', i', B2, D2, M ++ [s], rfl, by simp, rfl, HP.out.sums.take k (by omega), hik, ?_, ?_, ?_, ?_⟩
          · have := HA.out
            rw [← sumCells_one s, ← sumCells_append] at this
            simpa using this
          · rw [HP.out.path, Hpp.out]; simp
          · have := HP.out.room; simp; omega
          · intro x hx
            rw [List.mem_append, List.mem_singleton] at hx
            rcases hx with hx | rfl
            · exact HP.out.each x hx
            · exact Hsl.out
        case measure => rw [lenOf_slice, lenOf_slice]; omega
      · have hik2 : ¬ (i' : Int) < (k : Int) := by omega
        have hpp := hpr hik
        have e0 : ((i' - k : Nat) : Int) = (i' : Int) - (k : Int) := by omega
        have hsl := Tree.root_len (L'.take k) fun x hx => HP.out.sums.each x (List.mem_of_mem_take hx)
        have hrt := root_any (L'.take k) a' k c' wr (by rw [List.length_take]; omega) (hT.below hlow) ((HP.out.sums.take k (by omega)).below hlow)
        obtain ⟨s, hse⟩ : ∃ s, s = Tree.root (L'.take k) := ⟨_, rfl⟩
        rw [← hse] at hpp hsl hrt
        have Hrt := Lib.hid hrt
        have Hsl := Lib.hid hsl
        have Hpp := Lib.hid hpp
        have Hl' := Lib.hid hl'
        have He0 := Lib.hid e0
        have hwr : wrap64 ((i' : Int) - (k : Int)) = (i' : Int) - (k : Int) := by have := HP.out.lt; unfold wrap64; omega
        clear hpl hpr hpp hsl hrt hse hl' hlow e0
        go_wp2_with (first | (go_at_call 45; refine (Hhalf _).mono ?_; rintro e w1 ⟨rfl, rfl⟩) | (go_at_call 21; refine Hrt.out.mono ?_; rintro e w2 ⟨rfl, hB⟩; have HB := Lib.hid hB; clear hB) | (refine wpList_build_sum rfl _ rfl s rfl Hsl.out ?_) | (at_builtin; refine wpList_acc rfl _ _ 31 rfl 29 32 32 z0 Tryd.underlying31 HI.out HZ0.out (by decide) w w.heap.size B C M.length (sumCells M) rfl ((HP.out.acc.below HB.out).alloc _) (some ⟨w2.heap.size, 0, none⟩) 1 1 (s.map V8) rfl (by simp [Hsl.out]) (box_bytes (blk1 _ _)).cells (fun h => by cases h) (fun ad h => ⟨_, _, (Option.some.inj h).symm⟩) (ones' s) z1 z2 ?_; intro B2 D2 w3 hacc hg hnew; have HA := Lib.hid hacc; clear hacc hg hnew))
        go_roundw
        case rel =>
          refine ⟨L'.drop k, a'.map (·.add (k * 32)), n' - k, c' - k, i' - k, B2, D2, M ++ [s], by rw [He0.out, hwr], by simp, rfl, HP.out.sums.rest k hkl, by have := HP.out.lt; omega, ?_, ?_, ?_, ?_⟩
          · have := HA.out
            rw [← sumCells_one s, ← sumCells_append] at this
            simpa using this
          · rw [HP.out.path, Hpp.out]; simp
          · have := HP.out.room; simp; omega
          · intro x hx
            rw [List.mem_append, List.mem_singleton] at hx
            rcases hx with hx | rfl
            · exact HP.out.each x hx
            · exact Hsl.out
        case measure => rw [lenOf_slice, lenOf_slice]; omega
end Go.Proofs.YtpdhgijeanbmcaaDoor

/- LiveA -/
namespace Go.Proofs.YtpdhgijeanbmcaaDoor
open Go.RowKit Go.Great

theorem RetS.sums {w w' : World} {L : List (List UInt8)} {e : Ending} (h : RetS w L e w') (hL : ∀ x ∈ L, x.length = 32) : ∃ B C, e = .returned (.slice B L.length C) ∧ Sums w' B L.length C L ∧ Below w.heap.size w w' := by
  obtain ⟨B, C, h1, h2⟩ := h
  exact ⟨B, C, h1, h2.sums hL, h2.low⟩
theorem RetSE.sums {w w' : World} {L : List (List UInt8)} {k : Int} {e : Ending} (h : RetSE w L k e w') (hL : ∀ x ∈ L, x.length = 32) : ∃ B C, e = .returned (.tuple #[.slice B L.length C, .int .i64 k]) ∧ Sums w' B L.length C L ∧ Below w.heap.size w w' := by
  obtain ⟨B, C, h1, h2⟩ := h
  exact ⟨B, C, h1, h2.sums hL, h2.low⟩
theorem three_len (x y z : List UInt8) (hx : x.length = 32) (hy : y.length = 32) (hz : z.length = 32) : ∀ u ∈ [x, y, z], u.length = 32 := by
  intro u hu
  simp only [List.mem_cons, List.not_mem_nil, or_false] at hu
  rcases hu with rfl | rfl | rfl
  · exact hx
  · exact hy
  · exact hz
theorem one_len (x : List UInt8) (hx : x.length = 32) : ∀ u ∈ [x], u.length = 32 := by
  intro u hu
  rw [List.mem_singleton] at hu
  subst hu
  exact hx
theorem live_leaves (w : World) (la lb lc : List UInt8) (ha : la = Tree.leaf [97]) (hb : lb = Tree.leaf [98]) (hc : lc = Tree.leaf [99]) (hT : Tabs w) :
    Calls Tryd.prog 16 #[.slice (some ⟨w.heap.size, 0, none⟩) 3 3] (w.alloc (.cells #[.string ⟨#[97]⟩, .string ⟨#[98]⟩, .string ⟨#[99]⟩] 9)) fun e w' => ∃ B C, e = .returned (.slice B 3 C) ∧ Sums w' B 3 C [la, lb, lc] ∧ Below w.heap.size w w' := by
  subst ha hb hc
  refine (leaves_any [[97], [98], [99]] (some ⟨w.heap.size, 0, none⟩) 3 3 _ (hT.below (low1 _ _)) ⟨rfl, fun _ => ⟨w.heap.size, 0, rfl, fun k hk => ?_⟩⟩ (by omega) (fun t ht => ?_)).mono ?_
  · have : k = 0 ∨ k = 1 ∨ k = 2 := by simp at hk; omega
    rcases this with rfl | rfl | rfl <;> exact cell_block (blk1 _ _) rfl
  · simp only [List.mem_cons, List.not_mem_nil, or_false] at ht
    rcases ht with rfl | rfl | rfl <;> decide
  · rintro e w' h
    obtain ⟨B, C, h1, h2, h3⟩ := h.sums (three_len _ _ _ rfl rfl rfl)
    exact ⟨B, C, h1, h2, bthen (low1 _ _) h3⟩
theorem live_path (W : World) (la lb lc p0 : List UInt8) (B : Option Addr) (C : Nat) (h0 : p0 = Tree.node la lb) (hT : Tabs W) (S : Sums W B 3 C [la, lb, lc]) :
    Calls Tryd.prog 24 #[.slice B 3 C, .int .i64 2] W fun e w' => ∃ B C, e = .returned (.tuple #[.slice B 1 C, .int .i64 0]) ∧ Sums w' B 1 C [p0] ∧ Below W.heap.size W w' := by
  subst h0
  have h := path_any [la, lb, lc] B 3 C 2 W (by omega) (by omega) hT S
  rw [Tree.path3] at h
  exact h.mono fun e w' h => h.sums (one_len _ rfl)
theorem live_growth (W : World) (la lb lc : List UInt8) (B : Option Addr) (C : Nat) (hl : lc.length = 32) (hT : Tabs W) (S : Sums W B 3 C [la, lb, lc]) :
    Calls Tryd.prog 26 #[.slice B 3 C, .int .i64 2] W fun e w' => ∃ B C, e = .returned (.tuple #[.slice B 1 C, .int .i64 0]) ∧ Sums w' B 1 C [lc] ∧ Below W.heap.size W w' := by
  have h := growth_any [la, lb, lc] B 3 C 2 W (by omega) (by omega) (by omega) hT S
  rw [Tree.sub3] at h
  exact h.mono fun e w' h => h.sums (one_len _ hl)
def pTxt (l : List UInt8) : Post Low := ⟨fun v w => ∃ a n c, v = .slice a n c ∧ Txt w a n c l, fun _ _ _ ⟨a, n, c, e, h⟩ hl => ⟨a, n, c, e, h.below hl⟩⟩
theorem root_is (s : List UInt8) (L : List (List UInt8)) (a : Option Addr) (n c : Nat) (w : World) (hs : Tree.root L = s) (hlen : L.length < 4611686018427387904) (hT : Tabs w) (S : Sums w a n c L) : Calls Tryd.prog 21 #[.slice a n c] w (RetSum w s) := by
  subst hs
  exact root_any L a n c w hlen hT S
theorem holds_is (b : Bool) (root leaf : List UInt8) (a : Option Addr) (c : Nat) (x : List UInt8) (w : World) (hb : Tree.holds root 3 2 leaf [x] = b) (hr : root.length = 32) (hl : leaf.length = 32) (hT : Tabs w) (S : Sums w a 1 c [x]) :
    Calls Tryd.prog 30 #[sumV root, .int .i64 3, .int .i64 2, sumV leaf, .slice a 1 c] w fun e w' => e = .returned (.bool b) ∧ Below w.heap.size w w' := by
  subst hb
  exact holds_any root leaf 3 2 a 1 c [x] w (by omega) (by omega) (by omega) hr hl hT S
theorem extends_is (b : Bool) (root old x : List UInt8) (a : Option Addr) (c : Nat) (w : World) (hb : Tree.extends_ 2 old 3 root [x] = b) (hr : root.length = 32) (ho : old.length = 32) (hT : Tabs w) (S : Sums w a 1 c [x]) (hs3 : split 3 = 2) :
    Calls Tryd.prog 32 #[.int .i64 2, sumV old, .int .i64 3, sumV root, .slice a 1 c] w fun e w' => e = .returned (.bool b) ∧ Below w.heap.size w w' := by
  subst hb
  exact extends_three root old x a c w hr ho hT S hs3
theorem lit97_cells : (([97] : List UInt8).map V8).toArray = #[Value.int .u8 97] := by simp [V8]
theorem lit97 (W : World) : Txt (W.alloc (.cells #[Value.int .u8 97] 5)) (some ⟨W.heap.size, 0, none⟩) 1 1 [97] := by
  rw [← lit97_cells]
  exact Txt.of_block (blk1 _ _) rfl
section
variable {P : Program} {ops : Array Oper} {rest : List Oper} {o : Oper} {a : Act} {w : World} {Q : Exit → Act → World → Prop}
theorem wpList_load_mid_sumG (hgd : Region.wanted o (yielded ops a.tmps) = true) (ty : TypeId) (x : Operand) (ho : o.op = .load ty x) (b off : Nat) (hx : a.eval x = .pointer (some ⟨b, off, none⟩))
    (l : List UInt8) (n : Nat) (e : TypeId) (hc : w.rangeAt b off (l.map V8)) (hu : P.underlying ty = some (.array n e)) (hi : (P.info? ty).map (·.size) = some n) (hl : l.length = n) (h : wpList P ops Q rest (a.put o.dst (sumV l)) w) : wpList P ops Q (o :: rest) a w :=
  wpList_guarded hgd (wpList_load_mid_sum rfl ty x ho b off hx l n e hc hu hi hl h)
theorem wpList_load_sumG (hgd : Region.wanted o (yielded ops a.tmps) = true) (ty : TypeId) (x : Operand) (ho : o.op = .load ty x) (g : Nat) (hx : a.eval x = .pointer (some ⟨g, 0, none⟩))
    (t : TypeId) (l : List UInt8) (n : Nat) (fr : Nat × Nat) (e : TypeId) (hg : w.heap[g]? = some (.cells (l.map V8).toArray t fr)) (hu : P.underlying ty = some (.array n e))
    (hi : (P.info? ty).map (·.size) = some n) (hl : l.length = n) (h : wpList P ops Q rest (a.put o.dst (sumV l)) w) : wpList P ops Q (o :: rest) a w :=
  wpList_guarded hgd (wpList_load_sum rfl ty x ho g hx t l n fr e hg hu hi hl h)
end
/-- Below block N nothing turns; above it blocks keep their cells (a mark may turn). -/
structure RN (N : Nat) (w w' : World) : Prop where
  low : Below N w w'
  keep : ∀ (i : Nat) (cs : Array Value) (t : TypeId) (fr : Nat × Nat), w.heap[i]? = some (.cells cs t fr) → ∃ fr', w'.heap[i]? = some (.cells cs t fr')
theorem RN.refl (N : Nat) (w : World) : RN N w w := ⟨Below.refl _ _, fun _ _ _ fr h => ⟨fr, h⟩⟩
theorem RN.trans (N : Nat) (w w' w'' : World) (h : RN N w w') (h' : RN N w' w'') : RN N w w'' :=
  ⟨h.low.trans h'.low, fun i cs t fr hh => by
    obtain ⟨fr1, h1⟩ := h.keep i cs t fr hh
    exact h'.keep i cs t fr1 h1⟩
theorem RN.of_low {N : Nat} {w w' : World} (h : Below w.heap.size w w') (hN : N ≤ w.heap.size) : RN N w w' :=
  ⟨h.mono hN, fun _ _ _ fr hh => ⟨fr, bblk h hh⟩⟩
theorem lowR {w wr : World} (h : RN w.heap.size w.drew wr) : Below w.heap.size w wr := Below.trans (Low.drew w) h.low
theorem sizeR {w wr : World} (h : RN w.heap.size w.drew wr) : w.heap.size ≤ wr.heap.size := h.low.size
/-- A literal of one byte, 97, in memory of the call's own. -/
def pLit (N : Nat) : Post (RN N) := ⟨fun v w => ∃ b, v = .slice (some ⟨b, 0, none⟩) 1 1 ∧ N ≤ b ∧ ∃ t fr, w.heap[b]? = some (.cells #[Value.int .u8 97] t fr), fun _ _ _ ⟨b, e, hb, t, fr, h⟩ hR => by
  obtain ⟨fr', h'⟩ := hR.keep b _ t fr h
  exact ⟨b, e, hb, t, fr', h'⟩⟩
theorem txt97 {W : World} {b : Nat} {t : TypeId} {fr : Nat × Nat} (h : W.heap[b]? = some (.cells #[Value.int .u8 97] t fr)) : Txt W (some ⟨b, 0, none⟩) 1 1 [97] := by
  rw [← lit97_cells] at h
  exact Txt.of_block h rfl
theorem conv_mark (b n c : Nat) (W : World) (cs : Array Value) (t : TypeId) (fr : Nat × Nat) (h : W.heap[b]? = some (.cells cs t fr)) : ∃ W', (convert 22 22 (.slice (some ⟨b, 0, none⟩) n c)).run Tryd.prog W = .ok (.slice (some ⟨b, 0, none⟩) n c) W' ∧ W.grownBy W' (some b) ∧ ∃ fr', W'.heap[b]? = some (.cells cs t fr') := by
  have hsh : W.shape? b = some (t, cs.size) := by simp [World.shape?, h]
  refine ⟨W.freeze ⟨b, cs.size, none⟩ 1, ?_, ?_, ?_⟩
  · simp [convert, run_underlying Tryd.underlying22, run_underlying Tryd.underlying5, markStringish, hsh]
  · refine ⟨rfl, rfl, rfl, ?_, fun i hi hne => ?_⟩
    · simp [World.freeze]
    · have : b ≠ i := fun e => hne (by rw [e])
      simp [World.freeze, Array.getElem?_modify, this]
  · simp [World.freeze, Array.getElem?_modify, h]
theorem RN.of_mark {N b : Nat} {w w' : World} {cs : Array Value} {t : TypeId} {fr fr' : Nat × Nat} (hN : N ≤ w.heap.size) (hb : N ≤ b) (hg : w.grownBy w' (some b)) (h : w.heap[b]? = some (.cells cs t fr)) (h' : w'.heap[b]? = some (.cells cs t fr')) : RN N w w' :=
  ⟨(Below.refl N w).grown hg hN (fun k hk => by obtain rfl := Option.some.inj hk; exact hb), fun i cs2 t2 fr2 h2 => by
    by_cases e : i = b
    · subst e
      rw [h] at h2
      have h3 := Option.some.inj h2
      injection h3 with e1 e2 e3
      subst e1 e2
      exact ⟨fr', h'⟩
    · exact ⟨fr2, (hg.block i (in_heap h2) (fun e' => e (Option.some.inj e'))).trans h2⟩⟩
theorem relOp_load_mid {ops : Array Oper} {R : World → World → Prop} {o : Oper} {a : Act} {w : World} (hrf : ∀ w, R w w) (hg : Region.wanted o (yielded ops a.tmps) = true) (x : Operand) (ho : o.op = .load 29 x) (b off : Nat) (hx : a.eval x = .pointer (some ⟨b, off, none⟩))
    (l : List UInt8) (hc : w.rangeAt b off (l.map V8)) (hl : l.length = 32) : relOp Tryd.prog ops R (Post.is (R := R) (sumV l)).p o a w := by
  unfold relOp wpList
  rw [if_pos hg]
  exact .inl (wp_load_mid 29 x ho b off hx (l.map V8) _ hc Tryd.underlying29 rfl (by rw [show (Tryd.prog.info? 29).map (·.size) = some 32 from by kernel_rfl, List.length_map, hl]) ⟨rfl, _, rfl, hrf _, rfl⟩)
theorem relOp_load_sum {ops : Array Oper} {R : World → World → Prop} {o : Oper} {a : Act} {w : World} (hrf : ∀ w, R w w) (hg : Region.wanted o (yielded ops a.tmps) = true) (x : Operand) (ho : o.op = .load 29 x) (g : Nat) (hx : a.eval x = .pointer (some ⟨g, 0, none⟩))
    (t : TypeId) (fr : Nat × Nat) (l : List UInt8) (hgl : w.heap[g]? = some (.cells (l.map V8).toArray t fr)) (hl : l.length = 32) : relOp Tryd.prog ops R (Post.is (R := R) (sumV l)).p o a w := by
  unfold relOp wpList
  rw [if_pos hg]
  exact .inl (wp_load_row 29 x ho g hx t (l.map V8).toArray fr _ hgl Tryd.underlying29 rfl (size_sum l hl) ⟨rfl, _, rfl, hrf _, rfl⟩)
theorem eval_put_ne (a : Act) (d t : Tmp) (v : Value) (h : (d == t) = false) : (a.put (some d) v).eval (.tmp t) = a.eval (.tmp t) := by
  have h' : d ≠ t := by simpa using h
  simp [Act.put, Act.eval, Array.getElem?_setIfInBounds_ne h']
theorem size_put (a : Act) (d : Option Tmp) (v : Value) : (a.put d v).tmps.size = a.tmps.size := by
  cases d <;> simp [Act.put]
theorem eval_put_eq (a : Act) (d : Tmp) (v : Value) (h : d < a.tmps.size) : (a.put (some d) v).eval (.tmp d) = v := by
  simp [Act.put, Act.eval, h]
end Go.Proofs.YtpdhgijeanbmcaaDoor

/- Live -/
namespace Go.Proofs.YtpdhgijeanbmcaaDoor
open Go.RowKit Go.Great

def yLit (N : Nat) : Yld (RN N) := Yld.pr (pLit N).p (pLit N).st

set_option maxRecDepth 100000 in
set_option maxHeartbeats 100000000 in
theorem live_any (w : World) (hT : Tabs w) : Calls Tryd.prog 14 #[] w fun e w' => e = .returned (.bool true) ∧ Below w.heap.size w w' := by
  obtain ⟨la, hla, hlal⟩ : ∃ x, x = Tree.leaf [97] ∧ x.length = 32 := ⟨_, rfl, rfl⟩
  obtain ⟨lb, hlb, hlbl⟩ : ∃ x, x = Tree.leaf [98] ∧ x.length = 32 := ⟨_, rfl, rfl⟩
  obtain ⟨lc, hlc, hlcl⟩ : ∃ x, x = Tree.leaf [99] ∧ x.length = 32 := ⟨_, rfl, rfl⟩
  obtain ⟨p0, hp0, hp0l⟩ : ∃ x, x = Tree.node la lb ∧ x.length = 32 := ⟨_, rfl, rfl⟩
  obtain ⟨r, hr, hrl⟩ : ∃ x, x = Tree.node p0 lc ∧ x.length = 32 := ⟨_, rfl, rfl⟩
  have f1 : Tree.holds r 3 2 lc [p0] = true := by rw [Tree.holds3, hr]; exact beq_self_eq_true _
  have f2 : Tree.holds r 3 2 lb [p0] = false := by rw [Tree.holds3, hr, hp0, hla, hlb, hlc]; exact beq_eq_false_iff_ne.2 live_ne1
  have f3 : Tree.extends_ 2 p0 3 r [lc] = true := by rw [Tree.ext3, hr]; exact beq_self_eq_true _
  have f4 : Tree.extends_ 2 r 3 r [lc] = false := by rw [Tree.ext3, hr, hp0, hla, hlb, hlc]; exact beq_eq_false_iff_ne.2 live_ne2
  have f5 : Tree.root [la, lb] = p0 := by rw [Tree.root2, hp0]
  have f6 : Tree.root [la, lb, lc] = r := by rw [Tree.root3, hr, hp0]
  have HF1 := Lib.hid f1
  have HF2 := Lib.hid f2
  have HF3 := Lib.hid f3
  have HF4 := Lib.hid f4
  have HF5 := Lib.hid f5
  have HF6 := Lib.hid f6
  have Hla := Lib.hid hla
  have Hlb := Lib.hid hlb
  have Hlc := Lib.hid hlc
  have Hp0 := Lib.hid hp0
  have La := Lib.hid hlal
  have Lb := Lib.hid hlbl
  have Lc := Lib.hid hlcl
  have Lp := Lib.hid hp0l
  have Lr := Lib.hid hrl
  have hs3 := Lib.hid Tree.split3
  clear hla hlal hlb hlbl hlc hlcl hp0 hp0l hr hrl f1 f2 f3 f4 f5 f6
  go_enter Tryd.func14, Tryd.ntmps14
  go_wp2_with (first | (go_at_call 16; refine (live_leaves w la lb lc Hla.out Hlb.out Hlc.out hT).mono ?_; rintro e w1 ⟨B1, C1, rfl, hS, hB⟩; have HS1 := Lib.hid hS; have HB1 := Lib.hid hB; clear hS hB) | (go_at_call 24; refine (live_path w1 la lb lc p0 B1 C1 Hp0.out (hT.below HB1.out) HS1.out).mono ?_; rintro e w2 ⟨B2, C2, rfl, hS, hB⟩; have HS2 := Lib.hid hS; have HB2 := Lib.hid hB; clear hS hB) | (go_at_call 26; refine (live_growth w2 la lb lc B1 C1 Lc.out ((hT.below HB1.out).below HB2.out) (HS1.out.below HB2.out)).mono ?_; rintro e w3 ⟨B4, C4, rfl, hS, hB⟩; have HS3 := Lib.hid hS; have HB3 := Lib.hid hB; clear hS hB) | (go_at_call 21; refine (root_is r [la, lb, lc] B1 3 C1 w3 HF6.out (by simp) (((hT.below HB1.out).below HB2.out).below HB3.out) ((HS1.out.below HB2.out).below HB3.out)).mono ?_; rintro e w4 ⟨rfl, hB⟩; have HB4 := Lib.hid hB; clear hB) | (refine wpList_store_row' rfl 29 _ _ rfl w4.heap.size (r.map V8).toArray rfl rfl _ _ (blk1 _ _) (size_sum r Lr.out) (by simp [Lr.out]) (oneCells r) ?_; intro w5 h5 g5 s5; have H5 := Lib.hid h5; have G5 := Lib.hid g5; clear h5 g5 s5))
  have hl4 : Below w.heap.size w w4 := bthen (bthen (bthen HB1.out HB2.out) HB3.out) HB4.out
  have h45 : Low w4 w5 := (low1 _ _).grown G5.out (by simp) (fun k hk => by obtain rfl := Option.some.inj hk; exact Nat.le_refl _)
  have hL5 : Below w.heap.size w w5 := bthen hl4 h45
  have sl := (((HS1.out.below HB2.out).below HB3.out).below HB4.out).below h45
  have sp := ((HS2.out.below HB3.out).below HB4.out).below h45
  have sg := (HS3.out.below HB4.out).below h45
  obtain ⟨b, o, hb, hget⟩ := sl.get
  obtain rfl := hb (by omega)
  have SL := Lib.hid sl
  have SP := Lib.hid sp
  have SG := Lib.hid sg
  have HL := Lib.hid hL5
  have x0 := Lib.hid (hget 0 (by simp))
  have x1 := Lib.hid (hget 1 (by simp))
  have x2 := Lib.hid (hget 2 (by simp))
  have hcap := sl.cap
  obtain ⟨rb, hrb⟩ : ∃ rb, rb = w4.heap.size := ⟨_, rfl⟩
  rw [← hrb] at H5 ⊢
  clear hl4 h45 hL5 sl sp sg hb hget HS1 HS2 HS3 HB1 HB2 HB3 HB4 G5 hrb
  refine wp_region_reg 59 80 (RN w5.heap.size) (by kernel_rfl) (by kernel_rfl) (by kernel_rfl) (by kernel_rfl) (by kernel_rfl) (RN.refl _) (RN.trans _) [.is ((.int .i64 0 : Value)), .is ((.int .i64 0 : Value)), .is ((.bool true : Value)), .is ((.bool true : Value)), .is ((.slice B2 1 C2 : Value)), .is ((.int .i64 1 : Value)), .is ((.bool true : Value)), .is ((.bool true : Value)), .is ((.bool true : Value)), .is ((.int .i64 0 : Value)), .is ((.int .i64 0 : Value)), .is ((.bool true : Value)), .is ((.bool true : Value)), .is ((.bool true : Value)), .is ((.slice B4 1 C4 : Value)), .is ((.int .i64 1 : Value)), .is ((.bool true : Value)), .is ((.bool true : Value)), .is ((.bool true : Value)), yLit w5.heap.size, yLit w5.heap.size, .is (sumV la), .is ((.slice (some ⟨b, o, none⟩) 3 C1 : Value)), .is ((.pointer (some ⟨b, o + 0 * 32, none⟩) : Value)), .is (sumV la), .is ((.bool true : Value)), .is ((.bool true : Value)), .is ((.bool true : Value)), .is (sumV r), .is ((.slice (some ⟨b, o, none⟩) 3 C1 : Value)), .is ((.pointer (some ⟨b, o + 2 * 32, none⟩) : Value)), .is (sumV lc), .is ((.slice B2 1 C2 : Value)), .is ((.bool true : Value)), .is ((.bool true : Value)), .is ((.bool true : Value)), .is (sumV r), .is ((.slice (some ⟨b, o, none⟩) 3 C1 : Value)), .is ((.pointer (some ⟨b, o + 1 * 32, none⟩) : Value)), .is (sumV lb), .is ((.slice B2 1 C2 : Value)), .is ((.bool false : Value)), .is ((.bool true : Value)), .is ((.bool true : Value)), .is ((.bool true : Value)), .is ((.slice (some ⟨b, o, none⟩) 3 C1 : Value)), .is ((.slice (some ⟨b, o, none⟩) 2 C1 : Value)), .is (sumV p0), .is (sumV r), .is ((.slice B4 1 C4 : Value)), .is ((.bool true : Value)), .is ((.bool true : Value)), .is ((.bool true : Value)), .is (sumV r), .is (sumV r), .is ((.slice B4 1 C4 : Value)), .is ((.bool false : Value)), .is ((.bool true : Value)), .is ((.bool true : Value))] rfl (fun vs => ?_) (fun vs wr hR h => ?_)
  ·
    refine RegHead.cons (fun wr hR h => ?_) ?_
    · exact relAt.pure (RN.refl _) (by kernel_rfl) (by kernel_rfl)
    refine RegHead.cons (fun wr hR h => ?_) ?_
    · refine relAt.call (by kernel_rfl) (by kernel_rfl) ((num_any 0 wr).mono ?_)
      rintro e w6 ⟨rfl, rfl⟩
      exact ⟨_, rfl, RN.refl _ _, rfl⟩
    refine RegHead.cons (fun wr hR h => ?_) ?_
    · exact relAt.pure (RN.refl _) (by kernel_rfl) (by kernel_rfl)
    refine RegHead.cons (fun wr hR h => ?_) ?_
    · exact relAt.pure (RN.refl _) (by kernel_rfl) (by kernel_rfl)
    refine RegHead.cons (fun wr hR h => ?_) ?_
    · exact relAt.pure (RN.refl _) (by kernel_rfl) (by kernel_rfl)
    refine RegHead.cons (fun wr hR h => ?_) ?_
    · exact relAt.pure (RN.refl _) (by kernel_rfl) (by kernel_rfl)
    refine RegHead.cons (fun wr hR h => ?_) ?_
    · exact relAt.pure (RN.refl _) (by kernel_rfl) (by kernel_rfl)
    refine RegHead.cons (fun wr hR h => ?_) ?_
    · exact relAt.pure (RN.refl _) (by kernel_rfl) (by kernel_rfl)
    refine RegHead.cons (fun wr hR h => ?_) ?_
    · exact relAt.pure (RN.refl _) (by kernel_rfl) (by kernel_rfl)
    refine RegHead.cons (fun wr hR h => ?_) ?_
    · exact relAt.pure (RN.refl _) (by kernel_rfl) (by kernel_rfl)
    refine RegHead.cons (fun wr hR h => ?_) ?_
    · refine relAt.call (by kernel_rfl) (by kernel_rfl) ((num_any 0 wr).mono ?_)
      rintro e w6 ⟨rfl, rfl⟩
      exact ⟨_, rfl, RN.refl _ _, rfl⟩
    refine RegHead.cons (fun wr hR h => ?_) ?_
    · exact relAt.pure (RN.refl _) (by kernel_rfl) (by kernel_rfl)
    refine RegHead.cons (fun wr hR h => ?_) ?_
    · exact relAt.pure (RN.refl _) (by kernel_rfl) (by kernel_rfl)
    refine RegHead.cons (fun wr hR h => ?_) ?_
    · exact relAt.pure (RN.refl _) (by kernel_rfl) (by kernel_rfl)
    refine RegHead.cons (fun wr hR h => ?_) ?_
    · exact relAt.pure (RN.refl _) (by kernel_rfl) (by kernel_rfl)
    refine RegHead.cons (fun wr hR h => ?_) ?_
    · exact relAt.pure (RN.refl _) (by kernel_rfl) (by kernel_rfl)
    refine RegHead.cons (fun wr hR h => ?_) ?_
    · exact relAt.pure (RN.refl _) (by kernel_rfl) (by kernel_rfl)
    refine RegHead.cons (fun wr hR h => ?_) ?_
    · exact relAt.pure (RN.refl _) (by kernel_rfl) (by kernel_rfl)
    refine RegHead.cons (fun wr hR h => ?_) ?_
    · exact relAt.pure (RN.refl _) (by kernel_rfl) (by kernel_rfl)
    refine RegHead.cons (fun wr hR h => ?_) ?_
    · exact relAt.value (u := .slice (some ⟨wr.heap.size, 0, none⟩) 1 1) (w' := wr.alloc (.cells #[.int .u8 97] 5)) (by kernel_rfl) (by kernel_rfl) (RN.of_low (low1 _ _) (sizeR hR)) ⟨_, rfl, sizeR hR, _, _, blk1 _ _⟩
    refine RegHead.cons (fun wr hR h => ?_) ?_
    · have ex : ∃ b, vs 19 = .slice (some ⟨b, 0, none⟩) 1 1 ∧ w5.heap.size ≤ b ∧ ∃ t fr, wr.heap[b]? = some (.cells #[Value.int .u8 97] t fr) := allOf_iff.1 h 19 (by decide)
      obtain ⟨b4, hv4, hb4, t4, fr4, hh4⟩ := ex
      obtain ⟨W', hcv, hg4, fr5, hh5⟩ := conv_mark b4 1 1 wr _ t4 fr4 hh4
      exact relAt.valueS (s := convert 22 22 (vs 19)) (by kernel_rfl) (by kernel_rfl) (by rw [hv4]; exact hcv) (RN.of_mark (sizeR hR) hb4 hg4 hh4 hh5) ⟨_, rfl, hb4, _, _, hh5⟩
    refine RegHead.cons (fun wr hR h => ?_) ?_
    · have ex : ∃ b, vs 20 = .slice (some ⟨b, 0, none⟩) 1 1 ∧ w5.heap.size ≤ b ∧ ∃ t fr, wr.heap[b]? = some (.cells #[Value.int .u8 97] t fr) := allOf_iff.1 h 20 (by decide)
      obtain ⟨b4, hv4, hb4, t4, fr4, hh4⟩ := ex
      refine relAt.call (f := 17) (args := #[vs 20]) (by kernel_rfl) (by kernel_rfl) ?_
      rw [hv4]
      refine (leaf_any [97] (some ⟨b4, 0, none⟩) 1 1 wr (hT.below (bthen HL.out (lowR hR))) (txt97 hh4) (by decide)).mono ?_
      rintro e w6 ⟨rfl, hB⟩
      exact ⟨_, rfl, RN.of_low hB (sizeR hR), congrArg sumV Hla.out.symm⟩
    refine RegHead.cons (fun wr hR h => ?_) ?_
    · exact relAt.pure (RN.refl _) (by kernel_rfl) (by kernel_rfl)
    refine RegHead.cons (fun wr hR h => ?_) ?_
    · exact relAt.pure (RN.refl _) (by kernel_rfl) (by kernel_rfl)
    refine RegHead.cons (fun wr hR h => ?_) ?_
    · exact relAt.pureS (RN.refl _) (by kernel_rfl) (by kernel_rfl) (run_load_at_sum wr b (o + 0 * 32) la (range_low x0.out (lowR hR)) La.out)
    refine RegHead.cons (fun wr hR h => ?_) ?_
    · exact relAt.pureS (RN.refl _) (by kernel_rfl) (by kernel_rfl) (run_eql_sums wr (.tmp 42) (.tmp 45) la la true La.out La.out (beq_self_eq_true _))
    refine RegHead.cons (fun wr hR h => ?_) ?_
    · exact relAt.pure (RN.refl _) (by kernel_rfl) (by kernel_rfl)
    refine RegHead.cons (fun wr hR h => ?_) ?_
    · exact relAt.pure (RN.refl _) (by kernel_rfl) (by kernel_rfl)
    refine RegHead.cons (fun wr hR h => ?_) ?_
    · exact relAt.pureS (RN.refl _) (by kernel_rfl) (by kernel_rfl) (run_load_box_sum wr rb _ _ r (bblk (lowR hR) H5.out) Lr.out)
    refine RegHead.cons (fun wr hR h => ?_) ?_
    · exact relAt.pure (RN.refl _) (by kernel_rfl) (by kernel_rfl)
    refine RegHead.cons (fun wr hR h => ?_) ?_
    · exact relAt.pure (RN.refl _) (by kernel_rfl) (by kernel_rfl)
    refine RegHead.cons (fun wr hR h => ?_) ?_
    · exact relAt.pureS (RN.refl _) (by kernel_rfl) (by kernel_rfl) (run_load_at_sum wr b (o + 2 * 32) lc (range_low x2.out (lowR hR)) Lc.out)
    refine RegHead.cons (fun wr hR h => ?_) ?_
    · exact relAt.pure (RN.refl _) (by kernel_rfl) (by kernel_rfl)
    refine RegHead.cons (fun wr hR h => ?_) ?_
    · refine relAt.call (by kernel_rfl) (by kernel_rfl) ((holds_is true r lc B2 C2 p0 wr HF1.out Lr.out Lc.out (hT.below (bthen HL.out (lowR hR))) (SP.out.below (lowR hR))).mono ?_)
      rintro e w6 ⟨rfl, hB⟩
      exact ⟨_, rfl, RN.of_low hB (sizeR hR), rfl⟩
    refine RegHead.cons (fun wr hR h => ?_) ?_
    · exact relAt.pure (RN.refl _) (by kernel_rfl) (by kernel_rfl)
    refine RegHead.cons (fun wr hR h => ?_) ?_
    · exact relAt.pure (RN.refl _) (by kernel_rfl) (by kernel_rfl)
    refine RegHead.cons (fun wr hR h => ?_) ?_
    · exact relAt.pureS (RN.refl _) (by kernel_rfl) (by kernel_rfl) (run_load_box_sum wr rb _ _ r (bblk (lowR hR) H5.out) Lr.out)
    refine RegHead.cons (fun wr hR h => ?_) ?_
    · exact relAt.pure (RN.refl _) (by kernel_rfl) (by kernel_rfl)
    refine RegHead.cons (fun wr hR h => ?_) ?_
    · exact relAt.pure (RN.refl _) (by kernel_rfl) (by kernel_rfl)
    refine RegHead.cons (fun wr hR h => ?_) ?_
    · exact relAt.pureS (RN.refl _) (by kernel_rfl) (by kernel_rfl) (run_load_at_sum wr b (o + 1 * 32) lb (range_low x1.out (lowR hR)) Lb.out)
    refine RegHead.cons (fun wr hR h => ?_) ?_
    · exact relAt.pure (RN.refl _) (by kernel_rfl) (by kernel_rfl)
    refine RegHead.cons (fun wr hR h => ?_) ?_
    · refine relAt.call (by kernel_rfl) (by kernel_rfl) ((holds_is false r lb B2 C2 p0 wr HF2.out Lr.out Lb.out (hT.below (bthen HL.out (lowR hR))) (SP.out.below (lowR hR))).mono ?_)
      rintro e w6 ⟨rfl, hB⟩
      exact ⟨_, rfl, RN.of_low hB (sizeR hR), rfl⟩
    refine RegHead.cons (fun wr hR h => ?_) ?_
    · exact relAt.pure (RN.refl _) (by kernel_rfl) (by kernel_rfl)
    refine RegHead.cons (fun wr hR h => ?_) ?_
    · exact relAt.pure (RN.refl _) (by kernel_rfl) (by kernel_rfl)
    refine RegHead.cons (fun wr hR h => ?_) ?_
    · exact relAt.pure (RN.refl _) (by kernel_rfl) (by kernel_rfl)
    refine RegHead.cons (fun wr hR h => ?_) ?_
    · exact relAt.pure (RN.refl _) (by kernel_rfl) (by kernel_rfl)
    refine RegHead.cons (fun wr hR h => ?_) ?_
    · exact relAt.pureS (RN.refl _) (by kernel_rfl) (by kernel_rfl) (run_sums_to wr (some ⟨b, o, none⟩) 3 C1 2 (fun ad h => ⟨b, o, (Option.some.inj h).symm⟩) (by omega))
    refine RegHead.cons (fun wr hR h => ?_) ?_
    · refine relAt.call (by kernel_rfl) (by kernel_rfl) ((root_is p0 [la, lb] (some ⟨b, o, none⟩) 2 C1 wr HF5.out (by simp) (hT.below (bthen HL.out (lowR hR))) ((SL.out.take 2 (by omega)).below (lowR hR))).mono ?_)
      rintro e w6 ⟨rfl, hB⟩
      exact ⟨_, rfl, RN.of_low hB (sizeR hR), rfl⟩
    refine RegHead.cons (fun wr hR h => ?_) ?_
    · exact relAt.pureS (RN.refl _) (by kernel_rfl) (by kernel_rfl) (run_load_box_sum wr rb _ _ r (bblk (lowR hR) H5.out) Lr.out)
    refine RegHead.cons (fun wr hR h => ?_) ?_
    · exact relAt.pure (RN.refl _) (by kernel_rfl) (by kernel_rfl)
    refine RegHead.cons (fun wr hR h => ?_) ?_
    · refine relAt.call (by kernel_rfl) (by kernel_rfl) ((extends_is true r p0 lc B4 C4 wr HF3.out Lr.out Lp.out (hT.below (bthen HL.out (lowR hR))) (SG.out.below (lowR hR)) hs3.out).mono ?_)
      rintro e w6 ⟨rfl, hB⟩
      exact ⟨_, rfl, RN.of_low hB (sizeR hR), rfl⟩
    refine RegHead.cons (fun wr hR h => ?_) ?_
    · exact relAt.pure (RN.refl _) (by kernel_rfl) (by kernel_rfl)
    refine RegHead.cons (fun wr hR h => ?_) ?_
    · exact relAt.pure (RN.refl _) (by kernel_rfl) (by kernel_rfl)
    refine RegHead.cons (fun wr hR h => ?_) ?_
    · exact relAt.pureS (RN.refl _) (by kernel_rfl) (by kernel_rfl) (run_load_box_sum wr rb _ _ r (bblk (lowR hR) H5.out) Lr.out)
    refine RegHead.cons (fun wr hR h => ?_) ?_
    · exact relAt.pureS (RN.refl _) (by kernel_rfl) (by kernel_rfl) (run_load_box_sum wr rb _ _ r (bblk (lowR hR) H5.out) Lr.out)
    refine RegHead.cons (fun wr hR h => ?_) ?_
    · exact relAt.pure (RN.refl _) (by kernel_rfl) (by kernel_rfl)
    refine RegHead.cons (fun wr hR h => ?_) ?_
    · refine relAt.call (by kernel_rfl) (by kernel_rfl) ((extends_is false r r lc B4 C4 wr HF4.out Lr.out Lr.out (hT.below (bthen HL.out (lowR hR))) (SG.out.below (lowR hR)) hs3.out).mono ?_)
      rintro e w6 ⟨rfl, hB⟩
      exact ⟨_, rfl, RN.of_low hB (sizeR hR), rfl⟩
    refine RegHead.cons (fun wr hR h => ?_) ?_
    · exact relAt.pure (RN.refl _) (by kernel_rfl) (by kernel_rfl)
    refine RegHead.cons (fun wr hR h => ?_) ?_
    · exact relAt.pure (RN.refl _) (by kernel_rfl) (by kernel_rfl)
    exact trivial
  · have hlast := bthen HL.out (lowR hR)
    refine wp_frame (new := [(.int .i64 0 : Value), (.int .i64 0 : Value), (.bool true : Value), (.bool true : Value), (.slice B2 1 C2 : Value), (.int .i64 1 : Value), (.bool true : Value), (.bool true : Value), (.bool true : Value), (.int .i64 0 : Value), (.int .i64 0 : Value), (.bool true : Value), (.bool true : Value), (.bool true : Value), (.slice B4 1 C4 : Value), (.int .i64 1 : Value), (.bool true : Value), (.bool true : Value), (.bool true : Value), vs 19, vs 20, sumV la, (.slice (some ⟨b, o, none⟩) 3 C1 : Value), (.pointer (some ⟨b, o + 0 * 32, none⟩) : Value), sumV la, (.bool true : Value), (.bool true : Value), (.bool true : Value), sumV r, (.slice (some ⟨b, o, none⟩) 3 C1 : Value), (.pointer (some ⟨b, o + 2 * 32, none⟩) : Value), sumV lc, (.slice B2 1 C2 : Value), (.bool true : Value), (.bool true : Value), (.bool true : Value), sumV r, (.slice (some ⟨b, o, none⟩) 3 C1 : Value), (.pointer (some ⟨b, o + 1 * 32, none⟩) : Value), sumV lb, (.slice B2 1 C2 : Value), (.bool false : Value), (.bool true : Value), (.bool true : Value), (.bool true : Value), (.slice (some ⟨b, o, none⟩) 3 C1 : Value), (.slice (some ⟨b, o, none⟩) 2 C1 : Value), sumV p0, sumV r, (.slice B4 1 C4 : Value), (.bool true : Value), (.bool true : Value), (.bool true : Value), sumV r, sumV r, (.slice B4 1 C4 : Value), (.bool false : Value), (.bool true : Value), (.bool true : Value)]) 21 80 (by kernel_rfl) ?_
    simp only [List.take, List.cons_append, List.nil_append, List.drop]
    clear h hR
    go_wp2
    go_ret
    exact ⟨rfl, hlast⟩
end Go.Proofs.YtpdhgijeanbmcaaDoor

/- Own -/
namespace Go.Proofs.YtpdhgijeanbmcaaDoor
open Go.RowKit Go.Great

@[go_sem] theorem neq_sumV (x y : List UInt8) (w : World) (hx : x.length = 32) (hy : y.length = 32) : (binOp .neq 29 (sumV x) (sumV y)).run Tryd.prog w = .ok (.bool (!(x == y))) w := by
  show (binOp .neq 29 (.agg (x.map V8).toArray) (.agg (y.map V8).toArray)).run Tryd.prog w = _
  rw [run_neq_struct]
  have h := run_equalIn_bytes (P := Tryd.prog) w 9998 29 5 32 Tryd.underlying29 Tryd.underlying5 size_u8 x y hx hy
  have h2 : (Op.equalIn 10000 29 (.agg (x.map V8).toArray) (.agg (y.map V8).toArray)).run Tryd.prog w = .ok (x == y) w := h
  rw [h2]
  rfl

/-- At most 300 texts. -/
theorem few_any (ts : List (List UInt8)) (a : Option Addr) (n c : Nat) (w : World) (S : Strs w a n ts) (hc : n ≤ c) :
    Calls Tryd.prog 15 #[.slice a n c] w fun e w' => ∃ n', n' ≤ 300 ∧ e = .returned (.slice a n' c) ∧ Strs w a n' (ts.take 300) ∧ w = w' := by
  have hl := S.len
  have HS := Lib.hid S
  have Hl := Lib.hid hl
  clear S hl
  by_cases h : 300 < n
  · have h1 : (300 : Int) < (n : Int) := by omega
    have h2 : (300 : Int) ≤ (c : Int) := by omega
    have h3 : 300 ≤ c := by omega
    go_enter Tryd.func15, Tryd.ntmps15
    go_wp2
    go_ret
    refine ⟨300, Nat.le_refl _, rfl, ⟨by rw [List.length_take]; have := Hl.out; omega, fun _ => ?_⟩, rfl⟩
    obtain ⟨b, o, e, hc⟩ := HS.out.at_ (by omega)
    refine ⟨b, o, e, fun k hk => ?_⟩
    rw [List.length_take] at hk
    rw [hc k (by omega)]
    simp
  · have h1 : ¬ (300 : Int) < (n : Int) := by omega
    go_enter Tryd.func15, Tryd.ntmps15
    go_wp2
    go_ret
    refine ⟨n, by omega, rfl, ?_, rfl⟩
    rw [List.take_of_length_le (by have := Hl.out; omega)]
    exact HS.out

/-- Two lists that are one. -/
theorem sums_eq (L : List (List UInt8)) (a a' : Option Addr) (n c c' : Nat) (w : World) (S : Sums w a n c L) (S2 : Sums w a' n c' L) (hn : n < 4611686018427387904) :
    Calls Tryd.prog 28 #[.slice a n c, .slice a' n c'] w fun e w' => e = .returned (.bool true) ∧ Below w.heap.size w w' := by
  have hl := S.len
  have HS := Lib.hid S
  have HS2 := Lib.hid S2
  have Hl := Lib.hid hl
  clear S S2 hl
  go_enter Tryd.func28, Tryd.ntmps28
  go_wp2
  go_loopw [5] (fun i wr => ∃ k : Nat, k ≤ n ∧ i = .int .i64 k ∧ Below w.heap.size w wr) (fun i _ => n - (intOf i).toNat)
  case atStart => exact ⟨0, by omega, rfl, Below.refl _ _⟩
  case round =>
    obtain ⟨k, hk, rfl, hB⟩ := hrel
    have HB := Lib.hid hB
    clear hB
    by_cases hlt : k < n
    · have hki : (k : Int) < (n : Int) := by omega
      have hki0 : (0 : Int) ≤ (k : Int) := by omega
      have hk' : k < L.length := by have := Hl.out; omega
      obtain ⟨b, o, ha, hget⟩ := HS.out.get
      obtain rfl := ha (by omega)
      obtain ⟨b2, o2, ha2, hget2⟩ := HS2.out.get
      obtain rfl := ha2 (by omega)
      have hx := Lib.hid (hget k hk')
      have hx2 := Lib.hid (hget2 k hk')
      have hxl := HS.out.each L[k] (by simp)
      obtain ⟨x, hxe⟩ : ∃ x, x = L[k] := ⟨_, rfl⟩
      rw [← hxe] at hx hx2 hxl
      have HXL := Lib.hid hxl
      have hc1 := HS.out.cap
      have hc2 := HS2.out.cap
      clear hget hget2 ha ha2 hxl hxe hk'
      go_wp2
      refine wp_region_rel2 8 Low (by kernel_rfl) (by kernel_rfl) Low.refl Low.trans [.is (.slice (some ⟨b, o, none⟩) n c), .is (.int .i64 k), .is (.pointer (some ⟨b, o + k * 32, none⟩)), pSum x, .is (.slice (some ⟨b2, o2, none⟩) n c'), .is (.int .i64 k), .is (.pointer (some ⟨b2, o2 + k * 32, none⟩)), pSum x] rfl ?_
      refine RelHead2.cons ?_ ?_
      · intro w1 hR h
        unfold relOp
        go_wp2
        exact ⟨Low.refl _, rfl⟩
      intro v17
      refine RelHead2.cons ?_ ?_
      · intro w1 hR h
        unfold relOp
        go_wp2
        exact ⟨Low.refl _, rfl⟩
      intro v18
      refine RelHead2.cons ?_ ?_
      · intro w1 hR h
        have e17 : v17 = (.slice (some ⟨b, o, none⟩) n c : Value) := allOf_iff.1 h 0 (by decide)
        have e18 : v18 = (.int .i64 k : Value) := allOf_iff.1 h 1 (by decide)
        subst e17 e18
        unfold relOp
        clear h
        go_wp2
        exact ⟨Low.refl _, rfl⟩
      intro v19
      refine RelHead2.cons ?_ ?_
      · intro w1 hR h
        have e19 : v19 = (.pointer (some ⟨b, o + k * 32, none⟩) : Value) := allOf_iff.1 h 2 (by decide)
        subst e19
        unfold relOp
        refine wpList_load_mid_sum rfl 29 _ rfl b (o + k * 32) (by kernel_rfl) x 32 _ (range_low hx.out (bthen HB.out (bthen (Low.drew _) hR))) Tryd.underlying29 (by kernel_rfl) HXL.out ?_
        clear h
        go_wp2
        exact ⟨Low.refl _, rfl⟩
      intro v20
      refine RelHead2.cons ?_ ?_
      · intro w1 hR h
        unfold relOp
        go_wp2
        exact ⟨Low.refl _, rfl⟩
      intro v21
      refine RelHead2.cons ?_ ?_
      · intro w1 hR h
        unfold relOp
        go_wp2
        exact ⟨Low.refl _, rfl⟩
      intro v22
      refine RelHead2.cons ?_ ?_
      · intro w1 hR h
        have e21 : v21 = (.slice (some ⟨b2, o2, none⟩) n c' : Value) := allOf_iff.1 h 4 (by decide)
        have e22 : v22 = (.int .i64 k : Value) := allOf_iff.1 h 5 (by decide)
        subst e21 e22
        unfold relOp
        clear h
        go_wp2
        exact ⟨Low.refl _, rfl⟩
      intro v23
      refine RelHead2.cons ?_ ?_
      · intro w1 hR h
        have e23 : v23 = (.pointer (some ⟨b2, o2 + k * 32, none⟩) : Value) := allOf_iff.1 h 6 (by decide)
        subst e23
        unfold relOp
        refine wpList_load_mid_sum rfl 29 _ rfl b2 (o2 + k * 32) (by kernel_rfl) x 32 _ (range_low hx2.out (bthen HB.out (bthen (Low.drew _) hR))) Tryd.underlying29 (by kernel_rfl) HXL.out ?_
        clear h
        go_wp2
        exact ⟨Low.refl _, rfl⟩
      intro v24
      refine RelHead2.nil fun w1 hR h => ?_
      have e20 : v20 = sumV x := allOf_iff.1 h 3 (by decide)
      have e24 : v24 = sumV x := allOf_iff.1 h 7 (by decide)
      subst e20 e24
      have hne := neq_sumV x x w1 HXL.out HXL.out
      have hbq : (!(x == x)) = false := by rw [beq_self_eq_true]; rfl
      rw [hbq] at hne
      have HB1 := Lib.hid (bthen HB.out (bthen (Low.drew _) hR))
      clear h hR hbq
      go_wp2
      go_roundw
      case rel => exact ⟨k + 1, by omega, by go_num, HB1.out⟩
      case measure => simp [intOf]; omega
    · obtain rfl : k = n := by omega
      go_wp2
      go_ret
      exact ⟨rfl, HB.out⟩
end Go.Proofs.YtpdhgijeanbmcaaDoor

/- Own2 -/
namespace Go.Proofs.YtpdhgijeanbmcaaDoor
open Go.RowKit Go.Great

def mark (i : Nat) : List UInt8 := UInt8.ofNat i :: 0xee :: List.replicate 30 0
theorem mark_len (i : Nat) : (mark i).length = 32 := rfl
def markA (k : Nat) : Array Value := #[.int .u8 ((k : Nat) : Int), .int .u8 238, .int .u8 0, .int .u8 0, .int .u8 0, .int .u8 0, .int .u8 0, .int .u8 0, .int .u8 0, .int .u8 0, .int .u8 0, .int .u8 0, .int .u8 0, .int .u8 0, .int .u8 0, .int .u8 0, .int .u8 0, .int .u8 0, .int .u8 0, .int .u8 0, .int .u8 0, .int .u8 0, .int .u8 0, .int .u8 0, .int .u8 0, .int .u8 0, .int .u8 0, .int .u8 0, .int .u8 0, .int .u8 0, .int .u8 0, .int .u8 0]
theorem mark_val (k : Nat) (h : k < 8) : Value.agg (markA k) = sumV (mark k) := by
  have h1 : k = 0 ∨ k = 1 ∨ k = 2 ∨ k = 3 ∨ k = 4 ∨ k = 5 ∨ k = 6 ∨ k = 7 := by omega
  rcases h1 with rfl | rfl | rfl | rfl | rfl | rfl | rfl | rfl <;> rfl
def marks (k : Nat) : List (List UInt8) := (List.range k).map mark
theorem marks_next (L : List (List UInt8)) (k : Nat) : (L ++ marks k) ++ [mark k] = L ++ marks (k + 1) := by
  simp [marks, List.range_succ]

set_option maxRecDepth 100000 in
set_option maxHeartbeats 1000000 in
theorem own_any (L : List (List UInt8)) (a : Option Addr) (n c : Nat) (w : World) (S : Sums w a n c L) (hn : n + 8 ≤ 1099511627776) :
    Calls Tryd.prog 18 #[.slice a n c] w fun e w' => ∃ B C, e = .returned (.slice B n C) ∧ Acc 29 32 w w' w.heap.size B C (n + 8) (sumCells (L ++ marks 8)) := by
  obtain ⟨z0, hz0, hinfo⟩ := info_sum'
  have HI := Lib.hid hinfo
  have HZ0 := Lib.hid hz0
  have HS := Lib.hid S
  have hnl := Lib.hid (show (sumCells L).length = n * 32 by rw [sumCells_length L S.each, S.len])
  have z1 : 0 + n ≤ maxLen := by unfold maxLen; omega
  have z2 : (0 + n) * 32 ≤ 140737488355328 := by omega
  have hap := Lib.hid (show ∀ u ∈ sumCells L, u.oneCell' = true from fun u hu => by
    obtain ⟨x, _, hx⟩ := List.mem_flatMap.1 hu
    exact ones' x u hx)
  clear hinfo hz0 S
  go_enter Tryd.func18, Tryd.ntmps18
  go_wp2_with (at_builtin; refine wpList_acc rfl _ _ 31 rfl 29 32 32 z0 Tryd.underlying31 HI.out HZ0.out (by decide) w w.heap.size (some ⟨w.heap.size, 0, none⟩) 0 0 [] rfl (Acc.lit' rfl #[] 0 (Below.refl _ _) (Nat.le_refl _) (by decide) rfl) a n c (sumCells L) rfl hnl.out (HS.out.below (low1 _ _)).at_ HS.out.nil HS.out.od hap.out z1 z2 ?_; intro B1 D1 w1 hacc hg hnew; rw [List.nil_append, Nat.zero_add] at hacc; have HA1 := Lib.hid hacc; clear hacc hg hnew)
  go_loopw [3, 4] (fun v i wr => ∃ k B C, k ≤ 8 ∧ i = .int .i64 (k : Nat) ∧ v = .slice B (n + k) C ∧ Acc 29 32 w wr w.heap.size B C (n + k) (sumCells (L ++ marks k))) (fun _ i _ => 8 - (intOf i).toNat)
  case atStart => exact ⟨0, B1, D1, by omega, rfl, rfl, by simpa [marks] using HA1.out⟩
  case round =>
    clear HA1
    obtain ⟨k, B, C, hk, rfl, rfl, hA⟩ := hrel
    have HA := Lib.hid hA
    clear hA
    by_cases hlt : k < 8
    · have hki : (k : Int) < 8 := by omega
      have hki0 : (0 : Int) ≤ (k : Int) := by omega
      have z3 : n + k + 1 ≤ maxLen := by unfold maxLen; omega
      have z4 : (n + k + 1) * 32 ≤ 140737488355328 := by omega
      have Hmv := Lib.hid (mark_val k hlt)
      go_wp2_with (first | (refine wpList_build_sum rfl _ rfl (mark k) (Eq.trans (b := Value.agg (markA k)) rfl Hmv.out) (mark_len k) ?_) | (at_builtin; refine wpList_acc rfl _ _ 31 rfl 29 32 32 z0 Tryd.underlying31 HI.out HZ0.out (by decide) w w.heap.size B C (n + k) _ rfl (HA.out.alloc _) (some ⟨wr.heap.size, 0, none⟩) 1 1 ((mark k).map V8) rfl (by simp [mark_len]) (box_bytes (blk1 _ _)).cells (fun h => by cases h) (fun ad h => ⟨_, _, (Option.some.inj h).symm⟩) (ones' (mark k)) z3 z4 ?_; intro B2 D2 w3 hacc hg hnew; rw [← sumCells_one (mark k), ← sumCells_append, marks_next] at hacc; have HA3 := Lib.hid hacc; clear hacc hg hnew))
      go_roundw
      case rel => exact ⟨k + 1, B2, D2, by omega, by go_num, rfl, HA3.out⟩
      case measure => simp [intOf]; omega
    · obtain rfl : k = 8 := by omega
      have hcap := HA.out.cap
      have hnc : (n : Int) ≤ (C : Int) := by omega
      go_wp2
      go_ret
      exact ⟨B, C, rfl, HA.out⟩
end Go.Proofs.YtpdhgijeanbmcaaDoor

/- Kept -/
namespace Go.Proofs.YtpdhgijeanbmcaaDoor
open Go.RowKit Go.Great

theorem marks_len (k : Nat) : (marks k).length = k := by simp [marks]
theorem marks_get (k i : Nat) (h : i < (marks k).length) : (marks k)[i] = mark i := by simp [marks]

set_option maxRecDepth 100000 in
set_option maxHeartbeats 2000000 in
theorem kept_any (L : List (List UInt8)) (B a : Option Addr) (n C c : Nat) (w : World) (SB : Sums w B (n + 8) C (L ++ marks 8)) (S : Sums w a n c L) (hn : n < 1099511627776) :
    Calls Tryd.prog 23 #[.slice B n C, .slice a n c] w fun e w' => e = .returned (.bool true) ∧ Below w.heap.size w w' := by
  have hnl := S.len
  have hcap := SB.cap
  have hnC : (n : Int) + 8 ≤ (C : Int) := by omega
  obtain ⟨b, o, hb, hget⟩ := SB.get
  obtain rfl := hb (by omega)
  have Hget := Lib.hid hget
  have sl := SB.take n (by omega)
  rw [List.take_append_of_le_length (by omega), List.take_of_length_le (by omega)] at sl
  have hsums := Lib.hid fun W hB => sums_eq L (some ⟨b, o, none⟩) a n C c W (sl.below hB) (S.below hB) (by omega)
  have Hnl := Lib.hid hnl
  clear SB S sl hget hb hnl
  go_enter Tryd.func23, Tryd.ntmps23
  go_wp2
  go_loopw [6] (fun i wr => ∃ k : Nat, k ≤ 8 ∧ i = .int .i64 k ∧ Below w.heap.size w wr) (fun i _ => 8 - (intOf i).toNat)
  case atStart => exact ⟨0, by omega, rfl, Below.refl _ _⟩
  case round =>
    obtain ⟨k, hk, rfl, hB⟩ := hrel
    have HB := Lib.hid hB
    clear hB
    by_cases hlt : k < 8
    · have hki : (k : Int) < 8 := by omega
      have hki0 : (0 : Int) ≤ (k : Int) := by omega
      have hidx : (n : Int) + (k : Int) < (n : Int) + 8 := by omega
      have hr : w.rangeAt b (o + (n + k) * 32) ((mark k).map V8) := by
        have hlen : n + k < (L ++ marks 8).length := by rw [List.length_append, marks_len, ← Hnl.out]; omega
        have h := Hget.out (n + k) hlen
        rw [List.getElem_append_right (by have := Hnl.out; omega), marks_get] at h
        rw [show n + k - L.length = k by have := Hnl.out; omega] at h
        exact h
      have HR := Lib.hid hr
      have hmv := mark_val k hlt
      have hne : ∀ W, (binOp .neq 29 (sumV (mark k)) (Value.agg (markA k))).run Tryd.prog W = .ok (.bool false) W := fun W => by
        rw [hmv, neq_sumV _ _ _ (mark_len k) (mark_len k), beq_self_eq_true]; rfl
      have heg : ∀ (X Y : Operand) W, (eqGuard .neq 29 X Y (sumV (mark k)) (Value.agg (markA k))).run Tryd.prog W = .ok () W := fun X Y W => run_eqGuard_agg W .neq 29 X Y _ _ guard_sum
      unfold markA at hne heg
      clear hr hmv
      go_wp2_with (refine wpList_load_mid_sum rfl 29 _ rfl b (o + (n + k) * 32) rfl (mark k) 32 _ (range_low HR.out HB.out) Tryd.underlying29 (by kernel_rfl) (mark_len k) ?_)
      go_roundw
      case rel => exact ⟨k + 1, by omega, by go_num, HB.out⟩
      case measure => simp [intOf]; omega
    · obtain rfl : k = 8 := by omega
      go_wp2_with (go_at_call 28; refine (hsums.out _ HB.out).mono ?_; rintro e w3 ⟨rfl, hB⟩; have HB3 := Lib.hid hB; clear hB)
      go_ret
      exact ⟨rfl, bthen HB.out HB3.out⟩
end Go.Proofs.YtpdhgijeanbmcaaDoor

/- Ownl -/
namespace Go.Proofs.YtpdhgijeanbmcaaDoor
open Go.RowKit Go.Great
theorem leaf_each (l : List (List UInt8)) : ∀ u ∈ l.map Tree.leaf, u.length = 32 := fun u hu => by
  obtain ⟨t, _, rfl⟩ := List.mem_map.1 hu
  rfl
theorem leaves_len {w : World} {a : Option Addr} {n : Nat} {l : List (List UInt8)} (h : Strs w a n l) : (l.map Tree.leaf).length = n := by rw [List.length_map, h.len]
theorem own_each (L : List (List UInt8)) (h : ∀ x ∈ L, x.length = 32) : ∀ x ∈ L ++ marks 8, x.length = 32 := fun x hx => by
  rcases List.mem_append.1 hx with hx | hx
  · exact h x hx
  · obtain ⟨i, _, rfl⟩ := List.mem_map.1 hx
    rfl
end Go.Proofs.YtpdhgijeanbmcaaDoor

/- Cc -/
namespace Go.Proofs.YtpdhgijeanbmcaaDoor
open Go.RowKit Go.Great

def holdsOf (root : List UInt8) (n i : Int) (leaf : List UInt8) (p : List (List UInt8)) : Bool := if 0 ≤ i ∧ i < n then Tree.holds root n.toNat i.toNat leaf p else false
def extendsOf (m : Int) (old : List UInt8) (n : Int) (root : List UInt8) (p : List (List UInt8)) : Bool := if 1 ≤ m ∧ m ≤ n then Tree.extends_ m.toNat old n.toNat root p else false
section
variable (root leaf : List UInt8) (n i : Int) (a : Option Addr) (np c : Nat) (p : List (List UInt8)) (w : World) (hn : n < 9223372036854775808) (hnp : np < 4611686018427387904) (hr : root.length = 32) (hl : leaf.length = 32) (hT : Tabs w) (S : Sums w a np c p)
include hn hnp hr hl hT S
theorem holds_all : Calls Tryd.prog 30 #[sumV root, .int .i64 n, .int .i64 i, sumV leaf, .slice a np c] w fun e w' => e = .returned (.bool (holdsOf root n i leaf p)) ∧ Below w.heap.size w w' := by
  unfold holdsOf
  split
  · next h =>
    have := holds_any root leaf n.toNat i.toNat a np c p w (by omega) (by omega) hnp hr hl hT S
    rwa [Int.toNat_of_nonneg (by omega), Int.toNat_of_nonneg h.1] at this
  · exact holds_bad root leaf n i a np c w (by omega)
theorem rholds_all : Calls Tryd.prog 31 #[sumV root, .int .i64 n, .int .i64 i, sumV leaf, .slice a np c] w fun e w' => e = .returned (.bool (holdsOf root n i leaf p)) ∧ Below w.heap.size w w' := by
  unfold holdsOf
  split
  · next h =>
    have := rholds_any root leaf n.toNat i.toNat a np c p w (by omega) (by omega) hnp hr hl hT S
    rwa [Int.toNat_of_nonneg (by omega), Int.toNat_of_nonneg h.1] at this
  · exact rholds_bad root leaf n i a np c w (by omega)
theorem extends_all : Calls Tryd.prog 32 #[.int .i64 i, sumV leaf, .int .i64 n, sumV root, .slice a np c] w fun e w' => e = .returned (.bool (extendsOf i leaf n root p)) ∧ Below w.heap.size w w' := by
  unfold extendsOf
  split
  · next h =>
    have := extends_any root leaf i.toNat n.toNat a np c p w (by omega) (by omega) (by omega) hnp hr hl hT S
    rwa [Int.toNat_of_nonneg (by omega), Int.toNat_of_nonneg (by omega)] at this
  · exact extends_bad root leaf i n a np c w (by omega)
theorem rextends_all : Calls Tryd.prog 33 #[.int .i64 i, sumV leaf, .int .i64 n, sumV root, .slice a np c] w fun e w' => e = .returned (.bool (extendsOf i leaf n root p)) ∧ Below w.heap.size w w' := by
  unfold extendsOf
  split
  · next h =>
    have := rextends_any root leaf i.toNat n.toNat a np c p w (by omega) (by omega) (by omega) hnp hr hl hT S
    rwa [Int.toNat_of_nonneg (by omega), Int.toNat_of_nonneg (by omega)] at this
  · exact rextends_bad root leaf i n a np c w (by omega)
end
theorem range_mid {w : World} {b : Nat} {cs : Array Value} {t : TypeId} {fr : Nat × Nat} (h : w.heap[b]? = some (.cells cs t fr)) (pre mid post : List Value) (hcs : cs = (pre ++ (mid ++ post)).toArray) (k : Nat) (hk : k = pre.length) : w.rangeAt b k mid := by
  subst hcs hk
  intro j v hv
  rw [cell_of_row _ _ _ _ _ _ h]
  have hj := (List.getElem?_eq_some_iff.1 hv).1
  simp only [List.getElem?_toArray]
  rw [List.getElem?_append_right (by omega), List.getElem?_append_left (by omega)]
  rw [show pre.length + j - pre.length = j by omega]
  exact hv
/-- A claim's cells. -/
def claimRow (root old : List UInt8) (n i : Int) (leaf : List UInt8) (a : Option Addr) (np c : Nat) : Array Value := (root.map V8 ++ (old.map V8 ++ ([Value.int .i64 n, Value.int .i64 i] ++ (leaf.map V8 ++ [Value.slice a np c])))).toArray
structure ClaimAt (w : World) (g : Nat) (root old : List UInt8) (n i : Int) (leaf : List UInt8) (a : Option Addr) (np c : Nat) : Prop where
  root : w.rangeAt g 0 (root.map V8)
  old : w.rangeAt g 32 (old.map V8)
  n : w.cell? ⟨g, 64, none⟩ = some (.int .i64 n)
  i : w.cell? ⟨g, 65, none⟩ = some (.int .i64 i)
  leaf : w.rangeAt g 66 (leaf.map V8)
  proof : w.cell? ⟨g, 98, none⟩ = some (.slice a np c)
theorem ClaimAt.of {w : World} {g : Nat} {root old leaf : List UInt8} {n i : Int} {a : Option Addr} {np c : Nat} {t : TypeId} {fr : Nat × Nat} (hr : root.length = 32) (ho : old.length = 32) (hl : leaf.length = 32) (h : w.heap[g]? = some (.cells (claimRow root old n i leaf a np c) t fr)) : ClaimAt w g root old n i leaf a np c := by
  unfold claimRow at h
  refine ⟨?_, ?_, ?_, ?_, ?_, ?_⟩
  · exact range_mid h [] (root.map V8) _ rfl 0 rfl
  · exact range_mid h (root.map V8) (old.map V8) _ rfl 32 (by simp [hr])
  · have := range_mid h (root.map V8 ++ old.map V8) [Value.int .i64 n, Value.int .i64 i] (leaf.map V8 ++ [Value.slice a np c]) (by simp) 64 (by simp [hr, ho])
    exact this 0 _ rfl
  · have := range_mid h (root.map V8 ++ old.map V8) [Value.int .i64 n, Value.int .i64 i] (leaf.map V8 ++ [Value.slice a np c]) (by simp) 64 (by simp [hr, ho])
    exact this 1 _ rfl
  · exact range_mid h (root.map V8 ++ old.map V8 ++ [Value.int .i64 n, Value.int .i64 i]) (leaf.map V8) [Value.slice a np c] (by simp) 66 (by simp [hr, ho])
  · have := range_mid h (root.map V8 ++ old.map V8 ++ [Value.int .i64 n, Value.int .i64 i] ++ leaf.map V8) [Value.slice a np c] [] (by simp) 98 (by simp [hr, ho, hl])
    exact this 0 _ rfl
theorem ClaimAt.low {w w' : World} {g : Nat} {root old leaf : List UInt8} {n i : Int} {a : Option Addr} {np c : Nat} (h : ClaimAt w g root old n i leaf a np c) (hl : Low w w') : ClaimAt w' g root old n i leaf a np c :=
  ⟨range_low h.root hl, range_low h.old hl, (hl.cell (p := ⟨g, 64, none⟩) (World.block_lt_of_cell? w _ h.n)).trans h.n, (hl.cell (p := ⟨g, 65, none⟩) (World.block_lt_of_cell? w _ h.i)).trans h.i, range_low h.leaf hl, (hl.cell (p := ⟨g, 98, none⟩) (World.block_lt_of_cell? w _ h.proof)).trans h.proof⟩
theorem run_eql_bools (w : World) (p q : Operand) (b : Bool) : (binS .eql 4 p q (.bool b) (.bool b)).run Tryd.prog w = .ok (.bool true) w := by cases b <;> kernel_rfl
theorem run_load_int (w : World) (b o : Nat) (n : Int) (h : w.cell? ⟨b, o, none⟩ = some (.int .i64 n)) : (Instr.loadAt 3 (.pointer (some ⟨b, o, none⟩))).run Tryd.prog w = .ok (.int .i64 n) w := by
  go_simp
theorem run_load_sl (w : World) (b o : Nat) (a : Option Addr) (np c : Nat) (h : w.cell? ⟨b, o, none⟩ = some (.slice a np c)) : (Instr.loadAt 31 (.pointer (some ⟨b, o, none⟩))).run Tryd.prog w = .ok (.slice a np c) w := by
  go_simp

set_option maxRecDepth 100000 in
set_option maxHeartbeats 8000000 in
theorem cc_law (root old leaf : List UInt8) (n i : Int) (a : Option Addr) (np c : Nat) (p : List (List UInt8)) (w : World) (hn : n < 9223372036854775808) (hr : root.length = 32) (ho : old.length = 32) (hl : leaf.length = 32) (hT : Tabs w) (S : Sums w a np c p) :
    Calls Tryd.prog 7 #[.agg (claimRow root old n i leaf a np c)] w fun e w' => e = .returned (.bool true) ∧ Below w.heap.size w w' := by
  have HRR := Lib.hid hr
  have HOO := Lib.hid ho
  have HLL := Lib.hid hl
  have HS := Lib.hid S
  obtain ⟨cs, hcs⟩ : ∃ cs, cs = claimRow root old n i leaf a np c := ⟨_, rfl⟩
  have HC0 := Lib.hid (show ClaimAt (w.alloc (.cells cs 46)) w.heap.size root old n i leaf a np c from ClaimAt.of hr ho hl (by rw [hcs]; exact blk1 _ _))
  rw [← hcs]
  clear hcs S hr ho hl
  have hc98 := HC0.out.proof
  by_cases hbig : 200 < np
  · have hbig2 : (200 : Int) < (np : Int) := by omega
    go_enter Tryd.func7, Tryd.ntmps7
    go_wp2
    go_ret
    exact ⟨rfl, low1 _ _⟩
  · have hbig2 : ¬ (200 : Int) < (np : Int) := by omega
    have HL1 := Lib.hid (low1 w (.cells cs 46))
    go_enter Tryd.func7, Tryd.ntmps7
    go_wp2_with fail
    go_at_call 18
    refine (own_any p a np c _ (HS.out.below HL1.out) (by omega)).mono ?_
    rintro e w2 ⟨B2, C2, rfl, hA⟩
    have HA2 := Lib.hid hA
    have hfull := (hA.sums (own_each p HS.out.each)).take np (by omega)
    rw [List.take_append_of_le_length (by have := HS.out.len; omega), List.take_of_length_le (by have := HS.out.len; omega)] at hfull
    have HF := Lib.hid hfull
    have HC := Lib.hid (HC0.out.low hA.low)
    have HT2 := Lib.hid (hT.below (bthen HL1.out hA.low))
    have HS2 := Lib.hid ((HS.out.below HL1.out).below hA.low)
    have HB2 := Lib.hid (bthen HL1.out hA.low)
    obtain ⟨g, hg⟩ : ∃ g, g = w.heap.size := ⟨_, rfl⟩
    rw [← hg] at HC ⊢
    have hnp : np < 4611686018427387904 := by omega
    obtain ⟨hb, hhb⟩ : ∃ b, b = holdsOf root n i leaf p := ⟨_, rfl⟩
    obtain ⟨eb, heb⟩ : ∃ b, b = extendsOf i old n root p := ⟨_, rfl⟩
    have hcall1 := Lib.hid fun wr hR => holds_all root leaf n i B2 np C2 p wr hn hnp HRR.out HLL.out (HT2.out.below hR) (HF.out.below hR)
    have hcall2 := Lib.hid fun wr hR => rholds_all root leaf n i a np c p wr hn hnp HRR.out HLL.out (HT2.out.below hR) (HS2.out.below hR)
    have hcall3 := Lib.hid fun wr hR => extends_all root old n i B2 np C2 p wr hn hnp HRR.out HOO.out (HT2.out.below hR) (HF.out.below hR)
    have hcall4 := Lib.hid fun wr hR => rextends_all root old n i a np c p wr hn hnp HRR.out HOO.out (HT2.out.below hR) (HS2.out.below hR)
    rw [← hhb] at hcall1 hcall2
    rw [← heb] at hcall3 hcall4
    clear hA hfull HC0 hc98 hg hhb heb HL1
    go_wp2_with fail
    refine wp_region_reg 21 64 (Low) (by kernel_rfl) (by kernel_rfl) (by kernel_rfl) (by kernel_rfl) (by kernel_rfl) (Low.refl) (Low.trans) [.is (.pointer (some ⟨g, 0, none⟩) : Value), .is (sumV root), .is (.pointer (some ⟨g, 64, none⟩) : Value), .is (.int .i64 n : Value), .is (.pointer (some ⟨g, 65, none⟩) : Value), .is (.int .i64 i : Value), .is (.pointer (some ⟨g, 66, none⟩) : Value), .is (sumV leaf), .is (.slice B2 np C2 : Value), .is (.bool hb : Value), .is (.pointer (some ⟨g, 0, none⟩) : Value), .is (sumV root), .is (.pointer (some ⟨g, 64, none⟩) : Value), .is (.int .i64 n : Value), .is (.pointer (some ⟨g, 65, none⟩) : Value), .is (.int .i64 i : Value), .is (.pointer (some ⟨g, 66, none⟩) : Value), .is (sumV leaf), .is (.pointer (some ⟨g, 98, none⟩) : Value), .is (.slice a np c : Value), .is (.bool hb : Value)] rfl (fun vs => ?_) (fun vs wr hR h => ?_)
    · refine RegHead.cons (fun wr hR h => ?_) ?_
      · exact relAt.pure (Low.refl) (by kernel_rfl) (by kernel_rfl)
      refine RegHead.cons (fun wr hR h => ?_) ?_
      · exact relAt.pureS (Low.refl) (by kernel_rfl) (by kernel_rfl) (run_load_at_sum wr g 0 root (HC.out.low (bthen (Low.drew _) hR)).root HRR.out)
      refine RegHead.cons (fun wr hR h => ?_) ?_
      · exact relAt.pure (Low.refl) (by kernel_rfl) (by kernel_rfl)
      refine RegHead.cons (fun wr hR h => ?_) ?_
      · exact relAt.pureS (Low.refl) (by kernel_rfl) (by kernel_rfl) (run_load_int wr g 64 n (HC.out.low (bthen (Low.drew _) hR)).n)
      refine RegHead.cons (fun wr hR h => ?_) ?_
      · exact relAt.pure (Low.refl) (by kernel_rfl) (by kernel_rfl)
      refine RegHead.cons (fun wr hR h => ?_) ?_
      · exact relAt.pureS (Low.refl) (by kernel_rfl) (by kernel_rfl) (run_load_int wr g 65 i (HC.out.low (bthen (Low.drew _) hR)).i)
      refine RegHead.cons (fun wr hR h => ?_) ?_
      · exact relAt.pure (Low.refl) (by kernel_rfl) (by kernel_rfl)
      refine RegHead.cons (fun wr hR h => ?_) ?_
      · exact relAt.pureS (Low.refl) (by kernel_rfl) (by kernel_rfl) (run_load_at_sum wr g 66 leaf (HC.out.low (bthen (Low.drew _) hR)).leaf HLL.out)
      refine RegHead.cons (fun wr hR h => ?_) ?_
      · exact relAt.pure (Low.refl) (by kernel_rfl) (by kernel_rfl)
      refine RegHead.cons (fun wr hR h => ?_) ?_
      · refine relAt.call (by kernel_rfl) (by kernel_rfl) ((hcall1.out wr (bthen (Low.drew _) hR)).mono ?_)
        rintro e w6 ⟨rfl, hB6⟩
        exact ⟨_, rfl, hB6, rfl⟩
      refine RegHead.cons (fun wr hR h => ?_) ?_
      · exact relAt.pure (Low.refl) (by kernel_rfl) (by kernel_rfl)
      refine RegHead.cons (fun wr hR h => ?_) ?_
      · exact relAt.pureS (Low.refl) (by kernel_rfl) (by kernel_rfl) (run_load_at_sum wr g 0 root (HC.out.low (bthen (Low.drew _) hR)).root HRR.out)
      refine RegHead.cons (fun wr hR h => ?_) ?_
      · exact relAt.pure (Low.refl) (by kernel_rfl) (by kernel_rfl)
      refine RegHead.cons (fun wr hR h => ?_) ?_
      · exact relAt.pureS (Low.refl) (by kernel_rfl) (by kernel_rfl) (run_load_int wr g 64 n (HC.out.low (bthen (Low.drew _) hR)).n)
      refine RegHead.cons (fun wr hR h => ?_) ?_
      · exact relAt.pure (Low.refl) (by kernel_rfl) (by kernel_rfl)
      refine RegHead.cons (fun wr hR h => ?_) ?_
      · exact relAt.pureS (Low.refl) (by kernel_rfl) (by kernel_rfl) (run_load_int wr g 65 i (HC.out.low (bthen (Low.drew _) hR)).i)
      refine RegHead.cons (fun wr hR h => ?_) ?_
      · exact relAt.pure (Low.refl) (by kernel_rfl) (by kernel_rfl)
      refine RegHead.cons (fun wr hR h => ?_) ?_
      · exact relAt.pureS (Low.refl) (by kernel_rfl) (by kernel_rfl) (run_load_at_sum wr g 66 leaf (HC.out.low (bthen (Low.drew _) hR)).leaf HLL.out)
      refine RegHead.cons (fun wr hR h => ?_) ?_
      · exact relAt.pure (Low.refl) (by kernel_rfl) (by kernel_rfl)
      refine RegHead.cons (fun wr hR h => ?_) ?_
      · exact relAt.pureS (Low.refl) (by kernel_rfl) (by kernel_rfl) (run_load_sl wr g 98 a np c (HC.out.low (bthen (Low.drew _) hR)).proof)
      refine RegHead.cons (fun wr hR h => ?_) ?_
      · refine relAt.call (by kernel_rfl) (by kernel_rfl) ((hcall2.out wr (bthen (Low.drew _) hR)).mono ?_)
        rintro e w6 ⟨rfl, hB6⟩
        exact ⟨_, rfl, hB6, rfl⟩
      exact trivial
    · rename World => w3
      have HR3 := Lib.hid (show Low w2 w3 from bthen (Low.drew _) hR)
      clear h hR
      refine wp_frame (new := [(.pointer (some ⟨g, 0, none⟩) : Value), (sumV root), (.pointer (some ⟨g, 64, none⟩) : Value), (.int .i64 n : Value), (.pointer (some ⟨g, 65, none⟩) : Value), (.int .i64 i : Value), (.pointer (some ⟨g, 66, none⟩) : Value), (sumV leaf), (.slice B2 np C2 : Value), (.bool hb : Value), (.pointer (some ⟨g, 0, none⟩) : Value), (sumV root), (.pointer (some ⟨g, 64, none⟩) : Value), (.int .i64 n : Value), (.pointer (some ⟨g, 65, none⟩) : Value), (.int .i64 i : Value), (.pointer (some ⟨g, 66, none⟩) : Value), (sumV leaf), (.pointer (some ⟨g, 98, none⟩) : Value), (.slice a np c : Value), (.bool hb : Value)]) 11 32 (by kernel_rfl) ?_
      simp only [List.take, List.drop, List.cons_append, List.nil_append]
      cases hb
      all_goals
        go_wp2
        refine wp_region_reg 31 64 (Low) (by kernel_rfl) (by kernel_rfl) (by kernel_rfl) (by kernel_rfl) (by kernel_rfl) (Low.refl) (Low.trans) [.is (.pointer (some ⟨g, 65, none⟩) : Value), .is (.int .i64 i : Value), .is (.pointer (some ⟨g, 32, none⟩) : Value), .is (sumV old), .is (.pointer (some ⟨g, 64, none⟩) : Value), .is (.int .i64 n : Value), .is (.pointer (some ⟨g, 0, none⟩) : Value), .is (sumV root), .is (.slice B2 np C2 : Value), .is (.bool eb : Value), .is (.pointer (some ⟨g, 65, none⟩) : Value), .is (.int .i64 i : Value), .is (.pointer (some ⟨g, 32, none⟩) : Value), .is (sumV old), .is (.pointer (some ⟨g, 64, none⟩) : Value), .is (.int .i64 n : Value), .is (.pointer (some ⟨g, 0, none⟩) : Value), .is (sumV root), .is (.pointer (some ⟨g, 98, none⟩) : Value), .is (.slice a np c : Value), .is (.bool eb : Value), .is (.bool true : Value), .is (.bool true : Value), .is (.slice B2 np C2 : Value), .is (.pointer (some ⟨g, 98, none⟩) : Value), .is (.slice a np c : Value), .is (.bool true : Value), .is (.bool true : Value), .is (.bool true : Value), .is (.bool true : Value), .is (.bool true : Value)] rfl (fun vs => ?_) (fun vs wr hR h => ?_)
        · refine RegHead.cons (fun wr hR h => ?_) ?_
          · exact relAt.pure (Low.refl) (by kernel_rfl) (by kernel_rfl)
          refine RegHead.cons (fun wr hR h => ?_) ?_
          · exact relAt.pureS (Low.refl) (by kernel_rfl) (by kernel_rfl) (run_load_int wr g 65 i (HC.out.low (bthen HR3.out (bthen (Low.drew _) hR))).i)
          refine RegHead.cons (fun wr hR h => ?_) ?_
          · exact relAt.pure (Low.refl) (by kernel_rfl) (by kernel_rfl)
          refine RegHead.cons (fun wr hR h => ?_) ?_
          · exact relAt.pureS (Low.refl) (by kernel_rfl) (by kernel_rfl) (run_load_at_sum wr g 32 old (HC.out.low (bthen HR3.out (bthen (Low.drew _) hR))).old HOO.out)
          refine RegHead.cons (fun wr hR h => ?_) ?_
          · exact relAt.pure (Low.refl) (by kernel_rfl) (by kernel_rfl)
          refine RegHead.cons (fun wr hR h => ?_) ?_
          · exact relAt.pureS (Low.refl) (by kernel_rfl) (by kernel_rfl) (run_load_int wr g 64 n (HC.out.low (bthen HR3.out (bthen (Low.drew _) hR))).n)
          refine RegHead.cons (fun wr hR h => ?_) ?_
          · exact relAt.pure (Low.refl) (by kernel_rfl) (by kernel_rfl)
          refine RegHead.cons (fun wr hR h => ?_) ?_
          · exact relAt.pureS (Low.refl) (by kernel_rfl) (by kernel_rfl) (run_load_at_sum wr g 0 root (HC.out.low (bthen HR3.out (bthen (Low.drew _) hR))).root HRR.out)
          refine RegHead.cons (fun wr hR h => ?_) ?_
          · exact relAt.pure (Low.refl) (by kernel_rfl) (by kernel_rfl)
          refine RegHead.cons (fun wr hR h => ?_) ?_
          · refine relAt.call (by kernel_rfl) (by kernel_rfl) ((hcall3.out wr (bthen HR3.out (bthen (Low.drew _) hR))).mono ?_)
            rintro e w6 ⟨rfl, hB6⟩
            exact ⟨_, rfl, hB6, rfl⟩
          refine RegHead.cons (fun wr hR h => ?_) ?_
          · exact relAt.pure (Low.refl) (by kernel_rfl) (by kernel_rfl)
          refine RegHead.cons (fun wr hR h => ?_) ?_
          · exact relAt.pureS (Low.refl) (by kernel_rfl) (by kernel_rfl) (run_load_int wr g 65 i (HC.out.low (bthen HR3.out (bthen (Low.drew _) hR))).i)
          refine RegHead.cons (fun wr hR h => ?_) ?_
          · exact relAt.pure (Low.refl) (by kernel_rfl) (by kernel_rfl)
          refine RegHead.cons (fun wr hR h => ?_) ?_
          · exact relAt.pureS (Low.refl) (by kernel_rfl) (by kernel_rfl) (run_load_at_sum wr g 32 old (HC.out.low (bthen HR3.out (bthen (Low.drew _) hR))).old HOO.out)
          refine RegHead.cons (fun wr hR h => ?_) ?_
          · exact relAt.pure (Low.refl) (by kernel_rfl) (by kernel_rfl)
          refine RegHead.cons (fun wr hR h => ?_) ?_
          · exact relAt.pureS (Low.refl) (by kernel_rfl) (by kernel_rfl) (run_load_int wr g 64 n (HC.out.low (bthen HR3.out (bthen (Low.drew _) hR))).n)
          refine RegHead.cons (fun wr hR h => ?_) ?_
          · exact relAt.pure (Low.refl) (by kernel_rfl) (by kernel_rfl)
          refine RegHead.cons (fun wr hR h => ?_) ?_
          · exact relAt.pureS (Low.refl) (by kernel_rfl) (by kernel_rfl) (run_load_at_sum wr g 0 root (HC.out.low (bthen HR3.out (bthen (Low.drew _) hR))).root HRR.out)
          refine RegHead.cons (fun wr hR h => ?_) ?_
          · exact relAt.pure (Low.refl) (by kernel_rfl) (by kernel_rfl)
          refine RegHead.cons (fun wr hR h => ?_) ?_
          · exact relAt.pureS (Low.refl) (by kernel_rfl) (by kernel_rfl) (run_load_sl wr g 98 a np c (HC.out.low (bthen HR3.out (bthen (Low.drew _) hR))).proof)
          refine RegHead.cons (fun wr hR h => ?_) ?_
          · refine relAt.call (by kernel_rfl) (by kernel_rfl) ((hcall4.out wr (bthen HR3.out (bthen (Low.drew _) hR))).mono ?_)
            rintro e w6 ⟨rfl, hB6⟩
            exact ⟨_, rfl, hB6, rfl⟩
          refine RegHead.cons (fun wr hR h => ?_) ?_
          · exact relAt.pureS (Low.refl) (by kernel_rfl) (by kernel_rfl) (run_eql_bools wr (.tmp 42) (.tmp 53) eb)
          refine RegHead.cons (fun wr hR h => ?_) ?_
          · exact relAt.pure (Low.refl) (by kernel_rfl) (by kernel_rfl)
          refine RegHead.cons (fun wr hR h => ?_) ?_
          · exact relAt.pure (Low.refl) (by kernel_rfl) (by kernel_rfl)
          refine RegHead.cons (fun wr hR h => ?_) ?_
          · exact relAt.pure (Low.refl) (by kernel_rfl) (by kernel_rfl)
          refine RegHead.cons (fun wr hR h => ?_) ?_
          · exact relAt.pureS (Low.refl) (by kernel_rfl) (by kernel_rfl) (run_load_sl wr g 98 a np c (HC.out.low (bthen HR3.out (bthen (Low.drew _) hR))).proof)
          refine RegHead.cons (fun wr hR h => ?_) ?_
          · refine relAt.call (by kernel_rfl) (by kernel_rfl) ((kept_any p B2 a np C2 c wr ((HA2.out.below (bthen HR3.out (bthen (Low.drew _) hR))).sums (own_each p HS.out.each)) (HS2.out.below (bthen HR3.out (bthen (Low.drew _) hR))) (by omega)).mono ?_)
            rintro e w6 ⟨rfl, hB6⟩
            exact ⟨_, rfl, hB6, rfl⟩
          refine RegHead.cons (fun wr hR h => ?_) ?_
          · exact relAt.pure (Low.refl) (by kernel_rfl) (by kernel_rfl)
          refine RegHead.cons (fun wr hR h => ?_) ?_
          · exact relAt.pure (Low.refl) (by kernel_rfl) (by kernel_rfl)
          refine RegHead.cons (fun wr hR h => ?_) ?_
          · refine relAt.call (by kernel_rfl) (by kernel_rfl) ((live_any wr (HT2.out.below (bthen HR3.out (bthen (Low.drew _) hR)))).mono ?_)
            rintro e w6 ⟨rfl, hB6⟩
            exact ⟨_, rfl, hB6, rfl⟩
          refine RegHead.cons (fun wr hR h => ?_) ?_
          · exact relAt.pure (Low.refl) (by kernel_rfl) (by kernel_rfl)
          exact trivial
        · have HR4 := Lib.hid (bthen HB2.out (bthen HR3.out (bthen (Low.drew _) hR)))
          clear h hR
          refine wp_frame (new := [(.pointer (some ⟨g, 65, none⟩) : Value), (.int .i64 i : Value), (.pointer (some ⟨g, 32, none⟩) : Value), (sumV old), (.pointer (some ⟨g, 64, none⟩) : Value), (.int .i64 n : Value), (.pointer (some ⟨g, 0, none⟩) : Value), (sumV root), (.slice B2 np C2 : Value), (.bool eb : Value), (.pointer (some ⟨g, 65, none⟩) : Value), (.int .i64 i : Value), (.pointer (some ⟨g, 32, none⟩) : Value), (sumV old), (.pointer (some ⟨g, 64, none⟩) : Value), (.int .i64 n : Value), (.pointer (some ⟨g, 0, none⟩) : Value), (sumV root), (.pointer (some ⟨g, 98, none⟩) : Value), (.slice a np c : Value), (.bool eb : Value), (.bool true : Value), (.bool true : Value), (.slice B2 np C2 : Value), (.pointer (some ⟨g, 98, none⟩) : Value), (.slice a np c : Value), (.bool true : Value), (.bool true : Value), (.bool true : Value), (.bool true : Value), (.bool true : Value)]) 33 64 (by kernel_rfl) ?_
          simp only [List.take, List.drop, List.cons_append, List.nil_append]
          go_wp2
          go_ret
          exact ⟨rfl, HR4.out⟩
end Go.Proofs.YtpdhgijeanbmcaaDoor

/- Door4 -/
namespace Go.Proofs.YtpdhgijeanbmcaaDoor
open Go.ChangeShapes Go.WideShapes Go.ChangeAt Go.RowKit

theorem cellsInt : Tryd.prog.cellsOf 3 = 1 := by kernel_rfl
theorem cellsSums : Tryd.prog.cellsOf 31 = 1 := by kernel_rfl
theorem cellsClaim : Tryd.prog.cellsOf 46 = 99 := by kernel_rfl
section
variable {H : Type} {enc : TypeId × Value → H}
set_option maxRecDepth 100000 in
theorem open_claim {W : World} {base : Nat} {v : Value} {d : DataW H} {p : List MemPlace} (hval : Value.okWide Tryd.prog W .any base 46 v) (h : DataW.Trod enc Tryd.prog W 0 (fun _ => true) true 46 v d p) :
    ∃ root old n i leaf a np c L, v = .agg (claimRow root old n i leaf a np c) ∧ root.length = 32 ∧ old.length = 32 ∧ leaf.length = 32 ∧ n < 9223372036854775808 ∧ Sums W a np c L := by
  obtain ⟨cs, rfl, hsz⟩ := okWide_struct Tryd.underlying46 hval
  obtain ⟨fuel, hf⟩ := h
  obtain ⟨xs, m, _, _, hl, hxl, hi⟩ := DataW.trod_struct Tryd.underlying46 hf
  have hcl : (Value.agg cs).cells.toList = cs.toList := rfl
  rw [hcl] at hl hi
  obtain ⟨L, hL⟩ : ∃ L, L = cs.toList := ⟨_, rfl⟩
  rw [← hL] at hl hi
  rw [cellsClaim] at hl
  have hx : ∀ j, j < 6 → ∃ y, xs[j]? = some y := fun j hj => ⟨xs[j]'(by rw [hxl]; exact hj), List.getElem?_eq_getElem _⟩
  have f0 : DataW.trod enc Tryd.prog W 0 (fun _ => true) true m 29 ((L.drop 0).take (Tryd.prog.cellsOf 29)) = xs[0]? := hi 0 _ rfl
  have f1 : DataW.trod enc Tryd.prog W 0 (fun _ => true) true m 29 ((L.drop 32).take (Tryd.prog.cellsOf 29)) = xs[1]? := hi 1 _ rfl
  have f2 : DataW.trod enc Tryd.prog W 0 (fun _ => true) true m 3 ((L.drop 64).take (Tryd.prog.cellsOf 3)) = xs[2]? := hi 2 _ rfl
  have f3 : DataW.trod enc Tryd.prog W 0 (fun _ => true) true m 3 ((L.drop 65).take (Tryd.prog.cellsOf 3)) = xs[3]? := hi 3 _ rfl
  have f4 : DataW.trod enc Tryd.prog W 0 (fun _ => true) true m 29 ((L.drop 66).take (Tryd.prog.cellsOf 29)) = xs[4]? := hi 4 _ rfl
  have f5 : DataW.trod enc Tryd.prog W 0 (fun _ => true) true m 31 ((L.drop 98).take (Tryd.prog.cellsOf 31)) = xs[5]? := hi 5 _ rfl
  obtain ⟨y0, e0⟩ := hx 0 (by omega)
  obtain ⟨y1, e1⟩ := hx 1 (by omega)
  obtain ⟨y2, e2⟩ := hx 2 (by omega)
  obtain ⟨y3, e3⟩ := hx 3 (by omega)
  obtain ⟨y4, e4⟩ := hx 4 (by omega)
  obtain ⟨y5, e5⟩ := hx 5 (by omega)
  rw [e0] at f0
  rw [e1] at f1
  rw [e2] at f2
  rw [e3] at f3
  rw [e4] at f4
  rw [e5] at f5
  rw [cellsSum] at f0 f1 f4
  rw [cellsInt] at f2 f3
  rw [cellsSums] at f5
  obtain ⟨root, hr, g0⟩ := trod_sum f0
  obtain ⟨old, ho, g1⟩ := trod_sum f1
  obtain ⟨n, g2, _, hw⟩ := DataW.trod_int Tryd.underlying3 f2
  obtain ⟨i, g3, _, _⟩ := DataW.trod_int Tryd.underlying3 f3
  obtain ⟨leaf, hlf, g4⟩ := trod_sum f4
  have g5 : ∃ a np c, (L.drop 98).take 1 = [Value.slice a np c] := by
    rcases Deep.open_slice Tryd.underlying31 f5 with ⟨h1, _⟩ | ⟨a, len, cap, _, _, _, _, h1, _⟩
    · exact ⟨_, _, _, h1⟩
    · exact ⟨_, _, _, h1⟩
  obtain ⟨a, np, c, g5⟩ := g5
  rw [g5] at f5
  have hn : n < 9223372036854775808 := by
    simp only [Lit.wf, Bool.and_eq_true, decide_eq_true_eq] at hw
    have h1 : n ≤ IntKind.i64.max := hw.2
    have h2 : IntKind.i64.max = 9223372036854775807 := by decide
    omega
  have hcut : ∀ s k, L.drop s = (L.drop s).take k ++ L.drop (s + k) := fun s k => by
    rw [← List.drop_drop, List.take_append_drop]
  have hrow : L = root.map V8 ++ (old.map V8 ++ ([Value.int .i64 n, Value.int .i64 i] ++ (leaf.map V8 ++ [Value.slice a np c]))) := by
    have h0 : L = L.drop 0 := rfl
    rw [h0, hcut 0 32, g0, hcut 32 32, g1, hcut 64 1, g2, hcut 65 1, g3, hcut 66 32, g4, hcut 98 1, g5, List.drop_of_length_le (by omega)]
    simp
  have hcs : cs = claimRow root old n i leaf a np c := by
    unfold claimRow
    rw [← hrow, hL]
  have hslice : cs[98]? = some (Value.slice a np c) := by
    have h1 : L[98]? = some (Value.slice a np c) := by
      have h2 := congrArg (fun l => l[0]?) g5
      simpa using h2
    rw [hL] at h1
    simpa using h1
  have hhas : ∀ ad, a = some ad → W.has Tryd.prog .any 0 ad 29 c := fun ad had => by
    subst had
    have h1 : ∃ cs', Value.agg cs = .agg cs' ∧ cs'.size = Tryd.prog.cellsOf 46 ∧ Row.okWide Tryd.prog W .any base 46 cs' := by
      simpa only [Value.okWide, Tryd.underlying46] using hval
    obtain ⟨cs', hce, _, ts, hts, _, hc⟩ := h1
    obtain rfl := Value.agg.inj hce
    have ht : (Tryd.prog.cellTypes Tryd.prog.depth 46).bind (fun ts => ts[98 % ts.length]?) = some 31 := by kernel_rfl
    rw [hts] at ht
    obtain ⟨u, hu, hok⟩ := hc 98 _ hslice
    have htu : u = 31 := Option.some.inj (hu.symm.trans ht)
    subst htu
    simp only [Cell.okWide, Tryd.underlying31, Cell.ok] at hok
    exact hok.2.2
  obtain ⟨M, hM⟩ := open_sums_of hhas f5
  exact ⟨root, old, n, i, leaf, a, np, c, M, by rw [hcs], hr, ho, hlf, hn, hM⟩
end
end Go.Proofs.YtpdhgijeanbmcaaDoor

/- CcCard -/
namespace Go.Proofs.YtpdhgijeanbmcaaDoor.chainClaims
open Go.ChangeShapes Go.WideShapes Go.ChangeAt Go.RowKit

theorem contract (H : Type) (enc : TypeId × Value → H) (W : World) (base : Nat) (args : Array Value) (ds gs : List (DataW H)) (before : List MemPlace)
    (hval : ∀ (j : Nat) t v, Tryd.f7.params[j]? = some t → args[j]? = some v → Value.okWide Tryd.prog W .any base t v)
    (hW : DataW.Whole enc Tryd.prog Tryd.f7.params.toList Rows.chainClaimsSpec.vars false W args.toList ds gs before) (hL : laidMetH Tryd.prog laidL W) :
    Calls Tryd.prog 7 args W fun e W' => ∃ v, e = .returned v ∧ Rows.chainClaimsSpec.post enc Tryd.prog Tryd.f7 false true false false W args v W' := by
  have hW' := hW
  obtain ⟨p, q, hA0, hV, rfl, hfz, hnd⟩ := hW
  have hA : DataW.TrodAll enc Tryd.prog W 0 (fun _ => true) true Tryd.f7.params.toList args.toList ds p := hA0
  rw [Tryd.params7] at hA hval
  obtain ⟨v0, vs0, d0, ds0, p0, q0, hargs0, rfl, rfl, h0, r0⟩ := trodAll_cons hA
  obtain ⟨rfl, rfl, rfl⟩ := trodAll_nil r0
  obtain rfl : args = #[v0] := by cases args; simp_all
  obtain ⟨rfl, rfl⟩ := trodVars_none hV
  obtain ⟨root, old, n, i, leaf, a, np, c, P, rfl, hr, ho, hlf, hn, SP⟩ := open_claim (hval 0 46 v0 rfl rfl) h0
  refine (cc_law root old leaf n i a np c P W hn hr ho hlf (tabs_of_laid hL) SP).mono fun e W' ⟨he, hB⟩ => ?_
  subst he
  exact ⟨_, rfl, post_law rfl hW' rfl rfl rfl (by kernel_rfl) hB (fun t ht => by
    have h : t ∈ [46] := ht
    simp only [List.mem_cons, List.not_mem_nil, or_false] at h
    rcases h with rfl <;> exact ⟨by kernel_rfl, of_decide_eq_true (by kernel_rfl)⟩)⟩

def z32 : List Value := List.replicate 32 (Value.int .u8 0)
def claim0 : Value := .agg (z32 ++ z32 ++ [Value.int .i64 0, Value.int .i64 0] ++ z32 ++ [Value.slice none 0 0]).toArray
def d32 {H : Type} : DataW H := .agg (List.replicate 32 (.lit (.int .u8 0)))
def claimd {H : Type} : DataW H := .agg [d32, d32, .lit (.int .i64 0), .lit (.int .i64 0), d32, .nil]
theorem reads (os : Os) {H : Type} (enc : TypeId × Value → H) : ∃ places, DataW.whole enc Tryd.prog ((laidWorld os).forCall (fun _ _ => 0) ⟨#[], (#[claim0] : Array Value), []⟩).memory Tryd.f7.params.toList Rows.chainClaimsSpec.vars false (#[claim0] : Array Value).toList 8 = some ([claimd], [], places) :=
  ⟨[], by kernel_rfl⟩

set_option maxRecDepth 100000 in
theorem lifted (os : Os) (started : os.Started) (H : Type) (enc : TypeId × Value → H) (F : Stop.Interp) :
    ReturnsInHanded {} Tryd.checked os 7 .any ((OpenSpec.ofChange Rows.chainClaimsSpec).preRow enc Tryd.prog Tryd.f7 Rows.chainClaimsRow.domain false Rows.chainClaimsRow.laid) (((OpenSpec.ofChange Rows.chainClaimsSpec).at F).post enc Tryd.prog Tryd.f7 false true false false) := by
  obtain ⟨places, hx⟩ := reads os enc
  refine returnsInHanded_of_row (C := Tryd.checked) (s := OpenSpec.ofChange Rows.chainClaimsSpec) own started (by kernel_rfl) Tryd.func7
    (witness_row_at (enc := enc) (C := Tryd.checked) false (laidWorld os) #[claim0] rfl (by kernel_rfl) (by kernel_rfl) (by kernel_rfl)
      (OpenSpec.preRow_of_cond 8 hx (by kernel_rfl) (fun k hk => by cases hk) (by kernel_rfl) (laid_met os _))) ?_
  intro W base args ds gs before hval hW _ _ _ hL _ _
  exact contract H enc W base args ds gs before hval hW hL

theorem said : Rows.ChainClaimsSaid :=
  OpenClaim.holds_of_cond 7 Tryd.f7 rfl rfl rfl rfl rfl rfl rfl ⟨rfl, rfl, rfl, rfl, rfl⟩ rfl rfl rfl rfl rfl (by kernel_rfl) Tryd.func7 (by kernel_rfl)
    (of_decide_eq_true (by kernel_rfl)) (by unfold Func.isWrapper; first | (rw [if_pos (by decide +kernel)]; kernel_rfl) | (rw [if_neg (by decide +kernel)]; exact ⟨rfl, rfl⟩))
    (fun os started H enc _ F => by rw [OpenClaim.pre_eq_preRow]; exact lifted os started H enc F)

theorem plain (f : FuncId) (fn : Func) (hf : Tryd.pinned.checked.prog.funcNamed "wicket/wicketlaw25.ChainClaims" = some f) (hfn : Tryd.pinned.checked.prog.funcs[f]? = some fn) :
    false = Tryd.pinned.checked.prog.looks [] ∧ ∀ (j : Nat) t, fn.params[j]? = some t → Tryd.pinned.checked.prog.wantsStandIn t = false := by
  obtain rfl : f = 7 := Option.some.inj ((show Tryd.prog.funcNamed "wicket/wicketlaw25.ChainClaims" = some 7 by kernel_rfl).symm.trans hf) |>.symm
  obtain rfl : fn = Tryd.f7 := (Option.some.inj (Tryd.func7.symm.trans hfn)).symm
  refine ⟨by kernel_rfl, fun j t ht => ?_⟩
  rw [Tryd.params7] at ht
  have hm := Array.mem_of_getElem? ht
  simp only [List.mem_toArray, List.mem_cons, List.not_mem_nil, or_false] at hm
  rcases hm with rfl
  · exact (show Tryd.prog.wantsStandIn 46 = false by kernel_rfl)

/-- THE CARD. -/
theorem card : Rows.ChainClaimsCardSaid :=
  Claim7.holds_tied_plain_at .later [] _ _ _ _ said (fun _ h => by cases h) (by kernel_rfl) (fun _ h => by cases h) chainClaims_row_tie rfl ⟨rfl, rfl⟩ (by kernel_rfl) rfl plain (by kernel_rfl)
end Go.Proofs.YtpdhgijeanbmcaaDoor.chainClaims
