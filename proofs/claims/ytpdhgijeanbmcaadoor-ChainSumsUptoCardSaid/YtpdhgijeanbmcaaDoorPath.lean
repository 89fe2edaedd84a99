/- chain.Path, where the path has at most one sum. -/
import Derived.Test.YtpdhgijeanbmcaaDoorTree3
import Derived.Test.YtpdhgijeanbmcaaDoorRMac
import Derived.WalkMore
namespace Go.Proofs.YtpdhgijeanbmcaaDoor
open Go.RowKit Go.Great

set_option maxRecDepth 100000 in
set_option maxHeartbeats 400000 in
theorem rev_small (a : Option Addr) (n c : Nat) (w : World) (hn : n ≤ 1) : Calls Tryd.prog 47 #[.slice a n c] w fun e w' => e = .returned (.tuple #[]) ∧ w = w' := by
  have h1 : ¬ (0 : Int) < (n : Int) - 1 := by omega
  go_enter Tryd.func47, Tryd.ntmps47
  go_wp2
  go_loopw [2, 3] (fun i j wr => i = .int .i64 0 ∧ j = .int .i64 ((n : Int) - 1) ∧ w = wr) (fun _ _ _ => 0)
  case atStart => exact ⟨rfl, rfl, rfl⟩
  case round =>
    obtain ⟨rfl, rfl, rfl⟩ := hrel
    go_wp2
    go_end0
    exact ⟨rfl, rfl⟩

def lenOf : Value → Nat
  | .slice _ n _ => n
  | _ => 0
theorem lenOf_slice (a : Option Addr) (n c : Nat) : lenOf (.slice a n c) = n := rfl
/-- Where the descent stands: a part of the leaves, a place in it, and the path so far, last sum first. -/
structure PAt (w : World) (L : List (List UInt8)) (i : Nat) (wr : World) (L' : List (List UInt8)) (a : Option Addr) (n c i' : Nat) (B : Option Addr) (C : Nat) (M : List (List UInt8)) : Prop where
  sums : Sums w a n c L'
  lt : i' < n
  acc : Acc 29 32 w wr w.heap.size B C M.length (sumCells M)
  path : Tree.path L i = Tree.path L' i' ++ M.reverse
  room : M.length + n ≤ L.length
  each : ∀ x ∈ M, x.length = 32

set_option maxRecDepth 100000 in
set_option maxHeartbeats 2000000 in
theorem path_any (L : List (List UInt8)) (a : Option Addr) (n c i : Nat) (w : World) (hi : i < n) (hlen : n < 1099511627776) (hT : Tabs w) (S : Sums w a n c L) (hp1 : (Tree.path L i).length ≤ 1) :
    Calls Tryd.prog 24 #[.slice a n c, .int .i64 i] w (RetSE w (Tree.path L i) 0) := by
  obtain ⟨z0, hz0, hinfo⟩ := info_sum'
  have HI := Lib.hid hinfo
  have HZ0 := Lib.hid hz0
  have hs : PAt w L i w L a n c i none 0 [] := ⟨S, hi, Acc.start _ _ _ _ _ (Below.refl _ _) (Nat.le_refl _), by simp, by rw [S.len]; simp, fun _ h => by cases h⟩
  have HS := Lib.hid hs
  have hLn := S.len
  have HLn := Lib.hid hLn
  have Hp1 := Lib.hid hp1
  have h1 : ¬ (i : Int) < 0 := by omega
  have h2 : ¬ (n : Int) ≤ (i : Int) := by omega
  clear S hinfo hz0 hs hLn hp1
  go_enter Tryd.func24, Tryd.ntmps24
  go_wp2
  go_step3
  go_wp2
  go_step3
  go_wp2
  simp only [decide_eq_false (show ¬ (i : Int) < 0 by omega), decide_eq_false (show ¬ n ≤ i by omega), Bool.or_false]
  go_loopw [1, 6, 7, 8] (fun iv pv lv _ wr => ∃ (L' : List (List UInt8)) (a' : Option Addr) (n' c' i' : Nat) (B : Option Addr) (C : Nat) (M : List (List UInt8)), iv = .int .i64 i' ∧ pv = .slice B M.length C ∧ lv = .slice a' n' c' ∧ PAt w L i wr L' a' n' c' i' B C M) (fun _ _ lv _ _ => lenOf lv)
  case atStart => exact ⟨L, a, n, c, i, none, 0, [], rfl, rfl, rfl, HS.out⟩
  case round =>
    clear HS
    obtain ⟨L', a', n', c', i', B, C, M, rfl, rfl, rfl, hP⟩ := hrel
    have HP := Lib.hid hP
    clear hP
    by_cases hone : n' = 1
    · have hone2 : ((n' : Int) == 1) = true := by simp; omega
      have hone3 : (n' : Int) = 1 := by omega
      have hl' := HP.out.sums.len
      have hst := Tree.path_stop (l := L') (i := i') (by omega)
      have hpa := HP.out.path
      rw [hst, List.nil_append] at hpa
      have hM1 : M.length ≤ 1 := by have := Hp1.out; rw [hpa] at this; simpa using this
      have hrev : M.reverse = M := by
        match M, hM1 with
        | [], _ => rfl
        | [x], _ => rfl
      rw [hrev] at hpa
      have HPA := Lib.hid hpa
      clear hl' hst hpa hrev
      go_wp2_with (go_at_call 47; refine (rev_small B M.length C _ hM1).mono ?_; rintro e w1 ⟨rfl, rfl⟩)
      rw [Exit.noGoto_ret]
      go_ret2
      rw [HPA.out]
      exact ⟨B, C, rfl, HP.out.acc⟩
    · have hn1 : 1 < n' := by have := HP.out.lt; omega
      have hone2 : ((n' : Int) == 1) = false := by simp; omega
      have hone3 : ¬ (n' : Int) = 1 := by omega
      have hn63 : n' < 1099511627776 := by have := HP.out.room; have := HLn.out; omega
      have hkp := split_pos n'
      have hkl := split_lt hn1
      have hl' := HP.out.sums.len
      have hpl := @Tree.path_left L' i' (by omega)
      have hpr := @Tree.path_right L' i' (by omega)
      rw [← hl'] at hpl hpr
      have Hhalf := half_any n' (by omega)
      have hcap := HP.out.sums.cap
      generalize split n' = k at *
      have hMl : M.length + 1 ≤ 1099511627776 := by have := HP.out.room; have := HLn.out; omega
      have z1 : M.length + 1 ≤ maxLen := by unfold maxLen; omega
      have z2 : (M.length + 1) * 32 ≤ 140737488355328 := by omega
      have hlow := HP.out.acc.low
      have Hlow := Lib.hid hlow
      by_cases hik : i' < k
      · have hik2 : (i' : Int) < (k : Int) := by omega
        have hpp := hpl hik
        have hsl := Tree.root_len (L'.drop k) fun x hx => HP.out.sums.each x (List.mem_of_mem_drop hx)
        have hrt := root_any (L'.drop k) (a'.map (·.add (k * 32))) (n' - k) (c' - k) wr (by rw [List.length_drop]; omega) (hT.below hlow) ((HP.out.sums.rest k hkl).below hlow)
        obtain ⟨s, hse⟩ : ∃ s, s = Tree.root (L'.drop k) := ⟨_, rfl⟩
        rw [← hse] at hpp hsl hrt
        have Hrt := Lib.hid hrt
        have Hsl := Lib.hid hsl
        have Hpp := Lib.hid hpp
        have Hl' := Lib.hid hl'
        clear hpl hpr hpp hsl hrt hse hl' hlow
        go_wp2_with (first | (go_at_call 45; refine (Hhalf _).mono ?_; rintro e w1 ⟨rfl, rfl⟩) | (go_at_call 21; refine Hrt.out.mono ?_; rintro e w2 ⟨rfl, hB⟩; have HB := Lib.hid hB; clear hB) | (refine wpList_build_sum rfl _ rfl s rfl Hsl.out ?_) | (at_builtin; refine wpList_acc rfl _ _ 31 rfl 29 32 32 z0 Tryd.underlying31 HI.out HZ0.out (by decide) w w.heap.size B C M.length (sumCells M) rfl ((HP.out.acc.below HB.out).alloc _) (some ⟨w2.heap.size, 0, none⟩) 1 1 (s.map V8) rfl (by simp [Hsl.out]) (box_bytes (blk1 _ _)).cells (fun h => by cases h) (fun ad h => ⟨_, _, (Option.some.inj h).symm⟩) (ones' s) z1 z2 ?_; intro B2 D2 w3 hacc hg hnew; have HA := Lib.hid hacc; clear hacc hg hnew))
        go_roundw
        case rel =>
          refine ⟨L'.take k, a', k, c', i', B2, D2, M ++ [s], rfl, by simp, rfl, HP.out.sums.take k (by omega), hik, ?_, ?_, ?_, ?_⟩
          · have := HA.out
            rw [← sumCells_one s, ← sumCells_append] at this
            simpa using this
          · rw [HP.out.path, Hpp.out]; simp
          · have := HP.out.room; simp; omega
          · intro x hx
            rw [List.mem_append, List.mem_singleton] at hx
            rcases hx with hx | rfl
            · exact HP.out.each x hx
            · exact Hsl.out
        case measure => rw [lenOf_slice, lenOf_slice]; omega
      · have hik2 : ¬ (i' : Int) < (k : Int) := by omega
        have hpp := hpr hik
        have e0 : ((i' - k : Nat) : Int) = (i' : Int) - (k : Int) := by omega
        have hsl := Tree.root_len (L'.take k) fun x hx => HP.out.sums.each x (List.mem_of_mem_take hx)
        have hrt := root_any (L'.take k) a' k c' wr (by rw [List.length_take]; omega) (hT.below hlow) ((HP.out.sums.take k (by omega)).below hlow)
        obtain ⟨s, hse⟩ : ∃ s, s = Tree.root (L'.take k) := ⟨_, rfl⟩
        rw [← hse] at hpp hsl hrt
        have Hrt := Lib.hid hrt
        have Hsl := Lib.hid hsl
        have Hpp := Lib.hid hpp
        have Hl' := Lib.hid hl'
        have He0 := Lib.hid e0
        have hwr : wrap64 ((i' : Int) - (k : Int)) = (i' : Int) - (k : Int) := by have := HP.out.lt; unfold wrap64; omega
        clear hpl hpr hpp hsl hrt hse hl' hlow e0
        go_wp2_with (first | (go_at_call 45; refine (Hhalf _).mono ?_; rintro e w1 ⟨rfl, rfl⟩) | (go_at_call 21; refine Hrt.out.mono ?_; rintro e w2 ⟨rfl, hB⟩; have HB := Lib.hid hB; clear hB) | (refine wpList_build_sum rfl _ rfl s rfl Hsl.out ?_) | (at_builtin; refine wpList_acc rfl _ _ 31 rfl 29 32 32 z0 Tryd.underlying31 HI.out HZ0.out (by decide) w w.heap.size B C M.length (sumCells M) rfl ((HP.out.acc.below HB.out).alloc _) (some ⟨w2.heap.size, 0, none⟩) 1 1 (s.map V8) rfl (by simp [Hsl.out]) (box_bytes (blk1 _ _)).cells (fun h => by cases h) (fun ad h => ⟨_, _, (Option.some.inj h).symm⟩) (ones' s) z1 z2 ?_; intro B2 D2 w3 hacc hg hnew; have HA := Lib.hid hacc; clear hacc hg hnew))
        go_roundw
        case rel =>
          refine ⟨L'.drop k, a'.map (·.add (k * 32)), n' - k, c' - k, i' - k, B2, D2, M ++ [s], by rw [He0.out, hwr], by simp, rfl, HP.out.sums.rest k hkl, by have := HP.out.lt; omega, ?_, ?_, ?_, ?_⟩
          · have := HA.out
            rw [← sumCells_one s, ← sumCells_append] at this
            simpa using this
          · rw [HP.out.path, Hpp.out]; simp
          · have := HP.out.room; simp; omega
          · intro x hx
            rw [List.mem_append, List.mem_singleton] at hx
            rcases hx with hx | rfl
            · exact HP.out.each x hx
            · exact Hsl.out
        case measure => rw [lenOf_slice, lenOf_slice]; omega
end Go.Proofs.YtpdhgijeanbmcaaDoor
