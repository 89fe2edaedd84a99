/- The law SessionDerives answers true whatever its arguments. -/
import Derived.Test.YtpdhgijeanbmcaaDoorSd
import Derived.Deep.DeepCutAuto
namespace Go.Proofs.YtpdhgijeanbmcaaDoor
open Go.RowKit

set_option maxRecDepth 100000 in
set_option maxHeartbeats 4000000 in
theorem sd_law (p s : List UInt8) (pa sa : Option Addr) (pm pc sm sc : Nat) (r n : Int) (w : World) (hpm : pm = p.length) (hsm : sm = s.length) (hT : Tabs w) (SP : Src w pa pc p) (SS : Src w sa sc s) (hp : p.length < 1099511627775) (hs : s.length < 1099511627775) (hf : Fine r n) :
    Calls Tryd.prog 3 #[.slice pa pm pc, .slice sa sm sc, .int .i64 r, .int .i64 n] w fun e w' => e = .returned (.bool true) ∧ Below w.heap.size w w' := by
  have Hpm := Lib.hid hpm
  have Hsm := Lib.hid hsm
  have HSP := Lib.hid SP
  have HSS := Lib.hid SS
  have a1 := hf.r
  have a2 := hf.n
  have a3 : 300 < r → ¬ r ≤ 100000 := fun h1 h2 => a1 ⟨h1, h2⟩
  have a4 : 200 < n → ¬ n ≤ 1024 := fun h1 h2 => a2 ⟨h1, h2⟩
  have z1 : 0 + pm ≤ maxLen := by unfold maxLen; omega
  have z2 : (0 + pm) * 1 ≤ 140737488355328 := by omega
  have z3 : pm + 1 ≤ maxLen := by unfold maxLen; omega
  have z4 : (pm + 1) * 1 ≤ 140737488355328 := by omega
  have z5 : 0 + sm ≤ maxLen := by unfold maxLen; omega
  have z6 : (0 + sm) * 1 ≤ 140737488355328 := by omega
  have z7 : sm + 1 ≤ maxLen := by unfold maxLen; omega
  have z8 : (sm + 1) * 1 ≤ 140737488355328 := by omega
  have Hf := Lib.hid hf
  have Hp := Lib.hid hp
  have Hs := Lib.hid hs
  clear hpm hsm SP SS a1 a2 hf hp hs
  have hc1 : (300 < r ∧ ¬ r ≤ 100000) ∨ ¬ 300 < r := by by_cases h : 300 < r; exact .inl ⟨h, a3 h⟩; exact .inr h
  have hc2 : (200 < n ∧ ¬ n ≤ 1024) ∨ ¬ 200 < n := by by_cases h : 200 < n; exact .inl ⟨h, a4 h⟩; exact .inr h
  clear a3 a4
  go_enter Tryd.func3, Tryd.ntmps3
  go_upto_region 1 with fail
  go_cut [25] from 12 to 25 (fun c wx => c = .bool false ∧ w = wx)
  case first =>
    rcases hc1 with ⟨b1, b2⟩ | b1 <;> rcases hc2 with ⟨b3, b4⟩ | b3
    all_goals
      go_wp2
      go_meet
      exact ⟨rfl, rfl⟩
  case rest =>
    obtain ⟨rfl, rfl⟩ := hcut
    clear hc1 hc2
    go_wp2_with (first | (at_builtin; refine wpList_acc1 rfl _ _ 22 rfl 5 1 _ Tryd.underlying22 info_u8' rfl w2 w2.heap.size B3 D3 sm _ _ rfl HA3.out rfl rfl z7 z8 ?_; intro B4 D4 w4 hacc hg hnew; have HA4 := Lib.hid hacc; clear hacc hg hnew) | (at_builtin; refine wpList_acc rfl _ _ 22 rfl 5 1 1 _ Tryd.underlying22 info_u8' rfl (by decide) w2 w2.heap.size (some ⟨w2.heap.size, 0, none⟩) 0 0 [] rfl (Acc.lit' rfl #[] 0 (Below.refl _ _) (Nat.le_refl _) (by decide) rfl) sa sm sc (s.map V8) rfl (by simp [Hsm.out]) (HSS.out.below (bthen HA2.out.low (low1 _ _))).at_.cells HSS.out.nil HSS.out.od (ones' s) z5 z6 ?_; intro B3 D3 w3 hacc hg hnew; rw [List.nil_append, Nat.zero_add] at hacc; have HA3 := Lib.hid hacc; clear hacc hg hnew) | (at_builtin; refine wpList_acc1 rfl _ _ 22 rfl 5 1 _ Tryd.underlying22 info_u8' rfl w w.heap.size B1 D1 pm _ _ rfl HA1.out rfl rfl z3 z4 ?_; intro B2 D2 w2 hacc hg hnew; have HA2 := Lib.hid hacc; clear hacc hg hnew) | (at_builtin; refine wpList_acc rfl _ _ 22 rfl 5 1 1 _ Tryd.underlying22 info_u8' rfl (by decide) w w.heap.size (some ⟨w.heap.size, 0, none⟩) 0 0 [] rfl (Acc.lit' rfl #[] 0 (Below.refl _ _) (Nat.le_refl _) (by decide) rfl) pa pm pc (p.map V8) rfl (by simp [Hpm.out]) (HSP.out.below (low1 _ _)).at_.cells HSP.out.nil HSP.out.od (ones' p) z1 z2 ?_; intro B1 D1 w1 hacc hg hnew; rw [List.nil_append, Nat.zero_add] at hacc; have HA1 := Lib.hid hacc; clear hacc hg hnew))
    have hlow : Below w.heap.size w w4 := HA2.out.low.trans (HA4.out.low.mono HA2.out.base_le)
    have hs1 : Src w4 B2 D2 (p ++ [9]) := by
      have h := HA2.out.below HA4.out.low
      rw [show p.map V8 ++ [Value.int .u8 9] = (p ++ [9]).map V8 by simp; rfl] at h
      exact h.src
    have hs2 : Src w4 B4 D4 (s ++ [8]) := by
      have h := HA4.out
      rw [show s.map V8 ++ [Value.int .u8 8] = (s ++ [8]).map V8 by simp; rfl] at h
      exact h.src
    have hc2 : (pm : Int) ≤ (D2 : Int) := by have := HA2.out.cap; omega
    have hc4 : (sm : Int) ≤ (D4 : Int) := by have := HA4.out.cap; omega
    have hc2n : pm + 1 ≤ D2 := HA2.out.cap
    have hc4n : sm + 1 ≤ D4 := HA4.out.cap
    have S1 := Lib.hid hs1
    have S2 := Lib.hid hs2
    have HL := Lib.hid hlow
    clear hlow hs1 hs2 HA1 HA2 HA3 HA4 z1 z2 z3 z4 z5 z6 z7 z8
    refine wp_region_rel 10 Low (by kernel_rfl) (by kernel_rfl) Low.refl Low.trans [.is (.slice B2 (pm + 1) D2), .is (.slice pa pm pc), .is (.int .i64 pm), .is (.slice B2 pm D2), .is (.slice B4 (sm + 1) D4), .is (.slice sa sm sc), .is (.int .i64 sm), .is (.slice B4 sm D4), .is (.int .i64 r), .is (.int .i64 n)] rfl ?_
    refine .cons (fun wr hR h => ?_) fun v => .cons (fun wr hR h => ?_) fun v => .cons (fun wr hR h => ?_) fun v => .cons (fun wr hR h => ?_) fun v => .cons (fun wr hR h => ?_) fun v => .cons (fun wr hR h => ?_) fun v => .cons (fun wr hR h => ?_) fun v => .cons (fun wr hR h => ?_) fun v => .cons (fun wr hR h => ?_) fun v => .cons (fun wr hR h => ?_) fun v => .nil fun wr hR h => ?_
    all_goals try (
      (repeat (obtain ⟨rfl, h⟩ := h))
      unfold relOp
      go_wp2
      exact ⟨Low.refl _, rfl⟩)
    repeat (obtain ⟨rfl, h⟩ := h)
    have hR' := bthen (Low.drew w4) hR
    have hs1 := (S1.out.below hR').take pm
    have hs2 := (S2.out.below hR').take sm
    rw [List.take_append_of_le_length (by rw [Hpm.out]; exact Nat.le_refl _), List.take_of_length_le (by rw [Hpm.out]; exact Nat.le_refl _)] at hs1
    rw [List.take_append_of_le_length (by rw [Hsm.out]; exact Nat.le_refl _), List.take_of_length_le (by rw [Hsm.out]; exact Nat.le_refl _)] at hs2
    have T1 := Lib.hid hs1
    have T2 := Lib.hid hs2
    have HR := Lib.hid hR'
    clear hs1 hs2 hR' hR
    go_wp2_with (go_at_call 11; refine (derive_law p s B2 B4 pm D2 sm D4 r n wr Hpm.out Hsm.out (hT.below (bthen HL.out HR.out)) T1.out T2.out (Nat.lt_succ_of_lt Hp.out) (Nat.lt_succ_of_lt Hs.out) Hf.out).mono ?_; rintro e w5 ⟨Bg, mg, Cg, rfl, hacc⟩; have HG := Lib.hid hacc; clear hacc)
    obtain ⟨L, hL⟩ : ∃ L, L = pbk p s r n := ⟨_, rfl⟩
    rw [← hL] at HG
    have HLe := Lib.hid hL
    have hlow5 := bthen (bthen HL.out HR.out) HG.out.low
    have g1 := HG.out.src
    have g2 := (S1.out.below HR.out).below HG.out.low
    have g3 := (S2.out.below HR.out).below HG.out.low
    have g4 := HSP.out.below hlow5
    have g5 := HSS.out.below hlow5
    have gm := HG.out.len
    have Gm := Lib.hid gm
    have G1 := Lib.hid g1
    have G2 := Lib.hid g2
    have G3 := Lib.hid g3
    have G4 := Lib.hid g4
    have G5 := Lib.hid g5
    have HL5 := Lib.hid hlow5
    clear hL g1 g2 g3 g4 g5 gm hlow5 HG T1 T2 S1 S2 HL HR
    go_wp2
    refine wp_region_rel2 25 Low (by kernel_rfl) (by kernel_rfl) Low.refl Low.trans [.is (.slice Bg mg Cg), .is (.string ⟨L.toArray⟩), .is (.slice pa pm pc), .is (.slice sa sm sc), .is (.int .i64 r), .is (.int .i64 n), pText L, .is (.string ⟨L.toArray⟩), .is (.bool true), .is (.bool true), .is (.slice B2 (pm + 1) D2), .is (.string ⟨(p ++ [9]).toArray⟩), .is (.slice pa pm pc), .is (.string ⟨p.toArray⟩), .is (.string ⟨(p ++ [9]).toArray⟩), .is (.bool true), .is (.bool true), .is (.bool true), .is (.slice B4 (sm + 1) D4), .is (.string ⟨(s ++ [8]).toArray⟩), .is (.slice sa sm sc), .is (.string ⟨s.toArray⟩), .is (.string ⟨(s ++ [8]).toArray⟩), .is (.bool true), .is (.bool true)] rfl ?_
    refine RelHead2.cons ?_ ?_
    · intro wr hR h
      unfold relOp
      clear h
      go_wp2
      exact ⟨Low.refl _, rfl⟩
    intro v47
    refine RelHead2.cons ?_ ?_
    · intro wr hR h
      have e47 : v47 = (.slice Bg mg Cg : Value) := allOf_iff.1 h 0 (by decide)
      subst e47
      have hcv := conv_text Gm.out (G1.out.below (bthen (Low.drew _) hR))
      unfold relOp
      clear h
      go_wp2
      exact ⟨Low.refl _, rfl⟩
    intro v48
    refine RelHead2.cons ?_ ?_
    · intro wr hR h
      unfold relOp
      clear h
      go_wp2
      exact ⟨Low.refl _, rfl⟩
    intro v49
    refine RelHead2.cons ?_ ?_
    · intro wr hR h
      unfold relOp
      clear h
      go_wp2
      exact ⟨Low.refl _, rfl⟩
    intro v50
    refine RelHead2.cons ?_ ?_
    · intro wr hR h
      unfold relOp
      clear h
      go_wp2
      exact ⟨Low.refl _, rfl⟩
    intro v51
    refine RelHead2.cons ?_ ?_
    · intro wr hR h
      unfold relOp
      clear h
      go_wp2
      exact ⟨Low.refl _, rfl⟩
    intro v52
    refine RelHead2.cons ?_ ?_
    · intro wr hR h
      have e49 : v49 = (.slice pa pm pc : Value) := allOf_iff.1 h 2 (by decide)
      subst e49
      have e50 : v50 = (.slice sa sm sc : Value) := allOf_iff.1 h 3 (by decide)
      subst e50
      have e51 : v51 = (.int .i64 r : Value) := allOf_iff.1 h 4 (by decide)
      subst e51
      have e52 : v52 = (.int .i64 n : Value) := allOf_iff.1 h 5 (by decide)
      subst e52
      unfold relOp
      clear h
      go_wp2_with (go_at_call 12; refine (rderive_law p s pa sa pm pc sm sc r n wr Hpm.out Hsm.out (hT.below (bthen HL5.out (bthen (Low.drew _) hR))) (G4.out.below (bthen (Low.drew _) hR)) (G5.out.below (bthen (Low.drew _) hR)) (Nat.lt_succ_of_lt Hp.out) (Nat.lt_succ_of_lt Hs.out) Hf.out).mono ?_; rintro e w6 ⟨B6, m6, C6, rfl, hacc⟩; rw [← HLe.out] at hacc)
      exact ⟨hacc.low, _, _, _, rfl, hacc.len, hacc.src⟩
    intro v53
    refine RelHead2.cons ?_ ?_
    · intro wr hR h
      have e53 : (pText L).p v53 wr := allOf_iff.1 h 6 (by decide)
      obtain ⟨B6, m6, C6, rfl, hm6, hS6⟩ := e53
      have hcv := conv_text hm6 hS6
      clear hm6
      unfold relOp
      clear h
      go_wp2
      exact ⟨Low.refl _, rfl⟩
    intro v54
    refine RelHead2.cons ?_ ?_
    · intro wr hR h
      have e48 : v48 = (.string ⟨L.toArray⟩ : Value) := allOf_iff.1 h 1 (by decide)
      subst e48
      have e54 : v54 = (.string ⟨L.toArray⟩ : Value) := allOf_iff.1 h 7 (by decide)
      subst e54
      unfold relOp
      clear h
      go_wp2
      exact ⟨Low.refl _, rfl⟩
    intro v55
    refine RelHead2.cons ?_ ?_
    · intro wr hR h
      have e55 : v55 = (.bool true : Value) := allOf_iff.1 h 8 (by decide)
      subst e55
      unfold relOp
      clear h
      go_wp2
      exact ⟨Low.refl _, rfl⟩
    intro v56
    refine RelHead2.cons ?_ ?_
    · intro wr hR h
      have e56 : v56 = (.bool true : Value) := allOf_iff.1 h 9 (by decide)
      subst e56
      unfold relOp
      clear h
      go_wp2
      exact ⟨Low.refl _, rfl⟩
    intro v57
    refine RelHead2.cons ?_ ?_
    · intro wr hR h
      have e57 : v57 = (.slice B2 (pm + 1) D2 : Value) := allOf_iff.1 h 10 (by decide)
      subst e57
      have e56 : v56 = (.bool true : Value) := allOf_iff.1 h 9 (by decide)
      subst e56
      have hcv := conv_text (l := p ++ [9]) (m := pm + 1) (by simp [Hpm.out]) (G2.out.below (bthen (Low.drew _) hR))
      unfold relOp
      clear h
      go_wp2
      exact ⟨Low.refl _, rfl⟩
    intro v58
    refine RelHead2.cons ?_ ?_
    · intro wr hR h
      have e56 : v56 = (.bool true : Value) := allOf_iff.1 h 9 (by decide)
      subst e56
      unfold relOp
      clear h
      go_wp2
      exact ⟨Low.refl _, rfl⟩
    intro v59
    refine RelHead2.cons ?_ ?_
    · intro wr hR h
      have e59 : v59 = (.slice pa pm pc : Value) := allOf_iff.1 h 12 (by decide)
      subst e59
      have e56 : v56 = (.bool true : Value) := allOf_iff.1 h 9 (by decide)
      subst e56
      have hcv := conv_text Hpm.out (G4.out.below (bthen (Low.drew _) hR))
      unfold relOp
      clear h
      go_wp2
      exact ⟨Low.refl _, rfl⟩
    intro v60
    refine RelHead2.cons ?_ ?_
    · intro wr hR h
      have e60 : v60 = (.string ⟨p.toArray⟩ : Value) := allOf_iff.1 h 13 (by decide)
      subst e60
      have e56 : v56 = (.bool true : Value) := allOf_iff.1 h 9 (by decide)
      subst e56
      have hpl : ¬ 9223372036854775807 < p.length + 1 := by have := Hp.out; omega
      unfold relOp
      clear h
      go_wp2
      exact ⟨Low.refl _, congrArg Value.string (ByteArray.ext (by simp))⟩
    intro v61
    refine RelHead2.cons ?_ ?_
    · intro wr hR h
      have e58 : v58 = (.string ⟨(p ++ [9]).toArray⟩ : Value) := allOf_iff.1 h 11 (by decide)
      subst e58
      have e61 : v61 = (.string ⟨(p ++ [9]).toArray⟩ : Value) := allOf_iff.1 h 14 (by decide)
      subst e61
      have e56 : v56 = (.bool true : Value) := allOf_iff.1 h 9 (by decide)
      subst e56
      unfold relOp
      clear h
      go_wp2
      exact ⟨Low.refl _, rfl⟩
    intro v62
    refine RelHead2.cons ?_ ?_
    · intro wr hR h
      have e56 : v56 = (.bool true : Value) := allOf_iff.1 h 9 (by decide)
      subst e56
      have e62 : v62 = (.bool true : Value) := allOf_iff.1 h 15 (by decide)
      subst e62
      unfold relOp
      clear h
      go_wp2
      exact ⟨Low.refl _, rfl⟩
    intro v63
    refine RelHead2.cons ?_ ?_
    · intro wr hR h
      have e63 : v63 = (.bool true : Value) := allOf_iff.1 h 16 (by decide)
      subst e63
      unfold relOp
      clear h
      go_wp2
      exact ⟨Low.refl _, rfl⟩
    intro v64
    refine RelHead2.cons ?_ ?_
    · intro wr hR h
      have e64 : v64 = (.bool true : Value) := allOf_iff.1 h 17 (by decide)
      subst e64
      unfold relOp
      clear h
      go_wp2
      exact ⟨Low.refl _, rfl⟩
    intro v65
    refine RelHead2.cons ?_ ?_
    · intro wr hR h
      have e65 : v65 = (.slice B4 (sm + 1) D4 : Value) := allOf_iff.1 h 18 (by decide)
      subst e65
      have e64 : v64 = (.bool true : Value) := allOf_iff.1 h 17 (by decide)
      subst e64
      have hcv := conv_text (l := s ++ [8]) (m := sm + 1) (by simp [Hsm.out]) (G3.out.below (bthen (Low.drew _) hR))
      unfold relOp
      clear h
      go_wp2
      exact ⟨Low.refl _, rfl⟩
    intro v66
    refine RelHead2.cons ?_ ?_
    · intro wr hR h
      have e64 : v64 = (.bool true : Value) := allOf_iff.1 h 17 (by decide)
      subst e64
      unfold relOp
      clear h
      go_wp2
      exact ⟨Low.refl _, rfl⟩
    intro v67
    refine RelHead2.cons ?_ ?_
    · intro wr hR h
      have e67 : v67 = (.slice sa sm sc : Value) := allOf_iff.1 h 20 (by decide)
      subst e67
      have e64 : v64 = (.bool true : Value) := allOf_iff.1 h 17 (by decide)
      subst e64
      have hcv := conv_text Hsm.out (G5.out.below (bthen (Low.drew _) hR))
      unfold relOp
      clear h
      go_wp2
      exact ⟨Low.refl _, rfl⟩
    intro v68
    refine RelHead2.cons ?_ ?_
    · intro wr hR h
      have e68 : v68 = (.string ⟨s.toArray⟩ : Value) := allOf_iff.1 h 21 (by decide)
      subst e68
      have e64 : v64 = (.bool true : Value) := allOf_iff.1 h 17 (by decide)
      subst e64
      have hpl : ¬ 9223372036854775807 < s.length + 1 := by have := Hs.out; omega
      unfold relOp
      clear h
      go_wp2
      exact ⟨Low.refl _, congrArg Value.string (ByteArray.ext (by simp))⟩
    intro v69
    refine RelHead2.cons ?_ ?_
    · intro wr hR h
      have e66 : v66 = (.string ⟨(s ++ [8]).toArray⟩ : Value) := allOf_iff.1 h 19 (by decide)
      subst e66
      have e69 : v69 = (.string ⟨(s ++ [8]).toArray⟩ : Value) := allOf_iff.1 h 22 (by decide)
      subst e69
      have e64 : v64 = (.bool true : Value) := allOf_iff.1 h 17 (by decide)
      subst e64
      unfold relOp
      clear h
      go_wp2
      exact ⟨Low.refl _, rfl⟩
    intro v70
    refine RelHead2.cons ?_ ?_
    · intro wr hR h
      have e64 : v64 = (.bool true : Value) := allOf_iff.1 h 17 (by decide)
      subst e64
      have e70 : v70 = (.bool true : Value) := allOf_iff.1 h 23 (by decide)
      subst e70
      unfold relOp
      clear h
      go_wp2
      exact ⟨Low.refl _, rfl⟩
    intro v71
    refine RelHead2.nil fun wr hR h => ?_
    have e71 : v71 = (.bool true : Value) := allOf_iff.1 h 24 (by decide)
    subst e71
    have hlast := bthen HL5.out (bthen (Low.drew _) hR)
    clear h hR
    go_wp2
    go_ret
    exact ⟨rfl, hlast⟩
end Go.Proofs.YtpdhgijeanbmcaaDoor
