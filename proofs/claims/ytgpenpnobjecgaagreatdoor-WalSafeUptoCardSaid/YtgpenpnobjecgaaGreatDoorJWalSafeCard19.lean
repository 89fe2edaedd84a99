/- disk.List. -/
import Derived.Test.YtgpenpnobjecgaaGreatDoorShelf
import Derived.Test.YtgpenpnobjecgaaGreatDoorJWalSafeCard12
import Derived.Test.YtgpenpnobjecgaaGreatDoorJWalSafeCard18
/- WMake -/
namespace Go.Proofs.YtgpenpnobjecgaaGreatDoor
set_option maxRecDepth 100000
open Go.RowKit Dk

/-- Tables that lie ahead of what turns. -/
structure Home (w0 w : World) (F : Nat → Prop) : Prop where
  tabs : Tabs6 w0
  low : Below w0.heap.size w0 w
  foot : ∀ b, F b → w0.heap.size ≤ b
section
variable {w0 w w' : World} {F F' : Nat → Prop}
theorem Home.tab (h : Home w0 w F) : Tabs6 w := h.tabs.low h.low
theorem Home.next (h : Home w0 w F) (hb : Below w.heap.size w w') : Home w0 w' F := ⟨h.tabs, bthen h.low hb, h.foot⟩
theorem Home.kept (h : Home w0 w F) (hk : Kept F w w') : Below w0.heap.size w0 w' :=
  ((Kept.of_below (F := F) h.low).then hk).below fun b hlt hf => by have := h.foot b hf; omega
theorem Home.turned (h : Home w0 w F) (t : Turned F F' w w') : Home w0 w' F' :=
  ⟨h.tabs, h.kept t.kept, fun b hb => by
    rcases Nat.lt_or_ge b w.heap.size with hl | hl
    · exact h.foot b (t.foot b hl hb)
    · exact Nat.le_trans h.low.size hl⟩
theorem Turned.out (t : Turned F F' w w') {b : Nat} (hb : ¬ F b) (hl : b < w.heap.size) : ¬ F' b := fun h => hb (t.foot b hl h)
end
/-- One step more, where nothing refused. -/
def next (r : DiskS × Nat) (f : DiskS → DiskS × Nat) : DiskS × Nat := if r.2 = 0 then f r.1 else r
def tempW : Bs := [116, 101, 109, 112]
/-- wal.make1. -/
def make1W (d : DiskS) (n : Nat) (b : Bs) : DiskS × Nat :=
  if free d < b.length then (d, 5) else
  next (next (next (next (create d tempW) (append · tempW b)) (sync · tempW)) (rename · tempW (nameW n))) syncDir
/-- A disk turned, or a panic. -/
def MPost (w : World) (g : Nat) (own : Nat → Option DTag) (r : DiskS × Nat) (e : Ending) (w' : World) : Prop :=
  e = (if r.2 = 0 then .returned (.tuple #[]) else stopped r.2) ∧ Ok r.1 ∧ ∃ recs' own', DAt w' g r.1 recs' own' ∧ Turned (foot own) (foot own') w w'
set_option maxRecDepth 100000 in
set_option maxHeartbeats 1000000 in
theorem wmake_any {w0 w : World} {g : Nat} {d : DiskS} {recs : List Nat} {own : Nat → Option DTag} (hd : DAt w g d recs own) (hO : Ok d) (hH : Home w0 w (foot own)) (n : Nat) (hn : n < 9223372036854775808) (b : Bs) (A : Option Addr) (C : Nat) (X : Txt w A b.length C b) (hb : b.length ≤ 4611686018427387904) (hbf : ∀ ad, A = some ad → ¬ foot own ad.block) :
    Calls Tryz.prog 61 #[ptrV g, .int .i64 n, .slice A b.length C] w (MPost w g own (make1W d n b)) := by
  have hfr := Lib.hid (free_any hd hO)
  have HH := Lib.hid hH
  have HX := Lib.hid X
  have HD := Lib.hid hd
  have HO := Lib.hid hO
  by_cases hf : free d < b.length
  · have hr := Lib.hid (show make1W d n b = (d, 5) by unfold make1W; rw [if_pos hf])
    have hf' : (free d : Int) < b.length := by omega
    clear hd hO hH X hbf hf
    unfold ptrV at *
    go_enter Tryz.func61, Tryz.ntmps61
    go_wp2_with fail
    go_at_call 65
    refine hfr.out.mono ?_
    rintro e w1 ⟨rfl, hb1⟩
    have HB1 := Lib.hid hb1
    clear hb1
    go_wp2_with (go_at_call 57; refine (must_stops 5 (by decide) w1).mono ?_; rintro e w2 ⟨rfl, hw2⟩)
    refine ⟨rfl, ?_⟩
    subst hw2
    rw [hr.out]
    exact ⟨rfl, HO.out, recs, own, HD.out.below HB1.out, .below HB1.out⟩
  · have hf' : ¬ (free d : Int) < b.length := by omega
    have Hr := Lib.hid (show make1W d n b = next (next (next (next (create d tempW) (append · tempW b)) (sync · tempW)) (rename · tempW (nameW n))) syncDir by unfold make1W; rw [if_neg hf])
    have HF := Lib.hid hbf
    have HXP := Lib.hid X.src.plain
    clear hd hO hH X hbf hf
    unfold ptrV at hfr
    unfold ptrV
    go_enter Tryz.func61, Tryz.ntmps61
    go_wp2_with fail
    go_at_call 65
    refine hfr.out.mono ?_
    rintro e w1 ⟨rfl, hb1⟩
    have HB1 := Lib.hid hb1
    clear hb1 hfr
    -- STEPS
    have hd1 := HD.out.below HB1.out
    have ht1 : Turned (foot own) (foot own) w w1 := .below HB1.out
    have HD1 := Lib.hid hd1
    have HT1 := Lib.hid ht1
    have HO1 := Lib.hid HO.out
    clear hd1 ht1
    go_wp2_with fail
    go_at_call 98
    refine (create_any HD1.out HO1.out tempW (by decide)).mono ?_
    rintro e w2 ⟨rfl, hO, recs2, own2, hd, ht⟩
    generalize hr : create d tempW = r at hO hd ⊢
    obtain ⟨d2, q2⟩ := r
    simp only [] at hO hd ⊢
    have HO2 := Lib.hid hO
    have HD2 := Lib.hid hd
    have HT2 := Lib.hid (HT1.out.trans ht)
    have Hr2 : Hid (make1W d n b = next (next (next (next (d2, q2) (append · tempW b)) (sync · tempW)) (rename · tempW (nameW n))) syncDir) := Lib.hid (by rw [Hr.out, hr])
    clear hO hd ht hr
    by_cases hq : q2 ≠ 0
    · have hw := Lib.hid (show make1W d n b = (d2, q2) by rw [Hr2.out]; simp [next, hq])
      go_wp2_with (go_at_call 57; refine (must_stops q2 hq w2).mono ?_; rintro e w9 ⟨rfl, hw9⟩)
      refine ⟨rfl, ?_⟩
      subst hw9
      rw [hw.out]
      exact ⟨by rw [if_neg hq]; rfl, HO2.out, recs2, own2, HD2.out, HT2.out⟩
    obtain rfl : q2 = 0 := by omega
    clear hq
    simp only [Int.natCast_zero]
    go_wp2_with (go_at_call 57; refine (must_ok w2).mono ?_; rintro e w9 ⟨rfl, hw9⟩; subst hw9)
    go_wp2_with fail
    go_at_call 71
    refine (append_any HD2.out HO2.out tempW b (by decide) A C (HX.out.kept HT2.out.kept (fun ad had _ => HF.out ad had)) hb (fun ad had => HT2.out.out (HF.out ad had) (by obtain ⟨_, _, e, hl⟩ := HXP.out ad had; rw [e]; exact hl))).mono ?_
    rintro e w3 ⟨rfl, hO, recs3, own3, hd, ht⟩
    generalize hr : append d2 tempW b = r at hO hd ⊢
    obtain ⟨d3, q3⟩ := r
    simp only [] at hO hd ⊢
    have HO3 := Lib.hid hO
    have HD3 := Lib.hid hd
    have HT3 := Lib.hid (HT2.out.trans ht)
    have Hr3 : Hid (make1W d n b = next (next (next (d3, q3) (sync · tempW)) (rename · tempW (nameW n))) syncDir) := Lib.hid (by rw [Hr2.out, ← hr]; rfl)
    clear hO hd ht hr
    by_cases hq : q3 ≠ 0
    · have hw := Lib.hid (show make1W d n b = (d3, q3) by rw [Hr3.out]; simp [next, hq])
      go_wp2_with (go_at_call 57; refine (must_stops q3 hq w3).mono ?_; rintro e w9 ⟨rfl, hw9⟩)
      refine ⟨rfl, ?_⟩
      subst hw9
      rw [hw.out]
      exact ⟨by rw [if_neg hq]; rfl, HO3.out, recs3, own3, HD3.out, HT3.out⟩
    obtain rfl : q3 = 0 := by omega
    clear hq
    simp only [Int.natCast_zero]
    go_wp2_with (go_at_call 57; refine (must_ok w3).mono ?_; rintro e w9 ⟨rfl, hw9⟩; subst hw9)
    go_wp2_with fail
    go_at_call 63
    refine (sync_any HD3.out HO3.out tempW (by decide)).mono ?_
    rintro e w4 ⟨rfl, hO, recs4, own4, hd, ht⟩
    generalize hr : sync d3 tempW = r at hO hd ⊢
    obtain ⟨d4, q4⟩ := r
    simp only [] at hO hd ⊢
    have HO4 := Lib.hid hO
    have HD4 := Lib.hid hd
    have HT4 := Lib.hid (HT3.out.trans ht)
    have Hr4 : Hid (make1W d n b = next (next (d4, q4) (rename · tempW (nameW n))) syncDir) := Lib.hid (by rw [Hr3.out, ← hr]; rfl)
    clear hO hd ht hr
    by_cases hq : q4 ≠ 0
    · have hw := Lib.hid (show make1W d n b = (d4, q4) by rw [Hr4.out]; simp [next, hq])
      go_wp2_with (go_at_call 57; refine (must_stops q4 hq w4).mono ?_; rintro e w9 ⟨rfl, hw9⟩)
      refine ⟨rfl, ?_⟩
      subst hw9
      rw [hw.out]
      exact ⟨by rw [if_neg hq]; rfl, HO4.out, recs4, own4, HD4.out, HT4.out⟩
    obtain rfl : q4 = 0 := by omega
    clear hq
    simp only [Int.natCast_zero]
    go_wp2_with (go_at_call 57; refine (must_ok w4).mono ?_; rintro e w9 ⟨rfl, hw9⟩; subst hw9)
    go_wp2_with fail
    go_at_call 64
    refine (wname_any n hn w4 (HH.out.turned HT4.out).tab).mono ?_
    rintro e w5 ⟨rfl, hb5⟩
    have HD5 := Lib.hid (HD4.out.below hb5)
    have HT5 := Lib.hid (HT4.out.trans (.below hb5))
    clear hb5
    go_wp2_with fail
    go_at_call 99
    refine (rename_any HD5.out HO4.out tempW (nameW n) (by decide) (by have := nameW_len n hn; unfold maxLen; omega)).mono ?_
    rintro e w6 ⟨rfl, hO, recs6, own6, hd, ht⟩
    generalize hr : rename d4 tempW (nameW n) = r at hO hd ⊢
    obtain ⟨d6, q6⟩ := r
    simp only [] at hO hd ⊢
    have HO6 := Lib.hid hO
    have HD6 := Lib.hid hd
    have HT6 := Lib.hid (HT5.out.trans ht)
    have Hr6 : Hid (make1W d n b = next (d6, q6) syncDir) := Lib.hid (by rw [Hr4.out, ← hr]; rfl)
    clear hO hd ht hr
    by_cases hq : q6 ≠ 0
    · have hw := Lib.hid (show make1W d n b = (d6, q6) by rw [Hr6.out]; simp [next, hq])
      go_wp2_with (go_at_call 57; refine (must_stops q6 hq w6).mono ?_; rintro e w9 ⟨rfl, hw9⟩)
      refine ⟨rfl, ?_⟩
      subst hw9
      rw [hw.out]
      exact ⟨by rw [if_neg hq]; rfl, HO6.out, recs6, own6, HD6.out, HT6.out⟩
    obtain rfl : q6 = 0 := by omega
    clear hq
    simp only [Int.natCast_zero]
    go_wp2_with (go_at_call 57; refine (must_ok w6).mono ?_; rintro e w9 ⟨rfl, hw9⟩; subst hw9)
    go_wp2_with fail
    go_at_call 45
    refine (syncdir_any HD6.out HO6.out).mono ?_
    rintro e w7 ⟨rfl, hO, recs7, own7, hd, ht⟩
    generalize hr : syncDir d6 = r at hO hd ⊢
    obtain ⟨d7, q7⟩ := r
    simp only [] at hO hd ⊢
    have HO7 := Lib.hid hO
    have HD7 := Lib.hid hd
    have HT7 := Lib.hid (HT6.out.trans ht)
    have Hr7 : Hid (make1W d n b = (d7, q7)) := Lib.hid (by rw [Hr6.out, ← hr]; rfl)
    clear hO hd ht hr
    by_cases hq : q7 ≠ 0
    · have hw := Lib.hid (show make1W d n b = (d7, q7) by rw [Hr7.out])
      go_wp2_with (go_at_call 57; refine (must_stops q7 hq w7).mono ?_; rintro e w9 ⟨rfl, hw9⟩)
      refine ⟨rfl, ?_⟩
      subst hw9
      rw [hw.out]
      exact ⟨by rw [if_neg hq]; rfl, HO7.out, recs7, own7, HD7.out, HT7.out⟩
    obtain rfl : q7 = 0 := by omega
    clear hq
    simp only [Int.natCast_zero]
    go_wp2_with (go_at_call 57; refine (must_ok w7).mono ?_; rintro e w9 ⟨rfl, hw9⟩; subst hw9)
    go_end0
    rw [Hr7.out]
    exact ⟨rfl, HO7.out, recs7, own7, HD7.out, HT7.out⟩
end Go.Proofs.YtgpenpnobjecgaaGreatDoor

/- DList -/
namespace Go.Proofs.YtgpenpnobjecgaaGreatDoor
set_option maxRecDepth 100000
open Go.RowKit Go.Maps Go.Sort Go.Shelf Dk

/-- New texts. -/
def RetStrs (w : World) (l : List Bs) (e : Ending) (w' : World) : Prop := ∃ B C blk, e = .returned (.slice B l.length C) ∧ OwnR w' 9 1 B l.length C (l.map strV) blk ∧ (∀ b, blk = some b → w.heap.size ≤ b) ∧ Below w.heap.size w w'
theorem strKeys_dirD (l : Dir) : strKeys (dirD l) = l.map (·.1) := by
  simp [strKeys, dirD, dirE, strOf]
theorem before_lt : ∀ {a b : Bs}, bytesBefore a b = true → a < b
  | [], [], h => by simp [bytesBefore] at h
  | [], _ :: _, _ => List.nil_lt_cons _ _
  | _ :: _, [], h => by simp [bytesBefore] at h
  | x :: a, y :: b, h => by
    unfold bytesBefore at h
    simp only [Bool.or_eq_true, decide_eq_true_eq, Bool.and_eq_true, beq_iff_eq] at h
    rw [List.cons_lt_cons_iff]
    rcases h with h | ⟨h, h2⟩
    · exact .inl h
    · exact .inr ⟨h, before_lt h2⟩
theorem sorted_names {l : Dir} (h : Rising l) {ss : List Bs} (hp : ss.Perm (l.map (·.1))) : ss.mergeSort (fun x y => decide (x ≤ y)) = l.map (·.1) := by
  rw [mergeSort_of_perm hp]
  refine List.mergeSort_of_pairwise ?_
  rw [List.pairwise_map]
  exact h.imp fun hb => by simp only [leB, decide_eq_true_eq]; exact List.le_of_lt (before_lt hb)
/-- The names of a directory, rising. -/
theorem names_any {w : World} {b : Nat} {l : Dir} (h : DirAt w b l) (hr : Rising l) (hl : l.length ≤ 16777216) :
    Calls Tryz.prog 73 #[.func (.func 107) #[] #[.pointer (some ⟨w.heap.size, 0, none⟩)]] (w.alloc (.cells #[.map (some b)] 99)) fun e w' => RetStrs w (l.map (·.1)) e w' := by
  refine (callsIn_wide.1 (Tryz.sortedKeys_mapstringint b l.length (dirD l) _ w h (by rw [dirD_size]; unfold maxLen; omega) (by rw [dirD_size]; omega))).mono ?_
  rintro e w' ⟨v, ss, rfl, hp, hrow, _, hB⟩
  rw [strKeys_dirD] at hp
  rw [sorted_names hr hp, hp.length_eq] at hrow
  have key : ∃ B C, v = .slice B (l.map (·.1)).length C := by
    rcases hrow.2 with ⟨rfl, h0⟩ | ⟨g, cap, cur, rfl, _⟩
    · exact ⟨none, 0, by rw [h0]⟩
    · exact ⟨_, cap, rfl⟩
  obtain ⟨B, C, rfl⟩ := key
  refine ⟨B, C, B.map (·.block), rfl, .inl ⟨rfl, hrow.1, ?_⟩, fun x hx => ?_, bthen (low1 _ _) hB⟩
  · rcases hrow.2 with h1 | ⟨g, cap, cur, h1, h2, h3⟩
    · exact .inl h1
    · exact .inr ⟨g, cap, cur, h1, Nat.zero_le _, h3⟩
  · have := (World.ownsRow.lt hrow x (by rw [ownBlock_slice]; exact hx)).1
    simp at this
    omega
set_option maxRecDepth 100000 in
theorem list_any {w : World} {g : Nat} {d : DiskS} {recs : List Nat} {own : Nat → Option DTag} (hd : DAt w g d recs own) (hO : Ok d) : Calls Tryz.prog 94 #[ptrV g] w (RetStrs w (Dk.list d)) := by
  have c8 := DAtU.dead hd
  by_cases hdd : d.dead = true
  · have hr := Lib.hid (show Dk.list d = [] by unfold Dk.list; rw [if_pos hdd])
    rw [hdd] at c8
    clear hd hO hdd
    unfold ptrV
    go_enter Tryz.func94, Tryz.ntmps94
    go_wp2
    go_ret
    rw [hr.out]
    exact ⟨none, 0, none, rfl, OwnR.nil _ _ _, (fun b h => by cases h), Below.refl _ _⟩
  · have hdf : d.dead = false := by simpa using hdd
    have hr := Lib.hid (show Dk.list d = d.dir.map (·.1) by unfold Dk.list; rw [if_neg hdd])
    rw [hdf] at c8
    obtain ⟨fA, fC, fb, mb, sb, cA, cC, cb, M⟩ := hd
    have c3 : w.cell? ⟨g, 3, none⟩ = some (.map (some mb)) := cell_block M.row rfl
    have HN := Lib.hid (names_any M.dir hO.dirR (by have := hO.ndir; omega))
    have HK := Lib.hid (callsIn_wide.1 (Tryz.mapsKeys_mapstringint (some mb) w))
    clear M hO hdd hdf
    unfold ptrV
    go_enter Tryz.func94, Tryz.ntmps94
    go_wp2_with (first | (go_at_call 74; refine HK.out.mono ?_; rintro e w1 ⟨rfl, rfl⟩) | (go_at_call 73; refine HN.out.mono ?_; rintro e w2 ⟨B, C, blk, rfl, h1, h2, h3⟩; have H1 := Lib.hid h1; have H2 := Lib.hid h2; have H3 := Lib.hid h3; clear h1 h2 h3))
    go_ret
    rw [hr.out]
    exact ⟨B, C, blk, (by rw [List.length_map]; rfl), H1.out, H2.out, H3.out⟩
end Go.Proofs.YtgpenpnobjecgaaGreatDoor
