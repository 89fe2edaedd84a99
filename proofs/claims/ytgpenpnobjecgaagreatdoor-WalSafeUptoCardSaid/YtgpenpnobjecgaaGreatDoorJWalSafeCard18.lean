/- disk.Read, Free, Count, Arm, Dead. -/
import Derived.Test.YtgpenpnobjecgaaGreatDoorJWalSafeCard17
/- DCreate -/
namespace Go.Proofs.YtgpenpnobjecgaaGreatDoor
set_option maxRecDepth 100000
open Go.RowKit Go.Maps Dk

section
variable {w w' : World} {g : Nat} {d : DiskS} {u : Nat} {recs : List Nat} {own : Nat → Option DTag} {fA : Option Addr} {fC : Nat} {fb : Option Nat} {mb : Nat} {sb : Option Nat} {cA : Option Addr} {cC : Nat} {cb : Option Nat}
/-- The safe directory anew, no changes behind it. -/
theorem DMem.resafe (M : DMem w g d u recs own fA fC fb mb sb cA cC cb) (hB : Below w.heap.size w w') {nb : Nat} (hs : DirAt w' nb d.dir) (hn : w.heap.size ≤ nb) :
    DMem ((w'.setCell ⟨g, 4, none⟩ (.map (some nb))).setCell ⟨g, 5, none⟩ (.slice none 0 0)) g { d with safe := d.dir, chg := [] } u recs (grow own .safe (some nb)) fA fC fb mb (some nb) none 0 none := by
  have hk : Kept (· = g) w ((w'.setCell ⟨g, 4, none⟩ (.map (some nb))).setCell ⟨g, 5, none⟩ (.slice none 0 0)) := ((Kept.of_below (F := (· = g)) hB).setCell _ _ (.inl rfl)).setCell _ _ (.inl rfl)
  have hkg : Kept (· = g) w' ((w'.setCell ⟨g, 4, none⟩ (.map (some nb))).setCell ⟨g, 5, none⟩ (.slice none 0 0)) := ((Kept.refl (· = g) w').setCell _ _ (.inl rfl)).setCell _ _ (.inl rfl)
  have hne : ∀ {b t}, own b = some t → t ≠ .disk → ¬ b = g := fun h hn => ne_of_tag h M.tg hn
  have hgl := in_heap M.row
  have ho : ∀ b, b < w.heap.size → grow own .safe (some nb) b = own b := fun b hb => by unfold grow; rw [if_neg]; intro e; have := Option.some.inj e; omega
  have tg' : ∀ {b t}, own b = some t → grow own .safe (some nb) b = some t := fun {b t} h => by rw [ho b (M.lt b (by rw [h]; simp))]; exact h
  have hg' : w'.heap[g]? = _ := bblk hB M.row
  refine ⟨?_, M.files.kept hk fun b hb => hne (M.tf b hb) (by simp), fun i f hf => ?_, M.dir.kept hk (hne M.td (by simp)), fun b hb => (by obtain rfl := Option.some.inj hb; exact hs.kept hkg (by show ¬ nb = g; omega)), OwnR.nil _ _ _, fun b hb => ?_, tg' M.tg, M.tf.grown ho M.files.lt, tg' M.td, grow_tag _, fun b hb => by cases hb⟩
  · rw [setCell_one (setCell_one hg' _) _]; rfl
  · obtain ⟨r, A, C, blk, e1, e2⟩ := M.fil i f hf
    exact ⟨r, A, C, blk, e1, (e2.retag ho).kept hk (hne e2.tag (by simp)) fun b hb => hne (e2.btag b hb) (by simp)⟩
  · refine Nat.lt_of_lt_of_le ?_ hkg.size
    unfold grow at hb
    split at hb
    · next e => obtain rfl := Option.some.inj e; exact hs.lt
    · exact Nat.lt_of_lt_of_le (M.lt b hb) hB.size

set_option maxRecDepth 100000 in
set_option maxHeartbeats 1000000 in
theorem syncdir_any (hd : DAt w g d recs own) (hO : Ok d) : Calls Tryz.prog 45 #[ptrV g] w (DPost w g own (Dk.syncDir d)) := by
  have c8 := DAtU.dead hd
  have c6 := DAtU.ops hd
  have HD := Lib.hid hd
  have HO := Lib.hid hO
  by_cases hdd : d.dead = true
  · have hr := Lib.hid (show Dk.syncDir d = (d, 51) by unfold Dk.syncDir; rw [if_pos hdd])
    rw [hdd] at c8
    clear hd hO hdd c6
    unfold ptrV
    go_enter Tryz.func45, Tryz.ntmps45
    go_wp2
    go_ret
    rw [hr.out]
    exact DPost.same HD.out HO.out 51
  · have hdf : d.dead = false := by simpa using hdd
    rw [hdf] at c8
    by_cases ho : 1048576 ≤ d.ops
    · have hr := Lib.hid (show Dk.syncDir d = (d, 5) by unfold Dk.syncDir; rw [if_neg hdd, if_pos ho])
      have ho' : (1048576 : Int) ≤ d.ops := by omega
      clear hd hO hdd hdf ho
      unfold ptrV
      go_enter Tryz.func45, Tryz.ntmps45
      go_wp2
      go_ret
      rw [hr.out]
      exact DPost.same HD.out HO.out 5
    · have hr : Dk.syncDir d = op d fun d => { d with safe := d.dir, chg := [] } := by unfold Dk.syncDir; rw [if_neg hdd, if_neg ho]
      have ho' : decide ((1048576 : Int) ≤ d.ops) = false := by simp; omega
      have ho2 : d.ops < 1048576 := by omega
      have hgo := goes_any hd ho2 hO.armed
      unfold Went at hgo
      unfold ptrV at hgo
      have HGO := Lib.hid hgo
      have HO2 := Lib.hid ho2
      have HR := Lib.hid hr
      clear hd hO hdd hdf ho hr hgo ho2
      unfold ptrV
      go_enter Tryz.func45, Tryz.ntmps45
      go_wp2_with fail
      go_at_call 86
      refine HGO.out.mono ?_
      rintro e w2 ⟨hk2, ⟨ha, rfl, hd2⟩ | ⟨ha, rfl, hd2⟩⟩
      all_goals
        have HA := Lib.hid ha
        have HK2 := Lib.hid hk2
        have HD2 := Lib.hid hd2
        clear ha hk2 hd2
      · go_wp2
        go_ret
        rw [HR.out, op_gone HA.out]
        exact ⟨rfl, HO.out.gone, recs, own, HD2.out, ⟨HK2.out.mono fun b _ h => h ▸ HD.out.mine, fun _ _ => id⟩⟩
      · obtain ⟨fA, fC, fb, mb, sb, cA, cC, cb, M⟩ := HD2.out
        have c3 : w2.cell? ⟨g, 3, none⟩ = some (.map (some mb)) := cell_block M.row rfl
        have HM := Lib.hid M
        clear M
        go_wp2_with (go_at_call 52; refine (mclone_any HM.out.dir).mono ?_; rintro e w3 ⟨rfl, h1, h2⟩; have c43 : w3.cell? ⟨g, 4, none⟩ = some (.map (some sb)) := cell_block (bblk h2 HM.out.row) rfl; have c53 : w3.cell? ⟨g, 5, none⟩ = some (.slice cA d.chg.length cC) := cell_block (bblk h2 HM.out.row) rfl; have fg3 := frozen_row (bblk h2 HM.out.row); have H1 := Lib.hid h1; have H2 := Lib.hid h2; clear h1 h2)
        go_ret
        rw [HR.out, op_went HA.out]
        have hM := HM.out.resafe H2.out H1.out (Nat.le_refl _)
        refine ⟨rfl, (HO.out.went HO2.out).synced, recs, grow own .safe (some w2.heap.size), ⟨fA, fC, fb, mb, w2.heap.size, none, 0, none, hM⟩, ⟨(((HK2.out.mono fun b _ h => h ▸ HD.out.mine).low H2.out).setCell _ _ (.inl HD.out.mine)).setCell _ _ (.inl HD.out.mine), fun b hb hf => ?_⟩⟩
        unfold foot grow at hf
        rw [if_neg] at hf
        · exact hf
        · intro e; have := Option.some.inj e; have := HK2.out.size; omega

theorem usedIn_create {d : DiskS} (h : Ok d) {s : Bs} (hs : s ≠ []) (hg : dget d.dir s = none) : usedIn (d.files ++ [⟨[], 0⟩]) (turn d.dir ⟨[], s, d.files.length⟩) = d.used := by
  have h1 := usedIn_turn (d.files ++ [⟨[], 0⟩]) (c := ⟨[], s, d.files.length⟩) h.dirR (fun e => hs e.symm) h.dget_nil
  simp only [if_neg hs] at h1
  have h2 : (fileAt (d.files ++ [⟨[], 0⟩]) d.files.length).b.length = 0 := by simp [fileAt]
  have h3 : usedIn (d.files ++ [⟨[], 0⟩]) d.dir = usedIn d.files d.dir := usedIn_congr fun p hp => by rw [fileAt_push (h.dirF p hp).1]
  have h4 : lenAt (d.files ++ [⟨[], 0⟩]) d.dir [] = 0 := by unfold lenAt; rw [h.dget_nil]
  have h5 : lenAt (d.files ++ [⟨[], 0⟩]) d.dir s = 0 := by unfold lenAt; rw [hg]
  unfold DiskS.used
  omega
set_option maxRecDepth 100000 in
set_option maxHeartbeats 2000000 in
theorem create_any (hd : DAt w g d recs own) (hO : Ok d) (s : Bs) (hs : s.length ≤ maxLen) : Calls Tryz.prog 98 #[ptrV g, strV s] w (DPost w g own (Dk.create d s)) := by
  have c8 := DAtU.dead hd
  have c6 := DAtU.ops hd
  have hf := find_any hd (fun p hp => (hO.dirF p hp).1) s hs
  have hnam := fun W => named_any s W (by unfold maxLen at hs; omega)
  have HD := Lib.hid hd
  have HO := Lib.hid hO
  unfold strV at hnam
  have HNAM := Lib.hid hnam
  unfold strV ptrV at hf
  have HF := Lib.hid hf
  clear hnam hf
  by_cases hdd : d.dead = true
  · have hr := Lib.hid (show Dk.create d s = (d, 51) by unfold Dk.create; rw [if_pos hdd])
    rw [hdd] at c8
    clear hd hO hdd c6
    unfold ptrV strV
    go_enter Tryz.func98, Tryz.ntmps98
    go_wp2
    go_ret
    rw [hr.out]
    exact DPost.same HD.out HO.out 51
  · have hdf : d.dead = false := by simpa using hdd
    rw [hdf] at c8
    by_cases hnm : named s = false
    · have hr := Lib.hid (show Dk.create d s = (d, 50) by unfold Dk.create; rw [if_neg hdd, if_pos (by simp [hnm])])
      have HN := Lib.hid hnm
      clear hd hO hdd hdf hnm
      unfold ptrV strV
      go_enter Tryz.func98, Tryz.ntmps98
      go_wp2_with (go_at_call 50; refine (HNAM.out _).mono ?_; rw [HN.out]; rintro e w1 ⟨rfl, rfl⟩)
      go_ret
      rw [hr.out]
      exact DPost.same HD.out HO.out 50
    · have hnt : named s = true := by simpa using hnm
      have HN := Lib.hid hnt
      cases hg : dget d.dir s with
      | some i =>
        have hr := Lib.hid (show Dk.create d s = (d, 8) by unfold Dk.create; rw [if_neg hdd, if_neg (by simp [hnt]), if_pos (by rw [hg]; rfl)])
        have HF2 := HF.out
        rw [hg] at HF2
        have HF3 := Lib.hid HF2
        clear hd hO hdd hdf hnm hnt hg HF2
        unfold ptrV strV
        go_enter Tryz.func98, Tryz.ntmps98
        go_wp2_with (first | (go_at_call 50; refine (HNAM.out _).mono ?_; rw [HN.out]; rintro e w1 ⟨rfl, rfl⟩) | (go_at_call 92; refine HF3.out.mono ?_; rintro e w1 ⟨rfl, rfl⟩))
        go_ret
        rw [hr.out]
        exact DPost.same HD.out HO.out 8
      | none =>
        have HF2 := HF.out
        rw [hg] at HF2
        have HF3 := Lib.hid HF2
        obtain ⟨fA, fC, fb, mb, sb, cA, cC, cb, M⟩ := id hd
        have c3 : w.cell? ⟨g, 3, none⟩ = some (.map (some mb)) := cell_block M.row rfl
        have HM := Lib.hid M
        by_cases hfull : 64 ≤ d.dir.length ∨ 1048576 ≤ d.ops
        · have hr := Lib.hid (show Dk.create d s = (d, 5) by unfold Dk.create; rw [if_neg hdd, if_neg (by simp [hnt]), if_neg (by rw [hg]; simp), if_pos hfull])
          have key : (decide ((64 : Int) ≤ d.dir.length) = true) ∨ (decide ((64 : Int) ≤ d.dir.length) = false ∧ decide ((1048576 : Int) ≤ d.ops) = true) := by simp only [decide_eq_true_eq, decide_eq_false_iff_not]; omega
          clear hd hO hdd hdf hnm hnt hg HF2 hfull M
          unfold ptrV strV
          rcases key with k1 | ⟨k1, k2⟩
          all_goals
            go_enter Tryz.func98, Tryz.ntmps98
            go_wp2_with (first | (go_at_call 50; refine (HNAM.out _).mono ?_; rw [HN.out]; rintro e w1 ⟨rfl, rfl⟩) | (go_at_call 92; refine HF3.out.mono ?_; rintro e w1 ⟨rfl, rfl⟩) | (at_len; refine wpList_len_own _ rfl _ _ rfl 9 3 Tryz.underlying99 _ mb _ _ rfl HM.out.dir ?_; rw [dirD_size]))
            go_ret
            rw [hr.out]
            exact DPost.same HD.out HO.out 5
        · have k1 : decide ((64 : Int) ≤ d.dir.length) = false := by simp; omega
          have k2 : decide ((1048576 : Int) ≤ d.ops) = false := by simp; omega
          have ho2 : d.ops < 1048576 := by omega
          have hr : Dk.create d s = op d fun d => note { d with files := d.files ++ [⟨[], 0⟩] } ⟨[], s, d.files.length⟩ := by unfold Dk.create; rw [if_neg hdd, if_neg (by simp [hnt]), if_neg (by rw [hg]; simp), if_neg hfull]
          have hgo := goes_any hd ho2 hO.armed
          unfold Went at hgo
          unfold ptrV at hgo
          have HGO := Lib.hid hgo
          have HO2 := Lib.hid ho2
          have HR := Lib.hid hr
          have HG := Lib.hid hg
          have HDL := Lib.hid (show d.dir.length < 64 by omega)
          clear hd hO hdd hdf hnm hnt hg HF2 hfull M hr hgo ho2
          unfold ptrV strV
          go_enter Tryz.func98, Tryz.ntmps98
          go_wp2_with (first | (go_at_call 50; refine (HNAM.out _).mono ?_; rw [HN.out]; rintro e w1 ⟨rfl, rfl⟩) | (go_at_call 92; refine HF3.out.mono ?_; rintro e w1 ⟨rfl, rfl⟩) | (at_len; refine wpList_len_own _ rfl _ _ rfl 9 3 Tryz.underlying99 _ mb _ _ rfl HM.out.dir ?_; rw [dirD_size]))
          go_at_call 86
          refine HGO.out.mono ?_
          rintro e w2 ⟨hk2, ⟨ha, rfl, hd2⟩ | ⟨ha, rfl, hd2⟩⟩
          all_goals
            have HA := Lib.hid ha
            have HK2 := Lib.hid hk2
            have HD2 := Lib.hid hd2
            clear ha hk2 hd2
          · go_wp2
            go_ret
            rw [HR.out, op_gone HA.out]
            exact ⟨rfl, HO.out.gone, recs, own, HD2.out, ⟨HK2.out.mono fun b _ h => h ▸ HD.out.mine, fun _ _ => id⟩⟩
          · clear c3 HM
            obtain ⟨fA, fC, fb, mb, sb, cA, cC, cb, M⟩ := HD2.out
            have c2 : w2.cell? ⟨g, 2, none⟩ = some (.slice fA d.files.length fC) := cell_block M.row rfl
            have hgl := in_heap M.row
            have HM := Lib.hid M
            have z1 : d.files.length + 1 ≤ maxLen := by have := HO.out.nfiles; have := HO2.out; unfold maxLen; omega
            have z2 : (d.files.length + 1) * 8 ≤ 140737488355328 := by have := HO.out.nfiles; have := HO2.out; omega
            clear M
            have hp := fun W R O (h : DAt W g { went d with files := (went d).files ++ [⟨[], 0⟩] } R O) => note_any (w := W) (g := g) (own := O) h ((HO.out.went HO2.out).pushed (by have := HO.out.nfiles; show d.files.length + 1 ≤ 64 + (d.ops + 1); omega)) [] s d.files.length (by simp) (named_len HN.out).2 (fun e => by have := (named_len HN.out).1; rw [← e] at this; simp at this) HO.out.ndir (fun _ => by simp [went]) (fun e => by have := (named_len HN.out).1; rw [e] at this; simp at this) (Nat.le_trans (Nat.le_of_eq (usedIn_create (d := went d) (HO.out.went HO2.out) (fun e => by have := (named_len HN.out).1; rw [e] at this; simp at this) HG.out)) HO.out.used)
            unfold chgV ptrV at hp
            unfold strV at hp
            have HP := Lib.hid hp
            clear hp
            go_wp2_with (first
              | (go_at_call 93; refine (HP.out _ _ _ HD5.out).mono ?_; rintro e w6 ⟨rfl, own6, h1, h2⟩; have HD6 := Lib.hid h1; have HT6 := Lib.hid h2; clear h1 h2)
              | (at_builtin; refine wpList_app rfl _ _ 100 rfl 106 1 8 (.pointer none) Tryz.underlying100 (by kernel_rfl) rfl (by decide) fA d.files.length fC (recs.map ptrV) fb rfl (HM.out.files.below (low2 _ _ _)) (some ⟨w2.heap.size + 1, 0, none⟩) 1 1 [.pointer (some ⟨w2.heap.size, 0, none⟩)] rfl rfl (CellsAt.of_block (blk2 _ _ _).2) (fun h => by cases h) (fun ad h => ⟨_, _, (Option.some.inj h).symm⟩) (by simp; rfl) z1 z2 ?_; intro B D w3 blk' h1 h2 h3; have hk3 : Kept (fun b => fb = some b) w2 w3 := (Kept.of_below (low2 _ _ _)).grown h2 (fun k e => .inl e); have hrow : w3.heap[w2.heap.size]? = some (.cells #[.slice none 0 0, .int .i64 0] 109 (0, 0)) := (h2.block w2.heap.size (by simp <;> omega) (fun e => by have := HM.out.files.lt _ e.symm; omega)).trans (blk2 _ _ _).1; have hgf : ¬ fb = some g := fun e => absurd (HM.out.tf g e) (by rw [HM.out.tg]; simp); have c23 : w3.cell? ⟨g, 2, none⟩ = some (.slice fA d.files.length fC) := cell_block (hk3.blk HM.out.row hgf) rfl; have fg3 := frozen_row (hk3.blk HM.out.row hgf); have hMp := HM.out.push ⟨[], 0⟩ (nr := w2.heap.size) (k := w2.heap.size + 2) (bb := none) hk3 (Nat.le_refl _) hrow (OwnR.nil _ _ _) (fun b e => by cases e) (by rw [List.map_append]; exact h1) (by simpa using h3) (by omega) ⟨by omega, by simp⟩; have hus : ({ went d with files := (went d).files ++ [⟨[], 0⟩] } : DiskS).used = d.used := (usedIn_congr fun p hp => by rw [show fileAt ({ went d with files := (went d).files ++ [⟨[], 0⟩] } : DiskS).files p.2 = fileAt d.files p.2 from fileAt_push (HO.out.dirF p hp).1]); have HD5 : Hid (DAt (w3.setCell ⟨g, 2, none⟩ (.slice B (d.files.length + 1) D)) g { went d with files := (went d).files ++ [⟨[], 0⟩] } (recs ++ [w2.heap.size]) (pushOwn own d.files.length w2.heap.size blk' none)) := Lib.hid ⟨B, D, blk', mb, sb, cA, cC, cb, by rw [hus]; exact hMp⟩; have HK3 := Lib.hid hk3; have H3 : Hid (blk' = fb ∨ blk' = some (w2.heap.size + 2)) := Lib.hid (by simpa using h3); clear hk3 hrow hgf hMp hus h1 h2 h3))
            go_ret
            rw [HR.out, op_went HA.out]
            have hok1 := (HO.out.went HO2.out).pushed (by have := HO.out.nfiles; show d.files.length + 1 ≤ 64 + (d.ops + 1); omega)
            have hne : s ≠ [] := fun e => by have := (named_len HN.out).1; rw [e] at this; simp at this
            have hok := hok1.note ⟨[], s, d.files.length⟩ (by show d.files.length ≤ (d.files ++ [_]).length; simp) (fun _ => ⟨by show d.files.length < (d.files ++ [_]).length; simp, HN.out⟩) (fun h => absurd rfl h) (Nat.le_trans (Nat.le_of_eq (usedIn_create (d := went d) (HO.out.went HO2.out) hne HG.out)) HO.out.used)
              (length_turn (.inr (.inr HDL.out)) (fun _ h => absurd (show (dget d.dir []).isSome = true from h) (by rw [HO.out.dget_nil]; simp)) HO.out.ndir) (by have := HO.out.nchg; show d.chg.length + 1 ≤ d.ops + 1; omega) (fun _ p hp he => by have h1 := (HO.out.dirF p hp).1; have h2 : p.2 = d.files.length := he; omega)
            refine ⟨rfl, hok, _, own6, HD6.out, Turned.trans ⟨(HK2.out.mono fun b _ h => h ▸ HD.out.mine).then ((HK3.out.mono fun b _ h => foot_of (HM.out.tf b h)).setCell _ _ (.inl HD.out.mine)), fun b hb hf => ?_⟩ HT6.out⟩
            unfold foot at hf ⊢
            rwa [pushOwn_old (m := w.heap.size) (k := w2.heap.size + 2) (by have := HK2.out.size; omega) HK2.out.size (fun _ e => by cases e) H3.out HM.out.tf hb] at hf
end
end Go.Proofs.YtgpenpnobjecgaaGreatDoor

/- DRead -/
namespace Go.Proofs.YtgpenpnobjecgaaGreatDoor
set_option maxRecDepth 100000
open Go.RowKit Go.Maps Dk

section
variable {w : World} {g : Nat} {d : DiskS} {recs : List Nat} {own : Nat → Option DTag}
/-- New bytes, and an error's number. -/
def RetNewE (w : World) (r : Bs × Nat) (e : Ending) (w' : World) : Prop := ∃ B C blk, e = .returned (.tuple #[.slice B r.1.length C, .int .i64 r.2]) ∧ OwnR w' 5 1 B r.1.length C (r.1.map V8) blk ∧ (∀ b, blk = some b → w.heap.size ≤ b) ∧ Below w.heap.size w w'
theorem RetNewE.none (w : World) (n : Nat) : RetNewE w ([], n) (.returned (.tuple #[.slice none 0 0, .int .i64 n])) w := ⟨Option.none, 0, Option.none, rfl, OwnR.nil _ _ _, (fun b h => by cases h), Below.refl _ _⟩
set_option maxRecDepth 100000 in
set_option maxHeartbeats 1000000 in
theorem read_any (hd : DAt w g d recs own) (hO : Ok d) (s : Bs) (hs : s.length ≤ maxLen) : Calls Tryz.prog 56 #[ptrV g, strV s] w (RetNewE w (Dk.read d s)) := by
  have c8 := DAtU.dead hd
  have hf := find_any hd (fun p hp => (hO.dirF p hp).1) s hs
  have HD := Lib.hid hd
  have HO := Lib.hid hO
  by_cases hdd : d.dead = true
  · have hr := Lib.hid (show Dk.read d s = ([], 51) by unfold Dk.read; rw [if_pos hdd])
    rw [hdd] at c8
    clear hd hO hf hdd
    unfold ptrV strV
    go_enter Tryz.func56, Tryz.ntmps56
    go_wp2
    go_ret2
    rw [hr.out]
    exact RetNewE.none _ 51
  · have hdf : d.dead = false := by simpa using hdd
    rw [hdf] at c8
    cases hg : dget d.dir s with
    | none =>
      have hr := Lib.hid (show Dk.read d s = ([], 7) by unfold Dk.read; rw [if_neg hdd, hg])
      rw [hg] at hf
      clear hd hO hdd hdf hg
      unfold ptrV strV at *
      have HF := Lib.hid hf
      clear hf
      go_enter Tryz.func56, Tryz.ntmps56
      go_wp2_with (go_at_call 92; refine HF.out.mono ?_; rintro e w1 ⟨rfl, rfl⟩)
      go_ret2
      rw [hr.out]
      exact RetNewE.none _ 7
    | some i =>
      rw [hg] at hf
      have hil := (hO.dget_lt hg).1
      have hrl := DAtU.reclen hd
      obtain ⟨r, hr0⟩ : ∃ r, recs[i]? = some r := ⟨_, List.getElem?_eq_getElem (by omega)⟩
      have hr1 : recs.getD i 0 = r := by simp [hr0]
      simp only [hr1] at hf
      have HF := Lib.hid hf
      obtain ⟨fA, fC, fb, mb, sb, cA, cC, cb, M⟩ := hd
      obtain ⟨r2, A, C, blk, hr2, hfa⟩ := M.fil i _ (fileAt_mem hil)
      obtain rfl : r = r2 := Option.some.inj (hr0.symm.trans hr2)
      have hr := Lib.hid (show Dk.read d s = ((fileAt d.files i).b, 0) by unfold Dk.read; rw [if_neg hdd, hg])
      have hfl := (hO.len (fileAt d.files i) (by rw [fileAt_eq hil]; simp)).1
      obtain ⟨f, hff⟩ : ∃ f, f = fileAt d.files i := ⟨_, rfl⟩
      rw [← hff] at hr hfl
      change FileAt w own i (fileAt d.files i) r A C blk at hfa
      rw [← hff] at hfa
      have q0 : w.cell? ⟨r, 0, none⟩ = some (.slice A f.b.length C) := cell_block hfa.row rfl
      have HB := Lib.hid hfa.bytes
      have HFL := Lib.hid hfl
      clear hO hdd hdf hg hf hil hrl hr0 hr1 M hr2 hff hfa hfl
      unfold ptrV strV at *
      go_enter Tryz.func56, Tryz.ntmps56
      go_wp2_with (first | (go_at_call 92; refine HF.out.mono ?_; rintro e w1 ⟨rfl, rfl⟩) | (go_at_call 51; refine (bclone_any f.b A C w HB.out.txt (by have := HFL.out; omega)).mono ?_; rintro e w2 ⟨B, D, bk, rfl, h1, h2, h3, _⟩; have H1 := Lib.hid h1; have H2 := Lib.hid h2; have H3 := Lib.hid h3; clear h1 h2 h3))
      go_ret2
      rw [hr.out]
      exact ⟨B, D, bk, rfl, H1.out, H2.out, H3.out⟩
set_option maxRecDepth 100000 in
theorem free_any (hd : DAt w g d recs own) (hO : Ok d) : Calls Tryz.prog 65 #[ptrV g] w fun e w' => e = .returned (.int .i64 (Dk.free d)) ∧ Below w.heap.size w w' := by
  have c8 := DAtU.dead hd
  by_cases hdd : d.dead = true
  · have hr := Lib.hid (show Dk.free d = 0 by unfold Dk.free; rw [if_pos hdd])
    rw [hdd] at c8
    clear hd hO hdd
    unfold ptrV
    go_enter Tryz.func65, Tryz.ntmps65
    go_wp2
    go_ret
    rw [hr.out]
    exact ⟨rfl, Below.refl _ _⟩
  · have hdf : d.dead = false := by simpa using hdd
    have hr := Lib.hid (show ((Dk.free d : Nat) : Int) = (d.room : Int) - d.used by unfold Dk.free; rw [if_neg hdd]; have := hO.used; omega)
    rw [hdf] at c8
    obtain ⟨fA, fC, fb, mb, sb, cA, cC, cb, M⟩ := hd
    have c0 : w.cell? ⟨g, 0, none⟩ = some (.int .i64 d.room) := cell_block M.row rfl
    have c1 : w.cell? ⟨g, 1, none⟩ = some (.int .i64 d.used) := cell_block M.row rfl
    have j3 : (0 : Int) ≤ (d.room : Int) - d.used := by have := hO.used; omega
    have j4 : (d.room : Int) - d.used ≤ 9223372036854775807 := by have := hO.room; omega
    clear M hO hdd hdf
    unfold ptrV
    go_enter Tryz.func65, Tryz.ntmps65
    go_wp2
    go_quiet (fail)
    go_wp2
    go_ret
    rw [hr.out]
    exact ⟨rfl, below_drewN _ _⟩
set_option maxRecDepth 100000 in
theorem count_any (hd : DAt w g d recs own) : Calls Tryz.prog 47 #[ptrV g] w fun e w' => e = .returned (.int .i64 d.ops) ∧ w = w' := by
  have c6 := DAtU.ops hd
  clear hd
  unfold ptrV
  go_enter Tryz.func47, Tryz.ntmps47
  go_wp2
  go_ret
  exact ⟨rfl, rfl⟩
set_option maxRecDepth 100000 in
theorem dead_any (hd : DAt w g d recs own) : Calls Tryz.prog 38 #[ptrV g] w fun e w' => e = .returned (.bool d.dead) ∧ w = w' := by
  have c8 := DAtU.dead hd
  clear hd
  unfold ptrV
  go_enter Tryz.func38, Tryz.ntmps38
  go_wp2
  go_ret
  exact ⟨rfl, rfl⟩
set_option maxRecDepth 100000 in
theorem arm_any (hd : DAt w g d recs own) (hO : Ok d) (n : Int) (hn : n ≤ 9223372036854775807) : Calls Tryz.prog 30 #[ptrV g, .int .i64 n] w fun e w' => e = .returned (.tuple #[]) ∧ DAt w' g (Dk.arm d n) recs own ∧ Ok (Dk.arm d n) ∧ Kept (· = g) w w' := by
  have c8 := DAtU.dead hd
  have HD := Lib.hid hd
  have HO := Lib.hid hO
  have HN := Lib.hid hn
  by_cases hdd : d.dead = true
  · have hr := Lib.hid (show Dk.arm d n = d by unfold Dk.arm; rw [if_pos hdd])
    rw [hdd] at c8
    clear hd hO hdd hn
    unfold ptrV
    go_enter Tryz.func30, Tryz.ntmps30
    go_wp2
    go_end0
    rw [hr.out]
    exact ⟨rfl, HD.out, HO.out, Kept.refl _ _⟩
  · have hdf : d.dead = false := by simpa using hdd
    have hr := Lib.hid (show Dk.arm d n = { d with armed := n.toNat } by unfold Dk.arm; rw [if_neg hdd])
    rw [hdf] at c8
    obtain ⟨fA, fC, fb, mb, sb, cA, cC, cb, M⟩ := hd
    have c7 : w.cell? ⟨g, 7, none⟩ = some (.int .i64 d.armed) := cell_block M.row rfl
    have fz := frozen_row M.row
    have HM := Lib.hid M
    clear M hO hdd hdf hn
    unfold ptrV
    go_enter Tryz.func30, Tryz.ntmps30
    have hfin : ∀ v : Int, v = (n.toNat : Int) → DAt (w.setCell ⟨g, 7, none⟩ (.int .i64 v)) g { d with armed := n.toNat } recs own ∧ Ok { d with armed := n.toNat } ∧ Kept (· = g) w (w.setCell ⟨g, 7, none⟩ (.int .i64 v)) := fun v hv => by
      have hk : Kept (· = g) w (w.setCell ⟨g, 7, none⟩ (.int .i64 v)) := (Kept.refl (· = g) w).setCell _ _ (.inl rfl)
      refine ⟨⟨fA, fC, fb, mb, sb, cA, cC, cb, HM.out.rerow hk { d with armed := n.toNat } d.used rfl rfl rfl rfl ?_⟩, ?_, hk⟩
      · rw [setCell_one HM.out.row, hv]; rfl
      · have := HO.out.armed' n HN.out
        rw [hr.out] at this
        exact this
    have HFIN := Lib.hid hfin
    clear hfin
    go_wp2
    all_goals
      go_end0
      rw [hr.out]
      exact ⟨rfl, HFIN.out _ (by omega)⟩
end
end Go.Proofs.YtgpenpnobjecgaaGreatDoor
