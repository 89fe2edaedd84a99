/- disk.Sync, disk.Append. -/
import Derived.Deep.QuietTactic
import Derived.BigQuiet
import Derived.Test.YtgpenpnobjecgaaGreatDoorJWalSafeCard7
import Derived.Test.YtgpenpnobjecgaaGreatDoorJWalSafeCard13
import Derived.Test.YtgpenpnobjecgaaGreatDoorJWalSafeCard16
/- DRemove -/
namespace Go.Proofs.YtgpenpnobjecgaaGreatDoor
set_option maxRecDepth 100000
open Go.RowKit Go.Maps Dk

section
variable {w : World} {g : Nat} {d : DiskS} {recs : List Nat} {own : Nat → Option DTag}
theorem DAtU.dead {u : Nat} (hd : DAtU w g d u recs own) : w.cell? ⟨g, 8, none⟩ = some (.bool d.dead) := by
  obtain ⟨fA, fC, fb, mb, sb, cA, cC, cb, M⟩ := hd
  exact cell_block M.row rfl
theorem DAtU.ops {u : Nat} (hd : DAtU w g d u recs own) : w.cell? ⟨g, 6, none⟩ = some (.int .i64 d.ops) := by
  obtain ⟨fA, fC, fb, mb, sb, cA, cC, cb, M⟩ := hd
  exact cell_block M.row rfl
theorem usedIn_remove {d : DiskS} (h : Ok d) {s : Bs} (hs : s ≠ []) : usedIn d.files (turn d.dir ⟨s, [], 0⟩) ≤ d.used := by
  have := usedIn_turn d.files (c := ⟨s, [], 0⟩) h.dirR hs h.dget_nil
  simp only [if_true] at this
  show _ ≤ usedIn _ _
  omega
set_option maxRecDepth 100000 in
set_option maxHeartbeats 1000000 in
theorem remove_any (hd : DAt w g d recs own) (hO : Ok d) (s : Bs) (hs : s.length ≤ maxLen) : Calls Tryz.prog 58 #[ptrV g, strV s] w (DPost w g own (remove d s)) := by
  have c8 := DAtU.dead hd
  have c6 := DAtU.ops hd
  have hf := find_any hd (fun p hp => (hO.dirF p hp).1) s hs
  have HD := Lib.hid hd
  have HO := Lib.hid hO
  by_cases hdd : d.dead = true
  · have hr := Lib.hid (show remove d s = (d, 51) by unfold remove; rw [if_pos hdd])
    rw [hdd] at c8
    clear hd hO hf hdd c6
    unfold ptrV strV
    go_enter Tryz.func58, Tryz.ntmps58
    go_wp2
    go_ret
    rw [hr.out]
    exact DPost.same HD.out HO.out 51
  · have hdf : d.dead = false := by simpa using hdd
    cases hg : dget d.dir s with
    | none =>
      have hr := Lib.hid (show remove d s = (d, 7) by unfold remove; rw [if_neg hdd, hg])
      rw [hdf] at c8
      rw [hg] at hf
      clear hd hO hdd hdf c6 hg
      unfold ptrV strV at *
      go_enter Tryz.func58, Tryz.ntmps58
      go_wp2_with (go_at_call 92; refine hf.mono ?_; rintro e w1 ⟨rfl, rfl⟩)
      go_ret
      rw [hr.out]
      exact DPost.same HD.out HO.out 7
    | some i =>
      rw [hdf] at c8
      rw [hg] at hf
      by_cases ho : 1048576 ≤ d.ops
      · have hr := Lib.hid (show remove d s = (d, 5) by unfold remove; rw [if_neg hdd, hg]; simp only []; rw [if_pos ho])
        have ho' : (1048576 : Int) ≤ d.ops := by omega
        clear hd hO hdd hdf hg ho
        unfold ptrV strV at *
        go_enter Tryz.func58, Tryz.ntmps58
        go_wp2_with (go_at_call 92; refine hf.mono ?_; rintro e w1 ⟨rfl, rfl⟩)
        go_ret
        rw [hr.out]
        exact DPost.same HD.out HO.out 5
      · have hr : remove d s = op d fun d => note d ⟨s, [], 0⟩ := by unfold remove; rw [if_neg hdd, hg]; simp only []; rw [if_neg ho]
        have ho' : decide ((1048576 : Int) ≤ d.ops) = false := by simp; omega
        have ho2 : d.ops < 1048576 := by omega
        have hgo := goes_any hd ho2 hO.armed
        have hnm := (hO.dget_lt hg).2
        have hne : s ≠ [] := fun e => by have := (named_len hnm).1; rw [e] at this; simp at this
        have HO2 := Lib.hid ho2
        have hnote := fun W (h : DAtU W g (went d) d.used recs own) => note_any (w := W) (g := g) (d := went d) h (hO.went ho2) s [] 0 (named_len hnm).2 (by simp) hne hO.ndir (fun h => absurd rfl h) (fun _ => rfl) (Nat.le_trans (usedIn_remove hO hne) hO.used)
        have hok : Ok (note (went d) ⟨s, [], 0⟩) := (hO.went ho2).note ⟨s, [], 0⟩ (Nat.zero_le _) (fun h => absurd rfl h) (fun _ => hnm) (Nat.le_trans (usedIn_remove hO hne) hO.used) (length_turn (.inl rfl) (fun h => absurd rfl h) hO.ndir) (by have := hO.nchg; show d.chg.length + 1 ≤ d.ops + 1; omega) (fun h => absurd rfl h)
        have HOK := Lib.hid hok
        have HNOTE := Lib.hid hnote
        clear hnote hok
        unfold Went at hgo
        have HR := Lib.hid hr
        clear hd hO hdd hdf hg ho hr ho2 hnm hne
        unfold ptrV at hf ⊢
        unfold strV at hf ⊢
        unfold ptrV at hgo
        have HGO := Lib.hid hgo
        have HF := Lib.hid hf
        clear hgo hf
        go_enter Tryz.func58, Tryz.ntmps58
        go_wp2_with (go_at_call 92; refine HF.out.mono ?_; rintro e w1 ⟨rfl, rfl⟩)
        go_at_call 86
        refine HGO.out.mono ?_
        rintro e w2 ⟨hk2, ⟨ha, rfl, hd2⟩ | ⟨ha, rfl, hd2⟩⟩
        all_goals
          have HA := Lib.hid ha
          have HK2 := Lib.hid hk2
          have HD2 := Lib.hid hd2
          clear ha hk2 hd2
        · go_wp2
          go_ret
          rw [HR.out, op_gone HA.out]
          exact ⟨rfl, HO.out.gone, recs, own, HD2.out, ⟨HK2.out.mono fun b _ h => h ▸ HD.out.mine, fun _ _ => id⟩⟩
        · go_wp2_with (go_at_call 93; refine (HNOTE.out _ HD2.out).mono ?_; rintro e w3 ⟨rfl, own3, hd3, ht3⟩; have HD3 := Lib.hid hd3; have HT3 := Lib.hid ht3; clear hd3 ht3)
          go_ret
          rw [HR.out, op_went HA.out]
          exact ⟨rfl, HOK.out, recs, own3, HD3.out, Turned.trans ⟨HK2.out.mono fun b _ h => h ▸ HD.out.mine, fun _ _ => id⟩ HT3.out⟩
theorem dget_two {d : DiskS} (h : Ok d) {s u : Bs} {i : Nat} (h1 : dget d.dir s = some i) (h2 : (u, i) ∈ d.dir) : u = s := by
  have hm := dget_mem h1
  have hn := h.dirI
  have key : ∀ {l : Dir}, (l.map (·.2)).Nodup → (s, i) ∈ l → (u, i) ∈ l → u = s := fun {l} => by
    induction l with
    | nil => intro _ h; cases h
    | cons y r ih =>
      intro hn h1 h2
      rw [List.map_cons, List.nodup_cons] at hn
      rcases List.mem_cons.1 h1 with e1 | e1
      · rcases List.mem_cons.1 h2 with e2 | e2
        · exact (Prod.mk.inj (e2.trans e1.symm)).1
        · exact absurd (List.mem_map.2 ⟨_, e2, by rw [← e1]⟩) hn.1
      · rcases List.mem_cons.1 h2 with e2 | e2
        · exact absurd (List.mem_map.2 ⟨_, e1, by rw [← e2]⟩) hn.1
        · exact ih hn.2 e1 e2
  exact key hn hm h2
theorem usedIn_rename {d : DiskS} (h : Ok d) {s t : Bs} {i : Nat} (hs : dget d.dir s = some i) (hne : s ≠ t) (ht : t ≠ []) : usedIn d.files (turn d.dir ⟨s, t, i⟩) ≤ d.used := by
  have := usedIn_turn d.files (c := ⟨s, t, i⟩) h.dirR hne h.dget_nil
  simp only [if_neg ht] at this
  have h2 : lenAt d.files d.dir s = (fileAt d.files i).b.length := by unfold lenAt; rw [hs]
  show _ ≤ usedIn _ _
  omega
set_option maxRecDepth 100000 in
set_option maxHeartbeats 1000000 in
theorem rename_any (hd : DAt w g d recs own) (hO : Ok d) (s t : Bs) (hs : s.length ≤ maxLen) (ht : t.length ≤ maxLen) : Calls Tryz.prog 99 #[ptrV g, strV s, strV t] w (DPost w g own (rename d s t)) := by
  have c8 := DAtU.dead hd
  have c6 := DAtU.ops hd
  have hf := find_any hd (fun p hp => (hO.dirF p hp).1) s hs
  have hnam := fun W => named_any t W (by unfold maxLen at ht; omega)
  have HD := Lib.hid hd
  have HO := Lib.hid hO
  have HNAM := Lib.hid hnam
  clear hnam
  unfold strV at HNAM
  by_cases hdd : d.dead = true
  · have hr := Lib.hid (show rename d s t = (d, 51) by unfold rename; rw [if_pos hdd])
    rw [hdd] at c8
    clear hd hO hf hdd c6
    unfold ptrV strV
    go_enter Tryz.func99, Tryz.ntmps99
    go_wp2
    go_ret
    rw [hr.out]
    exact DPost.same HD.out HO.out 51
  · have hdf : d.dead = false := by simpa using hdd
    cases hg : dget d.dir s with
    | none =>
      have hr := Lib.hid (show rename d s t = (d, 7) by unfold rename; rw [if_neg hdd, hg])
      rw [hdf] at c8
      rw [hg] at hf
      clear hd hO hdd hdf c6 hg
      unfold ptrV strV at *
      have HF := Lib.hid hf
      clear hf
      go_enter Tryz.func99, Tryz.ntmps99
      go_wp2_with (go_at_call 92; refine HF.out.mono ?_; rintro e w1 ⟨rfl, rfl⟩)
      go_ret
      rw [hr.out]
      exact DPost.same HD.out HO.out 7
    | some i =>
      rw [hdf] at c8
      rw [hg] at hf
      have HF := Lib.hid hf
      clear hf
      unfold ptrV strV at HF
      by_cases hnm : named t = false
      · have hr := Lib.hid (show rename d s t = (d, 50) by unfold rename; rw [if_neg hdd, hg]; simp only []; rw [if_pos (by simp [hnm])])
        have HN := Lib.hid hnm
        clear hd hO hdd hdf hg hnm
        unfold ptrV strV at *
        go_enter Tryz.func99, Tryz.ntmps99
        go_wp2_with (first | (go_at_call 92; refine HF.out.mono ?_; rintro e w1 ⟨rfl, rfl⟩) | (go_at_call 50; refine (HNAM.out _).mono ?_; rw [HN.out]; rintro e w1 ⟨rfl, rfl⟩))
        go_ret
        rw [hr.out]
        exact DPost.same HD.out HO.out 50
      · have hnt : named t = true := by simpa using hnm
        have HN := Lib.hid hnt
        by_cases ho : 1048576 ≤ d.ops
        · have hr := Lib.hid (show rename d s t = (d, 5) by unfold rename; rw [if_neg hdd, hg]; simp only []; rw [if_neg (by simp [hnt]), if_pos ho])
          have ho' : (1048576 : Int) ≤ d.ops := by omega
          clear hd hO hdd hdf hg ho hnm hnt
          unfold ptrV strV at *
          go_enter Tryz.func99, Tryz.ntmps99
          go_wp2_with (first | (go_at_call 92; refine HF.out.mono ?_; rintro e w1 ⟨rfl, rfl⟩) | (go_at_call 50; refine (HNAM.out _).mono ?_; rw [HN.out]; rintro e w1 ⟨rfl, rfl⟩))
          go_ret
          rw [hr.out]
          exact DPost.same HD.out HO.out 5
        · have hr : rename d s t = op d fun d => if s = t then d else note d ⟨s, t, i⟩ := by unfold rename; rw [if_neg hdd, hg]; simp only []; rw [if_neg (by simp [hnt]), if_neg ho]
          have ho' : decide ((1048576 : Int) ≤ d.ops) = false := by simp; omega
          have ho2 : d.ops < 1048576 := by omega
          have hgo := goes_any hd ho2 hO.armed
          unfold Went at hgo
          unfold ptrV at hgo
          have HGO := Lib.hid hgo
          have HO2 := Lib.hid ho2
          have HR := Lib.hid hr
          have hlt := hO.dget_lt hg
          have HG := Lib.hid hg
          have HLT := Lib.hid hlt
          clear hd hO hdd hdf hg ho hr hgo hlt hnm hnt ho2
          unfold ptrV strV at *
          go_enter Tryz.func99, Tryz.ntmps99
          go_wp2_with (first | (go_at_call 92; refine HF.out.mono ?_; rintro e w1 ⟨rfl, rfl⟩) | (go_at_call 50; refine (HNAM.out _).mono ?_; rw [HN.out]; rintro e w1 ⟨rfl, rfl⟩))
          go_at_call 86
          refine HGO.out.mono ?_
          rintro e w2 ⟨hk2, ⟨ha, rfl, hd2⟩ | ⟨ha, rfl, hd2⟩⟩
          all_goals
            have HA := Lib.hid ha
            have HK2 := Lib.hid hk2
            have HD2 := Lib.hid hd2
            clear ha hk2 hd2
          · go_wp2
            go_ret
            rw [HR.out, op_gone HA.out]
            exact ⟨rfl, HO.out.gone, recs, own, HD2.out, ⟨HK2.out.mono fun b _ h => h ▸ HD.out.mine, fun _ _ => id⟩⟩
          · obtain ⟨fA, fC, fb, mb, sb, cA, cC, cb, M⟩ := HD2.out
            have c3 : w2.cell? ⟨g, 3, none⟩ = some (.map (some mb)) := cell_block M.row rfl
            have hlk := M.dir.look hs
            change (Instr.lookup 99 (.map (some mb)) (strV s) false).run Tryz.prog w2 = .ok (.int .i64 ((dget d.dir s).getD 0 : Nat)) w2 at hlk
            rw [HG.out] at hlk
            simp only [Option.getD_some] at hlk
            unfold strV at hlk
            clear M
            by_cases hst : s = t
            · subst hst
              go_wp2
              go_ret
              rw [HR.out, op_went HA.out, if_pos trivial]
              exact ⟨rfl, HO.out.went HO2.out, recs, own, HD2.out, ⟨HK2.out.mono fun b _ h => h ▸ HD.out.mine, fun _ _ => id⟩⟩
            · have htne : t ≠ [] := fun e => by have := (named_len HN.out).1; rw [e] at this; simp at this
              have hu := usedIn_rename HO.out HG.out hst htne
              have hsn : s ≠ [] := fun e => by have := (named_len HLT.out.2).1; rw [e] at this; simp at this
              have HNOTE := Lib.hid (note_any (w := w2) (g := g) (d := went d) HD2.out (HO.out.went HO2.out) s t i (named_len HLT.out.2).2 (named_len HN.out).2 hst HO.out.ndir (fun _ => HLT.out.1) (fun h => absurd h htne) (Nat.le_trans hu HO.out.used))
              have HOK : Hid (Ok (note (went d) ⟨s, t, i⟩)) := Lib.hid ((HO.out.went HO2.out).note ⟨s, t, i⟩ (Nat.le_of_lt HLT.out.1) (fun _ => ⟨HLT.out.1, HN.out⟩) (fun _ => HLT.out.2) (Nat.le_trans hu HO.out.used) (length_turn (.inr (.inl (by show (dget d.dir s).isSome = true; rw [HG.out]; rfl))) (fun _ _ => hsn) HO.out.ndir) (by have := HO.out.nchg; show d.chg.length + 1 ≤ d.ops + 1; omega) (fun _ p hp he => .inl ⟨dget_two HO.out HG.out (by rw [← show p.2 = i from he]; exact hp), hsn⟩))
              clear htne hu hsn
              have HST := Lib.hid hst
              have hq : (s == t) = false := by simpa using hst
              clear hst
              go_wp2_with (go_at_call 93; refine HNOTE.out.mono ?_; rintro e w3 ⟨rfl, own3, hd3, ht3⟩; have HD3 := Lib.hid hd3; have HT3 := Lib.hid ht3; clear hd3 ht3)
              go_ret
              rw [HR.out, op_went HA.out, if_neg HST.out]
              exact ⟨rfl, HOK.out, recs, own3, HD3.out, Turned.trans ⟨HK2.out.mono fun b _ h => h ▸ HD.out.mine, fun _ _ => id⟩ HT3.out⟩
end
end Go.Proofs.YtgpenpnobjecgaaGreatDoor

/- DSync -/
namespace Go.Proofs.YtgpenpnobjecgaaGreatDoor
set_option maxRecDepth 100000
open Go.RowKit Go.Maps Dk

section
variable {w : World} {g : Nat} {d : DiskS} {recs : List Nat} {own : Nat → Option DTag}
theorem fileAt_mem {d : DiskS} {i : Nat} (h : i < d.files.length) : d.files[i]? = some (fileAt d.files i) := by simp [fileAt, h]
set_option maxRecDepth 100000 in
set_option maxHeartbeats 1000000 in
theorem sync_any (hd : DAt w g d recs own) (hO : Ok d) (s : Bs) (hs : s.length ≤ maxLen) : Calls Tryz.prog 63 #[ptrV g, strV s] w (DPost w g own (Dk.sync d s)) := by
  have c8 := DAtU.dead hd
  have c6 := DAtU.ops hd
  have hf := find_any hd (fun p hp => (hO.dirF p hp).1) s hs
  have HD := Lib.hid hd
  have HO := Lib.hid hO
  by_cases hdd : d.dead = true
  · have hr := Lib.hid (show Dk.sync d s = (d, 51) by unfold Dk.sync; rw [if_pos hdd])
    rw [hdd] at c8
    clear hd hO hf hdd c6
    unfold ptrV strV
    go_enter Tryz.func63, Tryz.ntmps63
    go_wp2
    go_ret
    rw [hr.out]
    exact DPost.same HD.out HO.out 51
  · have hdf : d.dead = false := by simpa using hdd
    cases hg : dget d.dir s with
    | none =>
      have hr := Lib.hid (show Dk.sync d s = (d, 7) by unfold Dk.sync; rw [if_neg hdd, hg])
      rw [hdf] at c8
      rw [hg] at hf
      clear hd hO hdd hdf c6 hg
      unfold ptrV strV at *
      have HF := Lib.hid hf
      clear hf
      go_enter Tryz.func63, Tryz.ntmps63
      go_wp2_with (go_at_call 92; refine HF.out.mono ?_; rintro e w1 ⟨rfl, rfl⟩)
      go_ret
      rw [hr.out]
      exact DPost.same HD.out HO.out 7
    | some i =>
      rw [hdf] at c8
      rw [hg] at hf
      have hil := (hO.dget_lt hg).1
      have hrl := DAtU.reclen hd
      obtain ⟨r, hr0⟩ : ∃ r, recs[i]? = some r := ⟨_, List.getElem?_eq_getElem (by omega)⟩
      have hr1 : recs.getD i 0 = r := by simp [hr0]
      simp only [hr1] at hf
      have HF := Lib.hid hf
      have HR0 := Lib.hid hr0
      have HIL := Lib.hid hil
      clear hf hr1 hr0 hrl hil
      unfold ptrV strV at HF
      by_cases ho : 1048576 ≤ d.ops
      · have hr := Lib.hid (show Dk.sync d s = (d, 5) by unfold Dk.sync; rw [if_neg hdd, hg]; simp only []; rw [if_pos ho])
        have ho' : (1048576 : Int) ≤ d.ops := by omega
        clear hd hO hdd hdf hg ho
        unfold ptrV strV at *
        go_enter Tryz.func63, Tryz.ntmps63
        go_wp2_with (go_at_call 92; refine HF.out.mono ?_; rintro e w1 ⟨rfl, rfl⟩)
        go_ret
        rw [hr.out]
        exact DPost.same HD.out HO.out 5
      · have hr : Dk.sync d s = op d fun d => { d with files := d.files.modify i syncF } := by unfold Dk.sync; rw [if_neg hdd, hg]; simp only []; rw [if_neg ho]
        have ho' : decide ((1048576 : Int) ≤ d.ops) = false := by simp; omega
        have ho2 : d.ops < 1048576 := by omega
        have hgo := goes_any hd ho2 hO.armed
        unfold Went at hgo
        unfold ptrV at hgo
        have HGO := Lib.hid hgo
        have HO2 := Lib.hid ho2
        have HR := Lib.hid hr
        clear hd hO hdd hdf hg ho hr hgo ho2
        unfold ptrV strV at *
        go_enter Tryz.func63, Tryz.ntmps63
        go_wp2_with (go_at_call 92; refine HF.out.mono ?_; rintro e w1 ⟨rfl, rfl⟩)
        go_at_call 86
        refine HGO.out.mono ?_
        rintro e w2 ⟨hk2, ⟨ha, rfl, hd2⟩ | ⟨ha, rfl, hd2⟩⟩
        all_goals
          have HA := Lib.hid ha
          have HK2 := Lib.hid hk2
          have HD2 := Lib.hid hd2
          clear ha hk2 hd2
        · go_wp2
          go_ret
          rw [HR.out, op_gone HA.out]
          exact ⟨rfl, HO.out.gone, recs, own, HD2.out, ⟨HK2.out.mono fun b _ h => h ▸ HD.out.mine, fun _ _ => id⟩⟩
        · obtain ⟨fA, fC, fb, mb, sb, cA, cC, cb, M⟩ := HD2.out
          obtain ⟨r2, A, C, blk, hr2, hfa⟩ := M.fil i _ (fileAt_mem HIL.out)
          obtain rfl : r = r2 := Option.some.inj (HR0.out.symm.trans hr2)
          obtain ⟨f, hf⟩ : ∃ f, f = fileAt d.files i := ⟨_, rfl⟩
          change FileAt w2 own i (fileAt d.files i) r A C blk at hfa
          rw [← hf] at hfa
          have q0 : w2.cell? ⟨r, 0, none⟩ = some (.slice A f.b.length C) := cell_block hfa.row rfl
          have q1 : w2.cell? ⟨r, 1, none⟩ = some (.int .i64 f.synced) := cell_block hfa.row rfl
          have fz := frozen_row hfa.row
          have HM := Lib.hid M
          have HFA := Lib.hid hfa
          have HFF := Lib.hid hf
          clear M hfa hr2 hf
          go_wp2
          go_ret
          rw [HR.out, op_went HA.out]
          have hrow : (w2.setCell ⟨r, 1, none⟩ (.int .i64 f.b.length)).heap[r]? = some (.cells #[.slice A f.b.length C, .int .i64 f.b.length] 109 (0, 0)) := by rw [setCell_one HFA.out.row]; rfl
          have hkr : Kept (fun b => b = r ∨ blk = some b) w2 (w2.setCell ⟨r, 1, none⟩ (.int .i64 f.b.length)) := (Kept.refl _ _).setCell _ _ (.inl (.inl rfl))
          have hne : ∀ b, blk = some b → ¬ b = r := fun b hb e => absurd (HFA.out.btag b hb) (by rw [e, HFA.out.tag]; simp)
          have hMM := HM.out.refile (i := i) (f := f) (by rw [HFF.out]; exact fileAt_mem HIL.out) HR0.out HFA.out syncF (k := w2.heap.size) hkr hrow (HFA.out.bytes.kept ((Kept.refl (· = r) w2).setCell _ _ (.inl rfl)) hne) (.inl rfl) (Nat.le_refl _)
          have hOk : Ok { went d with files := (went d).files.modify i syncF } := (HO.out.went HO2.out).modified i _ (fun x hx => ⟨(HO.out.len x hx).1, Nat.le_refl _⟩) (Nat.le_trans (Nat.le_of_eq (usedIn_same (f := syncF) (fun _ => rfl) _)) HO.out.used)
          refine ⟨rfl, hOk, recs, grow own (.byt i) blk, ⟨fA, fC, fb, mb, sb, cA, cC, cb, ?_⟩, ⟨((HK2.out.mono fun b _ h => h ▸ HD.out.mine).then (hkr.mono fun b _ h => ?_)), fun b hb hf => ?_⟩⟩
          · have hus : ({ went d with files := (went d).files.modify i syncF } : DiskS).used = d.used := usedIn_same (f := syncF) (fun _ => rfl) _
            have := hMM
            rw [← hus] at this
            exact this
          · rcases h with rfl | h
            · exact foot_of HFA.out.tag
            · exact foot_of (HFA.out.btag b h)
          · unfold foot at hf ⊢
            rwa [grow_old (m := w.heap.size) (n := w.heap.size) (.inl rfl) HFA.out.btag (Nat.le_refl _) hb] at hf

theorem wpList_store_slice_nothing : True := trivial
set_option maxRecDepth 100000 in
set_option maxHeartbeats 2000000 in
theorem append_any (hd : DAt w g d recs own) (hO : Ok d) (s p : Bs) (hs : s.length ≤ maxLen) (pa : Option Addr) (pc : Nat) (X : Txt w pa p.length pc p) (hp : p.length ≤ 4611686018427387904) (hpf : ∀ ad, pa = some ad → ¬ foot own ad.block) :
    Calls Tryz.prog 71 #[ptrV g, strV s, .slice pa p.length pc] w (DPost w g own (Dk.append d s p)) := by
  have c8 := DAtU.dead hd
  have c6 := DAtU.ops hd
  have hf := find_any hd (fun p hp => (hO.dirF p hp).1) s hs
  have HD := Lib.hid hd
  have HO := Lib.hid hO
  have HX := Lib.hid X
  have HPF := Lib.hid hpf
  clear X hpf
  by_cases hdd : d.dead = true
  · have hr := Lib.hid (show Dk.append d s p = (d, 51) by unfold Dk.append; rw [if_pos hdd])
    rw [hdd] at c8
    clear hd hO hf hdd c6
    unfold ptrV strV
    go_enter Tryz.func71, Tryz.ntmps71
    go_wp2
    go_ret
    rw [hr.out]
    exact DPost.same HD.out HO.out 51
  · have hdf : d.dead = false := by simpa using hdd
    cases hg : dget d.dir s with
    | none =>
      have hr := Lib.hid (show Dk.append d s p = (d, 7) by unfold Dk.append; rw [if_neg hdd, hg])
      rw [hdf] at c8
      rw [hg] at hf
      clear hd hO hdd hdf c6 hg
      unfold ptrV strV at *
      have HF := Lib.hid hf
      clear hf
      go_enter Tryz.func71, Tryz.ntmps71
      go_wp2_with (go_at_call 92; refine HF.out.mono ?_; rintro e w1 ⟨rfl, rfl⟩)
      go_ret
      rw [hr.out]
      exact DPost.same HD.out HO.out 7
    | some i =>
      rw [hdf] at c8
      rw [hg] at hf
      have hil := (hO.dget_lt hg).1
      have hmem := dget_mem hg
      have hrl := DAtU.reclen hd
      obtain ⟨r, hr0⟩ : ∃ r, recs[i]? = some r := ⟨_, List.getElem?_eq_getElem (by omega)⟩
      have hr1 : recs.getD i 0 = r := by simp [hr0]
      simp only [hr1] at hf
      have HF := Lib.hid hf
      have HR0 := Lib.hid hr0
      have HIL := Lib.hid hil
      have HMEM := Lib.hid hmem
      obtain ⟨fA, fC, fb, mb, sb, cA, cC, cb, M⟩ := hd
      obtain ⟨r2, A, C, blk, hr2, hfa⟩ := M.fil i _ (fileAt_mem hil)
      obtain rfl : r = r2 := Option.some.inj (hr0.symm.trans hr2)
      obtain ⟨f, hff⟩ : ∃ f, f = fileAt d.files i := ⟨_, rfl⟩
      have hfl := (hO.len (fileAt d.files i) (by rw [fileAt_eq hil]; simp)).1
      rw [← hff] at hfa hfl
      have q0 : w.cell? ⟨r, 0, none⟩ = some (.slice A f.b.length C) := cell_block hfa.row rfl
      have c0 : w.cell? ⟨g, 0, none⟩ = some (.int .i64 d.room) := cell_block M.row rfl
      have c1 : w.cell? ⟨g, 1, none⟩ = some (.int .i64 d.used) := cell_block M.row rfl
      have hu := hO.used
      have hrm := hO.room
      have j1 : (f.b.length : Int) + p.length ≤ 9223372036854775807 := by omega
      have j2 : (0 : Int) ≤ (f.b.length : Int) + p.length := by omega
      have j3 : (0 : Int) ≤ (d.room : Int) - d.used := by omega
      have j4 : (d.room : Int) - d.used ≤ 9223372036854775807 := by omega
      clear hf hr1 hr0 hrl hil hmem hr2 hfa M hu hrm
      unfold ptrV strV at HF
      have hap : Dk.append d s p = if 4194304 < f.b.length + p.length ∨ d.room - d.used < p.length ∨ 1048576 ≤ d.ops then (d, 5) else op d fun d => { d with files := d.files.modify i (appF p) } := by unfold Dk.append; rw [if_neg hdd, hg, hff]
      have HFF := Lib.hid hff
      have HFL := Lib.hid hfl
      clear hff hfl
      by_cases hfull : 4194304 < f.b.length + p.length ∨ d.room - d.used < p.length ∨ 1048576 ≤ d.ops
      · rw [if_pos hfull] at hap
        have HAP := Lib.hid hap
        clear hO hdd hdf hg hap
        have HU := Lib.hid HO.out.used
        have key : (decide ((4194304 : Int) < (f.b.length : Int) + p.length) = true) ∨ (decide ((4194304 : Int) < (f.b.length : Int) + p.length) = false ∧ decide ((d.room : Int) - d.used < p.length) = true) ∨ (decide ((4194304 : Int) < (f.b.length : Int) + p.length) = false ∧ decide ((d.room : Int) - d.used < p.length) = false ∧ (decide ((1048576 : Int) ≤ d.ops) = true)) := by have := HU.out; simp only [decide_eq_true_eq, decide_eq_false_iff_not]; omega
        clear hfull
        unfold ptrV strV at *
        rcases key with k1 | ⟨k1, k2⟩ | ⟨k1, k2, k3⟩
        all_goals
          go_enter Tryz.func71, Tryz.ntmps71
          go_wp2_with (go_at_call 92; refine HF.out.mono ?_; rintro e w1 ⟨rfl, rfl⟩)
          go_quiet (fail)
          go_wp2
          go_ret
          rw [HAP.out]
          exact ⟨rfl, HO.out, recs, own, HD.out.below (below_drewN _ _), .below (below_drewN _ _)⟩
      · rw [if_neg hfull] at hap
        have k1 : decide ((4194304 : Int) < (f.b.length : Int) + p.length) = false := by simp; omega
        have k2 : decide ((d.room : Int) - d.used < p.length) = false := by have := HO.out.used; simp; omega
        have k3 : decide ((1048576 : Int) ≤ d.ops) = false := by simp; omega
        have j5 : (d.used : Int) + p.length ≤ 9223372036854775807 := by have := HO.out.used; have := HO.out.room; omega
        have j6 : (0 : Int) ≤ (d.used : Int) + p.length := by omega
        have ho2 : d.ops < 1048576 := by omega
        have HFU := Lib.hid (show f.b.length + p.length ≤ 4194304 ∧ p.length ≤ d.room - d.used by omega)
        have hgo := fun W (h : DAt W g d recs own) => goes_any h ho2 hO.armed
        unfold Went at hgo
        unfold ptrV at hgo
        have HGO := Lib.hid hgo
        have HO2 := Lib.hid ho2
        have HR := Lib.hid hap
        clear hO hdd hdf hg hap hgo ho2 hfull
        unfold ptrV strV at *
        go_enter Tryz.func71, Tryz.ntmps71
        go_wp2_with (go_at_call 92; refine HF.out.mono ?_; rintro e w1 ⟨rfl, rfl⟩)
        go_quiet (fail)
        go_wp2_with fail
        go_at_call 86
        refine (HGO.out _ (HD.out.below (below_drewN _ _))).mono ?_
        rintro e w2 ⟨hk2, ⟨ha, rfl, hd2⟩ | ⟨ha, rfl, hd2⟩⟩
        all_goals
          have HA := Lib.hid ha
          have HK2 := Lib.hid ((Kept.of_below (F := (· = g)) (below_drewN w nq)).then hk2)
          have HD2 := Lib.hid hd2
          clear ha hk2 hd2
        · go_wp2
          go_ret
          rw [HR.out, op_gone HA.out]
          exact ⟨rfl, HO.out.gone, recs, own, HD2.out, ⟨HK2.out.mono fun b _ h => h ▸ HD.out.mine, fun _ _ => id⟩⟩
        · clear q0 c0 c1
          obtain ⟨fA, fC, fb, mb, sb, cA, cC, cb, M⟩ := HD2.out
          obtain ⟨r2, A, C, blk, hr2, hfa⟩ := M.fil i _ (fileAt_mem HIL.out)
          obtain rfl : r = r2 := Option.some.inj (HR0.out.symm.trans hr2)
          change FileAt w2 own i (fileAt d.files i) r A C blk at hfa
          rw [← HFF.out] at hfa
          have q0 : w2.cell? ⟨r, 0, none⟩ = some (.slice A f.b.length C) := cell_block hfa.row rfl
          have hX2 := HX.out.kept HK2.out (fun ad h _ e => HPF.out ad h (e ▸ HD.out.mine))
          have z1 : f.b.length + p.length ≤ maxLen := by have := HFU.out; unfold maxLen; omega
          have z2 : (f.b.length + p.length) * 1 ≤ 140737488355328 := by have := HFU.out; omega
          have hgr : ¬ g = r := fun e => by have := hfa.tag; rw [← e, M.tg] at this; cases this
          have hbr : ∀ b, blk = some b → ¬ b = r := fun b hb e => absurd (hfa.btag b hb) (by rw [e, hfa.tag]; simp)
          have hbg : ∀ b, blk = some b → ¬ b = g := fun b hb e => absurd (hfa.btag b hb) (by rw [e, M.tg]; simp)
          have HM := Lib.hid M
          have HFA := Lib.hid hfa
          have HX2 := Lib.hid hX2
          have HBR := Lib.hid hbr
          have HBG := Lib.hid hbg
          clear M hfa hr2 hX2 hbr hbg
          go_wp2_with (at_builtin; refine wpList_app rfl _ _ 22 rfl 5 1 1 _ Tryz.underlying22 info_u8r rfl (by decide) A f.b.length C (f.b.map V8) blk rfl HFA.out.bytes pa p.length pc (p.map V8) rfl (by simp) HX2.out.src.at_.cells HX2.out.src.nil HX2.out.src.od (bone p) z1 z2 ?_; intro B D w3 blk' h1 h2 h3; have hk3 : Kept (fun b => blk = some b) w2 w3 := (Kept.refl _ w2).grown h2 (fun k e => .inl e); have q03 : w3.cell? ⟨r, 0, none⟩ = some (.slice A f.b.length C) := cell_block (hk3.blk HFA.out.row (fun e => HBR.out r e rfl)) rfl; have fz3 := frozen_row (hk3.blk HFA.out.row (fun e => HBR.out r e rfl)); have c13 : w3.cell? ⟨g, 1, none⟩ = some (.int .i64 d.used) := cell_block (hk3.blk HM.out.row (fun e => HBG.out g e rfl)) rfl; have fg3 := frozen_row (hk3.blk HM.out.row (fun e => HBG.out g e rfl)); have H1 := Lib.hid h1; have H3 := Lib.hid h3; have HK3 := Lib.hid hk3; clear h1 h2 h3 hk3)
          go_ret
          rw [HR.out, op_went HA.out]
          have hlen : (appF p f).b.length = f.b.length + p.length := by simp [appF]
          have hk4 : Kept (fun b => b = r ∨ blk = some b) w2 (w3.setCell ⟨r, 0, none⟩ (.slice B (f.b.length + p.length) D)) := (HK3.out.mono fun b _ h => .inr h).setCell _ _ (.inl (.inl rfl))
          have hrow : (w3.setCell ⟨r, 0, none⟩ (.slice B (f.b.length + p.length) D)).heap[r]? = some (.cells #[.slice B (appF p f).b.length D, .int .i64 (appF p f).synced] 109 (0, 0)) := by
            rw [setCell_one (HK3.out.blk HFA.out.row fun e => HBR.out r e rfl), hlen]; rfl
          have hnr : ∀ b, blk' = some b → ¬ b = r := fun b hb e => by
            rcases H3.out with h | h
            · exact HBR.out b (h ▸ hb) e
            · rw [h] at hb; have := Option.some.inj hb; have := in_heap HFA.out.row; omega
          have hb4 : OwnR (w3.setCell ⟨r, 0, none⟩ (.slice B (f.b.length + p.length) D)) 5 1 B (appF p f).b.length D ((appF p f).b.map V8) blk' := by
            rw [hlen]
            have h := H1.out.kept ((Kept.refl (· = r) w3).setCell ⟨r, 0, none⟩ (.slice B (f.b.length + p.length) D) (.inl rfl)) hnr
            rw [← List.map_append] at h
            exact h
          have hM4 := HM.out.refile (i := i) (f := f) (by rw [HFF.out]; exact fileAt_mem HIL.out) HR0.out HFA.out (appF p) hk4 hrow hb4 H3.out (Nat.le_refl _)
          have hus : usedIn (d.files.modify i (appF p)) d.dir = d.used + p.length := usedIn_modify HIL.out (by rw [← HFF.out, hlen]) HO.out.dirI ⟨s, HMEM.out⟩
          have hM5 := hM4.setUsed (d.used + p.length)
          have hOk : Ok { went d with files := (went d).files.modify i (appF p) } := (HO.out.went HO2.out).modified' i (appF p) HIL.out (by
            have h1 := HFU.out
            have h2 := HO.out.len (fileAt d.files i) (by rw [fileAt_eq HIL.out]; simp)
            show (appF p (fileAt d.files i)).b.length ≤ 4194304 ∧ (fileAt d.files i).synced ≤ (appF p (fileAt d.files i)).b.length
            rw [← HFF.out] at h2 ⊢
            omega) (by show usedIn (d.files.modify i (appF p)) d.dir ≤ d.room; rw [hus]; have := HFU.out; have := HO.out.used; omega)
          refine ⟨rfl, hOk, recs, grow own (.byt i) blk', ⟨fA, fC, fb, mb, sb, cA, cC, cb, ?_⟩, ⟨((HK2.out.mono fun b _ h => h ▸ HD.out.mine).then ((hk4.mono fun b _ h => ?_).setCell _ _ (.inl HD.out.mine))), fun b hb hf => ?_⟩⟩
          · rw [show ({ went d with files := (went d).files.modify i (appF p) } : DiskS).used = d.used + p.length from hus, show (d.used : Int) + (p.length : Int) = ((d.used + p.length : Nat) : Int) by omega]
            exact hM5
          · rcases h with rfl | h
            · exact foot_of HFA.out.tag
            · exact foot_of (HFA.out.btag b h)
          · unfold foot at hf ⊢
            rwa [grow_old (m := w.heap.size) H3.out HFA.out.btag HK2.out.size hb] at hf
end
end Go.Proofs.YtgpenpnobjecgaaGreatDoor
