/- disk.Remove, disk.Rename. -/
import Derived.Test.YtgpenpnobjecgaaGreatDoorJWalOwnCard16
import Derived.Test.YtgpenpnobjecgaaGreatDoorJWalOwnCard19
/- DRemove -/
namespace Go.Proofs.YtgpenpnobjecgaaGreatDoor
set_option maxRecDepth 100000
open Go.RowKit Go.Maps Dk

section
variable {w : World} {g : Nat} {d : DiskS} {recs : List Nat} {own : Nat → Option DTag}
theorem DAtU.dead {u : Nat} (hd : DAtU w g d u recs own) : w.cell? ⟨g, 8, none⟩ = some (.bool d.dead) := by
  obtain ⟨fA, fC, fb, mb, sb, cA, cC, cb, M⟩ := hd
  exact cell_block M.row rfl
theorem DAtU.ops {u : Nat} (hd : DAtU w g d u recs own) : w.cell? ⟨g, 6, none⟩ = some (.int .i64 d.ops) := by
  obtain ⟨fA, fC, fb, mb, sb, cA, cC, cb, M⟩ := hd
  exact cell_block M.row rfl
theorem usedIn_remove {d : DiskS} (h : Ok d) {s : Bs} (hs : s ≠ []) : usedIn d.files (turn d.dir ⟨s, [], 0⟩) ≤ d.used := by
  have := usedIn_turn d.files (c := ⟨s, [], 0⟩) h.dirR hs h.dget_nil
  simp only [if_true] at this
  show _ ≤ usedIn _ _
  omega
set_option maxRecDepth 100000 in
set_option maxHeartbeats 1000000 in
theorem remove_any (hd : DAt w g d recs own) (hO : Ok d) (s : Bs) (hs : s.length ≤ maxLen) : Calls Tryz.prog 58 #[ptrV g, strV s] w (DPost w g own (remove d s)) := by
  have c8 := DAtU.dead hd
  have c6 := DAtU.ops hd
  have hf := find_any hd (fun p hp => (hO.dirF p hp).1) s hs
  have HD := Lib.hid hd
  have HO := Lib.hid hO
  by_cases hdd : d.dead = true
  · have hr := Lib.hid (show remove d s = (d, 51) by unfold remove; rw [if_pos hdd])
    rw [hdd] at c8
    clear hd hO hf hdd c6
    unfold ptrV strV
    go_enter Tryz.func58, Tryz.ntmps58
    go_wp2
    go_ret
    rw [hr.out]
    exact DPost.same HD.out HO.out 51
  · have hdf : d.dead = false := by simpa using hdd
    cases hg : dget d.dir s with
    | none =>
      have hr := Lib.hid (show remove d s = (d, 7) by unfold remove; rw [if_neg hdd, hg])
      rw [hdf] at c8
      rw [hg] at hf
      clear hd hO hdd hdf c6 hg
      unfold ptrV strV at *
      go_enter Tryz.func58, Tryz.ntmps58
      go_wp2_with (go_at_call 92; refine hf.mono ?_; rintro e w1 ⟨rfl, rfl⟩)
      go_ret
      rw [hr.out]
      exact DPost.same HD.out HO.out 7
    | some i =>
      rw [hdf] at c8
      rw [hg] at hf
      by_cases ho : 1048576 ≤ d.ops
      · have hr := Lib.hid (show remove d s = (d, 5) by unfold remove; rw [if_neg hdd, hg]; simp only []; rw [if_pos ho])
        have ho' : (1048576 : Int) ≤ d.ops := by omega
        clear hd hO hdd hdf hg ho
        unfold ptrV strV at *
        go_enter Tryz.func58, Tryz.ntmps58
        go_wp2_with (go_at_call 92; refine hf.mono ?_; rintro e w1 ⟨rfl, rfl⟩)
        go_ret
        rw [hr.out]
        exact DPost.same HD.out HO.out 5
      · have hr : remove d s = op d fun d => note d ⟨s, [], 0⟩ := by unfold remove; rw [if_neg hdd, hg]; simp only []; rw [if_neg ho]
        have ho' : decide ((1048576 : Int) ≤ d.ops) = false := by simp; omega
        have ho2 : d.ops < 1048576 := by omega
        have hgo := goes_any hd ho2 hO.armed
        have hnm := (hO.dget_lt hg).2
        have hne : s ≠ [] := fun e => by have := (named_len hnm).1; rw [e] at this; simp at this
        have HO2 := Lib.hid ho2
        have hnote := fun W (h : DAtU W g (went d) d.used recs own) => note_any (w := W) (g := g) (d := went d) h (hO.went ho2) s [] 0 (named_len hnm).2 (by simp) hne hO.ndir (fun h => absurd rfl h) (fun _ => rfl) (Nat.le_trans (usedIn_remove hO hne) hO.used)
        have hok : Ok (note (went d) ⟨s, [], 0⟩) := (hO.went ho2).note ⟨s, [], 0⟩ (Nat.zero_le _) (fun h => absurd rfl h) (fun _ => hnm) (Nat.le_trans (usedIn_remove hO hne) hO.used) (length_turn (.inl rfl) (fun h => absurd rfl h) hO.ndir) (by have := hO.nchg; show d.chg.length + 1 ≤ d.ops + 1; omega) (fun h => absurd rfl h)
        have HOK := Lib.hid hok
        have HNOTE := Lib.hid hnote
        clear hnote hok
        unfold Went at hgo
        have HR := Lib.hid hr
        clear hd hO hdd hdf hg ho hr ho2 hnm hne
        unfold ptrV at hf ⊢
        unfold strV at hf ⊢
        unfold ptrV at hgo
        have HGO := Lib.hid hgo
        have HF := Lib.hid hf
        clear hgo hf
        go_enter Tryz.func58, Tryz.ntmps58
        go_wp2_with (go_at_call 92; refine HF.out.mono ?_; rintro e w1 ⟨rfl, rfl⟩)
        go_at_call 86
        refine HGO.out.mono ?_
        rintro e w2 ⟨hk2, ⟨ha, rfl, hd2⟩ | ⟨ha, rfl, hd2⟩⟩
        all_goals
          have HA := Lib.hid ha
          have HK2 := Lib.hid hk2
          have HD2 := Lib.hid hd2
          clear ha hk2 hd2
        · go_wp2
          go_ret
          rw [HR.out, op_gone HA.out]
          exact ⟨rfl, HO.out.gone, recs, own, HD2.out, ⟨HK2.out.mono fun b _ h => h ▸ HD.out.mine, fun _ _ => id⟩⟩
        · go_wp2_with (go_at_call 93; refine (HNOTE.out _ HD2.out).mono ?_; rintro e w3 ⟨rfl, own3, hd3, ht3⟩; have HD3 := Lib.hid hd3; have HT3 := Lib.hid ht3; clear hd3 ht3)
          go_ret
          rw [HR.out, op_went HA.out]
          exact ⟨rfl, HOK.out, recs, own3, HD3.out, Turned.trans ⟨HK2.out.mono fun b _ h => h ▸ HD.out.mine, fun _ _ => id⟩ HT3.out⟩
theorem dget_two {d : DiskS} (h : Ok d) {s u : Bs} {i : Nat} (h1 : dget d.dir s = some i) (h2 : (u, i) ∈ d.dir) : u = s := by
  have hm := dget_mem h1
  have hn := h.dirI
  have key : ∀ {l : Dir}, (l.map (·.2)).Nodup → (s, i) ∈ l → (u, i) ∈ l → u = s := fun {l} => by
    induction l with
    | nil => intro _ h; cases h
    | cons y r ih =>
      intro hn h1 h2
      rw [List.map_cons, List.nodup_cons] at hn
      rcases List.mem_cons.1 h1 with e1 | e1
      · rcases List.mem_cons.1 h2 with e2 | e2
        · exact (Prod.mk.inj (e2.trans e1.symm)).1
        · exact absurd (List.mem_map.2 ⟨_, e2, by rw [← e1]⟩) hn.1
      · rcases List.mem_cons.1 h2 with e2 | e2
        · exact absurd (List.mem_map.2 ⟨_, e1, by rw [← e2]⟩) hn.1
        · exact ih hn.2 e1 e2
  exact key hn hm h2
theorem usedIn_rename {d : DiskS} (h : Ok d) {s t : Bs} {i : Nat} (hs : dget d.dir s = some i) (hne : s ≠ t) (ht : t ≠ []) : usedIn d.files (turn d.dir ⟨s, t, i⟩) ≤ d.used := by
  have := usedIn_turn d.files (c := ⟨s, t, i⟩) h.dirR hne h.dget_nil
  simp only [if_neg ht] at this
  have h2 : lenAt d.files d.dir s = (fileAt d.files i).b.length := by unfold lenAt; rw [hs]
  show _ ≤ usedIn _ _
  omega
set_option maxRecDepth 100000 in
set_option maxHeartbeats 1000000 in
theorem rename_any (hd : DAt w g d recs own) (hO : Ok d) (s t : Bs) (hs : s.length ≤ maxLen) (ht : t.length ≤ maxLen) : Calls Tryz.prog 99 #[ptrV g, strV s, strV t] w (DPost w g own (rename d s t)) := by
  have c8 := DAtU.dead hd
  have c6 := DAtU.ops hd
  have hf := find_any hd (fun p hp => (hO.dirF p hp).1) s hs
  have hnam := fun W => named_any t W (by unfold maxLen at ht; omega)
  have HD := Lib.hid hd
  have HO := Lib.hid hO
  have HNAM := Lib.hid hnam
  clear hnam
  unfold strV at HNAM
  by_cases hdd : d.dead = true
  · have hr := Lib.hid (show rename d s t = (d, 51) by unfold rename; rw [if_pos hdd])
    rw [hdd] at c8
    clear hd hO hf hdd c6
    unfold ptrV strV
    go_enter Tryz.func99, Tryz.ntmps99
    go_wp2
    go_ret
    rw [hr.out]
    exact DPost.same HD.out HO.out 51
  · have hdf : d.dead = false := by simpa using hdd
    cases hg : dget d.dir s with
    | none =>
      have hr := Lib.hid (show rename d s t = (d, 7) by unfold rename; rw [if_neg hdd, hg])
      rw [hdf] at c8
      rw [hg] at hf
      clear hd hO hdd hdf c6 hg
      unfold ptrV strV at *
      have HF := Lib.hid hf
      clear hf
      go_enter Tryz.func99, Tryz.ntmps99
      go_wp2_with (go_at_call 92; refine HF.out.mono ?_; rintro e w1 ⟨rfl, rfl⟩)
      go_ret
      rw [hr.out]
      exact DPost.same HD.out HO.out 7
    | some i =>
      rw [hdf] at c8
      rw [hg] at hf
      have HF := Lib.hid hf
      clear hf
      unfold ptrV strV at HF
      by_cases hnm : named t = false
      · have hr := Lib.hid (show rename d s t = (d, 50) by unfold rename; rw [if_neg hdd, hg]; simp only []; rw [if_pos (by simp [hnm])])
        have HN := Lib.hid hnm
        clear hd hO hdd hdf hg hnm
        unfold ptrV strV at *
        go_enter Tryz.func99, Tryz.ntmps99
        go_wp2_with (first | (go_at_call 92; refine HF.out.mono ?_; rintro e w1 ⟨rfl, rfl⟩) | (go_at_call 50; refine (HNAM.out _).mono ?_; rw [HN.out]; rintro e w1 ⟨rfl, rfl⟩))
        go_ret
        rw [hr.out]
        exact DPost.same HD.out HO.out 50
      · have hnt : named t = true := by simpa using hnm
        have HN := Lib.hid hnt
        by_cases ho : 1048576 ≤ d.ops
        · have hr := Lib.hid (show rename d s t = (d, 5) by unfold rename; rw [if_neg hdd, hg]; simp only []; rw [if_neg (by simp [hnt]), if_pos ho])
          have ho' : (1048576 : Int) ≤ d.ops := by omega
          clear hd hO hdd hdf hg ho hnm hnt
          unfold ptrV strV at *
          go_enter Tryz.func99, Tryz.ntmps99
          go_wp2_with (first | (go_at_call 92; refine HF.out.mono ?_; rintro e w1 ⟨rfl, rfl⟩) | (go_at_call 50; refine (HNAM.out _).mono ?_; rw [HN.out]; rintro e w1 ⟨rfl, rfl⟩))
          go_ret
          rw [hr.out]
          exact DPost.same HD.out HO.out 5
        · have hr : rename d s t = op d fun d => if s = t then d else note d ⟨s, t, i⟩ := by unfold rename; rw [if_neg hdd, hg]; simp only []; rw [if_neg (by simp [hnt]), if_neg ho]
          have ho' : decide ((1048576 : Int) ≤ d.ops) = false := by simp; omega
          have ho2 : d.ops < 1048576 := by omega
          have hgo := goes_any hd ho2 hO.armed
          unfold Went at hgo
          unfold ptrV at hgo
          have HGO := Lib.hid hgo
          have HO2 := Lib.hid ho2
          have HR := Lib.hid hr
          have hlt := hO.dget_lt hg
          have HG := Lib.hid hg
          have HLT := Lib.hid hlt
          clear hd hO hdd hdf hg ho hr hgo hlt hnm hnt ho2
          unfold ptrV strV at *
          go_enter Tryz.func99, Tryz.ntmps99
          go_wp2_with (first | (go_at_call 92; refine HF.out.mono ?_; rintro e w1 ⟨rfl, rfl⟩) | (go_at_call 50; refine (HNAM.out _).mono ?_; rw [HN.out]; rintro e w1 ⟨rfl, rfl⟩))
          go_at_call 86
          refine HGO.out.mono ?_
          rintro e w2 ⟨hk2, ⟨ha, rfl, hd2⟩ | ⟨ha, rfl, hd2⟩⟩
          all_goals
            have HA := Lib.hid ha
            have HK2 := Lib.hid hk2
            have HD2 := Lib.hid hd2
            clear ha hk2 hd2
          · go_wp2
            go_ret
            rw [HR.out, op_gone HA.out]
            exact ⟨rfl, HO.out.gone, recs, own, HD2.out, ⟨HK2.out.mono fun b _ h => h ▸ HD.out.mine, fun _ _ => id⟩⟩
          · obtain ⟨fA, fC, fb, mb, sb, cA, cC, cb, M⟩ := HD2.out
            have c3 : w2.cell? ⟨g, 3, none⟩ = some (.map (some mb)) := cell_block M.row rfl
            have hlk := M.dir.look hs
            change (Instr.lookup 99 (.map (some mb)) (strV s) false).run Tryz.prog w2 = .ok (.int .i64 ((dget d.dir s).getD 0 : Nat)) w2 at hlk
            rw [HG.out] at hlk
            simp only [Option.getD_some] at hlk
            unfold strV at hlk
            clear M
            by_cases hst : s = t
            · subst hst
              go_wp2
              go_ret
              rw [HR.out, op_went HA.out, if_pos trivial]
              exact ⟨rfl, HO.out.went HO2.out, recs, own, HD2.out, ⟨HK2.out.mono fun b _ h => h ▸ HD.out.mine, fun _ _ => id⟩⟩
            · have htne : t ≠ [] := fun e => by have := (named_len HN.out).1; rw [e] at this; simp at this
              have hu := usedIn_rename HO.out HG.out hst htne
              have hsn : s ≠ [] := fun e => by have := (named_len HLT.out.2).1; rw [e] at this; simp at this
              have HNOTE := Lib.hid (note_any (w := w2) (g := g) (d := went d) HD2.out (HO.out.went HO2.out) s t i (named_len HLT.out.2).2 (named_len HN.out).2 hst HO.out.ndir (fun _ => HLT.out.1) (fun h => absurd h htne) (Nat.le_trans hu HO.out.used))
              have HOK : Hid (Ok (note (went d) ⟨s, t, i⟩)) := Lib.hid ((HO.out.went HO2.out).note ⟨s, t, i⟩ (Nat.le_of_lt HLT.out.1) (fun _ => ⟨HLT.out.1, HN.out⟩) (fun _ => HLT.out.2) (Nat.le_trans hu HO.out.used) (length_turn (.inr (.inl (by show (dget d.dir s).isSome = true; rw [HG.out]; rfl))) (fun _ _ => hsn) HO.out.ndir) (by have := HO.out.nchg; show d.chg.length + 1 ≤ d.ops + 1; omega) (fun _ p hp he => .inl ⟨dget_two HO.out HG.out (by rw [← show p.2 = i from he]; exact hp), hsn⟩))
              clear htne hu hsn
              have HST := Lib.hid hst
              have hq : (s == t) = false := by simpa using hst
              clear hst
              go_wp2_with (go_at_call 93; refine HNOTE.out.mono ?_; rintro e w3 ⟨rfl, own3, hd3, ht3⟩; have HD3 := Lib.hid hd3; have HT3 := Lib.hid ht3; clear hd3 ht3)
              go_ret
              rw [HR.out, op_went HA.out, if_neg HST.out]
              exact ⟨rfl, HOK.out, recs, own3, HD3.out, Turned.trans ⟨HK2.out.mono fun b _ h => h ▸ HD.out.mine, fun _ _ => id⟩ HT3.out⟩
end
end Go.Proofs.YtgpenpnobjecgaaGreatDoor
