/- WalAgain in plain Lean: opened again, or cut off while it is opened, a log tells the same. -/
import Derived.Test.YtgpenpnobjecgaaGreatDoorJWalSafeCard37
/- Crash4 -/
namespace Go.Proofs.YtgpenpnobjecgaaGreatDoor
set_option maxRecDepth 100000
open Go.RowKit Dk

theorem newFrom_keeps {R : Nat} : ∀ {fs : Files} {d d' : DiskS}, newFrom R fs d = (d', 0) → (∀ f ∈ d.files, f.synced = f.b.length) →
    d'.chg = d.chg ∧ d'.safe = d.safe ∧ d'.ops = d.ops ∧ d'.armed = d.armed ∧ d'.dead = d.dead ∧ d'.room = d.room ∧ ∀ f ∈ d'.files, f.synced = f.b.length
  | [], d, d', h, hs => by
    injection h with h _
    subst h
    exact ⟨rfl, rfl, rfl, rfl, rfl, rfl, hs⟩
  | (s, b) :: r, d, d', h, hs => by
    rw [newFrom_cons] at h
    split at h
    · injection h with _ h; cases h
    · split at h
      · injection h with _ h; cases h
      · split at h
        · injection h with _ h; cases h
        · have h2 := newFrom_keeps (d := dkAdd d s b) h fun f hf => by
            rcases List.mem_append.1 (show f ∈ d.files ++ [⟨b, b.length⟩] from hf) with hf | hf
            · exact hs f hf
            · rw [List.mem_singleton.1 hf]
          exact h2
theorem new_some {fs : Files} {R : Int} {d : DiskS} (h : Dk.new fs R = (some d, 0)) : 0 ≤ R ∧ ∃ d1, newFrom R.toNat fs (Dk.empty R.toNat) = (d1, 0) ∧ d = { d1 with safe := d1.dir } := by
  unfold Dk.new at h
  split at h
  · cases h
  · split at h
    · cases h
    · split at h
      · next d1 hd1 =>
        split at h
        · cases h
        · injection h with h _
          injection h with h
          exact ⟨by omega, d1, hd1, h.symm⟩
      · cases h
theorem new_calm {fs : Files} {R : Int} {d : DiskS} (h : Dk.new fs R = (some d, 0)) : Calm 0 d ∧ d.armed = 0 ∧ (d.room : Int) = R := by
  obtain ⟨h0, d1, h1, rfl⟩ := new_some h
  obtain ⟨k1, k2, k3, k4, k5, k6, k7⟩ := newFrom_keeps h1 (fun f hf => by cases hf)
  refine ⟨⟨k5, Nat.le_of_eq k3, k1, rfl, fun p hp => ?_⟩, k4, ?_⟩
  · by_cases hi : p.2 < d1.files.length
    · show (fileAt d1.files p.2).synced = _
      rw [fileAt_eq hi]
      exact k7 _ (List.getElem_mem hi)
    · show (fileAt d1.files p.2).synced = (fileAt d1.files p.2).b.length
      unfold fileAt
      rw [List.getD_eq_getElem?_getD, List.getElem?_eq_none (by omega)]
      rfl
  · show (d1.room : Int) = R
    rw [k6]
    show (R.toNat : Int) = R
    omega
theorem dins_last {x : Bs × Nat} : ∀ {l : Dir}, (∀ p ∈ l, bytesBefore p.1 x.1 = true) → dins x l = l ++ [x]
  | [], _ => rfl
  | y :: r, h => by
    unfold dins
    have h1 := h y (by simp)
    rw [if_neg, dins_last fun p hp => h p (by simp [hp])]
    · rfl
    · intro h2
      have := before_trans h1 h2
      simp [before_irrefl] at this
theorem newFrom_fits {R : Nat} : ∀ (fs pre : Files) (d : DiskS), (pre ++ fs).Pairwise (fun p q => bytesBefore p.1 q.1 = true) → (∀ p ∈ fs, named p.1 = true) → (∀ p ∈ fs, p.2.length ≤ 4194304) → view d = pre → (∀ p ∈ d.dir, p.2 < d.files.length) →
    ∃ d', newFrom R fs d = (d', 0) ∧ view d' = pre ++ fs
  | [], pre, d, _, _, _, hv, _ => ⟨d, rfl, by rw [List.append_nil]; exact hv⟩
  | (s, b) :: r, pre, d, hr, hn, hl, hv, hi => by
    have hb : ∀ p ∈ d.dir, bytesBefore p.1 s = true := fun p hp => by
      have hm : (p.1, (fileAt d.files p.2).b) ∈ pre := by rw [← hv]; exact mem_fmap.2 ⟨p.2, hp, rfl⟩
      exact (List.pairwise_append.1 hr).2.2 _ hm (s, b) (by simp)
    have hg : dget d.dir s = none := dget_none.2 fun p hp e => by
      have := hb p hp
      rw [e] at this
      simp [before_irrefl] at this
    have hd : dput d.dir s d.files.length = d.dir ++ [(s, d.files.length)] := by
      unfold dput
      rw [ddel_none hg, dins_last hb]
    have hv2 : view (dkAdd d s b) = pre ++ [(s, b)] := by
      unfold view dkAdd
      show fmapF _ (dput d.dir s d.files.length) = _
      rw [hd, ← hv]
      unfold fmapF view fmapF
      rw [List.map_append, List.map_singleton]
      congr 1
      · exact List.map_congr_left fun p hp => by
          show (p.1, (fileAt (d.files ++ [(⟨b, b.length⟩ : FileS)]) p.2).b) = _
          rw [fileAt_push (hi p hp)]
      · show [(s, (fileAt (d.files ++ [(⟨b, b.length⟩ : FileS)]) d.files.length).b)] = _
        rw [fileAt_last]
    rw [newFrom_cons, hn (s, b) (by simp), hg, if_neg (by simp), if_neg (by simp), if_neg (by have := hl (s, b) (by simp); simp only at this; omega)]
    obtain ⟨d', e1, e2⟩ := newFrom_fits r (pre ++ [(s, b)]) (dkAdd d s b) (by rw [List.append_assoc]; exact hr) (fun p hp => hn p (by simp [hp])) (fun p hp => hl p (by simp [hp])) hv2 (fun p hp => by
      have hp' : p ∈ dput d.dir s d.files.length := hp
      rw [hd] at hp'
      show p.2 < (d.files ++ [_]).length
      rw [List.length_append, List.length_singleton]
      rcases List.mem_append.1 hp' with h | h
      · have := hi p h; omega
      · rw [List.mem_singleton.1 h]; omega)
    exact ⟨d', e1, by rw [e2, List.append_assoc]; rfl⟩
theorem new_fits {R : Nat} {fs : Files} (h : Fits R fs) : ∃ d, Dk.new fs (R : Int) = (some d, 0) ∧ view d = fs ∧ Calm 0 d ∧ d.armed = 0 ∧ d.room = R := by
  obtain ⟨d1, h1, h2⟩ := newFrom_fits (R := R) fs [] (Dk.empty R) h.rise h.nam h.len rfl (fun p hp => by cases hp)
  rw [List.nil_append] at h2
  obtain ⟨k1, k2, k3, k4, k5, k6, k7⟩ := newFrom_keeps h1 (fun f hf => by cases hf)
  have hu : d1.used = fsum fs := by
    rw [← h2]
    show _ = fsum (fmapF _ _)
    rw [fsum_fmap]
    rfl
  have hn : Dk.new fs (R : Int) = (some { d1 with safe := d1.dir }, 0) := by
    unfold Dk.new
    rw [if_neg (by omega), if_neg (by have := h.many; omega), show (R : Int).toNat = R by omega, h1]
    simp only []
    rw [if_neg (by rw [hu, k6]; have := h.sum; show ¬ R < _; omega)]
  have hc := new_calm hn
  exact ⟨_, hn, h2, hc.1, hc.2.1, by have := hc.2.2; omega⟩

section
variable {ex z : Prop} {Nm : Bs → Prop} {d d' : DiskS} {o : Nat} {s : Bs} {rs : List Bs} {L : LogS}
/-- What an Open leaves tells the same. -/
theorem Opened.tells (h : Opened ex z Nm d d' o s rs L) : Tells ex d'.room (view d') s rs := by
  obtain ⟨b, i, h1, h2, h3, h4, h5⟩ := h.file
  refine .gen L.epoch b b.length 0 ⟨h.epoch.1, h.epoch.2, mem_fmap.2 ⟨i, dget_mem h1, h2⟩, fun n c hn hn1 hn2 => ?_⟩ h4 (fun e => by rw [List.take_length]; exact h5 e) fun h => absurd h (Nat.lt_irrefl 0)
  obtain ⟨j, hj, _⟩ := mem_fmap.1 hn
  rcases h.rest _ hj with e | ⟨e, _⟩
  · have := nameW_inj (by omega) (by have := h.epoch.2; omega) e
    omega
  · rw [genOf_name hn1 hn2] at e
    cases e
/-- A power failure leaves it as it is. -/
theorem Calm.left (hc : Calm o d) (c : Int) (tails : List Int) : left d c tails = view d := by
  show fmapF (leftFile d tails) (leftDir d c) = _
  unfold leftDir
  rw [hc.chg, hc.safe]
  simp only [List.take_nil, List.foldl_nil]
  exact fmap_congr fun p hp => (cut_left d tails p.2).whole (hc.syn p hp)
theorem Calm.good (hc : Calm o d) (hO : Ok d) (hT : Tells ex d.room (view d) s rs) (hN : ∀ p ∈ view d, Nm p.1) : AL (GoodT ex d.room Nm s rs) d := fun c tails => by
  rw [hc.left]
  exact ⟨fits_view hO, hT, hN⟩
theorem Calm.arm (hc : Calm o d) (n : Int) : Calm o (Dk.arm d n) := by
  unfold Dk.arm
  rw [if_neg (by rw [hc.live]; simp)]
  exact ⟨hc.live, hc.ops, hc.chg, hc.safe, hc.syn⟩
theorem arm_view (d : DiskS) (n : Int) : view (Dk.arm d n) = view d := by
  unfold Dk.arm
  split <;> rfl
theorem arm_room (d : DiskS) (n : Int) : (Dk.arm d n).room = d.room := by
  unfold Dk.arm
  split <;> rfl
/-- What is read is as it must be, where Open gives a log. -/
theorem make_zero {x : DiskS} {n : Nat} {b : Bs} (hl : x.dead = false) (h : (make1W x n b).2 = 0) : x.used + b.length ≤ x.room ∨ b = [] := by
  by_cases hb : b = []
  · exact .inr hb
  · left
    unfold make1W at h
    split at h
    · cases h
    · next h1 =>
      unfold free at h1
      rw [hl] at h1
      simp at h1
      have : 0 < b.length := List.length_pos_iff.2 hb
      omega
theorem make_many {x : DiskS} {n : Nat} {b : Bs} (hl : x.dead = false) (h : (make1W x n b).2 = 0) : x.dir.length < 64 := by
  unfold make1W at h
  split at h
  · cases h
  · have h1 := (next_zero (next_zero (next_zero (next_zero h).1).1).1).1
    unfold create at h1
    rw [hl] at h1
    simp only [Bool.false_eq_true, if_false] at h1
    split at h1
    · cases h1
    · split at h1
      · cases h1
      · split at h1
        · cases h1
        · next h2 => omega
theorem closeW_zero {r : DiskS × Nat} {older : List Nat} {L L' : LogS} {d' : DiskS} (h : closeW r older L = (d', some L', 0)) : r.2 = 0 ∧ L' = L := by
  by_cases hr : r.2 = 0
  · refine ⟨hr, ?_⟩
    have h2 : (closeW r older L).2.1 = some L' := by rw [h]
    unfold closeW at h2
    simp only [] at h2
    split at h2 <;> split at h2 <;> first | exact (Option.some.inj h2).symm | cases h2
  · rw [closeW_err hr] at h
    injection h with _ h
    injection h with h _
    cases h
theorem open_tells (hO : Ok d) (hc : Calm o d) (ho : o + 80 ≤ 1048576) (ha : d.armed = 0) (h : openW d = (d', some L, 0)) : Tells False d.room (view d) L.state L.records := by
  have hR1 : Rising (ddel d.dir tempW) := rising_ddel hO.dirR _
  have hcore : coreF (view d) = fmapF (fun i => (fileAt d.files i).b) (ddel d.dir tempW) := core_fmap _ _
  have hx : ∃ x, tempGone d = (x, 0) ∧ x.dead = false ∧ x.dir = ddel d.dir tempW ∧ x.files = d.files ∧ x.room = d.room := by
    unfold tempGone Dk.read
    rw [hc.live]
    cases hg : dget d.dir tempW with
    | none =>
      simp only [Bool.false_eq_true, if_false]
      rw [if_neg (by simp)]
      exact ⟨d, rfl, hc.live, (ddel_none hg).symm, rfl, rfl⟩
    | some i =>
      simp only [Bool.false_eq_true, if_false, if_true]
      have hu : Up (0 + 1) d := ⟨hc.live, .inl ha, by have := hc.ops; omega⟩
      rw [remove_up hu hg]
      exact ⟨_, rfl, hc.live, by simp [note, ticked, turn, tempW_ne], rfl, rfl⟩
  obtain ⟨x, e, hl, hd, hf, hroom⟩ := hx
  have hmk : ∀ {n : Nat} {b : Bs}, (make1W x n b).2 = 0 → b ≠ [] → Makes d.room (view d) b.length := fun {n b} h0 hb => by
    have h1 := (make_zero hl h0).resolve_right hb
    have h2 := make_many hl h0
    have hus : x.used = dsum (fun i => (fileAt d.files i).b) (ddel d.dir tempW) := by
      unfold DiskS.used
      rw [hf, hd]
      rfl
    exact ⟨by rw [hcore, fsum_fmap, ← hus, ← hroom]; exact h1, by rw [hcore]; unfold fmapF; rw [List.length_map, ← hd]; exact h2, make1W_len h0⟩
  have hbn : ∀ n s rs, bytesW n s rs ≠ [] := fun n s rs hh => by
    have := congrArg List.length hh
    unfold bytesW at this
    rw [List.length_append, sealW_len] at this
    simp at this
  have hview : ∀ n c, (nameW n, c) ∈ view d ↔ ∃ i, (nameW n, i) ∈ d.dir ∧ (fileAt d.files i).b = c := fun n c => mem_fmap
  have hlist : Dk.list x = (ddel d.dir tempW).map (·.1) := by
    unfold Dk.list
    rw [hl, hd]
    simp
  have hgm : ∀ n, n ∈ gensW ((ddel d.dir tempW).map (·.1)) ↔ 1 ≤ n ∧ n ≤ 1099511627776 ∧ ∃ c, (nameW n, c) ∈ view d := fun n => by
    rw [mem_gens]
    refine and_congr_right fun _ => and_congr_right fun _ => ⟨fun h => ?_, fun ⟨c, h⟩ => ?_⟩
    · obtain ⟨p, hp, e⟩ := List.mem_map.1 h
      exact ⟨_, (hview n _).2 ⟨p.2, by rw [← e]; exact (mem_ddel.1 hp).1, rfl⟩⟩
    · obtain ⟨i, hi, _⟩ := (hview n c).1 h
      exact List.mem_map.2 ⟨_, mem_ddel.2 ⟨hi, fun e => temp_ne n e.symm⟩, rfl⟩
  unfold openW at h
  rw [if_neg (by rw [hc.live]; simp), e] at h
  simp only [if_true] at h
  unfold openBody at h
  rw [hlist] at h
  cases hlast : (gensW ((ddel d.dir tempW).map (·.1))).getLast? with
  | none =>
    rw [hlast] at h
    obtain ⟨h0, rfl⟩ := closeW_zero h
    have hm := hmk h0 (hbn _ _ _)
    rw [bytes_one] at hm
    refine .none (fun n c hn h1 h2 => ?_) rfl rfl hm
    have := (hgm n).2 ⟨h1, h2, c, hn⟩
    rw [List.getLast?_eq_none_iff.1 hlast] at this
    cases this
  | some m =>
    rw [hlast] at h
    simp only [] at h
    obtain ⟨hmm, htop⟩ := last_top (gens_sorted _) hlast
    obtain ⟨a1, a2, b, a3⟩ := (hgm m).1 hmm
    obtain ⟨i, hi, hb⟩ := (hview m b).1 a3
    have hi1 : (nameW m, i) ∈ ddel d.dir tempW := mem_ddel.2 ⟨hi, fun e => temp_ne m e.symm⟩
    have hN : Newest (view d) m b := ⟨a1, a2, a3, fun n c hn h1 h2 => htop n ((hgm n).2 ⟨h1, h2, c, hn⟩)⟩
    unfold openOf at h
    have hread : Dk.read x (nameW m) = (b, 0) := by
      unfold Dk.read
      rw [hl, hd, dget_of_mem hR1 hi1]
      simp [hf, hb]
    cases hrb : readB b m with
    | none =>
      have : readW x m = (none, 61) := by unfold readW; rw [hread]; simp [hrb]
      rw [this] at h
      cases h
    | some r =>
      have : readW x m = (some r, 0) := by unfold readW; rw [hread]; simp [hrb]
      rw [this] at h
      simp only [] at h
      obtain ⟨s, rs, wh, cut⟩ := r
      by_cases h0 : 0 < cut
      · rw [if_pos h0] at h
        split at h
        · cases h
        · next hne =>
          obtain ⟨h1, rfl⟩ := closeW_zero h
          exact .gen m b wh cut hN hrb False.elim fun _ => ⟨by omega, hmk h1 (hbn _ _ _)⟩
      · rw [if_neg h0] at h
        obtain ⟨_, rfl⟩ := closeW_zero h
        exact .gen m b wh cut hN hrb False.elim fun h2 => absurd h2 h0
end
end Go.Proofs.YtgpenpnobjecgaaGreatDoor

/- Crash5 -/
namespace Go.Proofs.YtgpenpnobjecgaaGreatDoor
set_option maxRecDepth 100000
open Go.RowKit Dk

theorem closeW_code (r : DiskS × Nat) (older : List Nat) (L : LogS) : (closeW r older L).2 = (some L, 0) ∨ ∃ q, q ≠ 0 ∧ (closeW r older L).2 = (none, q) := by
  unfold closeW
  simp only []
  generalize (if older = [] then next r (removeAll · older) else next (next r (removeAll · older)) syncDir) = r2
  split
  · exact .inl rfl
  · next h => exact .inr ⟨_, h, rfl⟩
theorem openW_code (d : DiskS) : (∃ L, (openW d).2 = (some L, 0)) ∨ ∃ q, q ≠ 0 ∧ (openW d).2 = (none, q) := by
  have cl : ∀ r older L, (∃ L', (closeW r older L).2 = (some L', 0)) ∨ ∃ q, q ≠ 0 ∧ (closeW r older L).2 = (none, q) := fun r older L => (closeW_code r older L).imp (fun h => ⟨_, h⟩) id
  unfold openW
  split
  · exact .inr ⟨2, by decide, rfl⟩
  · split
    · unfold openBody
      split
      · exact cl _ _ _
      · next m _ =>
        unfold openOf
        split
        · next q hq => exact .inr ⟨q, readW_none hq, rfl⟩
        · split
          · split
            · exact .inr ⟨5, by decide, rfl⟩
            · exact cl _ _ _
          · exact cl _ _ _
    · next h => exact .inr ⟨_, h, rfl⟩
theorem new_code (fs : Files) (R : Int) : (∃ d, Dk.new fs R = (some d, 0)) ∨ ∃ q, q ≠ 0 ∧ Dk.new fs R = (none, q) := by
  unfold Dk.new
  split
  · exact .inr ⟨2, by decide, rfl⟩
  · split
    · exact .inr ⟨32, by decide, rfl⟩
    · split
      · split
        · exact .inr ⟨5, by decide, rfl⟩
        · exact .inl ⟨_, rfl⟩
      · next e _ => exact .inr ⟨e + 1, by omega, rfl⟩
section
/-- Any names. -/
def anyN (_ : Bs) : Prop := True
theorem anyN_ok (fs : Files) : NmOk anyN fs := ⟨fun _ _ => trivial, trivial, trivial, fun _ _ _ => trivial⟩
variable {Nm : Bs → Prop} {d d1 : DiskS} {L : LogS} {s : Bs} {rs : List Bs}
theorem pair_eq {d : DiskS} {x : Option LogS × Nat} (h : (openW d).2 = x) : openW d = ((openW d).1, x) := by rw [← h]
theorem again_one (h : openW d = (d1, some L, 0)) (hO : Ok d) (hc : Calm 0 d) (ha : d.armed = 0) : Tells False d.room (view d) L.state L.records ∧ Opened False True anyN d d1 80 L.state L.records L := by
  have hT := open_tells hO hc (by decide) ha h
  refine ⟨hT, ?_⟩
  rcases open_holds (z := True) hO hc (fun _ => ha) (by decide) hT (anyN_ok _) with ⟨L2, h1, h2⟩ | ⟨h0, _⟩
  · rw [h] at h1 h2
    injection h1 with h1 _
    injection h1 with h1
    rw [h1]
    rw [h1] at h2
    exact h2
  · exact absurd trivial h0
theorem again_two {ex : Prop} {d0 : DiskS} {o : Nat} (ho : Opened ex True Nm d0 d1 o s rs L) (hO : Ok d1) (hl : o + 80 ≤ 1048576) : ∃ d2 L2, openW d1 = (d2, some L2, 0) ∧ L2.state = s ∧ L2.records = rs := by
  rcases open_holds (z := True) hO ho.calm ho.arm hl ho.tells (anyN_ok _) with ⟨L2, h1, h2⟩ | ⟨h0, _⟩
  · exact ⟨_, L2, pair_eq h1, h2.state, h2.recs⟩
  · exact absurd trivial h0
theorem again_arm {n : Int} (hT : Tells False d.room (view d) s rs) (hO : Ok (arm d n)) (hc : Calm 0 d) : ∃ d3 r q, openW (arm d n) = (d3, r, q) ∧ (Ok d3 → AL (GoodT False d.room anyN s rs) d3) ∧ ((q = 0 ∧ ∃ L3, r = some L3 ∧ L3.state = s ∧ L3.records = rs) ∨ (q = 51 ∧ r = none)) := by
  have hT2 : Tells False (arm d n).room (view (arm d n)) s rs := by rw [arm_room, arm_view]; exact hT
  rcases open_holds (z := False) hO (hc.arm n) False.elim (by decide) hT2 (anyN_ok _) with ⟨L2, h1, h2⟩ | ⟨_, h1, _, h3⟩
  · refine ⟨_, _, _, pair_eq h1, fun hO3 => ?_, .inl ⟨rfl, L2, rfl, h2.state, h2.recs⟩⟩
    have := h2.calm.good hO3 h2.tells (Nm := anyN) (fun _ _ => trivial)
    rw [h2.room, arm_room] at this
    exact this
  · refine ⟨_, _, _, pair_eq h1, fun _ => ?_, .inr ⟨rfl, rfl⟩⟩
    rw [arm_room] at h3
    exact h3
theorem again_left {ex : Prop} {R : Nat} {fs : Files} (hg : GoodT ex R anyN s rs fs) : ∃ d4, Dk.new fs (R : Int) = (some d4, 0) ∧ (Ok d4 → ∃ d5 L5, openW d4 = (d5, some L5, 0) ∧ L5.state = s ∧ L5.records = rs ∧ Opened ex True anyN d4 d5 80 s rs L5) := by
  obtain ⟨d4, h1, h2, h3, h4, h5⟩ := new_fits hg.1
  refine ⟨d4, h1, fun hO => ?_⟩
  have hT : Tells ex d4.room (view d4) s rs := by rw [h5, h2]; exact hg.2.1
  rcases open_holds (z := True) hO h3 (fun _ => h4) (by decide) hT (anyN_ok _) with ⟨L2, e1, e2⟩ | ⟨h0, _⟩
  · exact ⟨_, L2, pair_eq e1, e2.state, e2.recs, e2⟩
  · exact absurd trivial h0
end
end Go.Proofs.YtgpenpnobjecgaaGreatDoor
