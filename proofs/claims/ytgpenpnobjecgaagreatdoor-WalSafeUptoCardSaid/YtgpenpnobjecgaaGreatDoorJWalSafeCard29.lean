/- A disk that holds one generation alone, in plain Lean. -/
import Derived.Test.YtgpenpnobjecgaaGreatDoorJWalSafeCard24
import Derived.Test.YtgpenpnobjecgaaGreatDoorJWalSafeCard27
/- DLaw -/
namespace Go.Proofs.YtgpenpnobjecgaaGreatDoor
set_option maxRecDepth 100000
open Go.RowKit Dk

/-- Operations that are not refused, and no failure: so many. -/
structure Up (k : Nat) (d : DiskS) : Prop where
  live : d.dead = false
  arm : d.armed = 0 ∨ k < d.armed
  ops : d.ops + k ≤ 1048576
/-- One operation behind. -/
def ticked (d : DiskS) : DiskS := { d with armed := d.armed - 1, ops := d.ops + 1 }
theorem Up.op {k : Nat} {d : DiskS} (h : Up (k + 1) d) (f : DiskS → DiskS) : Dk.op d f = (f (ticked d), 0) := by
  unfold Dk.op
  rw [if_neg (by rcases h.arm with h1 | h1 <;> omega)]
  rfl
theorem Up.tick {k : Nat} {d : DiskS} (h : Up (k + 1) d) : Up k (ticked d) :=
  ⟨h.live, by rcases h.arm with h1 | h1 <;> simp only [ticked] <;> omega, by have := h.ops; simp only [ticked]; omega⟩
theorem Up.more {k : Nat} {d : DiskS} (h : Up (k + 1) d) : d.ops < 1048576 := by have := h.ops; omega
theorem Up.le {k j : Nat} {d : DiskS} (h : Up k d) (hj : j ≤ k) : Up j d := ⟨h.live, by rcases h.arm with h1 | h1 <;> omega, by have := h.ops; omega⟩
theorem create_up {k : Nat} {d : DiskS} (h : Up (k + 1) d) {s : Bs} (hn : named s = true) (hs : dget d.dir s = none) (hl : d.dir.length < 64) :
    create d s = (note { ticked d with files := d.files ++ [⟨[], 0⟩] } ⟨[], s, d.files.length⟩, 0) := by
  unfold create
  rw [h.live, hn, hs, if_neg (by simp), if_neg (by simp), if_neg (by simp), if_neg (by have := h.more; omega), h.op]
  rfl
theorem append_up {k : Nat} {d : DiskS} (h : Up (k + 1) d) {s p : Bs} {i : Nat} (hs : dget d.dir s = some i) (h1 : (fileAt d.files i).b.length + p.length ≤ 4194304) (h2 : p.length ≤ d.room - d.used) :
    Dk.append d s p = ({ ticked d with files := d.files.modify i (appF p) }, 0) := by
  unfold Dk.append
  rw [h.live, hs, if_neg (by simp)]
  simp only []
  rw [if_neg (by have := h.more; omega), h.op]
  rfl
theorem sync_up {k : Nat} {d : DiskS} (h : Up (k + 1) d) {s : Bs} {i : Nat} (hs : dget d.dir s = some i) :
    Dk.sync d s = ({ ticked d with files := d.files.modify i syncF }, 0) := by
  unfold Dk.sync
  rw [h.live, hs, if_neg (by simp)]
  simp only []
  rw [if_neg (by have := h.more; omega), h.op]
  rfl
theorem rename_up {k : Nat} {d : DiskS} (h : Up (k + 1) d) {s t : Bs} {i : Nat} (hs : dget d.dir s = some i) (hn : named t = true) (hst : s ≠ t) :
    rename d s t = (note (ticked d) ⟨s, t, i⟩, 0) := by
  unfold rename
  rw [h.live, hs, hn, if_neg (by simp)]
  simp only []
  rw [if_neg (by simp), if_neg (by have := h.more; omega), h.op, if_neg hst]
theorem remove_up {k : Nat} {d : DiskS} (h : Up (k + 1) d) {s : Bs} {i : Nat} (hs : dget d.dir s = some i) :
    remove d s = (note (ticked d) ⟨s, [], 0⟩, 0) := by
  unfold remove
  rw [h.live, hs, if_neg (by simp)]
  simp only []
  rw [if_neg (by have := h.more; omega), h.op]
theorem syncDir_up {k : Nat} {d : DiskS} (h : Up (k + 1) d) : syncDir d = ({ ticked d with safe := d.dir, chg := [] }, 0) := by
  unfold syncDir
  rw [h.live, if_neg (by simp), if_neg (by have := h.more; omega), h.op]
  rfl
theorem next_ok {d : DiskS} (f : DiskS → DiskS × Nat) : next (d, 0) f = f d := rfl
theorem modify_last (f : FileS → FileS) (x : FileS) : ∀ l : List FileS, (l ++ [x]).modify l.length f = l ++ [f x]
  | [] => rfl
  | y :: t => by
    have := modify_last f x t
    simp only [List.cons_append, List.length_cons, List.modify_succ_cons, this]
/-- make1, where nothing refuses. -/
def made1 (d : DiskS) (n : Nat) (b : Bs) : DiskS :=
  { d with files := d.files ++ [⟨b, b.length⟩], dir := dput (ddel (dput d.dir tempW d.files.length) tempW) (nameW n) d.files.length,
           safe := dput (ddel (dput d.dir tempW d.files.length) tempW) (nameW n) d.files.length, chg := [], ops := d.ops + 5, armed := d.armed - 5 }
theorem dget_dput (l : Dir) (s : Bs) (i : Nat) (t : Bs) (hR : Rising l) : dget (dput l s i) t = if s = t then some i else dget l t := by
  by_cases e : s = t
  · subst e
    rw [if_pos rfl]
    exact dget_of_mem (rising_dput hR s i) (mem_dput.2 (.inl rfl))
  · rw [if_neg e]
    cases h : dget l t with
    | none =>
      refine dget_none.2 fun p hp e2 => ?_
      rcases mem_dput.1 hp with rfl | ⟨hp, _⟩
      · exact e e2
      · exact dget_none.1 h p hp e2
    | some j => exact dget_of_mem (rising_dput hR s i) (mem_dput.2 (.inr ⟨dget_mem h, fun e2 => e e2.symm⟩))
theorem ddel_dput {l : Dir} {s : Bs} {i : Nat} (hs : dget l s = none) : ddel (dput l s i) s = l := by
  unfold dput
  rw [ddel_none hs]
  have key : ∀ l : Dir, dget l s = none → ddel (dins (s, i) l) s = l := fun l => by
    induction l with
    | nil => intro _; simp [dins, ddel]
    | cons y r ih =>
      intro h
      rw [dget_cons] at h
      have hy : ¬ y.1 = s := fun e => by rw [if_pos e] at h; cases h
      rw [if_neg hy] at h
      unfold dins
      split
      · rw [ddel_cons, if_pos rfl, ddel_cons, if_neg hy, ddel_none h]
      · rw [ddel_cons, if_neg hy, ih h]
  exact key l hs
theorem make1_up {k : Nat} {d : DiskS} (h : Up (k + 5) d) (hO : Ok d) {n : Nat} (hn : named (nameW n) = true) (hne : tempW ≠ nameW n) {b : Bs} (ht : dget d.dir tempW = none) (hl : d.dir.length < 64) (hb : b.length ≤ 4194304) (hf : b.length ≤ d.room - d.used) :
    make1W d n b = (made1 d n b, 0) := by
  have hR := hO.dirR
  have hu : ∀ d1 : DiskS, d1.room = d.room → d1.files = d.files ++ [⟨[], 0⟩] → d1.dir = dput d.dir tempW d.files.length → d1.used = d.used := fun d1 _ h1 h2 => by
    unfold DiskS.used
    rw [h1, h2]
    unfold dput
    rw [usedIn_dins, ddel_none ht]
    have : fileAt (d.files ++ [⟨[], 0⟩]) d.files.length = ⟨[], 0⟩ := by simp [fileAt]
    simp only [this, List.length_nil, Nat.zero_add]
    exact usedIn_congr fun p hp => by rw [fileAt_push (hO.dirF p hp).1]
  have hfr : ¬ free d < b.length := by unfold free; rw [h.live]; simp; omega
  have htn : tempW ≠ [] := by decide
  have hnn : nameW n ≠ [] := by unfold nameW; simp
  unfold make1W
  rw [if_neg hfr, create_up h (by decide) ht hl, next_ok]
  generalize hd1 : note { ticked d with files := d.files ++ [⟨[], 0⟩] } ⟨[], tempW, d.files.length⟩ = d1
  have e1 : d1.dir = dput d.dir tempW d.files.length ∧ d1.files = d.files ++ [⟨[], 0⟩] ∧ d1.room = d.room := by
    subst hd1
    simp [note, ticked, turn, htn]
  have u1 : Up (k + 4) d1 := by subst hd1; exact ⟨h.tick.live, h.tick.arm, h.tick.ops⟩
  have g1 : dget d1.dir tempW = some d.files.length := by rw [e1.1, dget_dput _ _ _ _ hR, if_pos rfl]
  have f1 : fileAt d1.files d.files.length = ⟨[], 0⟩ := by rw [e1.2.1]; simp [fileAt]
  rw [append_up u1 g1 (by rw [f1]; simpa using hb) (by rw [hu d1 e1.2.2 e1.2.1 e1.1, e1.2.2]; exact hf), next_ok]
  have m1 : d1.files.modify d.files.length (appF b) = d.files ++ ([⟨b, 0⟩] : List FileS) := by
    rw [e1.2.1]
    rw [modify_last]; rfl
  rw [m1]
  generalize hd2 : ({ ticked d1 with files := d.files ++ ([⟨b, 0⟩] : List FileS) } : DiskS) = d2
  have u2 : Up (k + 3) d2 := by subst hd2; exact ⟨u1.tick.live, u1.tick.arm, u1.tick.ops⟩
  have g2 : dget d2.dir tempW = some d.files.length := by subst hd2; exact g1
  rw [sync_up u2 g2, next_ok]
  have m2 : d2.files.modify d.files.length syncF = d.files ++ ([⟨b, b.length⟩] : List FileS) := by
    subst hd2
    show (d.files ++ ([⟨b, 0⟩] : List FileS)).modify d.files.length syncF = _
    rw [modify_last]
    rfl
  rw [m2]
  generalize hd3 : ({ ticked d2 with files := d.files ++ ([⟨b, b.length⟩] : List FileS) } : DiskS) = d3
  have u3 : Up (k + 2) d3 := by subst hd3; exact ⟨u2.tick.live, u2.tick.arm, u2.tick.ops⟩
  have g3 : dget d3.dir tempW = some d.files.length := by subst hd3; exact g2
  rw [rename_up u3 g3 hn hne, next_ok]
  generalize hd4 : note (ticked d3) ⟨tempW, nameW n, d.files.length⟩ = d4
  have u4 : Up (k + 1) d4 := by subst hd4; exact ⟨u3.tick.live, u3.tick.arm, u3.tick.ops⟩
  rw [syncDir_up u4]
  subst hd4 hd3 hd2 hd1
  simp only [made1, note, ticked, turn, htn, hnn, if_false, if_true, Prod.mk.injEq, and_true, DiskS.mk.injEq, true_and]
  omega
end Go.Proofs.YtgpenpnobjecgaaGreatDoor

/- NameLaw -/
namespace Go.Proofs.YtgpenpnobjecgaaGreatDoor
set_option maxRecDepth 100000
open Go.RowKit Dk

theorem dec_digits (u : Nat) : ∀ c ∈ Lib.decDigits u, 48 ≤ c.toNat ∧ c.toNat ≤ 57 := by
  induction u using Nat.strongRecOn with
  | _ u ih =>
    have key : ∀ k, k < 10 → 48 ≤ (UInt8.ofNat (48 + k)).toNat ∧ (UInt8.ofNat (48 + k)).toNat ≤ 57 := fun k hk => by
      rw [UInt8.toNat_ofNat']
      omega
    intro c hc
    rw [Lib.decDigits] at hc
    split at hc
    · next h =>
      obtain rfl := List.mem_singleton.1 hc
      exact key u h
    · rcases List.mem_append.1 hc with hc | hc
      · exact ih (u / 10) (by omega) c hc
      · obtain rfl := List.mem_singleton.1 hc
        exact key (u % 10) (by omega)
theorem dec_ne (u : Nat) : Lib.decDigits u ≠ [] := by
  rw [Lib.decDigits]
  split <;> simp
theorem parse_snoc : ∀ (l : Bs) (acc v : Nat) (c : UInt8), Lib.parseUint10 acc l = .ok v → 48 ≤ c.toNat ∧ c.toNat ≤ 57 → v < 1844674407370955162 → v * 10 + (c.toNat - 48) < 18446744073709551616 → Lib.parseUint10 acc (l ++ [c]) = .ok (v * 10 + (c.toNat - 48))
  | [], acc, v, c, h, hc, h1, h2 => by
    unfold Lib.parseUint10 at h
    injection h with h
    subst h
    show Lib.parseUint10 acc [c] = _
    unfold Lib.parseUint10
    rw [if_pos hc, if_neg (by omega), if_neg (by omega)]
    rfl
  | x :: r, acc, v, c, h, hc, h1, h2 => by
    show Lib.parseUint10 acc (x :: (r ++ [c])) = _
    unfold Lib.parseUint10 at h ⊢
    split at h
    · next hx =>
      rw [if_pos hx]
      split at h
      · cases h
      · next h3 =>
        rw [if_neg h3]
        split at h
        · cases h
        · next h4 =>
          rw [if_neg h4]
          exact parse_snoc r _ v c h hc h1 h2
    · cases h
theorem parse_dec (u : Nat) (hu : u < 9223372036854775808) : Lib.parseUint10 0 (Lib.decDigits u) = .ok u := by
  induction u using Nat.strongRecOn with
  | _ u ih =>
    have key : ∀ k, k < 10 → (UInt8.ofNat (48 + k)).toNat = 48 + k := fun k hk => by
      rw [UInt8.toNat_ofNat']
      omega
    rw [Lib.decDigits]
    split
    · next h =>
      unfold Lib.parseUint10
      rw [key u h, if_pos (by omega), if_neg (by omega), if_neg (by omega), show 0 * 10 + (48 + u - 48) = u by omega]
      rfl
    · next h =>
      have hk := key (u % 10) (by omega)
      have := parse_snoc _ 0 (u / 10) (UInt8.ofNat (48 + u % 10)) (ih (u / 10) (by omega) (by omega)) (by rw [hk]; omega) (by omega) (by rw [hk]; omega)
      rw [hk] at this
      rw [this, show u / 10 * 10 + (48 + u % 10 - 48) = u by omega]
theorem atoi_itoa (n : Nat) (hn : n < 9223372036854775808) : atoiW (Lib.itoa n) = some (n : Int) := by
  have hp := parse_dec n hn
  have hd := dec_digits n
  have hne := dec_ne n
  rw [Lib.itoa_nonneg]
  unfold atoiW Lib.atoiAll
  generalize Lib.decDigits n = l at hp hd hne
  cases l with
  | nil => exact absurd rfl hne
  | cons c r =>
    have hc := hd c (by simp)
    have h1 : ¬ c.toNat = 43 := by omega
    have h2 : ¬ c.toNat = 45 := by omega
    have h3 : ¬ (9223372036854775808 ≤ n) := by omega
    simp [h1, h2, Lib.parseMag, hp, h3]
theorem named_nameW (n : Nat) (hn : n < 9223372036854775808) : named (nameW n) = true := by
  have hl := nameW_len n hn
  have h1 : 1 ≤ (nameW n).length := by unfold nameW; simp
  unfold named
  rw [Bool.and_eq_true, Bool.and_eq_true, decide_eq_true_eq, decide_eq_true_eq, List.all_eq_true]
  refine ⟨⟨fun c hc => ?_, h1⟩, by omega⟩
  unfold nameW at hc
  rw [Lib.itoa_nonneg] at hc
  rcases List.mem_append.1 hc with hc | hc
  · have : ∀ c ∈ ([119, 97, 108, 45] : Bs), nameByte c = true := by decide
    exact this c hc
  · have := dec_digits n c hc
    unfold nameByte
    simp
    omega
theorem cut_nameW (n : Nat) : Lib.hasPrefix (nameW n) preW = true ∧ cutW (nameW n) = Lib.itoa n := by
  have h : Lib.hasPrefix (nameW n) preW = true := by unfold nameW Lib.hasPrefix preW; simp
  refine ⟨h, ?_⟩
  unfold cutW Lib.trimPrefix
  rw [if_pos h]
  rfl
theorem genOf_name {n : Nat} (h1 : 1 ≤ n) (h2 : n ≤ 1099511627776) : genOf (nameW n) = some n := by
  unfold genOf
  rw [if_pos (cut_nameW n).1, (cut_nameW n).2, atoi_itoa n (by omega)]
  simp only []
  rw [if_pos ⟨by omega, by omega, by simp⟩]
  simp
theorem genOf_some {s : Bs} {n : Nat} (h : genOf s = some n) : 1 ≤ n ∧ n ≤ 1099511627776 ∧ s = nameW n := by
  unfold genOf at h
  split at h
  · split at h
    · split at h
      · next h3 =>
        injection h with h
        subst h
        exact ⟨by omega, by omega, h3.2.2.symm⟩
      · cases h
    · cases h
  · cases h
theorem nameW_inj {m n : Nat} (hm : m < 9223372036854775808) (hn : n < 9223372036854775808) (h : nameW m = nameW n) : m = n := by
  have h2 : Lib.itoa m = Lib.itoa n := by unfold nameW at h; exact List.append_cancel_left h
  have := atoi_itoa m hm
  rw [h2, atoi_itoa n hn] at this
  have := Option.some.inj this
  omega
theorem temp_ne (n : Nat) : tempW ≠ nameW n := by
  unfold nameW tempW
  simp
theorem genOf_temp : genOf tempW = none := by
  cases h : genOf tempW with
  | none => rfl
  | some n => exact absurd (genOf_some h).2.2 (temp_ne n)
end Go.Proofs.YtgpenpnobjecgaaGreatDoor

/- WLaw -/
namespace Go.Proofs.YtgpenpnobjecgaaGreatDoor
set_option maxRecDepth 100000
open Go.RowKit Dk

/-- Frames, one behind the other. -/
def joinF : List FrameS → Bs
  | [] => []
  | f :: t => sealed f.1 f.2 ++ joinF t
def FrameOk (f : FrameS) : Prop := f.1 ≠ 0 ∧ f.2.length ≤ 2097152
/-- What is no whole frame. -/
def Torn (x : Bs) : Prop := x = [] ∨ (openF x).2.2 = 3
theorem sealed_four (k : UInt8) (l : Bs) : ∃ r, sealed k l = headOf l.length ++ r := ⟨_, by unfold sealed; simp only [List.append_assoc]; rfl⟩
theorem sizeF_torn (k : UInt8) (l : Bs) (c : Nat) (hc : c < 9 + l.length) (hl : l.length ≤ 2097152) : sizeF ((sealed k l).take c) = (0, 3) := by
  have hlen : ((sealed k l).take c).length = c := by rw [List.length_take, sealed_len]; omega
  unfold sizeF
  rw [hlen]
  by_cases h9 : c < 9
  · rw [if_pos h9]
  · obtain ⟨r, hr⟩ := sealed_four k l
    have hw : wordOf ((sealed k l).take c) = BitVec.ofNat 32 l.length := by
      rw [hr, List.take_append, List.take_of_length_le (show (headOf l.length).length ≤ c by unfold headOf; rw [wordB_len]; omega)]
      exact wordOf_wordB _ _
    have hn : (wordOf ((sealed k l).take c)).toNat = l.length := by rw [hw]; exact toNat_ofNat32 _ hl
    rw [if_neg h9, if_neg (by omega), if_pos (by unfold frameLen; omega)]
theorem torn_take (k : UInt8) (l : Bs) (c : Nat) (hc : c < 9 + l.length) (hl : l.length ≤ 2097152) : Torn ((sealed k l).take c) := by
  right
  unfold openF
  rw [sizeF_torn k l c hc hl]
  rfl
theorem scanFrom_join : ∀ (fs : List FrameS) (k : Nat) (pre tail : Bs) (acc : List FrameS), (∀ f ∈ fs, FrameOk f) → Torn tail → fs.length < k →
    scanFrom k (pre ++ (joinF fs ++ tail)) pre.length acc = (acc ++ fs, pre.length + (joinF fs).length, if tail = [] then 0 else 3)
  | [], 0, _, _, _, _, _, h => absurd h (by simp)
  | [], k + 1, pre, tail, acc, _, ht, _ => by
    unfold scanFrom
    simp only [joinF, List.nil_append, List.drop_left, List.append_nil, List.length_nil, Nat.add_zero]
    rcases ht with rfl | ht
    · simp
    · by_cases hne : tail = []
      · subst hne
        simp
      · have : 0 < tail.length := List.length_pos_iff.2 hne
        rw [if_pos (by simp; omega), ht, if_neg (by decide), if_neg hne]
  | f :: t, 0, _, _, _, _, _, h => absurd h (by simp)
  | f :: t, k + 1, pre, tail, acc, hf, ht, hk => by
    have h0 := hf f (by simp)
    have ho : openF ((pre ++ (joinF (f :: t) ++ tail)).drop pre.length) = (f, 9 + f.2.length, 0) := by
      rw [List.drop_left]
      simp only [joinF, List.append_assoc]
      exact openF_sealed f.1 f.2 _ h0.1 h0.2
    unfold scanFrom
    rw [ho]
    have hlen : (sealed f.1 f.2).length = 9 + f.2.length := sealed_len _ _
    rw [if_pos (by simp [joinF, hlen]; omega)]
    simp only [if_true]
    have := scanFrom_join t k (pre ++ sealed f.1 f.2) tail (acc ++ [f]) (fun g hg => hf g (by simp [hg])) ht (by simp at hk; omega)
    rw [List.length_append, hlen] at this
    have he : pre ++ sealed f.1 f.2 ++ (joinF t ++ tail) = pre ++ (joinF (f :: t) ++ tail) := by simp [joinF]
    rw [he] at this
    rw [this]
    simp only [joinF, List.length_append, hlen, List.append_assoc, List.singleton_append, Prod.mk.injEq, true_and, and_true]
    omega
theorem join_long : ∀ fs : List FrameS, fs.length ≤ (joinF fs).length
  | [] => Nat.le_refl _
  | f :: t => by
    have := join_long t
    simp only [joinF, List.length_append, sealed_len, List.length_cons]
    omega
theorem scanF_join (fs : List FrameS) (tail : Bs) (hf : ∀ f ∈ fs, FrameOk f) (ht : Torn tail) : scanF (joinF fs ++ tail) = (fs, (joinF fs).length, if tail = [] then 0 else 3) := by
  have := scanFrom_join fs ((joinF fs ++ tail).length + 1) [] tail [] hf ht (by have := join_long fs; simp; omega)
  simpa [scanF] using this

def recFrames : Nat → List Bs → List FrameS
  | _, [] => []
  | i, r :: t => (2, groups i ++ r) :: recFrames (i + 1) t
theorem recsW_join : ∀ (rs : List Bs) (i : Nat), recsW i rs = joinF (recFrames i rs)
  | [], _ => rfl
  | r :: t, i => by
    show sealW 2 i r ++ recsW (i + 1) t = sealed 2 (groups i ++ r) ++ joinF (recFrames (i + 1) t)
    rw [recsW_join t (i + 1)]
    rfl
theorem bytesW_join (n : Nat) (s : Bs) (rs : List Bs) : bytesW n s rs = joinF ((1, groups n ++ s) :: recFrames 1 rs) := by
  unfold bytesW joinF sealW
  rw [recsW_join]
theorem loadF_groups (k : UInt8) (n : Nat) (p : Bs) (most : Nat) (hn : n < 18446744073709551616) (hp : p.length ≤ most) : loadF (k, groups n ++ p) k n most = some p := by
  unfold loadF
  rw [readU_groups n hn p]
  rw [if_pos ⟨rfl, rfl, rfl, by simp; exact hp⟩]
  simp
theorem loadsF_frames : ∀ (rs : List Bs) (i : Nat), (∀ r ∈ rs, r.length ≤ 65536) → i + rs.length < 18446744073709551616 → loadsF i (recFrames i rs) = some rs
  | [], _, _, _ => rfl
  | r :: t, i, h, hi => by
    unfold recFrames loadsF
    rw [loadF_groups 2 i r 65536 (by simp at hi; omega) (h r (by simp))]
    simp only []
    rw [loadsF_frames t (i + 1) (fun x hx => h x (by simp [hx])) (by simp at hi; omega)]
    rfl
theorem recFrames_ok : ∀ (rs : List Bs) (i : Nat), (∀ r ∈ rs, r.length ≤ 65536) → i + rs.length < 18446744073709551616 → ∀ f ∈ recFrames i rs, FrameOk f
  | [], _, _, _, f, hf => by cases hf
  | r :: t, i, h, hi, f, hf => by
    unfold recFrames at hf
    rcases List.mem_cons.1 hf with rfl | hf
    · have := groups_len i (by simp at hi; omega)
      have := h r (by simp)
      exact ⟨(by simp : (2 : UInt8) ≠ 0), by simp; omega⟩
    · exact recFrames_ok t (i + 1) (fun x hx => h x (by simp [hx])) (by simp at hi; omega) f hf
/-- A generation that fits. -/
structure GenOk (n : Nat) (s : Bs) (rs : List Bs) : Prop where
  num : n < 9223372036854775808
  state : s.length ≤ 1048576
  recs : ∀ r ∈ rs, r.length ≤ 65536
  many : rs.length < 9223372036854775808
theorem readB_bytes {n : Nat} {s : Bs} {rs : List Bs} (h : GenOk n s rs) {tail : Bs} (ht : Torn tail) : readB (bytesW n s rs ++ tail) n = some ⟨s, rs, (bytesW n s rs).length, tail.length⟩ := by
  have hg := groups_len n (by have := h.num; omega)
  have hs := scanF_join ((1, groups n ++ s) :: recFrames 1 rs) tail (fun f hf => by
    rcases List.mem_cons.1 hf with rfl | hf
    · have := h.state
      exact ⟨(by simp : (1 : UInt8) ≠ 0), by simp; omega⟩
    · exact recFrames_ok rs 1 h.recs (by have := h.many; omega) f hf) ht
  rw [← bytesW_join] at hs
  unfold readB
  rw [hs]
  simp only []
  rw [if_neg (by split <;> simp), loadF_groups 1 n s 1048576 (by have := h.num; omega) h.state]
  simp only []
  rw [loadsF_frames rs 1 h.recs (by have := h.many; omega)]
  simp
end Go.Proofs.YtgpenpnobjecgaaGreatDoor

/- Solo -/
namespace Go.Proofs.YtgpenpnobjecgaaGreatDoor
set_option maxRecDepth 100000
open Go.RowKit Dk

/-- One generation, and nothing else; safe but for the file's tail. -/
structure Solo (d : DiskS) (n : Nat) (b : Bs) (s i : Nat) : Prop where
  live : d.dead = false
  arm : d.armed = 0
  dir : d.dir = [(nameW n, i)]
  safe : d.safe = [(nameW n, i)]
  chg : d.chg = []
  lt : i < d.files.length
  file : fileAt d.files i = ⟨b, s⟩
theorem Solo.get {d : DiskS} {n : Nat} {b : Bs} {s i : Nat} (h : Solo d n b s i) : dget d.dir (nameW n) = some i := by rw [h.dir]; simp [dget]
theorem Solo.other {d : DiskS} {n : Nat} {b : Bs} {s i : Nat} (h : Solo d n b s i) {t : Bs} (ht : t ≠ nameW n) : dget d.dir t = none := by
  rw [h.dir, dget_cons, if_neg (fun e => ht e.symm)]
  rfl
theorem Solo.used {d : DiskS} {n : Nat} {b : Bs} {s i : Nat} (h : Solo d n b s i) : d.used = b.length := by
  unfold DiskS.used
  rw [h.dir]
  simp [usedIn, h.file]
theorem Solo.up {d : DiskS} {n : Nat} {b : Bs} {s i : Nat} (h : Solo d n b s i) {k : Nat} (hk : d.ops + k ≤ 1048576) : Up k d := ⟨h.live, .inl h.arm, hk⟩
theorem Solo.fr {d : DiskS} {n : Nat} {b : Bs} {s i : Nat} (h : Solo d n b s i) : free d = d.room - b.length := by
  unfold free
  rw [h.live, h.used]
  simp
theorem fileAt_modify {fs : List FileS} {i : Nat} (f : FileS → FileS) (hi : i < fs.length) : fileAt (fs.modify i f) i = f (fileAt fs i) := by
  unfold fileAt
  rw [List.getD_eq_getElem?_getD, List.getD_eq_getElem?_getD, List.getElem?_modify, List.getElem?_eq_getElem hi]
  simp
theorem solo_append {d : DiskS} {n : Nat} {b : Bs} {s i : Nat} (h : Solo d n b s i) (hops : d.ops + 1 ≤ 1048576) {p : Bs} (h1 : b.length + p.length ≤ 4194304) (h2 : b.length + p.length ≤ d.room) :
    ∃ d', Dk.append d (nameW n) p = (d', 0) ∧ Solo d' n (b ++ p) s i ∧ d'.ops = d.ops + 1 ∧ d'.room = d.room := by
  have hu := h.up (k := 0 + 1) hops
  refine ⟨_, append_up hu h.get (by rw [h.file]; exact h1) (by rw [h.used]; omega), ⟨h.live, ?_, h.dir, h.safe, h.chg, by show i < (d.files.modify i (appF p)).length; simp [h.lt], ?_⟩, rfl, rfl⟩
  · show d.armed - 1 = 0
    rw [h.arm]
  · show fileAt (d.files.modify i (appF p)) i = _
    rw [fileAt_modify _ h.lt, h.file]
    rfl
theorem solo_sync {d : DiskS} {n : Nat} {b : Bs} {s i : Nat} (h : Solo d n b s i) (hops : d.ops + 1 ≤ 1048576) :
    ∃ d', Dk.sync d (nameW n) = (d', 0) ∧ Solo d' n b b.length i ∧ d'.ops = d.ops + 1 ∧ d'.room = d.room := by
  have hu := h.up (k := 0 + 1) hops
  refine ⟨_, sync_up hu h.get, ⟨h.live, ?_, h.dir, h.safe, h.chg, by show i < (d.files.modify i syncF).length; simp [h.lt], ?_⟩, rfl, rfl⟩
  · show d.armed - 1 = 0
    rw [h.arm]
  · show fileAt (d.files.modify i syncF) i = _
    rw [fileAt_modify _ h.lt, h.file]
    rfl
theorem solo_syncDir {d : DiskS} {n : Nat} {b : Bs} {s i : Nat} (h : Solo d n b s i) (hops : d.ops + 1 ≤ 1048576) :
    ∃ d', syncDir d = (d', 0) ∧ Solo d' n b s i ∧ d'.ops = d.ops + 1 ∧ d'.room = d.room :=
  ⟨_, syncDir_up (h.up (k := 0 + 1) hops), ⟨h.live, by show d.armed - 1 = 0; rw [h.arm], h.dir, h.dir, rfl, h.lt, h.file⟩, rfl, rfl⟩
theorem solo_left {d : DiskS} {n : Nat} {b : Bs} {s i : Nat} (h : Solo d n b s i) (c : Int) (tails : List Int) : Dk.left d c tails = [(nameW n, b.take (s + (if hi : i < tails.length then min tails[i].toNat (b.length - s) else 0)))] := by
  unfold Dk.left leftDir
  rw [h.chg, h.safe]
  simp only [List.take_nil, List.foldl_nil, List.map_cons, List.map_nil, leftFile, h.file]
theorem solo_list {d : DiskS} {n : Nat} {b : Bs} {s i : Nat} (h : Solo d n b s i) (h1 : 1 ≤ n) (h2 : n ≤ 1099511627776) : gensW (Dk.list d) = [n] := by
  unfold Dk.list
  rw [h.live, h.dir]
  simp [gensW, genOf_name h1 h2]
theorem solo_read {d : DiskS} {n : Nat} {b : Bs} {s i : Nat} (h : Solo d n b s i) : Dk.read d (nameW n) = (b, 0) := by
  unfold Dk.read
  rw [h.live, h.get]
  simp [h.file]
theorem solo_temp {d : DiskS} {n : Nat} {b : Bs} {s i : Nat} (h : Solo d n b s i) : tempGone d = (d, 0) := by
  unfold tempGone Dk.read
  rw [h.live, h.other (temp_ne n)]
  simp
theorem ddel_two {s t : Bs} {i k : Nat} (h : s ≠ t) : ddel (dput [(t, i)] s k) t = [(s, k)] := by
  have h1 : ddel [(t, i)] s = [(t, i)] := ddel_none (by rw [dget_cons, if_neg (fun e => h e.symm)]; rfl)
  unfold dput
  rw [h1]
  unfold dins
  split
  · simp [ddel, h]
  · simp [dins, ddel, h]
/-- Another generation in its place. -/
theorem solo_next {d : DiskS} {n : Nat} {b : Bs} {s i : Nat} (h : Solo d n b s i) (hO : Ok d) (hn : n < 9223372036854775807) (hops : d.ops + 7 ≤ 1048576) {b' : Bs} (hb : b'.length ≤ 4194304) (hf : b.length + b'.length ≤ d.room) :
    ∃ d', make1W d (n + 1) b' = (made1 d (n + 1) b', 0) ∧ Dk.remove (made1 d (n + 1) b') (nameW n) = (note (ticked (made1 d (n + 1) b')) ⟨nameW n, [], 0⟩, 0) ∧ syncDir (note (ticked (made1 d (n + 1) b')) ⟨nameW n, [], 0⟩) = (d', 0) ∧ Solo d' (n + 1) b' b'.length d.files.length ∧ d'.ops = d.ops + 7 ∧ d'.room = d.room := by
  have hne : nameW (n + 1) ≠ nameW n := fun e => by have := nameW_inj (by omega) (by omega) e; omega
  have hm := make1_up (k := 2) (h.up hops) hO (n := n + 1) (named_nameW _ (by omega)) (temp_ne _) (b := b') (h.other (temp_ne n)) (by rw [h.dir]; simp) hb (by rw [h.used]; omega)
  have hdir : (made1 d (n + 1) b').dir = dput [(nameW n, i)] (nameW (n + 1)) d.files.length := by
    show dput (ddel (dput d.dir tempW d.files.length) tempW) (nameW (n + 1)) d.files.length = _
    rw [ddel_dput (h.other (temp_ne n)), h.dir]
  have u1 : Up (1 + 1) (made1 d (n + 1) b') := ⟨h.live, .inl (by show d.armed - 5 = 0; rw [h.arm]), by show d.ops + 5 + 2 ≤ _; omega⟩
  have hg : dget (made1 d (n + 1) b').dir (nameW n) = some i := by
    rw [hdir, dget_dput _ _ _ _ (by simp [Rising]), if_neg hne]
    simp [dget]
  have hd2 : (note (ticked (made1 d (n + 1) b')) ⟨nameW n, [], 0⟩).dir = [(nameW (n + 1), d.files.length)] := by
    have hnn : nameW n ≠ [] := by unfold nameW; simp
    show turn (made1 d (n + 1) b').dir ⟨nameW n, [], 0⟩ = _
    rw [hdir]
    unfold turn
    simp only [if_neg hnn, if_true]
    exact ddel_two hne
  have u2 : Up (0 + 1) (note (ticked (made1 d (n + 1) b')) ⟨nameW n, [], 0⟩) := ⟨h.live, .inl (by show d.armed - 5 - 1 = 0; rw [h.arm]), by show d.ops + 5 + 1 + 1 ≤ _; omega⟩
  refine ⟨_, hm, remove_up u1 hg, syncDir_up u2, ⟨h.live, by show d.armed - 5 - 1 - 1 = 0; rw [h.arm], hd2, hd2, rfl, by show d.files.length < (d.files ++ _).length; simp, ?_⟩, rfl, rfl⟩
  show fileAt (d.files ++ [⟨b', b'.length⟩]) d.files.length = _
  simp [fileAt]
/-- A disk without files becomes one. -/
theorem fresh_make {d : DiskS} (hl : d.dead = false) (ha : d.armed = 0) (hd : d.dir = []) (hO : Ok d) (hops : d.ops + 5 ≤ 1048576) {b : Bs} (hb : b.length ≤ 4194304) (hf : b.length ≤ d.room) :
    make1W d 1 b = (made1 d 1 b, 0) ∧ Solo (made1 d 1 b) 1 b b.length d.files.length := by
  have ht : dget d.dir tempW = none := by rw [hd]; rfl
  have hu0 : d.used = 0 := by unfold DiskS.used; rw [hd]; rfl
  have hdir : dput (ddel (dput d.dir tempW d.files.length) tempW) (nameW 1) d.files.length = [(nameW 1, d.files.length)] := by
    rw [ddel_dput ht, hd]
    rfl
  refine ⟨make1_up (k := 0) ⟨hl, .inl ha, by omega⟩ hO (named_nameW 1 (by omega)) (temp_ne 1) ht (by rw [hd]; simp) hb (by rw [hu0]; omega), ⟨hl, by show d.armed - 5 = 0; rw [ha], hdir, hdir, rfl, by show d.files.length < (d.files ++ _).length; simp, ?_⟩⟩
  show fileAt (d.files ++ [⟨b, b.length⟩]) d.files.length = _
  simp [fileAt]
end Go.Proofs.YtgpenpnobjecgaaGreatDoor
