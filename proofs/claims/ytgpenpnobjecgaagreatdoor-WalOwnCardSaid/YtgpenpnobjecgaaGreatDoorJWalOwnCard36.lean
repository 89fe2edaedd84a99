/- A disk that holds one generation alone, in plain Lean. -/
import Derived.Test.YtgpenpnobjecgaaGreatDoorJWalOwnCard33
import Derived.Test.YtgpenpnobjecgaaGreatDoorJWalOwnCard35
/- Solo -/
namespace Go.Proofs.YtgpenpnobjecgaaGreatDoor
set_option maxRecDepth 100000
open Go.RowKit Dk

/-- One generation, and nothing else; safe but for the file's tail. -/
structure Solo (d : DiskS) (n : Nat) (b : Bs) (s i : Nat) : Prop where
  live : d.dead = false
  arm : d.armed = 0
  dir : d.dir = [(nameW n, i)]
  safe : d.safe = [(nameW n, i)]
  chg : d.chg = []
  lt : i < d.files.length
  file : fileAt d.files i = ⟨b, s⟩
theorem Solo.get {d : DiskS} {n : Nat} {b : Bs} {s i : Nat} (h : Solo d n b s i) : dget d.dir (nameW n) = some i := by rw [h.dir]; simp [dget]
theorem Solo.other {d : DiskS} {n : Nat} {b : Bs} {s i : Nat} (h : Solo d n b s i) {t : Bs} (ht : t ≠ nameW n) : dget d.dir t = none := by
  rw [h.dir, dget_cons, if_neg (fun e => ht e.symm)]
  rfl
theorem Solo.used {d : DiskS} {n : Nat} {b : Bs} {s i : Nat} (h : Solo d n b s i) : d.used = b.length := by
  unfold DiskS.used
  rw [h.dir]
  simp [usedIn, h.file]
theorem Solo.up {d : DiskS} {n : Nat} {b : Bs} {s i : Nat} (h : Solo d n b s i) {k : Nat} (hk : d.ops + k ≤ 1048576) : Up k d := ⟨h.live, .inl h.arm, hk⟩
theorem Solo.fr {d : DiskS} {n : Nat} {b : Bs} {s i : Nat} (h : Solo d n b s i) : free d = d.room - b.length := by
  unfold free
  rw [h.live, h.used]
  simp
theorem fileAt_modify {fs : List FileS} {i : Nat} (f : FileS → FileS) (hi : i < fs.length) : fileAt (fs.modify i f) i = f (fileAt fs i) := by
  unfold fileAt
  rw [List.getD_eq_getElem?_getD, List.getD_eq_getElem?_getD, List.getElem?_modify, List.getElem?_eq_getElem hi]
  simp
theorem solo_append {d : DiskS} {n : Nat} {b : Bs} {s i : Nat} (h : Solo d n b s i) (hops : d.ops + 1 ≤ 1048576) {p : Bs} (h1 : b.length + p.length ≤ 4194304) (h2 : b.length + p.length ≤ d.room) :
    ∃ d', Dk.append d (nameW n) p = (d', 0) ∧ Solo d' n (b ++ p) s i ∧ d'.ops = d.ops + 1 ∧ d'.room = d.room := by
  have hu := h.up (k := 0 + 1) hops
  refine ⟨_, append_up hu h.get (by rw [h.file]; exact h1) (by rw [h.used]; omega), ⟨h.live, ?_, h.dir, h.safe, h.chg, by show i < (d.files.modify i (appF p)).length; simp [h.lt], ?_⟩, rfl, rfl⟩
  · show d.armed - 1 = 0
    rw [h.arm]
  · show fileAt (d.files.modify i (appF p)) i = _
    rw [fileAt_modify _ h.lt, h.file]
    rfl
theorem solo_sync {d : DiskS} {n : Nat} {b : Bs} {s i : Nat} (h : Solo d n b s i) (hops : d.ops + 1 ≤ 1048576) :
    ∃ d', Dk.sync d (nameW n) = (d', 0) ∧ Solo d' n b b.length i ∧ d'.ops = d.ops + 1 ∧ d'.room = d.room := by
  have hu := h.up (k := 0 + 1) hops
  refine ⟨_, sync_up hu h.get, ⟨h.live, ?_, h.dir, h.safe, h.chg, by show i < (d.files.modify i syncF).length; simp [h.lt], ?_⟩, rfl, rfl⟩
  · show d.armed - 1 = 0
    rw [h.arm]
  · show fileAt (d.files.modify i syncF) i = _
    rw [fileAt_modify _ h.lt, h.file]
    rfl
theorem solo_syncDir {d : DiskS} {n : Nat} {b : Bs} {s i : Nat} (h : Solo d n b s i) (hops : d.ops + 1 ≤ 1048576) :
    ∃ d', syncDir d = (d', 0) ∧ Solo d' n b s i ∧ d'.ops = d.ops + 1 ∧ d'.room = d.room :=
  ⟨_, syncDir_up (h.up (k := 0 + 1) hops), ⟨h.live, by show d.armed - 1 = 0; rw [h.arm], h.dir, h.dir, rfl, h.lt, h.file⟩, rfl, rfl⟩
theorem solo_left {d : DiskS} {n : Nat} {b : Bs} {s i : Nat} (h : Solo d n b s i) (c : Int) (tails : List Int) : Dk.left d c tails = [(nameW n, b.take (s + (if hi : i < tails.length then min tails[i].toNat (b.length - s) else 0)))] := by
  unfold Dk.left leftDir
  rw [h.chg, h.safe]
  simp only [List.take_nil, List.foldl_nil, List.map_cons, List.map_nil, leftFile, h.file]
theorem solo_list {d : DiskS} {n : Nat} {b : Bs} {s i : Nat} (h : Solo d n b s i) (h1 : 1 ≤ n) (h2 : n ≤ 1099511627776) : gensW (Dk.list d) = [n] := by
  unfold Dk.list
  rw [h.live, h.dir]
  simp [gensW, genOf_name h1 h2]
theorem solo_read {d : DiskS} {n : Nat} {b : Bs} {s i : Nat} (h : Solo d n b s i) : Dk.read d (nameW n) = (b, 0) := by
  unfold Dk.read
  rw [h.live, h.get]
  simp [h.file]
theorem solo_temp {d : DiskS} {n : Nat} {b : Bs} {s i : Nat} (h : Solo d n b s i) : tempGone d = (d, 0) := by
  unfold tempGone Dk.read
  rw [h.live, h.other (temp_ne n)]
  simp
theorem ddel_two {s t : Bs} {i k : Nat} (h : s ≠ t) : ddel (dput [(t, i)] s k) t = [(s, k)] := by
  have h1 : ddel [(t, i)] s = [(t, i)] := ddel_none (by rw [dget_cons, if_neg (fun e => h e.symm)]; rfl)
  unfold dput
  rw [h1]
  unfold dins
  split
  · simp [ddel, h]
  · simp [dins, ddel, h]
/-- Another generation in its place. -/
theorem solo_next {d : DiskS} {n : Nat} {b : Bs} {s i : Nat} (h : Solo d n b s i) (hO : Ok d) (hn : n < 9223372036854775807) (hops : d.ops + 7 ≤ 1048576) {b' : Bs} (hb : b'.length ≤ 4194304) (hf : b.length + b'.length ≤ d.room) :
    ∃ d', make1W d (n + 1) b' = (made1 d (n + 1) b', 0) ∧ Dk.remove (made1 d (n + 1) b') (nameW n) = (note (ticked (made1 d (n + 1) b')) ⟨nameW n, [], 0⟩, 0) ∧ syncDir (note (ticked (made1 d (n + 1) b')) ⟨nameW n, [], 0⟩) = (d', 0) ∧ Solo d' (n + 1) b' b'.length d.files.length ∧ d'.ops = d.ops + 7 ∧ d'.room = d.room := by
  have hne : nameW (n + 1) ≠ nameW n := fun e => by have := nameW_inj (by omega) (by omega) e; omega
  have hm := make1_up (k := 2) (h.up hops) hO (n := n + 1) (named_nameW _ (by omega)) (temp_ne _) (b := b') (h.other (temp_ne n)) (by rw [h.dir]; simp) hb (by rw [h.used]; omega)
  have hdir : (made1 d (n + 1) b').dir = dput [(nameW n, i)] (nameW (n + 1)) d.files.length := by
    show dput (ddel (dput d.dir tempW d.files.length) tempW) (nameW (n + 1)) d.files.length = _
    rw [ddel_dput (h.other (temp_ne n)), h.dir]
  have u1 : Up (1 + 1) (made1 d (n + 1) b') := ⟨h.live, .inl (by show d.armed - 5 = 0; rw [h.arm]), by show d.ops + 5 + 2 ≤ _; omega⟩
  have hg : dget (made1 d (n + 1) b').dir (nameW n) = some i := by
    rw [hdir, dget_dput _ _ _ _ (by simp [Rising]), if_neg hne]
    simp [dget]
  have hd2 : (note (ticked (made1 d (n + 1) b')) ⟨nameW n, [], 0⟩).dir = [(nameW (n + 1), d.files.length)] := by
    have hnn : nameW n ≠ [] := by unfold nameW; simp
    show turn (made1 d (n + 1) b').dir ⟨nameW n, [], 0⟩ = _
    rw [hdir]
    unfold turn
    simp only [if_neg hnn, if_true]
    exact ddel_two hne
  have u2 : Up (0 + 1) (note (ticked (made1 d (n + 1) b')) ⟨nameW n, [], 0⟩) := ⟨h.live, .inl (by show d.armed - 5 - 1 = 0; rw [h.arm]), by show d.ops + 5 + 1 + 1 ≤ _; omega⟩
  refine ⟨_, hm, remove_up u1 hg, syncDir_up u2, ⟨h.live, by show d.armed - 5 - 1 - 1 = 0; rw [h.arm], hd2, hd2, rfl, by show d.files.length < (d.files ++ _).length; simp, ?_⟩, rfl, rfl⟩
  show fileAt (d.files ++ [⟨b', b'.length⟩]) d.files.length = _
  simp [fileAt]
/-- A disk without files becomes one. -/
theorem fresh_make {d : DiskS} (hl : d.dead = false) (ha : d.armed = 0) (hd : d.dir = []) (hO : Ok d) (hops : d.ops + 5 ≤ 1048576) {b : Bs} (hb : b.length ≤ 4194304) (hf : b.length ≤ d.room) :
    make1W d 1 b = (made1 d 1 b, 0) ∧ Solo (made1 d 1 b) 1 b b.length d.files.length := by
  have ht : dget d.dir tempW = none := by rw [hd]; rfl
  have hu0 : d.used = 0 := by unfold DiskS.used; rw [hd]; rfl
  have hdir : dput (ddel (dput d.dir tempW d.files.length) tempW) (nameW 1) d.files.length = [(nameW 1, d.files.length)] := by
    rw [ddel_dput ht, hd]
    rfl
  refine ⟨make1_up (k := 0) ⟨hl, .inl ha, by omega⟩ hO (named_nameW 1 (by omega)) (temp_ne 1) ht (by rw [hd]; simp) hb (by rw [hu0]; omega), ⟨hl, by show d.armed - 5 = 0; rw [ha], hdir, hdir, rfl, by show d.files.length < (d.files ++ _).length; simp, ?_⟩⟩
  show fileAt (d.files ++ [⟨b, b.length⟩]) d.files.length = _
  simp [fileAt]
end Go.Proofs.YtgpenpnobjecgaaGreatDoor
