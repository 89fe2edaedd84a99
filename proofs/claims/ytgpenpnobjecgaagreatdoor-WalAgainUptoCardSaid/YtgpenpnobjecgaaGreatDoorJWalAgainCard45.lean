/- Power failures in plain Lean: each operation is done, or the power failed ahead of it. -/
import Derived.Test.YtgpenpnobjecgaaGreatDoorJWalAgainCard44
/- Crash2 -/
namespace Go.Proofs.YtgpenpnobjecgaaGreatDoor
set_option maxRecDepth 100000
open Go.RowKit Dk

/-- Done; or the power failed, which it does not where z holds, and what is left is good. -/
def Res (z : Prop) (Good : Files → Prop) (I : DiskS → Prop) (r : DiskS × Nat) : Prop :=
  (r.2 = 0 ∧ I r.1) ∨ (¬ z ∧ r.2 = 51 ∧ r.1.dead = true ∧ AL Good r.1)
/-- A disk in use. -/
structure At (z : Prop) (R o : Nat) (P : Dir → Prop) (l : Dir) (F : List FileS) (x : DiskS) : Prop where
  live : x.dead = false
  arm : z → x.armed = 0
  room : x.room = R
  ops : x.ops ≤ o
  lefts : Lefts P x
  dir : x.dir = l
  files : x.files = F
section
variable {z : Prop} {Good : Files → Prop} {I J K : DiskS → Prop} {r : DiskS × Nat} {f : DiskS → DiskS × Nat} {x : DiskS} {R o : Nat} {P P' : Dir → Prop} {l : Dir} {F : List FileS}
theorem Res.next (h : Res z Good I r) (hf : ∀ x, I x → Res z Good J (f x)) : Res z Good J (next r f) := by
  obtain ⟨d, q⟩ := r
  rcases h with ⟨h1, h2⟩ | ⟨h0, h1, h2, h3⟩
  · have h1 : q = 0 := h1
    subst h1
    exact hf _ h2
  · have h1 : q = 51 := h1
    subst h1
    exact .inr ⟨h0, rfl, h2, h3⟩
theorem Res.mono (h : Res z Good I r) (hi : ∀ x, I x → J x) : Res z Good J r := h.imp (fun h => ⟨h.1, hi _ h.2⟩) id
theorem At.al (h : At z R o P l F x) (hg : ∀ l, P l → ∀ g, (∀ i, CutAt F g i) → Good (fmapF g l)) : AL Good x :=
  AL.of h.lefts (by rw [h.files]; exact hg)
theorem At.went (h : At z R o P l F x) : At z R (o + 1) P l F (went x) :=
  ⟨h.live, fun hz => by show x.armed - 1 = 0; rw [h.arm hz], h.room, by have := h.ops; show x.ops + 1 ≤ _; omega, h.lefts.same rfl rfl rfl, h.dir, h.files⟩
theorem At.mono (h : At z R o P l F x) (hp : ∀ l, P l → P' l) : At z R o P' l F x := ⟨h.live, h.arm, h.room, h.ops, h.lefts.mono hp, h.dir, h.files⟩
theorem At.refile (h : At z R o P l F x) (F' : List FileS) : At z R o P l F' { x with files := F' } := ⟨h.live, h.arm, h.room, h.ops, h.lefts.same rfl rfl rfl, h.dir, rfl⟩
theorem At.note (h : At z R o P l F x) (c : Chg) (hp : ∀ l, P l → P' l) (hc : P' (turn l c)) : At z R o P' (turn l c) F (note x c) :=
  ⟨h.live, h.arm, h.room, h.ops, (h.lefts.mono hp).note c (by rw [h.dir]; exact hc), by show turn x.dir c = _; rw [h.dir], h.files⟩
theorem res_op (h : At z R o P l F x) (hA : AL Good x) {f : DiskS → DiskS} (hI : I (f (Go.Proofs.YtgpenpnobjecgaaGreatDoor.went x))) : Res z Good I (op x f) := by
  by_cases ha : x.armed = 1
  · rw [op_gone ha]
    exact .inr ⟨fun hz => by have := h.arm hz; omega, rfl, rfl, hA.gone⟩
  · rw [op_went ha]
    exact .inl ⟨rfl, hI⟩
theorem res_create (h : At z R o P l F x) (ho : o < 1048576) (hA : AL Good x) {s : Bs} (hn : named s = true) (hg : dget l s = none) (hl : l.length < 64) (hs : s ≠ []) (hp : ∀ l, P l → P' l) (hc : P' (dput l s F.length)) :
    Res z Good (At z R (o + 1) P' (dput l s F.length) (F ++ [⟨[], 0⟩])) (create x s) := by
  have hops := h.ops
  unfold create
  rw [h.live, hn, h.dir, hg, if_neg (by simp), if_neg (by simp), if_neg (by simp), if_neg (by omega)]
  refine res_op h hA ?_
  have h1 := ((h.went.refile (F ++ [⟨[], 0⟩])).note (P' := P') ⟨[], s, F.length⟩ hp (by simpa [turn, hs] using hc))
  have e1 : turn l ⟨[], s, F.length⟩ = dput l s F.length := by simp [turn, hs]
  rw [e1] at h1
  have e2 : (Go.Proofs.YtgpenpnobjecgaaGreatDoor.went x).files = F := h.files
  rw [e2]
  exact h1
theorem res_append (h : At z R o P l F x) (ho : o < 1048576) (hA : AL Good x) {s p : Bs} {i : Nat} (hg : dget l s = some i) (h1 : (fileAt F i).b.length + p.length ≤ 4194304) (h2 : usedIn F l + p.length ≤ R) :
    Res z Good (At z R (o + 1) P l (F.modify i (appF p))) (Dk.append x s p) := by
  have hops := h.ops
  have hu : x.used = usedIn F l := by unfold DiskS.used; rw [h.files, h.dir]
  unfold Dk.append
  rw [h.live, h.dir, hg, if_neg (by simp)]
  simp only []
  rw [h.files, hu, h.room, if_neg (by omega)]
  refine res_op h hA ?_
  have e2 : (Go.Proofs.YtgpenpnobjecgaaGreatDoor.went x).files = F := h.files
  rw [e2]
  exact h.went.refile _
theorem res_sync (h : At z R o P l F x) (ho : o < 1048576) (hA : AL Good x) {s : Bs} {i : Nat} (hg : dget l s = some i) :
    Res z Good (At z R (o + 1) P l (F.modify i syncF)) (Dk.sync x s) := by
  have hops := h.ops
  unfold Dk.sync
  rw [h.live, h.dir, hg, if_neg (by simp)]
  simp only []
  rw [if_neg (by omega)]
  refine res_op h hA ?_
  have e2 : (Go.Proofs.YtgpenpnobjecgaaGreatDoor.went x).files = F := h.files
  rw [e2]
  exact h.went.refile _
theorem res_rename (h : At z R o P l F x) (ho : o < 1048576) (hA : AL Good x) {s t : Bs} {i : Nat} (hg : dget l s = some i) (hn : named t = true) (hne : s ≠ t) (hs : s ≠ []) (ht : t ≠ []) (hp : ∀ l, P l → P' l) (hc : P' (dput (ddel l s) t i)) :
    Res z Good (At z R (o + 1) P' (dput (ddel l s) t i) F) (rename x s t) := by
  have hops := h.ops
  unfold rename
  rw [h.live, h.dir, hg, if_neg (by simp)]
  simp only []
  rw [hn, if_neg (by simp), if_neg (by omega)]
  refine res_op h hA ?_
  rw [if_neg hne]
  have e1 : turn l ⟨s, t, i⟩ = dput (ddel l s) t i := by simp [turn, hs, ht]
  have h1 := h.went.note (P' := P') ⟨s, t, i⟩ hp (by rw [e1]; exact hc)
  rw [e1] at h1
  exact h1
theorem res_remove (h : At z R o P l F x) (ho : o < 1048576) (hA : AL Good x) {s : Bs} {i : Nat} (hg : dget l s = some i) (hs : s ≠ []) (hp : ∀ l, P l → P' l) (hc : P' (ddel l s)) :
    Res z Good (At z R (o + 1) P' (ddel l s) F) (remove x s) := by
  have hops := h.ops
  unfold remove
  rw [h.live, h.dir, hg, if_neg (by simp)]
  simp only []
  rw [if_neg (by omega)]
  refine res_op h hA ?_
  have e1 : turn l ⟨s, [], 0⟩ = ddel l s := by simp [turn, hs]
  have h1 := h.went.note (P' := P') ⟨s, [], 0⟩ hp (by rw [e1]; exact hc)
  rw [e1] at h1
  exact h1
/-- Nothing of the directory is unsafe. -/
def Rest (x : DiskS) : Prop := x.chg = [] ∧ x.safe = x.dir
theorem res_syncDir (h : At z R o P l F x) (ho : o < 1048576) (hA : AL Good x) : Res z Good (fun y => At z R (o + 1) (· = l) l F y ∧ Rest y) (syncDir x) := by
  have hops := h.ops
  unfold syncDir
  rw [h.live, if_neg (by simp), if_neg (by omega)]
  refine res_op h hA ?_
  exact ⟨⟨h.went.live, h.went.arm, h.went.room, h.went.ops, .calm rfl rfl h.dir, h.dir, h.files⟩, rfl, rfl⟩
theorem cut_push {f : FileS} {g : Nat → Bs} {i : Nat} (h : CutAt (F ++ [f]) g i) (hi : i < F.length) : CutAt F g i := by
  unfold CutAt at h ⊢
  rw [fileAt_push hi] at h
  exact h
theorem fileAt_last (F : List FileS) (f : FileS) : fileAt (F ++ [f]) F.length = f := by simp [fileAt]
theorem cut_none {g : Nat → Bs} {i : Nat} (h : CutAt F g i) (hi : F.length ≤ i) : g i = [] := by
  obtain ⟨j, _, e⟩ := h
  rw [e]
  unfold fileAt
  rw [List.getD_eq_getElem?_getD, List.getElem?_eq_none hi]
  simp
theorem tempW_ne : tempW ≠ [] := by decide
theorem nameW_ne (n : Nat) : nameW n ≠ [] := by unfold nameW; simp
/-- A generation made: a failure leaves what was there, with a beginning of the new bytes under the passing name, or with all of them under the new one. -/
theorem make_res {n : Nat} {b : Bs} (h : At z R o P l F x) (ho : o + 5 ≤ 1048576) (hR : Rising l) (ht : dget l tempW = none) (hl : l.length < 64) (hn : named (nameW n) = true) (hb : b.length ≤ 4194304) (hi : ∀ p ∈ l, p.2 < F.length) (hu : usedIn F l + b.length ≤ R)
    (h1 : ∀ l, P l → ∀ g, (∀ i, i < F.length → CutAt F g i) → (∃ j, g F.length = b.take j) → Good (fmapF g l))
    (h2 : ∀ g, (∀ i, i < F.length → CutAt F g i) → (∃ j, g F.length = b.take j) → Good (fmapF g (dput l tempW F.length)))
    (h3 : ∀ g, (∀ i, i < F.length → CutAt F g i) → g F.length = b → Good (fmapF g (dput l (nameW n) F.length))) :
    Res z Good (fun y => At z R (o + 5) (· = dput l (nameW n) F.length) (dput l (nameW n) F.length) (F ++ [⟨b, b.length⟩]) y ∧ Rest y) (make1W x n b) := by
  have hus : x.used = usedIn F l := by unfold DiskS.used; rw [h.files, h.dir]
  have hfr : ¬ free x < b.length := by unfold free; rw [h.live, hus, h.room]; simp; omega
  have a0 : AL Good x := h.al fun l' hl' g hg => h1 l' hl' g (fun i _ => hg i) ⟨0, by rw [cut_none (hg F.length) (Nat.le_refl _)]; rfl⟩
  have gT : dget (dput l tempW F.length) tempW = some F.length := by rw [dget_dput _ _ _ _ hR, if_pos rfl]
  have mid : ∀ {o' : Nat} {f : FileS} {y : DiskS}, At z R o' (fun l' => P l' ∨ l' = dput l tempW F.length) (dput l tempW F.length) (F ++ [f]) y → (∃ k, f.b = b.take k) → AL Good y := fun {o' f y} hy hf => hy.al fun l' hl' g hg => by
    obtain ⟨k, hk⟩ := hf
    have e1 : ∀ i, i < F.length → CutAt F g i := fun i hi => cut_push (hg i) hi
    have e2 : ∃ j, g F.length = b.take j := by
      obtain ⟨j, _, e⟩ := hg F.length
      rw [fileAt_last, hk, List.take_take] at e
      exact ⟨_, e⟩
    rcases hl' with hl' | rfl
    · exact h1 l' hl' g e1 e2
    · exact h2 g e1 e2
  have hu2 : ∀ f : FileS, usedIn (F ++ [f]) (dput l tempW F.length) = f.b.length + usedIn F l := fun f => by
    unfold dput
    rw [usedIn_dins, ddel_none ht, fileAt_last]
    rw [usedIn_congr (fs' := F) fun p hp => by rw [fileAt_push (hi p hp)]]
  have s1 := res_create h (by omega) a0 (s := tempW) (by decide) ht hl tempW_ne (P' := fun l' => P l' ∨ l' = dput l tempW F.length) (fun _ => .inl) (.inr rfl)
  have s2 := s1.next fun y hy => res_append hy (by omega) (mid hy ⟨0, rfl⟩) gT (p := b) (by rw [fileAt_last]; simpa using hb) (by rw [hu2]; simp; omega)
  rw [modify_last] at s2
  have s3 := s2.next fun y hy => res_sync hy (by omega) (mid hy ⟨b.length, by simp [appF]⟩) gT
  rw [modify_last] at s3
  have s4 := s3.next fun y hy => res_rename hy (by omega) (mid hy ⟨b.length, by simp [appF, syncF]⟩) gT hn (temp_ne n) tempW_ne (nameW_ne n) (P' := fun l' => (P l' ∨ l' = dput l tempW F.length) ∨ l' = dput (ddel (dput l tempW F.length) tempW) (nameW n) F.length) (fun _ => .inl) (.inr rfl)
  rw [ddel_dput ht] at s4
  unfold make1W
  rw [if_neg hfr]
  exact s4.next fun y hy => res_syncDir hy (by omega) (hy.al fun l' hl' g hg => by
    have e1 : ∀ i, i < F.length → CutAt F g i := fun i hi => cut_push (hg i) hi
    have e3 : g F.length = b := by
      have := (hg F.length).whole (by rw [fileAt_last]; rfl)
      rw [fileAt_last] at this
      exact this
    rcases hl' with (hl' | rfl) | rfl
    · exact h1 l' hl' g e1 ⟨b.length, by rw [e3]; simp⟩
    · exact h2 g e1 ⟨b.length, by rw [e3]; simp⟩
    · exact h3 g e1 e3)
/-- Generations taken out, one behind the other. -/
def delAll (l : Dir) (ns : List Nat) : Dir := ns.foldl (fun l n => ddel l (nameW n)) l
theorem removeAll_res (hg : ∀ l, P l → ∀ g, (∀ i, CutAt F g i) → Good (fmapF g l)) : ∀ (ns : List Nat) {l : Dir} {x : DiskS} {o : Nat}, At z R o P l F x → o + ns.length ≤ 1048576 → (∀ l n, n ∈ ns → P l → P (ddel l (nameW n))) → P l → ns.Nodup → (∀ n ∈ ns, n < 9223372036854775808 ∧ ∃ i, dget l (nameW n) = some i) →
    Res z Good (At z R (o + ns.length) P (delAll l ns) F) (removeAll x ns)
  | [], l, x, o, h, _, _, _, _, _ => .inl ⟨rfl, h⟩
  | n :: t, l, x, o, h, ho, hp, hpl, hn, hd => by
    rw [List.length_cons] at ho
    obtain ⟨hn1, hn2⟩ := List.nodup_cons.1 hn
    obtain ⟨hb, i, hi⟩ := hd n (by simp)
    have s1 := res_remove h (by omega) (h.al hg) hi (nameW_ne n) (P' := P) (fun _ => id) (hp l n (by simp) hpl)
    have s2 := s1.next (f := (removeAll · t)) fun y hy => removeAll_res hg t hy (by omega) (fun l m hm => hp l m (by simp [hm])) (hp l n (by simp) hpl) hn2 fun m hm => by
      obtain ⟨hb2, j, hj⟩ := hd m (by simp [hm])
      exact ⟨hb2, j, by rw [dget_ddel_other (fun e => hn1 (by rw [nameW_inj hb hb2 e]; exact hm))]; exact hj⟩
    rw [show o + (n :: t).length = o + 1 + t.length by rw [List.length_cons]; omega]
    exact s2
/-- An Open's end: a log; or the power failed. -/
def Done (z : Prop) (Good : Files → Prop) (I : DiskS → Prop) (L : LogS) (r : OpenR) : Prop :=
  (r.2 = (some L, 0) ∧ I r.1) ∨ (¬ z ∧ r.2 = (none, 51) ∧ r.1.dead = true ∧ AL Good r.1)
theorem closeW_res {older : List Nat} {L : LogS} (h : Res z Good I r) (hI : ∀ x, I x → Res z Good J (removeAll x older)) (hJ : older ≠ [] → ∀ x, J x → Res z Good K (syncDir x)) (hJ0 : older = [] → ∀ x, J x → K x) : Done z Good K L (closeW r older L) := by
  have h1 : Res z Good J (next r (removeAll · older)) := h.next hI
  have h2 : Res z Good K (if older = [] then next r (removeAll · older) else next (next r (removeAll · older)) syncDir) := by
    split
    · next e => exact h1.mono (hJ0 e)
    · next e => exact h1.next (hJ e)
  unfold closeW
  simp only []
  rcases h2 with ⟨e, h3⟩ | ⟨h0, e, h3, h4⟩
  · rw [if_pos e]
    exact .inl ⟨rfl, h3⟩
  · rw [if_neg (by rw [e]; decide)]
    exact .inr ⟨h0, by show (none, _) = _; rw [e], h3, h4⟩
end
end Go.Proofs.YtgpenpnobjecgaaGreatDoor
