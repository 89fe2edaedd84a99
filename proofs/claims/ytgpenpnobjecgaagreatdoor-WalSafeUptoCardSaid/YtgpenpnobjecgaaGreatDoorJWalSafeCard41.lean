/- WalSafe in plain Lean: Snapshot by the book. -/
import Derived.Test.YtgpenpnobjecgaaGreatDoorJWalSafeCard40
/- Safe2 -/
namespace Go.Proofs.YtgpenpnobjecgaaGreatDoor
set_option maxRecDepth 100000
open Go.RowKit Dk

theorem FitsB.cut {b : BookS} {st : Bs} {recs : List Bs} {j q : Nat} (h1 : b.state = st) (h2 : b.records = recs) (h3 : b.safe ≤ j) (hj : j ≤ q) (hq : q ≤ recs.length) : FitsB b st (recs.take q) := by
  subst h1 h2
  have hl : (b.records.take q).length = q := by rw [List.length_take]; omega
  exact .inr ⟨by rw [hl]; omega, by rw [hl]; exact hq, rfl, by rw [hl]⟩
section
variable {R E : Nat} {d : DiskS} {e : Nat} {st : Bs} {recs : List Bs} {i j : Nat}
theorem base_dir (e i : Nat) : ddel [(nameW e, i)] tempW = [(nameW e, i)] := ddel_none (by rw [dget_cons, if_neg (fun h => temp_ne e h.symm)]; rfl)
theorem base_rise (e i : Nat) : Rising [(nameW e, i)] := by simp [Rising]
theorem InUse.base (h : InUse R d e st recs i j) (hE : e ≤ E) {g : Nat → Bs} (hg : CutAt d.files g i) : ∃ q, j ≤ q ∧ q ≤ recs.length ∧ GoodT True R (NmE E) st (recs.take q) (fmapF g [(nameW e, i)]) := by
  obtain ⟨_, _, _, _, _, hgl, _⟩ := h.cut hg
  have hlo := h.lo
  have hhi := h.hi
  have hfs : fmapF g [(nameW e, i)] = [(nameW e, g i)] := rfl
  obtain ⟨q, h1, h2, h3⟩ := h.tells hg (fs := fmapF g [(nameW e, i)]) ⟨hlo, hhi, by rw [hfs]; simp, fun n c hn h1 h2 => by
    rw [hfs, List.mem_singleton] at hn
    injection hn with hn _
    have := nameW_inj (by omega) (by omega) hn
    omega⟩ (by rw [core_fmap, base_dir]; rfl)
  have hlen := h.len
  have hfit := h.fits
  refine ⟨q, h1, h2, .of (base_rise e i) (fun p hp => by rw [List.mem_singleton.1 hp]; exact named_nameW e (by omega)) (by simp) (fun p hp => by rw [List.mem_singleton.1 hp]; show (g i).length ≤ _; omega) (by simp [dsum]; omega), h3, fun p hp => ?_⟩
  rw [hfs, List.mem_singleton] at hp
  subst hp
  exact .inr ⟨e, hlo, hE, rfl⟩
/-- A file more beside it. -/
theorem InUse.fits_more (h : InUse R d e st recs i j) {g : Nat → Bs} (hg : CutAt d.files g i) {t : Bs} {k m : Nat} (hn : named t = true) (hk : (g k).length ≤ m) (hm : m ≤ 4194304) (hR : (bytesW e st recs).length + m ≤ R) : Fits R (fmapF g (dput [(nameW e, i)] t k)) := by
  obtain ⟨_, _, _, _, _, hgl, _⟩ := h.cut hg
  have hlen := h.len
  have hhi := h.hi
  refine .of (rising_dput (base_rise e i) _ _) (fun p hp => ?_) ?_ (fun p hp => ?_) ?_
  · rcases mem_dput.1 hp with rfl | ⟨hp, _⟩
    · exact hn
    · rw [List.mem_singleton.1 hp]; exact named_nameW e (by omega)
  · unfold dput
    rw [length_dins]
    have := length_ddel_le [(nameW e, i)] t
    simp at this
    omega
  · rcases mem_dput.1 hp with rfl | ⟨hp, _⟩
    · exact Nat.le_trans hk hm
    · rw [List.mem_singleton.1 hp]; show (g i).length ≤ _; omega
  · unfold dput
    rw [dsum_dins]
    have := dsum_sub g (ddel_sub [(nameW e, i)] t)
    simp [dsum] at this ⊢
    omega
theorem InUse.temp (h : InUse R d e st recs i j) (hE : e ≤ E) {g : Nat → Bs} (hg : CutAt d.files g i) {k m : Nat} (hk : (g k).length ≤ m) (hm : m ≤ 4194304) (hR : (bytesW e st recs).length + m ≤ R) : ∃ q, j ≤ q ∧ q ≤ recs.length ∧ GoodT True R (NmE E) st (recs.take q) (fmapF g (dput [(nameW e, i)] tempW k)) := by
  obtain ⟨q, h1, h2, _, h4, h5⟩ := h.base hE hg
  refine ⟨q, h1, h2, h.fits_more hg (by decide) hk hm hR, h4.of_core ?_, fun p hp => ?_⟩
  · rw [core_fmap, core_fmap, ddel_dput (by rw [dget_cons, if_neg (fun h => temp_ne e h.symm)]; rfl), base_dir]
  · obtain ⟨x, hx, rfl⟩ := List.mem_map.1 hp
    rcases mem_dput.1 hx with rfl | ⟨hx, _⟩
    · exact .inl rfl
    · exact h5 (x.1, g x.2) (List.mem_map_of_mem hx)
theorem InUse.newer (h : InUse R d e st recs i j) (hE : e + 1 ≤ E) (he : e + 1 ≤ 1099511627776) {g : Nat → Bs} (hg : CutAt d.files g i) {k : Nat} {p : Bs} (hp : p.length ≤ 1048576) (hk : g k = bytesW (e + 1) p []) (hm : (bytesW (e + 1) p []).length ≤ 4194304) (hR : (bytesW e st recs).length + (bytesW (e + 1) p []).length ≤ R)
    {l : Dir} (hl : l.Sublist (dput [(nameW e, i)] (nameW (e + 1)) k)) (hme : (nameW (e + 1), k) ∈ l) : GoodT True R (NmE E) p [] (fmapF g l) := by
  have hlo := h.lo
  have hread := readB_bytes (n := e + 1) (s := p) (rs := []) ⟨by omega, hp, (fun r hr => by cases hr), by simp⟩ (tail := []) (.inl rfl)
  rw [List.append_nil] at hread
  refine ⟨(h.fits_more hg (t := nameW (e + 1)) (k := k) (named_nameW _ (by omega)) (by rw [hk]; exact Nat.le_refl _) hm hR).sub (fmap_sub g hl), .gen (e + 1) (bytesW (e + 1) p []) (bytesW (e + 1) p []).length 0 ⟨by omega, he, mem_fmap.2 ⟨k, hme, hk⟩, fun n c hn h1 h2 => ?_⟩ hread (fun _ => List.take_length) (fun h0 => absurd h0 (Nat.lt_irrefl 0)), fun x hx => ?_⟩
  · obtain ⟨y, hy, _⟩ := mem_fmap.1 hn
    rcases mem_dput.1 (hl.subset hy) with e1 | ⟨e1, _⟩
    · injection e1 with e1 _
      have := nameW_inj (by omega) (by omega) e1
      omega
    · rw [List.mem_singleton] at e1
      injection e1 with e1 _
      have := nameW_inj (by omega) (by omega) e1
      omega
  · obtain ⟨y, hy, rfl⟩ := List.mem_map.1 hx
    rcases mem_dput.1 (hl.subset hy) with rfl | ⟨hy, _⟩
    · exact .inr ⟨e + 1, by omega, hE, rfl⟩
    · rw [List.mem_singleton.1 hy]
      exact .inr ⟨e, hlo, by omega, rfl⟩
theorem InUse.al (h : InUse R d e st recs i j) (hE : e ≤ E) {b : BookS} (h1 : b.state = st) (h2 : b.records = recs) (h3 : b.safe ≤ j) : AL (GoodB R E b) d := by
  refine AL.of (P := (· = [(nameW e, i)])) (.calm h.chg (by rw [h.safe, h.dir]) h.dir) fun l hl g hg => ?_
  subst hl
  obtain ⟨q, a1, a2, a3⟩ := h.base hE (hg i)
  exact ⟨st, _, FitsB.cut h1 h2 h3 a1 a2, a3⟩
theorem InUse.get (h : InUse R d e st recs i j) : dget d.dir (nameW e) = some i := by rw [h.dir]; simp [dget]
theorem InUse.used (h : InUse R d e st recs i j) : d.used = (bytesW e st recs).length := by
  unfold DiskS.used
  rw [h.dir]
  simp [usedIn, h.file]
theorem InUse.free (h : InUse R d e st recs i j) : free d = R - (bytesW e st recs).length := by
  unfold Dk.free
  rw [h.live, h.used, h.room]
  simp
end
/-- A log by the book, whatever fails. -/
structure SafeI (R E : Nat) (d : DiskS) (L : LogS) (b : BookS) : Prop where
  room : d.room = R
  left : AL (GoodB R E b) d
  use : L.broken = false → ∃ i j, InUse R d L.epoch b.state b.records i j ∧ b.safe ≤ j ∧ b.maybe = false ∧ L.state = b.state ∧ L.records = b.records ∧ L.size = (bytesW L.epoch b.state b.records).length ∧ L.epoch ≤ E
theorem GoodB.of {R E E' : Nat} {b b' : BookS} {fs : Files} (h : GoodB R E b fs) (hE : E ≤ E') (hb : ∀ s rs, FitsB b s rs → FitsB b' s rs) : GoodB R E' b' fs := by
  obtain ⟨s, rs, h1, h2⟩ := h
  exact ⟨s, rs, hb s rs h1, h2.more hE⟩
theorem SafeI.broke {R E E' : Nat} {d d' : DiskS} {L : LogS} {b b' : BookS} (h : SafeI R E d L b) (hr : d'.room = d.room) (hd : AL (GoodB R E b) d → AL (GoodB R E b) d') (hE : E ≤ E') (hb : ∀ s rs, FitsB b s rs → FitsB b' s rs) : SafeI R E' d' L.broke b' :=
  ⟨hr.trans h.room, fun c t => (hd h.left c t).of hE hb, fun h => by cases h⟩
theorem SafeI.more {R E E' : Nat} {d : DiskS} {L : LogS} {b : BookS} (h : SafeI R E d L b) (hE : E ≤ E') : SafeI R E' d L b :=
  ⟨h.room, fun c t => (h.left c t).of hE fun _ _ => id, fun hb => by
    obtain ⟨i, j, h1, h2, h3, h4, h5, h6, h7⟩ := h.use hb
    exact ⟨i, j, h1, h2, h3, h4, h5, h6, by omega⟩⟩
def BookS.push (b : BookS) (p : Bs) : BookS := { b with records := b.records ++ [p] }
theorem FitsB.push {b : BookS} {s : Bs} {rs : List Bs} (p : Bs) (h : FitsB b s rs) : FitsB (b.push p) s rs := by
  rcases h with h | ⟨h1, h2, h3, h4⟩
  · exact .inl h
  · exact .inr ⟨h1, by show _ ≤ (b.records ++ [p]).length; rw [List.length_append]; omega, h3, by show rs = (b.records ++ [p]).take _; rw [List.take_append_of_le_length h2]; exact h4⟩
theorem append_cases {d : DiskS} {s p : Bs} {i : Nat} (hl : d.dead = false) (hg : dget d.dir s = some i) : Dk.append d s p = (d, 5) ∨ Dk.append d s p = (gone d, 51) ∨ Dk.append d s p = ({ went d with files := d.files.modify i (appF p) }, 0) := by
  unfold Dk.append
  rw [hl, hg, if_neg (by simp)]
  simp only []
  split
  · exact .inl rfl
  · right
    by_cases ha : d.armed = 1
    · rw [op_gone ha]; exact .inl rfl
    · rw [op_went ha]; exact .inr rfl
theorem sync_cases {d : DiskS} {s : Bs} {i : Nat} (hl : d.dead = false) (hg : dget d.dir s = some i) : Dk.sync d s = (d, 5) ∨ Dk.sync d s = (gone d, 51) ∨ Dk.sync d s = ({ went d with files := d.files.modify i syncF }, 0) := by
  unfold Dk.sync
  rw [hl, hg, if_neg (by simp)]
  simp only []
  split
  · exact .inl rfl
  · right
    by_cases ha : d.armed = 1
    · rw [op_gone ha]; exact .inl rfl
    · rw [op_went ha]; exact .inr rfl
section
variable {R E : Nat} {d : DiskS} {L : LogS} {b : BookS}
/-- Append. -/
theorem append_safe (h : SafeI R E d L b) (hE : E < 1099511627776) (p : Bs) : ∃ d' L' q, appendW d L p = ((d', L'), q) ∧ ((q = 0 ∧ L'.broken = L.broken ∧ SafeI R E d' L' (b.push p)) ∨ (q ≠ 0 ∧ L' = L.broke ∧ L.broken = false ∧ SafeI R E d' L' (b.push p)) ∨ (q ≠ 0 ∧ L' = L ∧ SafeI R E d' L' b)) := by
  unfold appendW
  split
  · exact ⟨_, _, _, rfl, .inr (.inr ⟨by decide, rfl, h⟩)⟩
  · next hp =>
    split
    · exact ⟨_, _, _, rfl, .inr (.inr ⟨by decide, rfl, h⟩)⟩
    · next hb =>
      have hb : L.broken = false := by simpa using hb
      split
      · exact ⟨_, _, _, rfl, .inr (.inr ⟨by decide, rfl, h⟩)⟩
      · next hf =>
        obtain ⟨i, j, hu, h2, h3, h4, h5, h6, h7⟩ := h.use hb
        rw [h5, h6, hu.free] at hf
        rcases append_cases (p := sealW 2 (L.records.length + 1) p) hu.live hu.get with e | e | e
        · refine ⟨d, L.broke, 5, by rw [e]; rfl, .inr (.inl ⟨by decide, rfl, hb, ?_⟩)⟩
          exact h.broke rfl id (Nat.le_refl _) fun s rs hs => hs.push p
        · refine ⟨gone d, L.broke, 51, by rw [e]; rfl, .inr (.inl ⟨by decide, rfl, hb, ?_⟩)⟩
          exact h.broke rfl AL.gone (Nat.le_refl _) fun s rs hs => hs.push p
        · have hnx := bytesW_push L.epoch b.state b.records p
          rw [h5] at e
          have hpt := hu.part
          have hu2 : InUse R { went d with files := d.files.modify i (appF (sealW 2 (b.records.length + 1) p)) } L.epoch (b.push p).state (b.push p).records i j := by
            refine ⟨hu.live, hu.room, hu.lo, hu.hi, hu.dir, hu.safe, hu.chg, by simp [hu.lt], ?_, by show j ≤ (b.records ++ [p]).length; rw [List.length_append]; omega, fun _ => ⟨?_, by omega⟩, hu.state, fun r hr => ?_, ?_, ?_⟩
            · show fileAt (d.files.modify i _) i = _
              rw [Go.Proofs.YtgpenpnobjecgaaGreatDoor.fileAt_modify _ hu.lt, hu.file]
              show (⟨_ ++ _, _⟩ : FileS) = ⟨bytesW L.epoch b.state (b.records ++ [p]), _⟩
              rw [hnx]
              congr 1
              show _ = (bytesW L.epoch b.state ((b.records ++ [p]).take j)).length
              rw [List.take_append_of_le_length hpt]
            · show (bytesW L.epoch b.state (b.records ++ [p])).length + (bytesW L.epoch b.state (b.records ++ [p])).length ≤ R
              rw [hnx, List.length_append]
              omega
            · rcases List.mem_append.1 hr with hr | hr
              · exact hu.small r hr
              · rw [List.mem_singleton.1 hr]; omega
            · show (bytesW L.epoch b.state (b.records ++ [p])).length ≤ _
              rw [hnx, List.length_append]
              omega
            · show (bytesW L.epoch b.state (b.records ++ [p])).length ≤ _
              rw [hnx, List.length_append]
              omega
          refine ⟨{ went d with files := d.files.modify i (appF (sealW 2 (b.records.length + 1) p)) }, { L with records := b.records ++ [p], size := L.size + (sealW 2 (b.records.length + 1) p).length }, 0, by rw [h5, e]; rfl, .inl ⟨rfl, rfl, hu.room, hu2.al h7 rfl rfl h2, fun _ => ⟨i, j, hu2, h2, h3, h4, rfl, ?_, h7⟩⟩⟩
          · show L.size + (sealW 2 (b.records.length + 1) p).length = (bytesW L.epoch b.state (b.records ++ [p])).length
            rw [hnx, List.length_append, h6]
/-- Sync. -/
theorem sync_safe (h : SafeI R E d L b) : ∃ d' L' q, syncW d L = ((d', L'), q) ∧ ((q = 0 ∧ SafeI R E d' L' { b with safe := b.records.length }) ∨ (q ≠ 0 ∧ SafeI R E d' L' b)) := by
  unfold syncW
  split
  · exact ⟨_, _, _, rfl, .inr ⟨by decide, h⟩⟩
  · next hb =>
    have hb : L.broken = false := by simpa using hb
    obtain ⟨i, j, hu, h2, h3, h4, h5, h6, h7⟩ := h.use hb
    rcases sync_cases hu.live hu.get with e | e | e
    · exact ⟨d, L.broke, 5, by rw [e]; rfl, .inr ⟨by decide, h.broke rfl id (Nat.le_refl _) fun _ _ => id⟩⟩
    · exact ⟨gone d, L.broke, 51, by rw [e]; rfl, .inr ⟨by decide, h.broke rfl AL.gone (Nat.le_refl _) fun _ _ => id⟩⟩
    · have hu2 : InUse R { went d with files := d.files.modify i syncF } L.epoch b.state b.records i b.records.length := by
        refine ⟨hu.live, hu.room, hu.lo, hu.hi, hu.dir, hu.safe, hu.chg, by simp [hu.lt], ?_, Nat.le_refl _, fun h => absurd h (Nat.lt_irrefl _), hu.state, hu.small, hu.len, hu.fits⟩
        show fileAt (d.files.modify i _) i = _
        rw [Go.Proofs.YtgpenpnobjecgaaGreatDoor.fileAt_modify _ hu.lt, hu.file, List.take_length]
        rfl
      exact ⟨{ went d with files := d.files.modify i syncF }, L, 0, by rw [e]; rfl, .inl ⟨rfl, hu.room, hu2.al h7 rfl rfl (Nat.le_refl _), fun _ => ⟨i, _, hu2, Nat.le_refl _, h3, h4, h5, h6, h7⟩⟩⟩
end
end Go.Proofs.YtgpenpnobjecgaaGreatDoor

/- Safe3 -/
namespace Go.Proofs.YtgpenpnobjecgaaGreatDoor
set_option maxRecDepth 100000
open Go.RowKit Dk

/-- Done; or refused or cut off, and what is left is good. -/
def ResW (R : Nat) (Good : Files → Prop) (I : DiskS → Prop) (r : DiskS × Nat) : Prop := (r.2 = 0 ∧ I r.1) ∨ (r.2 ≠ 0 ∧ r.1.room = R ∧ AL Good r.1)
/-- A disk in use, however many operations are behind it. -/
def AtW (R : Nat) (P : Dir → Prop) (l : Dir) (F : List FileS) (x : DiskS) : Prop := At False R x.ops P l F x
section
variable {Good : Files → Prop} {I J : DiskS → Prop} {r : DiskS × Nat} {f : DiskS → DiskS × Nat} {x : DiskS} {R : Nat} {P P' : Dir → Prop} {l : Dir} {F : List FileS}
theorem ResW.next (h : ResW R Good I r) (hf : ∀ x, I x → ResW R Good J (f x)) : ResW R Good J (next r f) := by
  obtain ⟨d, q⟩ := r
  rcases h with ⟨h1, h2⟩ | ⟨h1, h2⟩
  · have h1 : q = 0 := h1
    subst h1
    exact hf _ h2
  · unfold Go.Proofs.YtgpenpnobjecgaaGreatDoor.next
    rw [if_neg h1]
    exact .inr ⟨h1, h2⟩
theorem AtW.ops (h : AtW R P l F x) {y : DiskS} {P' : Dir → Prop} {l' : Dir} {F' : List FileS} {o : Nat} (hy : At False R o P' l' F' y) : AtW R P' l' F' y := ⟨hy.live, hy.arm, hy.room, Nat.le_refl _, hy.lefts, hy.dir, hy.files⟩
theorem resW_of {o : Nat} (h : AtW R P l F x) (hA : AL Good x) {f : DiskS → DiskS} {l' : Dir} {F' : List FileS} {s : DiskS × Nat} (hs : s = (x, 5) ∨ s = op x f) (hI : At False R o P' l' F' (f (Go.Proofs.YtgpenpnobjecgaaGreatDoor.went x))) : ResW R Good (AtW R P' l' F') s := by
  rcases hs with rfl | rfl
  · exact .inr ⟨by show (5 : Nat) ≠ 0; decide, h.room, hA⟩
  · by_cases ha : x.armed = 1
    · rw [op_gone ha]
      exact .inr ⟨by show (51 : Nat) ≠ 0; decide, h.room, hA.gone⟩
    · rw [op_went ha]
      exact .inl ⟨rfl, h.ops hI⟩
theorem resW_create (h : AtW R P l F x) (hA : AL Good x) {s : Bs} (hn : named s = true) (hg : dget l s = none) (hl : l.length < 64) (hs : s ≠ []) (hp : ∀ l, P l → P' l) (hc : P' (dput l s F.length)) :
    ResW R Good (AtW R P' (dput l s F.length) (F ++ [⟨[], 0⟩])) (create x s) := by
  have h1 := ((At.went h).refile (F ++ [⟨[], 0⟩])).note (P' := P') ⟨[], s, F.length⟩ hp (by simpa [turn, hs] using hc)
  have e1 : turn l ⟨[], s, F.length⟩ = dput l s F.length := by simp [turn, hs]
  have e2 : (Go.Proofs.YtgpenpnobjecgaaGreatDoor.went x).files = F := h.files
  rw [e1] at h1
  refine resW_of (f := fun d => note { d with files := d.files ++ [⟨[], 0⟩] } ⟨[], s, d.files.length⟩) h hA ?_ (o := x.ops + 1) (by rw [e2]; exact h1)
  unfold create
  rw [h.live, hn, h.dir, hg, if_neg (by simp), if_neg (by simp), if_neg (by simp)]
  split
  · exact .inl rfl
  · exact .inr rfl
theorem resW_append (h : AtW R P l F x) (hA : AL Good x) {s p : Bs} {i : Nat} (hg : dget l s = some i) : ResW R Good (AtW R P l (F.modify i (appF p))) (Dk.append x s p) := by
  have h1 := (At.went h).refile (F.modify i (appF p))
  have e2 : (Go.Proofs.YtgpenpnobjecgaaGreatDoor.went x).files = F := h.files
  refine resW_of (f := fun d => { d with files := d.files.modify i (appF p) }) h hA ?_ (o := x.ops + 1) (by rw [e2]; exact h1)
  unfold Dk.append
  rw [h.live, h.dir, hg, if_neg (by simp)]
  simp only []
  split
  · exact .inl rfl
  · exact .inr rfl
theorem resW_sync (h : AtW R P l F x) (hA : AL Good x) {s : Bs} {i : Nat} (hg : dget l s = some i) : ResW R Good (AtW R P l (F.modify i syncF)) (Dk.sync x s) := by
  have h1 := (At.went h).refile (F.modify i syncF)
  have e2 : (Go.Proofs.YtgpenpnobjecgaaGreatDoor.went x).files = F := h.files
  refine resW_of (f := fun d => { d with files := d.files.modify i syncF }) h hA ?_ (o := x.ops + 1) (by rw [e2]; exact h1)
  unfold Dk.sync
  rw [h.live, h.dir, hg, if_neg (by simp)]
  simp only []
  split
  · exact .inl rfl
  · exact .inr rfl
theorem resW_rename (h : AtW R P l F x) (hA : AL Good x) {s t : Bs} {i : Nat} (hg : dget l s = some i) (hn : named t = true) (hne : s ≠ t) (hs : s ≠ []) (ht : t ≠ []) (hp : ∀ l, P l → P' l) (hc : P' (dput (ddel l s) t i)) :
    ResW R Good (AtW R P' (dput (ddel l s) t i) F) (rename x s t) := by
  have e1 : turn l ⟨s, t, i⟩ = dput (ddel l s) t i := by simp [turn, hs, ht]
  have h1 := (At.went h).note (P' := P') ⟨s, t, i⟩ hp (by rw [e1]; exact hc)
  rw [e1] at h1
  refine resW_of (f := fun d => if s = t then d else note d ⟨s, t, i⟩) h hA ?_ (o := x.ops + 1) (by rw [if_neg hne]; exact h1)
  unfold rename
  rw [h.live, h.dir, hg, if_neg (by simp)]
  simp only []
  rw [hn, if_neg (by simp)]
  split
  · exact .inl rfl
  · exact .inr rfl
theorem resW_remove (h : AtW R P l F x) (hA : AL Good x) {s : Bs} {i : Nat} (hg : dget l s = some i) (hs : s ≠ []) (hp : ∀ l, P l → P' l) (hc : P' (ddel l s)) : ResW R Good (AtW R P' (ddel l s) F) (remove x s) := by
  have e1 : turn l ⟨s, [], 0⟩ = ddel l s := by simp [turn, hs]
  have h1 := (At.went h).note (P' := P') ⟨s, [], 0⟩ hp (by rw [e1]; exact hc)
  rw [e1] at h1
  refine resW_of (f := fun d => note d ⟨s, [], 0⟩) h hA ?_ (o := x.ops + 1) h1
  unfold remove
  rw [h.live, h.dir, hg, if_neg (by simp)]
  simp only []
  split
  · exact .inl rfl
  · exact .inr rfl
theorem resW_syncDir (h : AtW R P l F x) (hA : AL Good x) : ResW R Good (fun y => AtW R (· = l) l F y ∧ Rest y) (syncDir x) := by
  have hw := At.went h
  unfold syncDir
  rw [h.live, if_neg (by simp)]
  split
  · exact .inr ⟨by show (5 : Nat) ≠ 0; decide, h.room, hA⟩
  · by_cases ha : x.armed = 1
    · rw [op_gone ha]
      exact .inr ⟨by show (51 : Nat) ≠ 0; decide, h.room, hA.gone⟩
    · rw [op_went ha]
      exact .inl ⟨rfl, ⟨hw.live, hw.arm, hw.room, Nat.le_refl _, .calm rfl rfl hw.dir, hw.dir, hw.files⟩, rfl, rfl⟩
theorem AtW.al (h : AtW R P l F x) (hg : ∀ l, P l → ∀ g, (∀ i, CutAt F g i) → Good (fmapF g l)) : AL Good x := At.al h hg
theorem make_resW {n : Nat} {b : Bs} (h : AtW R P l F x) (hR : Rising l) (ht : dget l tempW = none) (hl : l.length < 64) (hn : named (nameW n) = true) (hu : usedIn F l + b.length ≤ R)
    (h1 : ∀ l, P l → ∀ g, (∀ i, i < F.length → CutAt F g i) → (∃ j, g F.length = b.take j) → Good (fmapF g l))
    (h2 : ∀ g, (∀ i, i < F.length → CutAt F g i) → (∃ j, g F.length = b.take j) → Good (fmapF g (dput l tempW F.length)))
    (h3 : ∀ g, (∀ i, i < F.length → CutAt F g i) → g F.length = b → Good (fmapF g (dput l (nameW n) F.length))) :
    ResW R Good (fun y => AtW R (· = dput l (nameW n) F.length) (dput l (nameW n) F.length) (F ++ [⟨b, b.length⟩]) y ∧ Rest y) (make1W x n b) := by
  have hus : x.used = usedIn F l := by unfold DiskS.used; rw [h.files, h.dir]
  have hfr : ¬ free x < b.length := by unfold free; rw [h.live, hus, h.room]; simp; omega
  have a0 : AL Good x := h.al fun l' hl' g hg => h1 l' hl' g (fun i _ => hg i) ⟨0, by rw [cut_none (hg F.length) (Nat.le_refl _)]; rfl⟩
  have gT : dget (dput l tempW F.length) tempW = some F.length := by rw [dget_dput _ _ _ _ hR, if_pos rfl]
  have mid : ∀ {f : FileS} {y : DiskS}, AtW R (fun l' => P l' ∨ l' = dput l tempW F.length) (dput l tempW F.length) (F ++ [f]) y → (∃ k, f.b = b.take k) → AL Good y := fun {f y} hy hf => hy.al fun l' hl' g hg => by
    obtain ⟨k, hk⟩ := hf
    have e1 : ∀ i, i < F.length → CutAt F g i := fun i hi => cut_push (hg i) hi
    have e2 : ∃ j, g F.length = b.take j := by
      obtain ⟨j, _, e⟩ := hg F.length
      rw [fileAt_last, hk, List.take_take] at e
      exact ⟨_, e⟩
    rcases hl' with hl' | rfl
    · exact h1 l' hl' g e1 e2
    · exact h2 g e1 e2
  have s1 := resW_create h a0 (s := tempW) (by decide) ht hl tempW_ne (P' := fun l' => P l' ∨ l' = dput l tempW F.length) (fun _ => .inl) (.inr rfl)
  have s2 := s1.next fun y hy => resW_append hy (mid hy ⟨0, rfl⟩) gT (p := b)
  rw [modify_last] at s2
  have s3 := s2.next fun y hy => resW_sync hy (mid hy ⟨b.length, by simp [appF]⟩) gT
  rw [modify_last] at s3
  have s4 := s3.next fun y hy => resW_rename hy (mid hy ⟨b.length, by simp [appF, syncF]⟩) gT hn (temp_ne n) tempW_ne (nameW_ne n) (P' := fun l' => (P l' ∨ l' = dput l tempW F.length) ∨ l' = dput (ddel (dput l tempW F.length) tempW) (nameW n) F.length) (fun _ => .inl) (.inr rfl)
  rw [ddel_dput ht] at s4
  unfold make1W
  rw [if_neg hfr]
  exact s4.next fun y hy => resW_syncDir hy (hy.al fun l' hl' g hg => by
    have e1 : ∀ i, i < F.length → CutAt F g i := fun i hi => cut_push (hg i) hi
    have e3 : g F.length = b := by
      have := (hg F.length).whole (by rw [fileAt_last]; rfl)
      rw [fileAt_last] at this
      exact this
    rcases hl' with (hl' | rfl) | rfl
    · exact h1 l' hl' g e1 ⟨b.length, by rw [e3]; simp⟩
    · exact h2 g e1 ⟨b.length, by rw [e3]; simp⟩
    · exact h3 g e1 e3)
end
end Go.Proofs.YtgpenpnobjecgaaGreatDoor

/- Safe4 -/
namespace Go.Proofs.YtgpenpnobjecgaaGreatDoor
set_option maxRecDepth 100000
open Go.RowKit Dk

theorem bytesW_nil_len (n : Nat) (p : Bs) (hn : n < 18446744073709551616) : (bytesW n p []).length ≤ 19 + p.length := by
  have := groups_len n hn
  show (sealW 1 n p ++ []).length ≤ _
  rw [List.append_nil, sealW_len]
  omega
def BookS.turned (b : BookS) (p : Bs) : BookS := { b with new := p, maybe := true }
theorem FitsB.turned {b : BookS} {s : Bs} {rs : List Bs} (p : Bs) (hm : b.maybe = false) (h : FitsB b s rs) : FitsB (b.turned p) s rs := by
  rcases h with h | h
  · rw [hm] at h; exact absurd h.1 (by simp)
  · exact .inr h
section
variable {R E : Nat} {d : DiskS} {L : LogS} {b : BookS}
theorem InUse.atW {R : Nat} {d : DiskS} {e : Nat} {st : Bs} {recs : List Bs} {i j : Nat} (h : InUse R d e st recs i j) : AtW R (· = [(nameW e, i)]) [(nameW e, i)] d.files d :=
  ⟨h.live, fun h => h.elim, h.room, Nat.le_refl _, .calm h.chg (by rw [h.safe, h.dir]) h.dir, h.dir, rfl⟩
/-- Snapshot's operations. -/
theorem snap_res {e : Nat} {i j : Nat} (hu : InUse R d e b.state b.records i j) (hj : b.safe ≤ j) (hm : b.maybe = false) (hE : e + 1 ≤ E) (he : e + 1 ≤ 1099511627776) {p : Bs} (hp : p.length ≤ 1048576)
    (hf : ¬ (free d < (bytesW (e + 1) p []).length)) :
    ResW R (GoodB R E (b.turned p)) (fun y => InUse R y (e + 1) p [] d.files.length 0) (next (next (make1W d (e + 1) (bytesW (e + 1) p [])) (Dk.remove · (nameW e))) syncDir) := by
  have hlo := hu.lo
  have hR : (bytesW e b.state b.records).length + (bytesW (e + 1) p []).length ≤ R := by
    rw [hu.free] at hf
    have := hu.fits
    omega
  have hlen : (bytesW (e + 1) p []).length ≤ 4194304 := by
    have := bytesW_nil_len (e + 1) p (by omega)
    omega
  have hne : nameW (e + 1) ≠ nameW e := fun h => by
    have := nameW_inj (by omega) (by omega) h
    omega
  have oldG : ∀ {q : Nat} {fs : Files}, j ≤ q → q ≤ b.records.length → GoodT True R (NmE E) b.state (b.records.take q) fs → GoodB R E (b.turned p) fs := fun h1 h2 h3 =>
    ⟨b.state, _, (FitsB.cut rfl rfl hj h1 h2).turned p hm, h3⟩
  have newG : ∀ {fs : Files}, GoodT True R (NmE E) p [] fs → GoodB R E (b.turned p) fs := fun h3 => ⟨p, [], .inl ⟨rfl, rfl, rfl⟩, h3⟩
  have hmk := make_resW (Good := GoodB R E (b.turned p)) (n := e + 1) (b := bytesW (e + 1) p []) hu.atW (base_rise e i) (by rw [dget_cons, if_neg (fun h => temp_ne e h.symm)]; rfl) (by simp) (named_nameW _ (by omega))
    (by show usedIn d.files [(nameW e, i)] + _ ≤ R; simpa [usedIn, hu.file] using hR)
    (fun l hl g hg _ => by
      subst hl
      obtain ⟨q, h1, h2, h3⟩ := hu.base (by omega : e ≤ E) (hg i hu.lt)
      exact oldG h1 h2 h3)
    (fun g hg ⟨k, hk⟩ => by
      obtain ⟨q, h1, h2, h3⟩ := hu.temp (by omega : e ≤ E) (hg i hu.lt) (k := d.files.length) (m := (bytesW (e + 1) p []).length) (by rw [hk, List.length_take]; omega) hlen hR
      exact oldG h1 h2 h3)
    (fun g hg hk => newG (hu.newer hE he (hg i hu.lt) hp hk hlen hR (List.Sublist.refl _) (mem_dput.2 (.inl rfl))))
  have cuts : ∀ {g : Nat → Bs}, (∀ i, CutAt (d.files ++ [⟨bytesW (e + 1) p [], (bytesW (e + 1) p []).length⟩]) g i) → CutAt d.files g i ∧ g d.files.length = bytesW (e + 1) p [] := fun {g} hg => by
    refine ⟨cut_push (hg i) hu.lt, ?_⟩
    have := (hg d.files.length).whole (by rw [fileAt_last])
    rw [fileAt_last] at this
    exact this
  have s2 := hmk.next fun y hy => resW_remove (s := nameW e) (i := i) hy.1 (hy.1.al fun l hl g hg => by
      subst hl
      exact newG (hu.newer hE he (cuts hg).1 hp (cuts hg).2 hlen hR (List.Sublist.refl _) (mem_dput.2 (.inl rfl))))
    (by rw [dget_dput _ _ _ _ (base_rise e i), if_neg hne]; simp [dget]) (nameW_ne e) (P' := fun l' => l' = dput [(nameW e, i)] (nameW (e + 1)) d.files.length ∨ l' = ddel (dput [(nameW e, i)] (nameW (e + 1)) d.files.length) (nameW e)) (fun _ => .inl) (.inr rfl)
  have s3 := s2.next fun y hy => resW_syncDir hy (hy.al fun l hl g hg => by
    rcases hl with rfl | rfl
    · exact newG (hu.newer hE he (cuts hg).1 hp (cuts hg).2 hlen hR (List.Sublist.refl _) (mem_dput.2 (.inl rfl)))
    · exact newG (hu.newer hE he (cuts hg).1 hp (cuts hg).2 hlen hR (ddel_sub _ _) (mem_ddel.2 ⟨mem_dput.2 (.inl rfl), hne⟩)))
  refine s3.imp (fun ⟨h1, h2, h3, h4⟩ => ⟨h1, ?_⟩) id
  have hd := h2.dir
  rw [ddel_two hne] at hd
  have hl0 := bytesW_le (e + 1) p [] 0
  refine ⟨h2.live, h2.room, by omega, he, hd, by rw [h4, hd], h3, by rw [h2.files]; simp, by rw [h2.files, fileAt_last]; rfl, Nat.le_refl _, fun h => absurd h (Nat.lt_irrefl _), hp, (fun r hr => by cases hr), hlen, by omega⟩
/-- Snapshot. -/
theorem snap_safe (h : SafeI R E d L b) (hE : E + 1 ≤ 1099511627776) (p : Bs) : ∃ d' L' q, snapW d L p = ((d', L'), q) ∧ ((q = 0 ∧ L'.broken = L.broken ∧ SafeI R (E + 1) d' L' ⟨p, [], 0, [], false⟩) ∨ (q ≠ 0 ∧ L' = L.broke ∧ L.broken = false ∧ SafeI R (E + 1) d' L' (b.turned p)) ∨ (q ≠ 0 ∧ L' = L ∧ SafeI R (E + 1) d' L' b)) := by
  unfold snapW
  split
  · exact ⟨_, _, _, rfl, .inr (.inr ⟨by decide, rfl, h.more (Nat.le_succ E)⟩)⟩
  · next hp =>
    split
    · exact ⟨_, _, _, rfl, .inr (.inr ⟨by decide, rfl, h.more (Nat.le_succ E)⟩)⟩
    · next hb =>
      have hb : L.broken = false := by simpa using hb
      split
      · exact ⟨_, _, _, rfl, .inr (.inr ⟨by decide, rfl, h.more (Nat.le_succ E)⟩)⟩
      · split
        · exact ⟨_, _, _, rfl, .inr (.inr ⟨by decide, rfl, h.more (Nat.le_succ E)⟩)⟩
        · next hf =>
          obtain ⟨i, j, hu, h2, h3, h4, h5, h6, h7⟩ := h.use hb
          have hres := snap_res hu h2 h3 (E := E + 1) (p := p) (by omega) (by omega) (by omega) (fun h => hf (.inl h))
          generalize next (next (make1W d (L.epoch + 1) (bytesW (L.epoch + 1) p [])) (Dk.remove · (nameW L.epoch))) syncDir = r at hres
          obtain ⟨y, q⟩ := r
          rcases hres with ⟨h8, h9⟩ | ⟨h8, h9, h10⟩
          · have h8 : q = 0 := h8
            subst h8
            exact ⟨y, _, 0, rfl, .inl ⟨rfl, rfl, h9.room, h9.al (by show L.epoch + 1 ≤ E + 1; omega) rfl rfl (Nat.le_refl _), fun _ => ⟨_, 0, h9, Nat.le_refl _, rfl, rfl, rfl, rfl, by show L.epoch + 1 ≤ E + 1; omega⟩⟩⟩
          · have h8 : q ≠ 0 := h8
            exact ⟨y, L.broke, q, by simp only [if_neg h8], .inr (.inl ⟨h8, rfl, hb, h9, h10, fun h => by cases h⟩)⟩
end
end Go.Proofs.YtgpenpnobjecgaaGreatDoor
