/- A disk in memory: its files. -/
import Derived.Test.YtgpenpnobjecgaaGreatDoorJWalSafeCard10
import Derived.Test.YtgpenpnobjecgaaGreatDoorJWalSafeCard12
/- DiskOk -/
namespace Go.Proofs.YtgpenpnobjecgaaGreatDoor
set_option maxRecDepth 100000
open Go.RowKit Go.Maps Dk
namespace Dk

theorem fileAt_eq {fs : List FileS} {i : Nat} (h : i < fs.length) : fileAt fs i = fs[i] := by simp [fileAt, h]
theorem usedIn_congr {fs fs' : List FileS} {l : Dir} (h : ∀ p ∈ l, (fileAt fs p.2).b.length = (fileAt fs' p.2).b.length) : usedIn fs l = usedIn fs' l := by
  unfold usedIn
  rw [List.map_congr_left h]
theorem fileAt_push {fs : List FileS} {f : FileS} {i : Nat} (h : i < fs.length) : fileAt (fs ++ [f]) i = fileAt fs i := by
  simp [fileAt, List.getElem?_append_left h]
theorem fileAt_modify {fs : List FileS} {f : FileS → FileS} {i j : Nat} : fileAt (fs.modify i f) j = if i = j ∧ j < fs.length then f (fileAt fs j) else fileAt fs j := by
  unfold fileAt
  simp only [List.getD_eq_getElem?_getD, List.getElem?_modify]
  by_cases hj : j < fs.length
  · by_cases hij : i = j <;> simp [hj, hij]
  · simp [hj]
theorem usedIn_modify {fs : List FileS} {f : FileS → FileS} {i n : Nat} (hi : i < fs.length) (hf : (f (fileAt fs i)).b.length = (fileAt fs i).b.length + n) : ∀ {l : Dir}, (l.map (·.2)).Nodup → (∃ s, (s, i) ∈ l) → usedIn (fs.modify i f) l = usedIn fs l + n
  | [], _, ⟨s, h⟩ => by cases h
  | y :: r, hn, ⟨s, h⟩ => by
    rw [List.map_cons, List.nodup_cons] at hn
    rw [usedIn_cons, usedIn_cons]
    by_cases e : y.2 = i
    · have hr : usedIn (fs.modify i f) r = usedIn fs r := usedIn_congr fun p hp => by
        rw [fileAt_modify, if_neg]
        rintro ⟨h1, _⟩
        exact hn.1 (List.mem_map.2 ⟨p, hp, by rw [← h1, e]⟩)
      rw [hr, fileAt_modify, if_pos ⟨e.symm, by omega⟩, e, hf]
      omega
    · have hm : (s, i) ∈ r := by
        rcases List.mem_cons.1 h with h | h
        · exact absurd (by rw [← h]) e
        · exact h
      rw [usedIn_modify hi hf hn.2 ⟨s, hm⟩, fileAt_modify, if_neg (fun h => e h.1.symm)]
      omega
theorem usedIn_same {fs : List FileS} {f : FileS → FileS} {i : Nat} (hf : ∀ x, (f x).b = x.b) (l : Dir) : usedIn (fs.modify i f) l = usedIn fs l := usedIn_congr fun p _ => by
  rw [fileAt_modify]
  split
  · rw [hf]
  · rfl
theorem nodup_dins {x : Bs × Nat} {l : Dir} (h : (l.map (·.2)).Nodup) (hx : x.2 ∉ l.map (·.2)) : ((dins x l).map (·.2)).Nodup := by
  have := ((perm_dins x l).map (·.2)).nodup_iff
  rw [this, List.map_cons, List.nodup_cons]
  exact ⟨hx, h⟩
theorem nodup_ddel {l : Dir} (h : (l.map (·.2)).Nodup) (s : Bs) : ((ddel l s).map (·.2)).Nodup := h.sublist ((List.filter_sublist).map _)
theorem nodup_turn {l : Dir} {c : Chg} (h : (l.map (·.2)).Nodup) (hc : c.to ≠ [] → ∀ p ∈ l, p.2 = c.file → (p.1 = c.frm ∧ c.frm ≠ []) ∨ p.1 = c.to) : ((turn l c).map (·.2)).Nodup := by
  unfold turn dput
  simp only
  split
  · split
    · exact h
    · exact nodup_ddel h _
  · next e =>
    refine nodup_dins (nodup_ddel ?_ _) ?_
    · split
      · exact h
      · exact nodup_ddel h _
    · intro hm
      obtain ⟨p, hp, hpe⟩ := List.mem_map.1 hm
      obtain ⟨hp1, hp2⟩ := mem_ddel.1 hp
      have hp3 : p ∈ l ∧ (c.frm ≠ [] → p.1 ≠ c.frm) := by
        split at hp1
        · next e2 => exact ⟨hp1, fun h => absurd e2 h⟩
        · exact ⟨(mem_ddel.1 hp1).1, fun _ => (mem_ddel.1 hp1).2⟩
      rcases hc e p hp3.1 hpe with ⟨h1, h2⟩ | h1
      · exact hp3.2 h2 h1
      · exact hp2 h1
theorem length_turn {l : Dir} {c : Chg} (h : c.to = [] ∨ (dget l c.frm).isSome = true ∨ l.length + 1 ≤ 64) (h0 : c.to ≠ [] → (dget l c.frm).isSome = true → c.frm ≠ []) (hl : l.length ≤ 64) : (turn l c).length ≤ 64 := by
  unfold turn dput
  simp only
  have h1 := length_ddel_le l c.frm
  split
  · split <;> omega
  · next e =>
    rw [length_dins]
    rcases h with h | h | h
    · exact absurd h e
    · have h3 : (ddel l c.frm).length + 1 ≤ l.length := by
        obtain ⟨i, hi⟩ := Option.isSome_iff_exists.1 h
        have hm := dget_mem hi
        unfold ddel
        have := List.length_filter_lt_length_iff_exists (p := fun p : Bs × Nat => !(p.1 == c.frm)) (l := l)
        have := this.2 ⟨_, hm, by simp⟩
        omega
      rw [if_neg (h0 e h)]
      have := length_ddel_le (ddel l c.frm) c.to
      omega
    · have := length_ddel_le (if c.frm = [] then l else ddel l c.frm) c.to
      have h4 : (if c.frm = [] then l else ddel l c.frm).length ≤ l.length := by split <;> omega
      omega

theorem Ok.gone {d : DiskS} (h : Ok d) : Ok (Go.Proofs.YtgpenpnobjecgaaGreatDoor.gone d) := ⟨h.room, h.used, h.ops, Nat.zero_le _, h.nfiles, h.nchg, h.ndir, h.nsafe, h.len, h.dirI, h.dirR, h.safeR, h.dirF, h.safeF, h.chgF⟩
theorem Ok.went {d : DiskS} (h : Ok d) (ho : d.ops < 1048576) : Ok (Go.Proofs.YtgpenpnobjecgaaGreatDoor.went d) :=
  ⟨h.room, h.used, by simp only [Go.Proofs.YtgpenpnobjecgaaGreatDoor.went]; omega, by have := h.armed; simp only [Go.Proofs.YtgpenpnobjecgaaGreatDoor.went]; omega, by have := h.nfiles; simp only [Go.Proofs.YtgpenpnobjecgaaGreatDoor.went]; omega, by have := h.nchg; simp only [Go.Proofs.YtgpenpnobjecgaaGreatDoor.went]; omega, h.ndir, h.nsafe, h.len, h.dirI, h.dirR, h.safeR, h.dirF, h.safeF, h.chgF⟩
theorem Ok.armed' {d : DiskS} (h : Ok d) (n : Int) (hn : n ≤ 9223372036854775807) : Ok (arm d n) := by
  unfold arm
  split
  · exact h
  · exact ⟨h.room, h.used, h.ops, by simp only; omega, h.nfiles, h.nchg, h.ndir, h.nsafe, h.len, h.dirI, h.dirR, h.safeR, h.dirF, h.safeF, h.chgF⟩
theorem Ok.note {d : DiskS} (h : Ok d) (c : Chg) (h1 : c.file ≤ d.files.length) (h2 : c.to ≠ [] → c.file < d.files.length ∧ named c.to = true) (h3 : c.frm ≠ [] → named c.frm = true) (h4 : usedIn d.files (turn d.dir c) ≤ d.room) (h5 : (turn d.dir c).length ≤ 64)
    (h6 : d.chg.length + 1 ≤ d.ops) (h7 : c.to ≠ [] → ∀ p ∈ d.dir, p.2 = c.file → (p.1 = c.frm ∧ c.frm ≠ []) ∨ p.1 = c.to) : Ok (note d c) := by
  refine ⟨h.room, h4, h.ops, h.armed, h.nfiles, ?_, h5, h.nsafe, h.len, nodup_turn h.dirI h7, rising_turn h.dirR c, h.safeR, fun p hp => ?_, h.safeF, fun x hx => ?_⟩
  · simp only [Dk.note, List.length_append, List.length_singleton]; omega
  · rcases mem_turn hp with hp | ⟨e, rfl⟩
    · exact h.dirF p hp
    · exact h2 e
  · rcases List.mem_append.1 hx with hx | hx
    · exact h.chgF x hx
    · obtain rfl := List.mem_singleton.1 hx
      exact ⟨h1, h2, h3⟩
theorem Ok.pushed {d : DiskS} (h : Ok d) (hn : d.files.length + 1 ≤ 64 + d.ops) : Ok { d with files := d.files ++ [⟨[], 0⟩] } := by
  refine ⟨h.room, ?_, h.ops, h.armed, by simp only [List.length_append, List.length_singleton]; omega, h.nchg, h.ndir, h.nsafe, fun f hf => ?_, h.dirI, h.dirR, h.safeR, fun p hp => ?_, fun p hp => ?_, fun c hc => ?_⟩
  · have : usedIn (d.files ++ [⟨[], 0⟩]) d.dir = usedIn d.files d.dir := usedIn_congr fun p hp => by rw [fileAt_push (h.dirF p hp).1]
    show usedIn _ _ ≤ _
    rw [this]; exact h.used
  · rcases List.mem_append.1 hf with hf | hf
    · exact h.len f hf
    · obtain rfl := List.mem_singleton.1 hf
      simp
  · have := h.dirF p hp
    exact ⟨by simp only [List.length_append, List.length_singleton]; omega, this.2⟩
  · have := h.safeF p hp
    exact ⟨by simp only [List.length_append, List.length_singleton]; omega, this.2⟩
  · have := h.chgF c hc
    exact ⟨by simp only [List.length_append, List.length_singleton]; omega, fun e => ⟨by have := (this.2.1 e).1; simp only [List.length_append, List.length_singleton]; omega, (this.2.1 e).2⟩, this.2.2⟩
theorem Ok.modified {d : DiskS} (h : Ok d) (i : Nat) (f : FileS → FileS) (hf : ∀ x ∈ d.files, (f x).b.length ≤ 4194304 ∧ (f x).synced ≤ (f x).b.length) (hu : usedIn (d.files.modify i f) d.dir ≤ d.room) : Ok { d with files := d.files.modify i f } := by
  refine ⟨h.room, hu, h.ops, h.armed, by simpa using h.nfiles, h.nchg, h.ndir, h.nsafe, fun x hx => ?_, h.dirI, h.dirR, h.safeR, fun p hp => ?_, fun p hp => ?_, fun c hc => ?_⟩
  · obtain ⟨j, hj, rfl⟩ := List.mem_iff_getElem.1 hx
    rw [List.getElem_modify]
    split
    · exact hf _ (by simp)
    · exact h.len _ (by simp)
  · simpa using h.dirF p hp
  · simpa using h.safeF p hp
  · simpa using h.chgF c hc
theorem Ok.modified' {d : DiskS} (h : Ok d) (i : Nat) (f : FileS → FileS) (hi : i < d.files.length) (hf : (f (fileAt d.files i)).b.length ≤ 4194304 ∧ (f (fileAt d.files i)).synced ≤ (f (fileAt d.files i)).b.length) (hu : usedIn (d.files.modify i f) d.dir ≤ d.room) : Ok { d with files := d.files.modify i f } := by
  refine ⟨h.room, hu, h.ops, h.armed, by simpa using h.nfiles, h.nchg, h.ndir, h.nsafe, fun x hx => ?_, h.dirI, h.dirR, h.safeR, fun p hp => ?_, fun p hp => ?_, fun c hc => ?_⟩
  · obtain ⟨j, hj, rfl⟩ := List.mem_iff_getElem.1 hx
    rw [List.getElem_modify]
    split
    · next e => subst e; rw [← fileAt_eq hi]; exact hf
    · exact h.len _ (by simp)
  · simpa using h.dirF p hp
  · simpa using h.safeF p hp
  · simpa using h.chgF c hc
theorem Ok.synced {d : DiskS} (h : Ok d) : Ok { d with safe := d.dir, chg := [] } :=
  ⟨h.room, h.used, h.ops, h.armed, h.nfiles, Nat.zero_le _, h.ndir, h.ndir, h.len, h.dirI, h.dirR, h.dirR, h.dirF, h.dirF, fun c hc => by cases hc⟩
end Dk
end Go.Proofs.YtgpenpnobjecgaaGreatDoor

/- DiskAt3 -/
namespace Go.Proofs.YtgpenpnobjecgaaGreatDoor
set_option maxRecDepth 100000
open Go.RowKit Go.Maps Dk

section
variable {w w' : World} {g : Nat} {d : DiskS} {u : Nat} {recs : List Nat} {own own' : Nat → Option DTag} {fA : Option Addr} {fC : Nat} {fb : Option Nat} {mb : Nat} {sb : Option Nat} {cA : Option Addr} {cC : Nat} {cb : Option Nat}
/-- File i anew. -/
theorem DMem.refile (M : DMem w g d u recs own fA fC fb mb sb cA cC cb) {i : Nat} {f : FileS} {r : Nat} {A : Option Addr} {C : Nat} {blk : Option Nat} (hf : d.files[i]? = some f) (hri : recs[i]? = some r) (hfa : FileAt w own i f r A C blk) (F : FileS → FileS) {A' : Option Addr} {C' : Nat} {blk' : Option Nat} {k : Nat}
    (hk : Kept (fun b => b = r ∨ blk = some b) w w') (hrow : w'.heap[r]? = some (.cells #[.slice A' (F f).b.length C', .int .i64 (F f).synced] 109 (0, 0))) (hb : OwnR w' 5 1 A' (F f).b.length C' ((F f).b.map V8) blk') (hbk : blk' = blk ∨ blk' = some k) (hw : w.heap.size ≤ k) :
    DMem w' g { d with files := d.files.modify i F } u recs (grow own (.byt i) blk') fA fC fb mb sb cA cC cb := by
  have hn2 : ∀ {b t}, own b = some t → t ≠ .fil i → t ≠ .byt i → ¬ (b = r ∨ blk = some b) := fun h h1 h2 e => e.elim (ne_of_tag h hfa.tag h1) fun e => h2 (Option.some.inj (h.symm.trans (hfa.btag _ e)))
  have ho : ∀ b, b < w.heap.size → grow own (.byt i) blk' b = own b := fun b hlt => grow_old hbk hfa.btag hw hlt
  have tg' : ∀ {b t}, own b = some t → grow own (.byt i) blk' b = some t := fun {b t} h => by rw [ho b (M.lt b (by rw [h]; simp))]; exact h
  have tt : ∀ {blk t}, tagged own t blk → (∀ b, blk = some b → b < w.heap.size) → tagged (grow own (.byt i) blk') t blk := fun h hl => h.grown ho hl
  have hl : (d.files.modify i F).length = d.files.length := by simp
  refine ⟨?_, ?_, fun j f2 hf2 => ?_, M.dir.kept hk (hn2 M.td (by simp) (by simp)), fun b hb => (M.safe b hb).kept hk (hn2 (M.ts b hb) (by simp) (by simp)), M.chg.kept hk fun b hb => hn2 (M.tc b hb) (by simp) (by simp), ?_, tg' M.tg, tt M.tf M.files.lt, tg' M.td, tt M.ts (fun b hb => (M.safe b hb).lt), tt M.tc M.chg.lt⟩
  · simp only [hl]; exact hk.blk M.row (hn2 M.tg (by simp) (by simp))
  · simp only [hl]; exact M.files.kept hk fun b hb => hn2 (M.tf b hb) (by simp) (by simp)
  · by_cases e : i = j
    · subst e
      simp only [List.getElem?_modify, hf, if_true, Option.map_eq_map, Option.map_some, Option.some.injEq] at hf2
      subst hf2
      exact ⟨r, A', C', blk', hri, hrow, tg' hfa.tag, hb, grow_tag _⟩
    · simp only [List.getElem?_modify, if_neg e, Option.map_eq_map, Option.map_id_fun', id_eq] at hf2
      obtain ⟨r2, A2, C2, blk2, e1, e2⟩ := M.fil j f2 hf2
      exact ⟨r2, A2, C2, blk2, e1, (e2.retag ho).kept hk (hn2 e2.tag (by simp; omega) (by simp)) fun b hb => hn2 (e2.btag b hb) (by simp) (by simp; omega)⟩
  · intro b hb2
    unfold grow at hb2
    split at hb2
    · next e => exact hb.lt b e
    · exact Nat.lt_of_lt_of_le (M.lt b hb2) hk.size
def pushOwn (own : Nat → Option DTag) (n nr : Nat) (blk' bb : Option Nat) : Nat → Option DTag := grow (grow (grow own .files blk') (.byt n) bb) (.fil n) (some nr)
theorem pushOwn_old {n nr : Nat} {blk' bb : Option Nat} {k m : Nat} (hm : m ≤ k) (hnr : m ≤ nr) (hbb : ∀ b, bb = some b → m ≤ b) (hbk : blk' = fb ∨ blk' = some k) (hf : tagged own .files fb) {b : Nat} (hb : b < m) : pushOwn own n nr blk' bb b = own b := by
  unfold pushOwn
  rw [show grow (grow (grow own .files blk') (.byt n) bb) (.fil n) (some nr) b = grow (grow own .files blk') (.byt n) bb b by
    rw [grow, if_neg]; intro e; have := Option.some.inj e; omega]
  rw [show grow (grow own .files blk') (.byt n) bb b = grow own .files blk' b by
    rw [grow, if_neg]; intro e; have := hbb b e; omega]
  exact grow_old hbk hf hm hb
/-- A file more. -/
theorem DMem.push (M : DMem w g d u recs own fA fC fb mb sb cA cC cb) (f : FileS) {nr : Nat} {A : Option Addr} {C : Nat} {bb : Option Nat} {B : Option Addr} {D : Nat} {blk' : Option Nat} {k : Nat} (hk : Kept (fun b => fb = some b) w w') (hnr : w.heap.size ≤ nr)
    (hrow : w'.heap[nr]? = some (.cells #[.slice A f.b.length C, .int .i64 f.synced] 109 (0, 0))) (hby : OwnR w' 5 1 A f.b.length C (f.b.map V8) bb) (hbb : ∀ b, bb = some b → w.heap.size ≤ b ∧ b ≠ nr)
    (hfi : OwnR w' 106 1 B (d.files.length + 1) D ((recs ++ [nr]).map ptrV) blk') (hbk : blk' = fb ∨ blk' = some k) (hkw : w.heap.size ≤ k) (hk2 : k ≠ nr ∧ bb ≠ some k) :
    DMem (w'.setCell ⟨g, 2, none⟩ (.slice B (d.files.length + 1) D)) g { d with files := d.files ++ [f] } u (recs ++ [nr]) (pushOwn own d.files.length nr blk' bb) B D blk' mb sb cA cC cb := by
  have hne : ∀ {b t}, own b = some t → t ≠ .files → ¬ fb = some b := fun h hn e => hn (Option.some.inj (h.symm.trans (M.tf _ e)))
  have ho : ∀ b, b < w.heap.size → pushOwn own d.files.length nr blk' bb b = own b := fun b hlt => pushOwn_old hkw hnr (fun b h => (hbb b h).1) hbk M.tf hlt
  have hgl := in_heap M.row
  have hg' := hk.blk M.row (hne M.tg (by simp))
  have hk2' : Kept (fun b => fb = some b ∨ b = g) w (w'.setCell ⟨g, 2, none⟩ (.slice B (d.files.length + 1) D)) := (hk.mono fun b _ h => .inl h).setCell _ _ (.inl (.inr rfl))
  have hkg : Kept (· = g) w' (w'.setCell ⟨g, 2, none⟩ (.slice B (d.files.length + 1) D)) := (Kept.refl (· = g) w').setCell _ _ (.inl rfl)
  have hn2 : ∀ {b t}, own b = some t → t ≠ .files → t ≠ .disk → ¬ (fb = some b ∨ b = g) := fun h h1 h2 e => e.elim (hne h h1) (ne_of_tag h M.tg h2)
  have tg' : ∀ {b t}, own b = some t → pushOwn own d.files.length nr blk' bb b = some t := fun {b t} h => by rw [ho b (M.lt b (by rw [h]; simp))]; exact h
  have tt : ∀ {blk t}, tagged own t blk → (∀ b, blk = some b → b < w.heap.size) → tagged (pushOwn own d.files.length nr blk' bb) t blk := fun h hl => h.grown ho hl
  have hlen : recs.length = d.files.length := by simpa using M.files.length
  refine ⟨?_, ?_, fun i f2 hf => ?_, M.dir.kept hk2' (hn2 M.td (by simp) (by simp)), fun b hb => (M.safe b hb).kept hk2' (hn2 (M.ts b hb) (by simp) (by simp)), M.chg.kept hk2' fun b hb => hn2 (M.tc b hb) (by simp) (by simp), ?_, tg' M.tg, ?_, tg' M.td, tt M.ts (fun b hb => (M.safe b hb).lt), tt M.tc M.chg.lt⟩
  · rw [setCell_one hg' _]
    simp only [List.length_append, List.length_singleton]
    rfl
  · simp only [List.length_append, List.length_singleton]
    refine hfi.kept hkg fun b hb e => ?_
    subst e
    rcases hbk with h | h
    · exact hne M.tg (by simp) (h ▸ hb)
    · rw [h] at hb; have := Option.some.inj hb; omega
  · by_cases hi : i < d.files.length
    · rw [List.getElem?_append_left hi] at hf
      obtain ⟨r, A, C, blk, e1, e2⟩ := M.fil i f2 hf
      exact ⟨r, A, C, blk, by rw [List.getElem?_append_left (by omega)]; exact e1, (e2.retag ho).kept hk2' (hn2 e2.tag (by simp) (by simp)) fun b hb => hn2 (e2.btag b hb) (by simp) (by simp)⟩
    · have hi2 : i = d.files.length := by
        have := (List.getElem?_eq_some_iff.1 hf).1
        simp at this
        omega
      subst hi2
      simp only [List.getElem?_append_right (Nat.le_refl _), Nat.sub_self, List.getElem?_cons_zero, Option.some.injEq] at hf
      subst hf
      refine ⟨nr, A, C, bb, ?_, hkg.blk hrow (show ¬ nr = g by omega), ?_, hby.kept hkg fun b hb => by have := (hbb b hb).1; show ¬ b = g; omega, ?_⟩
      · rw [List.getElem?_append_right (by omega), hlen]; simp
      · unfold pushOwn grow; simp
      · intro b hb
        have := (hbb b hb).2
        unfold pushOwn
        rw [grow, if_neg (by intro e; exact this (Option.some.inj e).symm), grow, if_pos hb]
  · intro b hb
    refine Nat.lt_of_lt_of_le ?_ hkg.size
    unfold pushOwn at hb
    unfold grow at hb
    split at hb
    · next e => obtain rfl := Option.some.inj e; exact in_heap hrow
    · split at hb
      · next e => exact hby.lt b e
      · split at hb
        · next e => exact hfi.lt b e
        · exact Nat.lt_of_lt_of_le (M.lt b hb) hk.size
  · intro b hb
    unfold pushOwn
    have h1 : ¬ some nr = some b := by
      intro e
      obtain rfl := Option.some.inj e
      rcases hbk with h | h
      · have := M.files.lt nr (h ▸ hb); omega
      · rw [h] at hb; exact hk2.1 (Option.some.inj hb)
    have h2 : ¬ bb = some b := by
      intro e
      have h3 := (hbb b e).1
      rcases hbk with h | h
      · have := M.files.lt b (h ▸ hb); omega
      · rw [h] at hb; obtain rfl := Option.some.inj hb; exact hk2.2 e
    rw [grow, if_neg h1, grow, if_neg h2, grow, if_pos hb]
end

/-- What a method answers. -/
def DPost (w : World) (g : Nat) (own : Nat → Option DTag) (r : DiskS × Nat) (e : Ending) (w' : World) : Prop :=
  e = .returned (.int .i64 r.2) ∧ Ok r.1 ∧ ∃ recs' own', DAt w' g r.1 recs' own' ∧ Turned (foot own) (foot own') w w'
theorem DPost.same {w : World} {g : Nat} {d : DiskS} {recs : List Nat} {own : Nat → Option DTag} (hd : DAt w g d recs own) (hO : Ok d) (n : Nat) : DPost w g own (d, n) (.returned (.int .i64 n)) w := ⟨rfl, hO, recs, own, hd, .refl _ _⟩
end Go.Proofs.YtgpenpnobjecgaaGreatDoor
