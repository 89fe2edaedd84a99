/- Power failures in plain Lean: Open, done or cut off, tells what the files tell. -/
import Derived.Test.YtgpenpnobjecgaaGreatDoorJWalSafeCard36
/- Crash3 -/
namespace Go.Proofs.YtgpenpnobjecgaaGreatDoor
set_option maxRecDepth 100000
open Go.RowKit Dk

/-! ### the generations of a list of names -/
theorem mem_gens {l : List Bs} {n : Nat} : n ∈ gensW l ↔ 1 ≤ n ∧ n ≤ 1099511627776 ∧ nameW n ∈ l := by
  unfold gensW
  rw [List.mem_mergeSort, List.mem_filterMap]
  constructor
  · rintro ⟨s, hs, hg⟩
    obtain ⟨h1, h2, rfl⟩ := genOf_some hg
    exact ⟨h1, h2, hs⟩
  · rintro ⟨h1, h2, h3⟩
    exact ⟨_, h3, genOf_name h1 h2⟩
theorem gens_sorted (l : List Bs) : (gensW l).Pairwise (· ≤ ·) := by
  have := List.pairwise_mergeSort (le := fun a b : Nat => decide (a ≤ b)) (fun a b c h1 h2 => by simp at *; omega) (fun a b => by simp; omega) (l.filterMap genOf)
  exact this.imp fun h => by simpa using h
theorem gens_nodup {l : List Bs} (h : l.Nodup) : (gensW l).Nodup := by
  unfold gensW
  rw [(List.mergeSort_perm _ _).nodup_iff]
  unfold List.Nodup at h ⊢
  rw [List.pairwise_filterMap]
  refine h.imp fun {a b} hne c hc c2 hc2 e => hne ?_
  subst e
  rw [(genOf_some hc).2.2, (genOf_some hc2).2.2]
theorem gens_len (l : List Bs) : (gensW l).length ≤ l.length := by
  unfold gensW
  rw [List.length_mergeSort]
  exact List.length_filterMap_le _ _
theorem last_top {l : List Nat} {m : Nat} (hs : l.Pairwise (· ≤ ·)) (h : l.getLast? = some m) : m ∈ l ∧ ∀ n ∈ l, n ≤ m := by
  obtain ⟨ys, rfl⟩ := List.getLast?_eq_some_iff.1 h
  refine ⟨by simp, fun n hn => ?_⟩
  rcases List.mem_append.1 hn with hn | hn
  · exact (List.pairwise_append.1 hs).2.2 n hn m (by simp)
  · rw [List.mem_singleton.1 hn]; exact Nat.le_refl _
theorem names_nodup {l : Dir} (h : Rising l) : (l.map (·.1)).Nodup := by
  unfold List.Nodup
  rw [List.pairwise_map]
  exact h.imp fun hb e => by rw [e] at hb; simp [before_irrefl] at hb

theorem readB_split {b : Bs} {m : Nat} {s : Bs} {rs : List Bs} {wh cut : Nat} (h : readB b m = some ⟨s, rs, wh, cut⟩) : wh + cut = b.length ∧ s.length ≤ 1048576 ∧ (∀ r ∈ rs, r.length ≤ 65536) ∧ rs.length ≤ b.length := by
  have hm := scanF_mem b
  have hc : (scanF b).1.length ≤ (scanF b).2.1 := scanFrom_count _ b 0 [] (Nat.le_refl _)
  unfold readB at h
  split at h
  · cases h
  · next f t hft =>
    split at h
    · cases h
    · split at h
      · cases h
      · next st hst =>
        split at h
        · cases h
        · next rs2 hrs =>
          injection h with h
          injection h with e1 e2 e3 e4
          subst e1 e2 e3 e4
          obtain ⟨h1, h2⟩ := loadsF_len _ _ _ hrs
          rw [hft] at hc
          simp at hc
          exact ⟨by omega, loadF_len hst, h2, by omega⟩

/-- What the disk's files are now. -/
def view (d : DiskS) : Files := fmapF (fun i => (fileAt d.files i).b) d.dir
/-- Nothing is unsafe. -/
structure Calm (o : Nat) (d : DiskS) : Prop where
  live : d.dead = false
  ops : d.ops ≤ o
  chg : d.chg = []
  safe : d.safe = d.dir
  syn : ∀ p ∈ d.dir, (fileAt d.files p.2).synced = (fileAt d.files p.2).b.length
theorem fits_view {d : DiskS} (hO : Ok d) : Fits d.room (view d) :=
  .of hO.dirR (fun p hp => (hO.dirF p hp).2) hO.ndir (fun p hp => (hO.len _ (by rw [fileAt_eq (hO.dirF p hp).1]; exact List.getElem_mem _)).1) hO.used
theorem core_core (fs : Files) : coreF (coreF fs) = coreF fs := by
  unfold coreF
  rw [List.filter_filter]
  simp
theorem Makes.of_core {R : Nat} {fs fs' : Files} {k : Nat} (h : Makes R fs k) (e : coreF fs' = coreF fs) : Makes R fs' k := ⟨by rw [e]; exact h.sum, by rw [e]; exact h.many, h.len⟩
theorem ddel_idem (l : Dir) (s : Bs) : ddel (ddel l s) s = ddel l s := by
  unfold ddel
  rw [List.filter_filter]
  simp
theorem dget_ddel (l : Dir) (s : Bs) : dget (ddel l s) s = none := dget_none.2 fun _ hp => (mem_ddel.1 hp).2
theorem mem_delAll {p : Bs × Nat} : ∀ {ns : List Nat} {l : Dir}, p ∈ delAll l ns ↔ p ∈ l ∧ ∀ n ∈ ns, p.1 ≠ nameW n
  | [], l => by simp [delAll]
  | n :: t, l => by
    show p ∈ delAll (ddel l (nameW n)) t ↔ _
    rw [mem_delAll, mem_ddel]
    constructor
    · rintro ⟨⟨h1, h2⟩, h3⟩
      exact ⟨h1, fun m hm => by rcases List.mem_cons.1 hm with rfl | hm; exact h2; exact h3 m hm⟩
    · rintro ⟨h1, h2⟩
      exact ⟨⟨h1, h2 n (by simp)⟩, fun m hm => h2 m (by simp [hm])⟩
/-- What an Open leaves: the log's generation alone, and what is no generation. -/
structure Opened (ex z : Prop) (Nm : Bs → Prop) (d d' : DiskS) (o : Nat) (s : Bs) (rs : List Bs) (L : LogS) : Prop where
  calm : Calm o d'
  arm : z → d'.armed = 0
  room : d'.room = d.room
  state : L.state = s
  recs : L.records = rs
  whole : L.broken = false
  file : ∃ b i, dget d'.dir (nameW L.epoch) = some i ∧ (fileAt d'.files i).b = b ∧ L.size = b.length ∧ readB b L.epoch = some ⟨s, rs, b.length, 0⟩ ∧ (ex → b = bytesW L.epoch s rs)
  epoch : 1 ≤ L.epoch ∧ L.epoch ≤ 1099511627776
  rest : ∀ p ∈ d'.dir, p.1 = nameW L.epoch ∨ (genOf p.1 = none ∧ p.1 ≠ tempW ∧ ∃ i, (p.1, i) ∈ d.dir)
  risen : Rising d'.dir
  name : Nm (nameW L.epoch)
/-- Files that a disk takes, that tell this, under names that are allowed. -/
def GoodT (ex : Prop) (R : Nat) (Nm : Bs → Prop) (s : Bs) (rs : List Bs) (fs : Files) : Prop := Fits R fs ∧ Tells ex R fs s rs ∧ ∀ p ∈ fs, Nm p.1
/-- Names that an Open of these files may lay. -/
structure NmOk (Nm : Bs → Prop) (fs : Files) : Prop where
  old : ∀ p ∈ fs, Nm p.1
  temp : Nm tempW
  one : Nm (nameW 1)
  new : ∀ m b, Newest fs m b → Nm (nameW (m + 1))
theorem nm_fmap {Nm : Bs → Prop} {g h : Nat → Bs} {l l' : Dir} (hs : ∀ p ∈ l, p ∈ l') (hN : ∀ p ∈ fmapF h l', Nm p.1) : ∀ p ∈ fmapF g l, Nm p.1 := fun p hp => by
  obtain ⟨q, hq, rfl⟩ := List.mem_map.1 hp
  exact hN (q.1, h q.2) (List.mem_map_of_mem (hs q hq))

section
variable {ex z : Prop} {Nm : Bs → Prop} {d x : DiskS} {o : Nat} {s : Bs} {rs : List Bs}
theorem temp_res (hO : Ok d) (hc : Calm o d) (hz : z → d.armed = 0) (ho : o < 1048576) (hT : Tells ex d.room (view d) s rs) (hNm : NmOk Nm (view d)) :
    Res z (GoodT ex d.room Nm s rs) (At z d.room (o + 1) (fun l => l = d.dir ∨ l = ddel d.dir tempW) (ddel d.dir tempW) d.files) (tempGone d) := by
  have hA : At z d.room o (· = d.dir) d.dir d.files d := ⟨hc.live, hz, rfl, hc.ops, .calm hc.chg hc.safe rfl, rfl, rfl⟩
  have hal : AL (GoodT ex d.room Nm s rs) d := hA.al fun l hl g hg => by
    subst hl
    rw [fmap_congr (h := fun i => (fileAt d.files i).b) fun p hp => (hg p.2).whole (hc.syn p hp)]
    exact ⟨fits_view hO, hT, hNm.old⟩
  unfold tempGone Dk.read
  rw [hc.live]
  cases hg : dget d.dir tempW with
  | none =>
    simp only [Bool.false_eq_true, if_false]
    rw [if_neg (by simp)]
    refine .inl ⟨rfl, ?_⟩
    rw [ddel_none hg]
    exact ⟨hA.live, hA.arm, hA.room, Nat.le_succ_of_le hA.ops, hA.lefts.mono fun _ h => .inl h, hA.dir, hA.files⟩
  | some i =>
    simp only [Bool.false_eq_true, if_false, if_true]
    exact res_remove hA ho hal hg tempW_ne (fun _ => .inl) (.inr rfl)
/-- The files under the first directory, or without the passing name. -/
theorem good_base (hO : Ok d) (hc : Calm o d) (hT : Tells ex d.room (view d) s rs) (hNm : NmOk Nm (view d)) {l : Dir} (hl : l = d.dir ∨ l = ddel d.dir tempW) {g : Nat → Bs} (hg : ∀ i, i < d.files.length → CutAt d.files g i) : GoodT ex d.room Nm s rs (fmapF g l) := by
  have e : ∀ p ∈ d.dir, g p.2 = (fileAt d.files p.2).b := fun p hp => (hg p.2 (hO.dirF p hp).1).whole (hc.syn p hp)
  rcases hl with rfl | rfl
  · rw [fmap_congr (h := fun i => (fileAt d.files i).b) e]
    exact ⟨fits_view hO, hT, hNm.old⟩
  · rw [fmap_congr (h := fun i => (fileAt d.files i).b) fun p hp => e p (mem_ddel.1 hp).1, ← core_fmap]
    exact ⟨(fits_view hO).sub List.filter_sublist, hT.of_core (core_core _), fun p hp => hNm.old p (List.mem_filter.1 hp).1⟩
theorem base_b (hO : Ok d) (hc : Calm o d) {g : Nat → Bs} (hg : ∀ i, i < d.files.length → CutAt d.files g i) : ∀ p ∈ ddel d.dir tempW, g p.2 = (fileAt d.files p.2).b :=
  fun p hp => (hg p.2 (hO.dirF p (mem_ddel.1 hp).1).1).whole (hc.syn p (mem_ddel.1 hp).1)
theorem base_core (hO : Ok d) (hc : Calm o d) {g : Nat → Bs} (hg : ∀ i, i < d.files.length → CutAt d.files g i) : fmapF g (ddel d.dir tempW) = coreF (view d) := by
  rw [fmap_congr (h := fun i => (fileAt d.files i).b) (base_b hO hc hg), ← core_fmap]
  rfl
/-- A file more. -/
theorem fits_more (hO : Ok d) (hc : Calm o d) {b t : Bs} (hm : Makes d.room (view d) b.length) {g : Nat → Bs} (hg : ∀ i, i < d.files.length → CutAt d.files g i) (hk : (g d.files.length).length ≤ b.length) (hn : named t = true) :
    Fits d.room (fmapF g (dput (ddel d.dir tempW) t d.files.length)) := by
  have hbc := base_core hO hc hg
  have hl : (ddel d.dir tempW).length < 64 := by
    have := hm.many
    rw [← hbc] at this
    simpa [fmapF] using this
  have hs : b.length + dsum g (ddel d.dir tempW) ≤ d.room := by
    have := hm.sum
    rw [← hbc, fsum_fmap] at this
    omega
  refine .of (rising_dput (rising_ddel hO.dirR _) _ _) (fun p hp => ?_) ?_ (fun p hp => ?_) ?_
  · rcases mem_dput.1 hp with rfl | ⟨hp, _⟩
    · exact hn
    · exact (hO.dirF p (mem_ddel.1 hp).1).2
  · unfold dput
    rw [length_dins]
    have := length_ddel_le (ddel d.dir tempW) t
    omega
  · rcases mem_dput.1 hp with rfl | ⟨hp, _⟩
    · exact Nat.le_trans hk hm.len
    · rw [base_b hO hc hg p hp]
      exact (hO.len _ (by rw [fileAt_eq (hO.dirF p (mem_ddel.1 hp).1).1]; exact List.getElem_mem _)).1
  · unfold dput
    rw [dsum_dins]
    have := dsum_sub g (ddel_sub (ddel d.dir tempW) t)
    simp only
    omega
theorem nm_more {t : Bs} (hNm : NmOk Nm (view d)) (ht : Nm t) {l : Dir} (hl : ∀ p ∈ l, p ∈ dput (ddel d.dir tempW) t d.files.length) {g : Nat → Bs} : ∀ p ∈ fmapF g l, Nm p.1 := fun p hp => by
  obtain ⟨q, hq, rfl⟩ := List.mem_map.1 hp
  rcases mem_dput.1 (hl q hq) with rfl | ⟨h, _⟩
  · exact ht
  · exact hNm.old (q.1, (fileAt d.files q.2).b) (List.mem_map_of_mem (mem_ddel.1 h).1)
theorem good_temp (hO : Ok d) (hc : Calm o d) (hT : Tells ex d.room (view d) s rs) (hNm : NmOk Nm (view d)) {b : Bs} (hm : Makes d.room (view d) b.length) {g : Nat → Bs} (hg : ∀ i, i < d.files.length → CutAt d.files g i) (hk : ∃ j, g d.files.length = b.take j) : GoodT ex d.room Nm s rs (fmapF g (dput (ddel d.dir tempW) tempW d.files.length)) := by
  refine ⟨fits_more hO hc hm hg (by obtain ⟨j, e⟩ := hk; rw [e, List.length_take]; omega) (by decide), hT.of_core ?_, nm_more hNm hNm.temp fun _ hp => hp⟩
  rw [core_fmap, ddel_dput (dget_ddel _ _)]
  exact base_core hO hc hg
theorem good_new (hO : Ok d) (hc : Calm o d) {b : Bs} {n : Nat} (hm : Makes d.room (view d) b.length) {g : Nat → Bs} (hg : ∀ i, i < d.files.length → CutAt d.files g i) (hk : g d.files.length = b) (h1 : 1 ≤ n) (h2 : n ≤ 1099511627776)
    (ht : ∀ m c, (nameW m, c) ∈ view d → 1 ≤ m → m ≤ 1099511627776 → m < n) (hr : readB b n = some ⟨s, rs, b.length, 0⟩) (hx : ex → b = bytesW n s rs) (hNm : NmOk Nm (view d)) (hnn : Nm (nameW n)) {l : Dir} (hl : l.Sublist (dput (ddel d.dir tempW) (nameW n) d.files.length)) (hme : (nameW n, d.files.length) ∈ l) : GoodT ex d.room Nm s rs (fmapF g l) := by
  have hf := fits_more hO hc hm hg (t := nameW n) (by rw [hk]; exact Nat.le_refl _) (named_nameW n (by omega))
  refine ⟨hf.sub (fmap_sub g hl), .gen n b b.length 0 ⟨h1, h2, mem_fmap.2 ⟨_, hme, hk⟩, fun m c hmc hm1 hm2 => ?_⟩ hr (fun e => by rw [List.take_length]; exact hx e) fun h => absurd h (Nat.lt_irrefl 0), nm_more hNm hnn fun _ hp => hl.subset hp⟩
  obtain ⟨i, hi, hgi⟩ := mem_fmap.1 hmc
  rcases mem_dput.1 (hl.subset hi) with e | ⟨hp, _⟩
  · injection e with e1 e2
    have := nameW_inj (by omega) (by omega) e1
    omega
  · have : (nameW m, c) ∈ coreF (view d) := by
      rw [← base_core hO hc hg]
      exact mem_fmap.2 ⟨i, hp, hgi⟩
    exact Nat.le_of_lt (ht m c (gen_core.1 this) hm1 hm2)
/-- What Open makes. -/
def OpenRes (ex z : Prop) (Nm : Bs → Prop) (d : DiskS) (o : Nat) (s : Bs) (rs : List Bs) (r : OpenR) : Prop :=
  (∃ L, r.2 = (some L, 0) ∧ Opened ex z Nm d r.1 o s rs L) ∨ (¬ z ∧ r.2 = (none, 51) ∧ r.1.dead = true ∧ AL (GoodT ex d.room Nm s rs) r.1)
theorem OpenRes.of_done {I : DiskS → Prop} {L : LogS} {r : OpenR} (h : Done z (GoodT ex d.room Nm s rs) I L r) (hi : ∀ x, I x → Opened ex z Nm d x o s rs L) : OpenRes ex z Nm d o s rs r :=
  h.imp (fun ⟨h1, h2⟩ => ⟨L, h1, hi _ h2⟩) id
/-- The end of an Open that made a generation. -/
theorem made_res (hO : Ok d) (hc : Calm o d) (ho : o + 80 ≤ 1048576) (hT : Tells ex d.room (view d) s rs) (hNm : NmOk Nm (view d)) {n : Nat} {b : Bs} (hA : At z d.room (o + 1) (fun l => l = d.dir ∨ l = ddel d.dir tempW) (ddel d.dir tempW) d.files x) (hm : Makes d.room (view d) b.length) (h1 : 1 ≤ n) (h2 : n ≤ 1099511627776)
    (ht : ∀ m c, (nameW m, c) ∈ view d → 1 ≤ m → m ≤ 1099511627776 → m < n) (hr : readB b n = some ⟨s, rs, b.length, 0⟩) (hx : b = bytesW n s rs) (hnn : Nm (nameW n)) (L : LogS) (hL : L = ⟨n, s, rs, b.length, L.cut, false⟩) (gs : List Nat) (hgs : gs = gensW ((ddel d.dir tempW).map (·.1))) :
    OpenRes ex z Nm d (o + 80) s rs (closeW (make1W x n b) gs L) := by
  have hR1 : Rising (ddel d.dir tempW) := rising_ddel hO.dirR _
  have hl1 : (ddel d.dir tempW).length < 64 := by
    have := hm.many
    rw [show coreF (view d) = fmapF _ (ddel d.dir tempW) from core_fmap _ _] at this
    simpa [fmapF] using this
  have hu1 : usedIn d.files (ddel d.dir tempW) + b.length ≤ d.room := by
    have := hm.sum
    rw [show coreF (view d) = fmapF _ (ddel d.dir tempW) from core_fmap _ _, fsum_fmap] at this
    exact this
  have hgl : gs.length ≤ 64 := by
    rw [hgs]
    have := gens_len ((ddel d.dir tempW).map (·.1))
    rw [List.length_map] at this
    omega
  have hidx : ∀ p ∈ ddel d.dir tempW, p.2 < d.files.length := fun p hp => (hO.dirF p (mem_ddel.1 hp).1).1
  have hmk := make_res (Good := GoodT ex d.room Nm s rs) (n := n) (b := b) hA (by omega) hR1 (dget_ddel _ _) hl1 (named_nameW n (by omega)) hm.len hidx hu1
    (fun l hl g hg _ => good_base hO hc hT hNm hl hg) (fun g hg hk => good_temp hO hc hT hNm hm hg hk) (fun g hg hk => good_new hO hc hm hg hk h1 h2 ht hr (fun _ => hx) hNm hnn (List.Sublist.refl _) (mem_dput.2 (.inl rfl)))
  have hgm : ∀ m, m ∈ gs ↔ 1 ≤ m ∧ m ≤ 1099511627776 ∧ nameW m ∈ (ddel d.dir tempW).map (·.1) := fun m => by rw [hgs]; exact mem_gens
  have hlt : ∀ m ∈ gs, m < n ∧ ∃ i, (nameW m, i) ∈ ddel d.dir tempW := fun m hmg => by
    obtain ⟨a1, a2, a3⟩ := (hgm m).1 hmg
    obtain ⟨p, hp, e⟩ := List.mem_map.1 a3
    refine ⟨ht m (fileAt d.files p.2).b (mem_fmap.2 ⟨p.2, ?_, rfl⟩) a1 a2, p.2, ?_⟩
    · rw [← e]; exact (mem_ddel.1 hp).1
    · rw [← e]; exact hp
  have good2 : ∀ l, (l.Sublist (dput (ddel d.dir tempW) (nameW n) d.files.length) ∧ (nameW n, d.files.length) ∈ l) → ∀ g, (∀ i, CutAt (d.files ++ [⟨b, b.length⟩]) g i) → GoodT ex d.room Nm s rs (fmapF g l) := fun l hl g hg => by
    have e3 : g d.files.length = b := by
      have := (hg d.files.length).whole (by rw [fileAt_last])
      rw [fileAt_last] at this
      exact this
    exact good_new hO hc hm (fun i hi => cut_push (hg i) hi) e3 h1 h2 ht hr (fun _ => hx) hNm hnn hl.1 hl.2
  have hne : ∀ m ∈ gs, nameW m ≠ nameW n := fun m hmg e => by
    have := (hlt m hmg).1
    have := nameW_inj (by omega) (by omega) e
    omega
  have hrm : ∀ y, (At z d.room (o + 1 + 5) (· = dput (ddel d.dir tempW) (nameW n) d.files.length) (dput (ddel d.dir tempW) (nameW n) d.files.length) (d.files ++ [⟨b, b.length⟩]) y ∧ Rest y) →
      Res z (GoodT ex d.room Nm s rs) (fun y => At z d.room (o + 1 + 5 + gs.length) (fun l => l.Sublist (dput (ddel d.dir tempW) (nameW n) d.files.length) ∧ (nameW n, d.files.length) ∈ l) (delAll (dput (ddel d.dir tempW) (nameW n) d.files.length) gs) (d.files ++ [⟨b, b.length⟩]) y ∧ (gs = [] → Rest y)) (removeAll y gs) := fun y hy => by
    have hA2 := hy.1.mono (P' := fun l => l.Sublist (dput (ddel d.dir tempW) (nameW n) d.files.length) ∧ (nameW n, d.files.length) ∈ l) fun l e => by subst e; exact ⟨List.Sublist.refl _, mem_dput.2 (.inl rfl)⟩
    by_cases h0 : gs = []
    · subst h0
      exact .inl ⟨rfl, hA2, fun _ => hy.2⟩
    · refine (removeAll_res good2 gs hA2 (by omega) (fun l m hmg hl => ⟨(ddel_sub l _).trans hl.1, mem_ddel.2 ⟨hl.2, fun e => hne m hmg e.symm⟩⟩) ⟨List.Sublist.refl _, mem_dput.2 (.inl rfl)⟩ (by rw [hgs]; exact gens_nodup (names_nodup hR1)) fun m hmg => ?_).mono fun _ h => ⟨h, fun e => absurd e h0⟩
      obtain ⟨a1, i, hi⟩ := hlt m hmg
      exact ⟨by omega, i, by rw [dget_dput _ _ _ _ hR1, if_neg (fun e => hne m hmg e.symm)]; exact dget_of_mem hR1 hi⟩
  obtain ⟨lE, hlE⟩ : ∃ lE, lE = delAll (dput (ddel d.dir tempW) (nameW n) d.files.length) gs := ⟨_, rfl⟩
  rw [← hlE] at hrm
  refine OpenRes.of_done (closeW_res (K := fun y => (∃ P, At z d.room (o + 80) P lE (d.files ++ [⟨b, b.length⟩]) y) ∧ Rest y) hmk hrm (fun h0 y hy => ?_) fun h0 y hy => ?_) fun y hy => ?_
  · refine (res_syncDir hy.1 (by omega) (hy.1.al good2)).mono fun q hq => ⟨⟨_, hq.1.live, hq.1.arm, hq.1.room, by have := hq.1.ops; omega, hq.1.lefts, hq.1.dir, hq.1.files⟩, hq.2⟩
  · exact ⟨⟨_, hy.1.live, hy.1.arm, hy.1.room, by have := hy.1.ops; omega, hy.1.lefts, hy.1.dir, hy.1.files⟩, hy.2 h0⟩
  · obtain ⟨⟨P, hA3⟩, hrest⟩ := hy
    have hmE : ∀ p, p ∈ lE → p = (nameW n, d.files.length) ∨ (p ∈ d.dir ∧ p.1 ≠ tempW ∧ genOf p.1 = none) := fun p hp => by
      rw [hlE, mem_delAll] at hp
      rcases mem_dput.1 hp.1 with e | ⟨h3, _⟩
      · exact .inl e
      · obtain ⟨h4, h5⟩ := mem_ddel.1 h3
        refine .inr ⟨h4, h5, ?_⟩
        cases hge : genOf p.1 with
        | none => rfl
        | some m =>
          obtain ⟨a1, a2, a3⟩ := genOf_some hge
          exact absurd a3 (hp.2 m ((hgm m).2 ⟨a1, a2, List.mem_map.2 ⟨p, h3, a3⟩⟩))
    have hrise : Rising lE := by
      rw [hlE]
      have : ∀ (ns : List Nat) (l : Dir), Rising l → Rising (delAll l ns) := fun ns => by
        induction ns with
        | nil => exact fun l h => h
        | cons m t ih => exact fun l h => ih _ (rising_ddel h _)
      exact this _ _ (rising_dput hR1 _ _)
    have hin : (nameW n, d.files.length) ∈ lE := by
      rw [hlE, mem_delAll]
      exact ⟨mem_dput.2 (.inl rfl), fun m hmg e => hne m hmg e.symm⟩
    have hep : L.epoch = n := by rw [hL]
    have hlast : fileAt y.files d.files.length = ⟨b, b.length⟩ := by rw [hA3.files, fileAt_last]
    refine ⟨⟨hA3.live, hA3.ops, hrest.1, hrest.2, fun p hp => ?_⟩, hA3.arm, hA3.room, by rw [hL], by rw [hL], by rw [hL], ⟨b, d.files.length, ?_, ?_, by rw [hL], by rw [hep]; exact hr, fun _ => by rw [hep]; exact hx⟩, by rw [hep]; exact ⟨h1, h2⟩, fun p hp => ?_, by rw [hA3.dir]; exact hrise, by rw [hep]; exact hnn⟩
    · rw [hA3.dir] at hp
      rcases hmE p hp with rfl | ⟨h3, _⟩
      · rw [hlast]
      · rw [hA3.files, fileAt_push (hO.dirF p h3).1]
        exact hc.syn p h3
    · rw [hep, hA3.dir]
      exact dget_of_mem hrise hin
    · rw [hlast]
    · rw [hA3.dir] at hp
      rcases hmE p hp with rfl | ⟨h3, h4, h5⟩
      · exact .inl (by rw [hep])
      · exact .inr ⟨h5, h4, p.2, h3⟩
/-- The end of an Open of a whole generation. -/
theorem kept_res (hO : Ok d) (hc : Calm o d) (ho : o + 80 ≤ 1048576) (hT : Tells ex d.room (view d) s rs) (hNm : NmOk Nm (view d)) {m i : Nat} {b : Bs} (hA : At z d.room (o + 1) (fun l => l = d.dir ∨ l = ddel d.dir tempW) (ddel d.dir tempW) d.files x) (hN : Newest (view d) m b) (hi : (nameW m, i) ∈ d.dir) (hb : (fileAt d.files i).b = b) (hr : readB b m = some ⟨s, rs, b.length, 0⟩) (hx : ex → b = bytesW m s rs) (L : LogS) (hL : L = ⟨m, s, rs, b.length, 0, false⟩) (gs : List Nat) (hgs : gensW ((ddel d.dir tempW).map (·.1)) = gs ++ [m]) :
    OpenRes ex z Nm d (o + 80) s rs (closeW (next (Dk.sync x (nameW m)) syncDir) gs L) := by
  have hR1 : Rising (ddel d.dir tempW) := rising_ddel hO.dirR _
  have hi1 : (nameW m, i) ∈ ddel d.dir tempW := mem_ddel.2 ⟨hi, fun e => temp_ne m e.symm⟩
  have hgi := dget_of_mem hR1 hi1
  have hlt0 : i < d.files.length := (hO.dirF _ hi).1
  have hnn : Nm (nameW m) := hNm.old (nameW m, (fileAt d.files i).b) (List.mem_map_of_mem hi)
  have hgl : gs.length + 1 ≤ 64 := by
    have := gens_len ((ddel d.dir tempW).map (·.1))
    rw [hgs, List.length_map, List.length_append, List.length_singleton] at this
    have h2 := length_ddel_le d.dir tempW
    have := hO.ndir
    omega
  have hnd : (gs ++ [m]).Nodup := by rw [← hgs]; exact gens_nodup (names_nodup hR1)
  have hgm : ∀ n, n ∈ gs ++ [m] ↔ 1 ≤ n ∧ n ≤ 1099511627776 ∧ nameW n ∈ (ddel d.dir tempW).map (·.1) := fun n => by rw [← hgs]; exact mem_gens
  have hlt : ∀ n ∈ gs, n ≠ m ∧ n ≤ 1099511627776 ∧ ∃ j, (nameW n, j) ∈ ddel d.dir tempW := fun n hn => by
    obtain ⟨a1, a2, a3⟩ := (hgm n).1 (by simp [hn])
    obtain ⟨p, hp, e⟩ := List.mem_map.1 a3
    refine ⟨fun e2 => ?_, a2, p.2, ?_⟩
    · subst e2
      exact (List.nodup_append.1 hnd).2.2 n hn n (by simp) rfl
    · rw [← e]; exact hp
  have hne : ∀ n ∈ gs, nameW n ≠ nameW m := fun n hn e => by
    have h3 := hlt n hn
    have h4 := hN.hi
    exact h3.1 (nameW_inj (by omega) (by omega) e)
  have hsy : ∀ p ∈ d.dir, fileAt (d.files.modify i syncF) p.2 = fileAt d.files p.2 := fun p hp => by
    rw [Dk.fileAt_modify]
    split
    · have := hc.syn p hp
      unfold syncF
      rw [← this]
    · rfl
  have cut2 : ∀ {g : Nat → Bs}, (∀ i, CutAt (d.files.modify i syncF) g i) → True := fun _ => trivial
  have base2 : ∀ l, l.Sublist (ddel d.dir tempW) → (nameW m, i) ∈ l → ∀ g : Nat → Bs, (∀ p ∈ l, g p.2 = (fileAt d.files p.2).b) → GoodT ex d.room Nm s rs (fmapF g l) := fun l hl hml g hg => by
    rw [fmap_congr (h := fun i => (fileAt d.files i).b) hg]
    have hs2 : (fmapF (fun i => (fileAt d.files i).b) l).Sublist (view d) := fmap_sub _ (hl.trans (ddel_sub _ _))
    exact ⟨(fits_view hO).sub hs2, .gen m b b.length 0 (hN.sub hs2 (mem_fmap.2 ⟨i, hml, hb⟩)) hr (fun e => by rw [List.take_length]; exact hx e) fun h => absurd h (Nat.lt_irrefl 0), fun p hp => hNm.old p (hs2.subset hp)⟩
  have gb2 : ∀ l, (l.Sublist (ddel d.dir tempW) ∧ (nameW m, i) ∈ l) → ∀ g, (∀ j, CutAt (d.files.modify i syncF) g j) → GoodT ex d.room Nm s rs (fmapF g l) := fun l hl g hg =>
    base2 l hl.1 hl.2 g fun p hp => by
      have hpd := (mem_ddel.1 (hl.1.subset hp)).1
      have := (hg p.2).whole (by rw [hsy p hpd]; exact hc.syn p hpd)
      rw [this, hsy p hpd]
  have s1 := res_sync (Good := GoodT ex d.room Nm s rs) hA (by omega) (hA.al fun l hl g hg => good_base hO hc hT hNm hl fun j _ => hg j) hgi
  have s2 := s1.next fun y hy => res_syncDir hy (by omega) (hy.al fun l hl g hg => by
    have hg2 : ∀ p ∈ d.dir, g p.2 = (fileAt d.files p.2).b := fun p hp => by
      have := (hg p.2).whole (by rw [hsy p hp]; exact hc.syn p hp)
      rw [this, hsy p hp]
    rcases hl with rfl | rfl
    · rw [fmap_congr (h := fun i => (fileAt d.files i).b) hg2]
      exact ⟨fits_view hO, hT, hNm.old⟩
    · exact base2 _ (List.Sublist.refl _) hi1 g fun p hp => hg2 p (mem_ddel.1 hp).1)
  have hrm : ∀ y, (At z d.room (o + 1 + 1 + 1) (· = ddel d.dir tempW) (ddel d.dir tempW) (d.files.modify i syncF) y ∧ Rest y) →
      Res z (GoodT ex d.room Nm s rs) (fun y => At z d.room (o + 1 + 1 + 1 + gs.length) (fun l => l.Sublist (ddel d.dir tempW) ∧ (nameW m, i) ∈ l) (delAll (ddel d.dir tempW) gs) (d.files.modify i syncF) y ∧ (gs = [] → Rest y)) (removeAll y gs) := fun y hy => by
    have hA2 := hy.1.mono (P' := fun l => l.Sublist (ddel d.dir tempW) ∧ (nameW m, i) ∈ l) fun l e => by subst e; exact ⟨List.Sublist.refl _, hi1⟩
    by_cases h0 : gs = []
    · subst h0
      exact .inl ⟨rfl, hA2, fun _ => hy.2⟩
    · refine (removeAll_res gb2 gs hA2 (by omega) (fun l n hn hl => ⟨(ddel_sub l _).trans hl.1, mem_ddel.2 ⟨hl.2, fun e => hne n hn e.symm⟩⟩) ⟨List.Sublist.refl _, hi1⟩ (List.nodup_append.1 hnd).1 fun n hn => ?_).mono fun _ h => ⟨h, fun e => absurd e h0⟩
      obtain ⟨_, a2, j, hj⟩ := hlt n hn
      exact ⟨by omega, j, dget_of_mem hR1 hj⟩
  obtain ⟨lE, hlE⟩ : ∃ lE, lE = delAll (ddel d.dir tempW) gs := ⟨_, rfl⟩
  rw [← hlE] at hrm
  refine OpenRes.of_done (closeW_res (K := fun y => (∃ P, At z d.room (o + 80) P lE (d.files.modify i syncF) y) ∧ Rest y) s2 hrm (fun h0 y hy => ?_) fun h0 y hy => ?_) fun y hy => ?_
  · refine (res_syncDir hy.1 (by omega) (hy.1.al gb2)).mono fun q hq => ⟨⟨_, hq.1.live, hq.1.arm, hq.1.room, by have := hq.1.ops; omega, hq.1.lefts, hq.1.dir, hq.1.files⟩, hq.2⟩
  · exact ⟨⟨_, hy.1.live, hy.1.arm, hy.1.room, by have := hy.1.ops; omega, hy.1.lefts, hy.1.dir, hy.1.files⟩, hy.2 h0⟩
  · obtain ⟨⟨P, hA3⟩, hrest⟩ := hy
    have hsub : lE.Sublist (ddel d.dir tempW) := by
      rw [hlE]
      have : ∀ (ns : List Nat) (l : Dir), (delAll l ns).Sublist l := fun ns => by
        induction ns with
        | nil => exact fun l => List.Sublist.refl _
        | cons k t ih => exact fun l => (ih _).trans (ddel_sub _ _)
      exact this _ _
    have hmE : ∀ p, p ∈ lE → p.1 = nameW m ∨ (p.1 ≠ tempW ∧ genOf p.1 = none) := fun p hp => by
      have hp1 := hsub.subset hp
      rw [hlE, mem_delAll] at hp
      cases hge : genOf p.1 with
      | none => exact .inr ⟨(mem_ddel.1 hp1).2, rfl⟩
      | some n =>
        obtain ⟨a1, a2, a3⟩ := genOf_some hge
        rcases List.mem_append.1 ((hgm n).2 ⟨a1, a2, List.mem_map.2 ⟨p, hp1, a3⟩⟩) with h | h
        · exact absurd a3 (hp.2 n h)
        · rw [List.mem_singleton.1 h] at a3
          exact .inl a3
    have hrise : Rising lE := hR1.sublist hsub
    have hin : (nameW m, i) ∈ lE := by
      rw [hlE, mem_delAll]
      exact ⟨hi1, fun n hn e => hne n hn e.symm⟩
    have hep : L.epoch = m := by rw [hL]
    refine ⟨⟨hA3.live, hA3.ops, hrest.1, hrest.2, fun p hp => ?_⟩, hA3.arm, hA3.room, by rw [hL], by rw [hL], by rw [hL], ⟨b, i, ?_, ?_, by rw [hL], by rw [hep]; exact hr, fun e => by rw [hep]; exact hx e⟩, by rw [hep]; exact ⟨hN.lo, hN.hi⟩, fun p hp => ?_, by rw [hA3.dir]; exact hrise, by rw [hep]; exact hnn⟩
    · rw [hA3.dir] at hp
      have hpd := (mem_ddel.1 (hsub.subset hp)).1
      rw [hA3.files, hsy p hpd]
      exact hc.syn p hpd
    · rw [hep, hA3.dir]
      exact dget_of_mem hrise hin
    · rw [hA3.files, hsy _ hi]
      exact hb
    · rw [hA3.dir] at hp
      rcases hmE p hp with h | ⟨h1, h2⟩
      · exact .inl (by rw [hep]; exact h)
      · exact .inr ⟨h2, h1, p.2, (mem_ddel.1 (hsub.subset hp)).1⟩
/-- Open, done or cut off. -/
theorem open_holds (hO : Ok d) (hc : Calm o d) (hz : z → d.armed = 0) (ho : o + 80 ≤ 1048576) (hT : Tells ex d.room (view d) s rs) (hNm : NmOk Nm (view d)) : OpenRes ex z Nm d (o + 80) s rs (openW d) := by
  have hR1 : Rising (ddel d.dir tempW) := rising_ddel hO.dirR _
  have ht := temp_res hO hc hz (by omega) hT hNm
  unfold openW
  rw [if_neg (by rw [hc.live]; simp)]
  rcases ht with ⟨e, hA⟩ | ⟨h0, e, h1, h2⟩
  case inr =>
    rw [if_neg (by rw [e]; decide), e]
    exact .inr ⟨h0, rfl, h1, h2⟩
  rw [if_pos e]
  obtain ⟨x, hx⟩ : ∃ x, x = (tempGone d).1 := ⟨_, rfl⟩
  rw [← hx] at hA ⊢
  clear hx e
  have hlist : Dk.list x = (ddel d.dir tempW).map (·.1) := by
    unfold Dk.list
    rw [hA.live, hA.dir]
    simp
  have hview : ∀ n c, (nameW n, c) ∈ view d ↔ ∃ i, (nameW n, i) ∈ d.dir ∧ (fileAt d.files i).b = c := fun n c => mem_fmap
  have hgm : ∀ n, n ∈ gensW ((ddel d.dir tempW).map (·.1)) ↔ 1 ≤ n ∧ n ≤ 1099511627776 ∧ ∃ c, (nameW n, c) ∈ view d := fun n => by
    rw [mem_gens]
    refine and_congr_right fun _ => and_congr_right fun _ => ⟨fun h => ?_, fun ⟨c, h⟩ => ?_⟩
    · obtain ⟨p, hp, e⟩ := List.mem_map.1 h
      exact ⟨_, (hview n _).2 ⟨p.2, by rw [← e]; exact (mem_ddel.1 hp).1, rfl⟩⟩
    · obtain ⟨i, hi, _⟩ := (hview n c).1 h
      exact List.mem_map.2 ⟨_, mem_ddel.2 ⟨hi, fun e => temp_ne n e.symm⟩, rfl⟩
  unfold openBody
  rw [hlist]
  cases hT with
  | none hn hs hr hm =>
    subst hs hr
    have hg0 : gensW ((ddel d.dir tempW).map (·.1)) = [] := by
      rw [List.eq_nil_iff_forall_not_mem]
      intro n hn2
      obtain ⟨a1, a2, c, a3⟩ := (hgm n).1 hn2
      exact hn n c a3 a1 a2
    rw [hg0]
    exact made_res hO hc ho (.none hn rfl rfl hm) hNm hA (n := 1) (b := bytesW 1 [] []) (by rw [bytes_one]; exact hm) (by omega) (by omega) (fun m c h1 h2 h3 => absurd (hn m c h1 h2 h3) id) (by
      have := readB_bytes (n := 1) (s := []) (rs := []) ⟨by omega, by simp, (fun r hr => by cases hr), by simp⟩ (tail := []) (.inl rfl)
      rw [List.append_nil] at this
      exact this) rfl hNm.one _ rfl [] hg0.symm
  | gen m b wh cut hN hr hx hc2 =>
    obtain ⟨i, hi, hb⟩ := (hview m b).1 hN.mem
    have hi1 : (nameW m, i) ∈ ddel d.dir tempW := mem_ddel.2 ⟨hi, fun e => temp_ne m e.symm⟩
    have hlast : (gensW ((ddel d.dir tempW).map (·.1))).getLast? = some m := by
      have hmm : m ∈ gensW ((ddel d.dir tempW).map (·.1)) := (hgm m).2 ⟨hN.lo, hN.hi, b, hN.mem⟩
      cases hl : (gensW ((ddel d.dir tempW).map (·.1))).getLast? with
      | none =>
        rw [List.getLast?_eq_none_iff] at hl
        rw [hl] at hmm
        cases hmm
      | some n =>
        obtain ⟨h1, h2⟩ := last_top (gens_sorted _) hl
        obtain ⟨a1, a2, c, a3⟩ := (hgm n).1 h1
        have := hN.top n c a3 a1 a2
        have := h2 m hmm
        rw [show n = m by omega]
    rw [hlast]
    show OpenRes ex z Nm d (o + 80) s rs (openOf x (gensW ((ddel d.dir tempW).map (·.1))) m)
    have hread : readW x m = (some ⟨s, rs, wh, cut⟩, 0) := by
      unfold readW Dk.read
      rw [hA.live, hA.dir, dget_of_mem hR1 hi1]
      simp only [Bool.false_eq_true, if_false, hA.files, hb, hr]
      simp
    have hwb := readB_split hr
    unfold openOf
    rw [hread]
    simp only []
    by_cases h0 : 0 < cut
    · obtain ⟨c1, c2⟩ := hc2 h0
      rw [if_pos h0, if_neg (by omega)]
      have hgo : GenOk (m + 1) s rs := ⟨by omega, hwb.2.1, hwb.2.2.1, by have := hwb.2.2.2; have := (fits_view hO).len _ hN.mem; simp only at this; omega⟩
      exact made_res hO hc ho (.gen m b wh cut hN hr hx hc2) hNm hA c2 (by omega) (by omega) (fun n c h1 h2 h3 => by have := hN.top n c h1 h2 h3; omega) (by
        have := readB_bytes hgo (tail := []) (.inl rfl)
        rw [List.append_nil] at this
        exact this) rfl (hNm.new m b hN) _ rfl _ rfl
    · rw [if_neg h0]
      obtain rfl : cut = 0 := by omega
      obtain rfl : wh = b.length := by have := hwb.1; omega
      obtain ⟨ys, hys⟩ := List.getLast?_eq_some_iff.1 hlast
      rw [hys, List.dropLast_concat]
      exact kept_res hO hc ho (.gen m b _ 0 hN hr hx hc2) hNm hA hN hi hb hr (fun e => by have := hx e; rw [List.take_length] at this; exact this) _ rfl ys hys
end
end Go.Proofs.YtgpenpnobjecgaaGreatDoor
