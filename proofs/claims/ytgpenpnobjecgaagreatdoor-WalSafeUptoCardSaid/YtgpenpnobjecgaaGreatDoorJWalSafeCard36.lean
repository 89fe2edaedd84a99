/- Power failures in plain Lean: each operation is done, or the power failed ahead of it. -/
import Derived.Test.YtgpenpnobjecgaaGreatDoorJWalSafeCard31
import Derived.Test.YtgpenpnobjecgaaGreatDoorJWalSafeCard35
/- LawF -/
namespace Go.Proofs.YtgpenpnobjecgaaGreatDoor
set_option maxRecDepth 100000
open Go.RowKit Dk

def DRunZ (Z : Nat → Prop) (w w' : World) (dg : Nat) (d : DiskS) : Prop := ∃ recs own, DAt w' dg d recs own ∧ Ok d ∧ (∀ b, foot own b → w.heap.size ≤ b ∧ ¬ Z b) ∧ RowKit.Below w.heap.size w w'
def RunZ (Z : Nat → Prop) (w w' : World) (g dg : Nat) (d : DiskS) (L : LogS) : Prop := ∃ own lf, PairAt w' g dg d L own lf ∧ (∀ b, both own lf b → w.heap.size ≤ b ∧ ¬ Z b) ∧ RowKit.Below w.heap.size w w'
section
variable {Z : Nat → Prop} {w w1 W : World} {g dg : Nat} {d d' : DiskS} {L L' : LogS} {q : Nat}
theorem DRunZ.run (h : DRunZ Z w w1 dg d) : DRun w w1 dg d := by
  obtain ⟨recs, own, h1, h2, h3, h4⟩ := h
  exact ⟨recs, own, h1, h2, fun b hb => (h3 b hb).1, h4⟩
theorem RunZ.run (h : RunZ Z w w1 g dg d L) : Run w w1 g dg d L := by
  obtain ⟨own, lf, h1, h2, h3⟩ := h
  exact ⟨own, lf, h1, fun b hb => (h2 b hb).1, h3⟩
theorem RunZ.disk (h : RunZ Z w w1 g dg d L) : DRunZ Z w w1 dg d := by
  obtain ⟨own, lf, hp, hf, hl⟩ := h
  obtain ⟨recs, hd⟩ := hp.dat
  exact ⟨recs, own, hd, hp.ok, fun b hb => hf b (.inl hb), hl⟩
theorem RunZ.below (h : RunZ Z w w1 g dg d L) (hb : RowKit.Below w1.heap.size w1 W) : RunZ Z w W g dg d L := by
  obtain ⟨own, lf, hp, hf, hl⟩ := h
  exact ⟨own, lf, hp.below hb, hf, bthen hl hb⟩
theorem DRunZ.below (h : DRunZ Z w w1 dg d) (hb : RowKit.Below w1.heap.size w1 W) : DRunZ Z w W dg d := by
  obtain ⟨recs, own, hd, hO, hf, hl⟩ := h
  exact ⟨recs, own, hd.below hb, hO, hf, bthen hl hb⟩
theorem DRunZ.low (h : DRunZ Z w w1 dg d) : RowKit.Below w.heap.size w w1 := h.run.low
theorem RunZ.low (h : RunZ Z w w1 g dg d L) : RowKit.Below w.heap.size w w1 := h.run.low
theorem DRunZ.ok (h : DRunZ Z w w1 dg d) : Ok d := h.run.ok
theorem RunZ.ok (h : RunZ Z w w1 g dg d L) : Ok d := h.run.ok
/-- What is made behind it may be added to what stays. -/
theorem DRunZ.wide (h : DRunZ Z w w1 dg d) (hb : RowKit.Below w1.heap.size w1 W) : DRunZ (fun b => Z b ∨ (w1.heap.size ≤ b ∧ b < W.heap.size)) w W dg d := by
  obtain ⟨recs, own, hd, hO, hf, hl⟩ := h
  exact ⟨recs, own, hd.below hb, hO, fun b hb2 => ⟨(hf b hb2).1, fun hz => hz.elim (hf b hb2).2 fun hz => by have := hd.lt b hb2; omega⟩, bthen hl hb⟩
theorem DRunZ.of_run (h : DRun w w1 dg d) : DRunZ (fun _ => False) w w1 dg d := by
  obtain ⟨recs, own, h1, h2, h3, h4⟩ := h
  exact ⟨recs, own, h1, h2, fun b hb => ⟨h3 b hb, id⟩, h4⟩
theorem RunZ.of_run (h : Run w w1 g dg d L) : RunZ (fun _ => False) w w1 g dg d L := by
  obtain ⟨own, lf, h1, h2, h3⟩ := h
  exact ⟨own, lf, h1, fun b hb => ⟨h2 b hb, id⟩, h3⟩
theorem run_armZ (h : DRunZ Z w w1 dg d) (n : Int) (hn : n ≤ 9223372036854775807) : Calls Tryz.prog 30 #[ptrV dg, .int .i64 n] w1 fun e w' => e = .returned (.tuple #[]) ∧ DRunZ Z w w' dg (Dk.arm d n) ∧ Kept (fun b => ¬ Z b) w1 w' := by
  obtain ⟨recs, own, hd, hO, hf, hl⟩ := h
  have hm : foot own dg := DAtU.mine hd
  refine (arm_any hd hO n hn).mono ?_
  rintro e w2 ⟨rfl, hd2, hO2, hk⟩
  exact ⟨rfl, ⟨recs, own, hd2, hO2, hf, ((Kept.of_below (F := foot own) hl).then (hk.mono fun b _ e => e ▸ hm)).below fun b hlt h => by have := (hf b h).1; omega⟩, hk.mono fun b _ e => by subst e; exact (hf _ hm).2⟩
theorem run_openZ (hT : Tabs6 w) (h : DRunZ Z w w1 dg d) (hZ : ∀ b, Z b → b < w1.heap.size) (hr : openW d = (d', some L, 0)) :
    Calls Tryz.prog 16 #[ptrV dg] w1 fun e w' => ∃ g, e = .returned (.tuple #[ptrV g, .int .i64 0]) ∧ RunZ Z w w' g dg d' L ∧ Kept (fun b => ¬ Z b) w1 w' := by
  obtain ⟨recs, own, hd, hO, hf, hl⟩ := h
  have hop := wopen_any hd hO (w0 := w) ⟨hT, hl, fun b hb => (hf b hb).1⟩
  rw [hr] at hop
  refine hop.mono ?_
  rintro e w2 ⟨hO2, recs2, own2, hd2, ht2, g, lf, rfl, hl2, hap, hlk⟩
  refine ⟨g, rfl, ⟨own2, lf, ⟨⟨recs2, hd2⟩, hO2, hl2, fun b hb => (hap b hb).2, hlk⟩, fun b hb => ?_, ((Kept.of_below (F := foot own) hl).then ht2.kept).below fun b hlt hf2 => by have := (hf b hf2).1; omega⟩, ht2.kept.mono fun b _ hb => (hf b hb).2⟩
  have new : w1.heap.size ≤ b → w.heap.size ≤ b ∧ ¬ Z b := fun h => ⟨Nat.le_trans hl.size h, fun hz => by have := hZ b hz; omega⟩
  rcases hb with hb | hb
  · rcases Nat.lt_or_ge b w1.heap.size with h | h
    · exact hf b (ht2.foot b h hb)
    · exact new h
  · exact new (hap b hb).1
theorem run_open_noneZ (hT : Tabs6 w) (h : DRunZ Z w w1 dg d) (hZ : ∀ b, Z b → b < w1.heap.size) (hr : openW d = (d', none, q)) :
    Calls Tryz.prog 16 #[ptrV dg] w1 fun e w' => e = .returned (.tuple #[.pointer none, .int .i64 q]) ∧ DRunZ Z w w' dg d' ∧ Kept (fun b => ¬ Z b) w1 w' := by
  obtain ⟨recs, own, hd, hO, hf, hl⟩ := h
  have hop := wopen_any hd hO (w0 := w) ⟨hT, hl, fun b hb => (hf b hb).1⟩
  rw [hr] at hop
  refine hop.mono ?_
  rintro e w2 ⟨hO2, recs2, own2, hd2, ht2, he⟩
  have he' : e = .returned (.tuple #[.pointer none, .int .i64 q]) := he
  subst he'
  refine ⟨rfl, ⟨recs2, own2, hd2, hO2, fun b hb => ?_, ((Kept.of_below (F := foot own) hl).then ht2.kept).below fun b hlt hf2 => by have := (hf b hf2).1; omega⟩, ht2.kept.mono fun b _ hb => (hf b hb).2⟩
  rcases Nat.lt_or_ge b w1.heap.size with h | h
  · exact hf b (ht2.foot b h hb)
  · exact ⟨Nat.le_trans hl.size h, fun hz => by have := hZ b hz; omega⟩
theorem run_newZ {l : List (Bs × Bs)} {A : Option Addr} {C : Nat} {G : Nat → Prop} (hl : RowKit.Below w.heap.size w W) (hZ : ∀ b, Z b → b < W.heap.size) (hF : FilesAt W A l.length C l G) {R : Int} (hR : -9223372036854775808 ≤ R ∧ R ≤ 9223372036854775807) (hn : ∀ p ∈ l, p.1.length ≤ maxLen) (hll : l.length ≤ 4611686018427387904) (hr : Dk.new l R = (some d, 0)) :
    Calls Tryz.prog 13 #[.slice A l.length C, .int .i64 R] W fun e w' => ∃ dg, e = .returned (.tuple #[ptrV dg, .int .i64 0]) ∧ DRunZ Z w w' dg d ∧ RowKit.Below W.heap.size W w' := by
  refine (new_any l A C G hF R hR hn hll).mono ?_
  rw [hr]
  rintro e w' ⟨hb, _, hO, dg, recs, own, rfl, hd, hf⟩
  exact ⟨dg, rfl, ⟨recs, own, hd, hO, fun b h => ⟨Nat.le_trans hl.size (hf b h), fun hz => by have := hZ b hz; have := hf b h; omega⟩, bthen hl hb⟩, hb⟩
/-- Text and rows in blocks that stay. -/
theorem Txt.stays {w w' : World} {A : Option Addr} {n c : Nat} {l : Bs} (h : Txt w A n c l) (hk : Kept (fun b => ¬ Z b) w w') (hZ : ∀ ad, A = some ad → Z ad.block) : Txt w' A n c l := h.kept hk fun ad had _ hn => hn (hZ ad had)
theorem RowsAt.stays {w w' : World} {A : Option Addr} {n C : Nat} {l : List Bs} {G : Nat → Prop} (h : RowsAt w A n C l G) (hk : Kept (fun b => ¬ Z b) w w') (hZ : ∀ b, G b → b < w.heap.size → Z b) : RowsAt w' A n C l G := h.kept hk fun b hg hlt hn => hn (hZ b hg hlt)
/-- A state and records told, in blocks that stay. -/
structure Saved (Z : Nat → Prop) (w : World) (sA : Option Addr) (sC : Nat) (rA : Option Addr) (rC : Nat) (s : Bs) (rs : List Bs) : Prop where
  txt : Txt w sA s.length sC s
  tz : ∀ ad, sA = some ad → Z ad.block
  rows : RowsAt w rA rs.length rC rs Z
  lt : ∀ b, Z b → b < w.heap.size
variable {sA rA : Option Addr} {sC rC : Nat} {s : Bs} {rs : List Bs}
theorem Saved.kept (h : Saved Z w1 sA sC rA rC s rs) (hk : Kept (fun b => ¬ Z b) w1 W) : Saved Z W sA sC rA rC s rs :=
  ⟨h.txt.stays hk h.tz, h.tz, h.rows.stays hk fun _ hg _ => hg, fun b hb => Nat.lt_of_lt_of_le (h.lt b hb) hk.size⟩
theorem Saved.below (h : Saved Z w1 sA sC rA rC s rs) (hb : RowKit.Below w1.heap.size w1 W) : Saved Z W sA sC rA rC s rs := h.kept (Kept.of_below hb)
theorem run_stateS (h : Run w w1 g dg d L) (hs : L.state = s) : Calls Tryz.prog 19 #[ptrV g] w1 fun e w' => ∃ k C, RetOwn w1 s e w' k C := by subst hs; exact run_state h
theorem run_recordsS (h : Run w w1 g dg d L) (hs : L.records = rs) : Calls Tryz.prog 21 #[ptrV g] w1 fun e w' => ∃ A C, e = .returned (.slice A rs.length C) ∧ (∃ blk qs', Sole w1 w' rs A C blk qs') ∧ RowKit.Below w1.heap.size w1 w' := by subst hs; exact run_records h
end
end Go.Proofs.YtgpenpnobjecgaaGreatDoor

/- Crash -/
namespace Go.Proofs.YtgpenpnobjecgaaGreatDoor
set_option maxRecDepth 100000
open Go.RowKit Dk

abbrev Files := List (Bs × Bs)
def fsum (l : Files) : Nat := (l.map fun p => p.2.length).sum
def coreF (l : Files) : Files := l.filter fun p => !(p.1 == tempW)
/-- Files that a disk of that room takes. -/
structure Fits (R : Nat) (fs : Files) : Prop where
  rise : fs.Pairwise fun p q => bytesBefore p.1 q.1 = true
  nam : ∀ p ∈ fs, named p.1 = true
  many : fs.length ≤ 64
  len : ∀ p ∈ fs, p.2.length ≤ 4194304
  sum : fsum fs ≤ R
/-- The newest generation. -/
structure Newest (fs : Files) (m : Nat) (b : Bs) : Prop where
  lo : 1 ≤ m
  hi : m ≤ 1099511627776
  mem : (nameW m, b) ∈ fs
  top : ∀ n c, (nameW n, c) ∈ fs → 1 ≤ n → n ≤ 1099511627776 → n ≤ m
def NoGen (fs : Files) : Prop := ∀ n c, (nameW n, c) ∈ fs → 1 ≤ n → n ≤ 1099511627776 → False
/-- There is room for a generation more. -/
structure Makes (R : Nat) (fs : Files) (k : Nat) : Prop where
  sum : fsum (coreF fs) + k ≤ R
  many : (coreF fs).length < 64
  len : k ≤ 4194304
/-- What a log opened on these files tells. -/
inductive Tells (ex : Prop) (R : Nat) (fs : Files) (s : Bs) (rs : List Bs) : Prop
  | gen (m : Nat) (b : Bs) (wh cut : Nat) (h : Newest fs m b) (hr : readB b m = some ⟨s, rs, wh, cut⟩) (hx : ex → b.take wh = bytesW m s rs) (hc : 0 < cut → m < 1099511627776 ∧ Makes R fs (bytesW (m + 1) s rs).length)
  | none (h : NoGen fs) (hs : s = []) (hr : rs = []) (hm : Makes R fs 10)

/-- A directory's files. -/
def fmapF (g : Nat → Bs) (l : Dir) : Files := l.map fun p => (p.1, g p.2)
def dsum (g : Nat → Bs) (l : Dir) : Nat := (l.map fun p => (g p.2).length).sum
theorem mem_fmap {g : Nat → Bs} {l : Dir} {s b : Bs} : (s, b) ∈ fmapF g l ↔ ∃ i, (s, i) ∈ l ∧ g i = b := by
  unfold fmapF
  rw [List.mem_map]
  constructor
  · rintro ⟨p, hp, e⟩
    injection e with e1 e2
    subst e1 e2
    exact ⟨p.2, hp, rfl⟩
  · rintro ⟨i, hi, rfl⟩
    exact ⟨(s, i), hi, rfl⟩
theorem fsum_fmap (g : Nat → Bs) (l : Dir) : fsum (fmapF g l) = dsum g l := by
  unfold fsum fmapF dsum
  rw [List.map_map]
  rfl
theorem core_fmap (g : Nat → Bs) (l : Dir) : coreF (fmapF g l) = fmapF g (ddel l tempW) := by
  unfold coreF fmapF ddel
  rw [List.filter_map]
  rfl
theorem fmap_congr {g h : Nat → Bs} {l : Dir} (e : ∀ p ∈ l, g p.2 = h p.2) : fmapF g l = fmapF h l := by
  unfold fmapF
  exact List.map_congr_left fun p hp => by rw [e p hp]
theorem dsum_congr {g h : Nat → Bs} {l : Dir} (e : ∀ p ∈ l, g p.2 = h p.2) : dsum g l = dsum h l := by
  unfold dsum
  rw [List.map_congr_left fun p hp => by rw [e p hp]]
theorem dsum_perm (g : Nat → Bs) {l l' : Dir} (h : l.Perm l') : dsum g l = dsum g l' := (h.map _).sum_nat
theorem sum_sub {l l' : List Nat} (h : l.Sublist l') : l.sum ≤ l'.sum := by
  induction h with
  | slnil => exact Nat.le_refl _
  | cons a _ ih => rw [List.sum_cons]; omega
  | cons_cons a _ ih => rw [List.sum_cons, List.sum_cons]; omega
theorem dsum_sub (g : Nat → Bs) {l l' : Dir} (h : l.Sublist l') : dsum g l ≤ dsum g l' := by
  unfold dsum
  exact sum_sub (h.map _)
theorem dsum_le {g h : Nat → Bs} : ∀ {l : Dir}, (∀ p ∈ l, (g p.2).length ≤ (h p.2).length) → dsum g l ≤ dsum h l
  | [], _ => Nat.le_refl _
  | p :: t, e => by
    have h1 := e p (by simp)
    have h2 := dsum_le (g := g) (h := h) (l := t) fun q hq => e q (by simp [hq])
    unfold dsum at h2 ⊢
    simp only [List.map_cons, List.sum_cons]
    omega
theorem dsum_dins (g : Nat → Bs) (x : Bs × Nat) (l : Dir) : dsum g (dins x l) = (g x.2).length + dsum g l := by
  rw [dsum_perm g (perm_dins x l)]
  simp [dsum]
theorem dsum_used (d : DiskS) : dsum (fun i => (fileAt d.files i).b) d.dir = d.used := rfl
theorem Fits.of {R : Nat} {g : Nat → Bs} {l : Dir} (h1 : Rising l) (h2 : ∀ p ∈ l, named p.1 = true) (h3 : l.length ≤ 64) (h4 : ∀ p ∈ l, (g p.2).length ≤ 4194304) (h5 : dsum g l ≤ R) : Fits R (fmapF g l) := by
  refine ⟨?_, fun p hp => ?_, by simpa [fmapF] using h3, fun p hp => ?_, by rw [fsum_fmap]; exact h5⟩
  · unfold fmapF
    rw [List.pairwise_map]
    exact h1
  · obtain ⟨q, hq, rfl⟩ := List.mem_map.1 hp
    exact h2 q hq
  · obtain ⟨q, hq, rfl⟩ := List.mem_map.1 hp
    exact h4 q hq
theorem Fits.sub {R : Nat} {fs fs' : Files} (h : Fits R fs) (hs : fs'.Sublist fs) : Fits R fs' :=
  ⟨h.rise.sublist hs, fun p hp => h.nam p (hs.subset hp), Nat.le_trans hs.length_le h.many, fun p hp => h.len p (hs.subset hp), Nat.le_trans (sum_sub (hs.map _)) h.sum⟩
theorem fmap_sub (g : Nat → Bs) {l l' : Dir} (h : l.Sublist l') : (fmapF g l).Sublist (fmapF g l') := h.map _
theorem ddel_sub (l : Dir) (s : Bs) : (ddel l s).Sublist l := List.filter_sublist
theorem mem_core {fs : Files} {p : Bs × Bs} : p ∈ coreF fs ↔ p ∈ fs ∧ p.1 ≠ tempW := by simp [coreF]
theorem gen_core {fs : Files} {n : Nat} {b : Bs} : (nameW n, b) ∈ coreF fs ↔ (nameW n, b) ∈ fs := by
  rw [mem_core]
  exact ⟨fun h => h.1, fun h => ⟨h, fun e => temp_ne n e.symm⟩⟩
theorem Newest.of_gens {fs fs' : Files} {m : Nat} {b : Bs} (h : Newest fs m b) (e : ∀ n c, (nameW n, c) ∈ fs' ↔ (nameW n, c) ∈ fs) : Newest fs' m b :=
  ⟨h.lo, h.hi, (e _ _).2 h.mem, fun n c hc => h.top n c ((e _ _).1 hc)⟩
theorem Tells.of_core {ex : Prop} {R : Nat} {fs fs' : Files} {s : Bs} {rs : List Bs} (h : Tells ex R fs s rs) (e : coreF fs' = coreF fs) : Tells ex R fs' s rs := by
  have eg : ∀ n c, (nameW n, c) ∈ fs' ↔ (nameW n, c) ∈ fs := fun n c => by rw [← gen_core, e, gen_core]
  have em : ∀ k, Makes R fs k → Makes R fs' k := fun k hm => ⟨by rw [e]; exact hm.sum, by rw [e]; exact hm.many, hm.len⟩
  cases h with
  | gen m b wh cut h hr hx hc => exact .gen m b wh cut (h.of_gens eg) hr hx fun h0 => ⟨(hc h0).1, em _ (hc h0).2⟩
  | none h hs hr hm => exact .none (fun n c hn => h n c ((eg n c).1 hn)) hs hr (em _ hm)
theorem Newest.sub {fs fs' : Files} {m : Nat} {b : Bs} (h : Newest fs m b) (hs : fs'.Sublist fs) (hm : (nameW m, b) ∈ fs') : Newest fs' m b :=
  ⟨h.lo, h.hi, hm, fun n c hc => h.top n c (hs.subset hc)⟩

/-! ### what a failure leaves -/
/-- Its changes make its directory of the safe one; each directory that a failure may leave. -/
structure Lefts (P : Dir → Prop) (x : DiskS) : Prop where
  whole : x.chg.foldl turn x.safe = x.dir
  each : ∀ c, P (leftDir x c)
theorem Lefts.note {P : Dir → Prop} {x : DiskS} (h : Lefts P x) (c : Chg) (hp : P (turn x.dir c)) : Lefts P (note x c) := by
  refine ⟨?_, fun k => ?_⟩
  · show (x.chg ++ [c]).foldl turn x.safe = turn x.dir c
    rw [List.foldl_append, h.whole]
    rfl
  · show P (((x.chg ++ [c]).take k.toNat).foldl turn x.safe)
    by_cases hk : k.toNat ≤ x.chg.length
    · rw [List.take_append_of_le_length hk]
      exact h.each k
    · rw [List.take_of_length_le (by simp; omega), List.foldl_append, h.whole]
      exact hp
theorem Lefts.calm {P : Dir → Prop} {x : DiskS} (hc : x.chg = []) (hs : x.safe = x.dir) (hp : P x.dir) : Lefts P x := by
  refine ⟨by rw [hc, hs]; rfl, fun k => ?_⟩
  unfold leftDir
  rw [hc, hs]
  simpa using hp
theorem Lefts.mono {P Q : Dir → Prop} {x : DiskS} (h : Lefts P x) (hq : ∀ l, P l → Q l) : Lefts Q x := ⟨h.whole, fun c => hq _ (h.each c)⟩
theorem Lefts.same {P : Dir → Prop} {x y : DiskS} (h : Lefts P x) (h1 : y.chg = x.chg) (h2 : y.safe = x.safe) (h3 : y.dir = x.dir) : Lefts P y :=
  ⟨by rw [h1, h2, h3]; exact h.whole, fun c => by unfold leftDir; rw [h1, h2]; exact h.each c⟩
/-- File i's bytes, cut somewhere behind what is synced. -/
def CutAt (F : List FileS) (g : Nat → Bs) (i : Nat) : Prop := ∃ j, (fileAt F i).synced ≤ j ∧ g i = (fileAt F i).b.take j
theorem cut_left (x : DiskS) (tails : List Int) (i : Nat) : CutAt x.files (leftFile x tails) i := ⟨_, Nat.le_add_right _ _, rfl⟩
theorem CutAt.whole {F : List FileS} {g : Nat → Bs} {i : Nat} (h : CutAt F g i) (hs : (fileAt F i).synced = (fileAt F i).b.length) : g i = (fileAt F i).b := by
  obtain ⟨j, hj, e⟩ := h
  rw [e, List.take_of_length_le (by omega)]
/-- Whatever a failure leaves. -/
def AL (Good : Files → Prop) (x : DiskS) : Prop := ∀ c tails, Good (left x c tails)
theorem AL.of {Good : Files → Prop} {x : DiskS} {P : Dir → Prop} (h : Lefts P x) (hg : ∀ l, P l → ∀ g, (∀ i, CutAt x.files g i) → Good (fmapF g l)) : AL Good x :=
  fun c tails => hg _ (h.each c) _ (cut_left x tails)
theorem AL.gone {Good : Files → Prop} {x : DiskS} (h : AL Good x) : AL Good (gone x) := h
end Go.Proofs.YtgpenpnobjecgaaGreatDoor

/- Crash2 -/
namespace Go.Proofs.YtgpenpnobjecgaaGreatDoor
set_option maxRecDepth 100000
open Go.RowKit Dk

/-- Done; or the power failed, which it does not where z holds, and what is left is good. -/
def Res (z : Prop) (Good : Files → Prop) (I : DiskS → Prop) (r : DiskS × Nat) : Prop :=
  (r.2 = 0 ∧ I r.1) ∨ (¬ z ∧ r.2 = 51 ∧ r.1.dead = true ∧ AL Good r.1)
/-- A disk in use. -/
structure At (z : Prop) (R o : Nat) (P : Dir → Prop) (l : Dir) (F : List FileS) (x : DiskS) : Prop where
  live : x.dead = false
  arm : z → x.armed = 0
  room : x.room = R
  ops : x.ops ≤ o
  lefts : Lefts P x
  dir : x.dir = l
  files : x.files = F
section
variable {z : Prop} {Good : Files → Prop} {I J K : DiskS → Prop} {r : DiskS × Nat} {f : DiskS → DiskS × Nat} {x : DiskS} {R o : Nat} {P P' : Dir → Prop} {l : Dir} {F : List FileS}
theorem Res.next (h : Res z Good I r) (hf : ∀ x, I x → Res z Good J (f x)) : Res z Good J (next r f) := by
  obtain ⟨d, q⟩ := r
  rcases h with ⟨h1, h2⟩ | ⟨h0, h1, h2, h3⟩
  · have h1 : q = 0 := h1
    subst h1
    exact hf _ h2
  · have h1 : q = 51 := h1
    subst h1
    exact .inr ⟨h0, rfl, h2, h3⟩
theorem Res.mono (h : Res z Good I r) (hi : ∀ x, I x → J x) : Res z Good J r := h.imp (fun h => ⟨h.1, hi _ h.2⟩) id
theorem At.al (h : At z R o P l F x) (hg : ∀ l, P l → ∀ g, (∀ i, CutAt F g i) → Good (fmapF g l)) : AL Good x :=
  AL.of h.lefts (by rw [h.files]; exact hg)
theorem At.went (h : At z R o P l F x) : At z R (o + 1) P l F (went x) :=
  ⟨h.live, fun hz => by show x.armed - 1 = 0; rw [h.arm hz], h.room, by have := h.ops; show x.ops + 1 ≤ _; omega, h.lefts.same rfl rfl rfl, h.dir, h.files⟩
theorem At.mono (h : At z R o P l F x) (hp : ∀ l, P l → P' l) : At z R o P' l F x := ⟨h.live, h.arm, h.room, h.ops, h.lefts.mono hp, h.dir, h.files⟩
theorem At.refile (h : At z R o P l F x) (F' : List FileS) : At z R o P l F' { x with files := F' } := ⟨h.live, h.arm, h.room, h.ops, h.lefts.same rfl rfl rfl, h.dir, rfl⟩
theorem At.note (h : At z R o P l F x) (c : Chg) (hp : ∀ l, P l → P' l) (hc : P' (turn l c)) : At z R o P' (turn l c) F (note x c) :=
  ⟨h.live, h.arm, h.room, h.ops, (h.lefts.mono hp).note c (by rw [h.dir]; exact hc), by show turn x.dir c = _; rw [h.dir], h.files⟩
theorem res_op (h : At z R o P l F x) (hA : AL Good x) {f : DiskS → DiskS} (hI : I (f (Go.Proofs.YtgpenpnobjecgaaGreatDoor.went x))) : Res z Good I (op x f) := by
  by_cases ha : x.armed = 1
  · rw [op_gone ha]
    exact .inr ⟨fun hz => by have := h.arm hz; omega, rfl, rfl, hA.gone⟩
  · rw [op_went ha]
    exact .inl ⟨rfl, hI⟩
theorem res_create (h : At z R o P l F x) (ho : o < 1048576) (hA : AL Good x) {s : Bs} (hn : named s = true) (hg : dget l s = none) (hl : l.length < 64) (hs : s ≠ []) (hp : ∀ l, P l → P' l) (hc : P' (dput l s F.length)) :
    Res z Good (At z R (o + 1) P' (dput l s F.length) (F ++ [⟨[], 0⟩])) (create x s) := by
  have hops := h.ops
  unfold create
  rw [h.live, hn, h.dir, hg, if_neg (by simp), if_neg (by simp), if_neg (by simp), if_neg (by omega)]
  refine res_op h hA ?_
  have h1 := ((h.went.refile (F ++ [⟨[], 0⟩])).note (P' := P') ⟨[], s, F.length⟩ hp (by simpa [turn, hs] using hc))
  have e1 : turn l ⟨[], s, F.length⟩ = dput l s F.length := by simp [turn, hs]
  rw [e1] at h1
  have e2 : (Go.Proofs.YtgpenpnobjecgaaGreatDoor.went x).files = F := h.files
  rw [e2]
  exact h1
theorem res_append (h : At z R o P l F x) (ho : o < 1048576) (hA : AL Good x) {s p : Bs} {i : Nat} (hg : dget l s = some i) (h1 : (fileAt F i).b.length + p.length ≤ 4194304) (h2 : usedIn F l + p.length ≤ R) :
    Res z Good (At z R (o + 1) P l (F.modify i (appF p))) (Dk.append x s p) := by
  have hops := h.ops
  have hu : x.used = usedIn F l := by unfold DiskS.used; rw [h.files, h.dir]
  unfold Dk.append
  rw [h.live, h.dir, hg, if_neg (by simp)]
  simp only []
  rw [h.files, hu, h.room, if_neg (by omega)]
  refine res_op h hA ?_
  have e2 : (Go.Proofs.YtgpenpnobjecgaaGreatDoor.went x).files = F := h.files
  rw [e2]
  exact h.went.refile _
theorem res_sync (h : At z R o P l F x) (ho : o < 1048576) (hA : AL Good x) {s : Bs} {i : Nat} (hg : dget l s = some i) :
    Res z Good (At z R (o + 1) P l (F.modify i syncF)) (Dk.sync x s) := by
  have hops := h.ops
  unfold Dk.sync
  rw [h.live, h.dir, hg, if_neg (by simp)]
  simp only []
  rw [if_neg (by omega)]
  refine res_op h hA ?_
  have e2 : (Go.Proofs.YtgpenpnobjecgaaGreatDoor.went x).files = F := h.files
  rw [e2]
  exact h.went.refile _
theorem res_rename (h : At z R o P l F x) (ho : o < 1048576) (hA : AL Good x) {s t : Bs} {i : Nat} (hg : dget l s = some i) (hn : named t = true) (hne : s ≠ t) (hs : s ≠ []) (ht : t ≠ []) (hp : ∀ l, P l → P' l) (hc : P' (dput (ddel l s) t i)) :
    Res z Good (At z R (o + 1) P' (dput (ddel l s) t i) F) (rename x s t) := by
  have hops := h.ops
  unfold rename
  rw [h.live, h.dir, hg, if_neg (by simp)]
  simp only []
  rw [hn, if_neg (by simp), if_neg (by omega)]
  refine res_op h hA ?_
  rw [if_neg hne]
  have e1 : turn l ⟨s, t, i⟩ = dput (ddel l s) t i := by simp [turn, hs, ht]
  have h1 := h.went.note (P' := P') ⟨s, t, i⟩ hp (by rw [e1]; exact hc)
  rw [e1] at h1
  exact h1
theorem res_remove (h : At z R o P l F x) (ho : o < 1048576) (hA : AL Good x) {s : Bs} {i : Nat} (hg : dget l s = some i) (hs : s ≠ []) (hp : ∀ l, P l → P' l) (hc : P' (ddel l s)) :
    Res z Good (At z R (o + 1) P' (ddel l s) F) (remove x s) := by
  have hops := h.ops
  unfold remove
  rw [h.live, h.dir, hg, if_neg (by simp)]
  simp only []
  rw [if_neg (by omega)]
  refine res_op h hA ?_
  have e1 : turn l ⟨s, [], 0⟩ = ddel l s := by simp [turn, hs]
  have h1 := h.went.note (P' := P') ⟨s, [], 0⟩ hp (by rw [e1]; exact hc)
  rw [e1] at h1
  exact h1
/-- Nothing of the directory is unsafe. -/
def Rest (x : DiskS) : Prop := x.chg = [] ∧ x.safe = x.dir
theorem res_syncDir (h : At z R o P l F x) (ho : o < 1048576) (hA : AL Good x) : Res z Good (fun y => At z R (o + 1) (· = l) l F y ∧ Rest y) (syncDir x) := by
  have hops := h.ops
  unfold syncDir
  rw [h.live, if_neg (by simp), if_neg (by omega)]
  refine res_op h hA ?_
  exact ⟨⟨h.went.live, h.went.arm, h.went.room, h.went.ops, .calm rfl rfl h.dir, h.dir, h.files⟩, rfl, rfl⟩
theorem cut_push {f : FileS} {g : Nat → Bs} {i : Nat} (h : CutAt (F ++ [f]) g i) (hi : i < F.length) : CutAt F g i := by
  unfold CutAt at h ⊢
  rw [fileAt_push hi] at h
  exact h
theorem fileAt_last (F : List FileS) (f : FileS) : fileAt (F ++ [f]) F.length = f := by simp [fileAt]
theorem cut_none {g : Nat → Bs} {i : Nat} (h : CutAt F g i) (hi : F.length ≤ i) : g i = [] := by
  obtain ⟨j, _, e⟩ := h
  rw [e]
  unfold fileAt
  rw [List.getD_eq_getElem?_getD, List.getElem?_eq_none hi]
  simp
theorem tempW_ne : tempW ≠ [] := by decide
theorem nameW_ne (n : Nat) : nameW n ≠ [] := by unfold nameW; simp
/-- A generation made: a failure leaves what was there, with a beginning of the new bytes under the passing name, or with all of them under the new one. -/
theorem make_res {n : Nat} {b : Bs} (h : At z R o P l F x) (ho : o + 5 ≤ 1048576) (hR : Rising l) (ht : dget l tempW = none) (hl : l.length < 64) (hn : named (nameW n) = true) (hb : b.length ≤ 4194304) (hi : ∀ p ∈ l, p.2 < F.length) (hu : usedIn F l + b.length ≤ R)
    (h1 : ∀ l, P l → ∀ g, (∀ i, i < F.length → CutAt F g i) → (∃ j, g F.length = b.take j) → Good (fmapF g l))
    (h2 : ∀ g, (∀ i, i < F.length → CutAt F g i) → (∃ j, g F.length = b.take j) → Good (fmapF g (dput l tempW F.length)))
    (h3 : ∀ g, (∀ i, i < F.length → CutAt F g i) → g F.length = b → Good (fmapF g (dput l (nameW n) F.length))) :
    Res z Good (fun y => At z R (o + 5) (· = dput l (nameW n) F.length) (dput l (nameW n) F.length) (F ++ [⟨b, b.length⟩]) y ∧ Rest y) (make1W x n b) := by
  have hus : x.used = usedIn F l := by unfold DiskS.used; rw [h.files, h.dir]
  have hfr : ¬ free x < b.length := by unfold free; rw [h.live, hus, h.room]; simp; omega
  have a0 : AL Good x := h.al fun l' hl' g hg => h1 l' hl' g (fun i _ => hg i) ⟨0, by rw [cut_none (hg F.length) (Nat.le_refl _)]; rfl⟩
  have gT : dget (dput l tempW F.length) tempW = some F.length := by rw [dget_dput _ _ _ _ hR, if_pos rfl]
  have mid : ∀ {o' : Nat} {f : FileS} {y : DiskS}, At z R o' (fun l' => P l' ∨ l' = dput l tempW F.length) (dput l tempW F.length) (F ++ [f]) y → (∃ k, f.b = b.take k) → AL Good y := fun {o' f y} hy hf => hy.al fun l' hl' g hg => by
    obtain ⟨k, hk⟩ := hf
    have e1 : ∀ i, i < F.length → CutAt F g i := fun i hi => cut_push (hg i) hi
    have e2 : ∃ j, g F.length = b.take j := by
      obtain ⟨j, _, e⟩ := hg F.length
      rw [fileAt_last, hk, List.take_take] at e
      exact ⟨_, e⟩
    rcases hl' with hl' | rfl
    · exact h1 l' hl' g e1 e2
    · exact h2 g e1 e2
  have hu2 : ∀ f : FileS, usedIn (F ++ [f]) (dput l tempW F.length) = f.b.length + usedIn F l := fun f => by
    unfold dput
    rw [usedIn_dins, ddel_none ht, fileAt_last]
    rw [usedIn_congr (fs' := F) fun p hp => by rw [fileAt_push (hi p hp)]]
  have s1 := res_create h (by omega) a0 (s := tempW) (by decide) ht hl tempW_ne (P' := fun l' => P l' ∨ l' = dput l tempW F.length) (fun _ => .inl) (.inr rfl)
  have s2 := s1.next fun y hy => res_append hy (by omega) (mid hy ⟨0, rfl⟩) gT (p := b) (by rw [fileAt_last]; simpa using hb) (by rw [hu2]; simp; omega)
  rw [modify_last] at s2
  have s3 := s2.next fun y hy => res_sync hy (by omega) (mid hy ⟨b.length, by simp [appF]⟩) gT
  rw [modify_last] at s3
  have s4 := s3.next fun y hy => res_rename hy (by omega) (mid hy ⟨b.length, by simp [appF, syncF]⟩) gT hn (temp_ne n) tempW_ne (nameW_ne n) (P' := fun l' => (P l' ∨ l' = dput l tempW F.length) ∨ l' = dput (ddel (dput l tempW F.length) tempW) (nameW n) F.length) (fun _ => .inl) (.inr rfl)
  rw [ddel_dput ht] at s4
  unfold make1W
  rw [if_neg hfr]
  exact s4.next fun y hy => res_syncDir hy (by omega) (hy.al fun l' hl' g hg => by
    have e1 : ∀ i, i < F.length → CutAt F g i := fun i hi => cut_push (hg i) hi
    have e3 : g F.length = b := by
      have := (hg F.length).whole (by rw [fileAt_last]; rfl)
      rw [fileAt_last] at this
      exact this
    rcases hl' with (hl' | rfl) | rfl
    · exact h1 l' hl' g e1 ⟨b.length, by rw [e3]; simp⟩
    · exact h2 g e1 ⟨b.length, by rw [e3]; simp⟩
    · exact h3 g e1 e3)
/-- Generations taken out, one behind the other. -/
def delAll (l : Dir) (ns : List Nat) : Dir := ns.foldl (fun l n => ddel l (nameW n)) l
theorem removeAll_res (hg : ∀ l, P l → ∀ g, (∀ i, CutAt F g i) → Good (fmapF g l)) : ∀ (ns : List Nat) {l : Dir} {x : DiskS} {o : Nat}, At z R o P l F x → o + ns.length ≤ 1048576 → (∀ l n, n ∈ ns → P l → P (ddel l (nameW n))) → P l → ns.Nodup → (∀ n ∈ ns, n < 9223372036854775808 ∧ ∃ i, dget l (nameW n) = some i) →
    Res z Good (At z R (o + ns.length) P (delAll l ns) F) (removeAll x ns)
  | [], l, x, o, h, _, _, _, _, _ => .inl ⟨rfl, h⟩
  | n :: t, l, x, o, h, ho, hp, hpl, hn, hd => by
    rw [List.length_cons] at ho
    obtain ⟨hn1, hn2⟩ := List.nodup_cons.1 hn
    obtain ⟨hb, i, hi⟩ := hd n (by simp)
    have s1 := res_remove h (by omega) (h.al hg) hi (nameW_ne n) (P' := P) (fun _ => id) (hp l n (by simp) hpl)
    have s2 := s1.next (f := (removeAll · t)) fun y hy => removeAll_res hg t hy (by omega) (fun l m hm => hp l m (by simp [hm])) (hp l n (by simp) hpl) hn2 fun m hm => by
      obtain ⟨hb2, j, hj⟩ := hd m (by simp [hm])
      exact ⟨hb2, j, by rw [dget_ddel_other (fun e => hn1 (by rw [nameW_inj hb hb2 e]; exact hm))]; exact hj⟩
    rw [show o + (n :: t).length = o + 1 + t.length by rw [List.length_cons]; omega]
    exact s2
/-- An Open's end: a log; or the power failed. -/
def Done (z : Prop) (Good : Files → Prop) (I : DiskS → Prop) (L : LogS) (r : OpenR) : Prop :=
  (r.2 = (some L, 0) ∧ I r.1) ∨ (¬ z ∧ r.2 = (none, 51) ∧ r.1.dead = true ∧ AL Good r.1)
theorem closeW_res {older : List Nat} {L : LogS} (h : Res z Good I r) (hI : ∀ x, I x → Res z Good J (removeAll x older)) (hJ : older ≠ [] → ∀ x, J x → Res z Good K (syncDir x)) (hJ0 : older = [] → ∀ x, J x → K x) : Done z Good K L (closeW r older L) := by
  have h1 : Res z Good J (next r (removeAll · older)) := h.next hI
  have h2 : Res z Good K (if older = [] then next r (removeAll · older) else next (next r (removeAll · older)) syncDir) := by
    split
    · next e => exact h1.mono (hJ0 e)
    · next e => exact h1.next (hJ e)
  unfold closeW
  simp only []
  rcases h2 with ⟨e, h3⟩ | ⟨h0, e, h3, h4⟩
  · rw [if_pos e]
    exact .inl ⟨rfl, h3⟩
  · rw [if_neg (by rw [e]; decide)]
    exact .inr ⟨h0, by show (none, _) = _; rw [e], h3, h4⟩
end
end Go.Proofs.YtgpenpnobjecgaaGreatDoor
