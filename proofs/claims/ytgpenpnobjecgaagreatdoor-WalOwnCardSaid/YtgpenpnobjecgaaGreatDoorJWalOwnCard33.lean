/- In the midst of wal.Open. -/
import Derived.Test.YtgpenpnobjecgaaGreatDoorJWalOwnCard31
import Derived.Test.YtgpenpnobjecgaaGreatDoorJWalOwnCard32
/- WOpenA -/
namespace Go.Proofs.YtgpenpnobjecgaaGreatDoor
set_option maxRecDepth 100000
open Go.RowKit Dk

section
variable {w wx wy : World} {dg lb eb g : Nat} {lv : Value} {d d' d0 : DiskS} {own0 own own' : Nat → Option DTag} {L L' : LogS} {lf lf' : Nat → Prop} {q : Nat} {tmps : Array Value}
structure OD (w wx : World) (dg lb eb : Nat) (lv : Value) (d : DiskS) (own0 own : Nat → Option DTag) : Prop where
  dat : ∃ recs, DAt wx dg d recs own
  ok : Ok d
  turned : Turned (foot own0) (foot own) w wx
  lrow : wx.heap[lb]? = some (.cells #[lv] 38 (0, 0))
  erow : wx.heap[eb]? = some (.cells #[.int .i64 0] 30 (0, 0))
  lnew : w.heap.size ≤ lb ∧ ¬ foot own lb
  enew : w.heap.size ≤ eb ∧ ¬ foot own eb
  ne : lb ≠ eb
structure OS (w wx : World) (dg lb eb g : Nat) (d : DiskS) (own0 own : Nat → Option DTag) (L : LogS) (lf : Nat → Prop) : Prop where
  od : OD w wx dg lb eb (ptrV g) d own0 own
  log : LogAt wx g dg L lf
  apart : ∀ b, lf b → w.heap.size ≤ b ∧ b ≠ lb ∧ b ≠ eb ∧ ¬ foot own b
theorem OD.below (h : OD w wx dg lb eb lv d own0 own) (hb : RowKit.Below wx.heap.size wx wy) : OD w wy dg lb eb lv d own0 own := by
  obtain ⟨recs, hd⟩ := h.dat
  exact ⟨⟨recs, hd.below hb⟩, h.ok, h.turned.trans (.below hb), bblk hb h.lrow, bblk hb h.erow, h.lnew, h.enew, h.ne⟩
theorem OS.below (h : OS w wx dg lb eb g d own0 own L lf) (hb : RowKit.Below wx.heap.size wx wy) : OS w wy dg lb eb g d own0 own L lf := ⟨h.od.below hb, h.log.below hb, h.apart⟩
theorem OD.disk (h : OD w wx dg lb eb lv d own0 own) {recs' : List Nat} (hd : DAt wy dg d' recs' own') (hO : Ok d') (ht : Turned (foot own) (foot own') wx wy) : OD w wy dg lb eb lv d' own0 own' :=
  ⟨⟨recs', hd⟩, hO, h.turned.trans ht, ht.kept.blk h.lrow h.lnew.2, ht.kept.blk h.erow h.enew.2, ⟨h.lnew.1, fun hf => h.lnew.2 (ht.foot _ (in_heap h.lrow) hf)⟩, ⟨h.enew.1, fun hf => h.enew.2 (ht.foot _ (in_heap h.erow) hf)⟩, h.ne⟩
theorem OS.disk (h : OS w wx dg lb eb g d own0 own L lf) {recs' : List Nat} (hd : DAt wy dg d' recs' own') (hO : Ok d') (ht : Turned (foot own) (foot own') wx wy) : OS w wy dg lb eb g d' own0 own' L lf :=
  ⟨h.od.disk hd hO ht, h.log.kept ht.kept fun b hb => (h.apart b hb).2.2.2, fun b hb => ⟨(h.apart b hb).1, (h.apart b hb).2.1, (h.apart b hb).2.2.1, fun hf => (h.apart b hb).2.2.2 (ht.foot b (h.log.lt b hb) hf)⟩⟩
/-- The log's blocks turned. -/
theorem OS.half (h : OS w wx dg lb eb g d own0 own L lf) (hk : Kept lf wx wy) : OD w wy dg lb eb (ptrV g) d own0 own := by
  obtain ⟨recs, hd⟩ := h.od.dat
  exact ⟨⟨recs, hd.kept hk fun b hb hf => (h.apart b hf).2.2.2 hb⟩, h.od.ok, ⟨h.od.turned.kept.trans hk fun b hb => .inr (h.apart b hb).1, fun b hb hf => h.od.turned.foot b hb hf⟩, hk.blk h.od.lrow (fun hf => (h.apart _ hf).2.1 rfl), hk.blk h.od.erow (fun hf => (h.apart _ hf).2.2.1 rfl), h.od.lnew, h.od.enew, h.od.ne⟩
theorem OS.relog (h : OS w wx dg lb eb g d own0 own L lf) (hl : LogAt wy g dg L' lf') (ht : Turned lf lf' wx wy) : OS w wy dg lb eb g d own0 own L' lf' := by
  refine ⟨h.half ht.kept, hl, fun b hb => ?_⟩
  obtain ⟨recs, hd⟩ := h.od.dat
  rcases Nat.lt_or_ge b wx.heap.size with hlt | hge
  · exact h.apart b (ht.foot b hlt hb)
  · have h1 := in_heap h.od.lrow
    have h2 := in_heap h.od.erow
    exact ⟨Nat.le_trans h.od.turned.kept.size hge, by omega, by omega, fun hf => by have := hd.lt b hf; omega⟩
theorem OS.pair (h : OS w wx dg lb eb g d own0 own L lf) (hl : LOk L) : PairAt wx g dg d L own lf := ⟨h.od.dat, h.od.ok, h.log, fun b hb => (h.apart b hb).2.2.2, hl⟩
theorem OD.home {w1 : World} (h : OD w wx dg lb eb lv d own0 own) (hH : Home w1 w (foot own0)) : Home w1 wx (foot own) := hH.turned h.turned
/-- Its two results are written anew. -/
theorem OS.touch (h : OS w wx dg lb eb g d own0 own L lf) : OS w ((wx.setCell ⟨lb, 0, none⟩ (ptrV g)).setCell ⟨eb, 0, none⟩ (.int .i64 0)) dg lb eb g d own0 own L lf := by
  have hk1 : Kept (· = lb) wx (wx.setCell ⟨lb, 0, none⟩ (ptrV g)) := (Kept.refl (· = lb) wx).setCell _ _ (.inl rfl)
  have hk2 : Kept (· = eb) (wx.setCell ⟨lb, 0, none⟩ (ptrV g)) ((wx.setCell ⟨lb, 0, none⟩ (ptrV g)).setCell ⟨eb, 0, none⟩ (.int .i64 0)) := (Kept.refl (· = eb) _).setCell _ _ (.inl rfl)
  have hk : Kept (fun b => b = lb ∨ b = eb) wx ((wx.setCell ⟨lb, 0, none⟩ (ptrV g)).setCell ⟨eb, 0, none⟩ (.int .i64 0)) := (hk1.mono fun b _ e => .inl e).then (hk2.mono fun b _ e => .inr e)
  have hl1 : (wx.setCell ⟨lb, 0, none⟩ (ptrV g)).heap[lb]? = some (.cells #[ptrV g] 38 (0, 0)) := by rw [setCell_one h.od.lrow]; rfl
  have he1 := hk1.blk h.od.erow (fun e => h.od.ne e.symm)
  obtain ⟨recs, hd⟩ := h.od.dat
  refine ⟨⟨⟨recs, hd.kept hk fun b hb e => (by rcases e with e | e <;> subst e; exact h.od.lnew.2 hb; exact h.od.enew.2 hb)⟩, h.od.ok, ⟨h.od.turned.kept.trans hk fun b e => .inr (by rcases e with e | e <;> subst e; exact h.od.lnew.1; exact h.od.enew.1), h.od.turned.foot⟩, hk2.blk hl1 h.od.ne, by rw [setCell_one he1]; rfl, h.od.lnew, h.od.enew, h.od.ne⟩, h.log.kept hk fun b hb e => ?_, h.apart⟩
  have := h.apart b hb
  rcases e with e | e
  · exact this.2.1 e
  · exact this.2.2.1 e
/-- Cells of its block written anew. -/
theorem OS.row {sA : Option Addr} {sC : Nat} {rA : Option Addr} {rC : Nat} {rblk : Option Nat} {qs : List (Option Addr × Nat)} (h : OS w wx dg lb eb g d own0 own L lf) (M : LMem wx g dg L lf sA sC rA rC rblk qs) (hk : Kept (· = g) wx wy) (L' : LogS) (hs : L'.state = L.state) (hr : L'.records = L.records) (hrow : wy.heap[g]? = some (.cells (logRow dg L' sA sC rA rC) 114 (0, 0))) : OS w wy dg lb eb g d own0 own L' lf :=
  h.relog ⟨_, _, _, _, _, _, M.rerow hk (fun _ _ hn => hn) L' hs hr hrow⟩ ⟨hk.mono fun _ _ e => e ▸ M.me, fun _ _ => id⟩
/-- What wal.Open answers. -/
def OpenPost (w : World) (dg : Nat) (own0 : Nat → Option DTag) (r : OpenR) (e : Ending) (w' : World) : Prop :=
  Ok r.1 ∧ ∃ recs' own', DAt w' dg r.1 recs' own' ∧ Turned (foot own0) (foot own') w w' ∧ match r.2.1 with
    | none => e = .returned (.tuple #[.pointer none, .int .i64 r.2.2])
    | some L => ∃ g lf, e = .returned (.tuple #[ptrV g, .int .i64 0]) ∧ LogAt w' g dg L lf ∧ (∀ b, lf b → w.heap.size ≤ b ∧ ¬ foot own' b) ∧ LOk L
theorem OD.stop {r : OpenR} (h : OD w wx dg lb eb lv d own0 own) (hq : q ≠ 0) (hr : r = (d, none, q)) (h2 : tmps.getD 2 undef = ptrV lb) (h3 : tmps.getD 3 undef = ptrV eb) :
    bodyPostD Tryz.prog Tryz.f16 (OpenPost w dg own0 r) (.panic [{ v := stopV q, recovered := false }]) { tmps := tmps, defers := doors lb eb } wx := by
  refine door_panic h2 h3 hq h.lrow h.erow h.ne fun w' hk => ?_
  obtain ⟨recs, hd⟩ := h.dat
  rw [hr]
  exact ⟨h.ok, recs, own, hd.kept hk fun b hb e => (by rcases e with e | e <;> subst e; exact h.lnew.2 hb; exact h.enew.2 hb), ⟨h.turned.kept.trans hk fun b e => .inr (by rcases e with e | e <;> subst e; exact h.lnew.1; exact h.enew.1), fun b hb hf => h.turned.foot b hb hf⟩, rfl⟩
theorem OS.done {r : OpenR} (h : OS w wx dg lb eb g d own0 own L lf) (hl : LOk L) (hr : r = (d, some L, 0)) (h2 : tmps.getD 2 undef = ptrV lb) (h3 : tmps.getD 3 undef = ptrV eb) :
    bodyPostD Tryz.prog Tryz.f16 (OpenPost w dg own0 r) .ret { tmps := tmps, defers := doors lb eb } wx := by
  refine door_ret h2 h3 h.od.lrow h.od.erow ?_
  obtain ⟨recs, hd⟩ := h.od.dat
  rw [hr]
  exact ⟨h.od.ok, recs, own, hd, h.od.turned, g, lf, rfl, h.log, fun b hb => ⟨(h.apart b hb).1, (h.apart b hb).2.2.2⟩, hl⟩
end

theorem IntsAt.kept {F : Nat → Prop} {w w' : World} {A : Option Addr} {n C : Nat} {l : List Int} (h : IntsAt w A n C l) (hk : Kept F w w') (hF : ∀ ad, A = some ad → ¬ F ad.block) : IntsAt w' A n C l :=
  ⟨h.len, h.cap, h.nil, fun ad had => by obtain ⟨b, o, e, hlt⟩ := h.plain ad had; exact ⟨b, o, e, Nat.lt_of_lt_of_le hlt hk.size⟩, fun i x hx => by
    obtain ⟨b, o, hA, hc, h1⟩ := h.each i x hx
    exact ⟨b, o, hA, hk.cell hc (show ¬ F b from hF ⟨b, o, none⟩ hA), h1⟩⟩
/-- .. and the generations' row. -/
structure OA (w wx : World) (dg lb eb g : Nat) (d : DiskS) (own0 own : Nat → Option DTag) (L : LogS) (lf : Nat → Prop) (bb bo n C : Nat) (all : List Nat) : Prop where
  os : OS w wx dg lb eb g d own0 own L lf
  ints : IntsAt wx (some ⟨bb, bo, none⟩) n C (all.map Int.ofNat)
  bf : ¬ foot own bb
  bl : ¬ lf bb
  be : bb ≠ lb ∧ bb ≠ eb
section
variable {w wx wy : World} {dg lb eb g : Nat} {d d' : DiskS} {own0 own own' : Nat → Option DTag} {L L' : LogS} {lf lf' : Nat → Prop} {bb bo n C : Nat} {all : List Nat}
theorem OA.blt (h : OA w wx dg lb eb g d own0 own L lf bb bo n C all) : bb < wx.heap.size := by
  obtain ⟨b, o, e, hlt⟩ := h.ints.plain _ rfl
  simp only [Addr.mk.injEq, and_true] at e
  rw [e.1]; exact hlt
theorem OA.below (h : OA w wx dg lb eb g d own0 own L lf bb bo n C all) (hb : RowKit.Below wx.heap.size wx wy) : OA w wy dg lb eb g d own0 own L lf bb bo n C all := ⟨h.os.below hb, h.ints.below hb, h.bf, h.bl, h.be⟩
theorem OA.disk (h : OA w wx dg lb eb g d own0 own L lf bb bo n C all) {recs' : List Nat} (hd : DAt wy dg d' recs' own') (hO : Ok d') (ht : Turned (foot own) (foot own') wx wy) : OA w wy dg lb eb g d' own0 own' L lf bb bo n C all :=
  ⟨h.os.disk hd hO ht, h.ints.kept ht.kept (fun ad had hf => by rw [← Option.some.inj had] at hf; exact h.bf hf), fun hf => h.bf (ht.foot bb h.blt hf), h.bl, h.be⟩
theorem OA.relog (h : OA w wx dg lb eb g d own0 own L lf bb bo n C all) (hl : LogAt wy g dg L' lf') (ht : Turned lf lf' wx wy) : OA w wy dg lb eb g d own0 own L' lf' bb bo n C all :=
  ⟨h.os.relog hl ht, h.ints.kept ht.kept (fun ad had hf => by rw [← Option.some.inj had] at hf; exact h.bl hf), h.bf, fun hf => h.bl (ht.foot bb h.blt hf), h.be⟩
theorem OA.row {sA : Option Addr} {sC : Nat} {rA : Option Addr} {rC : Nat} {rblk : Option Nat} {qs : List (Option Addr × Nat)} (h : OA w wx dg lb eb g d own0 own L lf bb bo n C all) (M : LMem wx g dg L lf sA sC rA rC rblk qs) (hk : Kept (· = g) wx wy) (L' : LogS) (hs : L'.state = L.state) (hr : L'.records = L.records) (hrow : wy.heap[g]? = some (.cells (logRow dg L' sA sC rA rC) 114 (0, 0))) : OA w wy dg lb eb g d own0 own L' lf bb bo n C all :=
  h.relog ⟨_, _, _, _, _, _, M.rerow hk (fun _ _ hn => hn) L' hs hr hrow⟩ ⟨hk.mono fun _ _ e => e ▸ M.me, fun _ _ => id⟩
end
/-- Ahead of a call, and behind it. -/
def callI (P0 P1 : World → Prop) : List Bool → World → Prop
  | [false], w => P0 w
  | [true], w => P1 w
  | _, _ => False
theorem callI_one {P0 P1 : World → Prop} {l : List Bool} {w : World} (h : callI P0 P1 l w) : P0 w ∨ P1 w := by
  unfold callI at h
  split at h <;> simp_all
theorem readW_none {d : DiskS} {n : Nat} {q : Nat} (h : readW d n = (none, q)) : q ≠ 0 := by
  unfold readW at h
  split at h
  · next h1 => injection h with _ h; rw [← h]; exact h1
  · split at h
    · injection h with _ h; rw [← h]; decide
    · cases h
theorem closeW_err {r : DiskS × Nat} (h : r.2 ≠ 0) (older : List Nat) (L : LogS) : closeW r older L = (r.1, none, r.2) := by
  unfold closeW
  simp only [next, if_neg h]
  by_cases h2 : older = []
  · simp [h2, h]
  · simp [h2, h]
theorem next_zero {r : DiskS × Nat} {f : DiskS → DiskS × Nat} (h : (next r f).2 = 0) : r.2 = 0 ∧ (f r.1).2 = 0 := by
  unfold next at h
  split at h
  · next h1 => exact ⟨h1, h⟩
  · next h1 => exact absurd h h1
theorem make1W_len {d : DiskS} {n : Nat} {b : Bs} (h : (make1W d n b).2 = 0) : b.length ≤ 4194304 := by
  unfold make1W at h
  split at h
  · cases h
  · have h1 := (next_zero (next_zero (next_zero (next_zero h).1).1).1).2
    unfold Dk.append at h1
    split at h1
    · cases h1
    · split at h1
      · cases h1
      · split at h1
        · cases h1
        · next h2 => omega
theorem recsW_count : ∀ (l : List Bs) (i : Nat), l.length ≤ (recsW i l).length
  | [], _ => Nat.le_refl _
  | r :: t, i => by
    have := recsW_count t (i + 1)
    show (r :: t).length ≤ (sealW 2 i r ++ recsW (i + 1) t).length
    rw [List.length_append, sealW_len, List.length_cons]
    omega
/-- The end behind the removals. -/
def finW (r : DiskS × Nat) (older : List Nat) (L : LogS) : OpenR :=
  if (if older = [] then r else next r syncDir).2 = 0 then ((if older = [] then r else next r syncDir).1, some L, 0) else ((if older = [] then r else next r syncDir).1, none, (if older = [] then r else next r syncDir).2)
theorem closeW_fin (d : DiskS) (older : List Nat) (L : LogS) : closeW (d, 0) older L = finW (removeAll d older) older L := rfl
theorem finW_err {r : DiskS × Nat} (h : r.2 ≠ 0) (older : List Nat) (L : LogS) : finW r older L = (r.1, none, r.2) := by
  unfold finW
  simp only [next, if_neg h]
  by_cases h2 : older = []
  · simp [h2, h]
  · simp [h2, h]
theorem removeAll_ok {d d' : DiskS} {n : Nat} {t : List Nat} (h : Dk.remove d (nameW n) = (d', 0)) : removeAll d (n :: t) = removeAll d' t := by
  show next (Dk.remove d (nameW n)) _ = _
  rw [h]
  rfl
theorem removeAll_err {d d' : DiskS} {n q : Nat} {t : List Nat} (h : Dk.remove d (nameW n) = (d', q)) (hq : q ≠ 0) : removeAll d (n :: t) = (d', q) := by
  show next (Dk.remove d (nameW n)) _ = _
  rw [h]
  unfold next
  rw [if_neg hq]
theorem gens_bound {d : DiskS} {m : Nat} (h : m ∈ gensW (Dk.list d)) : 1 ≤ m ∧ m ≤ 1099511627776 := by
  unfold gensW at h
  obtain ⟨s, _, hs⟩ := List.mem_filterMap.1 (List.mem_mergeSort.1 h)
  unfold genOf at hs
  split at hs
  · split at hs
    · split at hs
      · next h => injection hs with hs; omega
      · cases hs
    · cases hs
  · cases hs
theorem closeW_nil (r : DiskS × Nat) (L : LogS) : closeW r [] L = if r.2 = 0 then (r.1, some L, 0) else (r.1, none, r.2) := by
  unfold closeW next removeAll
  simp only [if_true]
  by_cases h : r.2 = 0
  · simp [h]
  · simp [h]

/-! ### what is read is bounded -/
theorem loadF_len {f : FrameS} {k : UInt8} {n most : Nat} {r : Bs} (h : loadF f k n most = some r) : r.length ≤ most := by
  unfold loadF at h
  split at h
  · next h1 =>
    injection h with h
    subst h
    rw [List.length_drop]
    exact h1.2.2.2
  · cases h
theorem loadsF_len : ∀ (l : List FrameS) (i : Nat) (rs : List Bs), loadsF i l = some rs → rs.length = l.length ∧ ∀ r ∈ rs, r.length ≤ 65536
  | [], _, rs, h => by
    unfold loadsF at h
    injection h with h
    subst h
    exact ⟨rfl, fun r hr => by cases hr⟩
  | f :: t, i, rs, h => by
    unfold loadsF at h
    split at h
    · cases h
    · next r hr =>
      cases ht : loadsF (i + 1) t with
      | none => rw [ht] at h; cases h
      | some rs2 =>
        rw [ht] at h
        injection h with h
        subst h
        obtain ⟨h1, h2⟩ := loadsF_len t (i + 1) rs2 ht
        refine ⟨by simp [h1], fun x hx => ?_⟩
        rcases List.mem_cons.1 hx with rfl | hx
        · exact loadF_len hr
        · exact h2 x hx
theorem scanFrom_count : ∀ (k : Nat) (x : Bs) (n : Nat) (acc : List FrameS), acc.length ≤ n → (scanFrom k x n acc).1.length ≤ (scanFrom k x n acc).2.1
  | 0, x, n, acc, h => h
  | k + 1, x, n, acc, h => by
    unfold scanFrom
    split
    · split
      · next h3 =>
        have hl := openF_len (x.drop n) h3
        exact scanFrom_count k x _ _ (by simp; omega)
      · exact h
    · exact h
theorem readW_bound {d : DiskS} (hO : Ok d) {n : Nat} {s : ReadS} {q : Nat} (h : readW d n = (some s, q)) : s.state.length ≤ 1048576 ∧ (∀ r ∈ s.records, r.length ≤ 65536) ∧ s.records.length ≤ s.whole ∧ s.whole ≤ 4194304 ∧ s.cut ≤ 4194304 := by
  have hlen := read_len hO (nameW n)
  unfold readW at h
  split at h
  · cases h
  · split at h
    · cases h
    · next r hr =>
      simp only [Prod.mk.injEq, Option.some.injEq] at h
      obtain ⟨rfl, _⟩ := h
      generalize (Dk.read d (nameW n)).1 = b at hr hlen
      have hm := scanF_mem b
      have hc : (scanF b).1.length ≤ (scanF b).2.1 := scanFrom_count _ b 0 [] (Nat.le_refl _)
      unfold readB at hr
      split at hr
      · cases hr
      · next f t hft =>
        split at hr
        · cases hr
        · split at hr
          · cases hr
          · next st hst =>
            split at hr
            · cases hr
            · next rs hrs =>
              injection hr with hr
              subst hr
              obtain ⟨h1, h2⟩ := loadsF_len _ _ _ hrs
              rw [hft] at hc
              simp at hc
              exact ⟨loadF_len hst, h2, by show rs.length ≤ (scanF b).2.1; omega, by show (scanF b).2.1 ≤ 4194304; omega, by show b.length - (scanF b).2.1 ≤ 4194304; omega⟩
end Go.Proofs.YtgpenpnobjecgaaGreatDoor
