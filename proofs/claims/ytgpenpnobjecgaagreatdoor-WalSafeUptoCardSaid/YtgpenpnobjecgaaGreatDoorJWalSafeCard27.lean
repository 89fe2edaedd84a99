/- In the midst of wal.Open. -/
import Derived.Test.YtgpenpnobjecgaaGreatDoorJWalSafeCard14
import Derived.Test.YtgpenpnobjecgaaGreatDoorJWalSafeCard26
/- RegS -/
namespace Go.Proofs.YtgpenpnobjecgaaGreatDoor
set_option maxRecDepth 100000
open Go.RowKit

section
variable {P : Program} {ops : Array Oper} {R : World → World → Prop} {Q : Exit → Act → World → Prop}
/-- The operation is a call that does not come back. -/
def stopOp (P : Program) (ops : Array Oper) (S : List PanicEntry → World → Prop) (o : Oper) (a : Act) (w : World) : Prop :=
  Region.wanted o (yielded ops a.tmps) = true ∧ ∃ f args, (execOp a.eval o).run P w = .ok (.enter f args) w ∧ Calls P f args w fun e w' => ∃ ch, e = .panicked ch ∧ S ch w'
def stopsAt (P : Program) (S : List PanicEntry → World → Prop) (o : Oper) (E : Operand → Value) (y : Nat → Option Bool) (w : World) : Prop :=
  Region.wanted o y = true ∧ ∃ f args, (execOp E o).run P w = .ok (.enter f args) w ∧ Calls P f args w fun e w' => ∃ ch, e = .panicked ch ∧ S ch w'
def RegHeadS (P : Program) (ops : Array Oper) (R : World → World → Prop) (S : List PanicEntry → World → Prop) (w0 : World) (a0 : Act) (n : Nat) (Ds : List (Yld R)) (vs : Nat → Value) : List Oper → List (Yld R) → Nat → Prop
  | _, [], _ => True
  | [], _ :: _, _ => False
  | o :: l, D :: r, k => (∀ w, R w0 w → allOf (fun i w => ((Ds[i]?).getD (Yld.is undef)).p (vs i) w) w (depsOf o) → relAt P R D o (lookD ops Ds vs a0 n) (yieldD Ds vs) w ∨ stopsAt P S o (lookD ops Ds vs a0 n) (yieldD Ds vs) w) ∧ RegHeadS P ops R S w0 a0 n Ds vs l r (k + 1)
theorem reg_headS {S : List PanicEntry → World → Prop} {w0 : World} {a0 : Act} {n : Nat} {Ds : List (Yld R)} {vs : Nat → Value} : ∀ {l : List Oper} {r : List (Yld R)} {k : Nat}, RegHeadS P ops R S w0 a0 n Ds vs l r k → ∀ (i : Nat) (D : Yld R), r[i]? = some D → ∃ o, l[i]? = some o ∧ ∀ w, R w0 w → allOf (fun i w => ((Ds[i]?).getD (Yld.is undef)).p (vs i) w) w (depsOf o) → relAt P R D o (lookD ops Ds vs a0 n) (yieldD Ds vs) w ∨ stopsAt P S o (lookD ops Ds vs a0 n) (yieldD Ds vs) w
  | _, [], _, _, i, D, hD => by simp at hD
  | [], _ :: _, _, h, _, _, _ => False.elim h
  | o :: l, D0 :: r, k, h, 0, D, hD => by
    obtain rfl : D0 = D := by simpa using hD
    exact ⟨o, rfl, h.1⟩
  | o :: l, D0 :: r, k, h, i + 1, D, hD => by
    obtain ⟨q, hq, hh⟩ := reg_headS h.2 i D (by simpa using hD)
    exact ⟨q, by simpa using hq, hh⟩
theorem RegHeadS.cons {S : List PanicEntry → World → Prop} {w0 : World} {a0 : Act} {n : Nat} {Ds : List (Yld R)} {vs : Nat → Value} {o : Oper} {l : List Oper} {D : Yld R} {r : List (Yld R)} {k : Nat} (h1 : ∀ w, R w0 w → allOf (fun i w => ((Ds[i]?).getD (Yld.is undef)).p (vs i) w) w (depsOf o) → relAt P R D o (lookD ops Ds vs a0 n) (yieldD Ds vs) w ∨ stopsAt P S o (lookD ops Ds vs a0 n) (yieldD Ds vs) w)
    (h2 : RegHeadS P ops R S w0 a0 n Ds vs l r (k + 1)) : RegHeadS P ops R S w0 a0 n Ds vs (o :: l) (D :: r) k := ⟨h1, h2⟩
theorem rel_anyS {n : Nat} {S : List PanicEntry → World → Prop} {w0 : World} {a0 : Act} {D : Nat → Value → World → Prop} (hB : relB ops n = true) (hst : ∀ k v w w', D k v w → R w w' → D k v w') (htr : ∀ w w' w'', R w w' → R w' w'' → R w w'')
    (hop : ∀ k o vs w, k < n → ops[k]? = some o → R w0 w → (∀ j ∈ depsOf o, D j (vs j) w) → relOp P ops R (D k) o (acts ops vs a0 k) w ∨ stopOp P ops S o (acts ops vs a0 k) w)
    (hQS : ∀ ch w' a', S ch w' → a'.defers = a0.defers → (∀ t, (∀ k o, k < n → ops[k]? = some o → o.dst ≠ some t) → a'.tmps[t]? = a0.tmps[t]?) → Q (.panic ch) a' w')
    (htail : ∀ vs w, R w0 w → (∀ k, k < n → D k (vs k) w) → wpList P ops Q (ops.toList.drop n) (acts ops vs a0 n) w) :
    ∀ (f : Nat) (un : List Nat) (listed : Array Bool) (vs : Nat → Value) (a : Act) (w : World), un.length = f → un.Nodup → (∀ i, i ∈ un ↔ i < n ∧ listed.getD i true = false) → HeadInv .any ops n listed →
      Rep ops n a0 vs (fun i => listed.getD i false) a → (∀ i, i < n → listed.getD i false = true → D i (vs i) w) → R w0 w → wpAny P .any ops Q (f + (ops.size - n)) listed a w := by
  simp only [relB, Bool.and_eq_true, decide_eq_true_eq] at hB
  obtain ⟨⟨⟨⟨⟨⟨hsel, hn⟩, hs⟩, hc⟩, hpl⟩, hself⟩, hseq⟩ := hB
  intro f
  induction f with
  | zero =>
    intro un listed vs a w hf _ hun inv hrep hD hR
    obtain rfl : un = [] := List.eq_nil_of_length_eq_zero hf
    have hall : ∀ i, i < n → listed.getD i false = true := fun i hi => by
      cases h : listed.getD i false with
      | true => rfl
      | false => exact absurd ((hun i).2 ⟨hi, getD_in (by rw [inv.size]; omega) h⟩) (by simp)
    have hl := upto_array ops.size n listed inv.size fun i hi => ⟨fun h => (Nat.lt_or_ge i n).resolve_right fun h' => by
      rw [getD_both (inv.tail i h' hi)] at h
      exact absurd h (by simp), fun h => hall i h⟩
    have ha : a = acts ops vs a0 n := rep_unique hrep (rep_acts a0 vs hpl n (Nat.le_refl _)) fun i hi => by simp [hi, hall i hi]
    have hdl : (ops.toList.drop n).length = ops.size - n := by simp
    have := wpAny_of_seq (P := P) (md := .any) (ops := ops) (Q' := Q) (ops.toList.drop n) n listed a w (fun j => by simp [List.getElem?_drop]) (by rw [hdl, hl]; exact hseq) (by rw [ha]; exact htail vs w hR fun k hk => hD k hk (hall k hk))
    rw [hdl] at this
    rw [Nat.zero_add]
    exact this
  | succ f ih =>
    intro un listed vs a w hf hnd hun inv hrep hD hR
    -- the least one that has not come up may come up
    have hex : ∃ i, i < n ∧ listed.getD i true = false := by
      cases un with
      | nil => simp at hf
      | cons i un => exact ⟨i, (hun i).1 (by simp)⟩
    have hready : ∃ i, i ∈ Region.ready .any ops listed := by
      obtain ⟨i, hi⟩ := hex
      induction i using Nat.strongRecOn with
      | _ i ihi =>
        obtain ⟨o, ho, _, hlt, _⟩ := plain_spec hpl hi.1
        by_cases hall : ∀ e ∈ o.after, Region.binds .any e = true → listed.getD e.on false = true
        · exact ⟨i, mem_ready.2 ⟨hi.2, o, ho, hall⟩⟩
        · simp only [Classical.not_forall] at hall
          obtain ⟨e, he, hb, hne⟩ := hall
          have hlt' : e.on < i := hlt e.on (by simp only [depsOf, List.mem_map, List.mem_filter]; exact ⟨e, ⟨by simpa using he, hb⟩, rfl⟩)
          exact ihi e.on hlt' ⟨by omega, getD_in (by rw [inv.size]; omega) (by simpa using hne)⟩
    obtain ⟨i0, hi0⟩ := hex
    rw [show f + 1 + (ops.size - n) = (f + (ops.size - n)) + 1 by omega]
    refine ⟨fun h0 => (by obtain ⟨i, hi⟩ := hready; rw [h0] at hi; exact absurd hi (by simp)), fun j hj => ?_⟩
    have hjn : j < n := by
      rcases Nat.lt_or_ge j n with h | h
      · exact h
      · have hjs : j < ops.size := by
          obtain ⟨_, o, ho, _⟩ := mem_ready.1 hj
          exact (Array.getElem?_eq_some_iff.1 ho).1
        exact absurd hj (tail_waits hs hc (show n < ops.size by omega) inv _ i0 rfl hi0.1 hi0.2 j h)
    obtain ⟨hjun, o, ho, hall⟩ := mem_ready.1 hj
    obtain ⟨o', ho', hg, hlt, _⟩ := plain_spec hpl hjn
    obtain rfl : o = o' := Option.some.inj (ho.symm.trans ho')
    have hdeps : ∀ i ∈ depsOf o, listed.getD i false = true := fun i hi => by
      simp only [depsOf, List.mem_map, List.mem_filter] at hi
      obtain ⟨e, ⟨he, hb⟩, rfl⟩ := hi
      exact hall e (by simpa using he) hb
    have he := eval_rep (vs := vs) hpl hself (Region.noSelect_spec hsel j o · · ho) hrep hjn ho hdeps
    have hsz : a.tmps.size = (acts ops vs a0 j).tmps.size := hrep.size.trans (rep_acts a0 vs hpl j (by omega)).size.symm
    rcases hop j o vs w hjn ho hR (fun i hi => hD i (by have := hlt i hi; omega) (hdeps i hi)) with hh | hh
    · refine wpOp_rel ho (wanted_rep hpl hrep hjn ho hdeps) he hsz hh fun v w' hr hDv => ?_
      have hjs : j < listed.size := by rw [inv.size]; omega
      have hset : ∀ i, (listed.setIfInBounds j true).getD i false = true ↔ i = j ∨ listed.getD i false = true := fun i => by
        by_cases hij : j = i
        · subst hij; simp [hjs]
        · rw [getD_set_ne false hij]
          exact ⟨.inr, fun h => h.resolve_left fun e => hij e.symm⟩
      have hset2 : ∀ i, (listed.setIfInBounds j true).getD i true = false ↔ i ≠ j ∧ listed.getD i true = false := fun i => by
        by_cases hij : j = i
        · subst hij; simp [hjs]
        · rw [getD_set_ne true hij]
          exact ⟨fun h => ⟨fun e => hij e.symm, h⟩, fun h => h.2⟩
      have hju : j ∈ un := (hun j).2 ⟨hjn, hjun⟩
      refine ih (un.erase j) _ (fun i => if i = j then v else vs i) _ w' (by rw [List.length_erase_of_mem hju, hf]; rfl) (hnd.erase j) (fun i => ?_) (inv.set hj hjn) (rep_put hpl hrep hjn ho v _ hset) (fun i hi hS => ?_) (htr _ _ _ hR hr)
      · rw [hnd.mem_erase_iff, hun, hset2]
        exact ⟨fun h => ⟨h.2.1, h.1, h.2.2⟩, fun h => ⟨h.2.1, h.1, h.2.2⟩⟩
      · by_cases hij : i = j
        · subst hij; rw [if_pos rfl]; exact hDv
        · rw [if_neg hij]
          exact hst _ _ _ _ (hD i hi (((hset i).1 hS).resolve_left hij)) hr
    · obtain ⟨hw, f2, args, hrun, hcall⟩ := hh
      unfold wpOp
      simp only [ho]
      rw [wanted_rep hpl hrep hjn ho hdeps, if_pos hw]
      left
      unfold Oper.wp
      rw [he, hrun]
      refine Calls.mono hcall ?_
      rintro e w'' ⟨ch, rfl, hS⟩
      exact hQS ch w'' a hS hrep.defers fun t ht => hrep.other t fun k q hk hq _ => ht k q hk hq
theorem wp_region_regS {id : Nat} {S : List PanicEntry → World → Prop} {a : Act} {w : World} {l : List Oper} (n s : Nat) (R : World → World → Prop) (hm : P.follows .mixedOrders = true) (hB : relB l.toArray n = true) (hS : sizeB l.toArray n s = true) (hs : a.tmps.size = s) (hG : guardB l.toArray n = true) (hrf : ∀ w, R w w) (htr : ∀ w w' w'', R w w' → R w' w'' → R w w'')
    (Ds : List (Yld R)) (hD : Ds.length = n) (h : ∀ vs, RegHeadS P l.toArray R S w.drew a n Ds vs l Ds 0)
    (hQS : ∀ ch w' a', S ch w' → a'.defers = a.defers → (∀ t, writer l.toArray t n = none → a'.tmps[t]? = a.tmps[t]?) → Q (.panic ch) a' w')
    (ht : ∀ vs w', R w.drew w' → allOf (fun i w => ((Ds[i]?).getD (Yld.is undef)).p (vs i) w) w' (List.range n) → wpList P l.toArray Q (l.drop n) (acts l.toArray (valAt Ds vs) a n) w') : (Code.region id l.toArray true).wp P Q a w := by
  have hB' := hB
  simp only [relB, Bool.and_eq_true, decide_eq_true_eq] at hB'
  obtain ⟨⟨⟨⟨⟨⟨hsel, hn⟩, _⟩, _⟩, hpl⟩, hself⟩, _⟩ := hB'
  subst hs
  refine wp_region_any hm ?_
  have hDs : ∀ k, k < n → ∃ D, Ds[k]? = some D := fun k hk => ⟨Ds[k]'(by omega), List.getElem?_eq_getElem (by omega)⟩
  have key := rel_anyS (S := S) (P := P) (Q := Q) (ops := l.toArray) (D := fun k => ((Ds[k]?).getD (Yld.is undef)).p) (a0 := a) (w0 := w.drew) hB (fun k v w w' h1 h2 => ((Ds[k]?).getD (Yld.is undef)).st v w w' h1 h2) htr
    (fun k o vs w' hk ho hR hdeps => by
      obtain ⟨D, hDk⟩ := hDs k hk
      obtain ⟨o', ho', hh⟩ := reg_headS (h vs) k D hDk
      obtain rfl : o = o' := Option.some.inj (ho.symm.trans (by simpa using ho'))
      have hh := hh w' hR (allOf_iff.2 hdeps)
      obtain ⟨o2, ho2, hgu, hlt, hoth⟩ := plain_spec hpl hk
      obtain rfl : o = o2 := Option.some.inj (ho.symm.trans ho2)
      have hrep := rep_acts a vs hpl k (by omega)
      have hval : ∀ j ∈ depsOf o, valAt Ds vs j = vs j := fun j hj => by
        have hjn : j < n := by have := hlt j hj; omega
        obtain ⟨Dj, hDj⟩ := hDs j hjn
        have := hdeps j hj
        simp only [hDj, Option.getD_some] at this
        simp only [valAt, hDj]
        exact Dj.value_eq _ _ this
      have hslot : ∀ j q d, j ∈ depsOf o → l.toArray[j]? = some q → q.dst = some d → (acts l.toArray vs a k).tmps[d]? = some (vs j) := fun j q d hj hq hd => by
        have hjk := hlt j hj
        have h1 := hrep.val j q d (by omega) hq hd (by simpa using hjk)
        have h2 := size_spec hS (show j < n by omega) hq hd
        rw [h1, Array.getElem?_setIfInBounds_self, if_pos h2]
      have he : execOp (acts l.toArray vs a k).eval o = execOp (lookD l.toArray Ds vs a n) o := execOp_congr o (Region.noSelect_spec hsel k o · · ho) fun x hx => by
        cases x with
        | tmp t =>
          have ht : t ∈ tmpsOf o := List.mem_filterMap.2 ⟨.tmp t, by simpa using hx, rfl⟩
          show (acts l.toArray vs a k).tmps.getD t undef = match writer l.toArray t n with
            | some j => valAt Ds vs j
            | none => a.tmps.getD t undef
          cases hwr : writer l.toArray t n with
          | some j =>
            obtain ⟨hjn, q, hq, hqt⟩ := writer_some hwr
            have hjk : j ≠ k := fun e => by
              subst e
              obtain rfl : o = q := Option.some.inj (ho.symm.trans hq)
              exact self_spec hself hk ho t ht hqt
            obtain ⟨q', hq', _, hdep⟩ := hoth j hjn hjk
            obtain rfl : q = q' := Option.some.inj (hq.symm.trans hq')
            have hjd := hdep t ht hqt
            have h1 := hslot j q t hjd hq hqt
            show _ = valAt Ds vs j
            rw [hval j hjd]
            simp [h1]
          | none =>
            have h1 := hrep.other t fun j q hj hq _ => writer_none hwr j q (by omega) hq
            show _ = a.tmps.getD t undef
            simp [h1]
        | _ => rfl
      have hwn : Region.wanted o (yielded l.toArray (acts l.toArray vs a k).tmps) = Region.wanted o (yieldD Ds vs) := by
        unfold Region.wanted
        cases hgd : o.guard with
        | none => rfl
        | some gb =>
          obtain ⟨g, b⟩ := gb
          have hgm := hgu g b hgd
          obtain ⟨q, d, hq, hd⟩ := guard_spec hG hk ho hgd
          have h1 := hslot g q d hgm hq hd
          have : yielded l.toArray (acts l.toArray vs a k).tmps g = yieldD Ds vs g := by
            simp only [yielded, hq, yieldD, hval g hgm, Option.bind_some, hd, h1]
            cases vs g <;> rfl
          simp only [this]
      simp only [hDk, Option.getD_some]
      rcases hh with hh | hh
      · exact .inl (relOp_of_at (ops := l.toArray) hrf he hwn hh)
      · obtain ⟨h1, f2, args, h2, h3⟩ := hh
        exact .inr ⟨by rw [hwn]; exact h1, f2, args, by rw [he]; exact h2, h3⟩)
    (fun ch w' a' hSc hdf hfr => hQS ch w' a' hSc hdf fun t ht => hfr t fun k q hk hq => writer_none ht k q hk hq)
    (fun vs w' hR hDv => by
      have h1 := ht vs w' hR (allOf_iff.2 fun i hi => hDv i (List.mem_range.1 hi))
      have h2 : acts l.toArray (valAt Ds vs) a n = acts l.toArray vs a n := by
        have : ∀ k, k ≤ n → acts l.toArray (valAt Ds vs) a k = acts l.toArray vs a k := by
          intro k
          induction k with
          | zero => intro _; rfl
          | succ k ih =>
            intro hk
            obtain ⟨D, hDk⟩ := hDs k (by omega)
            have h3 := hDv k (by omega)
            simp only [hDk, Option.getD_some] at h3
            have h4 : valAt Ds vs k = vs k := by
              simp only [valAt, hDk]
              exact D.value_eq _ _ h3
            simp only [acts, ih (by omega), h4]
        exact this n (Nat.le_refl _)
      rw [h2] at h1
      simpa using h1)
    n (List.range n) (Array.replicate l.toArray.size false) (fun _ => undef) a w.drew (by simp) List.nodup_range
    (fun i => by
      rw [List.mem_range]
      exact ⟨fun hi => ⟨hi, getD_in (by simp at hn ⊢; omega) (getD_replicate_false _ _)⟩, fun hi => hi.1⟩)
    ⟨by simp, fun j oj _ hl => (by rw [getD_replicate_false] at hl; cases hl), fun t _ ht => getD_in (by simpa using ht) (getD_replicate_false _ _)⟩
    ⟨rfl, rfl, fun _ _ => rfl, fun k o d _ _ _ hS => (by rw [getD_replicate_false] at hS; cases hS)⟩ (fun i _ hS => (by rw [getD_replicate_false] at hS; cases hS)) (hrf _)
  rw [show n + (l.toArray.size - n) = l.toArray.size by simp at hn ⊢; omega] at key
  exact key
end
end Go.Proofs.YtgpenpnobjecgaaGreatDoor

/- WOpenA -/
namespace Go.Proofs.YtgpenpnobjecgaaGreatDoor
set_option maxRecDepth 100000
open Go.RowKit Dk

section
variable {w wx wy : World} {dg lb eb g : Nat} {lv : Value} {d d' d0 : DiskS} {own0 own own' : Nat → Option DTag} {L L' : LogS} {lf lf' : Nat → Prop} {q : Nat} {tmps : Array Value}
structure OD (w wx : World) (dg lb eb : Nat) (lv : Value) (d : DiskS) (own0 own : Nat → Option DTag) : Prop where
  dat : ∃ recs, DAt wx dg d recs own
  ok : Ok d
  turned : Turned (foot own0) (foot own) w wx
  lrow : wx.heap[lb]? = some (.cells #[lv] 38 (0, 0))
  erow : wx.heap[eb]? = some (.cells #[.int .i64 0] 30 (0, 0))
  lnew : w.heap.size ≤ lb ∧ ¬ foot own lb
  enew : w.heap.size ≤ eb ∧ ¬ foot own eb
  ne : lb ≠ eb
structure OS (w wx : World) (dg lb eb g : Nat) (d : DiskS) (own0 own : Nat → Option DTag) (L : LogS) (lf : Nat → Prop) : Prop where
  od : OD w wx dg lb eb (ptrV g) d own0 own
  log : LogAt wx g dg L lf
  apart : ∀ b, lf b → w.heap.size ≤ b ∧ b ≠ lb ∧ b ≠ eb ∧ ¬ foot own b
theorem OD.below (h : OD w wx dg lb eb lv d own0 own) (hb : RowKit.Below wx.heap.size wx wy) : OD w wy dg lb eb lv d own0 own := by
  obtain ⟨recs, hd⟩ := h.dat
  exact ⟨⟨recs, hd.below hb⟩, h.ok, h.turned.trans (.below hb), bblk hb h.lrow, bblk hb h.erow, h.lnew, h.enew, h.ne⟩
theorem OS.below (h : OS w wx dg lb eb g d own0 own L lf) (hb : RowKit.Below wx.heap.size wx wy) : OS w wy dg lb eb g d own0 own L lf := ⟨h.od.below hb, h.log.below hb, h.apart⟩
theorem OD.disk (h : OD w wx dg lb eb lv d own0 own) {recs' : List Nat} (hd : DAt wy dg d' recs' own') (hO : Ok d') (ht : Turned (foot own) (foot own') wx wy) : OD w wy dg lb eb lv d' own0 own' :=
  ⟨⟨recs', hd⟩, hO, h.turned.trans ht, ht.kept.blk h.lrow h.lnew.2, ht.kept.blk h.erow h.enew.2, ⟨h.lnew.1, fun hf => h.lnew.2 (ht.foot _ (in_heap h.lrow) hf)⟩, ⟨h.enew.1, fun hf => h.enew.2 (ht.foot _ (in_heap h.erow) hf)⟩, h.ne⟩
theorem OS.disk (h : OS w wx dg lb eb g d own0 own L lf) {recs' : List Nat} (hd : DAt wy dg d' recs' own') (hO : Ok d') (ht : Turned (foot own) (foot own') wx wy) : OS w wy dg lb eb g d' own0 own' L lf :=
  ⟨h.od.disk hd hO ht, h.log.kept ht.kept fun b hb => (h.apart b hb).2.2.2, fun b hb => ⟨(h.apart b hb).1, (h.apart b hb).2.1, (h.apart b hb).2.2.1, fun hf => (h.apart b hb).2.2.2 (ht.foot b (h.log.lt b hb) hf)⟩⟩
/-- The log's blocks turned. -/
theorem OS.half (h : OS w wx dg lb eb g d own0 own L lf) (hk : Kept lf wx wy) : OD w wy dg lb eb (ptrV g) d own0 own := by
  obtain ⟨recs, hd⟩ := h.od.dat
  exact ⟨⟨recs, hd.kept hk fun b hb hf => (h.apart b hf).2.2.2 hb⟩, h.od.ok, ⟨h.od.turned.kept.trans hk fun b hb => .inr (h.apart b hb).1, fun b hb hf => h.od.turned.foot b hb hf⟩, hk.blk h.od.lrow (fun hf => (h.apart _ hf).2.1 rfl), hk.blk h.od.erow (fun hf => (h.apart _ hf).2.2.1 rfl), h.od.lnew, h.od.enew, h.od.ne⟩
theorem OS.relog (h : OS w wx dg lb eb g d own0 own L lf) (hl : LogAt wy g dg L' lf') (ht : Turned lf lf' wx wy) : OS w wy dg lb eb g d own0 own L' lf' := by
  refine ⟨h.half ht.kept, hl, fun b hb => ?_⟩
  obtain ⟨recs, hd⟩ := h.od.dat
  rcases Nat.lt_or_ge b wx.heap.size with hlt | hge
  · exact h.apart b (ht.foot b hlt hb)
  · have h1 := in_heap h.od.lrow
    have h2 := in_heap h.od.erow
    exact ⟨Nat.le_trans h.od.turned.kept.size hge, by omega, by omega, fun hf => by have := hd.lt b hf; omega⟩
theorem OS.pair (h : OS w wx dg lb eb g d own0 own L lf) (hl : LOk L) : PairAt wx g dg d L own lf := ⟨h.od.dat, h.od.ok, h.log, fun b hb => (h.apart b hb).2.2.2, hl⟩
theorem OD.home {w1 : World} (h : OD w wx dg lb eb lv d own0 own) (hH : Home w1 w (foot own0)) : Home w1 wx (foot own) := hH.turned h.turned
/-- Its two results are written anew. -/
theorem OS.touch (h : OS w wx dg lb eb g d own0 own L lf) : OS w ((wx.setCell ⟨lb, 0, none⟩ (ptrV g)).setCell ⟨eb, 0, none⟩ (.int .i64 0)) dg lb eb g d own0 own L lf := by
  have hk1 : Kept (· = lb) wx (wx.setCell ⟨lb, 0, none⟩ (ptrV g)) := (Kept.refl (· = lb) wx).setCell _ _ (.inl rfl)
  have hk2 : Kept (· = eb) (wx.setCell ⟨lb, 0, none⟩ (ptrV g)) ((wx.setCell ⟨lb, 0, none⟩ (ptrV g)).setCell ⟨eb, 0, none⟩ (.int .i64 0)) := (Kept.refl (· = eb) _).setCell _ _ (.inl rfl)
  have hk : Kept (fun b => b = lb ∨ b = eb) wx ((wx.setCell ⟨lb, 0, none⟩ (ptrV g)).setCell ⟨eb, 0, none⟩ (.int .i64 0)) := (hk1.mono fun b _ e => .inl e).then (hk2.mono fun b _ e => .inr e)
  have hl1 : (wx.setCell ⟨lb, 0, none⟩ (ptrV g)).heap[lb]? = some (.cells #[ptrV g] 38 (0, 0)) := by rw [setCell_one h.od.lrow]; rfl
  have he1 := hk1.blk h.od.erow (fun e => h.od.ne e.symm)
  obtain ⟨recs, hd⟩ := h.od.dat
  refine ⟨⟨⟨recs, hd.kept hk fun b hb e => (by rcases e with e | e <;> subst e; exact h.od.lnew.2 hb; exact h.od.enew.2 hb)⟩, h.od.ok, ⟨h.od.turned.kept.trans hk fun b e => .inr (by rcases e with e | e <;> subst e; exact h.od.lnew.1; exact h.od.enew.1), h.od.turned.foot⟩, hk2.blk hl1 h.od.ne, by rw [setCell_one he1]; rfl, h.od.lnew, h.od.enew, h.od.ne⟩, h.log.kept hk fun b hb e => ?_, h.apart⟩
  have := h.apart b hb
  rcases e with e | e
  · exact this.2.1 e
  · exact this.2.2.1 e
/-- Cells of its block written anew. -/
theorem OS.row {sA : Option Addr} {sC : Nat} {rA : Option Addr} {rC : Nat} {rblk : Option Nat} {qs : List (Option Addr × Nat)} (h : OS w wx dg lb eb g d own0 own L lf) (M : LMem wx g dg L lf sA sC rA rC rblk qs) (hk : Kept (· = g) wx wy) (L' : LogS) (hs : L'.state = L.state) (hr : L'.records = L.records) (hrow : wy.heap[g]? = some (.cells (logRow dg L' sA sC rA rC) 114 (0, 0))) : OS w wy dg lb eb g d own0 own L' lf :=
  h.relog ⟨_, _, _, _, _, _, M.rerow hk (fun _ _ hn => hn) L' hs hr hrow⟩ ⟨hk.mono fun _ _ e => e ▸ M.me, fun _ _ => id⟩
/-- What wal.Open answers. -/
def OpenPost (w : World) (dg : Nat) (own0 : Nat → Option DTag) (r : OpenR) (e : Ending) (w' : World) : Prop :=
  Ok r.1 ∧ ∃ recs' own', DAt w' dg r.1 recs' own' ∧ Turned (foot own0) (foot own') w w' ∧ match r.2.1 with
    | none => e = .returned (.tuple #[.pointer none, .int .i64 r.2.2])
    | some L => ∃ g lf, e = .returned (.tuple #[ptrV g, .int .i64 0]) ∧ LogAt w' g dg L lf ∧ (∀ b, lf b → w.heap.size ≤ b ∧ ¬ foot own' b) ∧ LOk L
theorem OD.stop {r : OpenR} (h : OD w wx dg lb eb lv d own0 own) (hq : q ≠ 0) (hr : r = (d, none, q)) (h2 : tmps.getD 2 undef = ptrV lb) (h3 : tmps.getD 3 undef = ptrV eb) :
    bodyPostD Tryz.prog Tryz.f16 (OpenPost w dg own0 r) (.panic [{ v := stopV q, recovered := false }]) { tmps := tmps, defers := doors lb eb } wx := by
  refine door_panic h2 h3 hq h.lrow h.erow h.ne fun w' hk => ?_
  obtain ⟨recs, hd⟩ := h.dat
  rw [hr]
  exact ⟨h.ok, recs, own, hd.kept hk fun b hb e => (by rcases e with e | e <;> subst e; exact h.lnew.2 hb; exact h.enew.2 hb), ⟨h.turned.kept.trans hk fun b e => .inr (by rcases e with e | e <;> subst e; exact h.lnew.1; exact h.enew.1), fun b hb hf => h.turned.foot b hb hf⟩, rfl⟩
theorem OS.done {r : OpenR} (h : OS w wx dg lb eb g d own0 own L lf) (hl : LOk L) (hr : r = (d, some L, 0)) (h2 : tmps.getD 2 undef = ptrV lb) (h3 : tmps.getD 3 undef = ptrV eb) :
    bodyPostD Tryz.prog Tryz.f16 (OpenPost w dg own0 r) .ret { tmps := tmps, defers := doors lb eb } wx := by
  refine door_ret h2 h3 h.od.lrow h.od.erow ?_
  obtain ⟨recs, hd⟩ := h.od.dat
  rw [hr]
  exact ⟨h.od.ok, recs, own, hd, h.od.turned, g, lf, rfl, h.log, fun b hb => ⟨(h.apart b hb).1, (h.apart b hb).2.2.2⟩, hl⟩
end

theorem IntsAt.kept {F : Nat → Prop} {w w' : World} {A : Option Addr} {n C : Nat} {l : List Int} (h : IntsAt w A n C l) (hk : Kept F w w') (hF : ∀ ad, A = some ad → ¬ F ad.block) : IntsAt w' A n C l :=
  ⟨h.len, h.cap, h.nil, fun ad had => by obtain ⟨b, o, e, hlt⟩ := h.plain ad had; exact ⟨b, o, e, Nat.lt_of_lt_of_le hlt hk.size⟩, fun i x hx => by
    obtain ⟨b, o, hA, hc, h1⟩ := h.each i x hx
    exact ⟨b, o, hA, hk.cell hc (show ¬ F b from hF ⟨b, o, none⟩ hA), h1⟩⟩
/-- .. and the generations' row. -/
structure OA (w wx : World) (dg lb eb g : Nat) (d : DiskS) (own0 own : Nat → Option DTag) (L : LogS) (lf : Nat → Prop) (bb bo n C : Nat) (all : List Nat) : Prop where
  os : OS w wx dg lb eb g d own0 own L lf
  ints : IntsAt wx (some ⟨bb, bo, none⟩) n C (all.map Int.ofNat)
  bf : ¬ foot own bb
  bl : ¬ lf bb
  be : bb ≠ lb ∧ bb ≠ eb
section
variable {w wx wy : World} {dg lb eb g : Nat} {d d' : DiskS} {own0 own own' : Nat → Option DTag} {L L' : LogS} {lf lf' : Nat → Prop} {bb bo n C : Nat} {all : List Nat}
theorem OA.blt (h : OA w wx dg lb eb g d own0 own L lf bb bo n C all) : bb < wx.heap.size := by
  obtain ⟨b, o, e, hlt⟩ := h.ints.plain _ rfl
  simp only [Addr.mk.injEq, and_true] at e
  rw [e.1]; exact hlt
theorem OA.below (h : OA w wx dg lb eb g d own0 own L lf bb bo n C all) (hb : RowKit.Below wx.heap.size wx wy) : OA w wy dg lb eb g d own0 own L lf bb bo n C all := ⟨h.os.below hb, h.ints.below hb, h.bf, h.bl, h.be⟩
theorem OA.disk (h : OA w wx dg lb eb g d own0 own L lf bb bo n C all) {recs' : List Nat} (hd : DAt wy dg d' recs' own') (hO : Ok d') (ht : Turned (foot own) (foot own') wx wy) : OA w wy dg lb eb g d' own0 own' L lf bb bo n C all :=
  ⟨h.os.disk hd hO ht, h.ints.kept ht.kept (fun ad had hf => by rw [← Option.some.inj had] at hf; exact h.bf hf), fun hf => h.bf (ht.foot bb h.blt hf), h.bl, h.be⟩
theorem OA.relog (h : OA w wx dg lb eb g d own0 own L lf bb bo n C all) (hl : LogAt wy g dg L' lf') (ht : Turned lf lf' wx wy) : OA w wy dg lb eb g d own0 own L' lf' bb bo n C all :=
  ⟨h.os.relog hl ht, h.ints.kept ht.kept (fun ad had hf => by rw [← Option.some.inj had] at hf; exact h.bl hf), h.bf, fun hf => h.bl (ht.foot bb h.blt hf), h.be⟩
theorem OA.row {sA : Option Addr} {sC : Nat} {rA : Option Addr} {rC : Nat} {rblk : Option Nat} {qs : List (Option Addr × Nat)} (h : OA w wx dg lb eb g d own0 own L lf bb bo n C all) (M : LMem wx g dg L lf sA sC rA rC rblk qs) (hk : Kept (· = g) wx wy) (L' : LogS) (hs : L'.state = L.state) (hr : L'.records = L.records) (hrow : wy.heap[g]? = some (.cells (logRow dg L' sA sC rA rC) 114 (0, 0))) : OA w wy dg lb eb g d own0 own L' lf bb bo n C all :=
  h.relog ⟨_, _, _, _, _, _, M.rerow hk (fun _ _ hn => hn) L' hs hr hrow⟩ ⟨hk.mono fun _ _ e => e ▸ M.me, fun _ _ => id⟩
end
/-- Ahead of a call, and behind it. -/
def callI (P0 P1 : World → Prop) : List Bool → World → Prop
  | [false], w => P0 w
  | [true], w => P1 w
  | _, _ => False
theorem callI_one {P0 P1 : World → Prop} {l : List Bool} {w : World} (h : callI P0 P1 l w) : P0 w ∨ P1 w := by
  unfold callI at h
  split at h <;> simp_all
theorem readW_none {d : DiskS} {n : Nat} {q : Nat} (h : readW d n = (none, q)) : q ≠ 0 := by
  unfold readW at h
  split at h
  · next h1 => injection h with _ h; rw [← h]; exact h1
  · split at h
    · injection h with _ h; rw [← h]; decide
    · cases h
theorem closeW_err {r : DiskS × Nat} (h : r.2 ≠ 0) (older : List Nat) (L : LogS) : closeW r older L = (r.1, none, r.2) := by
  unfold closeW
  simp only [next, if_neg h]
  by_cases h2 : older = []
  · simp [h2, h]
  · simp [h2, h]
theorem next_zero {r : DiskS × Nat} {f : DiskS → DiskS × Nat} (h : (next r f).2 = 0) : r.2 = 0 ∧ (f r.1).2 = 0 := by
  unfold next at h
  split at h
  · next h1 => exact ⟨h1, h⟩
  · next h1 => exact absurd h h1
theorem make1W_len {d : DiskS} {n : Nat} {b : Bs} (h : (make1W d n b).2 = 0) : b.length ≤ 4194304 := by
  unfold make1W at h
  split at h
  · cases h
  · have h1 := (next_zero (next_zero (next_zero (next_zero h).1).1).1).2
    unfold Dk.append at h1
    split at h1
    · cases h1
    · split at h1
      · cases h1
      · split at h1
        · cases h1
        · next h2 => omega
theorem recsW_count : ∀ (l : List Bs) (i : Nat), l.length ≤ (recsW i l).length
  | [], _ => Nat.le_refl _
  | r :: t, i => by
    have := recsW_count t (i + 1)
    show (r :: t).length ≤ (sealW 2 i r ++ recsW (i + 1) t).length
    rw [List.length_append, sealW_len, List.length_cons]
    omega
/-- The end behind the removals. -/
def finW (r : DiskS × Nat) (older : List Nat) (L : LogS) : OpenR :=
  if (if older = [] then r else next r syncDir).2 = 0 then ((if older = [] then r else next r syncDir).1, some L, 0) else ((if older = [] then r else next r syncDir).1, none, (if older = [] then r else next r syncDir).2)
theorem closeW_fin (d : DiskS) (older : List Nat) (L : LogS) : closeW (d, 0) older L = finW (removeAll d older) older L := rfl
theorem finW_err {r : DiskS × Nat} (h : r.2 ≠ 0) (older : List Nat) (L : LogS) : finW r older L = (r.1, none, r.2) := by
  unfold finW
  simp only [next, if_neg h]
  by_cases h2 : older = []
  · simp [h2, h]
  · simp [h2, h]
theorem removeAll_ok {d d' : DiskS} {n : Nat} {t : List Nat} (h : Dk.remove d (nameW n) = (d', 0)) : removeAll d (n :: t) = removeAll d' t := by
  show next (Dk.remove d (nameW n)) _ = _
  rw [h]
  rfl
theorem removeAll_err {d d' : DiskS} {n q : Nat} {t : List Nat} (h : Dk.remove d (nameW n) = (d', q)) (hq : q ≠ 0) : removeAll d (n :: t) = (d', q) := by
  show next (Dk.remove d (nameW n)) _ = _
  rw [h]
  unfold next
  rw [if_neg hq]
theorem gens_bound {d : DiskS} {m : Nat} (h : m ∈ gensW (Dk.list d)) : 1 ≤ m ∧ m ≤ 1099511627776 := by
  unfold gensW at h
  obtain ⟨s, _, hs⟩ := List.mem_filterMap.1 (List.mem_mergeSort.1 h)
  unfold genOf at hs
  split at hs
  · split at hs
    · split at hs
      · next h => injection hs with hs; omega
      · cases hs
    · cases hs
  · cases hs
theorem closeW_nil (r : DiskS × Nat) (L : LogS) : closeW r [] L = if r.2 = 0 then (r.1, some L, 0) else (r.1, none, r.2) := by
  unfold closeW next removeAll
  simp only [if_true]
  by_cases h : r.2 = 0
  · simp [h]
  · simp [h]

/-! ### what is read is bounded -/
theorem loadF_len {f : FrameS} {k : UInt8} {n most : Nat} {r : Bs} (h : loadF f k n most = some r) : r.length ≤ most := by
  unfold loadF at h
  split at h
  · next h1 =>
    injection h with h
    subst h
    rw [List.length_drop]
    exact h1.2.2.2
  · cases h
theorem loadsF_len : ∀ (l : List FrameS) (i : Nat) (rs : List Bs), loadsF i l = some rs → rs.length = l.length ∧ ∀ r ∈ rs, r.length ≤ 65536
  | [], _, rs, h => by
    unfold loadsF at h
    injection h with h
    subst h
    exact ⟨rfl, fun r hr => by cases hr⟩
  | f :: t, i, rs, h => by
    unfold loadsF at h
    split at h
    · cases h
    · next r hr =>
      cases ht : loadsF (i + 1) t with
      | none => rw [ht] at h; cases h
      | some rs2 =>
        rw [ht] at h
        injection h with h
        subst h
        obtain ⟨h1, h2⟩ := loadsF_len t (i + 1) rs2 ht
        refine ⟨by simp [h1], fun x hx => ?_⟩
        rcases List.mem_cons.1 hx with rfl | hx
        · exact loadF_len hr
        · exact h2 x hx
theorem scanFrom_count : ∀ (k : Nat) (x : Bs) (n : Nat) (acc : List FrameS), acc.length ≤ n → (scanFrom k x n acc).1.length ≤ (scanFrom k x n acc).2.1
  | 0, x, n, acc, h => h
  | k + 1, x, n, acc, h => by
    unfold scanFrom
    split
    · split
      · next h3 =>
        have hl := openF_len (x.drop n) h3
        exact scanFrom_count k x _ _ (by simp; omega)
      · exact h
    · exact h
theorem readW_bound {d : DiskS} (hO : Ok d) {n : Nat} {s : ReadS} {q : Nat} (h : readW d n = (some s, q)) : s.state.length ≤ 1048576 ∧ (∀ r ∈ s.records, r.length ≤ 65536) ∧ s.records.length ≤ s.whole ∧ s.whole ≤ 4194304 ∧ s.cut ≤ 4194304 := by
  have hlen := read_len hO (nameW n)
  unfold readW at h
  split at h
  · cases h
  · split at h
    · cases h
    · next r hr =>
      simp only [Prod.mk.injEq, Option.some.injEq] at h
      obtain ⟨rfl, _⟩ := h
      generalize (Dk.read d (nameW n)).1 = b at hr hlen
      have hm := scanF_mem b
      have hc : (scanF b).1.length ≤ (scanF b).2.1 := scanFrom_count _ b 0 [] (Nat.le_refl _)
      unfold readB at hr
      split at hr
      · cases hr
      · next f t hft =>
        split at hr
        · cases hr
        · split at hr
          · cases hr
          · next st hst =>
            split at hr
            · cases hr
            · next rs hrs =>
              injection hr with hr
              subst hr
              obtain ⟨h1, h2⟩ := loadsF_len _ _ _ hrs
              rw [hft] at hc
              simp at hc
              exact ⟨loadF_len hst, h2, by show rs.length ≤ (scanF b).2.1; omega, by show (scanF b).2.1 ≤ 4194304; omega, by show b.length - (scanF b).2.1 ≤ 4194304; omega⟩
end Go.Proofs.YtgpenpnobjecgaaGreatDoor
