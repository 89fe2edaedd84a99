/- Reg's law once more, where an operation of the head may also be a call that gives up: then what is asked of the region's end is asked there. -/
import Derived.Test.YtgpenpnobjecgaaGreatDoorJWalOwnCard17
/- RegS -/
namespace Go.Proofs.YtgpenpnobjecgaaGreatDoor
set_option maxRecDepth 100000
open Go.RowKit

section
variable {P : Program} {ops : Array Oper} {R : World → World → Prop} {Q : Exit → Act → World → Prop}
/-- The operation is a call that does not come back. -/
def stopOp (P : Program) (ops : Array Oper) (S : List PanicEntry → World → Prop) (o : Oper) (a : Act) (w : World) : Prop :=
  Region.wanted o (yielded ops a.tmps) = true ∧ ∃ f args, (execOp a.eval o).run P w = .ok (.enter f args) w ∧ Calls P f args w fun e w' => ∃ ch, e = .panicked ch ∧ S ch w'
def stopsAt (P : Program) (S : List PanicEntry → World → Prop) (o : Oper) (E : Operand → Value) (y : Nat → Option Bool) (w : World) : Prop :=
  Region.wanted o y = true ∧ ∃ f args, (execOp E o).run P w = .ok (.enter f args) w ∧ Calls P f args w fun e w' => ∃ ch, e = .panicked ch ∧ S ch w'
def RegHeadS (P : Program) (ops : Array Oper) (R : World → World → Prop) (S : List PanicEntry → World → Prop) (w0 : World) (a0 : Act) (n : Nat) (Ds : List (Yld R)) (vs : Nat → Value) : List Oper → List (Yld R) → Nat → Prop
  | _, [], _ => True
  | [], _ :: _, _ => False
  | o :: l, D :: r, k => (∀ w, R w0 w → allOf (fun i w => ((Ds[i]?).getD (Yld.is undef)).p (vs i) w) w (depsOf o) → relAt P R D o (lookD ops Ds vs a0 n) (yieldD Ds vs) w ∨ stopsAt P S o (lookD ops Ds vs a0 n) (yieldD Ds vs) w) ∧ RegHeadS P ops R S w0 a0 n Ds vs l r (k + 1)
theorem reg_headS {S : List PanicEntry → World → Prop} {w0 : World} {a0 : Act} {n : Nat} {Ds : List (Yld R)} {vs : Nat → Value} : ∀ {l : List Oper} {r : List (Yld R)} {k : Nat}, RegHeadS P ops R S w0 a0 n Ds vs l r k → ∀ (i : Nat) (D : Yld R), r[i]? = some D → ∃ o, l[i]? = some o ∧ ∀ w, R w0 w → allOf (fun i w => ((Ds[i]?).getD (Yld.is undef)).p (vs i) w) w (depsOf o) → relAt P R D o (lookD ops Ds vs a0 n) (yieldD Ds vs) w ∨ stopsAt P S o (lookD ops Ds vs a0 n) (yieldD Ds vs) w
  | _, [], _, _, i, D, hD => by simp at hD
  | [], _ :: _, _, h, _, _, _ => False.elim h
  | o :: l, D0 :: r, k, h, 0, D, hD => by
    obtain rfl : D0 = D := by simpa using hD
    exact ⟨o, rfl, h.1⟩
  | o :: l, D0 :: r, k, h, i + 1, D, hD => by
    obtain ⟨q, hq, hh⟩ := reg_headS h.2 i D (by simpa using hD)
    exact ⟨q, by simpa using hq, hh⟩
theorem RegHeadS.cons {S : List PanicEntry → World → Prop} {w0 : World} {a0 : Act} {n : Nat} {Ds : List (Yld R)} {vs : Nat → Value} {o : Oper} {l : List Oper} {D : Yld R} {r : List (Yld R)} {k : Nat} (h1 : ∀ w, R w0 w → allOf (fun i w => ((Ds[i]?).getD (Yld.is undef)).p (vs i) w) w (depsOf o) → relAt P R D o (lookD ops Ds vs a0 n) (yieldD Ds vs) w ∨ stopsAt P S o (lookD ops Ds vs a0 n) (yieldD Ds vs) w)
    (h2 : RegHeadS P ops R S w0 a0 n Ds vs l r (k + 1)) : RegHeadS P ops R S w0 a0 n Ds vs (o :: l) (D :: r) k := ⟨h1, h2⟩
theorem rel_anyS {n : Nat} {S : List PanicEntry → World → Prop} {w0 : World} {a0 : Act} {D : Nat → Value → World → Prop} (hB : relB ops n = true) (hst : ∀ k v w w', D k v w → R w w' → D k v w') (htr : ∀ w w' w'', R w w' → R w' w'' → R w w'')
    (hop : ∀ k o vs w, k < n → ops[k]? = some o → R w0 w → (∀ j ∈ depsOf o, D j (vs j) w) → relOp P ops R (D k) o (acts ops vs a0 k) w ∨ stopOp P ops S o (acts ops vs a0 k) w)
    (hQS : ∀ ch w' a', S ch w' → a'.defers = a0.defers → (∀ t, (∀ k o, k < n → ops[k]? = some o → o.dst ≠ some t) → a'.tmps[t]? = a0.tmps[t]?) → Q (.panic ch) a' w')
    (htail : ∀ vs w, R w0 w → (∀ k, k < n → D k (vs k) w) → wpList P ops Q (ops.toList.drop n) (acts ops vs a0 n) w) :
    ∀ (f : Nat) (un : List Nat) (listed : Array Bool) (vs : Nat → Value) (a : Act) (w : World), un.length = f → un.Nodup → (∀ i, i ∈ un ↔ i < n ∧ listed.getD i true = false) → HeadInv .any ops n listed →
      Rep ops n a0 vs (fun i => listed.getD i false) a → (∀ i, i < n → listed.getD i false = true → D i (vs i) w) → R w0 w → wpAny P .any ops Q (f + (ops.size - n)) listed a w := by
  simp only [relB, Bool.and_eq_true, decide_eq_true_eq] at hB
  obtain ⟨⟨⟨⟨⟨⟨hsel, hn⟩, hs⟩, hc⟩, hpl⟩, hself⟩, hseq⟩ := hB
  intro f
  induction f with
  | zero =>
    intro un listed vs a w hf _ hun inv hrep hD hR
    obtain rfl : un = [] := List.eq_nil_of_length_eq_zero hf
    have hall : ∀ i, i < n → listed.getD i false = true := fun i hi => by
      cases h : listed.getD i false with
      | true => rfl
      | false => exact absurd ((hun i).2 ⟨hi, getD_in (by rw [inv.size]; omega) h⟩) (by simp)
    have hl := upto_array ops.size n listed inv.size fun i hi => ⟨fun h => (Nat.lt_or_ge i n).resolve_right fun h' => by
      rw [getD_both (inv.tail i h' hi)] at h
      exact absurd h (by simp), fun h => hall i h⟩
    have ha : a = acts ops vs a0 n := rep_unique hrep (rep_acts a0 vs hpl n (Nat.le_refl _)) fun i hi => by simp [hi, hall i hi]
    have hdl : (ops.toList.drop n).length = ops.size - n := by simp
    have := wpAny_of_seq (P := P) (md := .any) (ops := ops) (Q' := Q) (ops.toList.drop n) n listed a w (fun j => by simp [List.getElem?_drop]) (by rw [hdl, hl]; exact hseq) (by rw [ha]; exact htail vs w hR fun k hk => hD k hk (hall k hk))
    rw [hdl] at this
    rw [Nat.zero_add]
    exact this
  | succ f ih =>
    intro un listed vs a w hf hnd hun inv hrep hD hR
    -- the least one that has not come up may come up
    have hex : ∃ i, i < n ∧ listed.getD i true = false := by
      cases un with
      | nil => simp at hf
      | cons i un => exact ⟨i, (hun i).1 (by simp)⟩
    have hready : ∃ i, i ∈ Region.ready .any ops listed := by
      obtain ⟨i, hi⟩ := hex
      induction i using Nat.strongRecOn with
      | _ i ihi =>
        obtain ⟨o, ho, _, hlt, _⟩ := plain_spec hpl hi.1
        by_cases hall : ∀ e ∈ o.after, Region.binds .any e = true → listed.getD e.on false = true
        · exact ⟨i, mem_ready.2 ⟨hi.2, o, ho, hall⟩⟩
        · simp only [Classical.not_forall] at hall
          obtain ⟨e, he, hb, hne⟩ := hall
          have hlt' : e.on < i := hlt e.on (by simp only [depsOf, List.mem_map, List.mem_filter]; exact ⟨e, ⟨by simpa using he, hb⟩, rfl⟩)
          exact ihi e.on hlt' ⟨by omega, getD_in (by rw [inv.size]; omega) (by simpa using hne)⟩
    obtain ⟨i0, hi0⟩ := hex
    rw [show f + 1 + (ops.size - n) = (f + (ops.size - n)) + 1 by omega]
    refine ⟨fun h0 => (by obtain ⟨i, hi⟩ := hready; rw [h0] at hi; exact absurd hi (by simp)), fun j hj => ?_⟩
    have hjn : j < n := by
      rcases Nat.lt_or_ge j n with h | h
      · exact h
      · have hjs : j < ops.size := by
          obtain ⟨_, o, ho, _⟩ := mem_ready.1 hj
          exact (Array.getElem?_eq_some_iff.1 ho).1
        exact absurd hj (tail_waits hs hc (show n < ops.size by omega) inv _ i0 rfl hi0.1 hi0.2 j h)
    obtain ⟨hjun, o, ho, hall⟩ := mem_ready.1 hj
    obtain ⟨o', ho', hg, hlt, _⟩ := plain_spec hpl hjn
    obtain rfl : o = o' := Option.some.inj (ho.symm.trans ho')
    have hdeps : ∀ i ∈ depsOf o, listed.getD i false = true := fun i hi => by
      simp only [depsOf, List.mem_map, List.mem_filter] at hi
      obtain ⟨e, ⟨he, hb⟩, rfl⟩ := hi
      exact hall e (by simpa using he) hb
    have he := eval_rep (vs := vs) hpl hself (Region.noSelect_spec hsel j o · · ho) hrep hjn ho hdeps
    have hsz : a.tmps.size = (acts ops vs a0 j).tmps.size := hrep.size.trans (rep_acts a0 vs hpl j (by omega)).size.symm
    rcases hop j o vs w hjn ho hR (fun i hi => hD i (by have := hlt i hi; omega) (hdeps i hi)) with hh | hh
    · refine wpOp_rel ho (wanted_rep hpl hrep hjn ho hdeps) he hsz hh fun v w' hr hDv => ?_
      have hjs : j < listed.size := by rw [inv.size]; omega
      have hset : ∀ i, (listed.setIfInBounds j true).getD i false = true ↔ i = j ∨ listed.getD i false = true := fun i => by
        by_cases hij : j = i
        · subst hij; simp [hjs]
        · rw [getD_set_ne false hij]
          exact ⟨.inr, fun h => h.resolve_left fun e => hij e.symm⟩
      have hset2 : ∀ i, (listed.setIfInBounds j true).getD i true = false ↔ i ≠ j ∧ listed.getD i true = false := fun i => by
        by_cases hij : j = i
        · subst hij; simp [hjs]
        · rw [getD_set_ne true hij]
          exact ⟨fun h => ⟨fun e => hij e.symm, h⟩, fun h => h.2⟩
      have hju : j ∈ un := (hun j).2 ⟨hjn, hjun⟩
      refine ih (un.erase j) _ (fun i => if i = j then v else vs i) _ w' (by rw [List.length_erase_of_mem hju, hf]; rfl) (hnd.erase j) (fun i => ?_) (inv.set hj hjn) (rep_put hpl hrep hjn ho v _ hset) (fun i hi hS => ?_) (htr _ _ _ hR hr)
      · rw [hnd.mem_erase_iff, hun, hset2]
        exact ⟨fun h => ⟨h.2.1, h.1, h.2.2⟩, fun h => ⟨h.2.1, h.1, h.2.2⟩⟩
      · by_cases hij : i = j
        · subst hij; rw [if_pos rfl]; exact hDv
        · rw [if_neg hij]
          exact hst _ _ _ _ (hD i hi (((hset i).1 hS).resolve_left hij)) hr
    · obtain ⟨hw, f2, args, hrun, hcall⟩ := hh
      unfold wpOp
      simp only [ho]
      rw [wanted_rep hpl hrep hjn ho hdeps, if_pos hw]
      left
      unfold Oper.wp
      rw [he, hrun]
      refine Calls.mono hcall ?_
      rintro e w'' ⟨ch, rfl, hS⟩
      exact hQS ch w'' a hS hrep.defers fun t ht => hrep.other t fun k q hk hq _ => ht k q hk hq
theorem wp_region_regS {id : Nat} {S : List PanicEntry → World → Prop} {a : Act} {w : World} {l : List Oper} (n s : Nat) (R : World → World → Prop) (hm : P.follows .mixedOrders = true) (hB : relB l.toArray n = true) (hS : sizeB l.toArray n s = true) (hs : a.tmps.size = s) (hG : guardB l.toArray n = true) (hrf : ∀ w, R w w) (htr : ∀ w w' w'', R w w' → R w' w'' → R w w'')
    (Ds : List (Yld R)) (hD : Ds.length = n) (h : ∀ vs, RegHeadS P l.toArray R S w.drew a n Ds vs l Ds 0)
    (hQS : ∀ ch w' a', S ch w' → a'.defers = a.defers → (∀ t, writer l.toArray t n = none → a'.tmps[t]? = a.tmps[t]?) → Q (.panic ch) a' w')
    (ht : ∀ vs w', R w.drew w' → allOf (fun i w => ((Ds[i]?).getD (Yld.is undef)).p (vs i) w) w' (List.range n) → wpList P l.toArray Q (l.drop n) (acts l.toArray (valAt Ds vs) a n) w') : (Code.region id l.toArray true).wp P Q a w := by
  have hB' := hB
  simp only [relB, Bool.and_eq_true, decide_eq_true_eq] at hB'
  obtain ⟨⟨⟨⟨⟨⟨hsel, hn⟩, _⟩, _⟩, hpl⟩, hself⟩, _⟩ := hB'
  subst hs
  refine wp_region_any hm ?_
  have hDs : ∀ k, k < n → ∃ D, Ds[k]? = some D := fun k hk => ⟨Ds[k]'(by omega), List.getElem?_eq_getElem (by omega)⟩
  have key := rel_anyS (S := S) (P := P) (Q := Q) (ops := l.toArray) (D := fun k => ((Ds[k]?).getD (Yld.is undef)).p) (a0 := a) (w0 := w.drew) hB (fun k v w w' h1 h2 => ((Ds[k]?).getD (Yld.is undef)).st v w w' h1 h2) htr
    (fun k o vs w' hk ho hR hdeps => by
      obtain ⟨D, hDk⟩ := hDs k hk
      obtain ⟨o', ho', hh⟩ := reg_headS (h vs) k D hDk
      obtain rfl : o = o' := Option.some.inj (ho.symm.trans (by simpa using ho'))
      have hh := hh w' hR (allOf_iff.2 hdeps)
      obtain ⟨o2, ho2, hgu, hlt, hoth⟩ := plain_spec hpl hk
      obtain rfl : o = o2 := Option.some.inj (ho.symm.trans ho2)
      have hrep := rep_acts a vs hpl k (by omega)
      have hval : ∀ j ∈ depsOf o, valAt Ds vs j = vs j := fun j hj => by
        have hjn : j < n := by have := hlt j hj; omega
        obtain ⟨Dj, hDj⟩ := hDs j hjn
        have := hdeps j hj
        simp only [hDj, Option.getD_some] at this
        simp only [valAt, hDj]
        exact Dj.value_eq _ _ this
      have hslot : ∀ j q d, j ∈ depsOf o → l.toArray[j]? = some q → q.dst = some d → (acts l.toArray vs a k).tmps[d]? = some (vs j) := fun j q d hj hq hd => by
        have hjk := hlt j hj
        have h1 := hrep.val j q d (by omega) hq hd (by simpa using hjk)
        have h2 := size_spec hS (show j < n by omega) hq hd
        rw [h1, Array.getElem?_setIfInBounds_self, if_pos h2]
      have he : execOp (acts l.toArray vs a k).eval o = execOp (lookD l.toArray Ds vs a n) o := execOp_congr o (Region.noSelect_spec hsel k o · · ho) fun x hx => by
        cases x with
        | tmp t =>
          have ht : t ∈ tmpsOf o := List.mem_filterMap.2 ⟨.tmp t, by simpa using hx, rfl⟩
          show (acts l.toArray vs a k).tmps.getD t undef = match writer l.toArray t n with
            | some j => valAt Ds vs j
            | none => a.tmps.getD t undef
          cases hwr : writer l.toArray t n with
          | some j =>
            obtain ⟨hjn, q, hq, hqt⟩ := writer_some hwr
            have hjk : j ≠ k := fun e => by
              subst e
              obtain rfl : o = q := Option.some.inj (ho.symm.trans hq)
              exact self_spec hself hk ho t ht hqt
            obtain ⟨q', hq', _, hdep⟩ := hoth j hjn hjk
            obtain rfl : q = q' := Option.some.inj (hq.symm.trans hq')
            have hjd := hdep t ht hqt
            have h1 := hslot j q t hjd hq hqt
            show _ = valAt Ds vs j
            rw [hval j hjd]
            simp [h1]
          | none =>
            have h1 := hrep.other t fun j q hj hq _ => writer_none hwr j q (by omega) hq
            show _ = a.tmps.getD t undef
            simp [h1]
        | _ => rfl
      have hwn : Region.wanted o (yielded l.toArray (acts l.toArray vs a k).tmps) = Region.wanted o (yieldD Ds vs) := by
        unfold Region.wanted
        cases hgd : o.guard with
        | none => rfl
        | some gb =>
          obtain ⟨g, b⟩ := gb
          have hgm := hgu g b hgd
          obtain ⟨q, d, hq, hd⟩ := guard_spec hG hk ho hgd
          have h1 := hslot g q d hgm hq hd
          have : yielded l.toArray (acts l.toArray vs a k).tmps g = yieldD Ds vs g := by
            simp only [yielded, hq, yieldD, hval g hgm, Option.bind_some, hd, h1]
            cases vs g <;> rfl
          simp only [this]
      simp only [hDk, Option.getD_some]
      rcases hh with hh | hh
      · exact .inl (relOp_of_at (ops := l.toArray) hrf he hwn hh)
      · obtain ⟨h1, f2, args, h2, h3⟩ := hh
        exact .inr ⟨by rw [hwn]; exact h1, f2, args, by rw [he]; exact h2, h3⟩)
    (fun ch w' a' hSc hdf hfr => hQS ch w' a' hSc hdf fun t ht => hfr t fun k q hk hq => writer_none ht k q hk hq)
    (fun vs w' hR hDv => by
      have h1 := ht vs w' hR (allOf_iff.2 fun i hi => hDv i (List.mem_range.1 hi))
      have h2 : acts l.toArray (valAt Ds vs) a n = acts l.toArray vs a n := by
        have : ∀ k, k ≤ n → acts l.toArray (valAt Ds vs) a k = acts l.toArray vs a k := by
          intro k
          induction k with
          | zero => intro _; rfl
          | succ k ih =>
            intro hk
            obtain ⟨D, hDk⟩ := hDs k (by omega)
            have h3 := hDv k (by omega)
            simp only [hDk, Option.getD_some] at h3
            have h4 : valAt Ds vs k = vs k := by
              simp only [valAt, hDk]
              exact D.value_eq _ _ h3
            simp only [acts, ih (by omega), h4]
        exact this n (Nat.le_refl _)
      rw [h2] at h1
      simpa using h1)
    n (List.range n) (Array.replicate l.toArray.size false) (fun _ => undef) a w.drew (by simp) List.nodup_range
    (fun i => by
      rw [List.mem_range]
      exact ⟨fun hi => ⟨hi, getD_in (by simp at hn ⊢; omega) (getD_replicate_false _ _)⟩, fun hi => hi.1⟩)
    ⟨by simp, fun j oj _ hl => (by rw [getD_replicate_false] at hl; cases hl), fun t _ ht => getD_in (by simpa using ht) (getD_replicate_false _ _)⟩
    ⟨rfl, rfl, fun _ _ => rfl, fun k o d _ _ _ hS => (by rw [getD_replicate_false] at hS; cases hS)⟩ (fun i _ hS => (by rw [getD_replicate_false] at hS; cases hS)) (hrf _)
  rw [show n + (l.toArray.size - n) = l.toArray.size by simp at hn ⊢; omega] at key
  exact key
end
end Go.Proofs.YtgpenpnobjecgaaGreatDoor
