/- The law of Reg once more, with a word on the world that may turn as chosen operations (stores) come up: for regions whose stores write what others of their operations read. -/
import Derived.Test.YtgpenpnobjecgaaGreatDoorJWalSafeCard14
/- Reg2 -/
namespace Go.Proofs.YtgpenpnobjecgaaGreatDoor
set_option maxRecDepth 100000
open Go.RowKit

section
variable {P : Program} {ops : Array Oper} {R : World → World → Prop} {Q : Exit → Act → World → Prop}

/-- What has come up brings what it waits for. -/
def Down (ops : Array Oper) (n : Nat) (S : Nat → Bool) : Prop := ∀ j q, j < n → ops[j]? = some q → S j = true → ∀ i ∈ depsOf q, i < j ∧ S i = true
/-- j waits for k, at however many removes. -/
def reach (ops : Array Oper) : Nat → Nat → Nat → Bool
  | 0, _, _ => false
  | f + 1, j, k => match ops[j]? with
    | none => false
    | some q => (depsOf q).any fun i => i == k || reach ops f i k
theorem Down.come {n : Nat} {S : Nat → Bool} (h : Down ops n S) : ∀ (f j k : Nat), j < n → S j = true → reach ops f j k = true → S k = true
  | 0, _, _, _, _, hr => by simp [reach] at hr
  | f + 1, j, k, hj, hS, hr => by
    unfold reach at hr
    cases hq : ops[j]? with
    | none => simp [hq] at hr
    | some q =>
      simp only [hq, List.any_eq_true, Bool.or_eq_true, beq_iff_eq] at hr
      obtain ⟨i, hi, hr⟩ := hr
      obtain ⟨hij, hSi⟩ := h j q hj hq hS i hi
      rcases hr with rfl | hr
      · exact hSi
      · exact h.come f i k (by omega) hSi hr
theorem Down.not {n : Nat} {S : Nat → Bool} (h : Down ops n S) (f : Nat) {j k : Nat} (hk : S k = false) (hj : j < n) (hr : reach ops f j k = true) : S j = false := by
  cases e : S j with
  | false => rfl
  | true => rw [h.come f j k hj e hr] at hk; cases hk

def meetsI (P : Program) (R : World → World → Prop) (p : Value → World → Prop) (w : World) : Result Next → Prop
  | .ok (.value v) w' => R w w' ∧ p v w'
  | .ok .skip w' => R w w' ∧ p undef w'
  | .ok (.enter f args) w' => Calls P f args w' fun e w'' => ∃ v, e = .returned v ∧ R w w'' ∧ p v w''
  | .ok (.row row args) w' => Rows P row args w' fun v w'' => R w w'' ∧ p v w''
  | _ => False
def relAtI (P : Program) (R : World → World → Prop) (p : Value → World → Prop) (o : Oper) (E : Operand → Value) (y : Nat → Option Bool) (w : World) : Prop :=
  if Region.wanted o y then meetsI P R p w ((execOp E o).run P w) else R w w ∧ p undef w
def setB (S : Nat → Bool) (k : Nat) : Nat → Bool := fun i => if i = k then true else S i
theorem keepI {I : List Bool → World → Prop} {ks : List Nat} {S : Nat → Bool} {k : Nat} {w : World} (hk : k ∉ ks) (h : I (ks.map S) w) : I (ks.map (setB S k)) w := by
  have : ks.map (setB S k) = ks.map S := List.map_congr_left fun i hi => by
    unfold setB
    rw [if_neg (fun e => hk (by rw [← e]; exact hi))]
  rw [this]; exact h

/-- What is to be shown of operation k. -/
def AskI (P : Program) (ops : Array Oper) (R : World → World → Prop) (I : List Bool → World → Prop) (ks : List Nat) (a0 : Act) (n : Nat) (Ds : List (Yld R)) (vs : Nat → Value) (o : Oper) (D : Yld R) (k : Nat) : Prop :=
  ∀ S w, Down ops n S → S k = false → (∀ j ∈ depsOf o, S j = true) → I (ks.map S) w → allOf (fun i w => ((Ds[i]?).getD (Yld.is undef)).p (vs i) w) w (depsOf o) →
    relAtI P (fun w w' => R w w' ∧ I (ks.map (setB S k)) w') D.p o (lookD ops Ds vs a0 n) (yieldD Ds vs) w
def RegHeadI (P : Program) (ops : Array Oper) (R : World → World → Prop) (I : List Bool → World → Prop) (ks : List Nat) (a0 : Act) (n : Nat) (Ds : List (Yld R)) (vs : Nat → Value) : List Oper → List (Yld R) → Nat → Prop
  | _, [], _ => True
  | [], _ :: _, _ => False
  | o :: l, D :: r, k => AskI P ops R I ks a0 n Ds vs o D k ∧ RegHeadI P ops R I ks a0 n Ds vs l r (k + 1)
theorem RegHeadI.cons {I : List Bool → World → Prop} {ks : List Nat} {a0 : Act} {n : Nat} {Ds : List (Yld R)} {vs : Nat → Value} {o : Oper} {l : List Oper} {D : Yld R} {r : List (Yld R)} {k : Nat}
    (h1 : ∀ S w, Down ops n S → S k = false → (∀ j ∈ depsOf o, S j = true) → I (ks.map S) w → allOf (fun i w => ((Ds[i]?).getD (Yld.is undef)).p (vs i) w) w (depsOf o) →
      relAtI P (fun w w' => R w w' ∧ I (ks.map (setB S k)) w') D.p o (lookD ops Ds vs a0 n) (yieldD Ds vs) w)
    (h2 : RegHeadI P ops R I ks a0 n Ds vs l r (k + 1)) : RegHeadI P ops R I ks a0 n Ds vs (o :: l) (D :: r) k := ⟨h1, h2⟩
theorem regI_head {I : List Bool → World → Prop} {ks : List Nat} {a0 : Act} {n : Nat} {Ds : List (Yld R)} {vs : Nat → Value} : ∀ {l : List Oper} {r : List (Yld R)} {k : Nat}, RegHeadI P ops R I ks a0 n Ds vs l r k → ∀ (i : Nat) (D : Yld R), r[i]? = some D → ∃ o, l[i]? = some o ∧ AskI P ops R I ks a0 n Ds vs o D (k + i)
  | _, [], _, _, i, D, hD => by simp at hD
  | [], _ :: _, _, h, _, _, _ => False.elim h
  | o :: l, D0 :: r, k, h, 0, D, hD => by
    obtain rfl : D0 = D := by simpa using hD
    exact ⟨o, rfl, h.1⟩
  | o :: l, D0 :: r, k, h, i + 1, D, hD => by
    obtain ⟨q, hq, hh⟩ := regI_head h.2 i D (by simpa using hD)
    exact ⟨q, by simpa using hq, by rw [show k + (i + 1) = k + 1 + i by omega]; exact hh⟩

theorem relOp_of_atI {R' : World → World → Prop} {p : Value → World → Prop} {o : Oper} {E : Operand → Value} {y : Nat → Option Bool} {a : Act} {w : World} (he : execOp a.eval o = execOp E o) (hw : Region.wanted o (yielded ops a.tmps) = Region.wanted o y) (h : relAtI P R' p o E y w) : relOp P ops R' p o a w := by
  unfold relOp wpList
  unfold relAtI at h
  rw [hw]
  by_cases hg : Region.wanted o y = true
  · rw [if_pos hg] at h ⊢
    left
    unfold Oper.wp
    rw [he]
    cases hr : (execOp E o).run P w with
    | ok x w' =>
      rw [hr] at h
      cases x <;> simp only [meetsI] at h
      case value v => exact ⟨rfl, _, rfl, h⟩
      case skip => exact ⟨rfl, _, rfl, h⟩
      case enter f args =>
        refine Calls.mono h ?_
        rintro e w'' ⟨v, rfl, h1, h2⟩
        exact ⟨rfl, v, rfl, h1, h2⟩
      case row row args => exact Rows.mono h fun v w'' hh => ⟨rfl, v, rfl, hh⟩
    | halt x w' =>
      rw [hr] at h
      exact False.elim h
  · rw [if_neg hg] at h ⊢
    unfold wpList
    exact ⟨rfl, _, rfl, h⟩

theorem inv_any {n : Nat} {a0 : Act} {D : Nat → Value → World → Prop} {J : (Nat → Bool) → World → Prop} (hB : relB ops n = true) (hst : ∀ k v w w', D k v w → R w w' → D k v w')
    (hop : ∀ k o vs w S, k < n → ops[k]? = some o → Down ops n S → S k = false → (∀ j ∈ depsOf o, S j = true) → J S w → (∀ j ∈ depsOf o, D j (vs j) w) → relOp P ops (fun w w' => R w w' ∧ J (setB S k) w') (D k) o (acts ops vs a0 k) w)
    (htail : ∀ vs w, J (fun i => decide (i < n)) w → (∀ k, k < n → D k (vs k) w) → wpList P ops Q (ops.toList.drop n) (acts ops vs a0 n) w) :
    ∀ (f : Nat) (un : List Nat) (listed : Array Bool) (vs : Nat → Value) (a : Act) (w : World), un.length = f → un.Nodup → (∀ i, i ∈ un ↔ i < n ∧ listed.getD i true = false) → HeadInv .any ops n listed →
      Rep ops n a0 vs (fun i => listed.getD i false) a → (∀ i, i < n → listed.getD i false = true → D i (vs i) w) → Down ops n (fun i => listed.getD i false) → J (fun i => listed.getD i false) w → wpAny P .any ops Q (f + (ops.size - n)) listed a w := by
  simp only [relB, Bool.and_eq_true, decide_eq_true_eq] at hB
  obtain ⟨⟨⟨⟨⟨⟨hsel, hn⟩, hs⟩, hc⟩, hpl⟩, hself⟩, hseq⟩ := hB
  intro f
  induction f with
  | zero =>
    intro un listed vs a w hf _ hun inv hrep hD hdown hJ
    obtain rfl : un = [] := List.eq_nil_of_length_eq_zero hf
    have hall : ∀ i, i < n → listed.getD i false = true := fun i hi => by
      cases h : listed.getD i false with
      | true => rfl
      | false => exact absurd ((hun i).2 ⟨hi, getD_in (by rw [inv.size]; omega) h⟩) (by simp)
    have hl := upto_array ops.size n listed inv.size fun i hi => ⟨fun h => (Nat.lt_or_ge i n).resolve_right fun h' => by
      rw [getD_both (inv.tail i h' hi)] at h
      exact absurd h (by simp), fun h => hall i h⟩
    have ha : a = acts ops vs a0 n := rep_unique hrep (rep_acts a0 vs hpl n (Nat.le_refl _)) fun i hi => by simp [hi, hall i hi]
    have hdl : (ops.toList.drop n).length = ops.size - n := by simp
    have hJe : (fun i => listed.getD i false) = (fun i => decide (i < n)) := by
      funext i
      by_cases hi : i < n
      · rw [hall i hi]; simp [hi]
      · by_cases hi2 : i < ops.size
        · rw [getD_both (inv.tail i (by omega) hi2)]; simp [hi]
        · have : listed.getD i false = false := by
            have h2 : listed.size ≤ i := by rw [inv.size]; omega
            simp [Array.getD, Nat.not_lt.2 h2]
          rw [this]; simp [hi]
    rw [hJe] at hJ
    have := wpAny_of_seq (P := P) (md := .any) (ops := ops) (Q' := Q) (ops.toList.drop n) n listed a w (fun j => by simp [List.getElem?_drop]) (by rw [hdl, hl]; exact hseq) (by rw [ha]; exact htail vs w hJ fun k hk => hD k hk (hall k hk))
    rw [hdl] at this
    rw [Nat.zero_add]
    exact this
  | succ f ih =>
    intro un listed vs a w hf hnd hun inv hrep hD hdown hJ
    have hex : ∃ i, i < n ∧ listed.getD i true = false := by
      cases un with
      | nil => simp at hf
      | cons i un => exact ⟨i, (hun i).1 (by simp)⟩
    have hready : ∃ i, i ∈ Region.ready .any ops listed := by
      obtain ⟨i, hi⟩ := hex
      induction i using Nat.strongRecOn with
      | _ i ihi =>
        obtain ⟨o, ho, _, hlt, _⟩ := plain_spec hpl hi.1
        by_cases hall : ∀ e ∈ o.after, Region.binds .any e = true → listed.getD e.on false = true
        · exact ⟨i, mem_ready.2 ⟨hi.2, o, ho, hall⟩⟩
        · simp only [Classical.not_forall] at hall
          obtain ⟨e, he, hb, hne⟩ := hall
          have hlt' : e.on < i := hlt e.on (by simp only [depsOf, List.mem_map, List.mem_filter]; exact ⟨e, ⟨by simpa using he, hb⟩, rfl⟩)
          exact ihi e.on hlt' ⟨by omega, getD_in (by rw [inv.size]; omega) (by simpa using hne)⟩
    obtain ⟨i0, hi0⟩ := hex
    rw [show f + 1 + (ops.size - n) = (f + (ops.size - n)) + 1 by omega]
    refine ⟨fun h0 => (by obtain ⟨i, hi⟩ := hready; rw [h0] at hi; exact absurd hi (by simp)), fun j hj => ?_⟩
    have hjn : j < n := by
      rcases Nat.lt_or_ge j n with h | h
      · exact h
      · have hjs : j < ops.size := by
          obtain ⟨_, o, ho, _⟩ := mem_ready.1 hj
          exact (Array.getElem?_eq_some_iff.1 ho).1
        exact absurd hj (tail_waits hs hc (show n < ops.size by omega) inv _ i0 rfl hi0.1 hi0.2 j h)
    obtain ⟨hjun, o, ho, hall⟩ := mem_ready.1 hj
    obtain ⟨o', ho', hg, hlt, _⟩ := plain_spec hpl hjn
    obtain rfl : o = o' := Option.some.inj (ho.symm.trans ho')
    have hdeps : ∀ i ∈ depsOf o, listed.getD i false = true := fun i hi => by
      simp only [depsOf, List.mem_map, List.mem_filter] at hi
      obtain ⟨e, ⟨he, hb⟩, rfl⟩ := hi
      exact hall e (by simpa using he) hb
    have he := eval_rep (vs := vs) hpl hself (Region.noSelect_spec hsel j o · · ho) hrep hjn ho hdeps
    have hsz : a.tmps.size = (acts ops vs a0 j).tmps.size := hrep.size.trans (rep_acts a0 vs hpl j (by omega)).size.symm
    have hSj : listed.getD j false = false := by
      have hjs : j < listed.size := by rw [inv.size]; omega
      have h1 : listed.getD j true = false := hjun
      simp only [Array.getD, hjs, dif_pos] at h1 ⊢
      exact h1
    refine wpOp_rel ho (wanted_rep hpl hrep hjn ho hdeps) he hsz (hop j o vs w _ hjn ho hdown hSj hdeps hJ fun i hi => hD i (by have := hlt i hi; omega) (hdeps i hi)) fun v w' hr hDv => ?_
    have hjs : j < listed.size := by rw [inv.size]; omega
    have hset : ∀ i, (listed.setIfInBounds j true).getD i false = true ↔ i = j ∨ listed.getD i false = true := fun i => by
      by_cases hij : j = i
      · subst hij; simp [hjs]
      · rw [getD_set_ne false hij]
        exact ⟨.inr, fun h => h.resolve_left fun e => hij e.symm⟩
    have hset2 : ∀ i, (listed.setIfInBounds j true).getD i true = false ↔ i ≠ j ∧ listed.getD i true = false := fun i => by
      by_cases hij : j = i
      · subst hij; simp [hjs]
      · rw [getD_set_ne true hij]
        exact ⟨fun h => ⟨fun e => hij e.symm, h⟩, fun h => h.2⟩
    have hsetB : (fun i => (listed.setIfInBounds j true).getD i false) = setB (fun i => listed.getD i false) j := by
      funext i
      unfold setB
      by_cases hij : j = i
      · subst hij; simp [hjs]
      · rw [getD_set_ne false hij, if_neg fun e => hij e.symm]
    have hju : j ∈ un := (hun j).2 ⟨hjn, hjun⟩
    refine ih (un.erase j) _ (fun i => if i = j then v else vs i) _ w' (by rw [List.length_erase_of_mem hju, hf]; rfl) (hnd.erase j) (fun i => ?_) (inv.set hj hjn) (rep_put hpl hrep hjn ho v _ hset) (fun i hi hS => ?_) ?_ (by rw [hsetB]; exact hr.2)
    · rw [hnd.mem_erase_iff, hun, hset2]
      exact ⟨fun h => ⟨h.2.1, h.1, h.2.2⟩, fun h => ⟨h.2.1, h.1, h.2.2⟩⟩
    · by_cases hij : i = j
      · subst hij; rw [if_pos rfl]; exact hDv
      · rw [if_neg hij]
        exact hst _ _ _ _ (hD i hi (((hset i).1 hS).resolve_left hij)) hr.1
    · intro i q hi hq hS i2 hi2
      by_cases hij : i = j
      · subst hij
        obtain rfl : o = q := Option.some.inj (ho.symm.trans hq)
        exact ⟨hlt i2 hi2, (hset i2).2 (.inr (hdeps i2 hi2))⟩
      · obtain ⟨h1, h2⟩ := hdown i q hi hq (((hset i).1 hS).resolve_left hij) i2 hi2
        exact ⟨h1, (hset i2).2 (.inr h2)⟩

/-- THE LAW, in its third form. -/
theorem wp_region_inv {id : Nat} {a : Act} {w : World} {l : List Oper} (n s : Nat) (R : World → World → Prop) (ks : List Nat) (I : List Bool → World → Prop) (hm : P.follows .mixedOrders = true) (hB : relB l.toArray n = true) (hS : sizeB l.toArray n s = true) (hs : a.tmps.size = s) (hG : guardB l.toArray n = true)
    (Ds : List (Yld R)) (hD : Ds.length = n) (h0 : I (ks.map fun _ => false) w.drew) (h : ∀ vs, RegHeadI P l.toArray R I ks a n Ds vs l Ds 0)
    (ht : ∀ vs w', I (ks.map fun i => decide (i < n)) w' → allOf (fun i w => ((Ds[i]?).getD (Yld.is undef)).p (vs i) w) w' (List.range n) → wpList P l.toArray Q (l.drop n) (acts l.toArray (valAt Ds vs) a n) w') : (Code.region id l.toArray true).wp P Q a w := by
  have hB' := hB
  simp only [relB, Bool.and_eq_true, decide_eq_true_eq] at hB'
  obtain ⟨⟨⟨⟨⟨⟨hsel, hn⟩, _⟩, _⟩, hpl⟩, hself⟩, _⟩ := hB'
  subst hs
  refine wp_region_any hm ?_
  have hDs : ∀ k, k < n → ∃ D, Ds[k]? = some D := fun k hk => ⟨Ds[k]'(by omega), List.getElem?_eq_getElem (by omega)⟩
  have key := inv_any (P := P) (Q := Q) (ops := l.toArray) (D := fun k => ((Ds[k]?).getD (Yld.is undef)).p) (a0 := a) (J := fun S w => I (ks.map S) w) hB (fun k v w w' h1 h2 => ((Ds[k]?).getD (Yld.is undef)).st v w w' h1 h2)
    (fun k o vs w' S hk ho hdown hSk hSd hI hdeps => by
      obtain ⟨D, hDk⟩ := hDs k hk
      obtain ⟨o', ho', hh⟩ := regI_head (h vs) k D hDk
      obtain rfl : o = o' := Option.some.inj (ho.symm.trans (by simpa using ho'))
      rw [Nat.zero_add] at hh
      have hh := hh S w' hdown hSk hSd hI (allOf_iff.2 hdeps)
      obtain ⟨o2, ho2, hgu, hlt, hoth⟩ := plain_spec hpl hk
      obtain rfl : o = o2 := Option.some.inj (ho.symm.trans ho2)
      have hrep := rep_acts a vs hpl k (by omega)
      have hval : ∀ j ∈ depsOf o, valAt Ds vs j = vs j := fun j hj => by
        have hjn : j < n := by have := hlt j hj; omega
        obtain ⟨Dj, hDj⟩ := hDs j hjn
        have := hdeps j hj
        simp only [hDj, Option.getD_some] at this
        simp only [valAt, hDj]
        exact Dj.value_eq _ _ this
      have hslot : ∀ j q d, j ∈ depsOf o → l.toArray[j]? = some q → q.dst = some d → (acts l.toArray vs a k).tmps[d]? = some (vs j) := fun j q d hj hq hd => by
        have hjk := hlt j hj
        have h1 := hrep.val j q d (by omega) hq hd (by simpa using hjk)
        have h2 := size_spec hS (show j < n by omega) hq hd
        rw [h1, Array.getElem?_setIfInBounds_self, if_pos h2]
      have he : execOp (acts l.toArray vs a k).eval o = execOp (lookD l.toArray Ds vs a n) o := execOp_congr o (Region.noSelect_spec hsel k o · · ho) fun x hx => by
        cases x with
        | tmp t =>
          have ht : t ∈ tmpsOf o := List.mem_filterMap.2 ⟨.tmp t, by simpa using hx, rfl⟩
          show (acts l.toArray vs a k).tmps.getD t undef = match writer l.toArray t n with
            | some j => valAt Ds vs j
            | none => a.tmps.getD t undef
          cases hwr : writer l.toArray t n with
          | some j =>
            obtain ⟨hjn, q, hq, hqt⟩ := writer_some hwr
            have hjk : j ≠ k := fun e => by
              subst e
              obtain rfl : o = q := Option.some.inj (ho.symm.trans hq)
              exact self_spec hself hk ho t ht hqt
            obtain ⟨q', hq', _, hdep⟩ := hoth j hjn hjk
            obtain rfl : q = q' := Option.some.inj (hq.symm.trans hq')
            have hjd := hdep t ht hqt
            have h1 := hslot j q t hjd hq hqt
            show _ = valAt Ds vs j
            rw [hval j hjd]
            simp [h1]
          | none =>
            have h1 := hrep.other t fun j q hj hq _ => writer_none hwr j q (by omega) hq
            show _ = a.tmps.getD t undef
            simp [h1]
        | _ => rfl
      have hwn : Region.wanted o (yielded l.toArray (acts l.toArray vs a k).tmps) = Region.wanted o (yieldD Ds vs) := by
        unfold Region.wanted
        cases hgd : o.guard with
        | none => rfl
        | some gb =>
          obtain ⟨g, b⟩ := gb
          have hgm := hgu g b hgd
          obtain ⟨q, d, hq, hd⟩ := guard_spec hG hk ho hgd
          have h1 := hslot g q d hgm hq hd
          have : yielded l.toArray (acts l.toArray vs a k).tmps g = yieldD Ds vs g := by
            simp only [yielded, hq, yieldD, hval g hgm, Option.bind_some, hd, h1]
            cases vs g <;> rfl
          simp only [this]
      have hrel := relOp_of_atI (ops := l.toArray) he hwn hh
      simp only [hDk, Option.getD_some]
      exact hrel)
    (fun vs w' hI hDv => by
      have h1 := ht vs w' hI (allOf_iff.2 fun i hi => hDv i (List.mem_range.1 hi))
      have h2 : acts l.toArray (valAt Ds vs) a n = acts l.toArray vs a n := by
        have : ∀ k, k ≤ n → acts l.toArray (valAt Ds vs) a k = acts l.toArray vs a k := by
          intro k
          induction k with
          | zero => intro _; rfl
          | succ k ih =>
            intro hk
            obtain ⟨D, hDk⟩ := hDs k (by omega)
            have h3 := hDv k (by omega)
            simp only [hDk, Option.getD_some] at h3
            have h4 : valAt Ds vs k = vs k := by
              simp only [valAt, hDk]
              exact D.value_eq _ _ h3
            simp only [acts, ih (by omega), h4]
        exact this n (Nat.le_refl _)
      rw [h2] at h1
      simpa using h1)
    n (List.range n) (Array.replicate l.toArray.size false) (fun _ => undef) a w.drew (by simp) List.nodup_range
    (fun i => by
      rw [List.mem_range]
      exact ⟨fun hi => ⟨hi, getD_in (by simp at hn ⊢; omega) (getD_replicate_false _ _)⟩, fun hi => hi.1⟩)
    ⟨by simp, fun j oj _ hl => (by rw [getD_replicate_false] at hl; cases hl), fun t _ ht => getD_in (by simpa using ht) (getD_replicate_false _ _)⟩
    ⟨rfl, rfl, fun _ _ => rfl, fun k o d _ _ _ hS => (by rw [getD_replicate_false] at hS; cases hS)⟩ (fun i _ hS => (by rw [getD_replicate_false] at hS; cases hS))
    (fun j q _ _ hS => (by have hS : (Array.replicate l.toArray.size false).getD j false = true := hS; rw [getD_replicate_false] at hS; cases hS)) (by
      have : (fun i => (Array.replicate l.toArray.size false).getD i false) = fun _ => false := by
        funext i; exact getD_replicate_false _ _
      rw [this]; exact h0)
  rw [show n + (l.toArray.size - n) = l.toArray.size by simp at hn ⊢; omega] at key
  exact key

theorem relAtI.value {R' : World → World → Prop} {p : Value → World → Prop} {u : Value} {o : Oper} {E : Operand → Value} {y : Nat → Option Bool} {w w' : World} (hw : Region.wanted o y = true) (hr : (execOp E o).run P w = .ok (.value u) w') (hR : R' w w') (hD : p u w') : relAtI P R' p o E y w := by
  unfold relAtI
  rw [if_pos hw, hr]
  exact ⟨hR, hD⟩
theorem relAtI.valueS {R' : World → World → Prop} {p : Value → World → Prop} {u : Value} {o : Oper} {E : Operand → Value} {y : Nat → Option Bool} {w w' : World} {s : Sem Value} (hw : Region.wanted o y = true) (he : execOp E o = valS s) (hr : s.run P w = .ok u w') (hR : R' w w') (hD : p u w') : relAtI P R' p o E y w :=
  relAtI.value hw (by rw [he]; exact run_valS hr) hR hD
theorem relAtI.pure {R' : World → World → Prop} {u : Value} {o : Oper} {E : Operand → Value} {y : Nat → Option Bool} {w : World} (hR : R' w w) (hw : Region.wanted o y = true) (hr : (execOp E o).run P w = .ok (.value u) w) : relAtI P R' (Yld.is (R := R) u).p o E y w :=
  relAtI.value hw hr hR rfl
theorem relAtI.pureS {R' : World → World → Prop} {u : Value} {o : Oper} {E : Operand → Value} {y : Nat → Option Bool} {w : World} {s : Sem Value} (hR : R' w w) (hw : Region.wanted o y = true) (he : execOp E o = valS s) (hr : s.run P w = .ok u w) : relAtI P R' (Yld.is (R := R) u).p o E y w :=
  relAtI.valueS hw he hr hR rfl
theorem relAtI.skip {R' : World → World → Prop} {o : Oper} {E : Operand → Value} {y : Nat → Option Bool} {w : World} (hR : R' w w) (hw : Region.wanted o y = false) : relAtI P R' (Yld.is (R := R) undef).p o E y w := by
  unfold relAtI
  rw [if_neg (by rw [hw]; decide)]
  exact ⟨hR, rfl⟩
/-- An operation that only acts. -/
def actS (s : Sem Unit) : Sem Next := do s; pure .skip
theorem relAtI.act {R' : World → World → Prop} {p : Value → World → Prop} {o : Oper} {E : Operand → Value} {y : Nat → Option Bool} {w w' : World} {s : Sem Unit} (hw : Region.wanted o y = true) (he : execOp E o = actS s) (hr : s.run P w = .ok () w') (hR : R' w w') (hD : p undef w') : relAtI P R' p o E y w := by
  unfold relAtI
  rw [if_pos hw, he]
  have : (actS s).run P w = .ok .skip w' := by simp [actS, hr]
  rw [this]
  exact ⟨hR, hD⟩
theorem relAtI.call {R' : World → World → Prop} {p : Value → World → Prop} {f : FuncId} {args : Array Value} {o : Oper} {E : Operand → Value} {y : Nat → Option Bool} {w : World} (hw : Region.wanted o y = true) (hr : (execOp E o).run P w = .ok (.enter f args) w) (h : Calls P f args w fun e w' => ∃ v, e = .returned v ∧ R' w w' ∧ p v w') : relAtI P R' p o E y w := by
  unfold relAtI
  rw [if_pos hw, hr]
  exact h
end
end Go.Proofs.YtgpenpnobjecgaaGreatDoor
