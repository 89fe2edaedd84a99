/- A region that draws its order, whose first operations (calls and makings of memory among them) each keep to a relation between worlds: one look at each operation, whatever the order; then the rest in the order of the text. -/
import Derived.WalkKit
import Derived.KernelRfl
import Derived.StillTail
/- Rel -/
namespace Go.Proofs.YtgpenpnobjecgaaGreatDoor
set_option maxRecDepth 100000
open Go.RowKit

/-- From world w the operation yields a value that meets D, in a world that R joins to w; it ends in no other way. -/
def relOp (P : Program) (ops : Array Oper) (R : World → World → Prop) (D : Value → World → Prop) (o : Oper) (a : Act) (w : World) : Prop :=
  wpList P ops (fun e a' w' => e = .normal ∧ ∃ v, a' = a.put o.dst v ∧ R w w' ∧ D v w') [o] a w

def depsOf (o : Oper) : List Nat := (o.after.toList.filter (Region.binds .any)).map (·.on)
def allOf (F : Nat → World → Prop) (w : World) : List Nat → Prop
  | [] => True
  | i :: l => F i w ∧ allOf F w l
theorem allOf_iff {F : Nat → World → Prop} {w : World} : ∀ {l : List Nat}, allOf F w l ↔ ∀ i ∈ l, F i w
  | [] => by simp [allOf]
  | i :: l => by simp [allOf, allOf_iff (l := l)]

/-- What a value is to meet, and goes on meeting as the relation's worlds follow one another. -/
structure Post (R : World → World → Prop) where
  p : Value → World → Prop
  st : ∀ v w w', p v w → R w w' → p v w'
/-- It is this one value. -/
def Post.is {R : World → World → Prop} (v : Value) : Post R := ⟨fun u _ => u = v, fun _ _ _ h _ => h⟩
def Post.any {R : World → World → Prop} : Post R := ⟨fun _ _ => True, fun _ _ _ h _ => h⟩

/-- What is to be shown: each operation for itself, in whatever world the relation allows in which the values that it waits for are as they should be; then the rest. -/
def RelHead (P : Program) (ops : Array Oper) (R : World → World → Prop) (w0 : World) (tail : Act → World → Prop) : List (Oper × Post R) → (Nat → World → Prop) → Nat → Act → Prop
  | [], F, k, a => ∀ w, R w0 w → allOf F w (List.range k) → tail a w
  | (o, D) :: l, F, k, a => (∀ w, R w0 w → allOf F w (depsOf o) → relOp P ops R D.p o a w) ∧ ∀ v, RelHead P ops R w0 tail l (fun i w => if i = k then D.p v w else F i w) (k + 1) (a.put o.dst v)

def tmpsOf (o : Oper) : List Tmp := o.op.operands.toList.filterMap fun | .tmp t => some t | _ => none
/-- The form that the region must have: its first n operations are plain, write slots of their own, read of these only what they wait for, and wait only for earlier ones. -/
def plainB (ops : Array Oper) (n : Nat) : Bool := (List.range n).all fun k => match ops[k]? with
  | none => false
  | some o => (match o.guard with | none => true | some (g, _) => (depsOf o).contains g) && (depsOf o).all (fun j => decide (j < k)) && (List.range n).all fun j => j == k || match ops[j]? with
    | none => false
    | some q => (o.dst.isNone || q.dst != o.dst) && ((tmpsOf o).all fun t => q.dst != some t || (depsOf o).contains j)
def selfB (ops : Array Oper) (n : Nat) : Bool := (List.range n).all fun k => match ops[k]? with
  | none => false
  | some o => (tmpsOf o).all fun t => o.dst != some t
def relB (ops : Array Oper) (n : Nat) : Bool :=
  Region.noSelect ops && decide (n ≤ ops.size) && Region.sinkB .any ops n && Region.chainB .any ops n && plainB ops n && selfB ops n && Region.seqB .any ops (ops.size - n) n ((Array.range ops.size).map fun i => decide (i < n))

section
variable {P : Program} {ops : Array Oper} {R : World → World → Prop} {Q : Exit → Act → World → Prop}

theorem put_same {a a2 : Act} {dst : Option Tmp} {u v : Value} (e : a.put dst u = a.put dst v) (hs : a2.tmps.size = a.tmps.size) : a2.put dst u = a2.put dst v := by
  cases dst with
  | none => rfl
  | some d =>
    by_cases hd : d < a.tmps.size
    · have h1 : (a.put (some d) u).tmps[d]? = (a.put (some d) v).tmps[d]? := by rw [e]
      have h2 : u = v := by
        simp [Act.put, hd] at h1
        exact h1
      rw [h2]
    · have hd2 : ¬ d < a2.tmps.size := by rw [hs]; exact hd
      simp [Act.put, Array.setIfInBounds, hd2]

theorem upon_rel {o : Oper} {a a2 : Act} {w : World} {K : Act → World → Prop} {D : Value → World → Prop} {r : Result Next}
    (hK : ∀ v w', R w w' → D v w' → K (a2.put o.dst v) w') (hs : a2.tmps.size = a.tmps.size)
    (h0 : o.upon P a (fun a' w' => Exit.normal = .normal ∧ ∃ v, a' = a.put o.dst v ∧ R w w' ∧ D v w') (fun e a' w' => e = .normal ∧ ∃ v, a' = a.put o.dst v ∧ R w w' ∧ D v w') r) :
    o.upon P a2 K Q r := by
  have back : ∀ u w', (∃ v, a.put o.dst u = a.put o.dst v ∧ R w w' ∧ D v w') → K (a2.put o.dst u) w' := fun u w' ⟨v, e, hr, hD⟩ => by
    rw [put_same e hs]
    exact hK v _ hr hD
  cases r with
  | ok n w' =>
    cases n <;> simp only [Oper.upon] at h0 ⊢
    case value u => exact back u _ h0.2
    case skip => exact back undef _ h0.2
    case defer df =>
      obtain ⟨_, v, e, _⟩ := h0
      have : (df :: a.defers) = a.defers := by
        have h1 := congrArg Act.defers e
        cases hd : o.dst <;> simp [Act.put, hd] at h1
      exact absurd (congrArg List.length this) (by simp)
    case enter f args =>
      refine Calls.mono h0 fun e w'' he => ?_
      cases e with
      | returned u => exact back u _ he.2
      | panicked c => exact absurd he.1 (by simp)
      | outgrown => obtain ⟨_, _, hf, _⟩ := he; exact absurd hf (by simp)
    case row row args => exact Rows.mono h0 fun u w'' he => back u _ he.2
  | halt x w' => cases x <;> simp only [Oper.upon] at h0; exact absurd h0.1 (by simp)

theorem wpOp_rel {j : Nat} {o : Oper} {a a2 : Act} {w : World} {K : Act → World → Prop} {D : Value → World → Prop} (hj : ops[j]? = some o) (hw : Region.wanted o (yielded ops a2.tmps) = Region.wanted o (yielded ops a.tmps))
    (he : execOp a2.eval o = execOp a.eval o) (hs : a2.tmps.size = a.tmps.size) (h : relOp P ops R D o a w) (hK : ∀ v w', R w w' → D v w' → K (a2.put o.dst v) w') : wpOp P ops Q j K a2 w := by
  unfold wpOp
  simp only [hj]
  rw [hw]
  unfold relOp wpList at h
  by_cases hg : Region.wanted o (yielded ops a.tmps) = true
  · rw [if_pos hg] at h ⊢
    rcases h with h | ⟨_, _, _, hf, _⟩
    · left
      unfold Oper.wp at h ⊢
      rw [he]
      exact upon_rel hK hs h
    · exact absurd hf (by simp)
  · rw [if_neg hg] at h ⊢
    unfold wpList at h
    obtain ⟨_, v, e, hR, hD⟩ := h
    rw [put_same e hs]
    exact hK v w hR hD

/-- The frame in which the first k operations have yielded the values vs. -/
def acts (ops : Array Oper) (vs : Nat → Value) (a0 : Act) : Nat → Act
  | 0 => a0
  | k + 1 => match ops[k]? with
    | some o => (acts ops vs a0 k).put o.dst (vs k)
    | none => acts ops vs a0 k
structure Rep (ops : Array Oper) (n : Nat) (a0 : Act) (vs : Nat → Value) (S : Nat → Bool) (a : Act) : Prop where
  defers : a.defers = a0.defers
  size : a.tmps.size = a0.tmps.size
  other : ∀ t, (∀ k o, k < n → ops[k]? = some o → S k = true → o.dst ≠ some t) → a.tmps[t]? = a0.tmps[t]?
  val : ∀ k o d, k < n → ops[k]? = some o → o.dst = some d → S k = true → a.tmps[d]? = (a0.tmps.setIfInBounds d (vs k))[d]?

theorem plain_spec {n k : Nat} (h : plainB ops n = true) (hk : k < n) : ∃ o, ops[k]? = some o ∧ (∀ g b, o.guard = some (g, b) → g ∈ depsOf o) ∧ (∀ j ∈ depsOf o, j < k) ∧
    ∀ j, j < n → j ≠ k → ∃ q, ops[j]? = some q ∧ (∀ d, o.dst = some d → q.dst ≠ some d) ∧ ∀ t ∈ tmpsOf o, q.dst = some t → j ∈ depsOf o := by
  have h1 := List.all_eq_true.1 h k (List.mem_range.2 hk)
  cases ho : ops[k]? with
  | none => simp [ho] at h1
  | some o =>
    simp only [ho, Bool.and_eq_true, List.all_eq_true, decide_eq_true_eq, List.mem_range, Bool.or_eq_true, beq_iff_eq] at h1
    obtain ⟨⟨hg, hdep⟩, hall⟩ := h1
    refine ⟨o, rfl, fun g b hgb => by rw [hgb] at hg; simpa using hg, hdep, fun j hj hjk => ?_⟩
    rcases hall j hj with h2 | h2
    · exact absurd h2 hjk
    · cases hq : ops[j]? with
      | none => simp [hq] at h2
      | some q =>
        simp only [hq, Bool.and_eq_true, List.all_eq_true, Bool.or_eq_true, bne_iff_ne, ne_eq] at h2
        refine ⟨q, rfl, fun d hd => ?_, fun t ht hqt => ?_⟩
        · rcases h2.1 with h3 | h3
          · rw [hd] at h3; simp at h3
          · rw [← hd]; exact h3
        · rcases h2.2 t ht with h3 | h3
          · exact absurd hqt h3
          · simpa using h3
theorem self_spec {n k : Nat} {o : Oper} (h : selfB ops n = true) (hk : k < n) (ho : ops[k]? = some o) : ∀ t ∈ tmpsOf o, o.dst ≠ some t := by
  have h1 := List.all_eq_true.1 h k (List.mem_range.2 hk)
  simp only [ho, List.all_eq_true, bne_iff_ne, ne_eq] at h1
  exact h1

theorem rep_put {n k : Nat} {a0 a : Act} {vs : Nat → Value} {S : Nat → Bool} {o : Oper} (hB : plainB ops n = true) (h : Rep ops n a0 vs S a) (hk : k < n) (ho : ops[k]? = some o) (v : Value) (S' : Nat → Bool) (hS : ∀ i, S' i = true ↔ i = k ∨ S i = true) :
    Rep ops n a0 (fun i => if i = k then v else vs i) S' (a.put o.dst v) := by
  obtain ⟨o', ho', _, _, hoth⟩ := plain_spec hB hk
  obtain rfl : o = o' := Option.some.inj (ho.symm.trans ho')
  cases hd : o.dst with
  | none =>
    refine ⟨h.defers, h.size, fun t ht => h.other t fun i q hi hq hSi => ht i q hi hq ((hS i).2 (.inr hSi)), fun i q e hi hq he hSi => ?_⟩
    by_cases hik : i = k
    · subst hik
      obtain rfl : o = q := Option.some.inj (ho.symm.trans hq)
      rw [hd] at he; cases he
    · rw [if_neg hik]
      exact h.val i q e hi hq he (((hS i).1 hSi).resolve_left hik)
  | some d =>
    refine ⟨h.defers, ?_, ?_, ?_⟩
    · simp [Act.put, h.size]
    · intro t ht
      have h1 := ht k o hk ho ((hS k).2 (.inl rfl))
      rw [hd] at h1
      have hne : d ≠ t := fun e => h1 (by rw [e])
      simp only [Act.put, Array.getElem?_setIfInBounds_ne hne]
      exact h.other t fun i q hi hq hSi => ht i q hi hq ((hS i).2 (.inr hSi))
    · intro i q e hi hq he hSi
      by_cases hik : i = k
      · subst hik
        obtain rfl : o = q := Option.some.inj (ho.symm.trans hq)
        obtain rfl : d = e := Option.some.inj (hd.symm.trans he)
        simp only [Act.put, if_true, Array.getElem?_setIfInBounds_self, h.size]
      · obtain ⟨q', hq', hne, _⟩ := hoth i hi hik
        obtain rfl : q = q' := Option.some.inj (hq.symm.trans hq')
        have hde : d ≠ e := fun e' => hne d hd (by rw [he, e'])
        rw [if_neg hik]
        simp only [Act.put, Array.getElem?_setIfInBounds_ne hde]
        exact h.val i q e hi hq he (((hS i).1 hSi).resolve_left hik)
theorem rep_vs {n : Nat} {a0 a : Act} {vs vs' : Nat → Value} {S S' : Nat → Bool} (h : Rep ops n a0 vs S a) (hv : ∀ i, S i = true → vs' i = vs i) (hS : ∀ i, i < n → (S' i = true ↔ S i = true)) : Rep ops n a0 vs' S' a :=
  ⟨h.defers, h.size, fun t ht => h.other t fun k o hk ho hs => ht k o hk ho ((hS k hk).2 hs), fun k o d hk ho hd hs => by rw [hv k ((hS k hk).1 hs)]; exact h.val k o d hk ho hd ((hS k hk).1 hs)⟩
theorem rep_acts {n : Nat} (a0 : Act) (vs : Nat → Value) (hB : plainB ops n = true) : ∀ k, k ≤ n → Rep ops n a0 vs (fun i => decide (i < k)) (acts ops vs a0 k)
  | 0, _ => ⟨rfl, rfl, fun _ _ => rfl, fun _ _ _ _ _ _ h => by simp at h⟩
  | k + 1, hk => by
    have ih := rep_acts a0 vs hB k (by omega)
    obtain ⟨o, ho, _, _, _⟩ := plain_spec hB (show k < n by omega)
    have := rep_put hB ih (show k < n by omega) ho (vs k) (fun i => decide (i < k + 1)) (fun i => by simp; omega)
    simp only [acts, ho]
    exact rep_vs this (fun i hi => by by_cases e : i = k <;> simp [e]) fun i _ => Iff.rfl
theorem rep_unique {n : Nat} {a0 a a' : Act} {vs : Nat → Value} {S S' : Nat → Bool} (h : Rep ops n a0 vs S a) (h' : Rep ops n a0 vs S' a') (hS : ∀ i, i < n → (S' i = true ↔ S i = true)) : a = a' := by
  have h'' := rep_vs h' (fun _ _ => rfl) (fun i hi => (hS i hi).symm)
  obtain ⟨t1, d1⟩ := a
  obtain ⟨t2, d2⟩ := a'
  have e1 : d1 = d2 := h.defers.trans h''.defers.symm
  have e2 : t1 = t2 := by
    apply Array.ext_getElem?
    intro t
    by_cases ht : ∃ k o, k < n ∧ ops[k]? = some o ∧ S k = true ∧ o.dst = some t
    · obtain ⟨k, o, hk, ho, hs, hd⟩ := ht
      exact (h.val k o t hk ho hd hs).trans (h''.val k o t hk ho hd hs).symm
    · have : ∀ k o, k < n → ops[k]? = some o → S k = true → o.dst ≠ some t := fun k o hk ho hs hd => ht ⟨k, o, hk, ho, hs, hd⟩
      exact (h.other t this).trans (h''.other t this).symm
  rw [e1, e2]
theorem eval_rep {n k : Nat} {a0 a : Act} {vs : Nat → Value} {S : Nat → Bool} {o : Oper} (hB : plainB ops n = true) (hSelf : selfB ops n = true) (hsel : ∀ cs b, o.op ≠ .select cs b) (h : Rep ops n a0 vs S a) (hk : k < n) (ho : ops[k]? = some o) (hdeps : ∀ j ∈ depsOf o, S j = true) :
    execOp a.eval o = execOp (acts ops vs a0 k).eval o := by
  have hR := rep_acts a0 vs hB k (by omega)
  obtain ⟨o', ho', _, hlt, hoth⟩ := plain_spec hB hk
  obtain rfl : o = o' := Option.some.inj (ho.symm.trans ho')
  refine execOp_congr o hsel fun x hx => ?_
  cases x with
  | tmp t =>
    have ht : t ∈ tmpsOf o := List.mem_filterMap.2 ⟨.tmp t, by simpa using hx, rfl⟩
    have key : a.tmps[t]? = (acts ops vs a0 k).tmps[t]? := by
      by_cases hex : ∃ j q, j < n ∧ ops[j]? = some q ∧ q.dst = some t
      · obtain ⟨j, q, hj, hq, hqt⟩ := hex
        have hjk : j ≠ k := fun e => by
          subst e
          obtain rfl : o = q := Option.some.inj (ho.symm.trans hq)
          exact self_spec hSelf hk ho t ht hqt
        obtain ⟨q', hq', _, hdep⟩ := hoth j hj hjk
        obtain rfl : q = q' := Option.some.inj (hq.symm.trans hq')
        have hjd := hdep t ht hqt
        exact (h.val j q t hj hq hqt (hdeps j hjd)).trans (hR.val j q t hj hq hqt (by simpa using hlt j hjd)).symm
      · exact (h.other t fun j q hj hq _ hqt => hex ⟨j, q, hj, hq, hqt⟩).trans (hR.other t fun j q hj hq _ hqt => hex ⟨j, q, hj, hq, hqt⟩).symm
    simp [Act.eval, key]
  | _ => rfl

theorem wanted_rep {n k : Nat} {a0 a : Act} {vs : Nat → Value} {S : Nat → Bool} {o : Oper} (hB : plainB ops n = true) (h : Rep ops n a0 vs S a) (hk : k < n) (ho : ops[k]? = some o) (hdeps : ∀ j ∈ depsOf o, S j = true) :
    Region.wanted o (yielded ops a.tmps) = Region.wanted o (yielded ops (acts ops vs a0 k).tmps) := by
  have hR := rep_acts a0 vs hB k (by omega)
  obtain ⟨o', ho', hg, hlt, hoth⟩ := plain_spec hB hk
  obtain rfl : o = o' := Option.some.inj (ho.symm.trans ho')
  unfold Region.wanted
  cases hgd : o.guard with
  | none => rfl
  | some gb =>
    obtain ⟨g, b⟩ := gb
    have hgm := hg g b hgd
    have hgk := hlt g hgm
    obtain ⟨q, hq, _, _, _⟩ := plain_spec hB (show g < n by omega)
    have : yielded ops a.tmps g = yielded ops (acts ops vs a0 k).tmps g := by
      cases hqe : q.dst with
      | none => simp [yielded, hq, hqe]
      | some e =>
        have key : a.tmps[e]? = (acts ops vs a0 k).tmps[e]? := (h.val g q e (by omega) hq hqe (hdeps g hgm)).trans (hR.val g q e (by omega) hq hqe (by simpa using hgk)).symm
        simp [yielded, hq, hqe, key]
    simp only [this]
theorem upto_array (m n : Nat) (listed : Array Bool) (hs : listed.size = m) (h : ∀ i, i < m → (listed.getD i false = true ↔ i < n)) : listed = (Array.range m).map fun i => decide (i < n) := by
  apply Array.ext_getElem?
  intro i
  by_cases hi : i < m
  · have := h i hi
    have hi' : i < listed.size := by omega
    simp [hi'] at this
    simp [hi, hi']
    by_cases hn : i < n <;> simp [hn] at this ⊢ <;> exact this
  · simp [hi, hs]

theorem rel_any {n : Nat} {w0 : World} {a0 : Act} {D : Nat → Value → World → Prop} (hB : relB ops n = true) (hst : ∀ k v w w', D k v w → R w w' → D k v w') (htr : ∀ w w' w'', R w w' → R w' w'' → R w w'')
    (hop : ∀ k o vs w, k < n → ops[k]? = some o → R w0 w → (∀ j ∈ depsOf o, D j (vs j) w) → relOp P ops R (D k) o (acts ops vs a0 k) w)
    (htail : ∀ vs w, R w0 w → (∀ k, k < n → D k (vs k) w) → wpList P ops Q (ops.toList.drop n) (acts ops vs a0 n) w) :
    ∀ (f : Nat) (un : List Nat) (listed : Array Bool) (vs : Nat → Value) (a : Act) (w : World), un.length = f → un.Nodup → (∀ i, i ∈ un ↔ i < n ∧ listed.getD i true = false) → HeadInv .any ops n listed →
      Rep ops n a0 vs (fun i => listed.getD i false) a → (∀ i, i < n → listed.getD i false = true → D i (vs i) w) → R w0 w → wpAny P .any ops Q (f + (ops.size - n)) listed a w := by
  simp only [relB, Bool.and_eq_true, decide_eq_true_eq] at hB
  obtain ⟨⟨⟨⟨⟨⟨hsel, hn⟩, hs⟩, hc⟩, hpl⟩, hself⟩, hseq⟩ := hB
  intro f
  induction f with
  | zero =>
    intro un listed vs a w hf _ hun inv hrep hD hR
    obtain rfl : un = [] := List.eq_nil_of_length_eq_zero hf
    have hall : ∀ i, i < n → listed.getD i false = true := fun i hi => by
      cases h : listed.getD i false with
      | true => rfl
      | false => exact absurd ((hun i).2 ⟨hi, getD_in (by rw [inv.size]; omega) h⟩) (by simp)
    have hl := upto_array ops.size n listed inv.size fun i hi => ⟨fun h => (Nat.lt_or_ge i n).resolve_right fun h' => by
      rw [getD_both (inv.tail i h' hi)] at h
      exact absurd h (by simp), fun h => hall i h⟩
    have ha : a = acts ops vs a0 n := rep_unique hrep (rep_acts a0 vs hpl n (Nat.le_refl _)) fun i hi => by simp [hi, hall i hi]
    have hdl : (ops.toList.drop n).length = ops.size - n := by simp
    have := wpAny_of_seq (P := P) (md := .any) (ops := ops) (Q' := Q) (ops.toList.drop n) n listed a w (fun j => by simp [List.getElem?_drop]) (by rw [hdl, hl]; exact hseq) (by rw [ha]; exact htail vs w hR fun k hk => hD k hk (hall k hk))
    rw [hdl] at this
    rw [Nat.zero_add]
    exact this
  | succ f ih =>
    intro un listed vs a w hf hnd hun inv hrep hD hR
    -- the least one that has not come up may come up
    have hex : ∃ i, i < n ∧ listed.getD i true = false := by
      cases un with
      | nil => simp at hf
      | cons i un => exact ⟨i, (hun i).1 (by simp)⟩
    have hready : ∃ i, i ∈ Region.ready .any ops listed := by
      obtain ⟨i, hi⟩ := hex
      induction i using Nat.strongRecOn with
      | _ i ihi =>
        obtain ⟨o, ho, _, hlt, _⟩ := plain_spec hpl hi.1
        by_cases hall : ∀ e ∈ o.after, Region.binds .any e = true → listed.getD e.on false = true
        · exact ⟨i, mem_ready.2 ⟨hi.2, o, ho, hall⟩⟩
        · simp only [Classical.not_forall] at hall
          obtain ⟨e, he, hb, hne⟩ := hall
          have hlt' : e.on < i := hlt e.on (by simp only [depsOf, List.mem_map, List.mem_filter]; exact ⟨e, ⟨by simpa using he, hb⟩, rfl⟩)
          exact ihi e.on hlt' ⟨by omega, getD_in (by rw [inv.size]; omega) (by simpa using hne)⟩
    obtain ⟨i0, hi0⟩ := hex
    rw [show f + 1 + (ops.size - n) = (f + (ops.size - n)) + 1 by omega]
    refine ⟨fun h0 => (by obtain ⟨i, hi⟩ := hready; rw [h0] at hi; exact absurd hi (by simp)), fun j hj => ?_⟩
    have hjn : j < n := by
      rcases Nat.lt_or_ge j n with h | h
      · exact h
      · have hjs : j < ops.size := by
          obtain ⟨_, o, ho, _⟩ := mem_ready.1 hj
          exact (Array.getElem?_eq_some_iff.1 ho).1
        exact absurd hj (tail_waits hs hc (show n < ops.size by omega) inv _ i0 rfl hi0.1 hi0.2 j h)
    obtain ⟨hjun, o, ho, hall⟩ := mem_ready.1 hj
    obtain ⟨o', ho', hg, hlt, _⟩ := plain_spec hpl hjn
    obtain rfl : o = o' := Option.some.inj (ho.symm.trans ho')
    have hdeps : ∀ i ∈ depsOf o, listed.getD i false = true := fun i hi => by
      simp only [depsOf, List.mem_map, List.mem_filter] at hi
      obtain ⟨e, ⟨he, hb⟩, rfl⟩ := hi
      exact hall e (by simpa using he) hb
    have he := eval_rep (vs := vs) hpl hself (Region.noSelect_spec hsel j o · · ho) hrep hjn ho hdeps
    have hsz : a.tmps.size = (acts ops vs a0 j).tmps.size := hrep.size.trans (rep_acts a0 vs hpl j (by omega)).size.symm
    refine wpOp_rel ho (wanted_rep hpl hrep hjn ho hdeps) he hsz (hop j o vs w hjn ho hR fun i hi => hD i (by have := hlt i hi; omega) (hdeps i hi)) fun v w' hr hDv => ?_
    have hjs : j < listed.size := by rw [inv.size]; omega
    have hset : ∀ i, (listed.setIfInBounds j true).getD i false = true ↔ i = j ∨ listed.getD i false = true := fun i => by
      by_cases hij : j = i
      · subst hij; simp [hjs]
      · rw [getD_set_ne false hij]
        exact ⟨.inr, fun h => h.resolve_left fun e => hij e.symm⟩
    have hset2 : ∀ i, (listed.setIfInBounds j true).getD i true = false ↔ i ≠ j ∧ listed.getD i true = false := fun i => by
      by_cases hij : j = i
      · subst hij; simp [hjs]
      · rw [getD_set_ne true hij]
        exact ⟨fun h => ⟨fun e => hij e.symm, h⟩, fun h => h.2⟩
    have hju : j ∈ un := (hun j).2 ⟨hjn, hjun⟩
    refine ih (un.erase j) _ (fun i => if i = j then v else vs i) _ w' (by rw [List.length_erase_of_mem hju, hf]; rfl) (hnd.erase j) (fun i => ?_) (inv.set hj hjn) (rep_put hpl hrep hjn ho v _ hset) (fun i hi hS => ?_) (htr _ _ _ hR hr)
    · rw [hnd.mem_erase_iff, hun, hset2]
      exact ⟨fun h => ⟨h.2.1, h.1, h.2.2⟩, fun h => ⟨h.2.1, h.1, h.2.2⟩⟩
    · by_cases hij : i = j
      · subst hij; rw [if_pos rfl]; exact hDv
      · rw [if_neg hij]
        exact hst _ _ _ _ (hD i hi (((hset i).1 hS).resolve_left hij)) hr

theorem RelHead.nil {w0 : World} {tail : Act → World → Prop} {F : Nat → World → Prop} {k : Nat} {a : Act} (h : ∀ w, R w0 w → allOf F w (List.range k) → tail a w) : RelHead P ops R w0 tail [] F k a := h
theorem RelHead.cons {w0 : World} {tail : Act → World → Prop} {F : Nat → World → Prop} {k : Nat} {a : Act} {o : Oper} {D : Post R} {l : List (Oper × Post R)} (h1 : ∀ w, R w0 w → allOf F w (depsOf o) → relOp P ops R D.p o a w)
    (h2 : ∀ v, RelHead P ops R w0 tail l (fun i w => if i = k then D.p v w else F i w) (k + 1) (a.put o.dst v)) : RelHead P ops R w0 tail ((o, D) :: l) F k a := ⟨h1, h2⟩

theorem relHead_at {w0 : World} {tail : Act → World → Prop} {D : Nat → Value → World → Prop} {a0 : Act} {n : Nat} (hpl : plainB ops n = true) (vs : Nat → Value) :
    ∀ (l : List (Oper × Post R)) (F : Nat → World → Prop) (k : Nat) (a : Act), k + l.length = n → (∀ j od, l[j]? = some od → ops[k + j]? = some od.1 ∧ D (k + j) = od.2.p) → (∀ i, i < k → ∀ w, F i w ↔ D i (vs i) w) → a = acts ops vs a0 k →
    RelHead P ops R w0 tail l F k a →
      (∀ j o w, k ≤ j → j < n → ops[j]? = some o → R w0 w → (∀ i ∈ depsOf o, D i (vs i) w) → relOp P ops R (D j) o (acts ops vs a0 j) w) ∧ (∀ w, R w0 w → (∀ i, i < n → D i (vs i) w) → tail (acts ops vs a0 n) w)
  | [], F, k, a, hk, _, hF, ha, h => by
    obtain rfl : k = n := by simpa using hk
    subst ha
    exact ⟨fun j o w h1 h2 => (by omega), fun w hR hD => h w hR (allOf_iff.2 fun i hi => (hF i (List.mem_range.1 hi) w).2 (hD i (List.mem_range.1 hi)))⟩
  | (o, Dk) :: l, F, k, a, hk, hl, hF, ha, h => by
    subst ha
    simp only [List.length_cons] at hk
    have h0 := hl 0 (o, Dk) rfl
    simp only [Nat.add_zero] at h0
    obtain ⟨o', ho', _, hlt, _⟩ := plain_spec hpl (show k < n by omega)
    obtain rfl : o = o' := Option.some.inj (h0.1.symm.trans ho')
    have ih := relHead_at (D := D) (a0 := a0) hpl vs l _ (k + 1) _ (by omega) (fun j od hj => by
      have := hl (j + 1) od hj
      rwa [show k + (j + 1) = k + 1 + j by omega] at this) (fun i hi w => by
      by_cases e : i = k
      · subst e; rw [if_pos rfl, h0.2]
      · rw [if_neg e]; exact hF i (by omega) w) (by simp only [acts, ho']) (h.2 (vs k))
    refine ⟨fun j q w h1 h2 hq hR hD => ?_, ih.2⟩
    by_cases e : j = k
    · subst e
      obtain rfl : o = q := Option.some.inj (ho'.symm.trans hq)
      rw [h0.2]
      exact h.1 w hR (allOf_iff.2 fun i hi => (hF i (hlt i hi) w).2 (hD i hi))
    · exact ih.1 j q w (by omega) h2 hq hR hD

/-- THE LAW: the region's first n operations each for itself, in the order of the text; then the rest as a list. -/
theorem wp_region_rel {id : Nat} {a : Act} {w : World} {l : List Oper} (n : Nat) (R : World → World → Prop) (hm : P.follows .mixedOrders = true) (hB : relB l.toArray n = true) (hrf : ∀ w, R w w) (htr : ∀ w w' w'', R w w' → R w' w'' → R w w'')
    (Ds : List (Post R)) (hD : Ds.length = n) (h : RelHead P l.toArray R w.drew (fun a' w' => wpList P l.toArray Q (l.drop n) a' w') ((l.take n).zip Ds) (fun _ _ => True) 0 a) : (Code.region id l.toArray true).wp P Q a w := by
  have hB' := hB
  simp only [relB, Bool.and_eq_true, decide_eq_true_eq] at hB'
  obtain ⟨⟨⟨⟨⟨⟨hsel, hn⟩, hs⟩, hc⟩, hpl⟩, hself⟩, hseq⟩ := hB'
  have hn' : n ≤ l.length := by simpa using hn
  have hat := fun vs => relHead_at (D := fun k => (Ds.getD k Post.any).p) (a0 := a) hpl vs _ _ 0 a (by simp [hD]; omega) (fun j od hj => by
    rw [List.getElem?_zip_eq_some, List.getElem?_take] at hj
    obtain ⟨h1, h2⟩ := hj
    split at h1
    · exact ⟨by simpa using h1, by simp [List.getD, h2]⟩
    · cases h1) (fun i hi => by omega) rfl h
  refine wp_region_any hm ?_
  have := rel_any (P := P) (Q := Q) (ops := l.toArray) (D := fun k => (Ds.getD k Post.any).p) (a0 := a) (w0 := w.drew) hB (fun k v w w' h1 h2 => (Ds.getD k Post.any).st v w w' h1 h2) htr
    (fun k o vs w' hk ho hR hDs => (hat vs).1 k o w' (Nat.zero_le _) hk ho hR hDs) (fun vs w' hR hDs => by simpa using (hat vs).2 w' hR hDs)
    n (List.range n) (Array.replicate l.toArray.size false) (fun _ => undef) a w.drew (by simp) List.nodup_range
    (fun i => by
      rw [List.mem_range]
      exact ⟨fun hi => ⟨hi, getD_in (by simp; omega) (getD_replicate_false _ _)⟩, fun hi => hi.1⟩)
    ⟨by simp, fun j oj _ hl => (by rw [getD_replicate_false] at hl; cases hl), fun t _ ht => getD_in (by simpa using ht) (getD_replicate_false _ _)⟩
    ⟨rfl, rfl, fun _ _ => rfl, fun k o d _ _ _ hS => (by rw [getD_replicate_false] at hS; cases hS)⟩ (fun i _ hS => (by rw [getD_replicate_false] at hS; cases hS)) (hrf _)
  rw [show n + (l.toArray.size - n) = l.toArray.size by omega] at this
  exact this

/-- The same, over both lists as they are written: for regions of many operations. -/
def RelHead2 (P : Program) (ops : Array Oper) (R : World → World → Prop) (w0 : World) (tail : Act → World → Prop) : List Oper → List (Post R) → (Nat → World → Prop) → Nat → Act → Prop
  | _, [], F, k, a => ∀ w, R w0 w → allOf F w (List.range k) → tail a w
  | [], _ :: _, _, _, _ => False
  | o :: l, D :: Ds, F, k, a => (∀ w, R w0 w → allOf F w (depsOf o) → relOp P ops R D.p o a w) ∧ ∀ v, RelHead2 P ops R w0 tail l Ds (fun i w => if i = k then D.p v w else F i w) (k + 1) (a.put o.dst v)
theorem RelHead2.nil {w0 : World} {tail : Act → World → Prop} {F : Nat → World → Prop} {k : Nat} {a : Act} {l : List Oper} (h : ∀ w, R w0 w → allOf F w (List.range k) → tail a w) : RelHead2 P ops R w0 tail l [] F k a := by
  cases l <;> exact h
theorem RelHead2.cons {w0 : World} {tail : Act → World → Prop} {F : Nat → World → Prop} {k : Nat} {a : Act} {o : Oper} {D : Post R} {l : List Oper} {Ds : List (Post R)} (h1 : ∀ w, R w0 w → allOf F w (depsOf o) → relOp P ops R D.p o a w)
    (h2 : ∀ v, RelHead2 P ops R w0 tail l Ds (fun i w => if i = k then D.p v w else F i w) (k + 1) (a.put o.dst v)) : RelHead2 P ops R w0 tail (o :: l) (D :: Ds) F k a := ⟨h1, h2⟩
theorem RelHead2.head {w0 : World} {tail : Act → World → Prop} : ∀ (Ds : List (Post R)) (l : List Oper) (F : Nat → World → Prop) (k : Nat) (a : Act), RelHead2 P ops R w0 tail l Ds F k a → RelHead P ops R w0 tail ((l.take Ds.length).zip Ds) F k a
  | [], l, F, k, a, h => by cases l <;> exact h
  | D :: Ds, [], F, k, a, h => False.elim h
  | D :: Ds, o :: l, F, k, a, h => ⟨h.1, fun v => RelHead2.head Ds l _ _ _ (h.2 v)⟩
theorem wp_region_rel2 {id : Nat} {a : Act} {w : World} {l : List Oper} (n : Nat) (R : World → World → Prop) (hm : P.follows .mixedOrders = true) (hB : relB l.toArray n = true) (hrf : ∀ w, R w w) (htr : ∀ w w' w'', R w w' → R w' w'' → R w w'')
    (Ds : List (Post R)) (hD : Ds.length = n) (h : RelHead2 P l.toArray R w.drew (fun a' w' => wpList P l.toArray Q (l.drop n) a' w') l Ds (fun _ _ => True) 0 a) : (Code.region id l.toArray true).wp P Q a w := by
  subst hD
  exact wp_region_rel _ R hm hB hrf htr Ds rfl (RelHead2.head _ _ _ _ _ h)
end
end Go.Proofs.YtgpenpnobjecgaaGreatDoor
