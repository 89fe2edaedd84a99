/- The hash that is being made: what New, Write, bytes, eight, Sum of package digest do to memory. -/
import Derived.WalkKit
import Derived.KernelRfl
import Derived.StillTail
import Derived.Test.YtpdhgijeanbmcaaGreatDoorProg
import Derived.Deep.QuietTactic
import Derived.BigQuiet
import Derived.Lib.Hide
import Derived.StillTailTactics
import Derived.Laws.AppendOwnNone
import Derived.Maps.AppendAt
import Derived.Deep.RegionWith
import Derived.Deep.RegionHeld3
/- Rel -/
namespace Go.Proofs.YtpdhgijeanbmcaaGreatDoor
set_option maxRecDepth 100000
open Go.RowKit

/-- From world w the operation yields a value that meets D, in a world that R joins to w; it ends in no other way. -/
def relOp (P : Program) (ops : Array Oper) (R : World → World → Prop) (D : Value → World → Prop) (o : Oper) (a : Act) (w : World) : Prop :=
  wpList P ops (fun e a' w' => e = .normal ∧ ∃ v, a' = a.put o.dst v ∧ R w w' ∧ D v w') [o] a w

def depsOf (o : Oper) : List Nat := (o.after.toList.filter (Region.binds .any)).map (·.on)
def allOf (F : Nat → World → Prop) (w : World) : List Nat → Prop
  | [] => True
  | i :: l => F i w ∧ allOf F w l
theorem allOf_iff {F : Nat → World → Prop} {w : World} : ∀ {l : List Nat}, allOf F w l ↔ ∀ i ∈ l, F i w
  | [] => by simp [allOf]
  | i :: l => by simp [allOf, allOf_iff (l := l)]

/-- What a value is to meet, and goes on meeting as the relation's worlds follow one another. -/
structure Post (R : World → World → Prop) where
  p : Value → World → Prop
  st : ∀ v w w', p v w → R w w' → p v w'
/-- It is this one value. -/
def Post.is {R : World → World → Prop} (v : Value) : Post R := ⟨fun u _ => u = v, fun _ _ _ h _ => h⟩
def Post.any {R : World → World → Prop} : Post R := ⟨fun _ _ => True, fun _ _ _ h _ => h⟩

/-- What is to be shown: each operation for itself, in whatever world the relation allows in which the values that it waits for are as they should be; then the rest. -/
def RelHead (P : Program) (ops : Array Oper) (R : World → World → Prop) (w0 : World) (tail : Act → World → Prop) : List (Oper × Post R) → (Nat → World → Prop) → Nat → Act → Prop
  | [], F, k, a => ∀ w, R w0 w → allOf F w (List.range k) → tail a w
  | (o, D) :: l, F, k, a => (∀ w, R w0 w → allOf F w (depsOf o) → relOp P ops R D.p o a w) ∧ ∀ v, RelHead P ops R w0 tail l (fun i w => if i = k then D.p v w else F i w) (k + 1) (a.put o.dst v)

def tmpsOf (o : Oper) : List Tmp := o.op.operands.toList.filterMap fun | .tmp t => some t | _ => none
/-- The form that the region must have: its first n operations are plain, write slots of their own, read of these only what they wait for, and wait only for earlier ones. -/
def plainB (ops : Array Oper) (n : Nat) : Bool := (List.range n).all fun k => match ops[k]? with
  | none => false
  | some o => (match o.guard with | none => true | some (g, _) => (depsOf o).contains g) && (depsOf o).all (fun j => decide (j < k)) && (List.range n).all fun j => j == k || match ops[j]? with
    | none => false
    | some q => (o.dst.isNone || q.dst != o.dst) && ((tmpsOf o).all fun t => q.dst != some t || (depsOf o).contains j)
def selfB (ops : Array Oper) (n : Nat) : Bool := (List.range n).all fun k => match ops[k]? with
  | none => false
  | some o => (tmpsOf o).all fun t => o.dst != some t
def relB (ops : Array Oper) (n : Nat) : Bool :=
  Region.noSelect ops && decide (n ≤ ops.size) && Region.sinkB .any ops n && Region.chainB .any ops n && plainB ops n && selfB ops n && Region.seqB .any ops (ops.size - n) n ((Array.range ops.size).map fun i => decide (i < n))

section
variable {P : Program} {ops : Array Oper} {R : World → World → Prop} {Q : Exit → Act → World → Prop}

theorem put_same {a a2 : Act} {dst : Option Tmp} {u v : Value} (e : a.put dst u = a.put dst v) (hs : a2.tmps.size = a.tmps.size) : a2.put dst u = a2.put dst v := by
  cases dst with
  | none => rfl
  | some d =>
    by_cases hd : d < a.tmps.size
    · have h1 : (a.put (some d) u).tmps[d]? = (a.put (some d) v).tmps[d]? := by rw [e]
      have h2 : u = v := by
        simp [Act.put, hd] at h1
        exact h1
      rw [h2]
    · have hd2 : ¬ d < a2.tmps.size := by rw [hs]; exact hd
      simp [Act.put, Array.setIfInBounds, hd2]

theorem upon_rel {o : Oper} {a a2 : Act} {w : World} {K : Act → World → Prop} {D : Value → World → Prop} {r : Result Next}
    (hK : ∀ v w', R w w' → D v w' → K (a2.put o.dst v) w') (hs : a2.tmps.size = a.tmps.size)
    (h0 : o.upon P a (fun a' w' => Exit.normal = .normal ∧ ∃ v, a' = a.put o.dst v ∧ R w w' ∧ D v w') (fun e a' w' => e = .normal ∧ ∃ v, a' = a.put o.dst v ∧ R w w' ∧ D v w') r) :
    o.upon P a2 K Q r := by
  have back : ∀ u w', (∃ v, a.put o.dst u = a.put o.dst v ∧ R w w' ∧ D v w') → K (a2.put o.dst u) w' := fun u w' ⟨v, e, hr, hD⟩ => by
    rw [put_same e hs]
    exact hK v _ hr hD
  cases r with
  | ok n w' =>
    cases n <;> simp only [Oper.upon] at h0 ⊢
    case value u => exact back u _ h0.2
    case skip => exact back undef _ h0.2
    case defer df =>
      obtain ⟨_, v, e, _⟩ := h0
      have : (df :: a.defers) = a.defers := by
        have h1 := congrArg Act.defers e
        cases hd : o.dst <;> simp [Act.put, hd] at h1
      exact absurd (congrArg List.length this) (by simp)
    case enter f args =>
      refine Calls.mono h0 fun e w'' he => ?_
      cases e with
      | returned u => exact back u _ he.2
      | panicked c => exact absurd he.1 (by simp)
      | outgrown => obtain ⟨_, _, hf, _⟩ := he; exact absurd hf (by simp)
    case row row args => exact Rows.mono h0 fun u w'' he => back u _ he.2
  | halt x w' => cases x <;> simp only [Oper.upon] at h0; exact absurd h0.1 (by simp)

theorem wpOp_rel {j : Nat} {o : Oper} {a a2 : Act} {w : World} {K : Act → World → Prop} {D : Value → World → Prop} (hj : ops[j]? = some o) (hw : Region.wanted o (yielded ops a2.tmps) = Region.wanted o (yielded ops a.tmps))
    (he : execOp a2.eval o = execOp a.eval o) (hs : a2.tmps.size = a.tmps.size) (h : relOp P ops R D o a w) (hK : ∀ v w', R w w' → D v w' → K (a2.put o.dst v) w') : wpOp P ops Q j K a2 w := by
  unfold wpOp
  simp only [hj]
  rw [hw]
  unfold relOp wpList at h
  by_cases hg : Region.wanted o (yielded ops a.tmps) = true
  · rw [if_pos hg] at h ⊢
    rcases h with h | ⟨_, _, _, hf, _⟩
    · left
      unfold Oper.wp at h ⊢
      rw [he]
      exact upon_rel hK hs h
    · exact absurd hf (by simp)
  · rw [if_neg hg] at h ⊢
    unfold wpList at h
    obtain ⟨_, v, e, hR, hD⟩ := h
    rw [put_same e hs]
    exact hK v w hR hD

/-- The frame in which the first k operations have yielded the values vs. -/
def acts (ops : Array Oper) (vs : Nat → Value) (a0 : Act) : Nat → Act
  | 0 => a0
  | k + 1 => match ops[k]? with
    | some o => (acts ops vs a0 k).put o.dst (vs k)
    | none => acts ops vs a0 k
structure Rep (ops : Array Oper) (n : Nat) (a0 : Act) (vs : Nat → Value) (S : Nat → Bool) (a : Act) : Prop where
  defers : a.defers = a0.defers
  size : a.tmps.size = a0.tmps.size
  other : ∀ t, (∀ k o, k < n → ops[k]? = some o → S k = true → o.dst ≠ some t) → a.tmps[t]? = a0.tmps[t]?
  val : ∀ k o d, k < n → ops[k]? = some o → o.dst = some d → S k = true → a.tmps[d]? = (a0.tmps.setIfInBounds d (vs k))[d]?

theorem plain_spec {n k : Nat} (h : plainB ops n = true) (hk : k < n) : ∃ o, ops[k]? = some o ∧ (∀ g b, o.guard = some (g, b) → g ∈ depsOf o) ∧ (∀ j ∈ depsOf o, j < k) ∧
    ∀ j, j < n → j ≠ k → ∃ q, ops[j]? = some q ∧ (∀ d, o.dst = some d → q.dst ≠ some d) ∧ ∀ t ∈ tmpsOf o, q.dst = some t → j ∈ depsOf o := by
  have h1 := List.all_eq_true.1 h k (List.mem_range.2 hk)
  cases ho : ops[k]? with
  | none => simp [ho] at h1
  | some o =>
    simp only [ho, Bool.and_eq_true, List.all_eq_true, decide_eq_true_eq, List.mem_range, Bool.or_eq_true, beq_iff_eq] at h1
    obtain ⟨⟨hg, hdep⟩, hall⟩ := h1
    refine ⟨o, rfl, fun g b hgb => by rw [hgb] at hg; simpa using hg, hdep, fun j hj hjk => ?_⟩
    rcases hall j hj with h2 | h2
    · exact absurd h2 hjk
    · cases hq : ops[j]? with
      | none => simp [hq] at h2
      | some q =>
        simp only [hq, Bool.and_eq_true, List.all_eq_true, Bool.or_eq_true, bne_iff_ne, ne_eq] at h2
        refine ⟨q, rfl, fun d hd => ?_, fun t ht hqt => ?_⟩
        · rcases h2.1 with h3 | h3
          · rw [hd] at h3; simp at h3
          · rw [← hd]; exact h3
        · rcases h2.2 t ht with h3 | h3
          · exact absurd hqt h3
          · simpa using h3
theorem self_spec {n k : Nat} {o : Oper} (h : selfB ops n = true) (hk : k < n) (ho : ops[k]? = some o) : ∀ t ∈ tmpsOf o, o.dst ≠ some t := by
  have h1 := List.all_eq_true.1 h k (List.mem_range.2 hk)
  simp only [ho, List.all_eq_true, bne_iff_ne, ne_eq] at h1
  exact h1

theorem rep_put {n k : Nat} {a0 a : Act} {vs : Nat → Value} {S : Nat → Bool} {o : Oper} (hB : plainB ops n = true) (h : Rep ops n a0 vs S a) (hk : k < n) (ho : ops[k]? = some o) (v : Value) (S' : Nat → Bool) (hS : ∀ i, S' i = true ↔ i = k ∨ S i = true) :
    Rep ops n a0 (fun i => if i = k then v else vs i) S' (a.put o.dst v) := by
  obtain ⟨o', ho', _, _, hoth⟩ := plain_spec hB hk
  obtain rfl : o = o' := Option.some.inj (ho.symm.trans ho')
  cases hd : o.dst with
  | none =>
    refine ⟨h.defers, h.size, fun t ht => h.other t fun i q hi hq hSi => ht i q hi hq ((hS i).2 (.inr hSi)), fun i q e hi hq he hSi => ?_⟩
    by_cases hik : i = k
    · subst hik
      obtain rfl : o = q := Option.some.inj (ho.symm.trans hq)
      rw [hd] at he; cases he
    · rw [if_neg hik]
      exact h.val i q e hi hq he (((hS i).1 hSi).resolve_left hik)
  | some d =>
    refine ⟨h.defers, ?_, ?_, ?_⟩
    · simp [Act.put, h.size]
    · intro t ht
      have h1 := ht k o hk ho ((hS k).2 (.inl rfl))
      rw [hd] at h1
      have hne : d ≠ t := fun e => h1 (by rw [e])
      simp only [Act.put, Array.getElem?_setIfInBounds_ne hne]
      exact h.other t fun i q hi hq hSi => ht i q hi hq ((hS i).2 (.inr hSi))
    · intro i q e hi hq he hSi
      by_cases hik : i = k
      · subst hik
        obtain rfl : o = q := Option.some.inj (ho.symm.trans hq)
        obtain rfl : d = e := Option.some.inj (hd.symm.trans he)
        simp only [Act.put, if_true, Array.getElem?_setIfInBounds_self, h.size]
      · obtain ⟨q', hq', hne, _⟩ := hoth i hi hik
        obtain rfl : q = q' := Option.some.inj (hq.symm.trans hq')
        have hde : d ≠ e := fun e' => hne d hd (by rw [he, e'])
        rw [if_neg hik]
        simp only [Act.put, Array.getElem?_setIfInBounds_ne hde]
        exact h.val i q e hi hq he (((hS i).1 hSi).resolve_left hik)
theorem rep_vs {n : Nat} {a0 a : Act} {vs vs' : Nat → Value} {S S' : Nat → Bool} (h : Rep ops n a0 vs S a) (hv : ∀ i, S i = true → vs' i = vs i) (hS : ∀ i, i < n → (S' i = true ↔ S i = true)) : Rep ops n a0 vs' S' a :=
  ⟨h.defers, h.size, fun t ht => h.other t fun k o hk ho hs => ht k o hk ho ((hS k hk).2 hs), fun k o d hk ho hd hs => by rw [hv k ((hS k hk).1 hs)]; exact h.val k o d hk ho hd ((hS k hk).1 hs)⟩
theorem rep_acts {n : Nat} (a0 : Act) (vs : Nat → Value) (hB : plainB ops n = true) : ∀ k, k ≤ n → Rep ops n a0 vs (fun i => decide (i < k)) (acts ops vs a0 k)
  | 0, _ => ⟨rfl, rfl, fun _ _ => rfl, fun _ _ _ _ _ _ h => by simp at h⟩
  | k + 1, hk => by
    have ih := rep_acts a0 vs hB k (by omega)
    obtain ⟨o, ho, _, _, _⟩ := plain_spec hB (show k < n by omega)
    have := rep_put hB ih (show k < n by omega) ho (vs k) (fun i => decide (i < k + 1)) (fun i => by simp; omega)
    simp only [acts, ho]
    exact rep_vs this (fun i hi => by by_cases e : i = k <;> simp [e]) fun i _ => Iff.rfl
theorem rep_unique {n : Nat} {a0 a a' : Act} {vs : Nat → Value} {S S' : Nat → Bool} (h : Rep ops n a0 vs S a) (h' : Rep ops n a0 vs S' a') (hS : ∀ i, i < n → (S' i = true ↔ S i = true)) : a = a' := by
  have h'' := rep_vs h' (fun _ _ => rfl) (fun i hi => (hS i hi).symm)
  obtain ⟨t1, d1⟩ := a
  obtain ⟨t2, d2⟩ := a'
  have e1 : d1 = d2 := h.defers.trans h''.defers.symm
  have e2 : t1 = t2 := by
    apply Array.ext_getElem?
    intro t
    by_cases ht : ∃ k o, k < n ∧ ops[k]? = some o ∧ S k = true ∧ o.dst = some t
    · obtain ⟨k, o, hk, ho, hs, hd⟩ := ht
      exact (h.val k o t hk ho hd hs).trans (h''.val k o t hk ho hd hs).symm
    · have : ∀ k o, k < n → ops[k]? = some o → S k = true → o.dst ≠ some t := fun k o hk ho hs hd => ht ⟨k, o, hk, ho, hs, hd⟩
      exact (h.other t this).trans (h''.other t this).symm
  rw [e1, e2]
theorem eval_rep {n k : Nat} {a0 a : Act} {vs : Nat → Value} {S : Nat → Bool} {o : Oper} (hB : plainB ops n = true) (hSelf : selfB ops n = true) (hsel : ∀ cs b, o.op ≠ .select cs b) (h : Rep ops n a0 vs S a) (hk : k < n) (ho : ops[k]? = some o) (hdeps : ∀ j ∈ depsOf o, S j = true) :
    execOp a.eval o = execOp (acts ops vs a0 k).eval o := by
  have hR := rep_acts a0 vs hB k (by omega)
  obtain ⟨o', ho', _, hlt, hoth⟩ := plain_spec hB hk
  obtain rfl : o = o' := Option.some.inj (ho.symm.trans ho')
  refine execOp_congr o hsel fun x hx => ?_
  cases x with
  | tmp t =>
    have ht : t ∈ tmpsOf o := List.mem_filterMap.2 ⟨.tmp t, by simpa using hx, rfl⟩
    have key : a.tmps[t]? = (acts ops vs a0 k).tmps[t]? := by
      by_cases hex : ∃ j q, j < n ∧ ops[j]? = some q ∧ q.dst = some t
      · obtain ⟨j, q, hj, hq, hqt⟩ := hex
        have hjk : j ≠ k := fun e => by
          subst e
          obtain rfl : o = q := Option.some.inj (ho.symm.trans hq)
          exact self_spec hSelf hk ho t ht hqt
        obtain ⟨q', hq', _, hdep⟩ := hoth j hj hjk
        obtain rfl : q = q' := Option.some.inj (hq.symm.trans hq')
        have hjd := hdep t ht hqt
        exact (h.val j q t hj hq hqt (hdeps j hjd)).trans (hR.val j q t hj hq hqt (by simpa using hlt j hjd)).symm
      · exact (h.other t fun j q hj hq _ hqt => hex ⟨j, q, hj, hq, hqt⟩).trans (hR.other t fun j q hj hq _ hqt => hex ⟨j, q, hj, hq, hqt⟩).symm
    simp [Act.eval, key]
  | _ => rfl

theorem wanted_rep {n k : Nat} {a0 a : Act} {vs : Nat → Value} {S : Nat → Bool} {o : Oper} (hB : plainB ops n = true) (h : Rep ops n a0 vs S a) (hk : k < n) (ho : ops[k]? = some o) (hdeps : ∀ j ∈ depsOf o, S j = true) :
    Region.wanted o (yielded ops a.tmps) = Region.wanted o (yielded ops (acts ops vs a0 k).tmps) := by
  have hR := rep_acts a0 vs hB k (by omega)
  obtain ⟨o', ho', hg, hlt, hoth⟩ := plain_spec hB hk
  obtain rfl : o = o' := Option.some.inj (ho.symm.trans ho')
  unfold Region.wanted
  cases hgd : o.guard with
  | none => rfl
  | some gb =>
    obtain ⟨g, b⟩ := gb
    have hgm := hg g b hgd
    have hgk := hlt g hgm
    obtain ⟨q, hq, _, _, _⟩ := plain_spec hB (show g < n by omega)
    have : yielded ops a.tmps g = yielded ops (acts ops vs a0 k).tmps g := by
      cases hqe : q.dst with
      | none => simp [yielded, hq, hqe]
      | some e =>
        have key : a.tmps[e]? = (acts ops vs a0 k).tmps[e]? := (h.val g q e (by omega) hq hqe (hdeps g hgm)).trans (hR.val g q e (by omega) hq hqe (by simpa using hgk)).symm
        simp [yielded, hq, hqe, key]
    simp only [this]
theorem upto_array (m n : Nat) (listed : Array Bool) (hs : listed.size = m) (h : ∀ i, i < m → (listed.getD i false = true ↔ i < n)) : listed = (Array.range m).map fun i => decide (i < n) := by
  apply Array.ext_getElem?
  intro i
  by_cases hi : i < m
  · have := h i hi
    have hi' : i < listed.size := by omega
    simp [hi'] at this
    simp [hi, hi']
    by_cases hn : i < n <;> simp [hn] at this ⊢ <;> exact this
  · simp [hi, hs]

theorem rel_any {n : Nat} {w0 : World} {a0 : Act} {D : Nat → Value → World → Prop} (hB : relB ops n = true) (hst : ∀ k v w w', D k v w → R w w' → D k v w') (htr : ∀ w w' w'', R w w' → R w' w'' → R w w'')
    (hop : ∀ k o vs w, k < n → ops[k]? = some o → R w0 w → (∀ j ∈ depsOf o, D j (vs j) w) → relOp P ops R (D k) o (acts ops vs a0 k) w)
    (htail : ∀ vs w, R w0 w → (∀ k, k < n → D k (vs k) w) → wpList P ops Q (ops.toList.drop n) (acts ops vs a0 n) w) :
    ∀ (f : Nat) (un : List Nat) (listed : Array Bool) (vs : Nat → Value) (a : Act) (w : World), un.length = f → un.Nodup → (∀ i, i ∈ un ↔ i < n ∧ listed.getD i true = false) → HeadInv .any ops n listed →
      Rep ops n a0 vs (fun i => listed.getD i false) a → (∀ i, i < n → listed.getD i false = true → D i (vs i) w) → R w0 w → wpAny P .any ops Q (f + (ops.size - n)) listed a w := by
  simp only [relB, Bool.and_eq_true, decide_eq_true_eq] at hB
  obtain ⟨⟨⟨⟨⟨⟨hsel, hn⟩, hs⟩, hc⟩, hpl⟩, hself⟩, hseq⟩ := hB
  intro f
  induction f with
  | zero =>
    intro un listed vs a w hf _ hun inv hrep hD hR
    obtain rfl : un = [] := List.eq_nil_of_length_eq_zero hf
    have hall : ∀ i, i < n → listed.getD i false = true := fun i hi => by
      cases h : listed.getD i false with
      | true => rfl
      | false => exact absurd ((hun i).2 ⟨hi, getD_in (by rw [inv.size]; omega) h⟩) (by simp)
    have hl := upto_array ops.size n listed inv.size fun i hi => ⟨fun h => (Nat.lt_or_ge i n).resolve_right fun h' => by
      rw [getD_both (inv.tail i h' hi)] at h
      exact absurd h (by simp), fun h => hall i h⟩
    have ha : a = acts ops vs a0 n := rep_unique hrep (rep_acts a0 vs hpl n (Nat.le_refl _)) fun i hi => by simp [hi, hall i hi]
    have hdl : (ops.toList.drop n).length = ops.size - n := by simp
    have := wpAny_of_seq (P := P) (md := .any) (ops := ops) (Q' := Q) (ops.toList.drop n) n listed a w (fun j => by simp [List.getElem?_drop]) (by rw [hdl, hl]; exact hseq) (by rw [ha]; exact htail vs w hR fun k hk => hD k hk (hall k hk))
    rw [hdl] at this
    rw [Nat.zero_add]
    exact this
  | succ f ih =>
    intro un listed vs a w hf hnd hun inv hrep hD hR
    -- the least one that has not come up may come up
    have hex : ∃ i, i < n ∧ listed.getD i true = false := by
      cases un with
      | nil => simp at hf
      | cons i un => exact ⟨i, (hun i).1 (by simp)⟩
    have hready : ∃ i, i ∈ Region.ready .any ops listed := by
      obtain ⟨i, hi⟩ := hex
      induction i using Nat.strongRecOn with
      | _ i ihi =>
        obtain ⟨o, ho, _, hlt, _⟩ := plain_spec hpl hi.1
        by_cases hall : ∀ e ∈ o.after, Region.binds .any e = true → listed.getD e.on false = true
        · exact ⟨i, mem_ready.2 ⟨hi.2, o, ho, hall⟩⟩
        · simp only [Classical.not_forall] at hall
          obtain ⟨e, he, hb, hne⟩ := hall
          have hlt' : e.on < i := hlt e.on (by simp only [depsOf, List.mem_map, List.mem_filter]; exact ⟨e, ⟨by simpa using he, hb⟩, rfl⟩)
          exact ihi e.on hlt' ⟨by omega, getD_in (by rw [inv.size]; omega) (by simpa using hne)⟩
    obtain ⟨i0, hi0⟩ := hex
    rw [show f + 1 + (ops.size - n) = (f + (ops.size - n)) + 1 by omega]
    refine ⟨fun h0 => (by obtain ⟨i, hi⟩ := hready; rw [h0] at hi; exact absurd hi (by simp)), fun j hj => ?_⟩
    have hjn : j < n := by
      rcases Nat.lt_or_ge j n with h | h
      · exact h
      · have hjs : j < ops.size := by
          obtain ⟨_, o, ho, _⟩ := mem_ready.1 hj
          exact (Array.getElem?_eq_some_iff.1 ho).1
        exact absurd hj (tail_waits hs hc (show n < ops.size by omega) inv _ i0 rfl hi0.1 hi0.2 j h)
    obtain ⟨hjun, o, ho, hall⟩ := mem_ready.1 hj
    obtain ⟨o', ho', hg, hlt, _⟩ := plain_spec hpl hjn
    obtain rfl : o = o' := Option.some.inj (ho.symm.trans ho')
    have hdeps : ∀ i ∈ depsOf o, listed.getD i false = true := fun i hi => by
      simp only [depsOf, List.mem_map, List.mem_filter] at hi
      obtain ⟨e, ⟨he, hb⟩, rfl⟩ := hi
      exact hall e (by simpa using he) hb
    have he := eval_rep (vs := vs) hpl hself (Region.noSelect_spec hsel j o · · ho) hrep hjn ho hdeps
    have hsz : a.tmps.size = (acts ops vs a0 j).tmps.size := hrep.size.trans (rep_acts a0 vs hpl j (by omega)).size.symm
    refine wpOp_rel ho (wanted_rep hpl hrep hjn ho hdeps) he hsz (hop j o vs w hjn ho hR fun i hi => hD i (by have := hlt i hi; omega) (hdeps i hi)) fun v w' hr hDv => ?_
    have hjs : j < listed.size := by rw [inv.size]; omega
    have hset : ∀ i, (listed.setIfInBounds j true).getD i false = true ↔ i = j ∨ listed.getD i false = true := fun i => by
      by_cases hij : j = i
      · subst hij; simp [hjs]
      · rw [getD_set_ne false hij]
        exact ⟨.inr, fun h => h.resolve_left fun e => hij e.symm⟩
    have hset2 : ∀ i, (listed.setIfInBounds j true).getD i true = false ↔ i ≠ j ∧ listed.getD i true = false := fun i => by
      by_cases hij : j = i
      · subst hij; simp [hjs]
      · rw [getD_set_ne true hij]
        exact ⟨fun h => ⟨fun e => hij e.symm, h⟩, fun h => h.2⟩
    have hju : j ∈ un := (hun j).2 ⟨hjn, hjun⟩
    refine ih (un.erase j) _ (fun i => if i = j then v else vs i) _ w' (by rw [List.length_erase_of_mem hju, hf]; rfl) (hnd.erase j) (fun i => ?_) (inv.set hj hjn) (rep_put hpl hrep hjn ho v _ hset) (fun i hi hS => ?_) (htr _ _ _ hR hr)
    · rw [hnd.mem_erase_iff, hun, hset2]
      exact ⟨fun h => ⟨h.2.1, h.1, h.2.2⟩, fun h => ⟨h.2.1, h.1, h.2.2⟩⟩
    · by_cases hij : i = j
      · subst hij; rw [if_pos rfl]; exact hDv
      · rw [if_neg hij]
        exact hst _ _ _ _ (hD i hi (((hset i).1 hS).resolve_left hij)) hr

theorem RelHead.nil {w0 : World} {tail : Act → World → Prop} {F : Nat → World → Prop} {k : Nat} {a : Act} (h : ∀ w, R w0 w → allOf F w (List.range k) → tail a w) : RelHead P ops R w0 tail [] F k a := h
theorem RelHead.cons {w0 : World} {tail : Act → World → Prop} {F : Nat → World → Prop} {k : Nat} {a : Act} {o : Oper} {D : Post R} {l : List (Oper × Post R)} (h1 : ∀ w, R w0 w → allOf F w (depsOf o) → relOp P ops R D.p o a w)
    (h2 : ∀ v, RelHead P ops R w0 tail l (fun i w => if i = k then D.p v w else F i w) (k + 1) (a.put o.dst v)) : RelHead P ops R w0 tail ((o, D) :: l) F k a := ⟨h1, h2⟩

theorem relHead_at {w0 : World} {tail : Act → World → Prop} {D : Nat → Value → World → Prop} {a0 : Act} {n : Nat} (hpl : plainB ops n = true) (vs : Nat → Value) :
    ∀ (l : List (Oper × Post R)) (F : Nat → World → Prop) (k : Nat) (a : Act), k + l.length = n → (∀ j od, l[j]? = some od → ops[k + j]? = some od.1 ∧ D (k + j) = od.2.p) → (∀ i, i < k → ∀ w, F i w ↔ D i (vs i) w) → a = acts ops vs a0 k →
    RelHead P ops R w0 tail l F k a →
      (∀ j o w, k ≤ j → j < n → ops[j]? = some o → R w0 w → (∀ i ∈ depsOf o, D i (vs i) w) → relOp P ops R (D j) o (acts ops vs a0 j) w) ∧ (∀ w, R w0 w → (∀ i, i < n → D i (vs i) w) → tail (acts ops vs a0 n) w)
  | [], F, k, a, hk, _, hF, ha, h => by
    obtain rfl : k = n := by simpa using hk
    subst ha
    exact ⟨fun j o w h1 h2 => (by omega), fun w hR hD => h w hR (allOf_iff.2 fun i hi => (hF i (List.mem_range.1 hi) w).2 (hD i (List.mem_range.1 hi)))⟩
  | (o, Dk) :: l, F, k, a, hk, hl, hF, ha, h => by
    subst ha
    simp only [List.length_cons] at hk
    have h0 := hl 0 (o, Dk) rfl
    simp only [Nat.add_zero] at h0
    obtain ⟨o', ho', _, hlt, _⟩ := plain_spec hpl (show k < n by omega)
    obtain rfl : o = o' := Option.some.inj (h0.1.symm.trans ho')
    have ih := relHead_at (D := D) (a0 := a0) hpl vs l _ (k + 1) _ (by omega) (fun j od hj => by
      have := hl (j + 1) od hj
      rwa [show k + (j + 1) = k + 1 + j by omega] at this) (fun i hi w => by
      by_cases e : i = k
      · subst e; rw [if_pos rfl, h0.2]
      · rw [if_neg e]; exact hF i (by omega) w) (by simp only [acts, ho']) (h.2 (vs k))
    refine ⟨fun j q w h1 h2 hq hR hD => ?_, ih.2⟩
    by_cases e : j = k
    · subst e
      obtain rfl : o = q := Option.some.inj (ho'.symm.trans hq)
      rw [h0.2]
      exact h.1 w hR (allOf_iff.2 fun i hi => (hF i (hlt i hi) w).2 (hD i hi))
    · exact ih.1 j q w (by omega) h2 hq hR hD

/-- THE LAW: the region's first n operations each for itself, in the order of the text; then the rest as a list. -/
theorem wp_region_rel {id : Nat} {a : Act} {w : World} {l : List Oper} (n : Nat) (R : World → World → Prop) (hm : P.follows .mixedOrders = true) (hB : relB l.toArray n = true) (hrf : ∀ w, R w w) (htr : ∀ w w' w'', R w w' → R w' w'' → R w w'')
    (Ds : List (Post R)) (hD : Ds.length = n) (h : RelHead P l.toArray R w.drew (fun a' w' => wpList P l.toArray Q (l.drop n) a' w') ((l.take n).zip Ds) (fun _ _ => True) 0 a) : (Code.region id l.toArray true).wp P Q a w := by
  have hB' := hB
  simp only [relB, Bool.and_eq_true, decide_eq_true_eq] at hB'
  obtain ⟨⟨⟨⟨⟨⟨hsel, hn⟩, hs⟩, hc⟩, hpl⟩, hself⟩, hseq⟩ := hB'
  have hn' : n ≤ l.length := by simpa using hn
  have hat := fun vs => relHead_at (D := fun k => (Ds.getD k Post.any).p) (a0 := a) hpl vs _ _ 0 a (by simp [hD]; omega) (fun j od hj => by
    rw [List.getElem?_zip_eq_some, List.getElem?_take] at hj
    obtain ⟨h1, h2⟩ := hj
    split at h1
    · exact ⟨by simpa using h1, by simp [List.getD, h2]⟩
    · cases h1) (fun i hi => by omega) rfl h
  refine wp_region_any hm ?_
  have := rel_any (P := P) (Q := Q) (ops := l.toArray) (D := fun k => (Ds.getD k Post.any).p) (a0 := a) (w0 := w.drew) hB (fun k v w w' h1 h2 => (Ds.getD k Post.any).st v w w' h1 h2) htr
    (fun k o vs w' hk ho hR hDs => (hat vs).1 k o w' (Nat.zero_le _) hk ho hR hDs) (fun vs w' hR hDs => by simpa using (hat vs).2 w' hR hDs)
    n (List.range n) (Array.replicate l.toArray.size false) (fun _ => undef) a w.drew (by simp) List.nodup_range
    (fun i => by
      rw [List.mem_range]
      exact ⟨fun hi => ⟨hi, getD_in (by simp; omega) (getD_replicate_false _ _)⟩, fun hi => hi.1⟩)
    ⟨by simp, fun j oj _ hl => (by rw [getD_replicate_false] at hl; cases hl), fun t _ ht => getD_in (by simpa using ht) (getD_replicate_false _ _)⟩
    ⟨rfl, rfl, fun _ _ => rfl, fun k o d _ _ _ hS => (by rw [getD_replicate_false] at hS; cases hS)⟩ (fun i _ hS => (by rw [getD_replicate_false] at hS; cases hS)) (hrf _)
  rw [show n + (l.toArray.size - n) = l.toArray.size by omega] at this
  exact this

/-- The same, over both lists as they are written: for regions of many operations. -/
def RelHead2 (P : Program) (ops : Array Oper) (R : World → World → Prop) (w0 : World) (tail : Act → World → Prop) : List Oper → List (Post R) → (Nat → World → Prop) → Nat → Act → Prop
  | _, [], F, k, a => ∀ w, R w0 w → allOf F w (List.range k) → tail a w
  | [], _ :: _, _, _, _ => False
  | o :: l, D :: Ds, F, k, a => (∀ w, R w0 w → allOf F w (depsOf o) → relOp P ops R D.p o a w) ∧ ∀ v, RelHead2 P ops R w0 tail l Ds (fun i w => if i = k then D.p v w else F i w) (k + 1) (a.put o.dst v)
theorem RelHead2.nil {w0 : World} {tail : Act → World → Prop} {F : Nat → World → Prop} {k : Nat} {a : Act} {l : List Oper} (h : ∀ w, R w0 w → allOf F w (List.range k) → tail a w) : RelHead2 P ops R w0 tail l [] F k a := by
  cases l <;> exact h
theorem RelHead2.cons {w0 : World} {tail : Act → World → Prop} {F : Nat → World → Prop} {k : Nat} {a : Act} {o : Oper} {D : Post R} {l : List Oper} {Ds : List (Post R)} (h1 : ∀ w, R w0 w → allOf F w (depsOf o) → relOp P ops R D.p o a w)
    (h2 : ∀ v, RelHead2 P ops R w0 tail l Ds (fun i w => if i = k then D.p v w else F i w) (k + 1) (a.put o.dst v)) : RelHead2 P ops R w0 tail (o :: l) (D :: Ds) F k a := ⟨h1, h2⟩
theorem RelHead2.head {w0 : World} {tail : Act → World → Prop} : ∀ (Ds : List (Post R)) (l : List Oper) (F : Nat → World → Prop) (k : Nat) (a : Act), RelHead2 P ops R w0 tail l Ds F k a → RelHead P ops R w0 tail ((l.take Ds.length).zip Ds) F k a
  | [], l, F, k, a, h => by cases l <;> exact h
  | D :: Ds, [], F, k, a, h => False.elim h
  | D :: Ds, o :: l, F, k, a, h => ⟨h.1, fun v => RelHead2.head Ds l _ _ _ (h.2 v)⟩
theorem wp_region_rel2 {id : Nat} {a : Act} {w : World} {l : List Oper} (n : Nat) (R : World → World → Prop) (hm : P.follows .mixedOrders = true) (hB : relB l.toArray n = true) (hrf : ∀ w, R w w) (htr : ∀ w w' w'', R w w' → R w' w'' → R w w'')
    (Ds : List (Post R)) (hD : Ds.length = n) (h : RelHead2 P l.toArray R w.drew (fun a' w' => wpList P l.toArray Q (l.drop n) a' w') l Ds (fun _ _ => True) 0 a) : (Code.region id l.toArray true).wp P Q a w := by
  subst hD
  exact wp_region_rel _ R hm hB hrf htr Ds rfl (RelHead2.head _ _ _ _ _ h)
end
end Go.Proofs.YtpdhgijeanbmcaaGreatDoor

/- Base -/
namespace Go.Proofs.YtpdhgijeanbmcaaGreatDoor
set_option maxRecDepth 100000
open Go.RowKit

/-- A 32-bit word as a value. -/
def V32 (x : BitVec 32) : Value := .int .u32 (x.toNat : Int)
/-- A byte as a value. -/
def V8 (x : UInt8) : Value := .int .u8 (x.toNat : Int)

section
variable (P : Program) (t t' : TypeId) (op : BinOp) (X Y : Operand) (a b : BitVec 32) (c d : UInt8)
theorem ofInt_toNat (x : BitVec 32) : BitVec.ofInt 32 (x.toNat : Int) = x := by simp [BitVec.ofInt_natCast]
theorem wrap32u (x : BitVec 32) : IntKind.u32.wrap (x.toNat : Int) = x.toNat := by
  have := x.isLt
  simp only [IntKind.wrap_u32]
  omega

@[go_sem high] theorem oneCell'_V32 : (V32 a).oneCell' = true := rfl
@[go_sem high] theorem oneCell'_V8 : (V8 c).oneCell' = true := rfl
@[go_sem high] theorem cells_V32 : (V32 a).cells = #[V32 a] := rfl
@[go_sem high] theorem cells_V8 : (V8 c).cells = #[V8 c] := rfl
@[go_sem] theorem match_V32 : Value.cells.match_1 (fun _ => Array Value) (V32 a) (fun cs => cs) (fun v => #[v]) = #[V32 a] := rfl
@[go_sem] theorem match_V8 : Value.cells.match_1 (fun _ => Array Value) (V8 c) (fun cs => cs) (fun v => #[v]) = #[V8 c] := rfl
@[go_sem] theorem eqGuard_at_V32 (v : Value) : eqGuard op t X Y (V32 a) v = pure () := by cases op <;> rfl
@[go_sem] theorem eqGuard_at_V8 (v : Value) : eqGuard op t X Y (V8 c) v = pure () := by cases op <;> rfl

@[go_sem] theorem xor_V32 : binOp .xor t (V32 a) (V32 b) = pure (V32 (a ^^^ b)) := by
  simp only [V32, binOp_xor, Op.intBits, IntKind.bits, ofInt_toNat, wrap32u]; rfl
@[go_sem] theorem and_V32 : binOp .and t (V32 a) (V32 b) = pure (V32 (a &&& b)) := by
  simp only [V32, binOp_and, Op.intBits, IntKind.bits, ofInt_toNat, wrap32u]; rfl
@[go_sem] theorem or_V32 : binOp .or t (V32 a) (V32 b) = pure (V32 (a ||| b)) := by
  simp only [V32, binOp_or, Op.intBits, IntKind.bits, ofInt_toNat, wrap32u]; rfl
@[go_sem] theorem add_V32 : binOp .add t (V32 a) (V32 b) = pure (V32 (a + b)) := by
  simp only [V32, binOp_add, Op.intArith, BitVec.toNat_add]
  rw [show IntKind.u32.wrap ((a.toNat : Int) + b.toNat) = (((a.toNat + b.toNat) % 2 ^ 32 : Nat) : Int) from by simp only [IntKind.wrap_u32]; omega]
@[go_sem] theorem shr_V32 (n : Int) (h0 : 0 ≤ n) (h1 : n ≤ 32) : binOp .shr t (V32 a) (.int .u64 n) = pure (V32 (a >>> n.toNat)) := by
  simp only [V32, binOp_shr, shift_shr_u32 _ _ _ h0 h1, BitVec.toNat_ushiftRight, Nat.shiftRight_eq_div_pow]
  simp
@[go_sem] theorem shl_V32 (n : Int) (h0 : 0 ≤ n) (h1 : n ≤ 32) : binOp .shl t (V32 a) (.int .u64 n) = pure (V32 (a <<< n.toNat)) := by
  simp only [V32, binOp_shl, shift_shl_u32 _ _ _ h0 h1, BitVec.toNat_shiftLeft, Nat.shiftLeft_eq]
  rw [show IntKind.u32.wrap ((a.toNat : Int) * 2 ^ n.toNat) = ((a.toNat * 2 ^ n.toNat % 2 ^ 32 : Nat) : Int) from by simp only [IntKind.wrap_u32]; simp]
theorem allOnes_xor (x : BitVec 32) : BitVec.allOnes 32 ^^^ x = ~~~x := by rw [BitVec.xor_comm]; exact BitVec.xor_allOnes
@[go_sem] theorem not_V32 : Op.unary .xor (V32 a) = pure (V32 (~~~a)) := by
  have h : Op.unary .xor (V32 a) = pure (Value.int .u32 (IntKind.u32.wrap ((BitVec.allOnes 32 ^^^ BitVec.ofInt 32 (a.toNat : Int) : BitVec 32).toNat : Int))) := rfl
  rw [h, ofInt_toNat, allOnes_xor, wrap32u]
  rfl
end
section
variable {P : Program} (w : World) (ad : Addr) (m : Mode)
@[go_sem] theorem run_store_V32 (x : BitVec 32) : (store ad (V32 x) m).run P w = stored P w ad (V32 x) m := run_store P w ad _ m rfl
@[go_sem] theorem run_store_V8 (x : UInt8) : (store ad (V8 x) m).run P w = stored P w ad (V8 x) m := run_store P w ad _ m rfl
@[go_sem] theorem run_convert_V8_V32 (src dst : TypeId) (x : UInt8) (hs : (P.underlying src).isSome = true) (hd : P.underlying dst = some (.int .u32)) :
    (convert src dst (V8 x)).run P w = .ok (V32 (x.toBitVec.setWidth 32)) w := by
  have hk : P.intKind dst = .u32 := by simp [Program.intKind, hd]
  have := run_convert_int w src dst .u8 x.toNat hs (by rw [hk]; exact hd)
  rw [hk] at this
  rw [V8, this, V32]
  have hx := x.toNat_lt
  rw [show IntKind.u32.wrap (x.toNat : Int) = ((x.toBitVec.setWidth 32).toNat : Int) from by simp only [IntKind.wrap_u32, BitVec.toNat_setWidth, UInt8.toNat_toBitVec]; omega]
@[go_sem] theorem run_convert_V32_V8 (src dst : TypeId) (x : BitVec 32) (hs : (P.underlying src).isSome = true) (hd : P.underlying dst = some (.int .u8)) :
    (convert src dst (V32 x)).run P w = .ok (V8 ⟨x.setWidth 8⟩) w := by
  have hk : P.intKind dst = .u8 := by simp [Program.intKind, hd]
  have := run_convert_int w src dst .u32 x.toNat hs (by rw [hk]; exact hd)
  rw [hk] at this
  rw [V32, this, V8]
  rw [show IntKind.u8.wrap (x.toNat : Int) = (((⟨x.setWidth 8⟩ : UInt8)).toNat : Int) from by simp only [IntKind.wrap_u8, ← UInt8.toNat_toBitVec, BitVec.toNat_setWidth]; omega]
end
end Go.Proofs.YtpdhgijeanbmcaaGreatDoor

/- Sha -/
namespace Go.Proofs.YtpdhgijeanbmcaaGreatDoor
set_option maxRecDepth 100000
namespace Sha

/-- A turn of a word to the right. -/
def rot (x : BitVec 32) (n : Nat) : BitVec 32 := x >>> n ||| x <<< (32 - n)
def s0 (x : BitVec 32) : BitVec 32 := rot x 7 ^^^ rot x 18 ^^^ x >>> 3
def s1 (x : BitVec 32) : BitVec 32 := rot x 17 ^^^ rot x 19 ^^^ x >>> 10
def e0 (x : BitVec 32) : BitVec 32 := rot x 2 ^^^ rot x 13 ^^^ rot x 22
def e1 (x : BitVec 32) : BitVec 32 := rot x 6 ^^^ rot x 11 ^^^ rot x 25
def ch (e f g : BitVec 32) : BitVec 32 := e &&& f ^^^ ~~~e &&& g
def maj (a b c : BitVec 32) : BitVec 32 := a &&& b ^^^ a &&& c ^^^ b &&& c

structure Reg where
  (a b c d e f g h : BitVec 32)
  deriving DecidableEq

def Reg.list (r : Reg) : List (BitVec 32) := [r.a, r.b, r.c, r.d, r.e, r.f, r.g, r.h]

def roots : List Nat := [0x428a2f98, 0x71374491, 0xb5c0fbcf, 0xe9b5dba5, 0x3956c25b, 0x59f111f1, 0x923f82a4, 0xab1c5ed5,
  0xd807aa98, 0x12835b01, 0x243185be, 0x550c7dc3, 0x72be5d74, 0x80deb1fe, 0x9bdc06a7, 0xc19bf174,
  0xe49b69c1, 0xefbe4786, 0x0fc19dc6, 0x240ca1cc, 0x2de92c6f, 0x4a7484aa, 0x5cb0a9dc, 0x76f988da,
  0x983e5152, 0xa831c66d, 0xb00327c8, 0xbf597fc7, 0xc6e00bf3, 0xd5a79147, 0x06ca6351, 0x14292967,
  0x27b70a85, 0x2e1b2138, 0x4d2c6dfc, 0x53380d13, 0x650a7354, 0x766a0abb, 0x81c2c92e, 0x92722c85,
  0xa2bfe8a1, 0xa81a664b, 0xc24b8b70, 0xc76c51a3, 0xd192e819, 0xd6990624, 0xf40e3585, 0x106aa070,
  0x19a4c116, 0x1e376c08, 0x2748774c, 0x34b0bcb5, 0x391c0cb3, 0x4ed8aa4a, 0x5b9cca4f, 0x682e6ff3,
  0x748f82ee, 0x78a5636f, 0x84c87814, 0x8cc70208, 0x90befffa, 0xa4506ceb, 0xbef9a3f7, 0xc67178f2]
def root (t : Nat) : BitVec 32 := BitVec.ofNat 32 (roots.getD t 0)

def word (a b c d : UInt8) : BitVec 32 :=
  a.toBitVec.setWidth 32 <<< 24 ||| b.toBitVec.setWidth 32 <<< 16 ||| c.toBitVec.setWidth 32 <<< 8 ||| d.toBitVec.setWidth 32

/-- The t-th word of the schedule of a block whose bytes are p 0 .. p 63. -/
def sched (p : Nat → UInt8) (t : Nat) : BitVec 32 :=
  if _h : t < 16 then word (p (4 * t)) (p (4 * t + 1)) (p (4 * t + 2)) (p (4 * t + 3))
  else sched p (t - 16) + s0 (sched p (t - 15)) + sched p (t - 7) + s1 (sched p (t - 2))
termination_by t

def step (r : Reg) (k w : BitVec 32) : Reg :=
  let u := r.h + e1 r.e + ch r.e r.f r.g + k + w
  let v := e0 r.a + maj r.a r.b r.c
  ⟨u + v, r.a, r.b, r.c, r.d + u, r.e, r.f, r.g⟩

def rounds (p : Nat → UInt8) (r : Reg) : Nat → Reg
  | 0 => r
  | t + 1 => step (rounds p r t) (root t) (sched p t)

def Reg.add (r q : Reg) : Reg := ⟨r.a + q.a, r.b + q.b, r.c + q.c, r.d + q.d, r.e + q.e, r.f + q.f, r.g + q.g, r.h + q.h⟩

def turn (r : Reg) (p : Nat → UInt8) : Reg := r.add (rounds p r 64)
end Sha
end Go.Proofs.YtpdhgijeanbmcaaGreatDoor

/- Turn -/
namespace Go.Proofs.YtpdhgijeanbmcaaGreatDoor
set_option maxRecDepth 100000
open Go.RowKit
theorem round_any (x : BitVec 32) (n : Int) (w : World) (hn : 1 ≤ n) (hn' : n ≤ 31) :
    Calls Tryz.prog 63 #[V32 x, .int .u64 n] w fun e w' => e = .returned (V32 (Sha.rot x n.toNat)) ∧ w' = w := by
  have h0 : 0 ≤ n := by omega
  have h1 : n ≤ 32 := by omega
  have h2 : 0 ≤ 32 - n := by omega
  have h3 : 32 - n ≤ 32 := by omega
  go_enter Tryz.func63, Tryz.ntmps63
  go_wp2
  go_ret
  refine ⟨?_, rfl⟩
  simp only [Sha.rot]
  rw [show (32 - n).toNat = 32 - n.toNat from by omega]
  rfl

/-- Block b is n cells, not frozen, whose j-th holds f j. -/
def Arr (w : World) (b n : Nat) (f : Nat → Value) : Prop :=
  ∃ cs t, w.heap[b]? = some (.cells cs t (0, 0)) ∧ cs.size = n ∧ ∀ j, j < n → cs[j]? = some (f j)
theorem Arr.cell {w : World} {b n : Nat} {f : Nat → Value} (h : Arr w b n f) (j : Nat) (hj : j < n) : w.cell? ⟨b, j, none⟩ = some (f j) := by
  obtain ⟨cs, t, hb, _, hc⟩ := h
  simp [World.cell?, hb, hc j hj]
theorem Arr.frozen {w : World} {b n : Nat} {f : Nat → Value} (h : Arr w b n f) (j : Nat) : w.frozen? ⟨b, j, none⟩ = false := by
  obtain ⟨cs, t, hb, _, hc⟩ := h
  simp [World.frozen?, hb]
theorem Arr.size {w : World} {b n : Nat} {f : Nat → Value} (h : Arr w b n f) : b < w.heap.size := by
  obtain ⟨cs, t, hb, _, hc⟩ := h
  exact (Array.getElem?_eq_some_iff.1 hb).1
theorem Arr.ext {w : World} {b n : Nat} {f g : Nat → Value} (h : Arr w b n f) (hg : ∀ j, j < n → f j = g j) : Arr w b n g := by
  obtain ⟨cs, t, hb, hs, hc⟩ := h
  exact ⟨cs, t, hb, hs, fun j hj => by rw [hc j hj, hg j hj]⟩
theorem Arr.set {w : World} {b n : Nat} {f : Nat → Value} (h : Arr w b n f) (i : Nat) (v : Value) (hi : i < n) : Arr (w.setCell ⟨b, i, none⟩ v) b n (fun j => if j = i then v else f j) := by
  obtain ⟨cs, t, hb, hs, hc⟩ := h
  refine ⟨cs.setIfInBounds i v, t, ?_, by simpa using hs, fun j hj => ?_⟩
  · simp [World.setCell, Array.getElem?_modify, hb]
  · rw [Array.getElem?_setIfInBounds]
    by_cases e : i = j
    · subst e; simp [hs, hi]
    · rw [if_neg e, hc j hj]; simp [Ne.symm e]
theorem Arr.other {w : World} {b n : Nat} {f : Nat → Value} (h : Arr w b n f) (a : Addr) (v : Value) (hb : a.block ≠ b) : Arr (w.setCell a v) b n f := by
  obtain ⟨cs, t, hh, r⟩ := h
  exact ⟨cs, t, by rw [Below.heap_setCell _ _ _ _ (by omega)]; exact hh, r⟩
theorem Arr.drew {w : World} {b n : Nat} {f : Nat → Value} (h : Arr w b n f) : Arr w.drew b n f := h
theorem Arr.below {w w' : World} {b n B : Nat} {f : Nat → Value} (h : Arr w b n f) (hw : Below B w w') (hb : b < B) : Arr w' b n f := by
  obtain ⟨cs, t, hh, r⟩ := h
  exact ⟨cs, t, by rw [hw.block b hb]; exact hh, r⟩

abbrev regV (q : Sha.Reg) : Value := .agg #[V32 q.a, V32 q.b, V32 q.c, V32 q.d, V32 q.e, V32 q.f, V32 q.g, V32 q.h]
theorem below_setRow {B : Nat} {a w : World} (h : Below B a w) {g : Nat} (hp : B ≤ g) (cs : Array Value) : Below B a (w.setRow g cs) :=
  h.trans ⟨rfl, rfl, rfl, by simp, fun k hk => setRow_other _ _ _ _ (by omega)⟩
def regF (r : Sha.Reg) (j : Nat) : Value := V32 (r.list.getD j 0)
def wF (p : Nat → UInt8) (k j : Nat) : Value := V32 (if j < k then Sha.sched p j else 0)

theorem arr_new {w : World} {cs : Array Value} {t : TypeId} {f : Nat → Value} {n : Nat} (hn : cs.size = n) (hf : ∀ j, j < n → cs[j]? = some (f j)) : Arr (w.alloc (.cells cs t)) w.heap.size n f :=
  ⟨cs, t, heap_alloc_new _ _, hn, hf⟩
theorem arr_old {w : World} {o : Obj} {b n : Nat} {f : Nat → Value} (h : Arr w b n f) : Arr (w.alloc o) b n f := by
  have hs := h.size
  obtain ⟨cs, t, hh, r⟩ := h
  exact ⟨cs, t, by rw [heap_alloc_old _ _ hs]; exact hh, r⟩

/-- What the three arrays hold while the schedule is made. -/
structure Sched (w wr : World) (r : Sha.Reg) (p : Nat → UInt8) (k : Nat) : Prop where
  reg : Arr wr w.heap.size 8 (regF r)
  out : Arr wr (w.heap.size + 1) 8 (fun _ => V32 0)
  arr : Arr wr (w.heap.size + 1 + 1) 64 (wF p k)
  low : Below w.heap.size w wr

theorem Sched.next {w wr : World} {r : Sha.Reg} {p : Nat → UInt8} {k : Nat} (h : Sched w wr r p k) (hk : k < 64) (x : BitVec 32) (hx : x = Sha.sched p k) :
    Sched w (wr.setCell ⟨w.heap.size + 1 + 1, k, none⟩ (V32 x)) r p (k + 1) := by
  subst hx
  refine ⟨h.reg.other _ _ (by show w.heap.size + 1 + 1 ≠ _; omega), h.out.other _ _ (by show w.heap.size + 1 + 1 ≠ _; omega), (h.arr.set k _ hk).ext fun j hj => ?_, h.low.setCell (by simp; omega) _⟩
  unfold wF
  by_cases e : j = k
  · subst e; simp
  · rw [if_neg e]
    by_cases e2 : j < k
    · rw [if_pos e2, if_pos (by omega)]
    · rw [if_neg e2, if_neg (by omega)]
theorem Sched.drew {w wr : World} {r : Sha.Reg} {p : Nat → UInt8} {k : Nat} (h : Sched w wr r p k) : Sched w wr.drew r p k := ⟨h.reg, h.out, h.arr, h.low.drew⟩
theorem Sched.drewN {w wr : World} {r : Sha.Reg} {p : Nat → UInt8} {k n : Nat} (h : Sched w wr r p k) : Sched w (wr.drewN n) r p k :=
  ⟨h.reg, h.out, h.arr, ⟨h.low.os, h.low.tape, h.low.output, h.low.size, h.low.block⟩⟩

def zeros (n : Nat) : Array Value := (List.replicate n (V32 0)).toArray
theorem sched_start (w : World) (r : Sha.Reg) (p : Nat → UInt8) :
    Sched w (((w.alloc (.cells (r.list.map V32).toArray 109)).alloc (.cells (zeros 8) 109)).alloc (.cells (zeros 64) 117)) r p 0 := by
  have h8 : ∀ n j, j < n → (zeros n)[j]? = some (V32 0) := fun n j hj => by simp [zeros, hj]
  have e1 : ∀ o, w.heap.size + 1 = (w.alloc o).heap.size := fun o => by simp
  have e2 : ∀ o o', w.heap.size + 1 + 1 = ((w.alloc o).alloc o').heap.size := fun o o' => by simp
  refine ⟨arr_old (arr_old (arr_new rfl fun j hj => ?_)), ?_, ?_, (((Below.refl _ _).alloc (by simp) _).alloc (by simp) _).alloc (by simp; omega) _⟩
  · replace hj : j < 8 := hj
    have : j = 0 ∨ j = 1 ∨ j = 2 ∨ j = 3 ∨ j = 4 ∨ j = 5 ∨ j = 6 ∨ j = 7 := by omega
    rcases this with rfl | rfl | rfl | rfl | rfl | rfl | rfl | rfl <;> rfl
  · rw [e1]; exact arr_old (arr_new (by simp [zeros]) (h8 8))
  · rw [e2]; exact arr_new (by simp [zeros]) fun j hj => by rw [h8 64 j hj]; simp [wF]

def At1 (w : World) (r : Sha.Reg) (p : Nat → UInt8) (m : Nat) (i : Value) (wr : World) : Prop := ∃ k : Nat, k ≤ m ∧ i = .int .i64 k ∧ Sched w wr r p k
def At2 (w : World) (r : Sha.Reg) (p : Nat → UInt8) (i : Value) (wr : World) : Prop := ∃ k : Nat, 16 ≤ k ∧ k ≤ 64 ∧ i = .int .i64 k ∧ Sched w wr r p k

theorem sched_lo (p : Nat → UInt8) (k : Nat) (h : k < 16) : Sha.word (p (4 * k)) (p (4 * k + 1)) (p (4 * k + 2)) (p (4 * k + 3)) = Sha.sched p k := by
  rw [Sha.sched, dif_pos h]
theorem sched_hi (p : Nat → UInt8) (k : Nat) (h : 16 ≤ k) :
    Sha.sched p (k - 16) + (Sha.rot (Sha.sched p (k - 15)) 7 ^^^ Sha.rot (Sha.sched p (k - 15)) 18 ^^^ Sha.sched p (k - 15) >>> 3) + Sha.sched p (k - 7) +
      (Sha.rot (Sha.sched p (k - 2)) 17 ^^^ Sha.rot (Sha.sched p (k - 2)) 19 ^^^ Sha.sched p (k - 2) >>> 10) = Sha.sched p k := by
  conv => rhs; rw [Sha.sched, dif_neg (by omega)]
  rfl
structure RegIs (q : Sha.Reg) (a b c d e f g h : Value) : Prop where
  a : a = V32 q.a
  b : b = V32 q.b
  c : c = V32 q.c
  d : d = V32 q.d
  e : e = V32 q.e
  f : f = V32 q.f
  g : g = V32 q.g
  h : h = V32 q.h
def At3 (w : World) (r : Sha.Reg) (p : Nat → UInt8) (a b c d e f g h i : Value) (wr : World) : Prop :=
  ∃ k : Nat, k ≤ 64 ∧ i = .int .i64 k ∧ RegIs (Sha.rounds p r k) a b c d e f g h ∧ Sched w wr r p 64
theorem wF_at (p : Nat → UInt8) (k j : Nat) (h : j < k) : wF p k j = V32 (Sha.sched p j) := by unfold wF; rw [if_pos h]

set_option maxRecDepth 100000 in
set_option maxHeartbeats 4000000 in
theorem turn_any (r : Sha.Reg) (b o n c : Nat) (p : Nat → UInt8) (w : World) (hn : 64 ≤ n) (hb : b < w.heap.size) (hp : ∀ j, j < 64 → w.cell? ⟨b, o + j, none⟩ = some (V8 (p j)))
    (hR0 : 1 < w.heap.size) (hR : ∀ j, j < 64 → w.cell? ⟨1, j, none⟩ = some (V32 (Sha.root j))) :
    Calls Tryz.prog 55 #[.agg #[V32 r.a, V32 r.b, V32 r.c, V32 r.d, V32 r.e, V32 r.f, V32 r.g, V32 r.h], .slice (some ⟨b, o, none⟩) n c] w fun e w' =>
      e = .returned (regV (Sha.turn r p)) ∧ Below w.heap.size w w' := by
  have hp' := Lib.hid hp
  have hR' := Lib.hid hR
  clear hp hR
  go_enter Tryz.func55, Tryz.ntmps55
  go_wp2
  go_loopw [6, 21] (fun _ i wr => At1 w r p 16 i wr)
    (fun _ i _ => 16 - (intOf i).toNat)
  case atStart =>
    exact ⟨0, by omega, rfl, sched_start w r p⟩
  case round =>
    obtain ⟨k, hk, rfl, S⟩ := hrel
    by_cases hlt : k < 16
    · have hi0 : (0 : Int) ≤ (k : Int) := by omega
      have hi1 : (k : Int) < 64 := by omega
      have n0 : (4 * (k : Int)).toNat = 4 * k := by omega
      have n1 : (4 * (k : Int) + 1).toNat = 4 * k + 1 := by omega
      have n2 : (4 * (k : Int) + 2).toNat = 4 * k + 2 := by omega
      have n3 : (4 * (k : Int) + 3).toNat = 4 * k + 3 := by omega
      have a0 : (0 : Int) ≤ 4 * (k : Int) := by omega
      have a1 : (0 : Int) ≤ 4 * (k : Int) + 1 := by omega
      have a2 : (0 : Int) ≤ 4 * (k : Int) + 2 := by omega
      have a3 : (0 : Int) ≤ 4 * (k : Int) + 3 := by omega
      have b0 : 4 * (k : Int) < (n : Int) := by omega
      have b1 : 4 * (k : Int) + 1 < (n : Int) := by omega
      have b2 : 4 * (k : Int) + 2 < (n : Int) := by omega
      have b3 : 4 * (k : Int) + 3 < (n : Int) := by omega
      have w0 : IntKind.i64.wrap (4 * (k : Int)) = 4 * k := IntWalk.i64_in _ (by omega)
      have w1 : IntKind.i64.wrap (4 * (k : Int) + 1) = 4 * k + 1 := IntWalk.i64_in _ (by omega)
      have w2 : IntKind.i64.wrap (4 * (k : Int) + 2) = 4 * k + 2 := IntWalk.i64_in _ (by omega)
      have w3 : IntKind.i64.wrap (4 * (k : Int) + 3) = 4 * k + 3 := IntWalk.i64_in _ (by omega)
      have c0 := (S.low.cell (p := ⟨b, o + 4 * k, none⟩) hb).trans (hp'.out (4 * k) (by omega))
      have c1 := (S.low.cell (p := ⟨b, o + (4 * k + 1), none⟩) hb).trans (hp'.out (4 * k + 1) (by omega))
      have c2 := (S.low.cell (p := ⟨b, o + (4 * k + 2), none⟩) hb).trans (hp'.out (4 * k + 2) (by omega))
      have c3 := (S.low.cell (p := ⟨b, o + (4 * k + 3), none⟩) hb).trans (hp'.out (4 * k + 3) (by omega))
      have d0 := S.arr.cell k (by omega)
      have d1 := S.arr.frozen k
      go_wp2
      go_still_tail 35, (by kernel_rfl)
      change wpList _ _ _ _ _ wr.drew
      go_wp2
      exact ⟨⟨k + 1, by omega, by go_num, (S.next (by omega) _ (sched_lo p k hlt)).drew⟩, by simp [intOf]; omega⟩
    · obtain rfl : k = 16 := by omega
      have S2 := Lib.hid S
      clear S
      rw [show ((16 : Nat) : Int) = 16 from rfl]
      go_wp2
      go_loopw [7, 8, 9] (fun i _ _ wr => At2 w r p i wr) (fun i _ _ _ => 64 - (intOf i).toNat)
      case atStart => exact ⟨16, by omega, by omega, rfl, S2.out⟩
      case round =>
        clear S2
        obtain ⟨k, hk0, hk, rfl, S⟩ := hrel
        by_cases hlt : k < 64
        · have c15 := (S.arr.cell (k - 15) (by omega)).trans (congrArg some (wF_at p k (k - 15) (by omega)))
          have c2 := (S.arr.cell (k - 2) (by omega)).trans (congrArg some (wF_at p k (k - 2) (by omega)))
          have c16 := (S.arr.cell (k - 16) (by omega)).trans (congrArg some (wF_at p k (k - 16) (by omega)))
          have c7 := (S.arr.cell (k - 7) (by omega)).trans (congrArg some (wF_at p k (k - 7) (by omega)))
          have d0 := S.arr.cell k (by omega)
          have d1 := S.arr.frozen k
          have n15 : ((k : Int) - 15).toNat = k - 15 := by omega
          have n2 : ((k : Int) - 2).toNat = k - 2 := by omega
          have n16 : ((k : Int) - 16).toNat = k - 16 := by omega
          have n7 : ((k : Int) - 7).toNat = k - 7 := by omega
          have z15 : (15 : Int) ≤ (k : Int) := by omega
          have z2 : (2 : Int) ≤ (k : Int) := by omega
          have z16 : (16 : Int) ≤ (k : Int) := by omega
          have z7 : (7 : Int) ≤ (k : Int) := by omega
          have y15 : (k : Int) - 15 < 64 := by omega
          have y2 : (k : Int) - 2 < 64 := by omega
          have y16 : (k : Int) - 16 < 64 := by omega
          have y7 : (k : Int) - 7 < 64 := by omega
          have w15 : IntKind.i64.wrap ((k : Int) - 15) = k - 15 := IntWalk.i64_in _ (by omega)
          have w2 : IntKind.i64.wrap ((k : Int) - 2) = k - 2 := IntWalk.i64_in _ (by omega)
          have w16 : IntKind.i64.wrap ((k : Int) - 16) = k - 16 := IntWalk.i64_in _ (by omega)
          have w7 : IntKind.i64.wrap ((k : Int) - 7) = k - 7 := IntWalk.i64_in _ (by omega)
          have hi1 : (k : Int) < 64 := by omega
          have hi0 : (0 : Int) ≤ (k : Int) := by omega
          go_wp2
          go_quiet (fail)
          go_wp2
          have S2 := S.drewN (n := nq)
          clear c15 c2 c16 c7 d0 d1 S
          generalize wr.drewN nq = wq at S2 ⊢
          have c16 := (S2.arr.cell (k - 16) (by omega)).trans (congrArg some (wF_at p k (k - 16) (by omega)))
          have c7 := (S2.arr.cell (k - 7) (by omega)).trans (congrArg some (wF_at p k (k - 7) (by omega)))
          have d0 := S2.arr.cell k (by omega)
          have d1 := S2.arr.frozen k
          refine wp_region_still_tail 29 (by kernel_rfl) (by kernel_rfl) ?_
          simp only [List.take_succ_cons, List.take_zero, List.drop_succ_cons, List.drop_zero]
          repeat (first | still_step | still_call (round_any _ _ _ (by omega) (by omega)))
          refine wpStill_nil ?_
          change wpList _ _ _ _ _ wq.drew
          go_wp2
          go_roundw
          case rel => exact ⟨k + 1, by omega, by omega, by go_num, (S2.next (by omega) _ (sched_hi p k hk0)).drew⟩
          case measure => simp [intOf]; omega
        · obtain rfl : k = 64 := by omega
          rw [show ((64 : Nat) : Int) = 64 from rfl]
          have r0 : wr.cell? ⟨w.heap.size, 0, none⟩ = some (V32 r.a) := S.reg.cell 0 (by omega)
          have r1 : wr.cell? ⟨w.heap.size, 1, none⟩ = some (V32 r.b) := S.reg.cell 1 (by omega)
          have r2 : wr.cell? ⟨w.heap.size, 2, none⟩ = some (V32 r.c) := S.reg.cell 2 (by omega)
          have r3 : wr.cell? ⟨w.heap.size, 3, none⟩ = some (V32 r.d) := S.reg.cell 3 (by omega)
          have r4 : wr.cell? ⟨w.heap.size, 4, none⟩ = some (V32 r.e) := S.reg.cell 4 (by omega)
          have r5 : wr.cell? ⟨w.heap.size, 5, none⟩ = some (V32 r.f) := S.reg.cell 5 (by omega)
          have r6 : wr.cell? ⟨w.heap.size, 6, none⟩ = some (V32 r.g) := S.reg.cell 6 (by omega)
          have r7 : wr.cell? ⟨w.heap.size, 7, none⟩ = some (V32 r.h) := S.reg.cell 7 (by omega)
          have S2 := Lib.hid S
          clear S
          go_wp2
          go_quiet (fail)
          go_wp2
          have S3 := Lib.hid (S2.out.drewN (n := nq))
          clear S2 r0 r1 r2 r3 r4 r5 r6 r7
          generalize wr.drewN nq = wq at S3 ⊢
          go_loopw [10, 11, 12, 13, 14, 15, 16, 17, 117] (fun a b c d e f g h i wr => At3 w r p a b c d e f g h i wr) (fun _ _ _ _ _ _ _ _ i _ => 64 - (intOf i).toNat)
          case atStart => exact ⟨0, by omega, rfl, ⟨rfl, rfl, rfl, rfl, rfl, rfl, rfl, rfl⟩, S3.out⟩
          case round =>
            clear S3
            obtain ⟨k, hk, rfl, ⟨rfl, rfl, rfl, rfl, rfl, rfl, rfl, rfl⟩, S⟩ := hrel
            by_cases hlt : k < 64
            · have hi0 : (0 : Int) ≤ (k : Int) := by omega
              have hi1 : (k : Int) < 64 := by omega
              have c1 := (S.arr.cell k (by omega)).trans (congrArg some (wF_at p 64 k (by omega)))
              have c2 := (S.low.cell (p := ⟨1, k, none⟩) hR0).trans (hR'.out k (by omega))
              go_wp2
              go_quiet ((go_at_call 63; exact Calls.quiet_of_same (round_any _ _ _ (by omega) (by omega))))
              go_wp2_with (go_at_call 63; refine (round_any _ _ _ (by omega) (by omega)).mono ?_; rintro e w' ⟨rfl, rfl⟩)
              go_roundw
              case rel => exact ⟨k + 1, by omega, by go_num, ⟨rfl, rfl, rfl, rfl, rfl, rfl, rfl, rfl⟩, S.drewN⟩
              case measure => simp [intOf]; omega
            · obtain rfl : k = 64 := by omega
              have r0 : wr.cell? ⟨w.heap.size, 0, none⟩ = some (V32 r.a) := S.reg.cell 0 (by omega)
              have r1 : wr.cell? ⟨w.heap.size, 1, none⟩ = some (V32 r.b) := S.reg.cell 1 (by omega)
              have r2 : wr.cell? ⟨w.heap.size, 2, none⟩ = some (V32 r.c) := S.reg.cell 2 (by omega)
              have r3 : wr.cell? ⟨w.heap.size, 3, none⟩ = some (V32 r.d) := S.reg.cell 3 (by omega)
              have r4 : wr.cell? ⟨w.heap.size, 4, none⟩ = some (V32 r.e) := S.reg.cell 4 (by omega)
              have r5 : wr.cell? ⟨w.heap.size, 5, none⟩ = some (V32 r.f) := S.reg.cell 5 (by omega)
              have r6 : wr.cell? ⟨w.heap.size, 6, none⟩ = some (V32 r.g) := S.reg.cell 6 (by omega)
              have r7 : wr.cell? ⟨w.heap.size, 7, none⟩ = some (V32 r.h) := S.reg.cell 7 (by omega)
              obtain ⟨old, t, hold, hsz, _⟩ := S.out
              have hold' := Lib.hid hold
              have hsz' := Lib.hid hsz
              have S4 := Lib.hid S
              clear hold hsz S
              go_wp2_with (refine wpList_store_row rfl 109 _ _ rfl (w.heap.size + 1) _ rfl rfl t old hold'.out (by kernel_rfl) hsz'.out (by kernel_rfl) ?_)

              refine bodyPost_ret (results_cell_row rfl _ _ (w.heap.size + 1) t _ (0, 0) _ rfl (setRow_heap _ _ _ _ _ _ hold'.out) Tryz.underlying109 rfl (by kernel_rfl)) rfl ⟨rfl, ?_⟩
              exact below_setRow S4.out.low (by omega) _
end Go.Proofs.YtpdhgijeanbmcaaGreatDoor

/- Sums -/
namespace Go.Proofs.YtpdhgijeanbmcaaGreatDoor
set_option maxRecDepth 100000
open Go.RowKit

/-- A sum as a value. -/
def sumV (l : List UInt8) : Value := .agg (l.map V8).toArray
def byteF (l : List UInt8) (j : Nat) : Value := V8 (l.getD j 0)

theorem oneCells (l : List UInt8) : (l.map V8).toArray.all (·.oneCell') = true := by
  simp [V8, Value.oneCell']
section
variable {P : Program} {ops : Array Oper} {rest : List Oper} {o : Oper} {a : Act} {w : World} {Q : Exit → Act → World → Prop}
theorem wpList_load_sum (hgd : o.guard = none) (ty : TypeId) (x : Operand) (ho : o.op = .load ty x) (g : Nat) (hx : a.eval x = .pointer (some ⟨g, 0, none⟩))
    (t : TypeId) (l : List UInt8) (n : Nat) (fr : Nat × Nat) (e : TypeId) (hg : w.heap[g]? = some (.cells (l.map V8).toArray t fr)) (hu : P.underlying ty = some (.array n e))
    (hi : (P.info? ty).map (·.size) = some n) (hl : l.length = n) (h : wpList P ops Q rest (a.put o.dst (sumV l)) w) : wpList P ops Q (o :: rest) a w :=
  wpList_load_row hgd ty x ho g hx t _ fr _ hg hu rfl (by rw [hi]; simp [hl]) h
theorem wpList_store_sum (hgd : o.guard = none) (ty : TypeId) (x y : Operand) (ho : o.op = .store ty x y) (g : Nat) (l : List UInt8) (n : Nat)
    (hx : a.eval x = .pointer (some ⟨g, 0, none⟩)) (hy : a.eval y = sumV l) (t : TypeId) (old : Array Value) (hg : w.heap[g]? = some (.cells old t (0, 0))) (hi : (P.info? ty).map (·.size) = some n)
    (hl : l.length = n) (hold : old.size = n) (h : wpList P ops Q rest (a.put o.dst undef) (w.setRow g (l.map V8).toArray)) : wpList P ops Q (o :: rest) a w :=
  wpList_store_row hgd ty x y ho g _ hx hy t old hg (by rw [hi]; simp [hl]) (by simp [hl, hold]) (oneCells l) h
theorem results_sum {fn : Func} {p : Tmp} {ty : TypeId} (h : fn.results = #[.cell p ty]) (tmps : Array Value) (w : World) (g : Nat) (t : TypeId) (l : List UInt8) (n : Nat) (fr : Nat × Nat) (e : TypeId)
    (hp : tmps.getD p undef = .pointer (some ⟨g, 0, none⟩)) (hg : w.heap[g]? = some (.cells (l.map V8).toArray t fr))
    (hu : P.underlying ty = some (.array n e)) (hi : (P.info? ty).map (·.size) = some n) (hl : l.length = n) : (results fn tmps).run P w = .ok (sumV l) w :=
  results_cell_row h tmps w g t _ fr _ hp hg hu rfl (by rw [hi]; simp [hl])
end

theorem Arr.row {w : World} {b n : Nat} {f : Nat → Value} (h : Arr w b n f) (l : List Value) (hl : l.length = n) (hf : ∀ j, j < n → l[j]? = some (f j)) : ∃ t, w.heap[b]? = some (.cells l.toArray t (0, 0)) := by
  obtain ⟨cs, t, hb, hs, hc⟩ := h
  refine ⟨t, ?_⟩
  rw [hb]
  congr 2
  apply Array.ext_getElem?
  intro j
  by_cases hj : j < n
  · rw [hc j hj, List.getElem?_toArray, hf j hj]
  · rw [Array.getElem?_eq_none (by omega), List.getElem?_toArray, List.getElem?_eq_none (by omega)]
/-- An array whose cells are the bytes of l. -/
theorem Arr.sum {w : World} {b n : Nat} {l : List UInt8} (h : Arr w b n (byteF l)) (hl : l.length = n) : ∃ t, w.heap[b]? = some (.cells (l.map V8).toArray t (0, 0)) :=
  h.row _ (by simpa using hl) fun j hj => by simp [byteF, List.getD, List.getElem?_eq_getElem (show j < l.length by omega)]
def zeros8 (n : Nat) : Array Value := (List.replicate n (V8 0)).toArray
theorem zeros8_at (n j : Nat) (h : j < n) : (zeros8 n)[j]? = some (V8 0) := by simp [zeros8, h]
theorem zeros8_size (n : Nat) : (zeros8 n).size = n := by simp [zeros8]
theorem V8_ofNat (x : Nat) : V8 (UInt8.ofNat x) = .int .u8 ((x : Int) % 256) := by simp [V8]
end Go.Proofs.YtpdhgijeanbmcaaGreatDoor

/- Shb -/
namespace Go.Proofs.YtpdhgijeanbmcaaGreatDoor
set_option maxRecDepth 100000
namespace Sha

/-- The register that a sum begins with. -/
def init : Reg := ⟨0x6a09e667, 0xbb67ae85, 0x3c6ef372, 0xa54ff53a, 0x510e527f, 0x9b05688c, 0x1f83d9ab, 0x5be0cd19⟩

/-- The register behind the whole blocks of l. -/
def blocks (r : Reg) (l : List UInt8) : Reg := if _h : l.length < 64 then r else blocks (turn r (fun j => l.getD j 0)) (l.drop 64)
termination_by l.length
decreasing_by simp only [List.length_drop]; omega

/-- A number as eight bytes, the highest first. -/
def eight (n : Nat) : List UInt8 := (List.range 8).map fun i => UInt8.ofNat (n / 2 ^ (8 * (7 - i)))

/-- What a text is filled up with: 0x80, zeros up to 56 of a block, its length in bits. -/
def pad (n : Nat) : List UInt8 := 0x80 :: (List.replicate ((119 - n % 64) % 64) 0 ++ eight (8 * n))

def wbytes (x : BitVec 32) : List UInt8 := [⟨(x >>> 24).setWidth 8⟩, ⟨(x >>> 16).setWidth 8⟩, ⟨(x >>> 8).setWidth 8⟩, ⟨x.setWidth 8⟩]
def bytes (r : Reg) : List UInt8 := r.list.flatMap wbytes

/-- The sum of a text. -/
def sum (l : List UInt8) : List UInt8 := bytes (blocks init (l ++ pad l.length))
theorem blocks_short (r : Reg) (l : List UInt8) (h : l.length < 64) : blocks r l = r := by
  rw [blocks, dif_pos h]
theorem blocks_step (r : Reg) (l : List UInt8) (h : 64 ≤ l.length) : blocks r l = blocks (turn r fun j => l.getD j 0) (l.drop 64) := by
  rw [blocks, dif_neg (by omega)]
theorem sched_lt (p : Nat → UInt8) (t : Nat) (h : t < 16) : sched p t = word (p (4 * t)) (p (4 * t + 1)) (p (4 * t + 2)) (p (4 * t + 3)) := by rw [sched, dif_pos h]
theorem sched_ge (p : Nat → UInt8) (t : Nat) (h : ¬ t < 16) : sched p t = sched p (t - 16) + s0 (sched p (t - 15)) + sched p (t - 7) + s1 (sched p (t - 2)) := by
  conv => lhs; rw [sched, dif_neg h]
theorem sched_congr (p q : Nat → UInt8) (h : ∀ j, j < 64 → p j = q j) : ∀ n t, t ≤ n → t < 64 → sched p t = sched q t := by
  intro n
  induction n with
  | zero =>
    intro t h0 _
    obtain rfl : t = 0 := by omega
    rw [sched_lt _ _ (by omega), sched_lt _ _ (by omega), h _ (by omega), h _ (by omega), h _ (by omega), h _ (by omega)]
  | succ n ih =>
    intro t h0 h1
    by_cases hlt : t < 16
    · rw [sched_lt _ _ hlt, sched_lt _ _ hlt, h _ (by omega), h _ (by omega), h _ (by omega), h _ (by omega)]
    · rw [sched_ge p t hlt, sched_ge q t hlt, ih (t - 16) (by omega) (by omega), ih (t - 15) (by omega) (by omega), ih (t - 7) (by omega) (by omega), ih (t - 2) (by omega) (by omega)]
theorem rounds_congr (p q : Nat → UInt8) (h : ∀ j, j < 64 → p j = q j) (r : Reg) : ∀ t, t ≤ 64 → rounds p r t = rounds q r t := by
  intro t
  induction t with
  | zero => intro _; rfl
  | succ t ih => intro ht; rw [rounds, rounds, ih (by omega), sched_congr p q h t t (Nat.le_refl _) (by omega)]
theorem turn_congr (r : Reg) (p q : Nat → UInt8) (h : ∀ j, j < 64 → p j = q j) : turn r p = turn r q := by
  rw [turn, turn, rounds_congr p q h r 64 (Nat.le_refl _)]
theorem blocks_append (n : Nat) : ∀ (r : Reg) (A B : List UInt8), A.length = 64 * n → blocks r (A ++ B) = blocks (blocks r A) B := by
  induction n with
  | zero =>
    intro r A B h
    obtain rfl : A = [] := List.eq_nil_of_length_eq_zero (by omega)
    rw [blocks_short r [] (by simp)]
    rfl
  | succ n ih =>
    intro r A B h
    rw [blocks_step r (A ++ B) (by simp; omega), blocks_step r A (by omega), List.drop_append_of_le_length (by omega), ih _ _ _ (by simp; omega)]
    rw [turn_congr r (fun j => (A ++ B).getD j 0) (fun j => A.getD j 0) fun j hj => by simp [List.getD, List.getElem?_append_left (show j < A.length by omega)]]
theorem blocks_rest (r : Reg) (A q : List UInt8) (h : A.length % 64 = 0) (hq : q.length < 64) : blocks r (A ++ q) = blocks r A := by
  rw [blocks_append (A.length / 64) r A q (by omega), blocks_short _ q hq]
theorem blocks_last (r : Reg) (A q : List UInt8) (h : A.length % 64 = 0) (hq : q.length = 64) : blocks r (A ++ q) = turn (blocks r A) fun j => q.getD j 0 := by
  rw [blocks_append (A.length / 64) r A q (by omega), blocks_step _ q (by omega), blocks_short _ _ (by simp; omega)]
end Sha
end Go.Proofs.YtpdhgijeanbmcaaGreatDoor

/- Tabs -/
namespace Go.Proofs.YtpdhgijeanbmcaaGreatDoor
set_option maxRecDepth 100000
open Go.RowKit

def rootsCells : Array Value := ((List.range 64).map fun t => V32 (Sha.root t)).toArray
/-- The tables of both packages hold what the program's text lays. -/
structure Tabs (w : World) : Prop where
  first : ∃ t fr, w.heap[0]? = some (.cells (Sha.init.list.map V32).toArray t fr)
  roots : ∃ t fr, w.heap[1]? = some (.cells rootsCells t fr)
  rroots : ∃ t fr, w.heap[3]? = some (.cells rootsCells t fr)

/-- Block b is none of the tables. -/
structure NoTab (b : Nat) : Prop where
  first : b ≠ 0
  roots : b ≠ 1
  rroots : b ≠ 3

theorem Tabs.size {w : World} (h : Tabs w) : 0 < w.heap.size ∧ 1 < w.heap.size ∧ 3 < w.heap.size := by
  obtain ⟨⟨_, _, h1⟩, ⟨_, _, h2⟩, ⟨_, _, h3⟩⟩ := h
  exact ⟨(Array.getElem?_eq_some_iff.1 h1).1, (Array.getElem?_eq_some_iff.1 h2).1, (Array.getElem?_eq_some_iff.1 h3).1⟩
theorem Tabs.fresh {w : World} (h : Tabs w) {b : Nat} (hb : w.heap.size ≤ b) : NoTab b := by
  obtain ⟨h1, h2, h3⟩ := h.size
  exact ⟨by omega, by omega, by omega⟩
theorem Tabs.firstAt {w : World} (h : Tabs w) (j : Nat) (hj : j < 8) : w.cell? ⟨0, j, none⟩ = some (regF Sha.init j) := by
  obtain ⟨t, fr, h1⟩ := h.first
  rw [cell_of_row _ _ _ _ _ _ h1]
  have : j = 0 ∨ j = 1 ∨ j = 2 ∨ j = 3 ∨ j = 4 ∨ j = 5 ∨ j = 6 ∨ j = 7 := by omega
  rcases this with rfl | rfl | rfl | rfl | rfl | rfl | rfl | rfl <;> rfl
theorem Tabs.rootsAt {w : World} (h : Tabs w) (j : Nat) (hj : j < 64) : w.cell? ⟨1, j, none⟩ = some (V32 (Sha.root j)) := by
  obtain ⟨t, fr, h1⟩ := h.roots
  rw [cell_of_row _ _ _ _ _ _ h1]
  simp [rootsCells, hj]
theorem Tabs.rrootsAt {w : World} (h : Tabs w) (j : Nat) (hj : j < 64) : w.cell? ⟨3, j, none⟩ = some (V32 (Sha.root j)) := by
  obtain ⟨t, fr, h1⟩ := h.rroots
  rw [cell_of_row _ _ _ _ _ _ h1]
  simp [rootsCells, hj]
theorem Tabs.below {w w' : World} (h : Tabs w) (hb : Below w.heap.size w w') : Tabs w' := by
  obtain ⟨s1, s2, s3⟩ := h.size
  obtain ⟨⟨t1, f1, h1⟩, ⟨t2, f2, h2⟩, ⟨t3, f3, h3⟩⟩ := h
  exact ⟨⟨t1, f1, by rw [hb.block _ s1]; exact h1⟩, ⟨t2, f2, by rw [hb.block _ s2]; exact h2⟩, ⟨t3, f3, by rw [hb.block _ s3]; exact h3⟩⟩
theorem Tabs.grown {w w' : World} {b : Nat} (h : Tabs w) (hg : w.grownBy w' (some b)) (hb : NoTab b) : Tabs w' := by
  obtain ⟨s1, s2, s3⟩ := h.size
  obtain ⟨⟨t1, f1, h1⟩, ⟨t2, f2, h2⟩, ⟨t3, f3, h3⟩⟩ := h
  refine ⟨⟨t1, f1, ?_⟩, ⟨t2, f2, ?_⟩, ⟨t3, f3, ?_⟩⟩
  · rw [hg.block _ s1 (fun e => hb.first (Option.some.inj e).symm)]; exact h1
  · rw [hg.block _ s2 (fun e => hb.roots (Option.some.inj e).symm)]; exact h2
  · rw [hg.block _ s3 (fun e => hb.rroots (Option.some.inj e).symm)]; exact h3

/-- A slice of n bytes at a reads as l. -/
structure BytesAt (w : World) (a : Option Addr) (l : List UInt8) : Prop where
  at_ : 0 < l.length → ∃ b o, a = some ⟨b, o, none⟩ ∧ ∀ j, j < l.length → w.cell? ⟨b, o + j, none⟩ = some (byteF l j)
theorem BytesAt.nil (w : World) (a : Option Addr) : BytesAt w a [] := ⟨fun h => absurd h (by simp)⟩
theorem BytesAt.below {w w' : World} {a : Option Addr} {l : List UInt8} (h : BytesAt w a l) (hb : Below w.heap.size w w') : BytesAt w' a l :=
  ⟨fun h0 => by
    obtain ⟨b, o, ha, hc⟩ := h.at_ h0
    exact ⟨b, o, ha, fun j hj => (hb.cell (p := ⟨b, o + j, none⟩) (World.block_lt_of_cell? w _ (hc j hj))).trans (hc j hj)⟩⟩
theorem BytesAt.grown {w w' : World} {a : Option Addr} {l : List UInt8} {k : Nat} (h : BytesAt w a l) (hg : w.grownBy w' (some k)) (hk : ∀ ad, a = some ad → ad.block ≠ k) : BytesAt w' a l :=
  ⟨fun h0 => by
    obtain ⟨b, o, ha, hc⟩ := h.at_ h0
    refine ⟨b, o, ha, fun j hj => ?_⟩
    have hlt := World.block_lt_of_cell? w _ (hc j hj)
    have hne : some b ≠ some k := fun e => hk _ ha (Option.some.inj e)
    rw [World.cell?_of_block (w := w) (hg.block b hlt hne)]
    exact hc j hj⟩
/-- The same slice without its first k bytes, as Go cuts it. -/
theorem BytesAt.drop {w : World} {a : Option Addr} {l : List UInt8} {C : Nat} (h : BytesAt w a l) (hC : l.length ≤ C) (k : Nat) (hk : k ≤ l.length) :
    BytesAt w (if C = k then a else a.map (·.add k)) (l.drop k) :=
  ⟨fun h0 => by
    simp only [List.length_drop] at h0
    obtain ⟨b, o, ha, hc⟩ := h.at_ (by omega)
    refine ⟨b, o + k, ?_, fun j hj => ?_⟩
    · rw [if_neg (by omega), ha]
      simp [Addr.add_lit]
    · simp only [List.length_drop] at hj
      rw [Nat.add_assoc, hc (k + j) (by omega)]
      simp [byteF, List.getD, List.getElem?_drop]⟩
theorem cell_block {w : World} {b j : Nat} {cs : Array Value} {t : TypeId} {fr : Nat × Nat} {v : Value} (h : w.heap[b]? = some (.cells cs t fr)) (hv : cs[j]? = some v) : w.cell? ⟨b, j, none⟩ = some v := by
  rw [cell_of_row _ _ _ _ _ _ h, hv]
theorem Arr.grown {w w' : World} {b n k : Nat} {f : Nat → Value} (h : Arr w b n f) (hg : w.grownBy w' (some k)) (hb : b ≠ k) : Arr w' b n f := by
  have hs := h.size
  obtain ⟨cs, t, hh, r⟩ := h
  exact ⟨cs, t, by rw [hg.block b hs (fun e => hb (Option.some.inj e))]; exact hh, r⟩
theorem grownBy_below {w w1 : World} (h : Below w.heap.size w w1) (row : Option Nat) : w.grownBy w1 row := ⟨h.os, h.tape, h.output, h.size, fun i hi _ => h.block i hi⟩
theorem grownBy_trans {a b c : World} {k : Nat} (h : a.grownBy b (some k)) (h' : b.grownBy c (some k)) : a.grownBy c (some k) :=
  ⟨h'.os.trans h.os, h'.tape.trans h.tape, h'.output.trans h.output, Nat.le_trans h.size h'.size, fun i hi hne => (h'.block i (Nat.lt_of_lt_of_le hi h.size) hne).trans (h.block i hi hne)⟩
theorem grownBy_setCell (w : World) (b i : Nat) (v : Value) : w.grownBy (w.setCell ⟨b, i, none⟩ v) (some b) :=
  ⟨rfl, rfl, rfl, by simp, fun k _ hne => Below.heap_setCell _ _ _ _ fun e => hne (congrArg some e)⟩
theorem grownBy_drew (w : World) (row : Option Nat) : w.grownBy w.drew row := ⟨rfl, rfl, rfl, Nat.le_refl _, fun _ _ _ => rfl⟩
theorem grownBy_setRow (w : World) (b : Nat) (cs : Array Value) : w.grownBy (w.setRow b cs) (some b) :=
  ⟨rfl, rfl, rfl, by simp, fun k _ hne => setRow_other _ _ _ _ fun e => hne (congrArg some e)⟩
end Go.Proofs.YtpdhgijeanbmcaaGreatDoor

/- Acc -/
namespace Go.Proofs.YtpdhgijeanbmcaaGreatDoor
set_option maxRecDepth 100000
open Go.RowKit

/-- The cells from address a on are cs (no cell: nothing is said). -/
structure CellsAt (w : World) (a : Option Addr) (cs : List Value) : Prop where
  at_ : 0 < cs.length → ∃ b o, a = some ⟨b, o, none⟩ ∧ ∀ j v, cs[j]? = some v → w.cell? ⟨b, o + j, none⟩ = some v
theorem BytesAt.cells {w : World} {a : Option Addr} {l : List UInt8} (h : BytesAt w a l) : CellsAt w a (l.map V8) :=
  ⟨fun h0 => by
    obtain ⟨b, o, ha, hc⟩ := h.at_ (by simpa using h0)
    refine ⟨b, o, ha, fun j v hv => ?_⟩
    have hj : j < l.length := by
      have := (List.getElem?_eq_some_iff.1 hv).1
      simpa using this
    rw [hc j hj, ← hv]
    simp [byteF, List.getD, List.getElem?_eq_getElem hj]⟩
theorem CellsAt.bytes {w : World} {a : Option Addr} {l : List UInt8} (h : CellsAt w a (l.map V8)) : BytesAt w a l :=
  ⟨fun h0 => by
    obtain ⟨b, o, ha, hc⟩ := h.at_ (by simpa using h0)
    exact ⟨b, o, ha, fun j hj => hc j _ (by simp [byteF, List.getD, List.getElem?_eq_getElem hj])⟩⟩
theorem CellsAt.below {w w' : World} {a : Option Addr} {l : List Value} (h : CellsAt w a l) (hb : Below w.heap.size w w') : CellsAt w' a l :=
  ⟨fun h0 => by
    obtain ⟨b, o, ha, hc⟩ := h.at_ h0
    exact ⟨b, o, ha, fun j v hj => (hb.cell (p := ⟨b, o + j, none⟩) (World.block_lt_of_cell? w _ (hc j v hj))).trans (hc j v hj)⟩⟩

/-- The call owns a row: n elements of type e, size cells each, in memory from block base on; below base nothing has turned since w0. -/
structure Acc (e size : Nat) (w0 w : World) (base : Nat) (A : Option Addr) (C n : Nat) (cs : List Value) : Prop where
  own : w.ownsRow base e size (.slice A n C) n cs
  low : Below base w0 w
  base_le : base ≤ w.heap.size

section
variable {e size : Nat} {w0 w w' : World} {base : Nat} {A : Option Addr} {C n : Nat} {cs : List Value}
theorem Acc.length (h : Acc e size w0 w base A C n cs) : cs.length = n * size := h.own.1
theorem Acc.form (h : Acc e size w0 w base A C n cs) : (A = none ∧ n = 0 ∧ C = 0) ∨ ∃ g cur, A = some ⟨g, 0, none⟩ ∧ base ≤ g ∧ g < w.heap.size ∧ w.heap[g]? = some (.cells cur e (0, 0)) ∧ n ≤ C ∧ C ≤ maxLen ∧ cur.size = C * size ∧ cur.toList.take (n * size) = cs := by
  rcases h.own.2 with ⟨hv, h0⟩ | ⟨g, cap, cur, hv, hb, hh, h1, h2, h3, h4⟩
  · injection hv with h1 _ h3
    exact .inl ⟨h1, h0, h3⟩
  · injection hv with h5 _ h7
    subst h7
    exact .inr ⟨g, cur, h5, hb, (Array.getElem?_eq_some_iff.1 hh).1, hh, h1, h2, h3, h4⟩
theorem Acc.cap (h : Acc e size w0 w base A C n cs) : n ≤ C := by
  rcases h.form with ⟨_, h0, _⟩ | ⟨_, _, _, _, _, _, h1, _⟩ <;> omega
theorem Acc.nil (h : Acc e size w0 w base A C n cs) (hA : A = none) : C = 0 := by
  rcases h.form with ⟨_, _, h0⟩ | ⟨g, _, hg, _⟩
  · exact h0
  · rw [hA] at hg; cases hg
theorem Acc.block (h : Acc e size w0 w base A C n cs) (ad : Addr) (hA : A = some ad) : base ≤ ad.block ∧ ad.block < w.heap.size := by
  rcases h.form with ⟨hn, _⟩ | ⟨g, _, hg, hb, hs, _⟩
  · rw [hA] at hn; cases hn
  · rw [hA] at hg
    obtain rfl := Option.some.inj hg
    exact ⟨hb, hs⟩
theorem Acc.at_ (h : Acc e size w0 w base A C n cs) : CellsAt w A cs :=
  ⟨fun h0 => by
    rcases h.form with ⟨_, hn, _⟩ | ⟨g, cur, hg, hb, hs, hh, h1, h2, h3, h4⟩
    · have := h.length
      rw [hn] at this
      omega
    · refine ⟨g, 0, hg, fun j v hj => ?_⟩
      rw [cell_of_row _ _ _ _ _ _ hh, Nat.zero_add]
      rw [← h4, List.getElem?_take] at hj
      split at hj
      · simpa using hj
      · cases hj⟩
theorem Acc.alloc (h : Acc e size w0 w base A C n cs) (o : Obj) : Acc e size w0 (w.alloc o) base A C n cs :=
  ⟨h.own.alloc o, h.low.alloc h.base_le o, by have := h.base_le; simp; omega⟩
theorem Acc.drew (h : Acc e size w0 w base A C n cs) : Acc e size w0 w.drew base A C n cs := ⟨h.own, h.low.drew, h.base_le⟩
theorem Acc.below (h : Acc e size w0 w base A C n cs) (hb : Below w.heap.size w w') : Acc e size w0 w' base A C n cs := by
  refine ⟨h.own.kept (grownBy_below hb none) ?_, h.low.trans (hb.mono h.base_le), Nat.le_trans h.base_le hb.size⟩
  cases A <;> simp [Value.ownBlock]
/-- Another row of the call's own is written. -/
theorem Acc.other (h : Acc e size w0 w base A C n cs) {k : Nat} (hg : w.grownBy w' (some k)) (hk : base ≤ k) (hne : ∀ ad, A = some ad → ad.block ≠ k) : Acc e size w0 w' base A C n cs := by
  refine ⟨h.own.kept hg ?_, h.low.grown hg h.base_le (fun j hj => by obtain rfl := Option.some.inj hj; exact hk), Nat.le_trans h.base_le hg.size⟩
  cases A with
  | none => exact .inl rfl
  | some ad => exact .inr fun e => hne ad rfl (Option.some.inj e)
theorem Acc.start (w : World) (base e size : Nat) (w0 : World) (hb : Below base w0 w) (hl : base ≤ w.heap.size) : Acc e size w0 w base none 0 0 [] := ⟨World.ownsRow_nil w base e size, hb, hl⟩
/-- A literal. -/
theorem Acc.lit (w : World) (base : Nat) (w0 : World) (cs : Array Value) (n : Nat) (hb : Below base w0 w) (hl : base ≤ w.heap.size) (hm : n ≤ maxLen) (hs : cs.size = n * size) :
    Acc e size w0 (w.alloc (.cells cs e)) base (some ⟨w.heap.size, 0, none⟩) n n cs.toList :=
  ⟨World.ownsRow_lit w cs n hl hm hs, hb.alloc hl _, by simp; omega⟩
/-- An element is written. -/
theorem Acc.set (h : Acc e size w0 w base A C n cs) (ad : Addr) (hA : A = some ad) (j : Nat) (u : Value) : Acc e size w0 (w.setCell ⟨ad.block, j, none⟩ u) base A C n (cs.set j u) ∧ w.grownBy (w.setCell ⟨ad.block, j, none⟩ u) (some ad.block) := by
  rcases h.form with ⟨hn, _⟩ | ⟨g, cur, hg, hb, _⟩
  · rw [hA] at hn; cases hn
  · rw [hA] at hg
    obtain rfl := Option.some.inj hg
    subst hA
    have h2 := h.own.stored j u
    exact ⟨⟨h2.1, h.low.setCell hb u, by simpa using h.base_le⟩, h2.2⟩
theorem Acc.frozen (h : Acc e size w0 w base A C n cs) (ad : Addr) (hA : A = some ad) (j : Nat) : w.frozen? ⟨ad.block, j, none⟩ = false := by
  rcases h.form with ⟨hn, _⟩ | ⟨g, cur, hg, hb, _⟩
  · rw [hA] at hn; cases hn
  · rw [hA] at hg
    obtain rfl := Option.some.inj hg
    subst hA
    exact h.own.frozenAt j
end

section
variable {P : Program} {ops : Array Oper} {rest : List Oper} {o : Oper} {a : Act} {w : World} {Q : Exit → Act → World → Prop}
/-- 'append(s, x...)': the row's n elements and the m that x has. -/
theorem wpList_acc (hgd : o.guard = none) (s x : Operand) (t : TypeId) (ho : o.op = .call { callee := .builtin .append, args := #[s, x], argTypes := #[t, t] })
    (e size bytes : Nat) (z : Value) (ht : P.underlying t = some (.slice e)) (hinfo : (P.info? e).map (fun i => (i.zero, i.size, i.bytes)) = some (some z, size, bytes)) (hzs : z.cells.size = size) (hsz : 0 < size)
    (w0 : World) (base : Nat) (A : Option Addr) (C n : Nat) (cs : List Value) (hs : a.eval s = .slice A n C) (H : Acc e size w0 w base A C n cs)
    (A' : Option Addr) (m c : Nat) (news : List Value) (hx : a.eval x = .slice A' m c) (hl : news.length = m * size) (hsrc : CellsAt w A' news) (hnil : A' = none → c = 0) (hod : ∀ ad, A' = some ad → ∃ b o, ad = ⟨b, o, none⟩) (h1 : ∀ u ∈ news, u.oneCell' = true)
    (h63 : n + m ≤ maxLen) (hbytes : (n + m) * bytes ≤ 140737488355328)
    (h : ∀ B D w', Acc e size w0 w' base B D (n + m) (cs ++ news) → w.grownBy w' (A.map (·.block)) → (∀ ad, B = some ad → A = some ad ∨ w.heap.size ≤ ad.block) → wpList P ops Q rest (a.put o.dst (.slice B (n + m) D)) w') : wpList P ops Q (o :: rest) a w := by
  obtain ⟨i, hi, hz, hsize, hby⟩ := info_parts hinfo
  have hown : Value.ownBlock (.slice A n C) = A.map (·.block) := by cases A <;> rfl
  cases A' with
  | none =>
    obtain rfl := hnil rfl
    have hm : m = 0 := by
      rcases Nat.eq_zero_or_pos m with h0 | h0
      · exact h0
      · have : 0 < news.length := by rw [hl]; exact Nat.mul_pos h0 hsz
        obtain ⟨b, o', hb, _⟩ := hsrc.at_ this
        cases hb
    subst hm
    obtain rfl : news = [] := List.eq_nil_of_length_eq_zero (by simpa using hl)
    refine wpList_append_own_none hgd s x t ho base e i size ht hi (.slice A n C) n cs hs H.own hx ?_
    exact h A C w (by simpa using H) (World.grownBy.refl _ _) fun ad had => .inl had
  | some ad =>
    obtain ⟨b, o', rfl⟩ := hod ad rfl
    refine wpList_append_own_at w hgd s x t ho base e i z size bytes ht hi hz hsize hby hzs hsz (.slice A n C) n cs hs H.own ⟨b, o', none⟩ m c news hx hl ?_ h1 h63 hbytes H.base_le ?_
    · intro j u hu
      have hj : 0 < news.length := by have := (List.getElem?_eq_some_iff.1 hu).1; omega
      obtain ⟨b', o'', hb, hc⟩ := hsrc.at_ hj
      simp only [Option.some.injEq, Addr.mk.injEq, and_true] at hb
      obtain ⟨rfl, rfl⟩ := hb
      rw [Addr.add_lit]
      exact hc j u hu
    · intro v' w' hown' hg _ hblk
      rw [hown] at hg hblk
      have hlow : Below base w0 w' := H.low.grown hg H.base_le (fun k hk => by
        cases A with
        | none => cases hk
        | some ad => obtain rfl := Option.some.inj hk; exact (H.block ad rfl).1)
      have hle : base ≤ w'.heap.size := Nat.le_trans H.base_le hg.size
      have key : ∃ B D, v' = .slice B (n + m) D ∧ (v'.ownBlock = B.map (·.block)) ∧ ∀ ad, B = some ad → ad.off = 0 ∧ ad.spot = none := by
        rcases hown'.2 with ⟨rfl, h0⟩ | ⟨g, cap, cur, rfl, _⟩
        · exact ⟨none, 0, by rw [h0], rfl, fun ad had => by cases had⟩
        · exact ⟨_, cap, rfl, rfl, fun ad had => by obtain rfl := Option.some.inj had; exact ⟨rfl, rfl⟩⟩
      obtain ⟨B, D, rfl, hB, hz0⟩ := key
      refine h B D w' ⟨hown', hlow, hle⟩ hg fun ad had => ?_
      obtain rfl := had
      rw [hB] at hblk
      rcases hblk with hblk | hblk
      · cases A with
        | none => cases hblk
        | some ad' =>
          left
          have hb' : ad.block = ad'.block := Option.some.inj hblk
          obtain ⟨z1, z2⟩ := hz0 ad rfl
          rcases H.form with ⟨hn, _⟩ | ⟨g, _, hg', _⟩
          · cases hn
          · obtain rfl := Option.some.inj hg'
            cases ad
            simp_all
      · right
        have : ad.block = w.heap.size := Option.some.inj hblk
        omega
/-- 'append(s, u)': one element of one cell, which lies in a box that was made for it. -/
theorem wpList_acc1 {W : World} (hgd : o.guard = none) (s x : Operand) (t : TypeId) (ho : o.op = .call { callee := .builtin .append, args := #[s, x], argTypes := #[t, t] })
    (e bytes : Nat) (z : Value) (ht : P.underlying t = some (.slice e)) (hinfo : (P.info? e).map (fun i => (i.zero, i.size, i.bytes)) = some (some z, 1, bytes)) (hzs : z.cells.size = 1)
    (w0 : World) (base : Nat) (A : Option Addr) (C n : Nat) (cs : List Value) (u : Value) (hs : a.eval s = .slice A n C) (H : Acc e 1 w0 W base A C n cs)
    (hx : a.eval x = .slice (some ⟨W.heap.size, 0, none⟩) 1 1) (h1 : u.oneCell' = true) (h63 : n + 1 ≤ maxLen) (hbytes : (n + 1) * bytes ≤ 140737488355328)
    (h : ∀ B D w', Acc e 1 w0 w' base B D (n + 1) (cs ++ [u]) → W.grownBy w' (A.map (·.block)) → (∀ ad, B = some ad → A = some ad ∨ W.heap.size ≤ ad.block) → wpList P ops Q rest (a.put o.dst (.slice B (n + 1) D)) w') :
    wpList P ops Q (o :: rest) a (W.alloc (.cells #[u] e)) := by
  refine wpList_acc hgd s x t ho e 1 bytes z ht hinfo hzs (by omega) w0 base A C n cs hs (H.alloc _) (some ⟨W.heap.size, 0, none⟩) 1 1 [u] hx rfl ⟨fun _ => ⟨W.heap.size, 0, rfl, fun j v hv => ?_⟩⟩ (fun h => by cases h) (fun ad h => ⟨_, _, (Option.some.inj h).symm⟩) (by simpa using h1) h63 hbytes ?_
  · have hj : j = 0 := by
      have := (List.getElem?_eq_some_iff.1 hv).1
      simp at this
      exact this
    subst hj
    rw [cell_of_row _ _ _ _ _ _ (heap_alloc_new _ _)]
    simpa using hv
  · intro B D w' hacc hg hnew
    refine h B D w' hacc (World.grownBy.trans (World.grownBy_alloc W _ _) hg) fun ad had => ?_
    rcases hnew ad had with h' | h'
    · exact .inl h'
    · right
      simp at h'
      omega
/-- A whole row is stored; of the new world this is known. -/
theorem wpList_store_row' (hgd : o.guard = none) (ty : TypeId) (x y : Operand) (ho : o.op = .store ty x y)
    (g : Nat) (cells : Array Value) (hx : a.eval x = .pointer (some ⟨g, 0, none⟩)) (hy : a.eval y = .agg cells)
    (t : TypeId) (old : Array Value) (hg : w.heap[g]? = some (.cells old t (0, 0))) (hi : (P.info? ty).map (·.size) = some cells.size)
    (hold : old.size = cells.size) (h1 : cells.all (·.oneCell') = true)
    (h : ∀ w', w'.heap[g]? = some (.cells cells t (0, 0)) → w.grownBy w' (some g) → w'.heap.size = w.heap.size → wpList P ops Q rest (a.put o.dst undef) w') : wpList P ops Q (o :: rest) a w :=
  wpList_store_row hgd ty x y ho g cells hx hy t old hg hi hold h1 (h _ (setRow_heap _ _ _ _ _ _ hg) (grownBy_setRow _ _ _) (by simp))
end
end Go.Proofs.YtpdhgijeanbmcaaGreatDoor

/- Rturn -/
namespace Go.Proofs.YtpdhgijeanbmcaaGreatDoor
set_option maxRecDepth 100000
open Go.RowKit

section
variable (t : TypeId) (a b : BitVec 32) (n : Int)
theorem mul_mod_mod (x y M : Int) : x * (y % M) % M = x * y % M := by
  rw [Int.mul_emod, Int.emod_emod_of_dvd _ (Int.dvd_refl M), ← Int.mul_emod]
@[go_sem] theorem mul_V32 : binOp .mul t (V32 a) (.int .u32 n) = pure (V32 (a * BitVec.ofInt 32 n)) := by
  simp only [V32, binOp_mul, Op.intArith]
  have h : IntKind.u32.wrap ((a.toNat : Int) * n) = ((a * BitVec.ofInt 32 n : BitVec 32).toNat : Int) := by
    rw [IntKind.wrap_u32, BitVec.toNat_mul, BitVec.toNat_ofInt]
    have h2 : (((n % ((2 ^ 32 : Nat) : Int)).toNat : Nat) : Int) = n % 4294967296 := by
      rw [Int.toNat_of_nonneg (Int.emod_nonneg _ (by decide))]
      rfl
    rw [Int.natCast_emod, Int.natCast_mul, h2]
    exact (mul_mod_mod _ _ _).symm
  rw [h]
end

theorem rround_any (x : BitVec 32) (n : Int) (w : World) (hn : 1 ≤ n) (hn' : n ≤ 31) :
    Calls Tryz.prog 100 #[V32 x, .int .i64 n] w fun e w' => e = .returned (V32 (Sha.rot x n.toNat)) ∧ w' = w := by
  have h0 : 0 ≤ n := by omega
  have h1 : n ≤ 32 := by omega
  have h2 : 0 ≤ 32 - n := by omega
  have h3 : 32 - n ≤ 32 := by omega
  go_enter Tryz.func100, Tryz.ntmps100
  go_wp2
  go_ret
  refine ⟨?_, rfl⟩
  simp only [Sha.rot]
  rw [show (32 - n).toNat = 32 - n.toNat from by omega]
  rfl

/-- A word made byte by byte. -/
def part (b : Nat → UInt8) : Nat → BitVec 32
  | 0 => 0
  | k + 1 => part b k * 256#32 + (b k).toBitVec.setWidth 32
theorem or4 (a b c d : Nat) (hb : b < 256) (hc : c < 256) (hd : d < 256) : a <<< 24 ||| b <<< 16 ||| c <<< 8 ||| d = a * 16777216 + b * 65536 + c * 256 + d := by
  rw [Nat.or_assoc, Nat.or_assoc]
  rw [← Nat.shiftLeft_add_eq_or_of_lt (show d < 2 ^ 8 by omega) c]
  rw [← Nat.shiftLeft_add_eq_or_of_lt (show c <<< 8 + d < 2 ^ 16 by simp only [Nat.shiftLeft_eq]; omega) b]
  rw [← Nat.shiftLeft_add_eq_or_of_lt (show b <<< 16 + (c <<< 8 + d) < 2 ^ 24 by simp only [Nat.shiftLeft_eq]; omega) a]
  simp only [Nat.shiftLeft_eq]
  omega
theorem part_word (b : Nat → UInt8) : part b 4 = Sha.word (b 0) (b 1) (b 2) (b 3) := by
  apply BitVec.eq_of_toNat_eq
  have h0 := (b 0).toNat_lt
  have h1 := (b 1).toNat_lt
  have h2 := (b 2).toNat_lt
  have h3 := (b 3).toNat_lt
  have hs : ∀ (x : UInt8) (i : Nat), x.toNat * 2 ^ i < 2 ^ 32 → (x.toBitVec.setWidth 32 <<< i).toNat = x.toNat <<< i := by
    intro x i hx
    have := x.toNat_lt
    rw [BitVec.toNat_shiftLeft, BitVec.toNat_setWidth, UInt8.toNat_toBitVec, Nat.mod_eq_of_lt (show x.toNat < 2 ^ 32 by omega), Nat.mod_eq_of_lt (by rw [Nat.shiftLeft_eq]; exact hx)]
  have hw : ∀ (x : UInt8), (x.toBitVec.setWidth 32 : BitVec 32).toNat = x.toNat := by
    intro x
    have := x.toNat_lt
    rw [BitVec.toNat_setWidth, UInt8.toNat_toBitVec, Nat.mod_eq_of_lt (by omega)]
  have e256 : (256#32 : BitVec 32).toNat = 256 := by decide
  unfold Sha.word
  rw [BitVec.toNat_or, BitVec.toNat_or, BitVec.toNat_or, hs _ 24 (by omega), hs _ 16 (by omega), hs _ 8 (by omega), hw, or4 _ _ _ _ h1 h2 h3]
  simp only [part, BitVec.toNat_add, BitVec.toNat_mul, e256, hw]
  simp
  omega
end Go.Proofs.YtpdhgijeanbmcaaGreatDoor

/- Rturn2 -/
namespace Go.Proofs.YtpdhgijeanbmcaaGreatDoor
set_option maxRecDepth 100000
open Go.RowKit

theorem sched_start2 (t1 t2 t3 : TypeId) (w : World) (r : Sha.Reg) (p : Nat → UInt8) :
    Sched w (((w.alloc (.cells (r.list.map V32).toArray t1)).alloc (.cells (zeros 8) t2)).alloc (.cells (zeros 64) t3)) r p 0 := by
  have h8 : ∀ n j, j < n → (zeros n)[j]? = some (V32 0) := fun n j hj => by simp [zeros, hj]
  have e1 : ∀ o, w.heap.size + 1 = (w.alloc o).heap.size := fun o => by simp
  have e2 : ∀ o o', w.heap.size + 1 + 1 = ((w.alloc o).alloc o').heap.size := fun o o' => by simp
  refine ⟨arr_old (arr_old (arr_new rfl fun j hj => ?_)), ?_, ?_, (((Below.refl _ _).alloc (by simp) _).alloc (by simp) _).alloc (by simp; omega) _⟩
  · replace hj : j < 8 := hj
    have : j = 0 ∨ j = 1 ∨ j = 2 ∨ j = 3 ∨ j = 4 ∨ j = 5 ∨ j = 6 ∨ j = 7 := by omega
    rcases this with rfl | rfl | rfl | rfl | rfl | rfl | rfl | rfl <;> rfl
  · rw [e1]; exact arr_old (arr_new (by simp [zeros]) (h8 8))
  · rw [e2]; exact arr_new (by simp [zeros]) fun j hj => by rw [h8 64 j hj]; simp [wF]

theorem rround_eq (x : BitVec 32) (n : Int) (w : World) (hn : 1 ≤ n) (hn' : n ≤ 31) :
    Calls Tryz.prog 100 #[V32 x, .int .i64 n] w fun e w' => e = .returned (V32 (Sha.rot x n.toNat)) ∧ w = w' :=
  (rround_any x n w hn hn').mono fun _ _ ⟨h1, h2⟩ => ⟨h1, h2.symm⟩
def At4 (w : World) (r : Sha.Reg) (p : Nat → UInt8) (i : Value) (wr : World) : Prop := ∃ k : Nat, k ≤ 64 ∧ i = .int .i64 k ∧ Sched w wr r p k
/-- In the midst of the t-th word. -/
def In4 (w : World) (r : Sha.Reg) (p : Nat → UInt8) (t : Nat) (i : Value) (wr : World) : Prop :=
  ∃ k : Nat, k ≤ 4 ∧ i = .int .i64 k ∧ Arr wr w.heap.size 8 (regF r) ∧ Arr wr (w.heap.size + 1) 8 (fun _ => V32 0) ∧
    Arr wr (w.heap.size + 1 + 1) 64 (fun j => if j = t then V32 (part (fun i => p (4 * t + i)) k) else wF p t j) ∧ Below w.heap.size w wr
/-- The rounds: the register of 8 words at block g, the schedule behind them. -/
structure Loop3 (w wr : World) (g : Nat) (r : Sha.Reg) (p : Nat → UInt8) (q : Sha.Reg) : Prop where
  reg : ∃ t, wr.heap[g]? = some (.cells (q.list.map V32).toArray t (0, 0))
  sch : Sched w wr r p 64
  gt : w.heap.size + 1 + 1 < g
def At5 (w : World) (g : Nat) (r : Sha.Reg) (p : Nat → UInt8) (i : Value) (wr : World) : Prop := ∃ k : Nat, k ≤ 64 ∧ i = .int .i64 k ∧ Loop3 w wr g r p (Sha.rounds p r k)
theorem Loop3.drewN {w wr : World} {g n : Nat} {r q : Sha.Reg} {p : Nat → UInt8} (h : Loop3 w wr g r p q) : Loop3 w (wr.drewN n) g r p q := ⟨h.reg, h.sch.drewN, h.gt⟩
theorem Sched.grown {w wr w' : World} {r : Sha.Reg} {p : Nat → UInt8} {k g : Nat} (S : Sched w wr r p k) (hg : wr.grownBy w' (some g)) (h : w.heap.size + 1 + 1 < g) : Sched w w' r p k :=
  ⟨S.reg.grown hg (by omega), S.out.grown hg (by omega), S.arr.grown hg (by omega), S.low.grown hg S.low.size (fun k hk => by obtain rfl := Option.some.inj hk; omega)⟩
/-- The words of q, the first k of them with those of r added. -/
def addF (r q : Sha.Reg) (k j : Nat) : Value := V32 (if j < k then q.list.getD j 0 + r.list.getD j 0 else q.list.getD j 0)
def At6 (w : World) (g : Nat) (r : Sha.Reg) (p : Nat → UInt8) (i : Value) (wr : World) : Prop :=
  ∃ k : Nat, k ≤ 8 ∧ i = .int .i64 k ∧ Arr wr g 8 (addF r (Sha.rounds p r 64) k) ∧ Sched w wr r p 64 ∧ w.heap.size + 1 + 1 < g
theorem At6.start {w wr : World} {g : Nat} {r : Sha.Reg} {p : Nat → UInt8} (h : Loop3 w wr g r p (Sha.rounds p r 64)) : At6 w g r p (.int .i64 0) wr := by
  obtain ⟨⟨t, hr⟩, hs, hg⟩ := h
  refine ⟨0, by omega, rfl, ⟨_, t, hr, rfl, fun j hj => ?_⟩, hs, hg⟩
  have : j = 0 ∨ j = 1 ∨ j = 2 ∨ j = 3 ∨ j = 4 ∨ j = 5 ∨ j = 6 ∨ j = 7 := by omega
  rcases this with rfl | rfl | rfl | rfl | rfl | rfl | rfl | rfl <;> rfl
theorem At6.next {w wr : World} {g k : Nat} {r : Sha.Reg} {p : Nat → UInt8} (hk : k < 8) (h : Arr wr g 8 (addF r (Sha.rounds p r 64) k)) (hs : Sched w wr r p 64) (hg : w.heap.size + 1 + 1 < g) :
    At6 w g r p (.int .i64 ((k : Int) + 1)) (wr.setCell ⟨g, k, none⟩ (V32 ((Sha.rounds p r 64).list.getD k 0 + r.list.getD k 0))).drew :=
  ⟨k + 1, by omega, by go_num, (h.set k _ hk).ext fun j _ => by
    unfold addF
    by_cases e : j = k
    · subst e; simp
    · rw [if_neg e]
      by_cases e2 : j < k
      · rw [if_pos e2, if_pos (by omega)]
      · rw [if_neg e2, if_neg (by omega)], (hs.grown (grownBy_setCell _ _ _ _) hg).drew, hg⟩
theorem At6.done {wr : World} {g : Nat} {r : Sha.Reg} {p : Nat → UInt8} (h : Arr wr g 8 (addF r (Sha.rounds p r 64) 8)) : ∃ t, wr.heap[g]? = some (.cells ((Sha.turn r p).list.map V32).toArray t (0, 0)) := by
  refine h.row _ rfl fun j hj => ?_
  have : j = 0 ∨ j = 1 ∨ j = 2 ∨ j = 3 ∨ j = 4 ∨ j = 5 ∨ j = 6 ∨ j = 7 := by omega
  rcases this with rfl | rfl | rfl | rfl | rfl | rfl | rfl | rfl <;> (simp only [addF, Sha.turn, Sha.Reg.add, Sha.Reg.list]; simp [BitVec.add_comm])
theorem reg_one (q : Sha.Reg) : (q.list.map V32).toArray.all (·.oneCell') = true := by simp [Sha.Reg.list, V32, Value.oneCell']
theorem reg_row {w : World} {b : Nat} {q : Sha.Reg} {t : TypeId} {fr : Nat × Nat} (h : w.heap[b]? = some (.cells (q.list.map V32).toArray t fr)) :
    w.cell? ⟨b, 0, none⟩ = some (V32 q.a) ∧ w.cell? ⟨b, 1, none⟩ = some (V32 q.b) ∧ w.cell? ⟨b, 2, none⟩ = some (V32 q.c) ∧ w.cell? ⟨b, 3, none⟩ = some (V32 q.d) ∧
    w.cell? ⟨b, 4, none⟩ = some (V32 q.e) ∧ w.cell? ⟨b, 5, none⟩ = some (V32 q.f) ∧ w.cell? ⟨b, 6, none⟩ = some (V32 q.g) ∧ w.cell? ⟨b, 7, none⟩ = some (V32 q.h) :=
  ⟨cell_block h rfl, cell_block h rfl, cell_block h rfl, cell_block h rfl, cell_block h rfl, cell_block h rfl, cell_block h rfl, cell_block h rfl⟩
theorem In4.start {w wr : World} {r : Sha.Reg} {p : Nat → UInt8} {t : Nat} (S : Sched w wr r p t) : In4 w r p t (.int .i64 0) wr :=
  ⟨0, by omega, rfl, S.reg, S.out, S.arr.ext fun j _ => by
    by_cases e : j = t
    · subst e; simp [wF, part]
    · rw [if_neg e], S.low⟩
theorem In4.next {w wr : World} {r : Sha.Reg} {p : Nat → UInt8} {t k : Nat} (ht : t < 64) (hk : k < 4) (h0 : Arr wr w.heap.size 8 (regF r)) (h1 : Arr wr (w.heap.size + 1) 8 (fun _ => V32 0))
    (h2 : Arr wr (w.heap.size + 1 + 1) 64 (fun j => if j = t then V32 (part (fun i => p (4 * t + i)) k) else wF p t j)) (hB : Below w.heap.size w wr) :
    In4 w r p t (.int .i64 ((k : Int) + 1)) (wr.setCell ⟨w.heap.size + 1 + 1, t, none⟩ (V32 (part (fun i => p (4 * t + i)) k * 256#32 + BitVec.setWidth 32 (p (4 * t + k)).toBitVec))).drew :=
  ⟨k + 1, by omega, by go_num, h0.other _ _ (by show w.heap.size + 1 + 1 ≠ _; omega), h1.other _ _ (by show w.heap.size + 1 + 1 ≠ _; omega), (h2.set t _ ht).ext fun j _ => by
    by_cases e : j = t
    · subst e; simp [part]
    · simp only [if_neg e], (hB.setCell (by show w.heap.size ≤ w.heap.size + 1 + 1; omega) _).drew⟩
theorem In4.done {w wr : World} {r : Sha.Reg} {p : Nat → UInt8} {t : Nat} (ht : t < 16) (h0 : Arr wr w.heap.size 8 (regF r)) (h1 : Arr wr (w.heap.size + 1) 8 (fun _ => V32 0))
    (h2 : Arr wr (w.heap.size + 1 + 1) 64 (fun j => if j = t then V32 (part (fun i => p (4 * t + i)) 4) else wF p t j)) (hB : Below w.heap.size w wr) : Sched w wr r p (t + 1) :=
  ⟨h0, h1, h2.ext fun j _ => by
    by_cases e : j = t
    · subst e
      rw [if_pos rfl, part_word]
      unfold wF
      rw [if_pos (by omega), Sha.sched_lt p j ht]
      rfl
    · rw [if_neg e]
      unfold wF
      by_cases e2 : j < t
      · rw [if_pos e2, if_pos (by omega)]
      · rw [if_neg e2, if_neg (by omega)], hB⟩

set_option maxRecDepth 100000 in
set_option maxHeartbeats 4000000 in
theorem rturn_any (r : Sha.Reg) (b o n c at_ : Nat) (p : Nat → UInt8) (w : World) (hn : at_ + 64 ≤ n) (hn2 : n ≤ 4611686018427387904) (hb : b < w.heap.size) (hp : ∀ j, j < 64 → w.cell? ⟨b, o + (at_ + j), none⟩ = some (V8 (p j)))
    (hR0 : 3 < w.heap.size) (hR : ∀ j, j < 64 → w.cell? ⟨3, j, none⟩ = some (V32 (Sha.root j))) :
    Calls Tryz.prog 91 #[regV r, .slice (some ⟨b, o, none⟩) n c, .int .i64 at_] w fun e w' =>
      e = .returned (regV (Sha.turn r p)) ∧ Below w.heap.size w w' := by
  have hp' := Lib.hid hp
  have hR' := Lib.hid hR
  clear hp hR
  go_enter Tryz.func91, Tryz.ntmps91
  go_wp2
  go_loopw [8, 9, 10, 11, 12, 13] (fun i _ _ _ _ _ wr => At4 w r p i wr) (fun i _ _ _ _ _ _ => 64 - (intOf i).toNat)
  case atStart => exact ⟨0, by omega, rfl, sched_start2 _ _ _ w r p⟩
  case round =>
    obtain ⟨t, ht, rfl, S⟩ := hrel
    by_cases hlt : t < 64
    · by_cases h16 : t < 16
      · have S2 := Lib.hid S
        clear S
        have hj1 : (t : Int) < 64 := by omega
        have hj2 : (t : Int) < 16 := by omega
        go_wp2
        go_loopw [9] (fun i wr => In4 w r p t i wr) (fun i _ => 4 - (intOf i).toNat)
        case atStart => exact In4.start S2.out
        case round =>
          clear S2
          obtain ⟨k, hk, rfl, A0, A1, A2, B⟩ := hrel
          by_cases hk4 : k < 4
          · have d0 := A2.cell t (by omega)
            rw [if_pos rfl] at d0
            have d1 := A2.frozen t
            have hi0 : (0 : Int) ≤ (t : Int) := by omega
            have w0 : IntKind.i64.wrap (4 * (t : Int)) = 4 * t := IntWalk.i64_in _ (by omega)
            have w1 : IntKind.i64.wrap ((at_ : Int) + 4 * (t : Int)) = at_ + 4 * t := IntWalk.i64_in _ (by omega)
            have w2 : IntKind.i64.wrap ((at_ : Int) + 4 * (t : Int) + k) = at_ + 4 * t + k := IntWalk.i64_in _ (by omega)
            have n0 : ((at_ : Int) + 4 * (t : Int) + k).toNat = at_ + 4 * t + k := by omega
            have a0 : (0 : Int) ≤ (at_ : Int) + 4 * (t : Int) + k := by omega
            have b0 : (at_ : Int) + 4 * (t : Int) + k < (n : Int) := by omega
            have c0 := (B.cell (p := ⟨b, o + (at_ + 4 * t + k), none⟩) hb).trans (show w.cell? ⟨b, o + (at_ + 4 * t + k), none⟩ = some (V8 (p (4 * t + k))) by rw [Nat.add_assoc at_]; exact hp'.out (4 * t + k) (by omega))
            have a2 := Lib.hid A2
            have a1 := Lib.hid A1
            have a3 := Lib.hid A0
            clear A0 A1 A2
            go_wp2
            go_still_tail 17, (by kernel_rfl)
            change wpList _ _ _ _ _ wr.drew
            go_wp2
            go_roundw
            case rel =>
              exact In4.next hlt hk4 a3.out a1.out a2.out B
            case measure => simp [intOf]; omega
          · obtain rfl : k = 4 := by omega
            have S3 := Lib.hid (In4.done h16 A0 A1 A2 B)
            clear A0 A1 A2 B
            go_wp2
            go_roundw
            case rel => exact ⟨t + 1, by omega, by go_num, S3.out⟩
            case measure => simp [intOf]; omega
      · have c15 := (S.arr.cell (t - 15) (by omega)).trans (congrArg some (wF_at p t (t - 15) (by omega)))
        have c2 := (S.arr.cell (t - 2) (by omega)).trans (congrArg some (wF_at p t (t - 2) (by omega)))
        have c16 := (S.arr.cell (t - 16) (by omega)).trans (congrArg some (wF_at p t (t - 16) (by omega)))
        have c7 := (S.arr.cell (t - 7) (by omega)).trans (congrArg some (wF_at p t (t - 7) (by omega)))
        have d0 := S.arr.cell t (by omega)
        have d1 := S.arr.frozen t
        have n15 : ((t : Int) - 15).toNat = t - 15 := by omega
        have n2 : ((t : Int) - 2).toNat = t - 2 := by omega
        have n16 : ((t : Int) - 16).toNat = t - 16 := by omega
        have n7 : ((t : Int) - 7).toNat = t - 7 := by omega
        have z15 : (15 : Int) ≤ (t : Int) := by omega
        have z2 : (2 : Int) ≤ (t : Int) := by omega
        have z16 : (16 : Int) ≤ (t : Int) := by omega
        have z7 : (7 : Int) ≤ (t : Int) := by omega
        have y15 : (t : Int) - 15 < 64 := by omega
        have y2 : (t : Int) - 2 < 64 := by omega
        have y16 : (t : Int) - 16 < 64 := by omega
        have y7 : (t : Int) - 7 < 64 := by omega
        have w15 : IntKind.i64.wrap ((t : Int) - 15) = t - 15 := IntWalk.i64_in _ (by omega)
        have w2 : IntKind.i64.wrap ((t : Int) - 2) = t - 2 := IntWalk.i64_in _ (by omega)
        have w16 : IntKind.i64.wrap ((t : Int) - 16) = t - 16 := IntWalk.i64_in _ (by omega)
        have w7 : IntKind.i64.wrap ((t : Int) - 7) = t - 7 := IntWalk.i64_in _ (by omega)
        have hi1 : (t : Int) < 64 := by omega
        have hi0 : (0 : Int) ≤ (t : Int) := by omega
        have hi2 : ¬ (t : Int) < 16 := by omega
        have S2 := Lib.hid S
        clear S
        go_wp2_with (go_at_call 100; refine (rround_eq _ _ _ (by omega) (by omega)).mono ?_; rintro e w' ⟨rfl, rfl⟩)
        go_still_tail 15, (by kernel_rfl)
        change wpList _ _ _ _ _ wr.drew
        go_wp2
        go_roundw
        case rel => exact ⟨t + 1, by omega, by go_num, (S2.out.next (by omega) _ (sched_hi p t (by omega))).drew⟩
        case measure => simp [intOf]; omega
    · obtain rfl : t = 64 := by omega
      rw [show ((64 : Nat) : Int) = 64 from rfl]
      have r0 : wr.cell? ⟨w.heap.size, 0, none⟩ = some (V32 r.a) := S.reg.cell 0 (by omega)
      have r1 : wr.cell? ⟨w.heap.size, 1, none⟩ = some (V32 r.b) := S.reg.cell 1 (by omega)
      have r2 : wr.cell? ⟨w.heap.size, 2, none⟩ = some (V32 r.c) := S.reg.cell 2 (by omega)
      have r3 : wr.cell? ⟨w.heap.size, 3, none⟩ = some (V32 r.d) := S.reg.cell 3 (by omega)
      have r4 : wr.cell? ⟨w.heap.size, 4, none⟩ = some (V32 r.e) := S.reg.cell 4 (by omega)
      have r5 : wr.cell? ⟨w.heap.size, 5, none⟩ = some (V32 r.f) := S.reg.cell 5 (by omega)
      have r6 : wr.cell? ⟨w.heap.size, 6, none⟩ = some (V32 r.g) := S.reg.cell 6 (by omega)
      have r7 : wr.cell? ⟨w.heap.size, 7, none⟩ = some (V32 r.h) := S.reg.cell 7 (by omega)
      have S2 := Lib.hid S
      clear S
      go_wp2
      have L0 : Loop3 w (wr.alloc (.cells (r.list.map V32).toArray 108)) wr.heap.size r p r :=
        ⟨⟨_, heap_alloc_new _ _⟩, ⟨arr_old S2.out.reg, arr_old S2.out.out, arr_old S2.out.arr, S2.out.low.alloc S2.out.low.size _⟩, S2.out.arr.size⟩
      have L1 := Lib.hid L0
      clear L0
      obtain ⟨g, hg⟩ : ∃ g, g = wr.heap.size := ⟨_, rfl⟩
      rw [← hg] at L1 ⊢
      clear hg S2 r0 r1 r2 r3 r4 r5 r6 r7
      go_loopw [15, 16, 17, 18, 19, 20, 21] (fun i _ _ _ _ _ _ wr => At5 w g r p i wr) (fun i _ _ _ _ _ _ _ => 64 - (intOf i).toNat)
      case atStart => exact ⟨0, by omega, rfl, L1.out⟩
      case round =>
        clear L1
        obtain ⟨k, hk, rfl, L⟩ := hrel
        by_cases hlt : k < 64
        · obtain ⟨tt, hreg⟩ := L.reg
          obtain ⟨r0, r1, r2, r3, r4, r5, r6, r7⟩ := reg_row hreg
          have hi0 : (0 : Int) ≤ (k : Int) := by omega
          have hi1 : (k : Int) < 64 := by omega
          have c1 := (L.sch.arr.cell k (by omega)).trans (congrArg some (wF_at p 64 k (by omega)))
          have c2 := (L.sch.low.cell (p := ⟨3, k, none⟩) hR0).trans (hR'.out k (by omega))
          have L' := Lib.hid L
          have Hreg := Lib.hid hreg
          clear L hreg
          go_wp2
          go_quiet (fail)
          go_wp2
          have L2 := L'.out.drewN (n := nq)
          clear r0 r1 r2 r3 r4 r5 r6 r7 c1 c2 Hreg L'
          generalize wr.drewN nq = wq at L2 ⊢
          obtain ⟨tt, hreg⟩ := L2.reg
          obtain ⟨r0, r1, r2, r3, r4, r5, r6, r7⟩ := reg_row hreg
          have c1 := (L2.sch.arr.cell k (by omega)).trans (congrArg some (wF_at p 64 k (by omega)))
          have c2 := (L2.sch.low.cell (p := ⟨3, k, none⟩) hR0).trans (hR'.out k (by omega))
          have L' := Lib.hid L2
          have Hreg := Lib.hid hreg
          clear L2 hreg
          go_quiet ((go_at_call 100; exact Calls.quiet_of_same (rround_any _ _ _ (by omega) (by omega))))
          go_wp2_with (first | (go_at_call 100; refine (rround_eq _ _ _ (by omega) (by omega)).mono ?_; rintro e w' ⟨rfl, rfl⟩) | (refine wpList_store_row' rfl 108 _ _ rfl g ((Sha.rounds p r (k + 1)).list.map V32).toArray rfl rfl tt _ Hreg.out (by kernel_rfl) rfl (reg_one _) ?_; intro w5 h5 g5 s5; have H5 := Lib.hid h5; have G5 := Lib.hid g5; clear h5 g5 s5))
          go_roundw
          case rel => exact ⟨k + 1, by omega, by go_num, ⟨⟨tt, H5.out⟩, (L'.out.drewN (n := nq)).sch.grown G5.out L'.out.gt, L'.out.gt⟩⟩
          case measure => simp [intOf]; omega
        · obtain rfl : k = 64 := by omega
          rw [show ((64 : Nat) : Int) = 64 from rfl]
          have L2 := Lib.hid (At6.start L)
          clear L
          go_wp2
          go_loopw [22] (fun i wr => At6 w g r p i wr) (fun i _ => 8 - (intOf i).toNat)
          case atStart => exact L2.out
          case round =>
            clear L2
            obtain ⟨k, hk, rfl, A, S, hg⟩ := hrel
            by_cases hlt : k < 8
            · have c0 := A.cell k (by omega)
              have e0 : addF r (Sha.rounds p r 64) k k = V32 ((Sha.rounds p r 64).list.getD k 0) := by simp [addF]
              rw [e0] at c0
              have c1 : wr.cell? ⟨w.heap.size, k, none⟩ = some (V32 (r.list.getD k 0)) := S.reg.cell k (by omega)
              have f0 := A.frozen k
              have hi0 : (0 : Int) ≤ (k : Int) := by omega
              have hi1 : (k : Int) < 8 := by omega
              have Q := Lib.hid (At6.next hlt A S hg)
              clear A S hg e0
              go_wp2
              go_still_tail 9, (by kernel_rfl)
              change wpList _ _ _ _ _ wr.drew
              go_wp2
              go_roundw
              case rel => simpa using Q.out
              case measure => simp [intOf]; omega
            · obtain rfl : k = 8 := by omega
              obtain ⟨t8, h8⟩ := At6.done A
              obtain ⟨old, t', ho, hos, _⟩ := S.out
              have H8 := Lib.hid h8
              have HO := Lib.hid ho
              have HS := Lib.hid hos
              have S3 := Lib.hid S
              clear A S h8 ho hos
              go_wp2_with (first | (refine wpList_load_row rfl 108 _ rfl g rfl t8 _ (0, 0) _ H8.out Tryz.underlying108 rfl (by kernel_rfl) ?_) | (refine wpList_store_row rfl 108 _ _ rfl (w.heap.size + 1) _ rfl rfl t' old HO.out (by kernel_rfl) HS.out (reg_one _) ?_))
              refine bodyPost_ret (results_cell_row rfl _ _ (w.heap.size + 1) t' _ (0, 0) _ rfl (setRow_heap _ _ _ _ _ _ HO.out) Tryz.underlying108 rfl (by kernel_rfl)) rfl ⟨rfl, ?_⟩
              exact Go.Proofs.YtpdhgijeanbmcaaGreatDoor.below_setRow S3.out.low (by omega) _
end Go.Proofs.YtpdhgijeanbmcaaGreatDoor

/- Hash -/
namespace Go.Proofs.YtpdhgijeanbmcaaGreatDoor
set_option maxRecDepth 100000
open Go.RowKit

/-- The cells of a Hash: the register, the rest's 64 bytes, how many were taken. -/
def hashCells (r : Sha.Reg) (rest : List UInt8) (n : Nat) : Array Value := (r.list.map V32 ++ rest.map V8 ++ [Value.int .u64 (n : Int)]).toArray

set_option maxRecDepth 100000 in
set_option maxHeartbeats 1000000 in
theorem newHash_any (w : World) (hF : ∀ j, j < 8 → w.cell? ⟨0, j, none⟩ = some (regF Sha.init j)) :
    Calls Tryz.prog 42 #[] w fun e w' => e = .returned (.pointer (some ⟨w.heap.size, 0, none⟩)) ∧ w' = w.alloc (.cells (hashCells Sha.init (List.replicate 64 0) 0) 112) := by
  have r0 := hF 0 (by omega)
  have r1 := hF 1 (by omega)
  have r2 := hF 2 (by omega)
  have r3 := hF 3 (by omega)
  have r4 := hF 4 (by omega)
  have r5 := hF 5 (by omega)
  have r6 := hF 6 (by omega)
  have r7 := hF 7 (by omega)
  clear hF
  go_enter Tryz.func42, Tryz.ntmps42
  go_wp2
  refine bodyPost_ret (results_tmp rfl _ _ _) rfl ⟨rfl, ?_⟩
  rfl

theorem eight_get (n j : Nat) (h : j < 8) : (Sha.eight n).getD j 0 = UInt8.ofNat (n / 2 ^ (8 * (7 - j))) := by
  simp [Sha.eight, List.getD, h]
def Eight (w : World) (n : Nat) (i : Value) (wr : World) : Prop :=
  ∃ k : Nat, k ≤ 8 ∧ i = .int .i64 k ∧ Arr wr w.heap.size 8 (fun j => if j < k then byteF (Sha.eight n) j else V8 0) ∧ Below w.heap.size w wr

set_option maxRecDepth 100000 in
set_option maxHeartbeats 1000000 in
theorem eight_any (n : Nat) (w : World) :
    Calls Tryz.prog 56 #[.int .u64 n] w fun e w' => e = .returned (.slice (some ⟨w.heap.size, 0, none⟩) 8 8) ∧ Arr w' w.heap.size 8 (byteF (Sha.eight n)) ∧ Below w.heap.size w w' := by
  have hmk : ∀ w : World, (Instr.makeSlice 51 (.int .i64 8) (.int .i64 8)).run Tryz.prog w = .ok (.slice (some ⟨w.heap.size, 0, none⟩) 8 8) (w.alloc (.cells #[V8 0, V8 0, V8 0, V8 0, V8 0, V8 0, V8 0, V8 0] 5)) := fun _ => by kernel_rfl
  go_enter Tryz.func56, Tryz.ntmps56
  go_wp2
  go_loopw [4, 8] (fun _ i wr => Eight w n i wr) (fun _ i _ => 8 - (intOf i).toNat)
  case atStart =>
    refine ⟨0, by omega, rfl, arr_new rfl fun j hj => ?_, (Below.refl _ _).alloc (by simp) _⟩
    have : j = 0 ∨ j = 1 ∨ j = 2 ∨ j = 3 ∨ j = 4 ∨ j = 5 ∨ j = 6 ∨ j = 7 := by omega
    rcases this with rfl | rfl | rfl | rfl | rfl | rfl | rfl | rfl <;> rfl
  case round =>
    obtain ⟨k, hk, rfl, A, B⟩ := hrel
    by_cases hlt : k < 8
    · have d0 := A.cell k (by omega)
      have d1 := A.frozen k
      have hi0 : (0 : Int) ≤ (k : Int) := by omega
      have hi1 : (k : Int) < 8 := by omega
      have a1 := Lib.hid A
      clear A
      go_wp2
      go_roundw
      case rel =>
        rw [show Value.int .u8 ((n : Int) / 2 ^ (8 * (7 - k)) % 256) = byteF (Sha.eight n) k from by rw [byteF, eight_get n k hlt, V8_ofNat]; push_cast; rfl]
        refine ⟨k + 1, by omega, by go_num, (a1.out.set k _ (by omega)).ext fun j hj => ?_, B.setCell (by simp) _⟩
        by_cases e : j = k
        · subst e; simp
        · rw [if_neg e]
          by_cases e2 : j < k
          · rw [if_pos e2, if_pos (by omega)]
          · rw [if_neg e2, if_neg (by omega)]
      case measure => simp [intOf]; omega
    · obtain rfl : k = 8 := by omega
      go_wp2
      go_ret
      exact ⟨rfl, A.ext fun j hj => by simp [hj], B⟩

theorem bytes_len (r : Sha.Reg) : (Sha.bytes r).length = 32 := rfl
theorem wbytes_at (r : Sha.Reg) (k : Nat) (h : k < 8) : r.list[k]? = some (r.list.getD k 0) := by
  simp [List.getD, List.getElem?_eq_getElem (show k < r.list.length from h)]
theorem bytes_at (r : Sha.Reg) (k i : Nat) (hk : k < 8) (hi : i < 4) : (Sha.bytes r).getD (4 * k + i) 0 = (Sha.wbytes (r.list.getD k 0)).getD i 0 := by
  have h1 : k = 0 ∨ k = 1 ∨ k = 2 ∨ k = 3 ∨ k = 4 ∨ k = 5 ∨ k = 6 ∨ k = 7 := by omega
  have h2 : i = 0 ∨ i = 1 ∨ i = 2 ∨ i = 3 := by omega
  rcases h1 with rfl | rfl | rfl | rfl | rfl | rfl | rfl | rfl <;> rcases h2 with rfl | rfl | rfl | rfl <;> rfl
theorem bytes4 (r : Sha.Reg) (k : Nat) (hk : k < 8) :
    byteF (Sha.bytes r) (4 * k) = V8 ⟨(r.list[k]?.getD 0#32 >>> 24).setWidth 8⟩ ∧ byteF (Sha.bytes r) (4 * k + 1) = V8 ⟨(r.list[k]?.getD 0#32 >>> 16).setWidth 8⟩ ∧
    byteF (Sha.bytes r) (4 * k + 2) = V8 ⟨(r.list[k]?.getD 0#32 >>> 8).setWidth 8⟩ ∧ byteF (Sha.bytes r) (4 * k + 3) = V8 ⟨(r.list[k]?.getD 0#32).setWidth 8⟩ :=
  ⟨congrArg V8 (bytes_at r k 0 hk (by omega)), congrArg V8 (bytes_at r k 1 hk (by omega)), congrArg V8 (bytes_at r k 2 hk (by omega)), congrArg V8 (bytes_at r k 3 hk (by omega))⟩
theorem index_reg (r : Sha.Reg) (k : Nat) (h : k < 8) (w : World) : (Instr.index 109 (regV r) (.int .i64 (k : Int))).run Tryz.prog w = .ok (V32 (r.list.getD k 0)) w := by
  have h1 : k = 0 ∨ k = 1 ∨ k = 2 ∨ k = 3 ∨ k = 4 ∨ k = 5 ∨ k = 6 ∨ k = 7 := by omega
  rcases h1 with rfl | rfl | rfl | rfl | rfl | rfl | rfl | rfl <;> (refine Eq.trans (b := Result.ok _ w) ?_ rfl; kernel_rfl)

/-- Four stores in a row, from 4 k on. -/
theorem Arr.set4 {w : World} {b : Nat} {l : List UInt8} {k : Nat} (h : Arr w b 32 (fun j => if j < 4 * k then byteF l j else V8 0)) (hk : k < 8) :
    Arr ((((w.setCell ⟨b, 4 * k, none⟩ (byteF l (4 * k))).setCell ⟨b, 4 * k + 1, none⟩ (byteF l (4 * k + 1))).setCell ⟨b, 4 * k + 2, none⟩ (byteF l (4 * k + 2))).setCell ⟨b, 4 * k + 3, none⟩ (byteF l (4 * k + 3))) b 32
      (fun j => if j < 4 * (k + 1) then byteF l j else V8 0) := by
  refine ((((h.set (4 * k) _ (by omega)).set (4 * k + 1) _ (by omega)).set (4 * k + 2) _ (by omega)).set (4 * k + 3) _ (by omega)).ext fun j hj => ?_
  by_cases e3 : j = 4 * k + 3
  · subst e3; simp; omega
  by_cases e2 : j = 4 * k + 2
  · subst e2; simp; omega
  by_cases e1 : j = 4 * k + 1
  · subst e1; simp; omega
  by_cases e0 : j = 4 * k
  · subst e0; simp
  rw [if_neg e3, if_neg e2, if_neg e1, if_neg e0]
  by_cases e : j < 4 * k
  · rw [if_pos e, if_pos (by omega)]
  · rw [if_neg e, if_neg (by omega)]
def Out32 (w : World) (r : Sha.Reg) (i : Value) (wr : World) : Prop :=
  ∃ k : Nat, k ≤ 8 ∧ i = .int .i64 k ∧ Arr wr (w.heap.size + 1 + 1) 32 (fun j => if j < 4 * k then byteF (Sha.bytes r) j else V8 0) ∧ Arr wr (w.heap.size + 1) 32 (fun _ => V8 0) ∧ Below w.heap.size w wr

theorem out32_start (w : World) (r : Sha.Reg) : Out32 w r (.int .i64 0) (((w.alloc (.cells (r.list.map V32).toArray 109)).alloc (.cells (zeros8 32) 34)).alloc (.cells (zeros8 32) 34)) := by
  have e1 : ∀ o, w.heap.size + 1 = (w.alloc o).heap.size := fun o => by simp
  have e2 : ∀ o o', w.heap.size + 1 + 1 = ((w.alloc o).alloc o').heap.size := fun o o' => by simp
  refine ⟨0, by omega, rfl, ?_, ?_, (((Below.refl _ _).alloc (by simp) _).alloc (by simp) _).alloc (by simp; omega) _⟩
  · rw [e2]; exact arr_new (zeros8_size 32) fun j hj => by rw [zeros8_at 32 j hj]; simp
  · rw [e1]; exact arr_old (arr_new (zeros8_size 32) (zeros8_at 32))

set_option maxRecDepth 100000 in
set_option maxHeartbeats 1000000 in
theorem bytes_any (r : Sha.Reg) (w : World) :
    Calls Tryz.prog 57 #[regV r] w fun e w' => e = .returned (sumV (Sha.bytes r)) ∧ Below w.heap.size w w' := by
  go_enter Tryz.func57, Tryz.ntmps57
  go_wp2
  go_loopw [4, 5, 7] (fun _ _ i wr => Out32 w r i wr) (fun _ _ i _ => 8 - (intOf i).toNat)
  case atStart => exact out32_start w r
  case round =>
    obtain ⟨k, hk, rfl, A, A1, B⟩ := hrel
    by_cases hlt : k < 8
    · have x0 := index_reg r k hlt
      have d0 := A.cell (4 * k) (by omega)
      have d1 := A.cell (4 * k + 1) (by omega)
      have d2 := A.cell (4 * k + 2) (by omega)
      have d3 := A.cell (4 * k + 3) (by omega)
      have f0 := A.frozen (4 * k)
      have f1 := A.frozen (4 * k + 1)
      have f2 := A.frozen (4 * k + 2)
      have f3 := A.frozen (4 * k + 3)
      have n0 : (4 * (k : Int)).toNat = 4 * k := by omega
      have n1 : (4 * (k : Int) + 1).toNat = 4 * k + 1 := by omega
      have n2 : (4 * (k : Int) + 2).toNat = 4 * k + 2 := by omega
      have n3 : (4 * (k : Int) + 3).toNat = 4 * k + 3 := by omega
      have a := Lib.hid A
      have a1 := Lib.hid A1
      clear A A1
      go_wp2
      go_roundw
      case rel =>
        obtain ⟨e0, e1, e2, e3⟩ := bytes4 r k hlt
        rw [← e0, ← e1, ← e2, ← e3]
        exact ⟨k + 1, by omega, by go_num, a.out.set4 hlt, (((a1.out.other _ _ (by simp)).other _ _ (by simp)).other _ _ (by simp)).other _ _ (by simp), (((B.setCell (by simp; omega) _).setCell (by simp; omega) _).setCell (by simp; omega) _).setCell (by simp; omega) _⟩
      case measure => simp [intOf]; omega
    · obtain rfl : k = 8 := by omega
      obtain ⟨t, ht⟩ := (A.ext (g := byteF (Sha.bytes r)) fun j hj => by simp [hj]).sum (bytes_len r)
      obtain ⟨old, t', ho, hos, _⟩ := A1
      have ht' := Lib.hid ht
      have ho' := Lib.hid ho
      have hos' := Lib.hid hos
      clear ht ho hos A
      go_wp2_with (refine wpList_load_sum rfl 34 _ rfl (w.heap.size + 1 + 1) rfl t (Sha.bytes r) 32 (0, 0) _ ht'.out Tryz.underlying34 (by kernel_rfl) rfl ?_ ; refine wpList_store_sum rfl 34 _ _ rfl (w.heap.size + 1) (Sha.bytes r) 32 rfl rfl t' old ho'.out (by kernel_rfl) rfl hos'.out ?_)

      refine bodyPost_ret (results_sum rfl _ _ (w.heap.size + 1) t' (Sha.bytes r) 32 (0, 0) _ rfl (setRow_heap _ _ _ _ _ _ ho'.out) Tryz.underlying34 (by kernel_rfl) rfl) rfl ⟨rfl, ?_⟩
      exact below_setRow B (by omega) _
end Go.Proofs.YtpdhgijeanbmcaaGreatDoor
