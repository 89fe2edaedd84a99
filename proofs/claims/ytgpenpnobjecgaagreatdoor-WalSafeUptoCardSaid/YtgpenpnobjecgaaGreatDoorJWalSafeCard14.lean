/- A region that draws its order, one small question an operation: what it does to values that are known by name, with no frame in sight. Over Rel's law. -/
import Derived.Test.YtgpenpnobjecgaaGreatDoorJWalSafeCard1
/- Reg -/
namespace Go.Proofs.YtgpenpnobjecgaaGreatDoor
set_option maxRecDepth 100000
open Go.RowKit

/-- What an operation is to yield: one value, known by name, or any that meets a property. -/
structure Yld (R : World → World → Prop) where
  val : Option Value
  p : Value → World → Prop
  st : ∀ v w w', p v w → R w w' → p v w'
  only : ∀ u, val = some u → ∀ v w, p v w → v = u
def Yld.is {R : World → World → Prop} (u : Value) : Yld R := ⟨some u, fun v _ => v = u, fun _ _ _ h _ => h, fun _ e _ _ h => h.trans (Option.some.inj e)⟩
def Yld.pr {R : World → World → Prop} (p : Value → World → Prop) (st : ∀ v w w', p v w → R w w' → p v w') : Yld R := ⟨none, p, st, fun _ e => by cases e⟩
def Yld.post {R : World → World → Prop} (D : Yld R) : Post R := ⟨D.p, D.st⟩
def Yld.value {R : World → World → Prop} (D : Yld R) (v : Value) : Value := match D.val with
  | some u => u
  | none => v
theorem Yld.value_eq {R : World → World → Prop} (D : Yld R) (v : Value) (w : World) (h : D.p v w) : D.value v = v := by
  unfold Yld.value
  cases hv : D.val with
  | none => rfl
  | some u => exact (D.only u hv v w h).symm

section
variable {P : Program} {ops : Array Oper} {R : World → World → Prop} {Q : Exit → Act → World → Prop}

/-- Which of the region's first n operations writes slot t. -/
def writer (ops : Array Oper) (t : Tmp) : Nat → Option Nat
  | 0 => none
  | n + 1 => match (ops[n]?).bind (·.dst) with
    | some d => if d == t then some n else writer ops t n
    | none => writer ops t n
def valAt (Ds : List (Yld R)) (vs : Nat → Value) (j : Nat) : Value := match Ds[j]? with
  | some D => D.value (vs j)
  | none => vs j
def lookD (ops : Array Oper) (Ds : List (Yld R)) (vs : Nat → Value) (a0 : Act) (n : Nat) : Operand → Value
  | .tmp t => match writer ops t n with
    | some j => valAt Ds vs j
    | none => a0.eval (.tmp t)
  | x => a0.eval x
def yieldD (Ds : List (Yld R)) (vs : Nat → Value) (g : Nat) : Option Bool := match valAt Ds vs g with
  | .bool b => some b
  | _ => none
/-- What the operation's run is to be. -/
def meets (P : Program) (R : World → World → Prop) (D : Yld R) (w : World) : Result Next → Prop
  | .ok (.value v) w' => R w w' ∧ D.p v w'
  | .ok .skip w' => R w w' ∧ D.p undef w'
  | .ok (.enter f args) w' => Calls P f args w' fun e w'' => ∃ v, e = .returned v ∧ R w w'' ∧ D.p v w''
  | .ok (.row row args) w' => Rows P row args w' fun v w'' => R w w'' ∧ D.p v w''
  | _ => False
def relAt (P : Program) (R : World → World → Prop) (D : Yld R) (o : Oper) (E : Operand → Value) (y : Nat → Option Bool) (w : World) : Prop :=
  if Region.wanted o y then meets P R D w ((execOp E o).run P w) else D.p undef w

def RegHead (P : Program) (ops : Array Oper) (R : World → World → Prop) (w0 : World) (a0 : Act) (n : Nat) (Ds : List (Yld R)) (vs : Nat → Value) : List Oper → List (Yld R) → Nat → Prop
  | _, [], _ => True
  | [], _ :: _, _ => False
  | o :: l, D :: r, k => (∀ w, R w0 w → allOf (fun i w => ((Ds[i]?).getD (Yld.is undef)).p (vs i) w) w (depsOf o) → relAt P R D o (lookD ops Ds vs a0 n) (yieldD Ds vs) w) ∧ RegHead P ops R w0 a0 n Ds vs l r (k + 1)

theorem writer_some {t : Tmp} : ∀ {n j : Nat}, writer ops t n = some j → j < n ∧ ∃ q, ops[j]? = some q ∧ q.dst = some t
  | 0, j, h => by simp [writer] at h
  | n + 1, j, h => by
    unfold writer at h
    cases ho : ops[n]? with
    | none =>
      simp [ho] at h
      obtain ⟨h1, h2⟩ := writer_some h
      exact ⟨by omega, h2⟩
    | some q =>
      cases hd : q.dst with
      | none =>
        simp [ho, hd] at h
        obtain ⟨h1, h2⟩ := writer_some h
        exact ⟨by omega, h2⟩
      | some d =>
        simp [ho, hd] at h
        split at h
        · next e =>
          obtain rfl := Option.some.inj h
          exact ⟨by omega, q, ho, by rw [hd, e]⟩
        · obtain ⟨h1, h2⟩ := writer_some h
          exact ⟨by omega, h2⟩
theorem writer_none {t : Tmp} : ∀ {n : Nat}, writer ops t n = none → ∀ j q, j < n → ops[j]? = some q → q.dst ≠ some t
  | 0, _, j, q, hj, _ => by omega
  | n + 1, h, j, q, hj, hq => by
    unfold writer at h
    by_cases e : j = n
    · subst e
      intro hd
      simp [hq, hd] at h
    · have hr : writer ops t n = none := by
        cases ho : (ops[n]?).bind (·.dst) with
        | none => simp only [ho] at h; exact h
        | some d =>
          simp only [ho] at h
          split at h
          · cases h
          · exact h
      exact writer_none hr j q (by omega) hq
/-- The slots that are written lie in the frame. -/
def sizeB (ops : Array Oper) (n : Nat) (s : Nat) : Bool := (List.range n).all fun k => match ops[k]? with
  | none => false
  | some o => match o.dst with
    | none => true
    | some d => decide (d < s)
theorem size_spec {n s k : Nat} {o : Oper} {d : Tmp} (h : sizeB ops n s = true) (hk : k < n) (ho : ops[k]? = some o) (hd : o.dst = some d) : d < s := by
  have h1 := List.all_eq_true.1 h k (List.mem_range.2 hk)
  simpa [ho, hd] using h1
/-- A guard asks an operation that writes a slot. -/
def guardB (ops : Array Oper) (n : Nat) : Bool := (List.range n).all fun k => match ops[k]? with
  | none => false
  | some o => match o.guard with
    | none => true
    | some (g, _) => match ops[g]? with
      | none => false
      | some q => q.dst.isSome
theorem guard_spec {n k g : Nat} {b : Bool} {o : Oper} (h : guardB ops n = true) (hk : k < n) (ho : ops[k]? = some o) (hg : o.guard = some (g, b)) : ∃ q d, ops[g]? = some q ∧ q.dst = some d := by
  have h1 := List.all_eq_true.1 h k (List.mem_range.2 hk)
  simp only [ho, hg] at h1
  cases hq : ops[g]? with
  | none => simp [hq] at h1
  | some q =>
    simp only [hq, Option.isSome_iff_exists] at h1
    obtain ⟨d, hd⟩ := h1
    exact ⟨q, d, rfl, hd⟩

theorem relOp_of_at {D : Yld R} {o : Oper} {E : Operand → Value} {y : Nat → Option Bool} {a : Act} {w : World} (hrf : ∀ w, R w w) (he : execOp a.eval o = execOp E o) (hw : Region.wanted o (yielded ops a.tmps) = Region.wanted o y) (h : relAt P R D o E y w) : relOp P ops R D.p o a w := by
  unfold relOp wpList
  unfold relAt at h
  rw [hw]
  by_cases hg : Region.wanted o y = true
  · rw [if_pos hg] at h ⊢
    left
    unfold Oper.wp
    rw [he]
    cases hr : (execOp E o).run P w with
    | ok x w' =>
      rw [hr] at h
      cases x <;> simp only [meets] at h
      case value v => exact ⟨rfl, _, rfl, h⟩
      case skip => exact ⟨rfl, _, rfl, h⟩
      case enter f args =>
        refine Calls.mono h ?_
        rintro e w'' ⟨v, rfl, h1, h2⟩
        exact ⟨rfl, v, rfl, h1, h2⟩
      case row row args => exact Rows.mono h fun v w'' hh => ⟨rfl, v, rfl, hh⟩
    | halt x w' =>
      rw [hr] at h
      exact False.elim h
  · rw [if_neg hg] at h ⊢
    unfold wpList
    exact ⟨rfl, _, rfl, hrf _, h⟩

theorem acts_size (vs : Nat → Value) (a0 : Act) : ∀ k, (acts ops vs a0 k).tmps.size = a0.tmps.size
  | 0 => rfl
  | k + 1 => by
    unfold acts
    cases ops[k]? with
    | none => exact acts_size vs a0 k
    | some o => cases hd : o.dst <;> simp [Act.put, hd, acts_size vs a0 k]

theorem reg_head {w0 : World} {a0 : Act} {n : Nat} {Ds : List (Yld R)} {vs : Nat → Value} : ∀ {l : List Oper} {r : List (Yld R)} {k : Nat}, RegHead P ops R w0 a0 n Ds vs l r k → ∀ (i : Nat) (D : Yld R), r[i]? = some D → ∃ o, l[i]? = some o ∧ ∀ w, R w0 w → allOf (fun i w => ((Ds[i]?).getD (Yld.is undef)).p (vs i) w) w (depsOf o) → relAt P R D o (lookD ops Ds vs a0 n) (yieldD Ds vs) w
  | _, [], _, _, i, D, hD => by simp at hD
  | [], _ :: _, _, h, _, _, _ => False.elim h
  | o :: l, D0 :: r, k, h, 0, D, hD => by
    obtain rfl : D0 = D := by simpa using hD
    exact ⟨o, rfl, h.1⟩
  | o :: l, D0 :: r, k, h, i + 1, D, hD => by
    obtain ⟨q, hq, hh⟩ := reg_head h.2 i D (by simpa using hD)
    exact ⟨q, by simpa using hq, hh⟩

/-- THE LAW, in its second form: each of the first n operations is asked about known values alone. -/
theorem wp_region_reg {id : Nat} {a : Act} {w : World} {l : List Oper} (n s : Nat) (R : World → World → Prop) (hm : P.follows .mixedOrders = true) (hB : relB l.toArray n = true) (hS : sizeB l.toArray n s = true) (hs : a.tmps.size = s) (hG : guardB l.toArray n = true) (hrf : ∀ w, R w w) (htr : ∀ w w' w'', R w w' → R w' w'' → R w w'')
    (Ds : List (Yld R)) (hD : Ds.length = n) (h : ∀ vs, RegHead P l.toArray R w.drew a n Ds vs l Ds 0)
    (ht : ∀ vs w', R w.drew w' → allOf (fun i w => ((Ds[i]?).getD (Yld.is undef)).p (vs i) w) w' (List.range n) → wpList P l.toArray Q (l.drop n) (acts l.toArray (valAt Ds vs) a n) w') : (Code.region id l.toArray true).wp P Q a w := by
  have hB' := hB
  simp only [relB, Bool.and_eq_true, decide_eq_true_eq] at hB'
  obtain ⟨⟨⟨⟨⟨⟨hsel, hn⟩, _⟩, _⟩, hpl⟩, hself⟩, _⟩ := hB'
  subst hs
  refine wp_region_any hm ?_
  have hDs : ∀ k, k < n → ∃ D, Ds[k]? = some D := fun k hk => ⟨Ds[k]'(by omega), List.getElem?_eq_getElem (by omega)⟩
  have key := rel_any (P := P) (Q := Q) (ops := l.toArray) (D := fun k => ((Ds[k]?).getD (Yld.is undef)).p) (a0 := a) (w0 := w.drew) hB (fun k v w w' h1 h2 => ((Ds[k]?).getD (Yld.is undef)).st v w w' h1 h2) htr
    (fun k o vs w' hk ho hR hdeps => by
      obtain ⟨D, hDk⟩ := hDs k hk
      obtain ⟨o', ho', hh⟩ := reg_head (h vs) k D hDk
      obtain rfl : o = o' := Option.some.inj (ho.symm.trans (by simpa using ho'))
      have hh := hh w' hR (allOf_iff.2 hdeps)
      obtain ⟨o2, ho2, hgu, hlt, hoth⟩ := plain_spec hpl hk
      obtain rfl : o = o2 := Option.some.inj (ho.symm.trans ho2)
      have hrep := rep_acts a vs hpl k (by omega)
      have hval : ∀ j ∈ depsOf o, valAt Ds vs j = vs j := fun j hj => by
        have hjn : j < n := by have := hlt j hj; omega
        obtain ⟨Dj, hDj⟩ := hDs j hjn
        have := hdeps j hj
        simp only [hDj, Option.getD_some] at this
        simp only [valAt, hDj]
        exact Dj.value_eq _ _ this
      have hslot : ∀ j q d, j ∈ depsOf o → l.toArray[j]? = some q → q.dst = some d → (acts l.toArray vs a k).tmps[d]? = some (vs j) := fun j q d hj hq hd => by
        have hjk := hlt j hj
        have h1 := hrep.val j q d (by omega) hq hd (by simpa using hjk)
        have h2 := size_spec hS (show j < n by omega) hq hd
        rw [h1, Array.getElem?_setIfInBounds_self, if_pos h2]
      have he : execOp (acts l.toArray vs a k).eval o = execOp (lookD l.toArray Ds vs a n) o := execOp_congr o (Region.noSelect_spec hsel k o · · ho) fun x hx => by
        cases x with
        | tmp t =>
          have ht : t ∈ tmpsOf o := List.mem_filterMap.2 ⟨.tmp t, by simpa using hx, rfl⟩
          show (acts l.toArray vs a k).tmps.getD t undef = match writer l.toArray t n with
            | some j => valAt Ds vs j
            | none => a.tmps.getD t undef
          cases hwr : writer l.toArray t n with
          | some j =>
            obtain ⟨hjn, q, hq, hqt⟩ := writer_some hwr
            have hjk : j ≠ k := fun e => by
              subst e
              obtain rfl : o = q := Option.some.inj (ho.symm.trans hq)
              exact self_spec hself hk ho t ht hqt
            obtain ⟨q', hq', _, hdep⟩ := hoth j hjn hjk
            obtain rfl : q = q' := Option.some.inj (hq.symm.trans hq')
            have hjd := hdep t ht hqt
            have h1 := hslot j q t hjd hq hqt
            show _ = valAt Ds vs j
            rw [hval j hjd]
            simp [h1]
          | none =>
            have h1 := hrep.other t fun j q hj hq _ => writer_none hwr j q (by omega) hq
            show _ = a.tmps.getD t undef
            simp [h1]
        | _ => rfl
      have hwn : Region.wanted o (yielded l.toArray (acts l.toArray vs a k).tmps) = Region.wanted o (yieldD Ds vs) := by
        unfold Region.wanted
        cases hgd : o.guard with
        | none => rfl
        | some gb =>
          obtain ⟨g, b⟩ := gb
          have hgm := hgu g b hgd
          obtain ⟨q, d, hq, hd⟩ := guard_spec hG hk ho hgd
          have h1 := hslot g q d hgm hq hd
          have : yielded l.toArray (acts l.toArray vs a k).tmps g = yieldD Ds vs g := by
            simp only [yielded, hq, yieldD, hval g hgm, Option.bind_some, hd, h1]
            cases vs g <;> rfl
          simp only [this]
      have hrel := relOp_of_at (ops := l.toArray) hrf he hwn hh
      simp only [hDk, Option.getD_some]
      exact hrel)
    (fun vs w' hR hDv => by
      have h1 := ht vs w' hR (allOf_iff.2 fun i hi => hDv i (List.mem_range.1 hi))
      have h2 : acts l.toArray (valAt Ds vs) a n = acts l.toArray vs a n := by
        have : ∀ k, k ≤ n → acts l.toArray (valAt Ds vs) a k = acts l.toArray vs a k := by
          intro k
          induction k with
          | zero => intro _; rfl
          | succ k ih =>
            intro hk
            obtain ⟨D, hDk⟩ := hDs k (by omega)
            have h3 := hDv k (by omega)
            simp only [hDk, Option.getD_some] at h3
            have h4 : valAt Ds vs k = vs k := by
              simp only [valAt, hDk]
              exact D.value_eq _ _ h3
            simp only [acts, ih (by omega), h4]
        exact this n (Nat.le_refl _)
      rw [h2] at h1
      simpa using h1)
    n (List.range n) (Array.replicate l.toArray.size false) (fun _ => undef) a w.drew (by simp) List.nodup_range
    (fun i => by
      rw [List.mem_range]
      exact ⟨fun hi => ⟨hi, getD_in (by simp at hn ⊢; omega) (getD_replicate_false _ _)⟩, fun hi => hi.1⟩)
    ⟨by simp, fun j oj _ hl => (by rw [getD_replicate_false] at hl; cases hl), fun t _ ht => getD_in (by simpa using ht) (getD_replicate_false _ _)⟩
    ⟨rfl, rfl, fun _ _ => rfl, fun k o d _ _ _ hS => (by rw [getD_replicate_false] at hS; cases hS)⟩ (fun i _ hS => (by rw [getD_replicate_false] at hS; cases hS)) (hrf _)
  rw [show n + (l.toArray.size - n) = l.toArray.size by simp at hn ⊢; omega] at key
  exact key

theorem RegHead.cons {w0 : World} {a0 : Act} {n : Nat} {Ds : List (Yld R)} {vs : Nat → Value} {o : Oper} {l : List Oper} {D : Yld R} {r : List (Yld R)} {k : Nat} (h1 : ∀ w, R w0 w → allOf (fun i w => ((Ds[i]?).getD (Yld.is undef)).p (vs i) w) w (depsOf o) → relAt P R D o (lookD ops Ds vs a0 n) (yieldD Ds vs) w)
    (h2 : RegHead P ops R w0 a0 n Ds vs l r (k + 1)) : RegHead P ops R w0 a0 n Ds vs (o :: l) (D :: r) k := ⟨h1, h2⟩

/-- The frame behind the region, written out: the first s slots and those from m on as they were, the others new. -/
theorem wp_frame {xs new : List Value} {df : List Deferred} {vs : Nat → Value} {n : Nat} {w : World} {rest : List Oper} (s m : Nat) (h : acts ops vs ⟨xs.toArray, df⟩ n = ⟨(xs.take s ++ (new ++ xs.drop m)).toArray, df⟩)
    (hw : wpList P ops Q rest ⟨(xs.take s ++ (new ++ xs.drop m)).toArray, df⟩ w) : wpList P ops Q rest (acts ops vs ⟨xs.toArray, df⟩ n) w := by
  rw [h]; exact hw

def overlay (xs : List Value) : List (Nat × List Value) → List Value
  | [] => xs
  | (s, new) :: r => overlay (xs.take s ++ (new ++ xs.drop (s + new.length))) r
/-- The same, several rows of slots being new. -/
theorem wp_frame2 {xs : List Value} {ps : List (Nat × List Value)} {df : List Deferred} {vs : Nat → Value} {n : Nat} {w : World} {rest : List Oper} (h : acts ops vs ⟨xs.toArray, df⟩ n = ⟨(overlay xs ps).toArray, df⟩)
    (hw : wpList P ops Q rest ⟨(overlay xs ps).toArray, df⟩ w) : wpList P ops Q rest (acts ops vs ⟨xs.toArray, df⟩ n) w := by
  rw [h]; exact hw

/- The answers, one for each kind of operation. -/
theorem relAt.pure {u : Value} {o : Oper} {E : Operand → Value} {y : Nat → Option Bool} {w : World} (hrf : ∀ w, R w w) (hw : Region.wanted o y = true) (hr : (execOp E o).run P w = .ok (.value u) w) : relAt P R (Yld.is u) o E y w := by
  unfold relAt
  rw [if_pos hw, hr]
  exact ⟨hrf _, rfl⟩
theorem relAt.skip {o : Oper} {E : Operand → Value} {y : Nat → Option Bool} {w : World} (hw : Region.wanted o y = false) : relAt P R (Yld.is undef) o E y w := by
  unfold relAt
  rw [if_neg (by rw [hw]; decide)]
  rfl
theorem relAt.value {D : Yld R} {u : Value} {o : Oper} {E : Operand → Value} {y : Nat → Option Bool} {w w' : World} (hw : Region.wanted o y = true) (hr : (execOp E o).run P w = .ok (.value u) w') (hR : R w w') (hD : D.p u w') : relAt P R D o E y w := by
  unfold relAt
  rw [if_pos hw, hr]
  exact ⟨hR, hD⟩
/-- An operation that only yields a value: what is run, and the value made of it. -/
def valS (s : Sem Value) : Sem Next := do pure (.value (← s))
theorem run_valS {s : Sem Value} {u : Value} {w w' : World} (h : s.run P w = .ok u w') : (valS s).run P w = .ok (.value u) w' := by
  simp [valS, h]
theorem relAt.pureS {u : Value} {o : Oper} {E : Operand → Value} {y : Nat → Option Bool} {w : World} {s : Sem Value} (hrf : ∀ w, R w w) (hw : Region.wanted o y = true) (he : execOp E o = valS s) (hr : s.run P w = .ok u w) : relAt P R (Yld.is u) o E y w :=
  relAt.pure hrf hw (by rw [he]; exact run_valS hr)
theorem relAt.valueS {D : Yld R} {u : Value} {o : Oper} {E : Operand → Value} {y : Nat → Option Bool} {w w' : World} {s : Sem Value} (hw : Region.wanted o y = true) (he : execOp E o = valS s) (hr : s.run P w = .ok u w') (hR : R w w') (hD : D.p u w') : relAt P R D o E y w :=
  relAt.value hw (by rw [he]; exact run_valS hr) hR hD
theorem relAt.call {D : Yld R} {f : FuncId} {args : Array Value} {o : Oper} {E : Operand → Value} {y : Nat → Option Bool} {w : World} (hw : Region.wanted o y = true) (hr : (execOp E o).run P w = .ok (.enter f args) w) (h : Calls P f args w fun e w' => ∃ v, e = .returned v ∧ R w w' ∧ D.p v w') : relAt P R D o E y w := by
  unfold relAt
  rw [if_pos hw, hr]
  exact h
end
end Go.Proofs.YtgpenpnobjecgaaGreatDoor
