/- What 'live' calls, in the form in which it calls it. -/
import Derived.WalkMore
import Derived.Test.YtpdhgijeanbmcaaGreatDoorJNilCard3
/- Extc -/
namespace Go.Proofs.YtpdhgijeanbmcaaGreatDoor
set_option maxRecDepth 100000
open Go.RowKit Go.Great

theorem ext_env {w w0 : World} {root old : List UInt8} {a : Option Addr} {np c : Nat} {p : List (List UInt8)} {t1 t2 t3 : TypeId} {t : TypeId} {o : Obj} (hT : Tabs w) (S : Sums w a np c p) (hl : old.length = 32)
    (hf : w0.heap[w.heap.size + 1 + 1 + 1]? = some (.cells #[extFn w.heap.size (w.heap.size + 1 + 1) (w.heap.size + 1 + 1 + 1)] t (0, 0)))
    (hg : ((((w.alloc (.cells (sumRow old) t1)).alloc (.cells (sumRow root) t2)).alloc (.cells #[.slice a np c] t3)).alloc o).grownBy w0 (some (w.heap.size + 1 + 1 + 1))) :
    ExtEnv w0 w.heap.size (w.heap.size + 1 + 1) (w.heap.size + 1 + 1 + 1) old a np c p ∧ Below w.heap.size w w0 ∧ w0.heap[w.heap.size]? = some (.cells (old.map V8).toArray t1 (0, 0)) ∧ w0.heap[w.heap.size + 1]? = some (.cells (root.map V8).toArray t2 (0, 0)) := by
  have hL : Below w.heap.size w w0 := (low4 _ _ _ _ _).grown hg (by simp; omega) (fun k hk => by obtain rfl := Option.some.inj hk; omega)
  have hb := blk4 w (.cells (sumRow old) t1) (.cells (sumRow root) t2) (.cells #[.slice a np c] t3) o
  have hk : ∀ b x, b < w.heap.size + 1 + 1 + 1 → ((((w.alloc (.cells (sumRow old) t1)).alloc (.cells (sumRow root) t2)).alloc (.cells #[.slice a np c] t3)).alloc o).heap[b]? = some x → w0.heap[b]? = some x :=
    fun b x hlt hx => (hg.block b (in_heap hx) (fun e => absurd (Option.some.inj e) (Nat.ne_of_lt hlt))).trans hx
  exact ⟨⟨hT.below hL, ⟨t1, (0, 0), hk _ _ (by omega) hb.1⟩, cell_block (hk _ _ (by omega) hb.2.2.1) rfl, cell_block hf rfl, hl, S.below hL⟩, hL, hk _ _ (by omega) hb.1, hk _ _ (by omega) hb.2.1⟩

theorem keep54 {w4 w5 : World} {b : Nat} {x : Obj} (g5 : w4.grownBy w5 (some (b + 1))) (h : w4.heap[b]? = some x) : w5.heap[b]? = some x :=
  (g5.block _ (in_heap h) (fun e => by have := Option.some.inj e; omega)).trans h
theorem keep5 {w3 w4 w5 : World} {o o' : Obj} (g4 : ((w3.alloc o).alloc o').grownBy w4 (some w3.heap.size)) (g5 : w4.grownBy w5 (some (w3.heap.size + 1))) : ∀ b' x, b' < w3.heap.size → w3.heap[b']? = some x → w5.heap[b']? = some x := fun b' x hlt hx => by
  have s4 := g4.size
  rw [size_alloc, size_alloc] at s4
  exact (g5.block _ (by omega) (fun e => by have := Option.some.inj e; omega)).trans ((g4.block _ (by rw [size_alloc, size_alloc]; omega) (fun e => by have := Option.some.inj e; omega)).trans (at_old _ (at_old _ hx)))
theorem low5' {w w0 w3 w4 w5 : World} {o o' : Obj} (h0 : Below w.heap.size w w0) (h3 : Below w0.heap.size w0 w3) (g4 : ((w3.alloc o).alloc o').grownBy w4 (some w3.heap.size)) (g5 : w4.grownBy w5 (some (w3.heap.size + 1))) : Below w.heap.size w w5 := by
  have s4 := g4.size
  rw [size_alloc, size_alloc] at s4
  have hl3 := bthen h0 h3
  have i := hl3.size
  exact (((hl3.alloc i _).alloc (by rw [size_alloc]; omega) _).grown g4 (by rw [size_alloc, size_alloc]; omega) (fun k hk => by obtain rfl := Option.some.inj hk; omega)).grown g5 (by omega) (fun k hk => by obtain rfl := Option.some.inj hk; omega)

set_option maxRecDepth 100000 in
set_option maxHeartbeats 2000000 in
theorem extends_of (root old : List UInt8) (m n : Nat) (a : Option Addr) (np c : Nat) (p : List (List UInt8)) (w : World) (hm : 0 < m) (hmn : m ≤ n) (hr : root.length = 32) (ho : old.length = 32) (hT : Tabs w) (S : Sums w a np c p)
    (hin : ∀ ob pb g w', ExtEnv w' ob pb g old a np c p → Calls Tryz.prog 48 #[.int .i64 m, .int .i64 n, .int .i64 np, .bool true, .pointer (some ⟨ob, 0, none⟩), .pointer (some ⟨pb, 0, none⟩), .pointer (some ⟨g, 0, none⟩)] w' (RetBoth (Tree.both old m n true p) w')) :
    Calls Tryz.prog 27 #[.int .i64 m, sumV old, .int .i64 n, sumV root, .slice a np c] w fun e w' => e = .returned (.bool (Tree.extends_ m old n root p)) ∧ Below w.heap.size w w' := by
  have Hin := Lib.hid hin
  have S' := Lib.hid S
  have HOO := Lib.hid ho
  have HRR := Lib.hid hr
  have hi1 : ¬ (m : Int) < 1 := by omega
  have hi2 : ¬ (n : Int) < (m : Int) := by omega
  clear S ho hr hin
  go_enter Tryz.func27, Tryz.ntmps27
  have HB4 := Lib.hid (blk4 w (.cells (sumRow old) 34) (.cells (sumRow root) 34) (.cells #[.slice a np c] 26) (.cells #[.nilFunc] 98)).2.2.2
  go_upto_region 5 with (refine wpList_store_one' rfl 98 _ _ rfl rfl (w.heap.size + 1 + 1 + 1) (.func (.func 48) #[] #[.pointer (some ⟨w.heap.size, 0, none⟩), .pointer (some ⟨w.heap.size + 1 + 1, 0, none⟩), .pointer (some ⟨w.heap.size + 1 + 1 + 1, 0, none⟩)]) rfl rfl rfl _ _ HB4.out (by kernel_rfl) ?_; intro w0 hf hgr; have hf' := Lib.hid hf; have hgr' := Lib.hid hgr; clear hf hgr)
  obtain ⟨E, hB, hold, hroot⟩ := ext_env (p := p) hT S'.out HOO.out hf'.out hgr'.out
  have hc := E.fn
  have hcp := E.pathAt
  unfold extFn at hc
  have HE := Lib.hid E
  have HB0 := Lib.hid hB
  have HOld := Lib.hid hold
  have HRoot := Lib.hid hroot
  have Hel1 := Lib.hid (show ∀ (r : List UInt8), r.length = 32 → ∀ W, (binOp .eql 34 (sumV r) (sumV old)).run Tryz.prog W = .ok (.bool (r == old)) W from fun r h W => eql_sumV r old W h HOO.out)
  have Hel2 := Lib.hid (show ∀ (r : List UInt8), r.length = 32 → ∀ W, (binOp .eql 34 (sumV r) (sumV root)).run Tryz.prog W = .ok (.bool (r == root)) W from fun r h W => eql_sumV r root W h HRR.out)
  clear hf' hgr' E hB hold hroot
  go_wp2_with (first | (go_at_call 48; refine (Hin.out _ _ _ _ HE.out).mono ?_; rintro e w3 ⟨r, s, bb, rfl, hrl, hsl, hmd, hB⟩; have HRL := Lib.hid hrl; have HSL := Lib.hid hsl; have HMD := Lib.hid hmd; have HB3 := Lib.hid hB; clear hrl hsl hmd hB; cases bb <;> cases hq : (r == old)) | (refine wpList_store_row' rfl 34 _ _ rfl (w3.heap.size + 1) (s.map V8).toArray rfl rfl _ _ (at_4 H4.out G4.out) (size_sum s HSL.out) (by simp [HSL.out]) (oneCells s) ?_; intro w5 h5 g5 s5; have h54 := keep54 g5 H4.out; have hk5 := keep5 G4.out g5; have H5 := Lib.hid h5; have G5 := Lib.hid g5; have H54 := Lib.hid h54; have hel1 := Hel1.out r HRL.out; have hel2 := Hel2.out s HSL.out; have HK5 := Lib.hid hk5; clear h5 g5 s5 h54 hk5) | (refine wpList_store_row' rfl 34 _ _ rfl w3.heap.size (r.map V8).toArray rfl rfl _ _ (blk2 _ _ _).1 (size_sum r HRL.out) (by simp [HRL.out]) (oneCells r) ?_; intro w4 h4 g4 s4; have H4 := Lib.hid h4; have G4 := Lib.hid g4; clear h4 g4 s4) | (refine wpList_guarded rfl ?_; refine wpList_load_sum rfl 34 _ rfl w3.heap.size rfl _ r 32 _ _ H54.out Tryz.underlying34 (by kernel_rfl) HRL.out ?_) | (refine wpList_guarded rfl ?_; refine wpList_load_sum rfl 34 _ rfl w.heap.size rfl _ old 32 _ _ (HK5.out _ _ (in_heap (bblk HB3.out HOld.out)) (bblk HB3.out HOld.out)) Tryz.underlying34 (by kernel_rfl) HOO.out ?_) | (refine wpList_guarded rfl ?_; refine wpList_load_sum rfl 34 _ rfl (w3.heap.size + 1) rfl _ s 32 _ _ H5.out Tryz.underlying34 (by kernel_rfl) HSL.out ?_) | (refine wpList_guarded rfl ?_; refine wpList_load_sum rfl 34 _ rfl (w.heap.size + 1) rfl _ root 32 _ _ (HK5.out _ _ (in_heap (bblk HB3.out HRoot.out)) (bblk HB3.out HRoot.out)) Tryz.underlying34 (by kernel_rfl) HRR.out ?_))
  · go_ret
    have : Tree.extends_ m old n root p = false := by unfold Tree.extends_; rw [HMD.out]; rfl
    exact ⟨by rw [this]; try rfl, low5' HB0.out HB3.out G4.out G5.out⟩
  · go_ret
    have : Tree.extends_ m old n root p = false := by unfold Tree.extends_; rw [HMD.out]; rfl
    exact ⟨by rw [this]; try rfl, low5' HB0.out HB3.out G4.out G5.out⟩
  · go_ret
    have : Tree.extends_ m old n root p = false := by unfold Tree.extends_; rw [HMD.out]; simp [hq]
    exact ⟨by rw [this]; try rfl, low5' HB0.out HB3.out G4.out G5.out⟩
  · go_ret
    have : Tree.extends_ m old n root p = (s == root) := by unfold Tree.extends_; rw [HMD.out]; simp [hq]
    exact ⟨by rw [this]; try rfl, low5' HB0.out HB3.out G4.out G5.out⟩

/-- A proof of one sum that two leaves of three have become three. -/
theorem extends_three (root old x : List UInt8) (a : Option Addr) (c : Nat) (w : World) (hr : root.length = 32) (ho : old.length = 32) (hT : Tabs w) (S : Sums w a 1 c [x]) (hs3 : split 3 = 2) :
    Calls Tryz.prog 27 #[.int .i64 2, sumV old, .int .i64 3, sumV root, .slice a 1 c] w fun e w' => e = .returned (.bool (Tree.extends_ 2 old 3 root [x])) ∧ Below w.heap.size w w' := by
  refine extends_of root old 2 3 a 1 c [x] w (by omega) (by omega) hr ho hT S fun ob pb g w' E => ?_
  have h := extin_left 2 3 0 ob pb g true old a 1 c [x] w' (by omega) (by omega) (by omega) (by omega) (by omega) (by rw [hs3]; omega) E fun w2 E2 => by
    rw [hs3]
    exact extin_whole 2 0 ob pb g old a 1 c [x] w2 E2 (by omega)
  simpa using h
end Go.Proofs.YtpdhgijeanbmcaaGreatDoor

/- Reg -/
namespace Go.Proofs.YtpdhgijeanbmcaaGreatDoor
set_option maxRecDepth 100000
open Go.RowKit

/-- What an operation is to yield: one value, known by name, or any that meets a property. -/
structure Yld (R : World → World → Prop) where
  val : Option Value
  p : Value → World → Prop
  st : ∀ v w w', p v w → R w w' → p v w'
  only : ∀ u, val = some u → ∀ v w, p v w → v = u
def Yld.is {R : World → World → Prop} (u : Value) : Yld R := ⟨some u, fun v _ => v = u, fun _ _ _ h _ => h, fun _ e _ _ h => h.trans (Option.some.inj e)⟩
def Yld.pr {R : World → World → Prop} (p : Value → World → Prop) (st : ∀ v w w', p v w → R w w' → p v w') : Yld R := ⟨none, p, st, fun _ e => by cases e⟩
def Yld.post {R : World → World → Prop} (D : Yld R) : Post R := ⟨D.p, D.st⟩
def Yld.value {R : World → World → Prop} (D : Yld R) (v : Value) : Value := match D.val with
  | some u => u
  | none => v
theorem Yld.value_eq {R : World → World → Prop} (D : Yld R) (v : Value) (w : World) (h : D.p v w) : D.value v = v := by
  unfold Yld.value
  cases hv : D.val with
  | none => rfl
  | some u => exact (D.only u hv v w h).symm

section
variable {P : Program} {ops : Array Oper} {R : World → World → Prop} {Q : Exit → Act → World → Prop}

/-- Which of the region's first n operations writes slot t. -/
def writer (ops : Array Oper) (t : Tmp) : Nat → Option Nat
  | 0 => none
  | n + 1 => match (ops[n]?).bind (·.dst) with
    | some d => if d == t then some n else writer ops t n
    | none => writer ops t n
def valAt (Ds : List (Yld R)) (vs : Nat → Value) (j : Nat) : Value := match Ds[j]? with
  | some D => D.value (vs j)
  | none => vs j
def lookD (ops : Array Oper) (Ds : List (Yld R)) (vs : Nat → Value) (a0 : Act) (n : Nat) : Operand → Value
  | .tmp t => match writer ops t n with
    | some j => valAt Ds vs j
    | none => a0.eval (.tmp t)
  | x => a0.eval x
def yieldD (Ds : List (Yld R)) (vs : Nat → Value) (g : Nat) : Option Bool := match valAt Ds vs g with
  | .bool b => some b
  | _ => none
/-- What the operation's run is to be. -/
def meets (P : Program) (R : World → World → Prop) (D : Yld R) (w : World) : Result Next → Prop
  | .ok (.value v) w' => R w w' ∧ D.p v w'
  | .ok .skip w' => R w w' ∧ D.p undef w'
  | .ok (.enter f args) w' => Calls P f args w' fun e w'' => ∃ v, e = .returned v ∧ R w w'' ∧ D.p v w''
  | .ok (.row row args) w' => Rows P row args w' fun v w'' => R w w'' ∧ D.p v w''
  | _ => False
def relAt (P : Program) (R : World → World → Prop) (D : Yld R) (o : Oper) (E : Operand → Value) (y : Nat → Option Bool) (w : World) : Prop :=
  if Region.wanted o y then meets P R D w ((execOp E o).run P w) else D.p undef w

def RegHead (P : Program) (ops : Array Oper) (R : World → World → Prop) (w0 : World) (a0 : Act) (n : Nat) (Ds : List (Yld R)) (vs : Nat → Value) : List Oper → List (Yld R) → Nat → Prop
  | _, [], _ => True
  | [], _ :: _, _ => False
  | o :: l, D :: r, k => (∀ w, R w0 w → allOf (fun i w => ((Ds[i]?).getD (Yld.is undef)).p (vs i) w) w (depsOf o) → relAt P R D o (lookD ops Ds vs a0 n) (yieldD Ds vs) w) ∧ RegHead P ops R w0 a0 n Ds vs l r (k + 1)

theorem writer_some {t : Tmp} : ∀ {n j : Nat}, writer ops t n = some j → j < n ∧ ∃ q, ops[j]? = some q ∧ q.dst = some t
  | 0, j, h => by simp [writer] at h
  | n + 1, j, h => by
    unfold writer at h
    cases ho : ops[n]? with
    | none =>
      simp [ho] at h
      obtain ⟨h1, h2⟩ := writer_some h
      exact ⟨by omega, h2⟩
    | some q =>
      cases hd : q.dst with
      | none =>
        simp [ho, hd] at h
        obtain ⟨h1, h2⟩ := writer_some h
        exact ⟨by omega, h2⟩
      | some d =>
        simp [ho, hd] at h
        split at h
        · next e =>
          obtain rfl := Option.some.inj h
          exact ⟨by omega, q, ho, by rw [hd, e]⟩
        · obtain ⟨h1, h2⟩ := writer_some h
          exact ⟨by omega, h2⟩
theorem writer_none {t : Tmp} : ∀ {n : Nat}, writer ops t n = none → ∀ j q, j < n → ops[j]? = some q → q.dst ≠ some t
  | 0, _, j, q, hj, _ => by omega
  | n + 1, h, j, q, hj, hq => by
    unfold writer at h
    by_cases e : j = n
    · subst e
      intro hd
      simp [hq, hd] at h
    · have hr : writer ops t n = none := by
        cases ho : (ops[n]?).bind (·.dst) with
        | none => simp only [ho] at h; exact h
        | some d =>
          simp only [ho] at h
          split at h
          · cases h
          · exact h
      exact writer_none hr j q (by omega) hq
/-- The slots that are written lie in the frame. -/
def sizeB (ops : Array Oper) (n : Nat) (s : Nat) : Bool := (List.range n).all fun k => match ops[k]? with
  | none => false
  | some o => match o.dst with
    | none => true
    | some d => decide (d < s)
theorem size_spec {n s k : Nat} {o : Oper} {d : Tmp} (h : sizeB ops n s = true) (hk : k < n) (ho : ops[k]? = some o) (hd : o.dst = some d) : d < s := by
  have h1 := List.all_eq_true.1 h k (List.mem_range.2 hk)
  simpa [ho, hd] using h1
/-- A guard asks an operation that writes a slot. -/
def guardB (ops : Array Oper) (n : Nat) : Bool := (List.range n).all fun k => match ops[k]? with
  | none => false
  | some o => match o.guard with
    | none => true
    | some (g, _) => match ops[g]? with
      | none => false
      | some q => q.dst.isSome
theorem guard_spec {n k g : Nat} {b : Bool} {o : Oper} (h : guardB ops n = true) (hk : k < n) (ho : ops[k]? = some o) (hg : o.guard = some (g, b)) : ∃ q d, ops[g]? = some q ∧ q.dst = some d := by
  have h1 := List.all_eq_true.1 h k (List.mem_range.2 hk)
  simp only [ho, hg] at h1
  cases hq : ops[g]? with
  | none => simp [hq] at h1
  | some q =>
    simp only [hq, Option.isSome_iff_exists] at h1
    obtain ⟨d, hd⟩ := h1
    exact ⟨q, d, rfl, hd⟩

theorem relOp_of_at {D : Yld R} {o : Oper} {E : Operand → Value} {y : Nat → Option Bool} {a : Act} {w : World} (hrf : ∀ w, R w w) (he : execOp a.eval o = execOp E o) (hw : Region.wanted o (yielded ops a.tmps) = Region.wanted o y) (h : relAt P R D o E y w) : relOp P ops R D.p o a w := by
  unfold relOp wpList
  unfold relAt at h
  rw [hw]
  by_cases hg : Region.wanted o y = true
  · rw [if_pos hg] at h ⊢
    left
    unfold Oper.wp
    rw [he]
    cases hr : (execOp E o).run P w with
    | ok x w' =>
      rw [hr] at h
      cases x <;> simp only [meets] at h
      case value v => exact ⟨rfl, _, rfl, h⟩
      case skip => exact ⟨rfl, _, rfl, h⟩
      case enter f args =>
        refine Calls.mono h ?_
        rintro e w'' ⟨v, rfl, h1, h2⟩
        exact ⟨rfl, v, rfl, h1, h2⟩
      case row row args => exact Rows.mono h fun v w'' hh => ⟨rfl, v, rfl, hh⟩
    | halt x w' =>
      rw [hr] at h
      exact False.elim h
  · rw [if_neg hg] at h ⊢
    unfold wpList
    exact ⟨rfl, _, rfl, hrf _, h⟩

theorem acts_size (vs : Nat → Value) (a0 : Act) : ∀ k, (acts ops vs a0 k).tmps.size = a0.tmps.size
  | 0 => rfl
  | k + 1 => by
    unfold acts
    cases ops[k]? with
    | none => exact acts_size vs a0 k
    | some o => cases hd : o.dst <;> simp [Act.put, hd, acts_size vs a0 k]

theorem reg_head {w0 : World} {a0 : Act} {n : Nat} {Ds : List (Yld R)} {vs : Nat → Value} : ∀ {l : List Oper} {r : List (Yld R)} {k : Nat}, RegHead P ops R w0 a0 n Ds vs l r k → ∀ (i : Nat) (D : Yld R), r[i]? = some D → ∃ o, l[i]? = some o ∧ ∀ w, R w0 w → allOf (fun i w => ((Ds[i]?).getD (Yld.is undef)).p (vs i) w) w (depsOf o) → relAt P R D o (lookD ops Ds vs a0 n) (yieldD Ds vs) w
  | _, [], _, _, i, D, hD => by simp at hD
  | [], _ :: _, _, h, _, _, _ => False.elim h
  | o :: l, D0 :: r, k, h, 0, D, hD => by
    obtain rfl : D0 = D := by simpa using hD
    exact ⟨o, rfl, h.1⟩
  | o :: l, D0 :: r, k, h, i + 1, D, hD => by
    obtain ⟨q, hq, hh⟩ := reg_head h.2 i D (by simpa using hD)
    exact ⟨q, by simpa using hq, hh⟩

/-- THE LAW, in its second form: each of the first n operations is asked about known values alone. -/
theorem wp_region_reg {id : Nat} {a : Act} {w : World} {l : List Oper} (n s : Nat) (R : World → World → Prop) (hm : P.follows .mixedOrders = true) (hB : relB l.toArray n = true) (hS : sizeB l.toArray n s = true) (hs : a.tmps.size = s) (hG : guardB l.toArray n = true) (hrf : ∀ w, R w w) (htr : ∀ w w' w'', R w w' → R w' w'' → R w w'')
    (Ds : List (Yld R)) (hD : Ds.length = n) (h : ∀ vs, RegHead P l.toArray R w.drew a n Ds vs l Ds 0)
    (ht : ∀ vs w', R w.drew w' → allOf (fun i w => ((Ds[i]?).getD (Yld.is undef)).p (vs i) w) w' (List.range n) → wpList P l.toArray Q (l.drop n) (acts l.toArray (valAt Ds vs) a n) w') : (Code.region id l.toArray true).wp P Q a w := by
  have hB' := hB
  simp only [relB, Bool.and_eq_true, decide_eq_true_eq] at hB'
  obtain ⟨⟨⟨⟨⟨⟨hsel, hn⟩, _⟩, _⟩, hpl⟩, hself⟩, _⟩ := hB'
  subst hs
  refine wp_region_any hm ?_
  have hDs : ∀ k, k < n → ∃ D, Ds[k]? = some D := fun k hk => ⟨Ds[k]'(by omega), List.getElem?_eq_getElem (by omega)⟩
  have key := rel_any (P := P) (Q := Q) (ops := l.toArray) (D := fun k => ((Ds[k]?).getD (Yld.is undef)).p) (a0 := a) (w0 := w.drew) hB (fun k v w w' h1 h2 => ((Ds[k]?).getD (Yld.is undef)).st v w w' h1 h2) htr
    (fun k o vs w' hk ho hR hdeps => by
      obtain ⟨D, hDk⟩ := hDs k hk
      obtain ⟨o', ho', hh⟩ := reg_head (h vs) k D hDk
      obtain rfl : o = o' := Option.some.inj (ho.symm.trans (by simpa using ho'))
      have hh := hh w' hR (allOf_iff.2 hdeps)
      obtain ⟨o2, ho2, hgu, hlt, hoth⟩ := plain_spec hpl hk
      obtain rfl : o = o2 := Option.some.inj (ho.symm.trans ho2)
      have hrep := rep_acts a vs hpl k (by omega)
      have hval : ∀ j ∈ depsOf o, valAt Ds vs j = vs j := fun j hj => by
        have hjn : j < n := by have := hlt j hj; omega
        obtain ⟨Dj, hDj⟩ := hDs j hjn
        have := hdeps j hj
        simp only [hDj, Option.getD_some] at this
        simp only [valAt, hDj]
        exact Dj.value_eq _ _ this
      have hslot : ∀ j q d, j ∈ depsOf o → l.toArray[j]? = some q → q.dst = some d → (acts l.toArray vs a k).tmps[d]? = some (vs j) := fun j q d hj hq hd => by
        have hjk := hlt j hj
        have h1 := hrep.val j q d (by omega) hq hd (by simpa using hjk)
        have h2 := size_spec hS (show j < n by omega) hq hd
        rw [h1, Array.getElem?_setIfInBounds_self, if_pos h2]
      have he : execOp (acts l.toArray vs a k).eval o = execOp (lookD l.toArray Ds vs a n) o := execOp_congr o (Region.noSelect_spec hsel k o · · ho) fun x hx => by
        cases x with
        | tmp t =>
          have ht : t ∈ tmpsOf o := List.mem_filterMap.2 ⟨.tmp t, by simpa using hx, rfl⟩
          show (acts l.toArray vs a k).tmps.getD t undef = match writer l.toArray t n with
            | some j => valAt Ds vs j
            | none => a.tmps.getD t undef
          cases hwr : writer l.toArray t n with
          | some j =>
            obtain ⟨hjn, q, hq, hqt⟩ := writer_some hwr
            have hjk : j ≠ k := fun e => by
              subst e
              obtain rfl : o = q := Option.some.inj (ho.symm.trans hq)
              exact self_spec hself hk ho t ht hqt
            obtain ⟨q', hq', _, hdep⟩ := hoth j hjn hjk
            obtain rfl : q = q' := Option.some.inj (hq.symm.trans hq')
            have hjd := hdep t ht hqt
            have h1 := hslot j q t hjd hq hqt
            show _ = valAt Ds vs j
            rw [hval j hjd]
            simp [h1]
          | none =>
            have h1 := hrep.other t fun j q hj hq _ => writer_none hwr j q (by omega) hq
            show _ = a.tmps.getD t undef
            simp [h1]
        | _ => rfl
      have hwn : Region.wanted o (yielded l.toArray (acts l.toArray vs a k).tmps) = Region.wanted o (yieldD Ds vs) := by
        unfold Region.wanted
        cases hgd : o.guard with
        | none => rfl
        | some gb =>
          obtain ⟨g, b⟩ := gb
          have hgm := hgu g b hgd
          obtain ⟨q, d, hq, hd⟩ := guard_spec hG hk ho hgd
          have h1 := hslot g q d hgm hq hd
          have : yielded l.toArray (acts l.toArray vs a k).tmps g = yieldD Ds vs g := by
            simp only [yielded, hq, yieldD, hval g hgm, Option.bind_some, hd, h1]
            cases vs g <;> rfl
          simp only [this]
      have hrel := relOp_of_at (ops := l.toArray) hrf he hwn hh
      simp only [hDk, Option.getD_some]
      exact hrel)
    (fun vs w' hR hDv => by
      have h1 := ht vs w' hR (allOf_iff.2 fun i hi => hDv i (List.mem_range.1 hi))
      have h2 : acts l.toArray (valAt Ds vs) a n = acts l.toArray vs a n := by
        have : ∀ k, k ≤ n → acts l.toArray (valAt Ds vs) a k = acts l.toArray vs a k := by
          intro k
          induction k with
          | zero => intro _; rfl
          | succ k ih =>
            intro hk
            obtain ⟨D, hDk⟩ := hDs k (by omega)
            have h3 := hDv k (by omega)
            simp only [hDk, Option.getD_some] at h3
            have h4 : valAt Ds vs k = vs k := by
              simp only [valAt, hDk]
              exact D.value_eq _ _ h3
            simp only [acts, ih (by omega), h4]
        exact this n (Nat.le_refl _)
      rw [h2] at h1
      simpa using h1)
    n (List.range n) (Array.replicate l.toArray.size false) (fun _ => undef) a w.drew (by simp) List.nodup_range
    (fun i => by
      rw [List.mem_range]
      exact ⟨fun hi => ⟨hi, getD_in (by simp at hn ⊢; omega) (getD_replicate_false _ _)⟩, fun hi => hi.1⟩)
    ⟨by simp, fun j oj _ hl => (by rw [getD_replicate_false] at hl; cases hl), fun t _ ht => getD_in (by simpa using ht) (getD_replicate_false _ _)⟩
    ⟨rfl, rfl, fun _ _ => rfl, fun k o d _ _ _ hS => (by rw [getD_replicate_false] at hS; cases hS)⟩ (fun i _ hS => (by rw [getD_replicate_false] at hS; cases hS)) (hrf _)
  rw [show n + (l.toArray.size - n) = l.toArray.size by simp at hn ⊢; omega] at key
  exact key

theorem RegHead.cons {w0 : World} {a0 : Act} {n : Nat} {Ds : List (Yld R)} {vs : Nat → Value} {o : Oper} {l : List Oper} {D : Yld R} {r : List (Yld R)} {k : Nat} (h1 : ∀ w, R w0 w → allOf (fun i w => ((Ds[i]?).getD (Yld.is undef)).p (vs i) w) w (depsOf o) → relAt P R D o (lookD ops Ds vs a0 n) (yieldD Ds vs) w)
    (h2 : RegHead P ops R w0 a0 n Ds vs l r (k + 1)) : RegHead P ops R w0 a0 n Ds vs (o :: l) (D :: r) k := ⟨h1, h2⟩

/-- The frame behind the region, written out: the first s slots and those from m on as they were, the others new. -/
theorem wp_frame {xs new : List Value} {df : List Deferred} {vs : Nat → Value} {n : Nat} {w : World} {rest : List Oper} (s m : Nat) (h : acts ops vs ⟨xs.toArray, df⟩ n = ⟨(xs.take s ++ (new ++ xs.drop m)).toArray, df⟩)
    (hw : wpList P ops Q rest ⟨(xs.take s ++ (new ++ xs.drop m)).toArray, df⟩ w) : wpList P ops Q rest (acts ops vs ⟨xs.toArray, df⟩ n) w := by
  rw [h]; exact hw

def overlay (xs : List Value) : List (Nat × List Value) → List Value
  | [] => xs
  | (s, new) :: r => overlay (xs.take s ++ (new ++ xs.drop (s + new.length))) r
/-- The same, several rows of slots being new. -/
theorem wp_frame2 {xs : List Value} {ps : List (Nat × List Value)} {df : List Deferred} {vs : Nat → Value} {n : Nat} {w : World} {rest : List Oper} (h : acts ops vs ⟨xs.toArray, df⟩ n = ⟨(overlay xs ps).toArray, df⟩)
    (hw : wpList P ops Q rest ⟨(overlay xs ps).toArray, df⟩ w) : wpList P ops Q rest (acts ops vs ⟨xs.toArray, df⟩ n) w := by
  rw [h]; exact hw

/- The answers, one for each kind of operation. -/
theorem relAt.pure {u : Value} {o : Oper} {E : Operand → Value} {y : Nat → Option Bool} {w : World} (hrf : ∀ w, R w w) (hw : Region.wanted o y = true) (hr : (execOp E o).run P w = .ok (.value u) w) : relAt P R (Yld.is u) o E y w := by
  unfold relAt
  rw [if_pos hw, hr]
  exact ⟨hrf _, rfl⟩
theorem relAt.skip {o : Oper} {E : Operand → Value} {y : Nat → Option Bool} {w : World} (hw : Region.wanted o y = false) : relAt P R (Yld.is undef) o E y w := by
  unfold relAt
  rw [if_neg (by rw [hw]; decide)]
  rfl
theorem relAt.value {D : Yld R} {u : Value} {o : Oper} {E : Operand → Value} {y : Nat → Option Bool} {w w' : World} (hw : Region.wanted o y = true) (hr : (execOp E o).run P w = .ok (.value u) w') (hR : R w w') (hD : D.p u w') : relAt P R D o E y w := by
  unfold relAt
  rw [if_pos hw, hr]
  exact ⟨hR, hD⟩
/-- An operation that only yields a value: what is run, and the value made of it. -/
def valS (s : Sem Value) : Sem Next := do pure (.value (← s))
theorem run_valS {s : Sem Value} {u : Value} {w w' : World} (h : s.run P w = .ok u w') : (valS s).run P w = .ok (.value u) w' := by
  simp [valS, h]
theorem relAt.pureS {u : Value} {o : Oper} {E : Operand → Value} {y : Nat → Option Bool} {w : World} {s : Sem Value} (hrf : ∀ w, R w w) (hw : Region.wanted o y = true) (he : execOp E o = valS s) (hr : s.run P w = .ok u w) : relAt P R (Yld.is u) o E y w :=
  relAt.pure hrf hw (by rw [he]; exact run_valS hr)
theorem relAt.valueS {D : Yld R} {u : Value} {o : Oper} {E : Operand → Value} {y : Nat → Option Bool} {w w' : World} {s : Sem Value} (hw : Region.wanted o y = true) (he : execOp E o = valS s) (hr : s.run P w = .ok u w') (hR : R w w') (hD : D.p u w') : relAt P R D o E y w :=
  relAt.value hw (by rw [he]; exact run_valS hr) hR hD
theorem relAt.call {D : Yld R} {f : FuncId} {args : Array Value} {o : Oper} {E : Operand → Value} {y : Nat → Option Bool} {w : World} (hw : Region.wanted o y = true) (hr : (execOp E o).run P w = .ok (.enter f args) w) (h : Calls P f args w fun e w' => ∃ v, e = .returned v ∧ R w w' ∧ D.p v w') : relAt P R D o E y w := by
  unfold relAt
  rw [if_pos hw, hr]
  exact h
end
end Go.Proofs.YtpdhgijeanbmcaaGreatDoor

/- Runs -/
namespace Go.Proofs.YtpdhgijeanbmcaaGreatDoor
set_option maxRecDepth 100000
open Go.RowKit Go.Great

theorem run_load_at_sum (w : World) (b o : Nat) (l : List UInt8) (hc : w.rangeAt b o (l.map V8)) (hl : l.length = 32) : (Instr.loadAt 34 (.pointer (some ⟨b, o, none⟩))).run Tryz.prog w = .ok (sumV l) w :=
  run_loadAt_mid w b o 34 (l.map V8) _ hc Tryz.underlying34 rfl (by rw [show (Tryz.prog.info? 34).map (·.size) = some 32 from by kernel_rfl, List.length_map, hl])
theorem run_load_box_sum (w : World) (g : Nat) (t : TypeId) (fr : Nat × Nat) (l : List UInt8) (hg : w.heap[g]? = some (.cells (l.map V8).toArray t fr)) (hl : l.length = 32) : (Instr.loadAt 34 (.pointer (some ⟨g, 0, none⟩))).run Tryz.prog w = .ok (sumV l) w := by
  simp only [Instr.loadAt, Instr.sureAddr, Sem.run_bind, Sem.run_pure, Result.andThen_ok]
  exact run_loadVar_row w g t 34 (l.map V8).toArray fr _ hg Tryz.underlying34 rfl (size_sum l hl)
/-- An operation on two values, behind the model's own guard. -/
def binS (op : BinOp) (t : TypeId) (x y : Operand) (a b : Value) : Sem Value := do eqGuard op t x y a b; binOp op t a b
theorem run_binS {P : Program} {op : BinOp} {t : TypeId} {x y : Operand} {a b v : Value} {w : World} (hg : (eqGuard op t x y a b).run P w = .ok () w) (h : (binOp op t a b).run P w = .ok v w) : (binS op t x y a b).run P w = .ok v w := by
  simp [binS, Sem.run_bind, hg, h]
theorem run_eql_sums (w : World) (p q : Operand) (x y : List UInt8) (bb : Bool) (hx : x.length = 32) (hy : y.length = 32) (h : (x == y) = bb) : (binS .eql 34 p q (sumV x) (sumV y)).run Tryz.prog w = .ok (.bool bb) w := by
  have hel := eql_sumV x y w hx hy
  rw [h] at hel
  exact run_binS (by kernel_rfl) hel
section
variable {P : Program} (w : World) (t : TypeId) (p q : Operand) (a b : Int)
theorem guard_int (op : BinOp) (k : IntKind) : (eqGuard op t p q (.int k a) (.int k b)).run P w = .ok () w := by cases op <;> rfl
theorem run_int_sub (h : -9223372036854775808 ≤ a - b ∧ a - b ≤ 9223372036854775807) : (binS .sub t p q (.int .i64 a) (.int .i64 b)).run P w = .ok (.int .i64 (a - b)) w :=
  run_binS (guard_int w t p q a b _ _) (by rw [binOp_sub]; show Result.ok (Value.int .i64 (IntKind.i64.wrap (a - b))) w = _; rw [IntWalk.i64_in _ h])
theorem run_int_add (h : -9223372036854775808 ≤ a + b ∧ a + b ≤ 9223372036854775807) : (binS .add t p q (.int .i64 a) (.int .i64 b)).run P w = .ok (.int .i64 (a + b)) w :=
  run_binS (guard_int w t p q a b _ _) (by rw [binOp_add]; show Result.ok (Value.int .i64 (IntKind.i64.wrap (a + b))) w = _; rw [IntWalk.i64_in _ h])
end
/-- Where element k of a slice of sums lies. -/
theorem run_sums_index (w : World) (bl off n c k : Nat) (hk : k < n) : (Instr.indexAt 26 (.slice (some ⟨bl, off, none⟩) n c) (.int .i64 k)).run Tryz.prog w = .ok (.pointer (some ⟨bl, off + k * 32, none⟩)) w := by
  rw [run_indexAt_slice (P := Tryz.prog) (w := w) 26 _ n c .i64 k Tryz.underlying26, if_pos ⟨by omega, by omega⟩, show (sizeOf (Tryz.prog.elem 26)).run Tryz.prog w = .ok 32 w by kernel_rfl]
  simp [Result.andThen, Addr.add_lit]
theorem sums_info (w : World) : (sizeOf (Tryz.prog.elem 26)).run Tryz.prog w = .ok 32 w := by kernel_rfl
theorem run_sums_to (w : World) (a : Option Addr) (n c k : Nat) (ha : ∀ ad, a = some ad → ∃ b o, ad = ⟨b, o, none⟩) (hk : k ≤ c) : (Instr.sliceAt 26 (.slice a n c) none (some (.int .i64 k)) none).run Tryz.prog w = .ok (.slice a k c) w := by
  rw [run_sliceAt_slice (P := Tryz.prog) (w := w) 26 _ _ _ _ Tryz.underlying26, run_slice_h (P := Tryz.prog) (w := w) 26 a n c Tryz.underlying26 .i64 k (by omega) (by omega), sums_info]
  simp only [Result.andThen, sliced, Int.toNat_natCast, Nat.zero_mul, Nat.sub_zero]
  cases a with
  | none => simp
  | some ad =>
    obtain ⟨b, o, rfl⟩ := ha ad rfl
    simp [Addr.add_lit]
theorem run_sums_from (w : World) (a : Option Addr) (n c k : Nat) (hk : k ≤ n) : (Instr.sliceAt 26 (.slice a n c) (some (.int .i64 k)) none none).run Tryz.prog w = .ok (.slice (if c = k then a else a.map (·.add (k * 32))) (n - k : Nat) (c - k : Nat)) w := by
  rw [run_sliceAt_slice (P := Tryz.prog) (w := w) 26 _ _ _ _ Tryz.underlying26, run_slice_l (P := Tryz.prog) (w := w) 26 a n c Tryz.underlying26 .i64 k (by omega) (by omega), sums_info]
  simp only [Result.andThen, sliced, Int.toNat_natCast]
end Go.Proofs.YtpdhgijeanbmcaaGreatDoor

/- Reg2 -/
namespace Go.Proofs.YtpdhgijeanbmcaaGreatDoor
set_option maxRecDepth 100000
open Go.RowKit

section
variable {P : Program} {ops : Array Oper} {R : World → World → Prop} {Q : Exit → Act → World → Prop}

/-- What has come up brings what it waits for. -/
def Down (ops : Array Oper) (n : Nat) (S : Nat → Bool) : Prop := ∀ j q, j < n → ops[j]? = some q → S j = true → ∀ i ∈ depsOf q, i < j ∧ S i = true
/-- j waits for k, at however many removes. -/
def reach (ops : Array Oper) : Nat → Nat → Nat → Bool
  | 0, _, _ => false
  | f + 1, j, k => match ops[j]? with
    | none => false
    | some q => (depsOf q).any fun i => i == k || reach ops f i k
theorem Down.come {n : Nat} {S : Nat → Bool} (h : Down ops n S) : ∀ (f j k : Nat), j < n → S j = true → reach ops f j k = true → S k = true
  | 0, _, _, _, _, hr => by simp [reach] at hr
  | f + 1, j, k, hj, hS, hr => by
    unfold reach at hr
    cases hq : ops[j]? with
    | none => simp [hq] at hr
    | some q =>
      simp only [hq, List.any_eq_true, Bool.or_eq_true, beq_iff_eq] at hr
      obtain ⟨i, hi, hr⟩ := hr
      obtain ⟨hij, hSi⟩ := h j q hj hq hS i hi
      rcases hr with rfl | hr
      · exact hSi
      · exact h.come f i k (by omega) hSi hr
theorem Down.not {n : Nat} {S : Nat → Bool} (h : Down ops n S) (f : Nat) {j k : Nat} (hk : S k = false) (hj : j < n) (hr : reach ops f j k = true) : S j = false := by
  cases e : S j with
  | false => rfl
  | true => rw [h.come f j k hj e hr] at hk; cases hk

def meetsI (P : Program) (R : World → World → Prop) (p : Value → World → Prop) (w : World) : Result Next → Prop
  | .ok (.value v) w' => R w w' ∧ p v w'
  | .ok .skip w' => R w w' ∧ p undef w'
  | .ok (.enter f args) w' => Calls P f args w' fun e w'' => ∃ v, e = .returned v ∧ R w w'' ∧ p v w''
  | .ok (.row row args) w' => Rows P row args w' fun v w'' => R w w'' ∧ p v w''
  | _ => False
def relAtI (P : Program) (R : World → World → Prop) (p : Value → World → Prop) (o : Oper) (E : Operand → Value) (y : Nat → Option Bool) (w : World) : Prop :=
  if Region.wanted o y then meetsI P R p w ((execOp E o).run P w) else R w w ∧ p undef w
def setB (S : Nat → Bool) (k : Nat) : Nat → Bool := fun i => if i = k then true else S i
theorem keepI {I : List Bool → World → Prop} {ks : List Nat} {S : Nat → Bool} {k : Nat} {w : World} (hk : k ∉ ks) (h : I (ks.map S) w) : I (ks.map (setB S k)) w := by
  have : ks.map (setB S k) = ks.map S := List.map_congr_left fun i hi => by
    unfold setB
    rw [if_neg (fun e => hk (by rw [← e]; exact hi))]
  rw [this]; exact h

/-- What is to be shown of operation k. -/
def AskI (P : Program) (ops : Array Oper) (R : World → World → Prop) (I : List Bool → World → Prop) (ks : List Nat) (a0 : Act) (n : Nat) (Ds : List (Yld R)) (vs : Nat → Value) (o : Oper) (D : Yld R) (k : Nat) : Prop :=
  ∀ S w, Down ops n S → S k = false → (∀ j ∈ depsOf o, S j = true) → I (ks.map S) w → allOf (fun i w => ((Ds[i]?).getD (Yld.is undef)).p (vs i) w) w (depsOf o) →
    relAtI P (fun w w' => R w w' ∧ I (ks.map (setB S k)) w') D.p o (lookD ops Ds vs a0 n) (yieldD Ds vs) w
def RegHeadI (P : Program) (ops : Array Oper) (R : World → World → Prop) (I : List Bool → World → Prop) (ks : List Nat) (a0 : Act) (n : Nat) (Ds : List (Yld R)) (vs : Nat → Value) : List Oper → List (Yld R) → Nat → Prop
  | _, [], _ => True
  | [], _ :: _, _ => False
  | o :: l, D :: r, k => AskI P ops R I ks a0 n Ds vs o D k ∧ RegHeadI P ops R I ks a0 n Ds vs l r (k + 1)
theorem RegHeadI.cons {I : List Bool → World → Prop} {ks : List Nat} {a0 : Act} {n : Nat} {Ds : List (Yld R)} {vs : Nat → Value} {o : Oper} {l : List Oper} {D : Yld R} {r : List (Yld R)} {k : Nat}
    (h1 : ∀ S w, Down ops n S → S k = false → (∀ j ∈ depsOf o, S j = true) → I (ks.map S) w → allOf (fun i w => ((Ds[i]?).getD (Yld.is undef)).p (vs i) w) w (depsOf o) →
      relAtI P (fun w w' => R w w' ∧ I (ks.map (setB S k)) w') D.p o (lookD ops Ds vs a0 n) (yieldD Ds vs) w)
    (h2 : RegHeadI P ops R I ks a0 n Ds vs l r (k + 1)) : RegHeadI P ops R I ks a0 n Ds vs (o :: l) (D :: r) k := ⟨h1, h2⟩
theorem regI_head {I : List Bool → World → Prop} {ks : List Nat} {a0 : Act} {n : Nat} {Ds : List (Yld R)} {vs : Nat → Value} : ∀ {l : List Oper} {r : List (Yld R)} {k : Nat}, RegHeadI P ops R I ks a0 n Ds vs l r k → ∀ (i : Nat) (D : Yld R), r[i]? = some D → ∃ o, l[i]? = some o ∧ AskI P ops R I ks a0 n Ds vs o D (k + i)
  | _, [], _, _, i, D, hD => by simp at hD
  | [], _ :: _, _, h, _, _, _ => False.elim h
  | o :: l, D0 :: r, k, h, 0, D, hD => by
    obtain rfl : D0 = D := by simpa using hD
    exact ⟨o, rfl, h.1⟩
  | o :: l, D0 :: r, k, h, i + 1, D, hD => by
    obtain ⟨q, hq, hh⟩ := regI_head h.2 i D (by simpa using hD)
    exact ⟨q, by simpa using hq, by rw [show k + (i + 1) = k + 1 + i by omega]; exact hh⟩

theorem relOp_of_atI {R' : World → World → Prop} {p : Value → World → Prop} {o : Oper} {E : Operand → Value} {y : Nat → Option Bool} {a : Act} {w : World} (he : execOp a.eval o = execOp E o) (hw : Region.wanted o (yielded ops a.tmps) = Region.wanted o y) (h : relAtI P R' p o E y w) : relOp P ops R' p o a w := by
  unfold relOp wpList
  unfold relAtI at h
  rw [hw]
  by_cases hg : Region.wanted o y = true
  · rw [if_pos hg] at h ⊢
    left
    unfold Oper.wp
    rw [he]
    cases hr : (execOp E o).run P w with
    | ok x w' =>
      rw [hr] at h
      cases x <;> simp only [meetsI] at h
      case value v => exact ⟨rfl, _, rfl, h⟩
      case skip => exact ⟨rfl, _, rfl, h⟩
      case enter f args =>
        refine Calls.mono h ?_
        rintro e w'' ⟨v, rfl, h1, h2⟩
        exact ⟨rfl, v, rfl, h1, h2⟩
      case row row args => exact Rows.mono h fun v w'' hh => ⟨rfl, v, rfl, hh⟩
    | halt x w' =>
      rw [hr] at h
      exact False.elim h
  · rw [if_neg hg] at h ⊢
    unfold wpList
    exact ⟨rfl, _, rfl, h⟩

theorem inv_any {n : Nat} {a0 : Act} {D : Nat → Value → World → Prop} {J : (Nat → Bool) → World → Prop} (hB : relB ops n = true) (hst : ∀ k v w w', D k v w → R w w' → D k v w')
    (hop : ∀ k o vs w S, k < n → ops[k]? = some o → Down ops n S → S k = false → (∀ j ∈ depsOf o, S j = true) → J S w → (∀ j ∈ depsOf o, D j (vs j) w) → relOp P ops (fun w w' => R w w' ∧ J (setB S k) w') (D k) o (acts ops vs a0 k) w)
    (htail : ∀ vs w, J (fun i => decide (i < n)) w → (∀ k, k < n → D k (vs k) w) → wpList P ops Q (ops.toList.drop n) (acts ops vs a0 n) w) :
    ∀ (f : Nat) (un : List Nat) (listed : Array Bool) (vs : Nat → Value) (a : Act) (w : World), un.length = f → un.Nodup → (∀ i, i ∈ un ↔ i < n ∧ listed.getD i true = false) → HeadInv .any ops n listed →
      Rep ops n a0 vs (fun i => listed.getD i false) a → (∀ i, i < n → listed.getD i false = true → D i (vs i) w) → Down ops n (fun i => listed.getD i false) → J (fun i => listed.getD i false) w → wpAny P .any ops Q (f + (ops.size - n)) listed a w := by
  simp only [relB, Bool.and_eq_true, decide_eq_true_eq] at hB
  obtain ⟨⟨⟨⟨⟨⟨hsel, hn⟩, hs⟩, hc⟩, hpl⟩, hself⟩, hseq⟩ := hB
  intro f
  induction f with
  | zero =>
    intro un listed vs a w hf _ hun inv hrep hD hdown hJ
    obtain rfl : un = [] := List.eq_nil_of_length_eq_zero hf
    have hall : ∀ i, i < n → listed.getD i false = true := fun i hi => by
      cases h : listed.getD i false with
      | true => rfl
      | false => exact absurd ((hun i).2 ⟨hi, getD_in (by rw [inv.size]; omega) h⟩) (by simp)
    have hl := upto_array ops.size n listed inv.size fun i hi => ⟨fun h => (Nat.lt_or_ge i n).resolve_right fun h' => by
      rw [getD_both (inv.tail i h' hi)] at h
      exact absurd h (by simp), fun h => hall i h⟩
    have ha : a = acts ops vs a0 n := rep_unique hrep (rep_acts a0 vs hpl n (Nat.le_refl _)) fun i hi => by simp [hi, hall i hi]
    have hdl : (ops.toList.drop n).length = ops.size - n := by simp
    have hJe : (fun i => listed.getD i false) = (fun i => decide (i < n)) := by
      funext i
      by_cases hi : i < n
      · rw [hall i hi]; simp [hi]
      · by_cases hi2 : i < ops.size
        · rw [getD_both (inv.tail i (by omega) hi2)]; simp [hi]
        · have : listed.getD i false = false := by
            have h2 : listed.size ≤ i := by rw [inv.size]; omega
            simp [Array.getD, Nat.not_lt.2 h2]
          rw [this]; simp [hi]
    rw [hJe] at hJ
    have := wpAny_of_seq (P := P) (md := .any) (ops := ops) (Q' := Q) (ops.toList.drop n) n listed a w (fun j => by simp [List.getElem?_drop]) (by rw [hdl, hl]; exact hseq) (by rw [ha]; exact htail vs w hJ fun k hk => hD k hk (hall k hk))
    rw [hdl] at this
    rw [Nat.zero_add]
    exact this
  | succ f ih =>
    intro un listed vs a w hf hnd hun inv hrep hD hdown hJ
    have hex : ∃ i, i < n ∧ listed.getD i true = false := by
      cases un with
      | nil => simp at hf
      | cons i un => exact ⟨i, (hun i).1 (by simp)⟩
    have hready : ∃ i, i ∈ Region.ready .any ops listed := by
      obtain ⟨i, hi⟩ := hex
      induction i using Nat.strongRecOn with
      | _ i ihi =>
        obtain ⟨o, ho, _, hlt, _⟩ := plain_spec hpl hi.1
        by_cases hall : ∀ e ∈ o.after, Region.binds .any e = true → listed.getD e.on false = true
        · exact ⟨i, mem_ready.2 ⟨hi.2, o, ho, hall⟩⟩
        · simp only [Classical.not_forall] at hall
          obtain ⟨e, he, hb, hne⟩ := hall
          have hlt' : e.on < i := hlt e.on (by simp only [depsOf, List.mem_map, List.mem_filter]; exact ⟨e, ⟨by simpa using he, hb⟩, rfl⟩)
          exact ihi e.on hlt' ⟨by omega, getD_in (by rw [inv.size]; omega) (by simpa using hne)⟩
    obtain ⟨i0, hi0⟩ := hex
    rw [show f + 1 + (ops.size - n) = (f + (ops.size - n)) + 1 by omega]
    refine ⟨fun h0 => (by obtain ⟨i, hi⟩ := hready; rw [h0] at hi; exact absurd hi (by simp)), fun j hj => ?_⟩
    have hjn : j < n := by
      rcases Nat.lt_or_ge j n with h | h
      · exact h
      · have hjs : j < ops.size := by
          obtain ⟨_, o, ho, _⟩ := mem_ready.1 hj
          exact (Array.getElem?_eq_some_iff.1 ho).1
        exact absurd hj (tail_waits hs hc (show n < ops.size by omega) inv _ i0 rfl hi0.1 hi0.2 j h)
    obtain ⟨hjun, o, ho, hall⟩ := mem_ready.1 hj
    obtain ⟨o', ho', hg, hlt, _⟩ := plain_spec hpl hjn
    obtain rfl : o = o' := Option.some.inj (ho.symm.trans ho')
    have hdeps : ∀ i ∈ depsOf o, listed.getD i false = true := fun i hi => by
      simp only [depsOf, List.mem_map, List.mem_filter] at hi
      obtain ⟨e, ⟨he, hb⟩, rfl⟩ := hi
      exact hall e (by simpa using he) hb
    have he := eval_rep (vs := vs) hpl hself (Region.noSelect_spec hsel j o · · ho) hrep hjn ho hdeps
    have hsz : a.tmps.size = (acts ops vs a0 j).tmps.size := hrep.size.trans (rep_acts a0 vs hpl j (by omega)).size.symm
    have hSj : listed.getD j false = false := by
      have hjs : j < listed.size := by rw [inv.size]; omega
      have h1 : listed.getD j true = false := hjun
      simp only [Array.getD, hjs, dif_pos] at h1 ⊢
      exact h1
    refine wpOp_rel ho (wanted_rep hpl hrep hjn ho hdeps) he hsz (hop j o vs w _ hjn ho hdown hSj hdeps hJ fun i hi => hD i (by have := hlt i hi; omega) (hdeps i hi)) fun v w' hr hDv => ?_
    have hjs : j < listed.size := by rw [inv.size]; omega
    have hset : ∀ i, (listed.setIfInBounds j true).getD i false = true ↔ i = j ∨ listed.getD i false = true := fun i => by
      by_cases hij : j = i
      · subst hij; simp [hjs]
      · rw [getD_set_ne false hij]
        exact ⟨.inr, fun h => h.resolve_left fun e => hij e.symm⟩
    have hset2 : ∀ i, (listed.setIfInBounds j true).getD i true = false ↔ i ≠ j ∧ listed.getD i true = false := fun i => by
      by_cases hij : j = i
      · subst hij; simp [hjs]
      · rw [getD_set_ne true hij]
        exact ⟨fun h => ⟨fun e => hij e.symm, h⟩, fun h => h.2⟩
    have hsetB : (fun i => (listed.setIfInBounds j true).getD i false) = setB (fun i => listed.getD i false) j := by
      funext i
      unfold setB
      by_cases hij : j = i
      · subst hij; simp [hjs]
      · rw [getD_set_ne false hij, if_neg fun e => hij e.symm]
    have hju : j ∈ un := (hun j).2 ⟨hjn, hjun⟩
    refine ih (un.erase j) _ (fun i => if i = j then v else vs i) _ w' (by rw [List.length_erase_of_mem hju, hf]; rfl) (hnd.erase j) (fun i => ?_) (inv.set hj hjn) (rep_put hpl hrep hjn ho v _ hset) (fun i hi hS => ?_) ?_ (by rw [hsetB]; exact hr.2)
    · rw [hnd.mem_erase_iff, hun, hset2]
      exact ⟨fun h => ⟨h.2.1, h.1, h.2.2⟩, fun h => ⟨h.2.1, h.1, h.2.2⟩⟩
    · by_cases hij : i = j
      · subst hij; rw [if_pos rfl]; exact hDv
      · rw [if_neg hij]
        exact hst _ _ _ _ (hD i hi (((hset i).1 hS).resolve_left hij)) hr.1
    · intro i q hi hq hS i2 hi2
      by_cases hij : i = j
      · subst hij
        obtain rfl : o = q := Option.some.inj (ho.symm.trans hq)
        exact ⟨hlt i2 hi2, (hset i2).2 (.inr (hdeps i2 hi2))⟩
      · obtain ⟨h1, h2⟩ := hdown i q hi hq (((hset i).1 hS).resolve_left hij) i2 hi2
        exact ⟨h1, (hset i2).2 (.inr h2)⟩

/-- THE LAW, in its third form. -/
theorem wp_region_inv {id : Nat} {a : Act} {w : World} {l : List Oper} (n s : Nat) (R : World → World → Prop) (ks : List Nat) (I : List Bool → World → Prop) (hm : P.follows .mixedOrders = true) (hB : relB l.toArray n = true) (hS : sizeB l.toArray n s = true) (hs : a.tmps.size = s) (hG : guardB l.toArray n = true)
    (Ds : List (Yld R)) (hD : Ds.length = n) (h0 : I (ks.map fun _ => false) w.drew) (h : ∀ vs, RegHeadI P l.toArray R I ks a n Ds vs l Ds 0)
    (ht : ∀ vs w', I (ks.map fun i => decide (i < n)) w' → allOf (fun i w => ((Ds[i]?).getD (Yld.is undef)).p (vs i) w) w' (List.range n) → wpList P l.toArray Q (l.drop n) (acts l.toArray (valAt Ds vs) a n) w') : (Code.region id l.toArray true).wp P Q a w := by
  have hB' := hB
  simp only [relB, Bool.and_eq_true, decide_eq_true_eq] at hB'
  obtain ⟨⟨⟨⟨⟨⟨hsel, hn⟩, _⟩, _⟩, hpl⟩, hself⟩, _⟩ := hB'
  subst hs
  refine wp_region_any hm ?_
  have hDs : ∀ k, k < n → ∃ D, Ds[k]? = some D := fun k hk => ⟨Ds[k]'(by omega), List.getElem?_eq_getElem (by omega)⟩
  have key := inv_any (P := P) (Q := Q) (ops := l.toArray) (D := fun k => ((Ds[k]?).getD (Yld.is undef)).p) (a0 := a) (J := fun S w => I (ks.map S) w) hB (fun k v w w' h1 h2 => ((Ds[k]?).getD (Yld.is undef)).st v w w' h1 h2)
    (fun k o vs w' S hk ho hdown hSk hSd hI hdeps => by
      obtain ⟨D, hDk⟩ := hDs k hk
      obtain ⟨o', ho', hh⟩ := regI_head (h vs) k D hDk
      obtain rfl : o = o' := Option.some.inj (ho.symm.trans (by simpa using ho'))
      rw [Nat.zero_add] at hh
      have hh := hh S w' hdown hSk hSd hI (allOf_iff.2 hdeps)
      obtain ⟨o2, ho2, hgu, hlt, hoth⟩ := plain_spec hpl hk
      obtain rfl : o = o2 := Option.some.inj (ho.symm.trans ho2)
      have hrep := rep_acts a vs hpl k (by omega)
      have hval : ∀ j ∈ depsOf o, valAt Ds vs j = vs j := fun j hj => by
        have hjn : j < n := by have := hlt j hj; omega
        obtain ⟨Dj, hDj⟩ := hDs j hjn
        have := hdeps j hj
        simp only [hDj, Option.getD_some] at this
        simp only [valAt, hDj]
        exact Dj.value_eq _ _ this
      have hslot : ∀ j q d, j ∈ depsOf o → l.toArray[j]? = some q → q.dst = some d → (acts l.toArray vs a k).tmps[d]? = some (vs j) := fun j q d hj hq hd => by
        have hjk := hlt j hj
        have h1 := hrep.val j q d (by omega) hq hd (by simpa using hjk)
        have h2 := size_spec hS (show j < n by omega) hq hd
        rw [h1, Array.getElem?_setIfInBounds_self, if_pos h2]
      have he : execOp (acts l.toArray vs a k).eval o = execOp (lookD l.toArray Ds vs a n) o := execOp_congr o (Region.noSelect_spec hsel k o · · ho) fun x hx => by
        cases x with
        | tmp t =>
          have ht : t ∈ tmpsOf o := List.mem_filterMap.2 ⟨.tmp t, by simpa using hx, rfl⟩
          show (acts l.toArray vs a k).tmps.getD t undef = match writer l.toArray t n with
            | some j => valAt Ds vs j
            | none => a.tmps.getD t undef
          cases hwr : writer l.toArray t n with
          | some j =>
            obtain ⟨hjn, q, hq, hqt⟩ := writer_some hwr
            have hjk : j ≠ k := fun e => by
              subst e
              obtain rfl : o = q := Option.some.inj (ho.symm.trans hq)
              exact self_spec hself hk ho t ht hqt
            obtain ⟨q', hq', _, hdep⟩ := hoth j hjn hjk
            obtain rfl : q = q' := Option.some.inj (hq.symm.trans hq')
            have hjd := hdep t ht hqt
            have h1 := hslot j q t hjd hq hqt
            show _ = valAt Ds vs j
            rw [hval j hjd]
            simp [h1]
          | none =>
            have h1 := hrep.other t fun j q hj hq _ => writer_none hwr j q (by omega) hq
            show _ = a.tmps.getD t undef
            simp [h1]
        | _ => rfl
      have hwn : Region.wanted o (yielded l.toArray (acts l.toArray vs a k).tmps) = Region.wanted o (yieldD Ds vs) := by
        unfold Region.wanted
        cases hgd : o.guard with
        | none => rfl
        | some gb =>
          obtain ⟨g, b⟩ := gb
          have hgm := hgu g b hgd
          obtain ⟨q, d, hq, hd⟩ := guard_spec hG hk ho hgd
          have h1 := hslot g q d hgm hq hd
          have : yielded l.toArray (acts l.toArray vs a k).tmps g = yieldD Ds vs g := by
            simp only [yielded, hq, yieldD, hval g hgm, Option.bind_some, hd, h1]
            cases vs g <;> rfl
          simp only [this]
      have hrel := relOp_of_atI (ops := l.toArray) he hwn hh
      simp only [hDk, Option.getD_some]
      exact hrel)
    (fun vs w' hI hDv => by
      have h1 := ht vs w' hI (allOf_iff.2 fun i hi => hDv i (List.mem_range.1 hi))
      have h2 : acts l.toArray (valAt Ds vs) a n = acts l.toArray vs a n := by
        have : ∀ k, k ≤ n → acts l.toArray (valAt Ds vs) a k = acts l.toArray vs a k := by
          intro k
          induction k with
          | zero => intro _; rfl
          | succ k ih =>
            intro hk
            obtain ⟨D, hDk⟩ := hDs k (by omega)
            have h3 := hDv k (by omega)
            simp only [hDk, Option.getD_some] at h3
            have h4 : valAt Ds vs k = vs k := by
              simp only [valAt, hDk]
              exact D.value_eq _ _ h3
            simp only [acts, ih (by omega), h4]
        exact this n (Nat.le_refl _)
      rw [h2] at h1
      simpa using h1)
    n (List.range n) (Array.replicate l.toArray.size false) (fun _ => undef) a w.drew (by simp) List.nodup_range
    (fun i => by
      rw [List.mem_range]
      exact ⟨fun hi => ⟨hi, getD_in (by simp at hn ⊢; omega) (getD_replicate_false _ _)⟩, fun hi => hi.1⟩)
    ⟨by simp, fun j oj _ hl => (by rw [getD_replicate_false] at hl; cases hl), fun t _ ht => getD_in (by simpa using ht) (getD_replicate_false _ _)⟩
    ⟨rfl, rfl, fun _ _ => rfl, fun k o d _ _ _ hS => (by rw [getD_replicate_false] at hS; cases hS)⟩ (fun i _ hS => (by rw [getD_replicate_false] at hS; cases hS))
    (fun j q _ _ hS => (by have hS : (Array.replicate l.toArray.size false).getD j false = true := hS; rw [getD_replicate_false] at hS; cases hS)) (by
      have : (fun i => (Array.replicate l.toArray.size false).getD i false) = fun _ => false := by
        funext i; exact getD_replicate_false _ _
      rw [this]; exact h0)
  rw [show n + (l.toArray.size - n) = l.toArray.size by simp at hn ⊢; omega] at key
  exact key

theorem relAtI.value {R' : World → World → Prop} {p : Value → World → Prop} {u : Value} {o : Oper} {E : Operand → Value} {y : Nat → Option Bool} {w w' : World} (hw : Region.wanted o y = true) (hr : (execOp E o).run P w = .ok (.value u) w') (hR : R' w w') (hD : p u w') : relAtI P R' p o E y w := by
  unfold relAtI
  rw [if_pos hw, hr]
  exact ⟨hR, hD⟩
theorem relAtI.valueS {R' : World → World → Prop} {p : Value → World → Prop} {u : Value} {o : Oper} {E : Operand → Value} {y : Nat → Option Bool} {w w' : World} {s : Sem Value} (hw : Region.wanted o y = true) (he : execOp E o = valS s) (hr : s.run P w = .ok u w') (hR : R' w w') (hD : p u w') : relAtI P R' p o E y w :=
  relAtI.value hw (by rw [he]; exact run_valS hr) hR hD
theorem relAtI.pure {R' : World → World → Prop} {u : Value} {o : Oper} {E : Operand → Value} {y : Nat → Option Bool} {w : World} (hR : R' w w) (hw : Region.wanted o y = true) (hr : (execOp E o).run P w = .ok (.value u) w) : relAtI P R' (Yld.is (R := R) u).p o E y w :=
  relAtI.value hw hr hR rfl
theorem relAtI.pureS {R' : World → World → Prop} {u : Value} {o : Oper} {E : Operand → Value} {y : Nat → Option Bool} {w : World} {s : Sem Value} (hR : R' w w) (hw : Region.wanted o y = true) (he : execOp E o = valS s) (hr : s.run P w = .ok u w) : relAtI P R' (Yld.is (R := R) u).p o E y w :=
  relAtI.valueS hw he hr hR rfl
theorem relAtI.skip {R' : World → World → Prop} {o : Oper} {E : Operand → Value} {y : Nat → Option Bool} {w : World} (hR : R' w w) (hw : Region.wanted o y = false) : relAtI P R' (Yld.is (R := R) undef).p o E y w := by
  unfold relAtI
  rw [if_neg (by rw [hw]; decide)]
  exact ⟨hR, rfl⟩
/-- An operation that only acts. -/
def actS (s : Sem Unit) : Sem Next := do s; pure .skip
theorem relAtI.act {R' : World → World → Prop} {p : Value → World → Prop} {o : Oper} {E : Operand → Value} {y : Nat → Option Bool} {w w' : World} {s : Sem Unit} (hw : Region.wanted o y = true) (he : execOp E o = actS s) (hr : s.run P w = .ok () w') (hR : R' w w') (hD : p undef w') : relAtI P R' p o E y w := by
  unfold relAtI
  rw [if_pos hw, he]
  have : (actS s).run P w = .ok .skip w' := by simp [actS, hr]
  rw [this]
  exact ⟨hR, hD⟩
theorem relAtI.call {R' : World → World → Prop} {p : Value → World → Prop} {f : FuncId} {args : Array Value} {o : Oper} {E : Operand → Value} {y : Nat → Option Bool} {w : World} (hw : Region.wanted o y = true) (hr : (execOp E o).run P w = .ok (.enter f args) w) (h : Calls P f args w fun e w' => ∃ v, e = .returned v ∧ R' w w' ∧ p v w') : relAtI P R' p o E y w := by
  unfold relAtI
  rw [if_pos hw, hr]
  exact h
end
end Go.Proofs.YtpdhgijeanbmcaaGreatDoor

/- Mid -/
namespace Go.Proofs.YtpdhgijeanbmcaaGreatDoor
set_option maxRecDepth 100000
open Go.RowKit Go.Great

def setMany (cs : List Value) (o : Nat) : List Value → List Value
  | [] => cs
  | v :: r => setMany (cs.set o v) (o + 1) r
theorem setMany_mid (post : List Value) : ∀ (vs mid pre : List Value), mid.length = vs.length → setMany (pre ++ (mid ++ post)) pre.length vs = pre ++ (vs ++ post)
  | [], mid, pre, h => by
    obtain rfl : mid = [] := List.eq_nil_of_length_eq_zero h
    rfl
  | v :: r, [], pre, h => by simp at h
  | v :: r, m :: mid, pre, h => by
    have ih := setMany_mid post r mid (pre ++ [v]) (by simpa using h)
    unfold setMany
    have e : (pre ++ (m :: mid ++ post)).set pre.length v = pre ++ [v] ++ (mid ++ post) := by simp
    rw [e]
    have e2 : (pre ++ [v]).length = pre.length + 1 := by simp
    rw [e2] at ih
    rw [ih]
    simp
theorem setMany_sums (L : List (List UInt8)) (h : ∀ x ∈ L, x.length = 32) (j : Nat) (hj : j < L.length) (x : List UInt8) (hx : x.length = 32) : setMany (sumCells L) (j * 32) (x.map V8) = sumCells (L.set j x) := by
  have e : L = L.take j ++ (L[j] :: L.drop (j + 1)) := by rw [← List.drop_eq_getElem_cons hj]; simp
  have hl : (sumCells (L.take j)).length = j * 32 := by
    rw [sumCells_length _ fun x hx => h x (List.mem_of_mem_take hx)]; simp; omega
  have e2 : sumCells L = sumCells (L.take j) ++ (L[j].map V8 ++ sumCells (L.drop (j + 1))) := by
    rw [← sumCells_cons, ← sumCells_append, ← e]
  rw [e2, ← hl, setMany_mid _ _ _ _ (by simp [hx, h L[j] (by simp)]), List.set_eq_take_append_cons_drop, if_pos hj, sumCells_append, sumCells_cons]
theorem Acc.setCells {e size : Nat} {w0 : World} {base g C n : Nat} : ∀ (vs : List Value) (o : Nat) (w : World) (cs : List Value), Acc e size w0 w base (some ⟨g, 0, none⟩) C n cs →
    Acc e size w0 (w.setCells g o vs) base (some ⟨g, 0, none⟩) C n (setMany cs o vs) ∧ w.grownBy (w.setCells g o vs) (some g)
  | [], o, w, cs, h => ⟨h, World.grownBy.refl _ _⟩
  | v :: r, o, w, cs, h => by
    obtain ⟨h1, h2⟩ := h.set ⟨g, 0, none⟩ rfl o v
    obtain ⟨h3, h4⟩ := Acc.setCells r (o + 1) _ _ h1
    exact ⟨h3, World.grownBy.trans h2 h4⟩
theorem Acc.there {e size : Nat} {w0 w : World} {base g C n : Nat} {cs : List Value} (h : Acc e size w0 w base (some ⟨g, 0, none⟩) C n cs) (o k : Nat) (hk : o + k ≤ n * size) : w.there g o k := fun j hj => by
  refine ⟨?_, h.frozen ⟨g, 0, none⟩ rfl (o + j)⟩
  rcases h.form with ⟨hn, _⟩ | ⟨g', cur, hg, hb, hs, hh, h1, h2, h3, h4⟩
  · cases hn
  · obtain ⟨rfl⟩ := hg
    rw [cell_of_row _ _ _ _ _ _ hh]
    have : n * size ≤ C * size := Nat.mul_le_mul_right _ h1
    rw [Array.getElem?_eq_getElem (by omega)]
    rfl
/-- An element of the call's own slice. -/
theorem acc_range {w w0 : World} {base g C n : Nat} {L : List (List UInt8)} (h : Acc 34 32 w0 w base (some ⟨g, 0, none⟩) C n (sumCells L)) (hL : ∀ x ∈ L, x.length = 32) (hn : n = L.length) (j : Nat) (x : List UInt8) (hj : L[j]? = some x) : w.rangeAt g (0 + j * 32) (x.map V8) := by
  obtain ⟨hlt, rfl⟩ := List.getElem?_eq_some_iff.1 hj
  obtain ⟨b, o, ha, hc⟩ := h.at_.at_ (by rw [sumCells_length L hL]; omega)
  obtain ⟨rfl, rfl⟩ : b = g ∧ o = 0 := by
    have := Option.some.inj ha
    injection this with h1 h2 _
    exact ⟨h1.symm, h2.symm⟩
  intro i v hv
  rw [Nat.add_assoc]
  exact hc _ v (sumCells_at L hL j hlt i v hv)
/-- A sum is stored into a slice of the call's own. -/
theorem run_store_sum_own (w : World) {w0 : World} {base g C n : Nat} {L : List (List UInt8)} (h : Acc 34 32 w0 w base (some ⟨g, 0, none⟩) C n (sumCells L)) (hL : ∀ x ∈ L, x.length = 32) (hn : n = L.length) (j : Nat) (hj : j < n) (x : List UInt8) (hx : x.length = 32) :
    (Instr.storeAt 34 (.pointer (some ⟨g, 0 + j * 32, none⟩)) (sumV x)).run Tryz.prog w = .ok () (w.setCells g (0 + j * 32) (x.map V8)) ∧
      Acc 34 32 w0 (w.setCells g (0 + j * 32) (x.map V8)) base (some ⟨g, 0, none⟩) C n (sumCells (L.set j x)) ∧ w.grownBy (w.setCells g (0 + j * 32) (x.map V8)) (some g) := by
  have h1 := run_storeAt_mid (P := Tryz.prog) w g (0 + j * 32) 34 (x.map V8).toArray (h.there _ _ (by simp [hx]; omega)) (size_sum x hx) (by simpa using oneCells x)
  rw [show (x.map V8).toArray.toList = x.map V8 by simp] at h1
  refine ⟨h1, ?_⟩
  have h2 := Acc.setCells (x.map V8) (0 + j * 32) w _ h
  rw [Nat.zero_add] at h2 ⊢
  rw [setMany_sums L hL j (by omega) x hx] at h2
  exact h2
theorem wpList_store_own {ops : Array Oper} {rest : List Oper} {o : Oper} {a : Act} {w : World} {Q : Exit → Act → World → Prop} (hgd : o.guard = none) (x y : Operand) (ho : o.op = .store 34 x y) {w0 : World} {base g C n : Nat} {L : List (List UInt8)}
    (h : Acc 34 32 w0 w base (some ⟨g, 0, none⟩) C n (sumCells L)) (hL : ∀ x ∈ L, x.length = 32) (hn : n = L.length) (j : Nat) (hj : j < n) (s : List UInt8) (hs : s.length = 32) (hx : a.eval x = .pointer (some ⟨g, j * 32, none⟩)) (hy : a.eval y = sumV s)
    (hk : ∀ w', Acc 34 32 w0 w' base (some ⟨g, 0, none⟩) C n (sumCells (L.set j s)) → w.grownBy w' (some g) → wpList Tryz.prog ops Q rest (a.put o.dst undef) w') : wpList Tryz.prog ops Q (o :: rest) a w := by
  obtain ⟨h1, h2, h3⟩ := run_store_sum_own w h hL hn j hj s hs
  refine wpList_store_mid hgd 34 x y ho g (j * 32) (s.map V8).toArray hx hy (h.there _ _ (by simp [hs]; omega)) (size_sum s hs) (by simpa using oneCells s) ?_
  rw [show (s.map V8).toArray.toList = s.map V8 by simp]
  rw [Nat.zero_add] at h2 h3
  exact hk _ h2 h3
end Go.Proofs.YtpdhgijeanbmcaaGreatDoor

/- Rev -/
namespace Go.Proofs.YtpdhgijeanbmcaaGreatDoor
set_option maxRecDepth 100000
open Go.RowKit Go.Great

/-- The first k and the last k have changed places. -/
def RevAt (M N : List (List UInt8)) (k : Nat) : Prop := N.length = M.length ∧ ∀ i, i < M.length → N[i]? = if i < k ∨ M.length ≤ i + k then M[M.length - 1 - i]? else M[i]?
theorem RevAt.start (M : List (List UInt8)) : RevAt M M 0 := ⟨rfl, fun i hi => by rw [if_neg (by omega)]⟩
theorem RevAt.next {M N : List (List UInt8)} {k m : Nat} (h : RevAt M N k) (hm : k + m + 1 = M.length) (hkm : k < m) {x y : List UInt8} (hx : N[m]? = some x) (hy : N[k]? = some y) : RevAt M ((N.set k x).set m y) (k + 1) := by
  obtain ⟨h1, h2⟩ := h
  refine ⟨by simp [h1], fun i hi => ?_⟩
  by_cases him : i = m
  · subst him
    rw [List.getElem?_set_self (by simp; omega), ← hy, h2 k (by omega), if_neg (by omega), if_pos (by omega), show M.length - 1 - i = k by omega]
  · rw [List.getElem?_set_ne (by omega)]
    by_cases hik : i = k
    · subst hik
      rw [List.getElem?_set_self (by omega), ← hx, h2 m (by omega), if_neg (by omega), if_pos (by omega), show M.length - 1 - i = m by omega]
    · rw [List.getElem?_set_ne (by omega), h2 i hi]
      by_cases hc : i < k ∨ M.length ≤ i + k
      · rw [if_pos hc, if_pos (by omega)]
      · rw [if_neg hc, if_neg (by omega)]
theorem RevAt.done {M N : List (List UInt8)} {k : Nat} (h : RevAt M N k) (hk : M.length ≤ k + k + 1) : N = M.reverse := by
  obtain ⟨h1, h2⟩ := h
  apply List.ext_getElem?
  intro i
  by_cases hi : i < M.length
  · rw [h2 i hi, List.getElem?_reverse hi]
    by_cases hc : i < k ∨ M.length ≤ i + k
    · rw [if_pos hc]
    · rw [if_neg hc, show M.length - 1 - i = i by omega]
  · rw [List.getElem?_eq_none (by omega), List.getElem?_eq_none (by simp; omega)]
theorem RevAt.each {M N : List (List UInt8)} {k : Nat} (h : RevAt M N k) (hM : ∀ x ∈ M, x.length = 32) : ∀ x ∈ N, x.length = 32 := by
  obtain ⟨h1, h2⟩ := h
  intro x hx
  obtain ⟨i, hi, rfl⟩ := List.mem_iff_getElem.1 hx
  have h3 := h2 i (by omega)
  rw [List.getElem?_eq_getElem hi] at h3
  split at h3 <;> exact hM _ (List.mem_of_getElem? h3.symm)

def revI (w0 : World) (base g C n : Nat) (N : List (List UInt8)) (k : Nat) (x : List UInt8) : List Bool → World → Prop
  | [true], w => Acc 34 32 w0 w base (some ⟨g, 0, none⟩) C n (sumCells (N.set k x))
  | _, w => Acc 34 32 w0 w base (some ⟨g, 0, none⟩) C n (sumCells N)

set_option maxRecDepth 100000 in
set_option maxHeartbeats 4000000 in
theorem rev_any (M : List (List UInt8)) (w0 w : World) (base : Nat) (B : Option Addr) (n C : Nat) (hnl : n = M.length) (hn : n < 4611686018427387904) (hM : ∀ x ∈ M, x.length = 32) (H : Acc 34 32 w0 w base B C n (sumCells M)) :
    Calls Tryz.prog 29 #[.slice B n C] w fun e w' => e = .returned (.tuple #[]) ∧ Acc 34 32 w0 w' base B C n (sumCells M.reverse) := by
  have HH := Lib.hid H
  have Hnl := Lib.hid hnl
  have HM := Lib.hid hM
  clear H hnl hM
  go_enter Tryz.func29, Tryz.ntmps29
  go_wp2
  go_loopw [2, 3] (fun i j wr => ∃ (k : Nat) (jz : Int) (N : List (List UInt8)), i = .int .i64 k ∧ j = .int .i64 jz ∧ Hid (jz = (n : Int) - 1 - k ∧ k ≤ n ∧ RevAt M N k) ∧ Acc 34 32 w0 wr base B C n (sumCells N)) (fun i _ _ => n - (intOf i).toNat)
  case atStart => exact ⟨0, (n : Int) - 1, M, rfl, rfl, Lib.hid ⟨by omega, by omega, RevAt.start M⟩, HH.out⟩
  case round =>
    clear HH
    obtain ⟨k, jz, N, rfl, rfl, hrv, hA⟩ := hrel
    have HA := Lib.hid hA
    clear hA
    by_cases hlt : (k : Int) < jz
    · obtain ⟨m, hm⟩ : ∃ m : Nat, jz = (m : Int) := ⟨jz.toNat, by omega⟩
      subst hm
      have hkm : k < m := by omega
      have hmn : k + m + 1 = n := by have := hrv.out.1; omega
      have hNl : N.length = n := by rw [Hnl.out]; exact hrv.out.2.2.1
      have hEach := hrv.out.2.2.each HM.out
      obtain ⟨x, hx, hxm⟩ : ∃ x, N[m]? = some x ∧ x ∈ N := ⟨N[m]'(by omega), List.getElem?_eq_getElem (by omega), by simp⟩
      obtain ⟨y, hy, hym⟩ : ∃ y, N[k]? = some y ∧ y ∈ N := ⟨N[k]'(by omega), List.getElem?_eq_getElem (by omega), by simp⟩
      have Hx := Lib.hid hx
      have Hy := Lib.hid hy
      have HX := Lib.hid (hEach x hxm)
      have HY := Lib.hid (hEach y hym)
      have HE := Lib.hid hEach
      have HNl := Lib.hid hNl
      have Hmn := Lib.hid hmn
      have hBg : ∃ g, B = some ⟨g, 0, none⟩ := by
        rcases HA.out.form with ⟨_, h0, _⟩ | ⟨g, _, hg, _⟩
        · omega
        · exact ⟨g, hg⟩
      obtain ⟨g, rfl⟩ := hBg
      have hki0 : (0 : Int) ≤ (k : Int) := by omega
      have hmn1 : m < n := by omega
      have hkn1 : k < n := by omega
      clear hx hy hxm hym hEach hNl hmn
      go_wp2
      refine wp_region_inv 14 28 (fun _ _ => True) [13] (revI w0 base g C n N k x) (by kernel_rfl) (by kernel_rfl) (by kernel_rfl) (by kernel_rfl) (by kernel_rfl) [.is (.slice (some ⟨g, 0, none⟩) n C : Value), .is (.int .i64 k : Value), .is (.slice (some ⟨g, 0, none⟩) n C : Value), .is (.int .i64 m : Value), .is (.slice (some ⟨g, 0, none⟩) n C : Value), .is (.int .i64 m : Value), .is (.pointer (some ⟨g, 0 + m * 32, none⟩) : Value), .is (sumV x), .is (.slice (some ⟨g, 0, none⟩) n C : Value), .is (.int .i64 k : Value), .is (.pointer (some ⟨g, 0 + k * 32, none⟩) : Value), .is (sumV y), .is (.pointer (some ⟨g, 0 + k * 32, none⟩) : Value), .is undef] rfl (HA.out.drew) (fun vs => ?_) (fun vs wr hI h => ?_)
      · refine RegHeadI.cons (fun S wr hd hSk hSd hI h => ?_) ?_
        · exact relAtI.pure ⟨trivial, keepI (by decide) hI⟩ (by kernel_rfl) (by kernel_rfl)
        refine RegHeadI.cons (fun S wr hd hSk hSd hI h => ?_) ?_
        · exact relAtI.pure ⟨trivial, keepI (by decide) hI⟩ (by kernel_rfl) (by kernel_rfl)
        refine RegHeadI.cons (fun S wr hd hSk hSd hI h => ?_) ?_
        · exact relAtI.pure ⟨trivial, keepI (by decide) hI⟩ (by kernel_rfl) (by kernel_rfl)
        refine RegHeadI.cons (fun S wr hd hSk hSd hI h => ?_) ?_
        · exact relAtI.pure ⟨trivial, keepI (by decide) hI⟩ (by kernel_rfl) (by kernel_rfl)
        refine RegHeadI.cons (fun S wr hd hSk hSd hI h => ?_) ?_
        · exact relAtI.pure ⟨trivial, keepI (by decide) hI⟩ (by kernel_rfl) (by kernel_rfl)
        refine RegHeadI.cons (fun S wr hd hSk hSd hI h => ?_) ?_
        · exact relAtI.pure ⟨trivial, keepI (by decide) hI⟩ (by kernel_rfl) (by kernel_rfl)
        refine RegHeadI.cons (fun S wr hd hSk hSd hI h => ?_) ?_
        · exact relAtI.pureS ⟨trivial, keepI (by decide) hI⟩ (by kernel_rfl) (by kernel_rfl) (run_sums_index wr g 0 n C m hmn1)
        refine RegHeadI.cons (fun S wr hd hSk hSd hI h => ?_) ?_
        · have h13 : S 13 = false := hd.not 14 hSk (by decide) (by decide)
          have hI2 : Acc 34 32 w0 wr base (some ⟨g, 0, none⟩) C n (sumCells N) := by have hI := hI; simp only [List.map, h13] at hI; exact hI
          exact relAtI.pureS ⟨trivial, keepI (by decide) hI⟩ (by kernel_rfl) (by kernel_rfl) (run_load_at_sum wr g (0 + m * 32) x (acc_range hI2 HE.out HNl.out.symm m x Hx.out) HX.out)
        refine RegHeadI.cons (fun S wr hd hSk hSd hI h => ?_) ?_
        · exact relAtI.pure ⟨trivial, keepI (by decide) hI⟩ (by kernel_rfl) (by kernel_rfl)
        refine RegHeadI.cons (fun S wr hd hSk hSd hI h => ?_) ?_
        · exact relAtI.pure ⟨trivial, keepI (by decide) hI⟩ (by kernel_rfl) (by kernel_rfl)
        refine RegHeadI.cons (fun S wr hd hSk hSd hI h => ?_) ?_
        · exact relAtI.pureS ⟨trivial, keepI (by decide) hI⟩ (by kernel_rfl) (by kernel_rfl) (run_sums_index wr g 0 n C k hkn1)
        refine RegHeadI.cons (fun S wr hd hSk hSd hI h => ?_) ?_
        · have h13 : S 13 = false := hd.not 14 hSk (by decide) (by decide)
          have hI2 : Acc 34 32 w0 wr base (some ⟨g, 0, none⟩) C n (sumCells N) := by have hI := hI; simp only [List.map, h13] at hI; exact hI
          exact relAtI.pureS ⟨trivial, keepI (by decide) hI⟩ (by kernel_rfl) (by kernel_rfl) (run_load_at_sum wr g (0 + k * 32) y (acc_range hI2 HE.out HNl.out.symm k y Hy.out) HY.out)
        refine RegHeadI.cons (fun S wr hd hSk hSd hI h => ?_) ?_
        · exact relAtI.pureS ⟨trivial, keepI (by decide) hI⟩ (by kernel_rfl) (by kernel_rfl) (run_sums_index wr g 0 n C k hkn1)
        refine RegHeadI.cons (fun S wr hd hSk hSd hI h => ?_) ?_
        · have h13 : S 13 = false := hSk
          have hI2 : Acc 34 32 w0 wr base (some ⟨g, 0, none⟩) C n (sumCells N) := by have hI := hI; simp only [List.map, h13] at hI; exact hI
          obtain ⟨hs1, hs2, hs3⟩ := run_store_sum_own wr hI2 HE.out HNl.out.symm k hkn1 x HX.out
          exact relAtI.act (by kernel_rfl) (by kernel_rfl) hs1 ⟨trivial, by simp only [List.map, setB, if_true]; exact hs2⟩ rfl
        exact trivial
      · have hI2 : Acc 34 32 w0 wr base (some ⟨g, 0, none⟩) C n (sumCells (N.set k x)) := hI
        have HI2 := Lib.hid hI2
        clear h hI hI2
        refine wp_frame (new := [(.slice (some ⟨g, 0, none⟩) n C : Value), (.int .i64 k : Value), (.slice (some ⟨g, 0, none⟩) n C : Value), (.int .i64 m : Value), (.slice (some ⟨g, 0, none⟩) n C : Value), (.int .i64 m : Value), (.pointer (some ⟨g, 0 + m * 32, none⟩) : Value), (sumV x), (.slice (some ⟨g, 0, none⟩) n C : Value), (.int .i64 k : Value), (.pointer (some ⟨g, 0 + k * 32, none⟩) : Value), (sumV y), (.pointer (some ⟨g, 0 + k * 32, none⟩) : Value)]) 14 27 (by kernel_rfl) ?_
        simp only [List.take, List.drop, List.cons_append, List.nil_append]
        have hNs : ∀ z ∈ N.set k x, z.length = 32 := fun z hz => by
          rcases List.mem_or_eq_of_mem_set hz with hz | rfl
          · exact HE.out z hz
          · exact HX.out
        have HNs := Lib.hid hNs
        clear hNs
        have hmn2 : (m : Int) < (n : Int) := by omega
        have hmi0 : (0 : Int) ≤ (m : Int) := by omega
        go_wp2_with (refine wpList_store_own rfl _ _ rfl HI2.out HNs.out (by simp [HNl.out]) m hmn1 y HY.out rfl rfl ?_; intro w9 hacc9 hg9; have HA9 := Lib.hid hacc9; clear hacc9 hg9)
        go_roundw
        case rel =>
          refine ⟨k + 1, (m : Int) - 1, (N.set k x).set m y, by go_num, rfl, Lib.hid ⟨?_, by omega, ?_⟩, ?_⟩
          · have := Hmn.out; omega
          · exact hrv.out.2.2.next (by rw [← Hnl.out]; exact Hmn.out) hkm Hx.out Hy.out
          · exact HA9.out
        case measure => simp [intOf]; omega
    · go_wp2
      go_end0
      refine ⟨rfl, ?_⟩
      have hN : N = M.reverse := hrv.out.2.2.done (by have := hrv.out.1; have := Hnl.out; omega)
      rw [← hN]
      exact HA.out
end Go.Proofs.YtpdhgijeanbmcaaGreatDoor

/- Mac -/
namespace Go.Proofs.YtpdhgijeanbmcaaGreatDoor
set_option maxRecDepth 100000
namespace Sha
theorem sum_length (l : List UInt8) : (sum l).length = 32 := rfl
def key (k : List UInt8) : List UInt8 := if 64 < k.length then sum k else k
theorem key_le (k : List UInt8) : (key k).length ≤ 64 := by
  unfold key
  split
  · rw [sum_length]; decide
  · omega
def kpad (k : List UInt8) : List UInt8 := key k ++ List.replicate (64 - (key k).length) 0
theorem kpad_len (k : List UInt8) : (kpad k).length = 64 := by
  have := key_le k
  simp [kpad]; omega
def xin (k : List UInt8) : List UInt8 := (kpad k).map (· ^^^ 0x36)
def xout (k : List UInt8) : List UInt8 := (kpad k).map (· ^^^ 0x5c)
def mac (k m : List UInt8) : List UInt8 := sum (xout k ++ sum (xin k ++ m))
theorem mac_len (k m : List UInt8) : (mac k m).length = 32 := rfl
def xors (a b : List UInt8) : List UInt8 := List.zipWith (· ^^^ ·) a b
theorem xors_len (a b : List UInt8) (ha : a.length = 32) (hb : b.length = 32) : (xors a b).length = 32 := by simp [xors, ha, hb]
def numb (i : Nat) : List UInt8 := [0, 0, UInt8.ofNat (i / 256), UInt8.ofNat (i % 256)]
/-- The r-th u, and the sum of those up to it. -/
def pu (p s : List UInt8) (i : Nat) : Nat → List UInt8
  | 0 => mac p (s ++ numb i)
  | r + 1 => mac p (pu p s i r)
def pt (p s : List UInt8) (i : Nat) : Nat → List UInt8
  | 0 => pu p s i 0
  | r + 1 => xors (pt p s i r) (pu p s i (r + 1))
theorem pu_len (p s : List UInt8) (i : Nat) : ∀ r, (pu p s i r).length = 32
  | 0 => rfl
  | _ + 1 => rfl
theorem pt_len (p s : List UInt8) (i : Nat) : ∀ r, (pt p s i r).length = 32
  | 0 => rfl
  | r + 1 => xors_len _ _ (pt_len p s i r) (pu_len p s i (r + 1))
/-- The first j parts. -/
def derived (p s : List UInt8) (rounds : Nat) : Nat → List UInt8
  | 0 => []
  | j + 1 => derived p s rounds j ++ pt p s (j + 1) (rounds - 1)
theorem derived_len (p s : List UInt8) (rounds : Nat) : ∀ j, (derived p s rounds j).length = 32 * j
  | 0 => rfl
  | j + 1 => by rw [derived, List.length_append, derived_len p s rounds j, pt_len]; omega
theorem derived_take (p s : List UInt8) (N : Nat) (j : Nat) : ∀ k n, j ≤ k → n ≤ 32 * j → (derived p s N j).take n = (derived p s N k).take n
  | 0, n, h, hn => by obtain rfl : j = 0 := by omega
                      rfl
  | k + 1, n, h, hn => by
    by_cases e : j = k + 1
    · rw [e]
    · rw [derived_take p s N j k n (by omega) hn, derived, List.take_append_of_le_length (by rw [derived_len]; omega)]
end Sha
end Go.Proofs.YtpdhgijeanbmcaaGreatDoor

/- DMac -/
namespace Go.Proofs.YtpdhgijeanbmcaaGreatDoor
set_option maxRecDepth 100000
open Go.RowKit

theorem ofInt8 (x : UInt8) : BitVec.ofInt 8 (x.toNat : Int) = x.toBitVec := by
  rw [BitVec.ofInt_natCast]
  apply BitVec.eq_of_toNat_eq
  simp
theorem wrap8u (x : UInt8) : IntKind.u8.wrap (x.toNat : Int) = x.toNat := by
  have := x.toNat_lt
  simp only [IntKind.wrap_u8]
  omega
@[go_sem] theorem xor_V8 (t : TypeId) (c d : UInt8) : binOp .xor t (V8 c) (V8 d) = pure (V8 (c ^^^ d)) := by
  simp only [V8, binOp_xor, Op.intBits, IntKind.bits, ofInt8]
  show pure (Value.int .u8 (IntKind.u8.wrap ((c ^^^ d).toNat : Int))) = _
  rw [wrap8u]
@[go_sem] theorem xor_V8_54 (t : TypeId) (c : UInt8) : binOp .xor t (V8 c) (.int .u8 54) = pure (V8 (c ^^^ 0x36)) := xor_V8 t c 0x36
@[go_sem] theorem xor_V8_92 (t : TypeId) (c : UInt8) : binOp .xor t (V8 c) (.int .u8 92) = pure (V8 (c ^^^ 0x5c)) := xor_V8 t c 0x5c

theorem index_b64 (K : List UInt8) (hK : K.length = 64) (k : Nat) (h : k < 64) (w : World) : (Instr.index 110 (.agg (K.map V8).toArray) (.int .i64 (k : Int))).run Tryz.prog w = .ok (V8 (K.getD k 0)) w := by
  have h0 : 0 ≤ (k : Int) ∧ (k : Int) < ((64 : Nat) : Int) := by omega
  simp [Instr.index, run_underlying Tryz.underlying110, asIntOf, h0, go_sem]
  have hk : k < K.length := by omega
  simp [h, hk]

theorem wpList_copy_pad {P : Program} {w : World} {ops : Array Oper} {rs : List Oper} {o : Oper} {a : Act} {Q : Exit → Act → World → Prop} (hgd : o.guard = none) (d s : Operand) (dT sT : TypeId)
    (ho : o.op = .call { callee := .builtin .copy, args := #[d, s], argTypes := #[dT, sT] }) (elem : TypeId) (hu : P.underlying dT = some (.slice elem)) (hsz : (P.info? elem).map (·.size) = some 1)
    (g m c : Nat) (A : Option Addr) (hd : a.eval d = .slice (some ⟨g, 0, none⟩) 64 64) (hs : a.eval s = .slice A m c)
    (t : TypeId) (hg : w.heap[g]? = some (.cells (zeros8 64) t (0, 0))) (l : List UInt8) (hm : m = l.length) (hl : l.length ≤ 64) (hsrc : BytesAt w A l)
    (h : ∀ w', w'.heap[g]? = some (.cells ((l ++ List.replicate (64 - l.length) 0).map V8).toArray t (0, 0)) → w.grownBy w' (some g) →
      wpList P ops Q rs (a.put o.dst (.int .i64 (l.length : Int))) w') : wpList P ops Q (o :: rs) a w := by
  by_cases h0 : l = []
  · subst h0
    obtain rfl : m = 0 := hm
    refine wpList_copy_nothing hgd d s dT sT ho elem hu hsz _ _ 64 64 0 c hd hs rfl ?_
    have := h w (by simpa [zeros8] using hg) (World.grownBy.refl _ _)
    simpa [goInt] using this
  · obtain ⟨b, o', rfl, hc⟩ := hsrc.at_ (List.length_pos_iff.2 h0)
    refine wpList_copy_own hgd d s dT sT ho elem hu hsz g 0 64 64 ⟨b, o', none⟩ m c hd hs _ t hg (l.map V8) (by rw [List.length_map, hm]; exact (Nat.min_eq_left hl).symm) ?_ (by simp [zeros8_size]; omega) (by simp [V8, Value.oneCell']) ?_
    · intro j v hv
      have hj : j < l.length := by
        have := (List.getElem?_eq_some_iff.1 hv).1
        simpa using this
      rw [Addr.add_lit, hc j hj, ← hv]
      simp [byteF, List.getD, List.getElem?_eq_getElem hj]
    · have := h (w.setRow g ((zeros8 64).toList.take 0 ++ ((l.map V8) ++ (zeros8 64).toList.drop (0 + (l.map V8).length))).toArray) ?_ (grownBy_setRow _ _ _)
      · simpa [goInt] using this
      · rw [setRow_heap _ _ _ _ _ _ hg]
        rw [show (zeros8 64).toList = List.replicate 64 (V8 0) from rfl, List.take_zero, List.nil_append, List.drop_replicate, Nat.zero_add, List.length_map, List.map_append, List.map_replicate]
theorem HashAt.grown {w w' : World} {b k : Nat} {L : List UInt8} (h : HashAt w b L) (hg : w.grownBy w' (some k)) (hb : b ≠ k) : HashAt w' b L := by
  obtain ⟨A, q, rest, t, hL, h1, h2, h3, h4, h5⟩ := h
  exact ⟨A, q, rest, t, hL, h1, h2, h3, h4, (hg.block b (in_heap h5) (fun e => hb (Option.some.inj e))).trans h5⟩
end Go.Proofs.YtpdhgijeanbmcaaGreatDoor

/- DMacb -/
namespace Go.Proofs.YtpdhgijeanbmcaaGreatDoor
set_option maxRecDepth 100000
open Go.RowKit

theorem kpad_of (key K : List UInt8) (h : K = Sha.key key) : Sha.kpad key = K ++ List.replicate (64 - K.length) 0 := by rw [h]; rfl
theorem cut_next (K : List UInt8) (x : UInt8) (k : Nat) (h : k < K.length) : (K.map (· ^^^ x)).take k ++ [K.getD k 0 ^^^ x] = (K.map (· ^^^ x)).take (k + 1) := by
  rw [List.take_succ_eq_append_getElem (by simpa using h)]
  simp [List.getD, List.getElem?_eq_getElem h]
theorem one_bytes (w : World) (x : UInt8) (t : TypeId) : BytesAt (w.alloc (.cells #[V8 x] t)) (some ⟨w.heap.size, 0, none⟩) [x] :=
  ⟨fun _ => ⟨w.heap.size, 0, rfl, fun j hj => by
    have : j = 0 := by simpa using hj
    subst this
    rw [cell_of_row _ _ _ _ _ _ (heap_alloc_new _ _)]
    rfl⟩⟩

/-- Both sums under way: the inner one has taken A, the outer one B. -/
structure MAt (w : World) (hi ho : Nat) (A B : List UInt8) (wr : World) : Prop where
  inn : HashAt wr hi A
  out : HashAt wr ho B
  low : Below w.heap.size w wr
  res : wr.heap[w.heap.size]? = some (.cells (zeros8 32) 34 (0, 0))
  lt : w.heap.size < hi
  lt2 : w.heap.size < ho
  ne : hi ≠ ho
theorem HashAt.lt {w : World} {b : Nat} {L : List UInt8} (h : HashAt w b L) : b < w.heap.size := by
  obtain ⟨A, q, rest, t, hL, h1, h2, h3, h4, h5⟩ := h
  exact in_heap h5
theorem hsum_is (R : List UInt8) (hb : Nat) (L : List UInt8) (w : World) (hR : R = Sha.sum L) (hT : Tabs w) (H : HashAt w hb L) (hlen : L.length < 1152921504606846976) :
    Calls Tryz.prog 44 #[.pointer (some ⟨hb, 0, none⟩)] w fun e w' => e = .returned (sumV R) ∧ Below w.heap.size w w' := by
  subst hR
  exact hsum_any hb L w hT H hlen
theorem MAt.low_ {w wr w' : World} {hi ho : Nat} {A B : List UInt8} (M : MAt w hi ho A B wr) (h : Below wr.heap.size wr w') : MAt w hi ho A B w' :=
  ⟨M.inn.below h M.inn.lt, M.out.below h M.out.lt, bthen M.low h, bblk h M.res, M.lt, M.lt2, M.ne⟩
theorem MAt.wrote {w wr w' : World} {hi ho : Nat} {A A' B : List UInt8} (M : MAt w hi ho A B wr) (h : HashAt w' hi A') (hg : wr.grownBy w' (some hi)) : MAt w hi ho A' B w' :=
  ⟨h, M.out.grown hg M.ne.symm, M.low.grown hg M.low.size (fun k hk => by obtain rfl := Option.some.inj hk; have := M.lt; omega), (hg.block _ (in_heap M.res) (fun e => by have := Option.some.inj e; have := M.lt; omega)).trans M.res, M.lt, M.lt2, M.ne⟩
theorem MAt.wroteo {w wr w' : World} {hi ho : Nat} {A B B' : List UInt8} (M : MAt w hi ho A B wr) (h : HashAt w' ho B') (hg : wr.grownBy w' (some ho)) : MAt w hi ho A B' w' :=
  ⟨M.inn.grown hg M.ne, h, M.low.grown hg M.low.size (fun k hk => by obtain rfl := Option.some.inj hk; have := M.lt2; omega), (hg.block _ (in_heap M.res) (fun e => by have := Option.some.inj e; have := M.lt2; omega)).trans M.res, M.lt, M.lt2, M.ne⟩
theorem MAt.box {w wr w' : World} {hi ho : Nat} {A B : List UInt8} {o : Obj} (M : MAt w hi ho A B wr) (hg : (wr.alloc o).grownBy w' (some wr.heap.size)) : MAt w hi ho A B w' := by
  have M1 := M.low_ (low1 wr o)
  have i1 := M.inn.lt
  have i2 := M.out.lt
  have i3 := M.low.size
  exact ⟨M1.inn.grown hg (by omega), M1.out.grown hg (by omega), M1.low.grown hg M1.low.size (fun k hk => by obtain rfl := Option.some.inj hk; omega), (hg.block _ (in_heap M1.res) (fun e => by have := Option.some.inj e; have := in_heap M.res; omega)).trans M1.res, M.lt, M.lt2, M.ne⟩
theorem mat_in {w wr : World} {hi ho : Nat} {A B : List UInt8} (hT : Tabs w) (M : MAt w hi ho A B wr) (x : UInt8) (hlen : A.length < 2305843009213693952) :
    Calls Tryz.prog 43 #[.pointer (some ⟨hi, 0, none⟩), .slice (some ⟨wr.heap.size, 0, none⟩) 1 1] (wr.alloc (.cells #[V8 x] 5)) fun e w' => e = .returned (.tuple #[]) ∧ MAt w hi ho (A ++ [x]) B w' := by
  have M1 := M.low_ (low1 wr (.cells #[V8 x] 5))
  refine (write_len hi A [x] (some ⟨wr.heap.size, 0, none⟩) 1 1 _ rfl (hT.below M1.low) (hT.fresh (Nat.le_of_lt M.lt)) M1.inn (one_bytes wr x _) (Nat.le_refl _) (fun ad had => ?_) (by simp; omega)).mono ?_
  · obtain rfl := Option.some.inj had
    have := M.inn.lt
    exact fun e => by have e' : wr.heap.size = hi := e; omega
  · rintro e w' ⟨h1, h2, h3⟩
    exact ⟨h1, M1.wrote h2 h3⟩
theorem mat_out {w wr : World} {hi ho : Nat} {A B : List UInt8} (hT : Tabs w) (M : MAt w hi ho A B wr) (x : UInt8) (hlen : B.length < 2305843009213693952) :
    Calls Tryz.prog 43 #[.pointer (some ⟨ho, 0, none⟩), .slice (some ⟨wr.heap.size, 0, none⟩) 1 1] (wr.alloc (.cells #[V8 x] 5)) fun e w' => e = .returned (.tuple #[]) ∧ MAt w hi ho A (B ++ [x]) w' := by
  have M1 := M.low_ (low1 wr (.cells #[V8 x] 5))
  refine (write_len ho B [x] (some ⟨wr.heap.size, 0, none⟩) 1 1 _ rfl (hT.below M1.low) (hT.fresh (Nat.le_of_lt M.lt2)) M1.out (one_bytes wr x _) (Nat.le_refl _) (fun ad had => ?_) (by simp; omega)).mono ?_
  · obtain rfl := Option.some.inj had
    have := M.out.lt
    exact fun e => by have e' : wr.heap.size = ho := e; omega
  · rintro e w' ⟨h1, h2, h3⟩
    exact ⟨h1, M1.wroteo h2 h3⟩
theorem mat_part {w wr : World} {hi ho : Nat} {A B : List UInt8} (hT : Tabs w) (M : MAt w hi ho A B wr) (l : List UInt8) (a : Option Addr) (m c : Nat) (hm : m = l.length) (S : Src w a c l) (hlen : A.length + l.length < 2305843009213693952) :
    Calls Tryz.prog 43 #[.pointer (some ⟨hi, 0, none⟩), .slice a m c] wr fun e w' => e = .returned (.tuple #[]) ∧ MAt w hi ho (A ++ l) B w' := by
  have S1 := S.below M.low
  refine (write_len hi A l a m c _ hm (hT.below M.low) (hT.fresh (Nat.le_of_lt M.lt)) M.inn S1.at_ S1.cap (fun ad had => ?_) (by omega)).mono ?_
  · have := S.lt ad had
    have := M.lt
    omega
  · rintro e w' ⟨h1, h2, h3⟩
    exact ⟨h1, M.wrote h2 h3⟩
theorem mat_sum {w wr : World} {hi ho g : Nat} {A B : List UInt8} (hT : Tabs w) (M : MAt w hi ho A B wr) (s : List UInt8) (hs : s.length = 32) (t : TypeId) (hg : wr.heap[g]? = some (.cells (s.map V8).toArray t (0, 0))) (hne : g ≠ ho) (hlen : B.length < 2305843009213693952) :
    Calls Tryz.prog 43 #[.pointer (some ⟨ho, 0, none⟩), .slice (some ⟨g, 0, none⟩) 32 32] wr fun e w' => e = .returned (.tuple #[]) ∧ MAt w hi ho A (B ++ s) w' := by
  refine (write_len ho B s (some ⟨g, 0, none⟩) 32 32 _ hs.symm (hT.below M.low) (hT.fresh (Nat.le_of_lt M.lt2)) M.out ⟨fun _ => ⟨g, 0, rfl, fun j hj => ?_⟩⟩ (by omega) (fun ad had => ?_) (by omega)).mono ?_
  · rw [Nat.zero_add]
    exact cell_block hg (by simp [byteF, hj, List.getD])
  · obtain rfl := Option.some.inj had
    exact hne
  · rintro e w' ⟨h1, h2, h3⟩
    exact ⟨h1, M.wroteo h2 h3⟩

end Go.Proofs.YtpdhgijeanbmcaaGreatDoor

/- RMac -/
namespace Go.Proofs.YtpdhgijeanbmcaaGreatDoor
set_option maxRecDepth 100000
open Go.RowKit

theorem grownBy_none {w w' : World} (h : w.grownBy w' none) : Below w.heap.size w w' := ⟨h.os, h.tape, h.output, h.size, fun i hi => h.block i hi (fun e => by cases e)⟩
theorem Acc.keep {e size : Nat} {w0 w w' : World} {base : Nat} {A A' : Option Addr} {C n : Nat} {cs : List Value} (h : Acc e size w0 w base A C n cs) (hg : w.grownBy w' (A'.map (·.block))) (hk : ∀ ad, A' = some ad → base ≤ ad.block)
    (hne : ∀ ad ad', A = some ad → A' = some ad' → ad.block ≠ ad'.block) : Acc e size w0 w' base A C n cs := by
  cases A' with
  | none => exact h.below (grownBy_none hg)
  | some ad' => exact h.other hg (hk ad' rfl) fun ad had => hne ad ad' had rfl
theorem zero_next (K : List UInt8) (q e : Nat) (h : q ≤ e) : (K ++ List.replicate (e - q) 0).map V8 ++ [V8 0] = (K ++ List.replicate (e + 1 - q) 0).map V8 := by
  rw [show e + 1 - q = e - q + 1 by omega]
  simp [List.replicate_succ']
/-- The key, filled up to e bytes. -/
def KAt (w0 : World) (base : Nat) (K : List UInt8) (v : Value) (wr : World) : Prop := ∃ e B C, K.length ≤ e ∧ e ≤ 64 ∧ v = .slice B e C ∧ Acc 5 1 w0 wr base B C e ((K ++ List.replicate (e - K.length) 0).map V8)
/-- Two lists of the call's own that lie apart. -/
structure Two (w2 wr : World) (base : Nat) (B1 : Option Addr) (C1 n1 : Nat) (l1 : List UInt8) (B2 : Option Addr) (C2 n2 : Nat) (l2 : List UInt8) : Prop where
  one : Acc 5 1 w2 wr base B1 C1 n1 (l1.map V8)
  two : Acc 5 1 w2 wr base B2 C2 n2 (l2.map V8)
  apart : ∀ ad ad', B1 = some ad → B2 = some ad' → ad.block ≠ ad'.block
theorem Two.start (w2 : World) : Two w2 w2 w2.heap.size none 0 0 [] none 0 0 [] := ⟨Acc.start _ _ _ _ _ (Below.refl _ _) (Nat.le_refl _), Acc.start _ _ _ _ _ (Below.refl _ _) (Nat.le_refl _), fun _ _ h => by cases h⟩
theorem Two.at1 {w2 wr w' : World} {base : Nat} {B1 B2 D1 : Option Addr} {C1 n1 C2 n2 E1 m1 : Nat} {l1 l2 l3 : List UInt8} (h : Two w2 wr base B1 C1 n1 l1 B2 C2 n2 l2)
    (ha : Acc 5 1 w2 w' base D1 E1 m1 (l3.map V8)) (hg : wr.grownBy w' (B1.map (·.block))) (hn : ∀ ad, D1 = some ad → B1 = some ad ∨ wr.heap.size ≤ ad.block) : Two w2 w' base D1 E1 m1 l3 B2 C2 n2 l2 :=
  ⟨ha, h.two.keep hg (fun ad had => (h.one.block ad had).1) (fun ad ad' h1 h2 => (h.apart ad' ad h2 h1).symm), fun ad ad' h1 h2 => by
    rcases hn ad h1 with h3 | h3
    · exact h.apart ad ad' h3 h2
    · have := (h.two.block ad' h2).2; omega⟩
theorem Two.at2 {w2 wr w' : World} {base : Nat} {B1 B2 D2 : Option Addr} {C1 n1 C2 n2 E2 m2 : Nat} {l1 l2 l3 : List UInt8} (h : Two w2 wr base B1 C1 n1 l1 B2 C2 n2 l2)
    (ha : Acc 5 1 w2 w' base D2 E2 m2 (l3.map V8)) (hg : wr.grownBy w' (B2.map (·.block))) (hn : ∀ ad, D2 = some ad → B2 = some ad ∨ wr.heap.size ≤ ad.block) : Two w2 w' base B1 C1 n1 l1 D2 E2 m2 l3 :=
  ⟨h.one.keep hg (fun ad had => (h.two.block ad had).1) (fun ad ad' h1 h2 => h.apart ad ad' h1 h2), ha, fun ad ad' h1 h2 => by
    rcases hn ad' h2 with h3 | h3
    · exact h.apart ad ad' h1 h3
    · have := (h.one.block ad h1).2; omega⟩
theorem rsum_is (R : List UInt8) (l : List UInt8) (a : Option Addr) (m c : Nat) (w : World) (hR : R = Sha.sum l) (hm : m = l.length) (hT : Tabs w) (S : Src w a c l) (hlen : l.length < 70368744177664) :
    Calls Tryz.prog 58 #[.slice a m c] w fun e w' => e = .returned (sumV R) ∧ Below w.heap.size w w' := by
  subst hR
  exact rsum_any l a m c w hm hT S hlen
theorem size_sum' (l : List UInt8) (h : l.length = 32) : (Tryz.prog.info? 34).map (·.size) = some (l.map V8).toArray.size := by
  rw [show (Tryz.prog.info? 34).map (·.size) = some 32 from by kernel_rfl]
  simp [h]
theorem box_bytes {w : World} {g : Nat} {s : List UInt8} {t : TypeId} {fr : Nat × Nat} (h : w.heap[g]? = some (.cells (s.map V8).toArray t fr)) : BytesAt w (some ⟨g, 0, none⟩) s :=
  ⟨fun _ => ⟨g, 0, rfl, fun j hj => by rw [Nat.zero_add]; exact cell_block h (by simp [byteF, hj, List.getD])⟩⟩

end Go.Proofs.YtpdhgijeanbmcaaGreatDoor

/- Path -/
namespace Go.Proofs.YtpdhgijeanbmcaaGreatDoor
set_option maxRecDepth 100000
open Go.RowKit Go.Great

theorem RetSE.of_rev {w w' : World} {B : Option Addr} {C : Nat} {M : List (List UInt8)} (h : Acc 34 32 w w' w.heap.size B C M.length (sumCells M.reverse)) : RetSE w M.reverse 0 (.returned (.tuple #[.slice B M.length C, .int .i64 0])) w' := by
  have e : M.reverse.length = M.length := List.length_reverse
  refine ⟨B, C, by rw [e], by rw [e]; exact h⟩

def lenOf : Value → Nat
  | .slice _ n _ => n
  | _ => 0
theorem lenOf_slice (a : Option Addr) (n c : Nat) : lenOf (.slice a n c) = n := rfl
/-- Where the descent stands: a part of the leaves, a place in it, and the path so far, last sum first. -/
structure PAt (w : World) (L : List (List UInt8)) (i : Nat) (wr : World) (L' : List (List UInt8)) (a : Option Addr) (n c i' : Nat) (B : Option Addr) (C : Nat) (M : List (List UInt8)) : Prop where
  sums : Sums w a n c L'
  lt : i' < n
  acc : Acc 34 32 w wr w.heap.size B C M.length (sumCells M)
  path : Tree.path L i = Tree.path L' i' ++ M.reverse
  room : M.length + n ≤ L.length
  each : ∀ x ∈ M, x.length = 32

set_option maxRecDepth 100000 in
set_option maxHeartbeats 2000000 in
theorem path_any (L : List (List UInt8)) (a : Option Addr) (n c i : Nat) (w : World) (hi : i < n) (hlen : n < 1099511627776) (hT : Tabs w) (S : Sums w a n c L) :
    Calls Tryz.prog 11 #[.slice a n c, .int .i64 i] w (RetSE w (Tree.path L i) 0) := by
  obtain ⟨z0, hz0, hinfo⟩ := info_sum'
  have HI := Lib.hid hinfo
  have HZ0 := Lib.hid hz0
  have hs : PAt w L i w L a n c i none 0 [] := ⟨S, hi, Acc.start _ _ _ _ _ (Below.refl _ _) (Nat.le_refl _), by simp, by rw [S.len]; simp, fun _ h => by cases h⟩
  have HS := Lib.hid hs
  have hLn := S.len
  have HLn := Lib.hid hLn
  have h1 : ¬ (i : Int) < 0 := by omega
  have h2 : ¬ (n : Int) ≤ (i : Int) := by omega
  clear S hinfo hz0 hs hLn
  go_enter Tryz.func11, Tryz.ntmps11
  go_wp2
  go_step3
  go_wp2
  go_step3
  go_wp2
  simp only [decide_eq_false (show ¬ (i : Int) < 0 by omega), decide_eq_false (show ¬ n ≤ i by omega), Bool.or_false]
  go_loopw [1, 6, 7, 8] (fun iv pv lv _ wr => ∃ (L' : List (List UInt8)) (a' : Option Addr) (n' c' i' : Nat) (B : Option Addr) (C : Nat) (M : List (List UInt8)), iv = .int .i64 i' ∧ pv = .slice B M.length C ∧ lv = .slice a' n' c' ∧ PAt w L i wr L' a' n' c' i' B C M) (fun _ _ lv _ _ => lenOf lv)
  case atStart => exact ⟨L, a, n, c, i, none, 0, [], rfl, rfl, rfl, HS.out⟩
  case round =>
    clear HS
    obtain ⟨L', a', n', c', i', B, C, M, rfl, rfl, rfl, hP⟩ := hrel
    have HP := Lib.hid hP
    clear hP
    by_cases hone : n' = 1
    · have hone2 : ((n' : Int) == 1) = true := by simp; omega
      have hone3 : (n' : Int) = 1 := by omega
      have hl' := HP.out.sums.len
      have hst := Tree.path_stop (l := L') (i := i') (by omega)
      have hpa := HP.out.path
      rw [hst, List.nil_append] at hpa
      have HPA := Lib.hid hpa
      have hMl : M.length < 4611686018427387904 := by have := HP.out.room; have := HLn.out; omega
      clear hl' hst hpa
      go_wp2_with (go_at_call 29; refine (rev_any M w wr w.heap.size B M.length C rfl hMl HP.out.each HP.out.acc).mono ?_; rintro e w1 ⟨rfl, hA1⟩; have HA1 := Lib.hid hA1; clear hA1)
      rw [Exit.noGoto_ret]
      go_ret2
      rw [HPA.out]
      exact RetSE.of_rev HA1.out
    · have hn1 : 1 < n' := by have := HP.out.lt; omega
      have hone2 : ((n' : Int) == 1) = false := by simp; omega
      have hone3 : ¬ (n' : Int) = 1 := by omega
      have hn63 : n' < 1099511627776 := by have := HP.out.room; have := HLn.out; omega
      have hkp := split_pos n'
      have hkl := split_lt hn1
      have hl' := HP.out.sums.len
      have hpl := @Tree.path_left L' i' (by omega)
      have hpr := @Tree.path_right L' i' (by omega)
      rw [← hl'] at hpl hpr
      have Hhalf := half_any n' (by omega)
      have hcap := HP.out.sums.cap
      generalize split n' = k at *
      have hMl : M.length + 1 ≤ 1099511627776 := by have := HP.out.room; have := HLn.out; omega
      have z1 : M.length + 1 ≤ maxLen := by unfold maxLen; omega
      have z2 : (M.length + 1) * 32 ≤ 140737488355328 := by omega
      have hlow := HP.out.acc.low
      have Hlow := Lib.hid hlow
      by_cases hik : i' < k
      · have hik2 : (i' : Int) < (k : Int) := by omega
        have hpp := hpl hik
        have hsl := Tree.root_len (L'.drop k) fun x hx => HP.out.sums.each x (List.mem_of_mem_drop hx)
        have hrt := root_any (L'.drop k) (a'.map (·.add (k * 32))) (n' - k) (c' - k) wr (by rw [List.length_drop]; omega) (hT.below hlow) ((HP.out.sums.rest k hkl).below hlow)
        obtain ⟨s, hse⟩ : ∃ s, s = Tree.root (L'.drop k) := ⟨_, rfl⟩
        rw [← hse] at hpp hsl hrt
        have Hrt := Lib.hid hrt
        have Hsl := Lib.hid hsl
        have Hpp := Lib.hid hpp
        have Hl' := Lib.hid hl'
        clear hpl hpr hpp hsl hrt hse hl' hlow
        go_wp2_with (first | (go_at_call 28; refine (Hhalf _).mono ?_; rintro e w1 ⟨rfl, rfl⟩) | (go_at_call 21; refine Hrt.out.mono ?_; rintro e w2 ⟨rfl, hB⟩; have HB := Lib.hid hB; clear hB) | (refine wpList_build_sum rfl _ rfl s rfl Hsl.out ?_) | (at_builtin; refine wpList_acc rfl _ _ 26 rfl 34 32 32 z0 Tryz.underlying26 HI.out HZ0.out (by decide) w w.heap.size B C M.length (sumCells M) rfl ((HP.out.acc.below HB.out).alloc _) (some ⟨w2.heap.size, 0, none⟩) 1 1 (s.map V8) rfl (by simp [Hsl.out]) (box_bytes (blk1 _ _)).cells (fun h => by cases h) (fun ad h => ⟨_, _, (Option.some.inj h).symm⟩) (ones' s) z1 z2 ?_; intro B2 D2 w3 hacc hg hnew; have HA := Lib.hid hacc; clear hacc hg hnew))
        go_roundw
        case rel =>
          refine ⟨L'.take k, a', k, c', i', B2, D2, M ++ [s], rfl, by simp, rfl, HP.out.sums.take k (by omega), hik, ?_, ?_, ?_, ?_⟩
          · have := HA.out
            rw [← sumCells_one s, ← sumCells_append] at this
            simpa using this
          · rw [HP.out.path, Hpp.out]; simp
          · have := HP.out.room; simp; omega
          · intro x hx
            rw [List.mem_append, List.mem_singleton] at hx
            rcases hx with hx | rfl
            · exact HP.out.each x hx
            · exact Hsl.out
        case measure => rw [lenOf_slice, lenOf_slice]; omega
      · have hik2 : ¬ (i' : Int) < (k : Int) := by omega
        have hpp := hpr hik
        have e0 : ((i' - k : Nat) : Int) = (i' : Int) - (k : Int) := by omega
        have hsl := Tree.root_len (L'.take k) fun x hx => HP.out.sums.each x (List.mem_of_mem_take hx)
        have hrt := root_any (L'.take k) a' k c' wr (by rw [List.length_take]; omega) (hT.below hlow) ((HP.out.sums.take k (by omega)).below hlow)
        obtain ⟨s, hse⟩ : ∃ s, s = Tree.root (L'.take k) := ⟨_, rfl⟩
        rw [← hse] at hpp hsl hrt
        have Hrt := Lib.hid hrt
        have Hsl := Lib.hid hsl
        have Hpp := Lib.hid hpp
        have Hl' := Lib.hid hl'
        have He0 := Lib.hid e0
        have hwr : wrap64 ((i' : Int) - (k : Int)) = (i' : Int) - (k : Int) := by have := HP.out.lt; unfold wrap64; omega
        clear hpl hpr hpp hsl hrt hse hl' hlow e0
        go_wp2_with (first | (go_at_call 28; refine (Hhalf _).mono ?_; rintro e w1 ⟨rfl, rfl⟩) | (go_at_call 21; refine Hrt.out.mono ?_; rintro e w2 ⟨rfl, hB⟩; have HB := Lib.hid hB; clear hB) | (refine wpList_build_sum rfl _ rfl s rfl Hsl.out ?_) | (at_builtin; refine wpList_acc rfl _ _ 26 rfl 34 32 32 z0 Tryz.underlying26 HI.out HZ0.out (by decide) w w.heap.size B C M.length (sumCells M) rfl ((HP.out.acc.below HB.out).alloc _) (some ⟨w2.heap.size, 0, none⟩) 1 1 (s.map V8) rfl (by simp [Hsl.out]) (box_bytes (blk1 _ _)).cells (fun h => by cases h) (fun ad h => ⟨_, _, (Option.some.inj h).symm⟩) (ones' s) z1 z2 ?_; intro B2 D2 w3 hacc hg hnew; have HA := Lib.hid hacc; clear hacc hg hnew))
        go_roundw
        case rel =>
          refine ⟨L'.drop k, a'.map (·.add (k * 32)), n' - k, c' - k, i' - k, B2, D2, M ++ [s], by rw [He0.out, hwr], by simp, rfl, HP.out.sums.rest k hkl, by have := HP.out.lt; omega, ?_, ?_, ?_, ?_⟩
          · have := HA.out
            rw [← sumCells_one s, ← sumCells_append] at this
            simpa using this
          · rw [HP.out.path, Hpp.out]; simp
          · have := HP.out.room; simp; omega
          · intro x hx
            rw [List.mem_append, List.mem_singleton] at hx
            rcases hx with hx | rfl
            · exact HP.out.each x hx
            · exact Hsl.out
        case measure => rw [lenOf_slice, lenOf_slice]; omega
end Go.Proofs.YtpdhgijeanbmcaaGreatDoor

/- Leaves -/
namespace Go.Proofs.YtpdhgijeanbmcaaGreatDoor
set_option maxRecDepth 100000
open Go.RowKit Go.Great

set_option maxRecDepth 100000 in
theorem num_any (k : Int) (w : World) : Calls Tryz.prog 6 #[.int .i64 k] w fun e w' => e = .returned (.int .i64 k) ∧ w = w' := by
  go_enter Tryz.func6, Tryz.ntmps6
  go_wp2
  go_ret
  exact ⟨rfl, rfl⟩

/-- A slice of strings that may be read. -/
structure Strs (w : World) (a : Option Addr) (n : Nat) (ts : List (List UInt8)) : Prop where
  len : n = ts.length
  at_ : 0 < n → ∃ b o, a = some ⟨b, o, none⟩ ∧ ∀ k (hk : k < ts.length), w.cell? ⟨b, o + k, none⟩ = some (.string ⟨ts[k].toArray⟩)
theorem Strs.below {w w' : World} {a : Option Addr} {n : Nat} {ts : List (List UInt8)} (h : Strs w a n ts) (hb : Below w.heap.size w w') : Strs w' a n ts :=
  ⟨h.len, fun h0 => by
    obtain ⟨b, o, e, hc⟩ := h.at_ h0
    exact ⟨b, o, e, fun k hk => (hb.cell (p := ⟨b, o + k, none⟩) (World.block_lt_of_cell? w _ (hc k hk))).trans (hc k hk)⟩⟩
theorem txt_of_string (W : World) (l : List UInt8) (c : Nat) (t : TypeId) (fr : Nat × Nat) (hc : l.length ≤ c) : Txt (W.alloc (.cells (bytesRow ⟨l.toArray⟩ c) t fr)).drew (some ⟨W.heap.size, 0, none⟩) l.length c l := by
  have hb : (W.alloc (.cells (bytesRow ⟨l.toArray⟩ c) t fr)).drew.heap[W.heap.size]? = some (.cells (bytesRow ⟨l.toArray⟩ c) t fr) := at_new _ _ rfl
  refine ⟨rfl, ⟨fun h0 => ⟨W.heap.size, 0, rfl, fun j hj => ?_⟩⟩, hc, (fun h => by cases h), fun ad had => ⟨W.heap.size, 0, (Option.some.inj had).symm, in_heap hb⟩⟩
  rw [Nat.zero_add, cell_block hb (bytesRow_at ⟨l.toArray⟩ c j (by simpa using hj))]
  simp [byteF, V8, List.getD, hj]

set_option maxRecDepth 100000 in
set_option maxHeartbeats 400000 in
theorem leaves_any (ts : List (List UInt8)) (a : Option Addr) (n c : Nat) (w : World) (hT : Tabs w) (S : Strs w a n ts) (hn : n ≤ 1000) (hs : ∀ t ∈ ts, t.length < 1099511627776) :
    Calls Tryz.prog 24 #[.slice a n c] w (RetS w (ts.map Tree.leaf)) := by
  obtain ⟨z0, hz0, hinfo⟩ := info_sum'
  have HI := Lib.hid hinfo
  have HZ0 := Lib.hid hz0
  have HS := Lib.hid S
  have hl := S.len
  have Hl := Lib.hid hl
  have Hs := Lib.hid hs
  clear hinfo hz0 S hl hs
  go_enter Tryz.func24, Tryz.ntmps24
  go_wp2
  go_loopw [3, 4] (fun v i wr => ∃ k B C, k ≤ n ∧ i = .int .i64 (k : Nat) ∧ v = .slice B k C ∧ Acc 34 32 w wr w.heap.size B C k (sumCells ((ts.take k).map Tree.leaf))) (fun _ i _ => n - (intOf i).toNat)
  case atStart => exact ⟨0, none, 0, by omega, rfl, rfl, Acc.start _ _ _ _ _ (Below.refl _ _) (Nat.le_refl _)⟩
  case round =>
    obtain ⟨k, B, C, hk, rfl, rfl, hA⟩ := hrel
    have HA := Lib.hid hA
    clear hA
    by_cases hlt : k < n
    · have hki : (k : Int) < (n : Int) := by omega
      have hki0 : (0 : Int) ≤ (k : Int) := by omega
      have hk' : k < ts.length := by have := Hl.out; omega
      obtain ⟨b, o, ha, hc⟩ := (HS.out.below HA.out.low).at_ (by omega)
      subst ha
      have c0 := hc k hk'
      have htl := Hs.out ts[k] (by simp)
      have hnx : (ts.take (k + 1)).map Tree.leaf = (ts.take k).map Tree.leaf ++ [Tree.leaf ts[k]] := by rw [List.take_succ_eq_append_getElem hk', List.map_append]; rfl
      obtain ⟨l, hl⟩ : ∃ l, l = ts[k] := ⟨_, rfl⟩
      rw [← hl] at c0 htl hnx
      obtain ⟨s, hse⟩ : ∃ s, s = Tree.leaf l := ⟨_, rfl⟩
      have hsl : s.length = 32 := by rw [hse]; rfl
      rw [← hse] at hnx
      have hrl := Lib.hid (show ∀ (W : World) (ad : Option Addr) (m c : Nat), Tabs W → Txt W ad m c l → Calls Tryz.prog 46 #[.slice ad m c] W (RetSum W s) from fun W ad m c hT S => by rw [hse]; exact rleaf_any l ad m c W hT S (by omega))
      have Hsl := Lib.hid hsl
      have Hse := Lib.hid hse
      have Hnx := Lib.hid hnx
      have Htl := Lib.hid htl
      have z1 : k + 1 ≤ maxLen := by unfold maxLen; omega
      have z2 : (k + 1) * 32 ≤ 140737488355328 := by omega
      have hcv : ∀ W : World, (convert 9 51 (.string ⟨l.toArray⟩)).run Tryz.prog W = .ok (.slice (some ⟨W.heap.size, 0, none⟩) l.length (grownCap W l.length 0 5)) (W.drew.alloc (.cells (bytesRow ⟨l.toArray⟩ (grownCap W l.length 0 5)) 5 ((bytesRow ⟨l.toArray⟩ (grownCap W l.length 0 5)).size, (bytesRow ⟨l.toArray⟩ (grownCap W l.length 0 5)).size + 1))) := fun W => run_bytes_of_string W 9 51 5 ⟨l.toArray⟩ Tryz.underlying9 Tryz.underlying51 Tryz.underlying5
      have HG := Lib.hid (grownCap_ge wr l.length 0 5)
      clear hc hl hnx hsl hse htl
      go_wp2_with (first | (go_at_call 46; refine (hrl.out _ _ _ _ (hT.below (bthen HA.out.low (low1 _ _).drew)) (txt_of_string wr l _ _ _ HG.out)).mono ?_; rintro e w2 ⟨rfl, hB⟩; have HB := Lib.hid (bthen (low1 _ _).drew hB); clear hB) | (refine wpList_build_sum rfl _ rfl s rfl Hsl.out ?_) | (at_builtin; refine wpList_acc rfl _ _ 26 rfl 34 32 32 z0 Tryz.underlying26 HI.out HZ0.out (by decide) w w.heap.size B C k _ rfl ((HA.out.below HB.out).alloc _) (some ⟨w2.heap.size, 0, none⟩) 1 1 (s.map V8) rfl (by simp [Hsl.out]) (box_bytes (blk1 _ _)).cells (fun h => by cases h) (fun ad h => ⟨_, _, (Option.some.inj h).symm⟩) (ones' s) z1 z2 ?_; intro B2 D2 w3 hacc hg hnew; rw [← sumCells_one s, ← sumCells_append, ← Hnx.out] at hacc; have HA3 := Lib.hid hacc; clear hacc hg hnew))
      go_roundw
      case rel => exact ⟨k + 1, B2, D2, by omega, by go_num, rfl, HA3.out⟩
      case measure => simp [intOf]; omega
    · obtain rfl : k = n := by omega
      go_wp2
      go_ret
      exact RetS.of HA.out (by rw [Hl.out]; simp) (by rw [Hl.out, List.take_length])
end Go.Proofs.YtpdhgijeanbmcaaGreatDoor

/- LiveA -/
namespace Go.Proofs.YtpdhgijeanbmcaaGreatDoor
set_option maxRecDepth 100000
open Go.RowKit Go.Great

theorem RetS.sums {w w' : World} {L : List (List UInt8)} {e : Ending} (h : RetS w L e w') (hL : ∀ x ∈ L, x.length = 32) : ∃ B C, e = .returned (.slice B L.length C) ∧ Sums w' B L.length C L ∧ Below w.heap.size w w' := by
  obtain ⟨B, C, h1, h2⟩ := h
  exact ⟨B, C, h1, h2.sums hL, h2.low⟩
theorem RetSE.sums {w w' : World} {L : List (List UInt8)} {k : Int} {e : Ending} (h : RetSE w L k e w') (hL : ∀ x ∈ L, x.length = 32) : ∃ B C, e = .returned (.tuple #[.slice B L.length C, .int .i64 k]) ∧ Sums w' B L.length C L ∧ Below w.heap.size w w' := by
  obtain ⟨B, C, h1, h2⟩ := h
  exact ⟨B, C, h1, h2.sums hL, h2.low⟩
theorem three_len (x y z : List UInt8) (hx : x.length = 32) (hy : y.length = 32) (hz : z.length = 32) : ∀ u ∈ [x, y, z], u.length = 32 := by
  intro u hu
  simp only [List.mem_cons, List.not_mem_nil, or_false] at hu
  rcases hu with rfl | rfl | rfl
  · exact hx
  · exact hy
  · exact hz
theorem one_len (x : List UInt8) (hx : x.length = 32) : ∀ u ∈ [x], u.length = 32 := by
  intro u hu
  rw [List.mem_singleton] at hu
  subst hu
  exact hx
theorem live_leaves (w : World) (la lb lc : List UInt8) (ha : la = Tree.leaf [97]) (hb : lb = Tree.leaf [98]) (hc : lc = Tree.leaf [99]) (hT : Tabs w) :
    Calls Tryz.prog 24 #[.slice (some ⟨w.heap.size, 0, none⟩) 3 3] (w.alloc (.cells #[.string ⟨#[97]⟩, .string ⟨#[98]⟩, .string ⟨#[99]⟩] 9)) fun e w' => ∃ B C, e = .returned (.slice B 3 C) ∧ Sums w' B 3 C [la, lb, lc] ∧ Below w.heap.size w w' := by
  subst ha hb hc
  refine (leaves_any [[97], [98], [99]] (some ⟨w.heap.size, 0, none⟩) 3 3 _ (hT.below (low1 _ _)) ⟨rfl, fun _ => ⟨w.heap.size, 0, rfl, fun k hk => ?_⟩⟩ (by omega) (fun t ht => ?_)).mono ?_
  · have : k = 0 ∨ k = 1 ∨ k = 2 := by simp at hk; omega
    rcases this with rfl | rfl | rfl <;> exact cell_block (blk1 _ _) rfl
  · simp only [List.mem_cons, List.not_mem_nil, or_false] at ht
    rcases ht with rfl | rfl | rfl <;> decide
  · rintro e w' h
    obtain ⟨B, C, h1, h2, h3⟩ := h.sums (three_len _ _ _ rfl rfl rfl)
    exact ⟨B, C, h1, h2, bthen (low1 _ _) h3⟩
theorem live_path (W : World) (la lb lc p0 : List UInt8) (B : Option Addr) (C : Nat) (h0 : p0 = Tree.node la lb) (hT : Tabs W) (S : Sums W B 3 C [la, lb, lc]) :
    Calls Tryz.prog 11 #[.slice B 3 C, .int .i64 2] W fun e w' => ∃ B C, e = .returned (.tuple #[.slice B 1 C, .int .i64 0]) ∧ Sums w' B 1 C [p0] ∧ Below W.heap.size W w' := by
  subst h0
  have h := path_any [la, lb, lc] B 3 C 2 W (by omega) (by omega) hT S
  rw [Tree.path3] at h
  exact h.mono fun e w' h => h.sums (one_len _ rfl)
theorem live_growth (W : World) (la lb lc : List UInt8) (B : Option Addr) (C : Nat) (hl : lc.length = 32) (hT : Tabs W) (S : Sums W B 3 C [la, lb, lc]) :
    Calls Tryz.prog 13 #[.slice B 3 C, .int .i64 2] W fun e w' => ∃ B C, e = .returned (.tuple #[.slice B 1 C, .int .i64 0]) ∧ Sums w' B 1 C [lc] ∧ Below W.heap.size W w' := by
  have h := growth_any [la, lb, lc] B 3 C 2 W (by omega) (by omega) (by omega) hT S
  rw [Tree.sub3] at h
  exact h.mono fun e w' h => h.sums (one_len _ hl)
def pTxt (l : List UInt8) : Post Low := ⟨fun v w => ∃ a n c, v = .slice a n c ∧ Txt w a n c l, fun _ _ _ ⟨a, n, c, e, h⟩ hl => ⟨a, n, c, e, h.below hl⟩⟩
theorem root_is (s : List UInt8) (L : List (List UInt8)) (a : Option Addr) (n c : Nat) (w : World) (hs : Tree.root L = s) (hlen : L.length < 4611686018427387904) (hT : Tabs w) (S : Sums w a n c L) : Calls Tryz.prog 21 #[.slice a n c] w (RetSum w s) := by
  subst hs
  exact root_any L a n c w hlen hT S
theorem holds_is (b : Bool) (root leaf : List UInt8) (a : Option Addr) (c : Nat) (x : List UInt8) (w : World) (hb : Tree.holds root 3 2 leaf [x] = b) (hr : root.length = 32) (hl : leaf.length = 32) (hT : Tabs w) (S : Sums w a 1 c [x]) :
    Calls Tryz.prog 26 #[sumV root, .int .i64 3, .int .i64 2, sumV leaf, .slice a 1 c] w fun e w' => e = .returned (.bool b) ∧ Below w.heap.size w w' := by
  subst hb
  exact holds_any root leaf 3 2 a 1 c [x] w (by omega) (by omega) (by omega) hr hl hT S
theorem extends_is (b : Bool) (root old x : List UInt8) (a : Option Addr) (c : Nat) (w : World) (hb : Tree.extends_ 2 old 3 root [x] = b) (hr : root.length = 32) (ho : old.length = 32) (hT : Tabs w) (S : Sums w a 1 c [x]) (hs3 : split 3 = 2) :
    Calls Tryz.prog 27 #[.int .i64 2, sumV old, .int .i64 3, sumV root, .slice a 1 c] w fun e w' => e = .returned (.bool b) ∧ Below w.heap.size w w' := by
  subst hb
  exact extends_three root old x a c w hr ho hT S hs3
theorem lit97_cells : (([97] : List UInt8).map V8).toArray = #[Value.int .u8 97] := by simp [V8]
theorem lit97 (W : World) : Txt (W.alloc (.cells #[Value.int .u8 97] 5)) (some ⟨W.heap.size, 0, none⟩) 1 1 [97] := by
  rw [← lit97_cells]
  exact Txt.of_block (blk1 _ _) rfl
section
variable {P : Program} {ops : Array Oper} {rest : List Oper} {o : Oper} {a : Act} {w : World} {Q : Exit → Act → World → Prop}
theorem wpList_load_mid_sumG (hgd : Region.wanted o (yielded ops a.tmps) = true) (ty : TypeId) (x : Operand) (ho : o.op = .load ty x) (b off : Nat) (hx : a.eval x = .pointer (some ⟨b, off, none⟩))
    (l : List UInt8) (n : Nat) (e : TypeId) (hc : w.rangeAt b off (l.map V8)) (hu : P.underlying ty = some (.array n e)) (hi : (P.info? ty).map (·.size) = some n) (hl : l.length = n) (h : wpList P ops Q rest (a.put o.dst (sumV l)) w) : wpList P ops Q (o :: rest) a w :=
  wpList_guarded hgd (wpList_load_mid_sum rfl ty x ho b off hx l n e hc hu hi hl h)
theorem wpList_load_sumG (hgd : Region.wanted o (yielded ops a.tmps) = true) (ty : TypeId) (x : Operand) (ho : o.op = .load ty x) (g : Nat) (hx : a.eval x = .pointer (some ⟨g, 0, none⟩))
    (t : TypeId) (l : List UInt8) (n : Nat) (fr : Nat × Nat) (e : TypeId) (hg : w.heap[g]? = some (.cells (l.map V8).toArray t fr)) (hu : P.underlying ty = some (.array n e))
    (hi : (P.info? ty).map (·.size) = some n) (hl : l.length = n) (h : wpList P ops Q rest (a.put o.dst (sumV l)) w) : wpList P ops Q (o :: rest) a w :=
  wpList_guarded hgd (wpList_load_sum rfl ty x ho g hx t l n fr e hg hu hi hl h)
end
/-- Below block N nothing turns; above it blocks keep their cells (a mark may turn). -/
structure RN (N : Nat) (w w' : World) : Prop where
  low : Below N w w'
  keep : ∀ (i : Nat) (cs : Array Value) (t : TypeId) (fr : Nat × Nat), w.heap[i]? = some (.cells cs t fr) → ∃ fr', w'.heap[i]? = some (.cells cs t fr')
theorem RN.refl (N : Nat) (w : World) : RN N w w := ⟨Below.refl _ _, fun _ _ _ fr h => ⟨fr, h⟩⟩
theorem RN.trans (N : Nat) (w w' w'' : World) (h : RN N w w') (h' : RN N w' w'') : RN N w w'' :=
  ⟨h.low.trans h'.low, fun i cs t fr hh => by
    obtain ⟨fr1, h1⟩ := h.keep i cs t fr hh
    exact h'.keep i cs t fr1 h1⟩
theorem RN.of_low {N : Nat} {w w' : World} (h : Below w.heap.size w w') (hN : N ≤ w.heap.size) : RN N w w' :=
  ⟨h.mono hN, fun _ _ _ fr hh => ⟨fr, bblk h hh⟩⟩
theorem lowR {w wr : World} (h : RN w.heap.size w.drew wr) : Below w.heap.size w wr := Below.trans (Low.drew w) h.low
theorem sizeR {w wr : World} (h : RN w.heap.size w.drew wr) : w.heap.size ≤ wr.heap.size := h.low.size
/-- A literal of one byte, 97, in memory of the call's own. -/
def pLit (N : Nat) : Post (RN N) := ⟨fun v w => ∃ b, v = .slice (some ⟨b, 0, none⟩) 1 1 ∧ N ≤ b ∧ ∃ t fr, w.heap[b]? = some (.cells #[Value.int .u8 97] t fr), fun _ _ _ ⟨b, e, hb, t, fr, h⟩ hR => by
  obtain ⟨fr', h'⟩ := hR.keep b _ t fr h
  exact ⟨b, e, hb, t, fr', h'⟩⟩
theorem txt97 {W : World} {b : Nat} {t : TypeId} {fr : Nat × Nat} (h : W.heap[b]? = some (.cells #[Value.int .u8 97] t fr)) : Txt W (some ⟨b, 0, none⟩) 1 1 [97] := by
  rw [← lit97_cells] at h
  exact Txt.of_block h rfl
theorem conv_mark (b n c : Nat) (W : World) (cs : Array Value) (t : TypeId) (fr : Nat × Nat) (h : W.heap[b]? = some (.cells cs t fr)) : ∃ W', (convert 51 51 (.slice (some ⟨b, 0, none⟩) n c)).run Tryz.prog W = .ok (.slice (some ⟨b, 0, none⟩) n c) W' ∧ W.grownBy W' (some b) ∧ ∃ fr', W'.heap[b]? = some (.cells cs t fr') := by
  have hsh : W.shape? b = some (t, cs.size) := by simp [World.shape?, h]
  refine ⟨W.freeze ⟨b, cs.size, none⟩ 1, ?_, ?_, ?_⟩
  · simp [convert, run_underlying Tryz.underlying51, run_underlying Tryz.underlying5, markStringish, hsh]
  · refine ⟨rfl, rfl, rfl, ?_, fun i hi hne => ?_⟩
    · simp [World.freeze]
    · have : b ≠ i := fun e => hne (by rw [e])
      simp [World.freeze, Array.getElem?_modify, this]
  · simp [World.freeze, Array.getElem?_modify, h]
theorem RN.of_mark {N b : Nat} {w w' : World} {cs : Array Value} {t : TypeId} {fr fr' : Nat × Nat} (hN : N ≤ w.heap.size) (hb : N ≤ b) (hg : w.grownBy w' (some b)) (h : w.heap[b]? = some (.cells cs t fr)) (h' : w'.heap[b]? = some (.cells cs t fr')) : RN N w w' :=
  ⟨(Below.refl N w).grown hg hN (fun k hk => by obtain rfl := Option.some.inj hk; exact hb), fun i cs2 t2 fr2 h2 => by
    by_cases e : i = b
    · subst e
      rw [h] at h2
      have h3 := Option.some.inj h2
      injection h3 with e1 e2 e3
      subst e1 e2
      exact ⟨fr', h'⟩
    · exact ⟨fr2, (hg.block i (in_heap h2) (fun e' => e (Option.some.inj e'))).trans h2⟩⟩
theorem relOp_load_mid {ops : Array Oper} {R : World → World → Prop} {o : Oper} {a : Act} {w : World} (hrf : ∀ w, R w w) (hg : Region.wanted o (yielded ops a.tmps) = true) (x : Operand) (ho : o.op = .load 34 x) (b off : Nat) (hx : a.eval x = .pointer (some ⟨b, off, none⟩))
    (l : List UInt8) (hc : w.rangeAt b off (l.map V8)) (hl : l.length = 32) : relOp Tryz.prog ops R (Post.is (R := R) (sumV l)).p o a w := by
  unfold relOp wpList
  rw [if_pos hg]
  exact .inl (wp_load_mid 34 x ho b off hx (l.map V8) _ hc Tryz.underlying34 rfl (by rw [show (Tryz.prog.info? 34).map (·.size) = some 32 from by kernel_rfl, List.length_map, hl]) ⟨rfl, _, rfl, hrf _, rfl⟩)
theorem relOp_load_sum {ops : Array Oper} {R : World → World → Prop} {o : Oper} {a : Act} {w : World} (hrf : ∀ w, R w w) (hg : Region.wanted o (yielded ops a.tmps) = true) (x : Operand) (ho : o.op = .load 34 x) (g : Nat) (hx : a.eval x = .pointer (some ⟨g, 0, none⟩))
    (t : TypeId) (fr : Nat × Nat) (l : List UInt8) (hgl : w.heap[g]? = some (.cells (l.map V8).toArray t fr)) (hl : l.length = 32) : relOp Tryz.prog ops R (Post.is (R := R) (sumV l)).p o a w := by
  unfold relOp wpList
  rw [if_pos hg]
  exact .inl (wp_load_row 34 x ho g hx t (l.map V8).toArray fr _ hgl Tryz.underlying34 rfl (size_sum l hl) ⟨rfl, _, rfl, hrf _, rfl⟩)
theorem eval_put_ne (a : Act) (d t : Tmp) (v : Value) (h : (d == t) = false) : (a.put (some d) v).eval (.tmp t) = a.eval (.tmp t) := by
  have h' : d ≠ t := by simpa using h
  simp [Act.put, Act.eval, Array.getElem?_setIfInBounds_ne h']
theorem size_put (a : Act) (d : Option Tmp) (v : Value) : (a.put d v).tmps.size = a.tmps.size := by
  cases d <;> simp [Act.put]
theorem eval_put_eq (a : Act) (d : Tmp) (v : Value) (h : d < a.tmps.size) : (a.put (some d) v).eval (.tmp d) = v := by
  simp [Act.put, Act.eval, h]
end Go.Proofs.YtpdhgijeanbmcaaGreatDoor
