/- What 'live' calls, in the form in which it calls it. -/
import Derived.Test.YtpdhgijeanbmcaaDoorLiveQ
import Derived.Test.YtpdhgijeanbmcaaDoorExtc
import Derived.Test.YtpdhgijeanbmcaaDoorPath
import Derived.Test.YtpdhgijeanbmcaaDoorLeaves
namespace Go.Proofs.YtpdhgijeanbmcaaDoor
open Go.RowKit Go.Great

theorem RetS.sums {w w' : World} {L : List (List UInt8)} {e : Ending} (h : RetS w L e w') (hL : ∀ x ∈ L, x.length = 32) : ∃ B C, e = .returned (.slice B L.length C) ∧ Sums w' B L.length C L ∧ Below w.heap.size w w' := by
  obtain ⟨B, C, h1, h2⟩ := h
  exact ⟨B, C, h1, h2.sums hL, h2.low⟩
theorem RetSE.sums {w w' : World} {L : List (List UInt8)} {k : Int} {e : Ending} (h : RetSE w L k e w') (hL : ∀ x ∈ L, x.length = 32) : ∃ B C, e = .returned (.tuple #[.slice B L.length C, .int .i64 k]) ∧ Sums w' B L.length C L ∧ Below w.heap.size w w' := by
  obtain ⟨B, C, h1, h2⟩ := h
  exact ⟨B, C, h1, h2.sums hL, h2.low⟩
theorem three_len (x y z : List UInt8) (hx : x.length = 32) (hy : y.length = 32) (hz : z.length = 32) : ∀ u ∈ [x, y, z], u.length = 32 := by
  intro u hu
  simp only [List.mem_cons, List.not_mem_nil, or_false] at hu
  rcases hu with rfl | rfl | rfl
  · exact hx
  · exact hy
  · exact hz
theorem one_len (x : List UInt8) (hx : x.length = 32) : ∀ u ∈ [x], u.length = 32 := by
  intro u hu
  rw [List.mem_singleton] at hu
  subst hu
  exact hx
theorem live_leaves (w : World) (la lb lc : List UInt8) (ha : la = Tree.leaf [97]) (hb : lb = Tree.leaf [98]) (hc : lc = Tree.leaf [99]) (hT : Tabs w) :
    Calls Tryd.prog 16 #[.slice (some ⟨w.heap.size, 0, none⟩) 3 3] (w.alloc (.cells #[.string ⟨#[97]⟩, .string ⟨#[98]⟩, .string ⟨#[99]⟩] 9)) fun e w' => ∃ B C, e = .returned (.slice B 3 C) ∧ Sums w' B 3 C [la, lb, lc] ∧ Below w.heap.size w w' := by
  subst ha hb hc
  refine (leaves_any [[97], [98], [99]] (some ⟨w.heap.size, 0, none⟩) 3 3 _ (hT.below (low1 _ _)) ⟨rfl, fun _ => ⟨w.heap.size, 0, rfl, fun k hk => ?_⟩⟩ (by omega) (fun t ht => ?_)).mono ?_
  · have : k = 0 ∨ k = 1 ∨ k = 2 := by simp at hk; omega
    rcases this with rfl | rfl | rfl <;> exact cell_block (blk1 _ _) rfl
  · simp only [List.mem_cons, List.not_mem_nil, or_false] at ht
    rcases ht with rfl | rfl | rfl <;> decide
  · rintro e w' h
    obtain ⟨B, C, h1, h2, h3⟩ := h.sums (three_len _ _ _ rfl rfl rfl)
    exact ⟨B, C, h1, h2, bthen (low1 _ _) h3⟩
theorem live_path (W : World) (la lb lc p0 : List UInt8) (B : Option Addr) (C : Nat) (h0 : p0 = Tree.node la lb) (hT : Tabs W) (S : Sums W B 3 C [la, lb, lc]) :
    Calls Tryd.prog 24 #[.slice B 3 C, .int .i64 2] W fun e w' => ∃ B C, e = .returned (.tuple #[.slice B 1 C, .int .i64 0]) ∧ Sums w' B 1 C [p0] ∧ Below W.heap.size W w' := by
  subst h0
  have h := path_any [la, lb, lc] B 3 C 2 W (by omega) (by omega) hT S (by rw [Tree.path3]; exact Nat.le_refl _)
  rw [Tree.path3] at h
  exact h.mono fun e w' h => h.sums (one_len _ rfl)
theorem live_growth (W : World) (la lb lc : List UInt8) (B : Option Addr) (C : Nat) (hl : lc.length = 32) (hT : Tabs W) (S : Sums W B 3 C [la, lb, lc]) :
    Calls Tryd.prog 26 #[.slice B 3 C, .int .i64 2] W fun e w' => ∃ B C, e = .returned (.tuple #[.slice B 1 C, .int .i64 0]) ∧ Sums w' B 1 C [lc] ∧ Below W.heap.size W w' := by
  have h := growth_any [la, lb, lc] B 3 C 2 W (by omega) (by omega) (by omega) hT S
  rw [Tree.sub3] at h
  exact h.mono fun e w' h => h.sums (one_len _ hl)
def pTxt (l : List UInt8) : Post Low := ⟨fun v w => ∃ a n c, v = .slice a n c ∧ Txt w a n c l, fun _ _ _ ⟨a, n, c, e, h⟩ hl => ⟨a, n, c, e, h.below hl⟩⟩
theorem root_is (s : List UInt8) (L : List (List UInt8)) (a : Option Addr) (n c : Nat) (w : World) (hs : Tree.root L = s) (hlen : L.length < 4611686018427387904) (hT : Tabs w) (S : Sums w a n c L) : Calls Tryd.prog 21 #[.slice a n c] w (RetSum w s) := by
  subst hs
  exact root_any L a n c w hlen hT S
theorem holds_is (b : Bool) (root leaf : List UInt8) (a : Option Addr) (c : Nat) (x : List UInt8) (w : World) (hb : Tree.holds root 3 2 leaf [x] = b) (hr : root.length = 32) (hl : leaf.length = 32) (hT : Tabs w) (S : Sums w a 1 c [x]) :
    Calls Tryd.prog 30 #[sumV root, .int .i64 3, .int .i64 2, sumV leaf, .slice a 1 c] w fun e w' => e = .returned (.bool b) ∧ Below w.heap.size w w' := by
  subst hb
  exact holds_any root leaf 3 2 a 1 c [x] w (by omega) (by omega) (by omega) hr hl hT S
theorem extends_is (b : Bool) (root old x : List UInt8) (a : Option Addr) (c : Nat) (w : World) (hb : Tree.extends_ 2 old 3 root [x] = b) (hr : root.length = 32) (ho : old.length = 32) (hT : Tabs w) (S : Sums w a 1 c [x]) (hs3 : split 3 = 2) :
    Calls Tryd.prog 32 #[.int .i64 2, sumV old, .int .i64 3, sumV root, .slice a 1 c] w fun e w' => e = .returned (.bool b) ∧ Below w.heap.size w w' := by
  subst hb
  exact extends_three root old x a c w hr ho hT S hs3
theorem lit97_cells : (([97] : List UInt8).map V8).toArray = #[Value.int .u8 97] := by simp [V8]
theorem lit97 (W : World) : Txt (W.alloc (.cells #[Value.int .u8 97] 5)) (some ⟨W.heap.size, 0, none⟩) 1 1 [97] := by
  rw [← lit97_cells]
  exact Txt.of_block (blk1 _ _) rfl
section
variable {P : Program} {ops : Array Oper} {rest : List Oper} {o : Oper} {a : Act} {w : World} {Q : Exit → Act → World → Prop}
theorem wpList_load_mid_sumG (hgd : Region.wanted o (yielded ops a.tmps) = true) (ty : TypeId) (x : Operand) (ho : o.op = .load ty x) (b off : Nat) (hx : a.eval x = .pointer (some ⟨b, off, none⟩))
    (l : List UInt8) (n : Nat) (e : TypeId) (hc : w.rangeAt b off (l.map V8)) (hu : P.underlying ty = some (.array n e)) (hi : (P.info? ty).map (·.size) = some n) (hl : l.length = n) (h : wpList P ops Q rest (a.put o.dst (sumV l)) w) : wpList P ops Q (o :: rest) a w :=
  wpList_guarded hgd (wpList_load_mid_sum rfl ty x ho b off hx l n e hc hu hi hl h)
theorem wpList_load_sumG (hgd : Region.wanted o (yielded ops a.tmps) = true) (ty : TypeId) (x : Operand) (ho : o.op = .load ty x) (g : Nat) (hx : a.eval x = .pointer (some ⟨g, 0, none⟩))
    (t : TypeId) (l : List UInt8) (n : Nat) (fr : Nat × Nat) (e : TypeId) (hg : w.heap[g]? = some (.cells (l.map V8).toArray t fr)) (hu : P.underlying ty = some (.array n e))
    (hi : (P.info? ty).map (·.size) = some n) (hl : l.length = n) (h : wpList P ops Q rest (a.put o.dst (sumV l)) w) : wpList P ops Q (o :: rest) a w :=
  wpList_guarded hgd (wpList_load_sum rfl ty x ho g hx t l n fr e hg hu hi hl h)
end
/-- Below block N nothing turns; above it blocks keep their cells (a mark may turn). -/
structure RN (N : Nat) (w w' : World) : Prop where
  low : Below N w w'
  keep : ∀ (i : Nat) (cs : Array Value) (t : TypeId) (fr : Nat × Nat), w.heap[i]? = some (.cells cs t fr) → ∃ fr', w'.heap[i]? = some (.cells cs t fr')
theorem RN.refl (N : Nat) (w : World) : RN N w w := ⟨Below.refl _ _, fun _ _ _ fr h => ⟨fr, h⟩⟩
theorem RN.trans (N : Nat) (w w' w'' : World) (h : RN N w w') (h' : RN N w' w'') : RN N w w'' :=
  ⟨h.low.trans h'.low, fun i cs t fr hh => by
    obtain ⟨fr1, h1⟩ := h.keep i cs t fr hh
    exact h'.keep i cs t fr1 h1⟩
theorem RN.of_low {N : Nat} {w w' : World} (h : Below w.heap.size w w') (hN : N ≤ w.heap.size) : RN N w w' :=
  ⟨h.mono hN, fun _ _ _ fr hh => ⟨fr, bblk h hh⟩⟩
theorem lowR {w wr : World} (h : RN w.heap.size w.drew wr) : Below w.heap.size w wr := Below.trans (Low.drew w) h.low
theorem sizeR {w wr : World} (h : RN w.heap.size w.drew wr) : w.heap.size ≤ wr.heap.size := h.low.size
/-- A literal of one byte, 97, in memory of the call's own. -/
def pLit (N : Nat) : Post (RN N) := ⟨fun v w => ∃ b, v = .slice (some ⟨b, 0, none⟩) 1 1 ∧ N ≤ b ∧ ∃ t fr, w.heap[b]? = some (.cells #[Value.int .u8 97] t fr), fun _ _ _ ⟨b, e, hb, t, fr, h⟩ hR => by
  obtain ⟨fr', h'⟩ := hR.keep b _ t fr h
  exact ⟨b, e, hb, t, fr', h'⟩⟩
theorem txt97 {W : World} {b : Nat} {t : TypeId} {fr : Nat × Nat} (h : W.heap[b]? = some (.cells #[Value.int .u8 97] t fr)) : Txt W (some ⟨b, 0, none⟩) 1 1 [97] := by
  rw [← lit97_cells] at h
  exact Txt.of_block h rfl
theorem conv_mark (b n c : Nat) (W : World) (cs : Array Value) (t : TypeId) (fr : Nat × Nat) (h : W.heap[b]? = some (.cells cs t fr)) : ∃ W', (convert 22 22 (.slice (some ⟨b, 0, none⟩) n c)).run Tryd.prog W = .ok (.slice (some ⟨b, 0, none⟩) n c) W' ∧ W.grownBy W' (some b) ∧ ∃ fr', W'.heap[b]? = some (.cells cs t fr') := by
  have hsh : W.shape? b = some (t, cs.size) := by simp [World.shape?, h]
  refine ⟨W.freeze ⟨b, cs.size, none⟩ 1, ?_, ?_, ?_⟩
  · simp [convert, run_underlying Tryd.underlying22, run_underlying Tryd.underlying5, markStringish, hsh]
  · refine ⟨rfl, rfl, rfl, ?_, fun i hi hne => ?_⟩
    · simp [World.freeze]
    · have : b ≠ i := fun e => hne (by rw [e])
      simp [World.freeze, Array.getElem?_modify, this]
  · simp [World.freeze, Array.getElem?_modify, h]
theorem RN.of_mark {N b : Nat} {w w' : World} {cs : Array Value} {t : TypeId} {fr fr' : Nat × Nat} (hN : N ≤ w.heap.size) (hb : N ≤ b) (hg : w.grownBy w' (some b)) (h : w.heap[b]? = some (.cells cs t fr)) (h' : w'.heap[b]? = some (.cells cs t fr')) : RN N w w' :=
  ⟨(Below.refl N w).grown hg hN (fun k hk => by obtain rfl := Option.some.inj hk; exact hb), fun i cs2 t2 fr2 h2 => by
    by_cases e : i = b
    · subst e
      rw [h] at h2
      have h3 := Option.some.inj h2
      injection h3 with e1 e2 e3
      subst e1 e2
      exact ⟨fr', h'⟩
    · exact ⟨fr2, (hg.block i (in_heap h2) (fun e' => e (Option.some.inj e'))).trans h2⟩⟩
theorem relOp_load_mid {ops : Array Oper} {R : World → World → Prop} {o : Oper} {a : Act} {w : World} (hrf : ∀ w, R w w) (hg : Region.wanted o (yielded ops a.tmps) = true) (x : Operand) (ho : o.op = .load 29 x) (b off : Nat) (hx : a.eval x = .pointer (some ⟨b, off, none⟩))
    (l : List UInt8) (hc : w.rangeAt b off (l.map V8)) (hl : l.length = 32) : relOp Tryd.prog ops R (Post.is (R := R) (sumV l)).p o a w := by
  unfold relOp wpList
  rw [if_pos hg]
  exact .inl (wp_load_mid 29 x ho b off hx (l.map V8) _ hc Tryd.underlying29 rfl (by rw [show (Tryd.prog.info? 29).map (·.size) = some 32 from by kernel_rfl, List.length_map, hl]) ⟨rfl, _, rfl, hrf _, rfl⟩)
theorem relOp_load_sum {ops : Array Oper} {R : World → World → Prop} {o : Oper} {a : Act} {w : World} (hrf : ∀ w, R w w) (hg : Region.wanted o (yielded ops a.tmps) = true) (x : Operand) (ho : o.op = .load 29 x) (g : Nat) (hx : a.eval x = .pointer (some ⟨g, 0, none⟩))
    (t : TypeId) (fr : Nat × Nat) (l : List UInt8) (hgl : w.heap[g]? = some (.cells (l.map V8).toArray t fr)) (hl : l.length = 32) : relOp Tryd.prog ops R (Post.is (R := R) (sumV l)).p o a w := by
  unfold relOp wpList
  rw [if_pos hg]
  exact .inl (wp_load_row 29 x ho g hx t (l.map V8).toArray fr _ hgl Tryd.underlying29 rfl (size_sum l hl) ⟨rfl, _, rfl, hrf _, rfl⟩)
theorem eval_put_ne (a : Act) (d t : Tmp) (v : Value) (h : (d == t) = false) : (a.put (some d) v).eval (.tmp t) = a.eval (.tmp t) := by
  have h' : d ≠ t := by simpa using h
  simp [Act.put, Act.eval, Array.getElem?_setIfInBounds_ne h']
theorem size_put (a : Act) (d : Option Tmp) (v : Value) : (a.put d v).tmps.size = a.tmps.size := by
  cases d <;> simp [Act.put]
theorem eval_put_eq (a : Act) (d : Tmp) (v : Value) (h : d < a.tmps.size) : (a.put (some d) v).eval (.tmp d) = v := by
  simp [Act.put, Act.eval, h]
end Go.Proofs.YtpdhgijeanbmcaaDoor
