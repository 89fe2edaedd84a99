/- THE CARD of ChainSound, second form: for arguments of bulk at most 1048576: the law answers true and the arguments read as they did. -/
import Derived.Test.YtpdhgijeanbmcaaDoorJCdCard5
/- LiveA -/
namespace Go.Proofs.YtpdhgijeanbmcaaDoor
open Go.RowKit Go.Great

theorem RetS.sums {w w' : World} {L : List (List UInt8)} {e : Ending} (h : RetS w L e w') (hL : ∀ x ∈ L, x.length = 32) : ∃ B C, e = .returned (.slice B L.length C) ∧ Sums w' B L.length C L ∧ Below w.heap.size w w' := by
  obtain ⟨B, C, h1, h2⟩ := h
  exact ⟨B, C, h1, h2.sums hL, h2.low⟩
theorem RetSE.sums {w w' : World} {L : List (List UInt8)} {k : Int} {e : Ending} (h : RetSE w L k e w') (hL : ∀ x ∈ L, x.length = 32) : ∃ B C, e = .returned (.tuple #[.slice B L.length C, .int .i64 k]) ∧ Sums w' B L.length C L ∧ Below w.heap.size w w' := by
  obtain ⟨B, C, h1, h2⟩ := h
  exact ⟨B, C, h1, h2.sums hL, h2.low⟩
theorem three_len (x y z : List UInt8) (hx : x.length = 32) (hy : y.length = 32) (hz : z.length = 32) : ∀ u ∈ [x, y, z], u.length = 32 := by
  intro u hu
  simp only [List.mem_cons, List.not_mem_nil, or_false] at hu
  rcases hu with rfl | rfl | rfl
  · exact hx
  · exact hy
  · exact hz
theorem one_len (x : List UInt8) (hx : x.length = 32) : ∀ u ∈ [x], u.length = 32 := by
  intro u hu
  rw [List.mem_singleton] at hu
  subst hu
  exact hx
theorem live_leaves (w : World) (la lb lc : List UInt8) (ha : la = Tree.leaf [97]) (hb : lb = Tree.leaf [98]) (hc : lc = Tree.leaf [99]) (hT : Tabs w) :
    Calls Tryd.prog 16 #[.slice (some ⟨w.heap.size, 0, none⟩) 3 3] (w.alloc (.cells #[.string ⟨#[97]⟩, .string ⟨#[98]⟩, .string ⟨#[99]⟩] 9)) fun e w' => ∃ B C, e = .returned (.slice B 3 C) ∧ Sums w' B 3 C [la, lb, lc] ∧ Below w.heap.size w w' := by
  subst ha hb hc
  refine (leaves_any [[97], [98], [99]] (some ⟨w.heap.size, 0, none⟩) 3 3 _ (hT.below (low1 _ _)) ⟨rfl, fun _ => ⟨w.heap.size, 0, rfl, fun k hk => ?_⟩⟩ (by omega) (fun t ht => ?_)).mono ?_
  · have : k = 0 ∨ k = 1 ∨ k = 2 := by simp at hk; omega
    rcases this with rfl | rfl | rfl <;> exact cell_block (blk1 _ _) rfl
  · simp only [List.mem_cons, List.not_mem_nil, or_false] at ht
    rcases ht with rfl | rfl | rfl <;> decide
  · rintro e w' h
    obtain ⟨B, C, h1, h2, h3⟩ := h.sums (three_len _ _ _ rfl rfl rfl)
    exact ⟨B, C, h1, h2, bthen (low1 _ _) h3⟩
theorem live_path (W : World) (la lb lc p0 : List UInt8) (B : Option Addr) (C : Nat) (h0 : p0 = Tree.node la lb) (hT : Tabs W) (S : Sums W B 3 C [la, lb, lc]) :
    Calls Tryd.prog 24 #[.slice B 3 C, .int .i64 2] W fun e w' => ∃ B C, e = .returned (.tuple #[.slice B 1 C, .int .i64 0]) ∧ Sums w' B 1 C [p0] ∧ Below W.heap.size W w' := by
  subst h0
  have h := path_any [la, lb, lc] B 3 C 2 W (by omega) (by omega) hT S
  rw [Tree.path3] at h
  exact h.mono fun e w' h => h.sums (one_len _ rfl)
theorem live_growth (W : World) (la lb lc : List UInt8) (B : Option Addr) (C : Nat) (hl : lc.length = 32) (hT : Tabs W) (S : Sums W B 3 C [la, lb, lc]) :
    Calls Tryd.prog 26 #[.slice B 3 C, .int .i64 2] W fun e w' => ∃ B C, e = .returned (.tuple #[.slice B 1 C, .int .i64 0]) ∧ Sums w' B 1 C [lc] ∧ Below W.heap.size W w' := by
  have h := growth_any [la, lb, lc] B 3 C 2 W (by omega) (by omega) (by omega) hT S
  rw [Tree.sub3] at h
  exact h.mono fun e w' h => h.sums (one_len _ hl)
def pTxt (l : List UInt8) : Post Low := ⟨fun v w => ∃ a n c, v = .slice a n c ∧ Txt w a n c l, fun _ _ _ ⟨a, n, c, e, h⟩ hl => ⟨a, n, c, e, h.below hl⟩⟩
theorem root_is (s : List UInt8) (L : List (List UInt8)) (a : Option Addr) (n c : Nat) (w : World) (hs : Tree.root L = s) (hlen : L.length < 4611686018427387904) (hT : Tabs w) (S : Sums w a n c L) : Calls Tryd.prog 21 #[.slice a n c] w (RetSum w s) := by
  subst hs
  exact root_any L a n c w hlen hT S
theorem holds_is (b : Bool) (root leaf : List UInt8) (a : Option Addr) (c : Nat) (x : List UInt8) (w : World) (hb : Tree.holds root 3 2 leaf [x] = b) (hr : root.length = 32) (hl : leaf.length = 32) (hT : Tabs w) (S : Sums w a 1 c [x]) :
    Calls Tryd.prog 30 #[sumV root, .int .i64 3, .int .i64 2, sumV leaf, .slice a 1 c] w fun e w' => e = .returned (.bool b) ∧ Below w.heap.size w w' := by
  subst hb
  exact holds_any root leaf 3 2 a 1 c [x] w (by omega) (by omega) (by omega) hr hl hT S
theorem extends_is (b : Bool) (root old x : List UInt8) (a : Option Addr) (c : Nat) (w : World) (hb : Tree.extends_ 2 old 3 root [x] = b) (hr : root.length = 32) (ho : old.length = 32) (hT : Tabs w) (S : Sums w a 1 c [x]) (hs3 : split 3 = 2) :
    Calls Tryd.prog 32 #[.int .i64 2, sumV old, .int .i64 3, sumV root, .slice a 1 c] w fun e w' => e = .returned (.bool b) ∧ Below w.heap.size w w' := by
  subst hb
  exact extends_three root old x a c w hr ho hT S hs3
theorem lit97_cells : (([97] : List UInt8).map V8).toArray = #[Value.int .u8 97] := by simp [V8]
theorem lit97 (W : World) : Txt (W.alloc (.cells #[Value.int .u8 97] 5)) (some ⟨W.heap.size, 0, none⟩) 1 1 [97] := by
  rw [← lit97_cells]
  exact Txt.of_block (blk1 _ _) rfl
section
variable {P : Program} {ops : Array Oper} {rest : List Oper} {o : Oper} {a : Act} {w : World} {Q : Exit → Act → World → Prop}
theorem wpList_load_mid_sumG (hgd : Region.wanted o (yielded ops a.tmps) = true) (ty : TypeId) (x : Operand) (ho : o.op = .load ty x) (b off : Nat) (hx : a.eval x = .pointer (some ⟨b, off, none⟩))
    (l : List UInt8) (n : Nat) (e : TypeId) (hc : w.rangeAt b off (l.map V8)) (hu : P.underlying ty = some (.array n e)) (hi : (P.info? ty).map (·.size) = some n) (hl : l.length = n) (h : wpList P ops Q rest (a.put o.dst (sumV l)) w) : wpList P ops Q (o :: rest) a w :=
  wpList_guarded hgd (wpList_load_mid_sum rfl ty x ho b off hx l n e hc hu hi hl h)
theorem wpList_load_sumG (hgd : Region.wanted o (yielded ops a.tmps) = true) (ty : TypeId) (x : Operand) (ho : o.op = .load ty x) (g : Nat) (hx : a.eval x = .pointer (some ⟨g, 0, none⟩))
    (t : TypeId) (l : List UInt8) (n : Nat) (fr : Nat × Nat) (e : TypeId) (hg : w.heap[g]? = some (.cells (l.map V8).toArray t fr)) (hu : P.underlying ty = some (.array n e))
    (hi : (P.info? ty).map (·.size) = some n) (hl : l.length = n) (h : wpList P ops Q rest (a.put o.dst (sumV l)) w) : wpList P ops Q (o :: rest) a w :=
  wpList_guarded hgd (wpList_load_sum rfl ty x ho g hx t l n fr e hg hu hi hl h)
end
/-- Below block N nothing turns; above it blocks keep their cells (a mark may turn). -/
structure RN (N : Nat) (w w' : World) : Prop where
  low : Below N w w'
  keep : ∀ (i : Nat) (cs : Array Value) (t : TypeId) (fr : Nat × Nat), w.heap[i]? = some (.cells cs t fr) → ∃ fr', w'.heap[i]? = some (.cells cs t fr')
theorem RN.refl (N : Nat) (w : World) : RN N w w := ⟨Below.refl _ _, fun _ _ _ fr h => ⟨fr, h⟩⟩
theorem RN.trans (N : Nat) (w w' w'' : World) (h : RN N w w') (h' : RN N w' w'') : RN N w w'' :=
  ⟨h.low.trans h'.low, fun i cs t fr hh => by
    obtain ⟨fr1, h1⟩ := h.keep i cs t fr hh
    exact h'.keep i cs t fr1 h1⟩
theorem RN.of_low {N : Nat} {w w' : World} (h : Below w.heap.size w w') (hN : N ≤ w.heap.size) : RN N w w' :=
  ⟨h.mono hN, fun _ _ _ fr hh => ⟨fr, bblk h hh⟩⟩
theorem lowR {w wr : World} (h : RN w.heap.size w.drew wr) : Below w.heap.size w wr := Below.trans (Low.drew w) h.low
theorem sizeR {w wr : World} (h : RN w.heap.size w.drew wr) : w.heap.size ≤ wr.heap.size := h.low.size
/-- A literal of one byte, 97, in memory of the call's own. -/
def pLit (N : Nat) : Post (RN N) := ⟨fun v w => ∃ b, v = .slice (some ⟨b, 0, none⟩) 1 1 ∧ N ≤ b ∧ ∃ t fr, w.heap[b]? = some (.cells #[Value.int .u8 97] t fr), fun _ _ _ ⟨b, e, hb, t, fr, h⟩ hR => by
  obtain ⟨fr', h'⟩ := hR.keep b _ t fr h
  exact ⟨b, e, hb, t, fr', h'⟩⟩
theorem txt97 {W : World} {b : Nat} {t : TypeId} {fr : Nat × Nat} (h : W.heap[b]? = some (.cells #[Value.int .u8 97] t fr)) : Txt W (some ⟨b, 0, none⟩) 1 1 [97] := by
  rw [← lit97_cells] at h
  exact Txt.of_block h rfl
theorem conv_mark (b n c : Nat) (W : World) (cs : Array Value) (t : TypeId) (fr : Nat × Nat) (h : W.heap[b]? = some (.cells cs t fr)) : ∃ W', (convert 22 22 (.slice (some ⟨b, 0, none⟩) n c)).run Tryd.prog W = .ok (.slice (some ⟨b, 0, none⟩) n c) W' ∧ W.grownBy W' (some b) ∧ ∃ fr', W'.heap[b]? = some (.cells cs t fr') := by
  have hsh : W.shape? b = some (t, cs.size) := by simp [World.shape?, h]
  refine ⟨W.freeze ⟨b, cs.size, none⟩ 1, ?_, ?_, ?_⟩
  · simp [convert, run_underlying Tryd.underlying22, run_underlying Tryd.underlying5, markStringish, hsh]
  · refine ⟨rfl, rfl, rfl, ?_, fun i hi hne => ?_⟩
    · simp [World.freeze]
    · have : b ≠ i := fun e => hne (by rw [e])
      simp [World.freeze, Array.getElem?_modify, this]
  · simp [World.freeze, Array.getElem?_modify, h]
theorem RN.of_mark {N b : Nat} {w w' : World} {cs : Array Value} {t : TypeId} {fr fr' : Nat × Nat} (hN : N ≤ w.heap.size) (hb : N ≤ b) (hg : w.grownBy w' (some b)) (h : w.heap[b]? = some (.cells cs t fr)) (h' : w'.heap[b]? = some (.cells cs t fr')) : RN N w w' :=
  ⟨(Below.refl N w).grown hg hN (fun k hk => by obtain rfl := Option.some.inj hk; exact hb), fun i cs2 t2 fr2 h2 => by
    by_cases e : i = b
    · subst e
      rw [h] at h2
      have h3 := Option.some.inj h2
      injection h3 with e1 e2 e3
      subst e1 e2
      exact ⟨fr', h'⟩
    · exact ⟨fr2, (hg.block i (in_heap h2) (fun e' => e (Option.some.inj e'))).trans h2⟩⟩
theorem relOp_load_mid {ops : Array Oper} {R : World → World → Prop} {o : Oper} {a : Act} {w : World} (hrf : ∀ w, R w w) (hg : Region.wanted o (yielded ops a.tmps) = true) (x : Operand) (ho : o.op = .load 29 x) (b off : Nat) (hx : a.eval x = .pointer (some ⟨b, off, none⟩))
    (l : List UInt8) (hc : w.rangeAt b off (l.map V8)) (hl : l.length = 32) : relOp Tryd.prog ops R (Post.is (R := R) (sumV l)).p o a w := by
  unfold relOp wpList
  rw [if_pos hg]
  exact .inl (wp_load_mid 29 x ho b off hx (l.map V8) _ hc Tryd.underlying29 rfl (by rw [show (Tryd.prog.info? 29).map (·.size) = some 32 from by kernel_rfl, List.length_map, hl]) ⟨rfl, _, rfl, hrf _, rfl⟩)
theorem relOp_load_sum {ops : Array Oper} {R : World → World → Prop} {o : Oper} {a : Act} {w : World} (hrf : ∀ w, R w w) (hg : Region.wanted o (yielded ops a.tmps) = true) (x : Operand) (ho : o.op = .load 29 x) (g : Nat) (hx : a.eval x = .pointer (some ⟨g, 0, none⟩))
    (t : TypeId) (fr : Nat × Nat) (l : List UInt8) (hgl : w.heap[g]? = some (.cells (l.map V8).toArray t fr)) (hl : l.length = 32) : relOp Tryd.prog ops R (Post.is (R := R) (sumV l)).p o a w := by
  unfold relOp wpList
  rw [if_pos hg]
  exact .inl (wp_load_row 29 x ho g hx t (l.map V8).toArray fr _ hgl Tryd.underlying29 rfl (size_sum l hl) ⟨rfl, _, rfl, hrf _, rfl⟩)
theorem eval_put_ne (a : Act) (d t : Tmp) (v : Value) (h : (d == t) = false) : (a.put (some d) v).eval (.tmp t) = a.eval (.tmp t) := by
  have h' : d ≠ t := by simpa using h
  simp [Act.put, Act.eval, Array.getElem?_setIfInBounds_ne h']
theorem size_put (a : Act) (d : Option Tmp) (v : Value) : (a.put d v).tmps.size = a.tmps.size := by
  cases d <;> simp [Act.put]
theorem eval_put_eq (a : Act) (d : Tmp) (v : Value) (h : d < a.tmps.size) : (a.put (some d) v).eval (.tmp d) = v := by
  simp [Act.put, Act.eval, h]
end Go.Proofs.YtpdhgijeanbmcaaDoor

/- Live -/
namespace Go.Proofs.YtpdhgijeanbmcaaDoor
open Go.RowKit Go.Great

def yLit (N : Nat) : Yld (RN N) := Yld.pr (pLit N).p (pLit N).st

set_option maxRecDepth 100000 in
set_option maxHeartbeats 100000000 in
theorem live_any (w : World) (hT : Tabs w) : Calls Tryd.prog 14 #[] w fun e w' => e = .returned (.bool true) ∧ Below w.heap.size w w' := by
  obtain ⟨la, hla, hlal⟩ : ∃ x, x = Tree.leaf [97] ∧ x.length = 32 := ⟨_, rfl, rfl⟩
  obtain ⟨lb, hlb, hlbl⟩ : ∃ x, x = Tree.leaf [98] ∧ x.length = 32 := ⟨_, rfl, rfl⟩
  obtain ⟨lc, hlc, hlcl⟩ : ∃ x, x = Tree.leaf [99] ∧ x.length = 32 := ⟨_, rfl, rfl⟩
  obtain ⟨p0, hp0, hp0l⟩ : ∃ x, x = Tree.node la lb ∧ x.length = 32 := ⟨_, rfl, rfl⟩
  obtain ⟨r, hr, hrl⟩ : ∃ x, x = Tree.node p0 lc ∧ x.length = 32 := ⟨_, rfl, rfl⟩
  have f1 : Tree.holds r 3 2 lc [p0] = true := by rw [Tree.holds3, hr]; exact beq_self_eq_true _
  have f2 : Tree.holds r 3 2 lb [p0] = false := by rw [Tree.holds3, hr, hp0, hla, hlb, hlc]; exact beq_eq_false_iff_ne.2 live_ne1
  have f3 : Tree.extends_ 2 p0 3 r [lc] = true := by rw [Tree.ext3, hr]; exact beq_self_eq_true _
  have f4 : Tree.extends_ 2 r 3 r [lc] = false := by rw [Tree.ext3, hr, hp0, hla, hlb, hlc]; exact beq_eq_false_iff_ne.2 live_ne2
  have f5 : Tree.root [la, lb] = p0 := by rw [Tree.root2, hp0]
  have f6 : Tree.root [la, lb, lc] = r := by rw [Tree.root3, hr, hp0]
  have HF1 := Lib.hid f1
  have HF2 := Lib.hid f2
  have HF3 := Lib.hid f3
  have HF4 := Lib.hid f4
  have HF5 := Lib.hid f5
  have HF6 := Lib.hid f6
  have Hla := Lib.hid hla
  have Hlb := Lib.hid hlb
  have Hlc := Lib.hid hlc
  have Hp0 := Lib.hid hp0
  have La := Lib.hid hlal
  have Lb := Lib.hid hlbl
  have Lc := Lib.hid hlcl
  have Lp := Lib.hid hp0l
  have Lr := Lib.hid hrl
  have hs3 := Lib.hid Tree.split3
  clear hla hlal hlb hlbl hlc hlcl hp0 hp0l hr hrl f1 f2 f3 f4 f5 f6
  go_enter Tryd.func14, Tryd.ntmps14
  go_wp2_with (first | (go_at_call 16; refine (live_leaves w la lb lc Hla.out Hlb.out Hlc.out hT).mono ?_; rintro e w1 ⟨B1, C1, rfl, hS, hB⟩; have HS1 := Lib.hid hS; have HB1 := Lib.hid hB; clear hS hB) | (go_at_call 24; refine (live_path w1 la lb lc p0 B1 C1 Hp0.out (hT.below HB1.out) HS1.out).mono ?_; rintro e w2 ⟨B2, C2, rfl, hS, hB⟩; have HS2 := Lib.hid hS; have HB2 := Lib.hid hB; clear hS hB) | (go_at_call 26; refine (live_growth w2 la lb lc B1 C1 Lc.out ((hT.below HB1.out).below HB2.out) (HS1.out.below HB2.out)).mono ?_; rintro e w3 ⟨B4, C4, rfl, hS, hB⟩; have HS3 := Lib.hid hS; have HB3 := Lib.hid hB; clear hS hB) | (go_at_call 21; refine (root_is r [la, lb, lc] B1 3 C1 w3 HF6.out (by simp) (((hT.below HB1.out).below HB2.out).below HB3.out) ((HS1.out.below HB2.out).below HB3.out)).mono ?_; rintro e w4 ⟨rfl, hB⟩; have HB4 := Lib.hid hB; clear hB) | (refine wpList_store_row' rfl 29 _ _ rfl w4.heap.size (r.map V8).toArray rfl rfl _ _ (blk1 _ _) (size_sum r Lr.out) (by simp [Lr.out]) (oneCells r) ?_; intro w5 h5 g5 s5; have H5 := Lib.hid h5; have G5 := Lib.hid g5; clear h5 g5 s5))
  have hl4 : Below w.heap.size w w4 := bthen (bthen (bthen HB1.out HB2.out) HB3.out) HB4.out
  have h45 : Low w4 w5 := (low1 _ _).grown G5.out (by simp) (fun k hk => by obtain rfl := Option.some.inj hk; exact Nat.le_refl _)
  have hL5 : Below w.heap.size w w5 := bthen hl4 h45
  have sl := (((HS1.out.below HB2.out).below HB3.out).below HB4.out).below h45
  have sp := ((HS2.out.below HB3.out).below HB4.out).below h45
  have sg := (HS3.out.below HB4.out).below h45
  obtain ⟨b, o, hb, hget⟩ := sl.get
  obtain rfl := hb (by omega)
  have SL := Lib.hid sl
  have SP := Lib.hid sp
  have SG := Lib.hid sg
  have HL := Lib.hid hL5
  have x0 := Lib.hid (hget 0 (by simp))
  have x1 := Lib.hid (hget 1 (by simp))
  have x2 := Lib.hid (hget 2 (by simp))
  have hcap := sl.cap
  obtain ⟨rb, hrb⟩ : ∃ rb, rb = w4.heap.size := ⟨_, rfl⟩
  rw [← hrb] at H5 ⊢
  clear hl4 h45 hL5 sl sp sg hb hget HS1 HS2 HS3 HB1 HB2 HB3 HB4 G5 hrb
  refine wp_region_reg 59 80 (RN w5.heap.size) (by kernel_rfl) (by kernel_rfl) (by kernel_rfl) (by kernel_rfl) (by kernel_rfl) (RN.refl _) (RN.trans _) [.is ((.int .i64 0 : Value)), .is ((.int .i64 0 : Value)), .is ((.bool true : Value)), .is ((.bool true : Value)), .is ((.slice B2 1 C2 : Value)), .is ((.int .i64 1 : Value)), .is ((.bool true : Value)), .is ((.bool true : Value)), .is ((.bool true : Value)), .is ((.int .i64 0 : Value)), .is ((.int .i64 0 : Value)), .is ((.bool true : Value)), .is ((.bool true : Value)), .is ((.bool true : Value)), .is ((.slice B4 1 C4 : Value)), .is ((.int .i64 1 : Value)), .is ((.bool true : Value)), .is ((.bool true : Value)), .is ((.bool true : Value)), yLit w5.heap.size, yLit w5.heap.size, .is (sumV la), .is ((.slice (some ⟨b, o, none⟩) 3 C1 : Value)), .is ((.pointer (some ⟨b, o + 0 * 32, none⟩) : Value)), .is (sumV la), .is ((.bool true : Value)), .is ((.bool true : Value)), .is ((.bool true : Value)), .is (sumV r), .is ((.slice (some ⟨b, o, none⟩) 3 C1 : Value)), .is ((.pointer (some ⟨b, o + 2 * 32, none⟩) : Value)), .is (sumV lc), .is ((.slice B2 1 C2 : Value)), .is ((.bool true : Value)), .is ((.bool true : Value)), .is ((.bool true : Value)), .is (sumV r), .is ((.slice (some ⟨b, o, none⟩) 3 C1 : Value)), .is ((.pointer (some ⟨b, o + 1 * 32, none⟩) : Value)), .is (sumV lb), .is ((.slice B2 1 C2 : Value)), .is ((.bool false : Value)), .is ((.bool true : Value)), .is ((.bool true : Value)), .is ((.bool true : Value)), .is ((.slice (some ⟨b, o, none⟩) 3 C1 : Value)), .is ((.slice (some ⟨b, o, none⟩) 2 C1 : Value)), .is (sumV p0), .is (sumV r), .is ((.slice B4 1 C4 : Value)), .is ((.bool true : Value)), .is ((.bool true : Value)), .is ((.bool true : Value)), .is (sumV r), .is (sumV r), .is ((.slice B4 1 C4 : Value)), .is ((.bool false : Value)), .is ((.bool true : Value)), .is ((.bool true : Value))] rfl (fun vs => ?_) (fun vs wr hR h => ?_)
  ·
    refine RegHead.cons (fun wr hR h => ?_) ?_
    · exact relAt.pure (RN.refl _) (by kernel_rfl) (by kernel_rfl)
    refine RegHead.cons (fun wr hR h => ?_) ?_
    · refine relAt.call (by kernel_rfl) (by kernel_rfl) ((num_any 0 wr).mono ?_)
      rintro e w6 ⟨rfl, rfl⟩
      exact ⟨_, rfl, RN.refl _ _, rfl⟩
    refine RegHead.cons (fun wr hR h => ?_) ?_
    · exact relAt.pure (RN.refl _) (by kernel_rfl) (by kernel_rfl)
    refine RegHead.cons (fun wr hR h => ?_) ?_
    · exact relAt.pure (RN.refl _) (by kernel_rfl) (by kernel_rfl)
    refine RegHead.cons (fun wr hR h => ?_) ?_
    · exact relAt.pure (RN.refl _) (by kernel_rfl) (by kernel_rfl)
    refine RegHead.cons (fun wr hR h => ?_) ?_
    · exact relAt.pure (RN.refl _) (by kernel_rfl) (by kernel_rfl)
    refine RegHead.cons (fun wr hR h => ?_) ?_
    · exact relAt.pure (RN.refl _) (by kernel_rfl) (by kernel_rfl)
    refine RegHead.cons (fun wr hR h => ?_) ?_
    · exact relAt.pure (RN.refl _) (by kernel_rfl) (by kernel_rfl)
    refine RegHead.cons (fun wr hR h => ?_) ?_
    · exact relAt.pure (RN.refl _) (by kernel_rfl) (by kernel_rfl)
    refine RegHead.cons (fun wr hR h => ?_) ?_
    · exact relAt.pure (RN.refl _) (by kernel_rfl) (by kernel_rfl)
    refine RegHead.cons (fun wr hR h => ?_) ?_
    · refine relAt.call (by kernel_rfl) (by kernel_rfl) ((num_any 0 wr).mono ?_)
      rintro e w6 ⟨rfl, rfl⟩
      exact ⟨_, rfl, RN.refl _ _, rfl⟩
    refine RegHead.cons (fun wr hR h => ?_) ?_
    · exact relAt.pure (RN.refl _) (by kernel_rfl) (by kernel_rfl)
    refine RegHead.cons (fun wr hR h => ?_) ?_
    · exact relAt.pure (RN.refl _) (by kernel_rfl) (by kernel_rfl)
    refine RegHead.cons (fun wr hR h => ?_) ?_
    · exact relAt.pure (RN.refl _) (by kernel_rfl) (by kernel_rfl)
    refine RegHead.cons (fun wr hR h => ?_) ?_
    · exact relAt.pure (RN.refl _) (by kernel_rfl) (by kernel_rfl)
    refine RegHead.cons (fun wr hR h => ?_) ?_
    · exact relAt.pure (RN.refl _) (by kernel_rfl) (by kernel_rfl)
    refine RegHead.cons (fun wr hR h => ?_) ?_
    · exact relAt.pure (RN.refl _) (by kernel_rfl) (by kernel_rfl)
    refine RegHead.cons (fun wr hR h => ?_) ?_
    · exact relAt.pure (RN.refl _) (by kernel_rfl) (by kernel_rfl)
    refine RegHead.cons (fun wr hR h => ?_) ?_
    · exact relAt.pure (RN.refl _) (by kernel_rfl) (by kernel_rfl)
    refine RegHead.cons (fun wr hR h => ?_) ?_
    · exact relAt.value (u := .slice (some ⟨wr.heap.size, 0, none⟩) 1 1) (w' := wr.alloc (.cells #[.int .u8 97] 5)) (by kernel_rfl) (by kernel_rfl) (RN.of_low (low1 _ _) (sizeR hR)) ⟨_, rfl, sizeR hR, _, _, blk1 _ _⟩
    refine RegHead.cons (fun wr hR h => ?_) ?_
    · have ex : ∃ b, vs 19 = .slice (some ⟨b, 0, none⟩) 1 1 ∧ w5.heap.size ≤ b ∧ ∃ t fr, wr.heap[b]? = some (.cells #[Value.int .u8 97] t fr) := allOf_iff.1 h 19 (by decide)
      obtain ⟨b4, hv4, hb4, t4, fr4, hh4⟩ := ex
      obtain ⟨W', hcv, hg4, fr5, hh5⟩ := conv_mark b4 1 1 wr _ t4 fr4 hh4
      exact relAt.valueS (s := convert 22 22 (vs 19)) (by kernel_rfl) (by kernel_rfl) (by rw [hv4]; exact hcv) (RN.of_mark (sizeR hR) hb4 hg4 hh4 hh5) ⟨_, rfl, hb4, _, _, hh5⟩
    refine RegHead.cons (fun wr hR h => ?_) ?_
    · have ex : ∃ b, vs 20 = .slice (some ⟨b, 0, none⟩) 1 1 ∧ w5.heap.size ≤ b ∧ ∃ t fr, wr.heap[b]? = some (.cells #[Value.int .u8 97] t fr) := allOf_iff.1 h 20 (by decide)
      obtain ⟨b4, hv4, hb4, t4, fr4, hh4⟩ := ex
      refine relAt.call (f := 17) (args := #[vs 20]) (by kernel_rfl) (by kernel_rfl) ?_
      rw [hv4]
      refine (leaf_any [97] (some ⟨b4, 0, none⟩) 1 1 wr (hT.below (bthen HL.out (lowR hR))) (txt97 hh4) (by decide)).mono ?_
      rintro e w6 ⟨rfl, hB⟩
      exact ⟨_, rfl, RN.of_low hB (sizeR hR), congrArg sumV Hla.out.symm⟩
    refine RegHead.cons (fun wr hR h => ?_) ?_
    · exact relAt.pure (RN.refl _) (by kernel_rfl) (by kernel_rfl)
    refine RegHead.cons (fun wr hR h => ?_) ?_
    · exact relAt.pure (RN.refl _) (by kernel_rfl) (by kernel_rfl)
    refine RegHead.cons (fun wr hR h => ?_) ?_
    · exact relAt.pureS (RN.refl _) (by kernel_rfl) (by kernel_rfl) (run_load_at_sum wr b (o + 0 * 32) la (range_low x0.out (lowR hR)) La.out)
    refine RegHead.cons (fun wr hR h => ?_) ?_
    · exact relAt.pureS (RN.refl _) (by kernel_rfl) (by kernel_rfl) (run_eql_sums wr (.tmp 42) (.tmp 45) la la true La.out La.out (beq_self_eq_true _))
    refine RegHead.cons (fun wr hR h => ?_) ?_
    · exact relAt.pure (RN.refl _) (by kernel_rfl) (by kernel_rfl)
    refine RegHead.cons (fun wr hR h => ?_) ?_
    · exact relAt.pure (RN.refl _) (by kernel_rfl) (by kernel_rfl)
    refine RegHead.cons (fun wr hR h => ?_) ?_
    · exact relAt.pureS (RN.refl _) (by kernel_rfl) (by kernel_rfl) (run_load_box_sum wr rb _ _ r (bblk (lowR hR) H5.out) Lr.out)
    refine RegHead.cons (fun wr hR h => ?_) ?_
    · exact relAt.pure (RN.refl _) (by kernel_rfl) (by kernel_rfl)
    refine RegHead.cons (fun wr hR h => ?_) ?_
    · exact relAt.pure (RN.refl _) (by kernel_rfl) (by kernel_rfl)
    refine RegHead.cons (fun wr hR h => ?_) ?_
    · exact relAt.pureS (RN.refl _) (by kernel_rfl) (by kernel_rfl) (run_load_at_sum wr b (o + 2 * 32) lc (range_low x2.out (lowR hR)) Lc.out)
    refine RegHead.cons (fun wr hR h => ?_) ?_
    · exact relAt.pure (RN.refl _) (by kernel_rfl) (by kernel_rfl)
    refine RegHead.cons (fun wr hR h => ?_) ?_
    · refine relAt.call (by kernel_rfl) (by kernel_rfl) ((holds_is true r lc B2 C2 p0 wr HF1.out Lr.out Lc.out (hT.below (bthen HL.out (lowR hR))) (SP.out.below (lowR hR))).mono ?_)
      rintro e w6 ⟨rfl, hB⟩
      exact ⟨_, rfl, RN.of_low hB (sizeR hR), rfl⟩
    refine RegHead.cons (fun wr hR h => ?_) ?_
    · exact relAt.pure (RN.refl _) (by kernel_rfl) (by kernel_rfl)
    refine RegHead.cons (fun wr hR h => ?_) ?_
    · exact relAt.pure (RN.refl _) (by kernel_rfl) (by kernel_rfl)
    refine RegHead.cons (fun wr hR h => ?_) ?_
    · exact relAt.pureS (RN.refl _) (by kernel_rfl) (by kernel_rfl) (run_load_box_sum wr rb _ _ r (bblk (lowR hR) H5.out) Lr.out)
    refine RegHead.cons (fun wr hR h => ?_) ?_
    · exact relAt.pure (RN.refl _) (by kernel_rfl) (by kernel_rfl)
    refine RegHead.cons (fun wr hR h => ?_) ?_
    · exact relAt.pure (RN.refl _) (by kernel_rfl) (by kernel_rfl)
    refine RegHead.cons (fun wr hR h => ?_) ?_
    · exact relAt.pureS (RN.refl _) (by kernel_rfl) (by kernel_rfl) (run_load_at_sum wr b (o + 1 * 32) lb (range_low x1.out (lowR hR)) Lb.out)
    refine RegHead.cons (fun wr hR h => ?_) ?_
    · exact relAt.pure (RN.refl _) (by kernel_rfl) (by kernel_rfl)
    refine RegHead.cons (fun wr hR h => ?_) ?_
    · refine relAt.call (by kernel_rfl) (by kernel_rfl) ((holds_is false r lb B2 C2 p0 wr HF2.out Lr.out Lb.out (hT.below (bthen HL.out (lowR hR))) (SP.out.below (lowR hR))).mono ?_)
      rintro e w6 ⟨rfl, hB⟩
      exact ⟨_, rfl, RN.of_low hB (sizeR hR), rfl⟩
    refine RegHead.cons (fun wr hR h => ?_) ?_
    · exact relAt.pure (RN.refl _) (by kernel_rfl) (by kernel_rfl)
    refine RegHead.cons (fun wr hR h => ?_) ?_
    · exact relAt.pure (RN.refl _) (by kernel_rfl) (by kernel_rfl)
    refine RegHead.cons (fun wr hR h => ?_) ?_
    · exact relAt.pure (RN.refl _) (by kernel_rfl) (by kernel_rfl)
    refine RegHead.cons (fun wr hR h => ?_) ?_
    · exact relAt.pure (RN.refl _) (by kernel_rfl) (by kernel_rfl)
    refine RegHead.cons (fun wr hR h => ?_) ?_
    · exact relAt.pureS (RN.refl _) (by kernel_rfl) (by kernel_rfl) (run_sums_to wr (some ⟨b, o, none⟩) 3 C1 2 (fun ad h => ⟨b, o, (Option.some.inj h).symm⟩) (by omega))
    refine RegHead.cons (fun wr hR h => ?_) ?_
    · refine relAt.call (by kernel_rfl) (by kernel_rfl) ((root_is p0 [la, lb] (some ⟨b, o, none⟩) 2 C1 wr HF5.out (by simp) (hT.below (bthen HL.out (lowR hR))) ((SL.out.take 2 (by omega)).below (lowR hR))).mono ?_)
      rintro e w6 ⟨rfl, hB⟩
      exact ⟨_, rfl, RN.of_low hB (sizeR hR), rfl⟩
    refine RegHead.cons (fun wr hR h => ?_) ?_
    · exact relAt.pureS (RN.refl _) (by kernel_rfl) (by kernel_rfl) (run_load_box_sum wr rb _ _ r (bblk (lowR hR) H5.out) Lr.out)
    refine RegHead.cons (fun wr hR h => ?_) ?_
    · exact relAt.pure (RN.refl _) (by kernel_rfl) (by kernel_rfl)
    refine RegHead.cons (fun wr hR h => ?_) ?_
    · refine relAt.call (by kernel_rfl) (by kernel_rfl) ((extends_is true r p0 lc B4 C4 wr HF3.out Lr.out Lp.out (hT.below (bthen HL.out (lowR hR))) (SG.out.below (lowR hR)) hs3.out).mono ?_)
      rintro e w6 ⟨rfl, hB⟩
      exact ⟨_, rfl, RN.of_low hB (sizeR hR), rfl⟩
    refine RegHead.cons (fun wr hR h => ?_) ?_
    · exact relAt.pure (RN.refl _) (by kernel_rfl) (by kernel_rfl)
    refine RegHead.cons (fun wr hR h => ?_) ?_
    · exact relAt.pure (RN.refl _) (by kernel_rfl) (by kernel_rfl)
    refine RegHead.cons (fun wr hR h => ?_) ?_
    · exact relAt.pureS (RN.refl _) (by kernel_rfl) (by kernel_rfl) (run_load_box_sum wr rb _ _ r (bblk (lowR hR) H5.out) Lr.out)
    refine RegHead.cons (fun wr hR h => ?_) ?_
    · exact relAt.pureS (RN.refl _) (by kernel_rfl) (by kernel_rfl) (run_load_box_sum wr rb _ _ r (bblk (lowR hR) H5.out) Lr.out)
    refine RegHead.cons (fun wr hR h => ?_) ?_
    · exact relAt.pure (RN.refl _) (by kernel_rfl) (by kernel_rfl)
    refine RegHead.cons (fun wr hR h => ?_) ?_
    · refine relAt.call (by kernel_rfl) (by kernel_rfl) ((extends_is false r r lc B4 C4 wr HF4.out Lr.out Lr.out (hT.below (bthen HL.out (lowR hR))) (SG.out.below (lowR hR)) hs3.out).mono ?_)
      rintro e w6 ⟨rfl, hB⟩
      exact ⟨_, rfl, RN.of_low hB (sizeR hR), rfl⟩
    refine RegHead.cons (fun wr hR h => ?_) ?_
    · exact relAt.pure (RN.refl _) (by kernel_rfl) (by kernel_rfl)
    refine RegHead.cons (fun wr hR h => ?_) ?_
    · exact relAt.pure (RN.refl _) (by kernel_rfl) (by kernel_rfl)
    exact trivial
  · have hlast := bthen HL.out (lowR hR)
    refine wp_frame (new := [(.int .i64 0 : Value), (.int .i64 0 : Value), (.bool true : Value), (.bool true : Value), (.slice B2 1 C2 : Value), (.int .i64 1 : Value), (.bool true : Value), (.bool true : Value), (.bool true : Value), (.int .i64 0 : Value), (.int .i64 0 : Value), (.bool true : Value), (.bool true : Value), (.bool true : Value), (.slice B4 1 C4 : Value), (.int .i64 1 : Value), (.bool true : Value), (.bool true : Value), (.bool true : Value), vs 19, vs 20, sumV la, (.slice (some ⟨b, o, none⟩) 3 C1 : Value), (.pointer (some ⟨b, o + 0 * 32, none⟩) : Value), sumV la, (.bool true : Value), (.bool true : Value), (.bool true : Value), sumV r, (.slice (some ⟨b, o, none⟩) 3 C1 : Value), (.pointer (some ⟨b, o + 2 * 32, none⟩) : Value), sumV lc, (.slice B2 1 C2 : Value), (.bool true : Value), (.bool true : Value), (.bool true : Value), sumV r, (.slice (some ⟨b, o, none⟩) 3 C1 : Value), (.pointer (some ⟨b, o + 1 * 32, none⟩) : Value), sumV lb, (.slice B2 1 C2 : Value), (.bool false : Value), (.bool true : Value), (.bool true : Value), (.bool true : Value), (.slice (some ⟨b, o, none⟩) 3 C1 : Value), (.slice (some ⟨b, o, none⟩) 2 C1 : Value), sumV p0, sumV r, (.slice B4 1 C4 : Value), (.bool true : Value), (.bool true : Value), (.bool true : Value), sumV r, sumV r, (.slice B4 1 C4 : Value), (.bool false : Value), (.bool true : Value), (.bool true : Value)]) 21 80 (by kernel_rfl) ?_
    simp only [List.take, List.cons_append, List.nil_append, List.drop]
    clear h hR
    go_wp2
    go_ret
    exact ⟨rfl, hlast⟩
end Go.Proofs.YtpdhgijeanbmcaaDoor

/- Own -/
namespace Go.Proofs.YtpdhgijeanbmcaaDoor
open Go.RowKit Go.Great

@[go_sem] theorem neq_sumV (x y : List UInt8) (w : World) (hx : x.length = 32) (hy : y.length = 32) : (binOp .neq 29 (sumV x) (sumV y)).run Tryd.prog w = .ok (.bool (!(x == y))) w := by
  show (binOp .neq 29 (.agg (x.map V8).toArray) (.agg (y.map V8).toArray)).run Tryd.prog w = _
  rw [run_neq_struct]
  have h := run_equalIn_bytes (P := Tryd.prog) w 9998 29 5 32 Tryd.underlying29 Tryd.underlying5 size_u8 x y hx hy
  have h2 : (Op.equalIn 10000 29 (.agg (x.map V8).toArray) (.agg (y.map V8).toArray)).run Tryd.prog w = .ok (x == y) w := h
  rw [h2]
  rfl

/-- At most 300 texts. -/
theorem few_any (ts : List (List UInt8)) (a : Option Addr) (n c : Nat) (w : World) (S : Strs w a n ts) (hc : n ≤ c) :
    Calls Tryd.prog 15 #[.slice a n c] w fun e w' => ∃ n', n' ≤ 300 ∧ e = .returned (.slice a n' c) ∧ Strs w a n' (ts.take 300) ∧ w = w' := by
  have hl := S.len
  have HS := Lib.hid S
  have Hl := Lib.hid hl
  clear S hl
  by_cases h : 300 < n
  · have h1 : (300 : Int) < (n : Int) := by omega
    have h2 : (300 : Int) ≤ (c : Int) := by omega
    have h3 : 300 ≤ c := by omega
    go_enter Tryd.func15, Tryd.ntmps15
    go_wp2
    go_ret
    refine ⟨300, Nat.le_refl _, rfl, ⟨by rw [List.length_take]; have := Hl.out; omega, fun _ => ?_⟩, rfl⟩
    obtain ⟨b, o, e, hc⟩ := HS.out.at_ (by omega)
    refine ⟨b, o, e, fun k hk => ?_⟩
    rw [List.length_take] at hk
    rw [hc k (by omega)]
    simp
  · have h1 : ¬ (300 : Int) < (n : Int) := by omega
    go_enter Tryd.func15, Tryd.ntmps15
    go_wp2
    go_ret
    refine ⟨n, by omega, rfl, ?_, rfl⟩
    rw [List.take_of_length_le (by have := Hl.out; omega)]
    exact HS.out

/-- Two lists that are one. -/
theorem sums_eq (L : List (List UInt8)) (a a' : Option Addr) (n c c' : Nat) (w : World) (S : Sums w a n c L) (S2 : Sums w a' n c' L) (hn : n < 4611686018427387904) :
    Calls Tryd.prog 28 #[.slice a n c, .slice a' n c'] w fun e w' => e = .returned (.bool true) ∧ Below w.heap.size w w' := by
  have hl := S.len
  have HS := Lib.hid S
  have HS2 := Lib.hid S2
  have Hl := Lib.hid hl
  clear S S2 hl
  go_enter Tryd.func28, Tryd.ntmps28
  go_wp2
  go_loopw [5] (fun i wr => ∃ k : Nat, k ≤ n ∧ i = .int .i64 k ∧ Below w.heap.size w wr) (fun i _ => n - (intOf i).toNat)
  case atStart => exact ⟨0, by omega, rfl, Below.refl _ _⟩
  case round =>
    obtain ⟨k, hk, rfl, hB⟩ := hrel
    have HB := Lib.hid hB
    clear hB
    by_cases hlt : k < n
    · have hki : (k : Int) < (n : Int) := by omega
      have hki0 : (0 : Int) ≤ (k : Int) := by omega
      have hk' : k < L.length := by have := Hl.out; omega
      obtain ⟨b, o, ha, hget⟩ := HS.out.get
      obtain rfl := ha (by omega)
      obtain ⟨b2, o2, ha2, hget2⟩ := HS2.out.get
      obtain rfl := ha2 (by omega)
      have hx := Lib.hid (hget k hk')
      have hx2 := Lib.hid (hget2 k hk')
      have hxl := HS.out.each L[k] (by simp)
      obtain ⟨x, hxe⟩ : ∃ x, x = L[k] := ⟨_, rfl⟩
      rw [← hxe] at hx hx2 hxl
      have HXL := Lib.hid hxl
      have hc1 := HS.out.cap
      have hc2 := HS2.out.cap
      clear hget hget2 ha ha2 hxl hxe hk'
      go_wp2
      refine wp_region_rel2 8 Low (by kernel_rfl) (by kernel_rfl) Low.refl Low.trans [.is (.slice (some ⟨b, o, none⟩) n c), .is (.int .i64 k), .is (.pointer (some ⟨b, o + k * 32, none⟩)), pSum x, .is (.slice (some ⟨b2, o2, none⟩) n c'), .is (.int .i64 k), .is (.pointer (some ⟨b2, o2 + k * 32, none⟩)), pSum x] rfl ?_
      refine RelHead2.cons ?_ ?_
      · intro w1 hR h
        unfold relOp
        go_wp2
        exact ⟨Low.refl _, rfl⟩
      intro v17
      refine RelHead2.cons ?_ ?_
      · intro w1 hR h
        unfold relOp
        go_wp2
        exact ⟨Low.refl _, rfl⟩
      intro v18
      refine RelHead2.cons ?_ ?_
      · intro w1 hR h
        have e17 : v17 = (.slice (some ⟨b, o, none⟩) n c : Value) := allOf_iff.1 h 0 (by decide)
        have e18 : v18 = (.int .i64 k : Value) := allOf_iff.1 h 1 (by decide)
        subst e17 e18
        unfold relOp
        clear h
        go_wp2
        exact ⟨Low.refl _, rfl⟩
      intro v19
      refine RelHead2.cons ?_ ?_
      · intro w1 hR h
        have e19 : v19 = (.pointer (some ⟨b, o + k * 32, none⟩) : Value) := allOf_iff.1 h 2 (by decide)
        subst e19
        unfold relOp
        refine wpList_load_mid_sum rfl 29 _ rfl b (o + k * 32) (by kernel_rfl) x 32 _ (range_low hx.out (bthen HB.out (bthen (Low.drew _) hR))) Tryd.underlying29 (by kernel_rfl) HXL.out ?_
        clear h
        go_wp2
        exact ⟨Low.refl _, rfl⟩
      intro v20
      refine RelHead2.cons ?_ ?_
      · intro w1 hR h
        unfold relOp
        go_wp2
        exact ⟨Low.refl _, rfl⟩
      intro v21
      refine RelHead2.cons ?_ ?_
      · intro w1 hR h
        unfold relOp
        go_wp2
        exact ⟨Low.refl _, rfl⟩
      intro v22
      refine RelHead2.cons ?_ ?_
      · intro w1 hR h
        have e21 : v21 = (.slice (some ⟨b2, o2, none⟩) n c' : Value) := allOf_iff.1 h 4 (by decide)
        have e22 : v22 = (.int .i64 k : Value) := allOf_iff.1 h 5 (by decide)
        subst e21 e22
        unfold relOp
        clear h
        go_wp2
        exact ⟨Low.refl _, rfl⟩
      intro v23
      refine RelHead2.cons ?_ ?_
      · intro w1 hR h
        have e23 : v23 = (.pointer (some ⟨b2, o2 + k * 32, none⟩) : Value) := allOf_iff.1 h 6 (by decide)
        subst e23
        unfold relOp
        refine wpList_load_mid_sum rfl 29 _ rfl b2 (o2 + k * 32) (by kernel_rfl) x 32 _ (range_low hx2.out (bthen HB.out (bthen (Low.drew _) hR))) Tryd.underlying29 (by kernel_rfl) HXL.out ?_
        clear h
        go_wp2
        exact ⟨Low.refl _, rfl⟩
      intro v24
      refine RelHead2.nil fun w1 hR h => ?_
      have e20 : v20 = sumV x := allOf_iff.1 h 3 (by decide)
      have e24 : v24 = sumV x := allOf_iff.1 h 7 (by decide)
      subst e20 e24
      have hne := neq_sumV x x w1 HXL.out HXL.out
      have hbq : (!(x == x)) = false := by rw [beq_self_eq_true]; rfl
      rw [hbq] at hne
      have HB1 := Lib.hid (bthen HB.out (bthen (Low.drew _) hR))
      clear h hR hbq
      go_wp2
      go_roundw
      case rel => exact ⟨k + 1, by omega, by go_num, HB1.out⟩
      case measure => simp [intOf]; omega
    · obtain rfl : k = n := by omega
      go_wp2
      go_ret
      exact ⟨rfl, HB.out⟩
end Go.Proofs.YtpdhgijeanbmcaaDoor

/- Own2 -/
namespace Go.Proofs.YtpdhgijeanbmcaaDoor
open Go.RowKit Go.Great

def mark (i : Nat) : List UInt8 := UInt8.ofNat i :: 0xee :: List.replicate 30 0
theorem mark_len (i : Nat) : (mark i).length = 32 := rfl
def markA (k : Nat) : Array Value := #[.int .u8 ((k : Nat) : Int), .int .u8 238, .int .u8 0, .int .u8 0, .int .u8 0, .int .u8 0, .int .u8 0, .int .u8 0, .int .u8 0, .int .u8 0, .int .u8 0, .int .u8 0, .int .u8 0, .int .u8 0, .int .u8 0, .int .u8 0, .int .u8 0, .int .u8 0, .int .u8 0, .int .u8 0, .int .u8 0, .int .u8 0, .int .u8 0, .int .u8 0, .int .u8 0, .int .u8 0, .int .u8 0, .int .u8 0, .int .u8 0, .int .u8 0, .int .u8 0, .int .u8 0]
theorem mark_val (k : Nat) (h : k < 8) : Value.agg (markA k) = sumV (mark k) := by
  have h1 : k = 0 ∨ k = 1 ∨ k = 2 ∨ k = 3 ∨ k = 4 ∨ k = 5 ∨ k = 6 ∨ k = 7 := by omega
  rcases h1 with rfl | rfl | rfl | rfl | rfl | rfl | rfl | rfl <;> rfl
def marks (k : Nat) : List (List UInt8) := (List.range k).map mark
theorem marks_next (L : List (List UInt8)) (k : Nat) : (L ++ marks k) ++ [mark k] = L ++ marks (k + 1) := by
  simp [marks, List.range_succ]

set_option maxRecDepth 100000 in
set_option maxHeartbeats 1000000 in
theorem own_any (L : List (List UInt8)) (a : Option Addr) (n c : Nat) (w : World) (S : Sums w a n c L) (hn : n + 8 ≤ 1099511627776) :
    Calls Tryd.prog 18 #[.slice a n c] w fun e w' => ∃ B C, e = .returned (.slice B n C) ∧ Acc 29 32 w w' w.heap.size B C (n + 8) (sumCells (L ++ marks 8)) := by
  obtain ⟨z0, hz0, hinfo⟩ := info_sum'
  have HI := Lib.hid hinfo
  have HZ0 := Lib.hid hz0
  have HS := Lib.hid S
  have hnl := Lib.hid (show (sumCells L).length = n * 32 by rw [sumCells_length L S.each, S.len])
  have z1 : 0 + n ≤ maxLen := by unfold maxLen; omega
  have z2 : (0 + n) * 32 ≤ 140737488355328 := by omega
  have hap := Lib.hid (show ∀ u ∈ sumCells L, u.oneCell' = true from fun u hu => by
    obtain ⟨x, _, hx⟩ := List.mem_flatMap.1 hu
    exact ones' x u hx)
  clear hinfo hz0 S
  go_enter Tryd.func18, Tryd.ntmps18
  go_wp2_with (at_builtin; refine wpList_acc rfl _ _ 31 rfl 29 32 32 z0 Tryd.underlying31 HI.out HZ0.out (by decide) w w.heap.size (some ⟨w.heap.size, 0, none⟩) 0 0 [] rfl (Acc.lit' rfl #[] 0 (Below.refl _ _) (Nat.le_refl _) (by decide) rfl) a n c (sumCells L) rfl hnl.out (HS.out.below (low1 _ _)).at_ HS.out.nil HS.out.od hap.out z1 z2 ?_; intro B1 D1 w1 hacc hg hnew; rw [List.nil_append, Nat.zero_add] at hacc; have HA1 := Lib.hid hacc; clear hacc hg hnew)
  go_loopw [3, 4] (fun v i wr => ∃ k B C, k ≤ 8 ∧ i = .int .i64 (k : Nat) ∧ v = .slice B (n + k) C ∧ Acc 29 32 w wr w.heap.size B C (n + k) (sumCells (L ++ marks k))) (fun _ i _ => 8 - (intOf i).toNat)
  case atStart => exact ⟨0, B1, D1, by omega, rfl, rfl, by simpa [marks] using HA1.out⟩
  case round =>
    clear HA1
    obtain ⟨k, B, C, hk, rfl, rfl, hA⟩ := hrel
    have HA := Lib.hid hA
    clear hA
    by_cases hlt : k < 8
    · have hki : (k : Int) < 8 := by omega
      have hki0 : (0 : Int) ≤ (k : Int) := by omega
      have z3 : n + k + 1 ≤ maxLen := by unfold maxLen; omega
      have z4 : (n + k + 1) * 32 ≤ 140737488355328 := by omega
      have Hmv := Lib.hid (mark_val k hlt)
      go_wp2_with (first | (refine wpList_build_sum rfl _ rfl (mark k) (Eq.trans (b := Value.agg (markA k)) rfl Hmv.out) (mark_len k) ?_) | (at_builtin; refine wpList_acc rfl _ _ 31 rfl 29 32 32 z0 Tryd.underlying31 HI.out HZ0.out (by decide) w w.heap.size B C (n + k) _ rfl (HA.out.alloc _) (some ⟨wr.heap.size, 0, none⟩) 1 1 ((mark k).map V8) rfl (by simp [mark_len]) (box_bytes (blk1 _ _)).cells (fun h => by cases h) (fun ad h => ⟨_, _, (Option.some.inj h).symm⟩) (ones' (mark k)) z3 z4 ?_; intro B2 D2 w3 hacc hg hnew; rw [← sumCells_one (mark k), ← sumCells_append, marks_next] at hacc; have HA3 := Lib.hid hacc; clear hacc hg hnew))
      go_roundw
      case rel => exact ⟨k + 1, B2, D2, by omega, by go_num, rfl, HA3.out⟩
      case measure => simp [intOf]; omega
    · obtain rfl : k = 8 := by omega
      have hcap := HA.out.cap
      have hnc : (n : Int) ≤ (C : Int) := by omega
      go_wp2
      go_ret
      exact ⟨B, C, rfl, HA.out⟩
end Go.Proofs.YtpdhgijeanbmcaaDoor

/- Ownl -/
namespace Go.Proofs.YtpdhgijeanbmcaaDoor
open Go.RowKit Go.Great
theorem leaf_each (l : List (List UInt8)) : ∀ u ∈ l.map Tree.leaf, u.length = 32 := fun u hu => by
  obtain ⟨t, _, rfl⟩ := List.mem_map.1 hu
  rfl
theorem leaves_len {w : World} {a : Option Addr} {n : Nat} {l : List (List UInt8)} (h : Strs w a n l) : (l.map Tree.leaf).length = n := by rw [List.length_map, h.len]
theorem own_each (L : List (List UInt8)) (h : ∀ x ∈ L, x.length = 32) : ∀ x ∈ L ++ marks 8, x.length = 32 := fun x hx => by
  rcases List.mem_append.1 hx with hx | hx
  · exact h x hx
  · obtain ⟨i, _, rfl⟩ := List.mem_map.1 hx
    rfl
end Go.Proofs.YtpdhgijeanbmcaaDoor

/- Cd -/
namespace Go.Proofs.YtpdhgijeanbmcaaDoor
open Go.RowKit Go.Great

/-- A slice of these sums, wherever it lies. -/
def ySums (n : Nat) (L : List (List UInt8)) : Yld Low := Yld.pr (fun v w => ∃ B C, v = .slice B n C ∧ Sums w B n C L) fun _ _ _ ⟨B, C, e, h⟩ hl => ⟨B, C, e, h.below hl⟩
/-- An empty slice that is not nil. -/
def yEmpty : Yld Low := Yld.pr (fun v w => ∃ b, v = .slice (some ⟨b, 0, none⟩) 0 0 ∧ b < w.heap.size) fun _ _ _ ⟨b, e, h⟩ hl => ⟨b, e, Nat.lt_of_lt_of_le h hl.size⟩
/-- 'append([]T{}, p...)'. -/
theorem run_append_copy (w : World) (b : Nat) (hb : b < w.heap.size) (a : Option Addr) (n c : Nat) (p : List (List UInt8)) (S : Sums w a n c p) (hn : n ≤ 1000) (ty : TypeId) : ∃ B C w', (Builtin.append_ #[31, 31] ty #[.slice (some ⟨b, 0, none⟩) 0 0, .slice a n c]).run Tryd.prog w = .ok (.slice B n C) w' ∧ Low w w' ∧ Sums w' B n C p := by
  obtain ⟨z0, hz0, hinfo⟩ := info_sum'
  obtain ⟨i, hi, hz, hsize, hby⟩ := info_parts hinfo
  by_cases h0 : n = 0
  · subst h0
    have hp : p = [] := List.eq_nil_of_length_eq_zero S.len.symm
    subst hp
    refine ⟨some ⟨b, 0, none⟩, 0, w, ?_, Low.refl _, ⟨rfl, (fun _ h => by cases h), ⟨fun h => by simp [sumCells] at h⟩, Nat.le_refl _, (fun h => by cases h), fun ad h => ⟨b, 0, (Option.some.inj h).symm, hb⟩⟩⟩
    cases a with
    | none => simp [Builtin.append_, run_underlying Tryd.underlying31, sizeOf, typeInfo, hi, Builtin.lenOf, Builtin.firstCells, storeCells]
    | some ad =>
      have hld := run_loadCells_list (P := Tryd.prog) w ad [] (fun j v h => by simp at h)
      simp only [List.length_nil] at hld
      simp [Builtin.append_, run_underlying Tryd.underlying31, sizeOf, typeInfo, hi, Builtin.lenOf, Builtin.firstCells, storeCells, hld]
  · have hl := S.len
    obtain ⟨ab, ao, ha, hc⟩ := S.at_.at_ (by rw [sumCells_length p S.each]; omega)
    subst ha
    have hlen := sumCells_length p S.each
    have hrun := run_append_grow (P := Tryd.prog) (w := w) 31 ty 29 i z0 Tryd.underlying31 hi hz ⟨b, 0, none⟩ 0 0 [] (by simp) (fun j v h => by simp at h) ⟨ab, ao, none⟩ n c (sumCells p) (by rw [hlen, hsize, hl]) (fun j v hj => by rw [Addr.add_lit]; exact hc j v hj) (by omega) (by omega)
      (by
        rw [hby]
        have := nextslicecap_zero (show 0 < 0 + n by omega)
        rw [this]; omega)
    simp only [Nat.zero_add] at hrun
    obtain ⟨g, hg⟩ : ∃ g, g = grownCap w n 0 29 := ⟨_, rfl⟩
    rw [← hg] at hrun
    have hge : n ≤ g := by rw [hg]; exact grownCap_ge w n 0 29
    refine ⟨_, _, _, hrun, bthen (Low.drew w) (low1 w.drew _), ⟨hl, S.each, ⟨fun _ => ⟨w.heap.size, 0, rfl, fun j v hj => ?_⟩⟩, hge, (fun h => by cases h), fun ad h => ⟨w.heap.size, 0, (Option.some.inj h).symm, by simp⟩⟩⟩
    rw [Nat.zero_add, cell_of_row _ _ _ _ _ _ (show (w.drew.alloc _).heap[w.heap.size]? = some _ from at_new w.drew _ rfl)]
    have hjl := (List.getElem?_eq_some_iff.1 hj).1
    simp only [List.nil_append, Array.getElem?_append, List.size_toArray, hjl, if_true, List.getElem?_toArray]
    simp [hjl]
    exact (List.getElem?_eq_some_iff.1 hj).2


set_option maxRecDepth 100000 in
set_option maxHeartbeats 8000000 in
theorem cd_law (ts : List (List UInt8)) (a : Option Addr) (n c : Nat) (i : Int) (leaf : List UInt8) (pa : Option Addr) (np pc : Nat) (p : List (List UInt8)) (w : World) (hi0 : -9223372036854775808 ≤ i) (hi9 : i ≤ 9223372036854775807) (hl : leaf.length = 32) (hT : Tabs w) (S : Strs w a n ts) (SP : Sums w pa np pc p) (hc : n ≤ c) (hts : ∀ t ∈ ts, t.length < 1099511627776) :
    Calls Tryd.prog 9 #[.slice a n c, .int .i64 i, sumV leaf, .slice pa np pc] w fun e w' => e = .returned (.bool true) ∧ Below w.heap.size w w' := by
  have HLk := Lib.hid (low1 w (.cells (sumRow leaf) 29))
  have HBk := Lib.hid (blk1 w (.cells (sumRow leaf) 29))
  have Hl := Lib.hid hl
  have hfew := Lib.hid (few_any ts a n c _ (S.below HLk.out) hc)
  have Hts := Lib.hid hts
  have HSP := Lib.hid (SP.below HLk.out)
  have HT := Lib.hid (hT.below HLk.out)
  clear S hts SP hl
  go_enter Tryd.func9, Tryd.ntmps9
  go_wp2_with fail
  go_at_call 15
  refine hfew.out.mono ?_
  rintro e w1 ⟨n1, hn1, rfl, hS, rfl⟩
  have HS := Lib.hid hS
  clear hS
  go_wp2_with fail
  go_at_call 16
  refine (leaves_any (ts.take 300) a n1 c _ HT.out HS.out (by omega) (fun t ht => Hts.out t (List.mem_of_mem_take ht))).mono ?_
  rintro e w2 ⟨B1, C1, rfl, hA⟩
  rw [leaves_len HS.out] at hA ⊢
  have HL1 := Lib.hid (hA.sums (leaf_each _))
  have HLF := Lib.hid (bblk hA.low HBk.out)
  have HP := Lib.hid (HSP.out.below hA.low)
  have HB2 := Lib.hid (bthen HLk.out hA.low)
  obtain ⟨L, hL⟩ : ∃ L, L = (ts.take 300).map Tree.leaf := ⟨_, rfl⟩
  have hLe : ∀ x ∈ L, x.length = 32 := by rw [hL]; exact leaf_each _
  have hLl : L.length = n1 := by rw [hL]; exact leaves_len HS.out
  rw [← hL] at HL1
  have HLe := Lib.hid hLe
  have HLl := Lib.hid hLl
  have hT2 := Lib.hid (HT.out.below hA.low)
  obtain ⟨lb, hlb⟩ : ∃ g, g = w.heap.size := ⟨_, rfl⟩
  rw [← hlb] at HLF ⊢
  have hn40 : n1 < 1099511627776 := by omega
  have HLB := Lib.hid hlb
  clear hA hL hLe hLl HS hfew Hts HLk HBk HSP HT hlb
  have hlv := Lib.hid fun wr hR => live_any wr (hT2.out.below hR)
  by_cases h0 : n1 = 0 ∨ i < 0 ∨ 200 < np
  · have hgo : ∀ (P : Prop), P → P := fun _ h => h
    by_cases h1 : n1 = 0
    · subst h1
      clear h0
      go_wp2_with fail
      go_at_call 14
      refine (hlv.out w2 (Low.refl _)).mono ?_
      rintro e w3 ⟨rfl, hB⟩
      have HB3 := Lib.hid hB
      clear hB
      go_wp2
      go_ret
      exact ⟨rfl, bthen (HLB.out ▸ HB2.out) HB3.out⟩
    · have h3 : ((n1 : Int) == 0) = false := by simp; omega
      have h4 : ¬ (n1 : Int) = 0 := by omega
      by_cases h2 : i < 0
      · clear h0
        go_wp2_with fail
        go_at_call 14
        refine (hlv.out w2 (Low.refl _)).mono ?_
        rintro e w3 ⟨rfl, hB⟩
        have HB3 := Lib.hid hB
        clear hB
        go_wp2
        go_ret
        exact ⟨rfl, bthen (HLB.out ▸ HB2.out) HB3.out⟩
      · have h5 : (200 : Int) < (np : Int) := by omega
        clear h0
        go_wp2_with fail
        go_at_call 14
        refine (hlv.out w2 (Low.refl _)).mono ?_
        rintro e w3 ⟨rfl, hB⟩
        have HB3 := Lib.hid hB
        clear hB
        go_wp2
        go_ret
        exact ⟨rfl, bthen (HLB.out ▸ HB2.out) HB3.out⟩
  · obtain ⟨j, rfl⟩ : ∃ j : Nat, i = (j : Int) := ⟨i.toNat, by omega⟩
    obtain ⟨r, hr⟩ : ∃ r, r = j % n1 := ⟨_, rfl⟩
    have hrn : r < n1 := by rw [hr]; exact Nat.mod_lt _ (by omega)
    have e1 : (j : Int) % (n1 : Int) = (r : Int) := by rw [hr]; simp
    have e2 : (j : Int).tmod (n1 : Int) = (r : Int) := by rw [← e1]; exact Int.tmod_eq_emod_of_nonneg (by omega)
    have h3 : ((n1 : Int) == 0) = false := by simp; omega
    have h4 : ¬ (n1 : Int) = 0 := by omega
    have h5 : ¬ (j : Int) < 0 := by omega
    have h6 : (0 : Int) ≤ (j : Int) := by omega
    have h7 : (0 : Int) < (n1 : Int) := by omega
    have h8 : ¬ (200 : Int) < (np : Int) := by omega
    have hnp : np ≤ 200 := by omega
    have hrt := Lib.hid fun wr hR => root_any L B1 n1 C1 wr (by have := HLl.out; omega) (hT2.out.below hR) (HL1.out.below hR)
    have hrl := Lib.hid (Tree.root_len L HLe.out)
    obtain ⟨rt, hrte⟩ : ∃ s, s = Tree.root L := ⟨_, rfl⟩
    rw [← hrte] at hrt hrl
    have Hrte := Lib.hid hrte
    obtain ⟨lf, hlf, hlfm⟩ : ∃ x, L[r]? = some x ∧ x ∈ L := ⟨L[r]'(by have := HLl.out; omega), List.getElem?_eq_getElem _, by simp⟩
    have Hlf := Lib.hid hlf
    have HlfL := Lib.hid (HLe.out lf hlfm)
    have hcap1 := HL1.out.cap
    obtain ⟨hb, hhb⟩ : ∃ q, q = Tree.holds rt n1 r leaf p := ⟨_, rfl⟩
    have HHB := Lib.hid hhb
    have hc1 := Lib.hid fun wr B C (hR : Low w2 wr) (SB : Sums wr B np C p) => holds_any rt leaf n1 r B np C p wr hrn (by omega) (by omega) hrl.out Hl.out (hT2.out.below hR) SB
    rw [← hhb] at hc1
    obtain ⟨b, o, hbo, hget⟩ := HL1.out.get
    obtain rfl := hbo (by omega)
    have hgr := hget r (by have := HLl.out; omega)
    rw [show L[r]'(by have := HLl.out; omega) = lf from Option.some.inj ((List.getElem?_eq_getElem _).symm.trans Hlf.out)] at hgr
    have HGr := Lib.hid hgr
    clear h0 hr hrte hlf hlfm hi0 hi9 hhb hget hbo hgr
    go_wp2_with fail
    refine wp_region_reg 10 57 (Low) (by kernel_rfl) (by kernel_rfl) (by kernel_rfl) (by kernel_rfl) (by kernel_rfl) (Low.refl) (Low.trans) [.is (.slice (some ⟨b, o, none⟩) n1 C1 : Value), .is (sumV rt), .is (.slice (some ⟨b, o, none⟩) n1 C1 : Value), .is (.int .i64 n1 : Value), .is (.int .i64 r : Value), .is (sumV leaf), yEmpty, .is (.slice pa np pc : Value), ySums np p, .is (.bool hb : Value)] rfl (fun vs => ?_) (fun vs wr hR h => ?_)
    · refine RegHead.cons (fun wr hR h => ?_) ?_
      · exact relAt.pure (Low.refl) (by kernel_rfl) (by kernel_rfl)
      refine RegHead.cons (fun wr hR h => ?_) ?_
      · refine relAt.call (by kernel_rfl) (by kernel_rfl) ((hrt.out wr (bthen (Low.drew _) hR)).mono ?_)
        rintro e w9 ⟨rfl, hB9⟩
        exact ⟨_, rfl, hB9, rfl⟩
      refine RegHead.cons (fun wr hR h => ?_) ?_
      · exact relAt.pure (Low.refl) (by kernel_rfl) (by kernel_rfl)
      refine RegHead.cons (fun wr hR h => ?_) ?_
      · exact relAt.pure (Low.refl) (by kernel_rfl) (by kernel_rfl)
      refine RegHead.cons (fun wr hR h => ?_) ?_
      · exact relAt.pure (Low.refl) (by kernel_rfl) (by kernel_rfl)
      refine RegHead.cons (fun wr hR h => ?_) ?_
      · exact relAt.pureS (Low.refl) (by kernel_rfl) (by kernel_rfl) (run_load_box_sum wr lb _ _ leaf (bblk (bthen (Low.drew _) hR) HLF.out) Hl.out)
      refine RegHead.cons (fun wr hR h => ?_) ?_
      · exact relAt.value (u := .slice (some ⟨wr.heap.size, 0, none⟩) 0 0) (w' := wr.alloc (.cells #[] 29)) (by kernel_rfl) (by kernel_rfl) (low1 _ _) ⟨_, rfl, by simp⟩
      refine RegHead.cons (fun wr hR h => ?_) ?_
      · exact relAt.pure (Low.refl) (by kernel_rfl) (by kernel_rfl)
      refine RegHead.cons (fun wr hR h => ?_) ?_
      · obtain ⟨b5, hv5, hb5⟩ : ∃ b, vs 6 = .slice (some ⟨b, 0, none⟩) 0 0 ∧ b < wr.heap.size := allOf_iff.1 h 6 (by decide)
        obtain ⟨B6, C6, w6, hrun, hl6, hs6⟩ := run_append_copy wr b5 hb5 pa np pc p (HP.out.below (bthen (Low.drew _) hR)) (by omega) 31
        rw [← hv5] at hrun
        exact relAt.valueS (s := Builtin.append_ #[31, 31] 31 #[vs 6, .slice pa np pc]) (by kernel_rfl) (by kernel_rfl) hrun hl6 ⟨_, _, rfl, hs6⟩
      refine RegHead.cons (fun wr hR h => ?_) ?_
      · obtain ⟨B6, C6, hv6, hs6⟩ : ∃ B C, vs 8 = .slice B np C ∧ Sums wr B np C p := allOf_iff.1 h 8 (by decide)
        refine relAt.call (f := 30) (args := #[sumV rt, .int .i64 n1, .int .i64 r, sumV leaf, vs 8]) (by kernel_rfl) (by kernel_rfl) ?_
        rw [hv6]
        refine (hc1.out wr B6 C6 (bthen (Low.drew _) hR) hs6).mono ?_
        rintro e w9 ⟨rfl, hB9⟩
        exact ⟨_, rfl, hB9, rfl⟩
      exact trivial
    · rename World => w3
      have HR3 := Lib.hid (show Low w2 w3 from bthen (Low.drew _) hR)
      clear h hR hrt hc1 e1 e2
      refine wp_frame (new := [(.slice (some ⟨b, o, none⟩) n1 C1 : Value), (sumV rt), (.slice (some ⟨b, o, none⟩) n1 C1 : Value), (.int .i64 n1 : Value), (.int .i64 r : Value), (sumV leaf), vs 6, (.slice pa np pc : Value), vs 8, (.bool hb : Value)]) 30 40 (by kernel_rfl) ?_
      simp only [List.take, List.drop, List.cons_append, List.nil_append]
      cases hb with
      | false =>
        go_wp2_with fail
        go_at_call 14
        refine (hlv.out w3 HR3.out).mono ?_
        rintro e w4 ⟨rfl, hB⟩
        have HB4 := Lib.hid hB
        clear hB
        go_wp2
        go_ret
        exact ⟨rfl, bthen (bthen (HLB.out ▸ HB2.out) HR3.out) HB4.out⟩
      | true =>
        have hmeet : leaf = lf ∨ Tree.meets n1 r leaf p L = true := by
          have h1 := Tree.holds_meets L r leaf p (by rw [HLl.out]; exact hrn) (by rw [HLl.out, ← Hrte.out]; exact HHB.out.symm)
          rw [HLl.out, Hlf.out] at h1
          rcases h1 with h1 | h1
          · exact .inl (Option.some.inj h1).symm
          · exact .inr h1
        have HMt := Lib.hid hmeet
        clear hmeet
        by_cases hq : leaf = lf
        · have hqb : (leaf == lf) = true := by rw [hq]; exact beq_self_eq_true _
          have HQ := Lib.hid hqb
          clear hq hqb
          go_wp2_with fail
          refine wp_region_reg 15 57 (Low) (by kernel_rfl) (by kernel_rfl) (by kernel_rfl) (by kernel_rfl) (by kernel_rfl) (Low.refl) (Low.trans) [.is (sumV leaf), .is (.slice (some ⟨b, o, none⟩) n1 C1 : Value), .is (.int .i64 r : Value), .is (.pointer (some ⟨b, o + r * 32, none⟩) : Value), .is (sumV lf), .is (.bool true : Value), .is (.bool true : Value), .is undef, .is undef, .is undef, .is undef, .is undef, .is undef, .is undef, .is (.bool true : Value)] rfl (fun vs => ?_) (fun vs wr hR h => ?_)
          · refine RegHead.cons (fun wr hR h => ?_) ?_
            · exact relAt.pureS (Low.refl) (by kernel_rfl) (by kernel_rfl) (run_load_box_sum wr lb _ _ leaf (bblk (bthen HR3.out (bthen (Low.drew _) hR)) HLF.out) Hl.out)
            refine RegHead.cons (fun wr hR h => ?_) ?_
            · exact relAt.pure (Low.refl) (by kernel_rfl) (by kernel_rfl)
            refine RegHead.cons (fun wr hR h => ?_) ?_
            · exact relAt.pure (Low.refl) (by kernel_rfl) (by kernel_rfl)
            refine RegHead.cons (fun wr hR h => ?_) ?_
            · exact relAt.pureS (Low.refl) (by kernel_rfl) (by kernel_rfl) (run_sums_index wr b o n1 C1 r hrn)
            refine RegHead.cons (fun wr hR h => ?_) ?_
            · exact relAt.pureS (Low.refl) (by kernel_rfl) (by kernel_rfl) (run_load_at_sum wr b (o + r * 32) lf (range_low HGr.out (bthen HR3.out (bthen (Low.drew _) hR))) HlfL.out)
            refine RegHead.cons (fun wr hR h => ?_) ?_
            · exact relAt.pureS (Low.refl) (by kernel_rfl) (by kernel_rfl) (run_eql_sums wr (.tmp 42) (.tmp 46) leaf lf true Hl.out HlfL.out HQ.out)
            refine RegHead.cons (fun wr hR h => ?_) ?_
            · exact relAt.pure (Low.refl) (by kernel_rfl) (by kernel_rfl)
            refine RegHead.cons (fun wr hR h => ?_) ?_
            · exact relAt.skip (by kernel_rfl)
            refine RegHead.cons (fun wr hR h => ?_) ?_
            · exact relAt.skip (by kernel_rfl)
            refine RegHead.cons (fun wr hR h => ?_) ?_
            · exact relAt.skip (by kernel_rfl)
            refine RegHead.cons (fun wr hR h => ?_) ?_
            · exact relAt.skip (by kernel_rfl)
            refine RegHead.cons (fun wr hR h => ?_) ?_
            · exact relAt.skip (by kernel_rfl)
            refine RegHead.cons (fun wr hR h => ?_) ?_
            · exact relAt.skip (by kernel_rfl)
            refine RegHead.cons (fun wr hR h => ?_) ?_
            · exact relAt.skip (by kernel_rfl)
            refine RegHead.cons (fun wr hR h => ?_) ?_
            · exact relAt.pure (Low.refl) (by kernel_rfl) (by kernel_rfl)
            exact trivial
          · have HZ := Lib.hid (bthen HR3.out (bthen (Low.drew _) hR))
            clear h hR
            refine wp_frame (new := [(sumV leaf), (.slice (some ⟨b, o, none⟩) n1 C1 : Value), (.int .i64 r : Value), (.pointer (some ⟨b, o + r * 32, none⟩) : Value), (sumV lf), (.bool true : Value), (.bool true : Value), undef, undef, undef, undef, undef, undef, undef, (.bool true : Value)]) 42 57 (by kernel_rfl) ?_
            simp only [List.take, List.drop, List.cons_append, List.nil_append]
            go_wp2
            go_ret
            exact ⟨rfl, bthen (HLB.out ▸ HB2.out) HZ.out⟩
        · have hqb : (leaf == lf) = false := beq_eq_false_iff_ne.2 hq
          have HQ := Lib.hid hqb
          have hm := Lib.hid (HMt.out.resolve_left hq)
          have hcm := Lib.hid fun wr hR => meets_any leaf pa pc Hl.out np p n1 r (some ⟨b, o, none⟩) C1 L wr (by omega) hn40 (by omega) (hT2.out.below hR) (HP.out.below hR) (HL1.out.below hR)
          rw [hm.out] at hcm
          clear hq hqb
          go_wp2_with fail
          refine wp_region_reg 15 57 (Low) (by kernel_rfl) (by kernel_rfl) (by kernel_rfl) (by kernel_rfl) (by kernel_rfl) (Low.refl) (Low.trans) [.is (sumV leaf), .is (.slice (some ⟨b, o, none⟩) n1 C1 : Value), .is (.int .i64 r : Value), .is (.pointer (some ⟨b, o + r * 32, none⟩) : Value), .is (sumV lf), .is (.bool false : Value), .is (.bool false : Value), .is (.slice (some ⟨b, o, none⟩) n1 C1 : Value), .is (.int .i64 n1 : Value), .is (.int .i64 r : Value), .is (sumV leaf), .is (.slice pa np pc : Value), .is (.slice (some ⟨b, o, none⟩) n1 C1 : Value), .is (.bool true : Value), .is (.bool true : Value)] rfl (fun vs => ?_) (fun vs wr hR h => ?_)
          · refine RegHead.cons (fun wr hR h => ?_) ?_
            · exact relAt.pureS (Low.refl) (by kernel_rfl) (by kernel_rfl) (run_load_box_sum wr lb _ _ leaf (bblk (bthen HR3.out (bthen (Low.drew _) hR)) HLF.out) Hl.out)
            refine RegHead.cons (fun wr hR h => ?_) ?_
            · exact relAt.pure (Low.refl) (by kernel_rfl) (by kernel_rfl)
            refine RegHead.cons (fun wr hR h => ?_) ?_
            · exact relAt.pure (Low.refl) (by kernel_rfl) (by kernel_rfl)
            refine RegHead.cons (fun wr hR h => ?_) ?_
            · exact relAt.pureS (Low.refl) (by kernel_rfl) (by kernel_rfl) (run_sums_index wr b o n1 C1 r hrn)
            refine RegHead.cons (fun wr hR h => ?_) ?_
            · exact relAt.pureS (Low.refl) (by kernel_rfl) (by kernel_rfl) (run_load_at_sum wr b (o + r * 32) lf (range_low HGr.out (bthen HR3.out (bthen (Low.drew _) hR))) HlfL.out)
            refine RegHead.cons (fun wr hR h => ?_) ?_
            · exact relAt.pureS (Low.refl) (by kernel_rfl) (by kernel_rfl) (run_eql_sums wr (.tmp 42) (.tmp 46) leaf lf false Hl.out HlfL.out HQ.out)
            refine RegHead.cons (fun wr hR h => ?_) ?_
            · exact relAt.pure (Low.refl) (by kernel_rfl) (by kernel_rfl)
            refine RegHead.cons (fun wr hR h => ?_) ?_
            · exact relAt.pure (Low.refl) (by kernel_rfl) (by kernel_rfl)
            refine RegHead.cons (fun wr hR h => ?_) ?_
            · exact relAt.pure (Low.refl) (by kernel_rfl) (by kernel_rfl)
            refine RegHead.cons (fun wr hR h => ?_) ?_
            · exact relAt.pure (Low.refl) (by kernel_rfl) (by kernel_rfl)
            refine RegHead.cons (fun wr hR h => ?_) ?_
            · exact relAt.pureS (Low.refl) (by kernel_rfl) (by kernel_rfl) (run_load_box_sum wr lb _ _ leaf (bblk (bthen HR3.out (bthen (Low.drew _) hR)) HLF.out) Hl.out)
            refine RegHead.cons (fun wr hR h => ?_) ?_
            · exact relAt.pure (Low.refl) (by kernel_rfl) (by kernel_rfl)
            refine RegHead.cons (fun wr hR h => ?_) ?_
            · exact relAt.pure (Low.refl) (by kernel_rfl) (by kernel_rfl)
            refine RegHead.cons (fun wr hR h => ?_) ?_
            · refine relAt.call (by kernel_rfl) (by kernel_rfl) ((hcm.out wr (bthen HR3.out (bthen (Low.drew _) hR))).mono ?_)
              rintro e w9 ⟨rfl, hB9⟩
              exact ⟨_, rfl, hB9, rfl⟩
            refine RegHead.cons (fun wr hR h => ?_) ?_
            · exact relAt.pure (Low.refl) (by kernel_rfl) (by kernel_rfl)
            exact trivial
          · have HZ := Lib.hid (bthen HR3.out (bthen (Low.drew _) hR))
            clear h hR
            refine wp_frame (new := [(sumV leaf), (.slice (some ⟨b, o, none⟩) n1 C1 : Value), (.int .i64 r : Value), (.pointer (some ⟨b, o + r * 32, none⟩) : Value), (sumV lf), (.bool false : Value), (.bool false : Value), (.slice (some ⟨b, o, none⟩) n1 C1 : Value), (.int .i64 n1 : Value), (.int .i64 r : Value), (sumV leaf), (.slice pa np pc : Value), (.slice (some ⟨b, o, none⟩) n1 C1 : Value), (.bool true : Value), (.bool true : Value)]) 42 57 (by kernel_rfl) ?_
            simp only [List.take, List.drop, List.cons_append, List.nil_append]
            go_wp2
            go_ret
            exact ⟨rfl, bthen (HLB.out ▸ HB2.out) HZ.out⟩
end Go.Proofs.YtpdhgijeanbmcaaDoor

/- CdCard -/
namespace Go.Proofs.YtpdhgijeanbmcaaDoor.chainSound
open Go.ChangeShapes Go.WideShapes Go.ChangeAt Go.RowKit

theorem contract (H : Type) (enc : TypeId × Value → H) (W : World) (base : Nat) (args : Array Value) (ds gs : List (DataW H)) (before : List MemPlace)
    (hval : ∀ (j : Nat) t v, Tryd.f9.params[j]? = some t → args[j]? = some v → Value.okWide Tryd.prog W .any base t v)
    (hW : DataW.Whole enc Tryd.prog Tryd.f9.params.toList Rows.chainSoundSpec.vars false W args.toList ds gs before) (hL : laidMetH Tryd.prog laidL W) (hk : Rows.uptoSmall H (ds ++ gs) = true) :
    Calls Tryd.prog 9 args W fun e W' => ∃ v, e = .returned v ∧ Rows.chainSoundSpec.post enc Tryd.prog Tryd.f9 false true false false W args v W' := by
  have hW' := hW
  obtain ⟨p, q, hA0, hV, rfl, hfz, hnd⟩ := hW
  have hA : DataW.TrodAll enc Tryd.prog W 0 (fun _ => true) true Tryd.f9.params.toList args.toList ds p := hA0
  rw [Tryd.params9] at hA hval
  obtain ⟨v0, vs0, d0, ds0, p0, q0, hargs0, rfl, rfl, h0, r0⟩ := trodAll_cons hA
  obtain ⟨v1, vs1, d1, ds1, p1, q1, hargs1, rfl, rfl, h1, r1⟩ := trodAll_cons r0
  obtain ⟨v2, vs2, d2, ds2, p2, q2, hargs2, rfl, rfl, h2, r2⟩ := trodAll_cons r1
  obtain ⟨v3, vs3, d3, ds3, p3, q3, hargs3, rfl, rfl, h3, r3⟩ := trodAll_cons r2
  obtain ⟨rfl, rfl, rfl⟩ := trodAll_nil r3
  obtain rfl : args = #[v0, v1, v2, v3] := by cases args; simp_all
  obtain ⟨rfl, rfl⟩ := trodVars_none hV
  obtain ⟨a0, n0, c0, ts0, rfl, S0, hnc0, hts0⟩ := open_strs (hval 0 28 v0 rfl rfl) h0
  obtain ⟨i1, rfl, hi1⟩ := open_i64 (hval 1 3 v1 rfl rfl)
  obtain ⟨x2, hx2, rfl⟩ := open_sumV (hval 2 29 v2 rfl rfl)
  obtain ⟨a3, n3, c3, L3, rfl, S3, hb3⟩ := open_sums (hval 3 31 v3 rfl rfl) h3
  have hbulk : Rows.uptoBulk d0 + Rows.uptoBulk d1 + Rows.uptoBulk d2 + Rows.uptoBulk d3 ≤ 1048576 := by
    have h := of_decide_eq_true hk
    simp only [List.append_nil, Rows.uptoBulkAll] at h
    omega
  refine (cd_law ts0 a0 n0 c0 i1 x2 a3 n3 c3 L3 W hi1.1 hi1.2 hx2 (tabs_of_laid hL) S0 S3 hnc0 (fun t ht => by have := hts0 t ht; omega)).mono fun e W' ⟨he, hB⟩ => ?_
  subst he
  exact ⟨_, rfl, post_law rfl hW' rfl rfl rfl (by kernel_rfl) hB (fun t ht => by
    have h : t ∈ [28, 3, 29, 31] := ht
    simp only [List.mem_cons, List.not_mem_nil, or_false] at h
    rcases h with rfl | rfl | rfl | rfl <;> exact ⟨by kernel_rfl, of_decide_eq_true (by kernel_rfl)⟩)⟩

def zs32 : Value := .agg (List.replicate 32 (Value.int .u8 0)).toArray
def zd32 {H : Type} : DataW H := .agg (List.replicate 32 (.lit (.int .u8 0)))
theorem reads (os : Os) {H : Type} (enc : TypeId × Value → H) : ∃ places, DataW.whole enc Tryd.prog ((laidWorld os).forCall (fun _ _ => 0) ⟨#[], (#[.slice none 0 0, .int .i64 0, zs32, .slice none 0 0] : Array Value), []⟩).memory Tryd.f9.params.toList Rows.chainSoundSpec.vars false (#[.slice none 0 0, .int .i64 0, zs32, .slice none 0 0] : Array Value).toList 8 = some ([.nil, .lit (.int .i64 0), zd32, .nil], [], places) :=
  ⟨[], by kernel_rfl⟩

set_option maxRecDepth 100000 in
theorem liftedUpto (os : Os) (started : os.Started) (H : Type) (enc : TypeId × Value → H) (F : Stop.Interp) :
    ReturnsInHanded {} Tryd.checked os 9 .any ((Rows.OpenSpec.upto Rows.chainSoundSpec).preRow enc Tryd.prog Tryd.f9 Rows.chainSoundUptoRow.domain false Rows.chainSoundUptoRow.laid) (((Rows.OpenSpec.upto Rows.chainSoundSpec).at F).post enc Tryd.prog Tryd.f9 false true false false) := by
  obtain ⟨places, hx⟩ := reads os enc
  refine returnsInHanded_of_row (C := Tryd.checked) (s := Rows.OpenSpec.upto Rows.chainSoundSpec) own started (by kernel_rfl) Tryd.func9
    (witness_row_at (enc := enc) (C := Tryd.checked) false (laidWorld os) #[.slice none 0 0, .int .i64 0, zs32, .slice none 0 0] rfl (by kernel_rfl) (by kernel_rfl) (by kernel_rfl)
      (OpenSpec.preRow_of_cond 8 hx (by kernel_rfl) (fun k hk => by cases hk; kernel_rfl) (by kernel_rfl) (laid_met os _))) ?_
  intro W base args ds gs before hval hW _ hcond _ hL _ _
  exact contract H enc W base args ds gs before hval hW hL (hcond _ rfl)

theorem saidUpto : Rows.ChainSoundUptoSaid :=
  OpenClaim.holds_of_cond 9 Tryd.f9 rfl rfl rfl rfl rfl rfl rfl ⟨rfl, rfl, rfl, rfl, rfl⟩ rfl rfl rfl rfl rfl (by kernel_rfl) Tryd.func9 (by kernel_rfl)
    (of_decide_eq_true (by kernel_rfl)) (by unfold Func.isWrapper; first | (rw [if_pos (by decide +kernel)]; kernel_rfl) | (rw [if_neg (by decide +kernel)]; exact ⟨rfl, rfl⟩))
    (fun os started H enc _ F => by rw [OpenClaim.pre_eq_preRow]; exact liftedUpto os started H enc F)

theorem plain (f : FuncId) (fn : Func) (hf : Tryd.pinned.checked.prog.funcNamed "wicket/wicketlaw25.ChainSound" = some f) (hfn : Tryd.pinned.checked.prog.funcs[f]? = some fn) :
    false = Tryd.pinned.checked.prog.looks [] ∧ ∀ (j : Nat) t, fn.params[j]? = some t → Tryd.pinned.checked.prog.wantsStandIn t = false := by
  obtain rfl : f = 9 := Option.some.inj ((show Tryd.prog.funcNamed "wicket/wicketlaw25.ChainSound" = some 9 by kernel_rfl).symm.trans hf) |>.symm
  obtain rfl : fn = Tryd.f9 := (Option.some.inj (Tryd.func9.symm.trans hfn)).symm
  refine ⟨by kernel_rfl, fun j t ht => ?_⟩
  rw [Tryd.params9] at ht
  have hm := Array.mem_of_getElem? ht
  simp only [List.mem_toArray, List.mem_cons, List.not_mem_nil, or_false] at hm
  rcases hm with rfl | rfl | rfl | rfl
  · exact (show Tryd.prog.wantsStandIn 28 = false by kernel_rfl)
  · exact (show Tryd.prog.wantsStandIn 3 = false by kernel_rfl)
  · exact (show Tryd.prog.wantsStandIn 29 = false by kernel_rfl)
  · exact (show Tryd.prog.wantsStandIn 31 = false by kernel_rfl)

/-- THE CARD, second form. -/
theorem cardUpto : Rows.ChainSoundUptoCardSaid :=
  Claim7.holds_tied_plain_at .later [] _ _ _ _ saidUpto (fun _ h => by cases h) (by kernel_rfl) (fun _ h => by cases h) chainSoundUpto_row_tie rfl ⟨rfl, rfl⟩ (by kernel_rfl) rfl plain (by kernel_rfl)
end Go.Proofs.YtpdhgijeanbmcaaDoor.chainSound
