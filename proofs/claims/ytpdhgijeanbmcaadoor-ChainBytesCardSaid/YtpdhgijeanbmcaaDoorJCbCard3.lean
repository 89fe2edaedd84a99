/- digest.Mac of a key and of parts is HMAC with SHA-256 of the key and the parts behind one another. -/
import Derived.Deep.MidRow
import Derived.Great.BuildSlice
import Derived.Stop.BytesEq
import Derived.Test.YtpdhgijeanbmcaaDoorJCbCard2
/- Tree -/
namespace Go.Proofs.YtpdhgijeanbmcaaDoor
open Go.RowKit

namespace Tree
def leaf (p : List UInt8) : List UInt8 := Sha.sum (0 :: p)
def node (x y : List UInt8) : List UInt8 := Sha.sum (1 :: (x ++ y))
def root (l : List (List UInt8)) : List UInt8 :=
  if _h : 1 < l.length then node (root (l.take (split l.length))) (root (l.drop (split l.length))) else match l with
    | [] => Sha.sum []
    | x :: _ => x
termination_by l.length
decreasing_by
  · have := split_lt _h; simp; omega
  · have := split_pos l.length; simp; omega
theorem root_nil : root [] = Sha.sum [] := by rw [root]; simp
theorem root_one (x : List UInt8) : root [x] = x := by rw [root]; simp
theorem root_many {l : List (List UInt8)} (h : 1 < l.length) : root l = node (root (l.take (split l.length))) (root (l.drop (split l.length))) := by
  rw [root, dif_pos h]
theorem root_len (l : List (List UInt8)) (h : ∀ x ∈ l, x.length = 32) : (root l).length = 32 := by
  by_cases hl : 1 < l.length
  · rw [root_many hl]; rfl
  · match l, hl, h with
    | [], _, _ => rw [root_nil]; rfl
    | [x], _, h => rw [root_one]; exact h x (by simp)
    | x :: y :: l, hl, _ => simp at hl
end Tree

def sumCells (L : List (List UInt8)) : List Value := L.flatMap fun x => x.map V8
theorem sumCells_length (L : List (List UInt8)) (h : ∀ x ∈ L, x.length = 32) : (sumCells L).length = L.length * 32 := by
  induction L with
  | nil => rfl
  | cons x L ih =>
    have h1 := h x (by simp)
    have h2 := ih fun y hy => h y (by simp [hy])
    simp only [sumCells, List.flatMap_cons, List.length_append, List.length_map, List.length_cons] at h2 ⊢
    omega
theorem sumCells_append (L M : List (List UInt8)) : sumCells (L ++ M) = sumCells L ++ sumCells M := by simp [sumCells]
theorem sumCells_cons (x : List UInt8) (L : List (List UInt8)) : sumCells (x :: L) = x.map V8 ++ sumCells L := rfl
theorem sumCells_one (x : List UInt8) : sumCells [x] = x.map V8 := by simp [sumCells]
theorem sumCells_at (L : List (List UInt8)) (h : ∀ x ∈ L, x.length = 32) (j : Nat) (hj : j < L.length) (i : Nat) (v : Value) (hv : (L[j].map V8)[i]? = some v) : (sumCells L)[j * 32 + i]? = some v := by
  have e : L = L.take j ++ L[j] :: L.drop (j + 1) := by rw [← List.drop_eq_getElem_cons hj]; simp
  have hl : (sumCells (L.take j)).length = j * 32 := by
    rw [sumCells_length _ fun x hx => h x (List.mem_of_mem_take hx)]; simp; omega
  have hi : i < (L[j].map V8).length := (List.getElem?_eq_some_iff.1 hv).1
  have e2 : sumCells L = sumCells (L.take j) ++ (L[j].map V8 ++ sumCells (L.drop (j + 1))) := by
    have h3 : L[j].map V8 ++ sumCells (L.drop (j + 1)) = sumCells (L[j] :: L.drop (j + 1)) := (sumCells_cons _ _).symm
    rw [h3, ← sumCells_append, ← e]
  rw [e2, List.getElem?_append_right (by omega), hl, show j * 32 + i - j * 32 = i by omega, List.getElem?_append_left hi, hv]
theorem sumCells_take (L : List (List UInt8)) (h : ∀ x ∈ L, x.length = 32) (k : Nat) : sumCells (L.take k) = (sumCells L).take (k * 32) := by
  by_cases hk : k ≤ L.length
  · have e : sumCells L = sumCells (L.take k) ++ sumCells (L.drop k) := by rw [← sumCells_append, List.take_append_drop]
    have hl : (sumCells (L.take k)).length = k * 32 := by
      rw [sumCells_length _ fun x hx => h x (List.mem_of_mem_take hx)]; simp; omega
    rw [e, List.take_left' hl]
  · rw [List.take_of_length_le (by omega), List.take_of_length_le (by rw [sumCells_length L h]; omega)]
theorem sumCells_drop (L : List (List UInt8)) (h : ∀ x ∈ L, x.length = 32) (k : Nat) : sumCells (L.drop k) = (sumCells L).drop (k * 32) := by
  by_cases hk : k ≤ L.length
  · have e : sumCells L = sumCells (L.take k) ++ sumCells (L.drop k) := by rw [← sumCells_append, List.take_append_drop]
    have hl : (sumCells (L.take k)).length = k * 32 := by
      rw [sumCells_length _ fun x hx => h x (List.mem_of_mem_take hx)]; simp; omega
    rw [e, List.drop_left' hl]
  · rw [List.drop_of_length_le (by omega), List.drop_of_length_le (by rw [sumCells_length L h]; omega)]
    rfl

/-- A slice of n sums that may be read. -/
structure Sums (w : World) (a : Option Addr) (n c : Nat) (L : List (List UInt8)) : Prop where
  len : n = L.length
  each : ∀ x ∈ L, x.length = 32
  at_ : CellsAt w a (sumCells L)
  cap : n ≤ c
  nil : a = none → c = 0
  plain : ∀ ad, a = some ad → ∃ b o, ad = ⟨b, o, none⟩ ∧ b < w.heap.size
theorem Sums.below {w w' : World} {a : Option Addr} {n c : Nat} {L : List (List UInt8)} (h : Sums w a n c L) (hb : Below w.heap.size w w') : Sums w' a n c L :=
  ⟨h.len, h.each, h.at_.below hb, h.cap, h.nil, fun ad had => by obtain ⟨b, o, e, hlt⟩ := h.plain ad had; exact ⟨b, o, e, Nat.lt_of_lt_of_le hlt hb.size⟩⟩
theorem Sums.od {w : World} {a : Option Addr} {n c : Nat} {L : List (List UInt8)} (h : Sums w a n c L) : ∀ ad, a = some ad → ∃ b o, ad = ⟨b, o, none⟩ := fun ad had => by
  obtain ⟨b, o, rfl, _⟩ := h.plain ad had; exact ⟨b, o, rfl⟩
theorem Sums.take {w : World} {a : Option Addr} {n c : Nat} {L : List (List UInt8)} (h : Sums w a n c L) (k : Nat) (hk : k ≤ n) : Sums w a k c (L.take k) := by
  refine ⟨by have := h.len; simp; omega, fun x hx => h.each x (List.mem_of_mem_take hx), ⟨fun h0 => ?_⟩, by have := h.cap; omega, h.nil, h.plain⟩
  rw [sumCells_take L h.each] at h0 ⊢
  obtain ⟨b, o, ha, hc⟩ := h.at_.at_ (by simp at h0; omega)
  exact ⟨b, o, ha, fun j v hj => hc j v (by
    rw [List.getElem?_take] at hj
    split at hj
    · exact hj
    · cases hj)⟩
theorem Sums.drop {w : World} {a : Option Addr} {n c : Nat} {L : List (List UInt8)} (h : Sums w a n c L) (k : Nat) (hk : k ≤ n) (a' : Option Addr) (ha' : a' = if c = k then a else a.map (·.add (k * 32))) : Sums w a' (n - k) (c - k) (L.drop k) := by
  have hcap := h.cap
  refine ⟨by have := h.len; simp; omega, fun x hx => h.each x (List.mem_of_mem_drop hx), ⟨fun h0 => ?_⟩, by omega, fun hn => ?_, fun ad had => ?_⟩
  · rw [sumCells_drop L h.each] at h0 ⊢
    obtain ⟨b, o, ha, hc⟩ := h.at_.at_ (by simp at h0; omega)
    have hl := sumCells_length L h.each
    have hne : c ≠ k := fun e => by
      simp only [List.length_drop, hl] at h0
      have := h.len
      omega
    refine ⟨b, o + k * 32, by rw [ha', if_neg hne, ha]; simp [Addr.add_lit], fun j v hj => ?_⟩
    rw [List.getElem?_drop] at hj
    rw [Nat.add_assoc]
    exact hc _ v hj
  · by_cases e : c = k
    · omega
    · rw [ha', if_neg e] at hn
      cases ha : a with
      | none => have := h.nil ha; omega
      | some ad => rw [ha] at hn; cases hn
  · by_cases e : c = k
    · rw [ha', if_pos e] at had
      exact h.plain ad had
    · rw [ha', if_neg e] at had
      cases ha : a with
      | none => rw [ha] at had; cases had
      | some ad0 =>
        obtain ⟨b, o, e0, hlt⟩ := h.plain ad0 ha
        rw [ha, e0] at had
        obtain rfl := Option.some.inj had
        exact ⟨b, o + k * 32, by simp [Addr.add_lit], hlt⟩
theorem Sums.rest {w : World} {a : Option Addr} {n c : Nat} {L : List (List UInt8)} (h : Sums w a n c L) (k : Nat) (hk : k < n) : Sums w (a.map (·.add (k * 32))) (n - k) (c - k) (L.drop k) :=
  h.drop k (by omega) _ (by rw [if_neg (by have := h.cap; omega)])
/-- Where a sum lies. -/
theorem Sums.get {w : World} {a : Option Addr} {n c : Nat} {L : List (List UInt8)} (h : Sums w a n c L) : ∃ b o, (0 < n → a = some ⟨b, o, none⟩) ∧ ∀ j (hj : j < L.length), w.rangeAt b (o + j * 32) (L[j].map V8) := by
  by_cases h0 : 0 < L.length
  · obtain ⟨b, o, ha, hc⟩ := h.at_.at_ (by rw [sumCells_length L h.each]; omega)
    refine ⟨b, o, fun _ => ha, fun j hj i v hv => ?_⟩
    rw [Nat.add_assoc]
    exact hc _ v (sumCells_at L h.each j hj i v hv)
  · exact ⟨0, 0, fun hn => absurd hn (by have := h.len; omega), fun j hj => absurd hj (by omega)⟩

theorem Tabs.low {w w' : World} (h : Tabs w) (hl : Low w w') : Tabs w' := h.below hl
theorem Sums.low {w w' : World} {a : Option Addr} {n c : Nat} {L : List (List UInt8)} (h : Sums w a n c L) (hl : Low w w') : Sums w' a n c L := h.below hl
/-- The value is this sum. -/
def pSum (l : List UInt8) : Post Low := Post.is (sumV l)

theorem wpList_load_mid_sum {P : Program} {ops : Array Oper} {rest : List Oper} {o : Oper} {a : Act} {w : World} {Q : Exit → Act → World → Prop} (hgd : o.guard = none) (ty : TypeId) (x : Operand) (ho : o.op = .load ty x) (b off : Nat) (hx : a.eval x = .pointer (some ⟨b, off, none⟩))
    (l : List UInt8) (n : Nat) (e : TypeId) (hc : w.rangeAt b off (l.map V8)) (hu : P.underlying ty = some (.array n e)) (hi : (P.info? ty).map (·.size) = some n) (hl : l.length = n) (h : wpList P ops Q rest (a.put o.dst (sumV l)) w) : wpList P ops Q (o :: rest) a w :=
  wpList_load_mid hgd ty x ho b off hx (l.map V8) _ hc hu rfl (by rw [hi]; simp [hl]) h
theorem range_low {w w' : World} {b o : Nat} {cs : List Value} (h : w.rangeAt b o cs) (hl : Low w w') : w'.rangeAt b o cs := fun j v hv =>
  (hl.cell (p := ⟨b, o + j, none⟩) (World.block_lt_of_cell? w _ (h j v hv))).trans (h j v hv)

theorem rsum_nil (w : World) (hT : Tabs w) : Calls Tryd.prog 43 #[.slice none 0 0] w (RetSum w (Sha.sum [])) :=
  rsum_any [] none 0 0 w rfl hT ⟨.nil _ _, by simp, fun _ => rfl, fun _ h => by cases h⟩ (by simp)

set_option maxRecDepth 100000 in
set_option maxHeartbeats 2000000 in
theorem rroot_nil (a : Option Addr) (c : Nat) (w : World) (hT : Tabs w) : Calls Tryd.prog 22 #[.slice a 0 c] w (RetSum w (Tree.root [])) := by
  rw [Tree.root_nil]
  have hds := fun w hT => rsum_nil w hT
  obtain ⟨s, hs, hsl⟩ : ∃ s, s = Sha.sum [] ∧ s.length = 32 := ⟨_, rfl, rfl⟩
  rw [← hs] at hds ⊢
  have Hsl := Lib.hid hsl
  clear hs hsl
  go_enter Tryd.func22, Tryd.ntmps22
  go_wp2_with (first | (go_at_call 43; refine (hds _ (hT.below (low1 _ _))).mono ?_; rintro e w1 ⟨rfl, hB⟩; have HB := Lib.hid hB; clear hB) | (refine wpList_store_sum rfl 29 _ _ rfl w.heap.size s 32 rfl rfl _ _ (bblk HB.out (blk1 _ _)) (by kernel_rfl) Hsl.out rfl ?_))
  refine bodyPost_ret (results_sum rfl _ _ w.heap.size _ s 32 (0, 0) _ rfl (setRow_heap _ _ _ _ _ _ (bblk HB.out (blk1 _ _))) Tryd.underlying29 (by kernel_rfl) Hsl.out) rfl ⟨rfl, ?_⟩
  exact brow (bthen (low1 _ _) HB.out) (Nat.le_refl _) _

set_option maxRecDepth 100000 in
set_option maxHeartbeats 2000000 in
theorem rroot_one (x : List UInt8) (a : Option Addr) (c : Nat) (w : World) (S : Sums w a 1 c [x]) : Calls Tryd.prog 22 #[.slice a 1 c] w (RetSum w (Tree.root [x])) := by
  rw [Tree.root_one]
  have Hsl := Lib.hid (S.each x (by simp))
  obtain ⟨b, o, ha, hg⟩ := S.get
  obtain rfl := ha (by omega)
  have hr : w.rangeAt b o (x.map V8) := by simpa using hg 0 (by simp)
  have Hr := Lib.hid hr
  have hcap := S.cap
  clear hr hg ha S
  go_enter Tryd.func22, Tryd.ntmps22
  go_wp2_with (first | (refine wpList_load_mid_sum rfl 29 _ rfl b o rfl x 32 _ (range_low Hr.out (low1 _ _)) Tryd.underlying29 (by kernel_rfl) Hsl.out ?_) | (refine wpList_store_sum rfl 29 _ _ rfl w.heap.size x 32 rfl rfl _ _ (blk1 _ _) (by kernel_rfl) Hsl.out rfl ?_))
  refine bodyPost_ret (results_sum rfl _ _ w.heap.size _ x 32 (0, 0) _ rfl (setRow_heap _ _ _ _ _ _ (blk1 _ _)) Tryd.underlying29 (by kernel_rfl) Hsl.out) rfl ⟨rfl, ?_⟩
  exact brow (low1 _ _) (Nat.le_refl _) _

set_option maxRecDepth 100000 in
set_option maxHeartbeats 2000000 in
theorem rroot_any : ∀ (N : Nat) (L : List (List UInt8)) (a : Option Addr) (n c : Nat) (w : World), L.length ≤ N → L.length < 4611686018427387904 → Tabs w → Sums w a n c L → Calls Tryd.prog 22 #[.slice a n c] w (RetSum w (Tree.root L)) := by
  intro N
  induction N with
  | zero =>
    intro L a n c w hN hlen hT S
    obtain rfl : L = [] := List.eq_nil_of_length_eq_zero (by omega)
    obtain rfl : n = 0 := S.len
    exact rroot_nil a c w hT
  | succ N ih =>
    intro L a n c w hN hlen hT S
    have S' := Lib.hid S
    have hn := S.len
    clear S
    by_cases h0 : n = 0
    · subst h0
      obtain rfl : L = [] := List.eq_nil_of_length_eq_zero hn.symm
      exact rroot_nil a c w hT
    · by_cases h1 : n = 1
      · subst h1
        obtain ⟨x, rfl⟩ := List.length_eq_one_iff.1 hn.symm
        exact rroot_one x a c w S'.out
      · have hn1 : n < 4611686018427387904 := by omega
        have hkp := split_pos n
        have hkl := split_lt (show 1 < n by omega)
        have Hr := Lib.hid (Tree.root_many (l := L) (by omega))
        rw [← hn] at Hr
        have Hn := Lib.hid hn
        have hcap := S'.out.cap
        have Hhalf := split_any n (by omega)
        generalize split n = k at *
        clear hn
        go_enter Tryd.func22, Tryd.ntmps22
        go_wp2_with (go_at_call 46; refine (Hhalf _).mono ?_; rintro e w1 ⟨rfl, rfl⟩)
        clear Hhalf
        refine wp_region_rel 8 Low (by kernel_rfl) (by kernel_rfl) Low.refl Low.trans [.is (.slice a n c), .is (.int .i64 k), .is (.slice a k c), pSum (Tree.root (L.take k)), .is (.slice a n c), .is (.int .i64 k), .is (.slice (a.map (·.add (k * 32))) (n - k : Nat) (c - k : Nat)), pSum (Tree.root (L.drop k))] rfl ?_
        refine .cons (fun w1 hR h => ?_) fun v17 => .cons (fun w1 hR h => ?_) fun v18 => .cons (fun w1 hR h => ?_) fun v19 => .cons (fun w1 hR h => ?_) fun v20 => .cons (fun w1 hR h => ?_) fun v21 => .cons (fun w1 hR h => ?_) fun v22 => .cons (fun w1 hR h => ?_) fun v23 => .cons (fun w1 hR h => ?_) fun v24 => .nil fun w1 hR h => ?_
        · unfold relOp
          go_wp2
          exact ⟨Low.refl _, rfl⟩
        · unfold relOp
          go_wp2
          exact ⟨Low.refl _, rfl⟩
        · obtain ⟨rfl, rfl, -⟩ := h
          unfold relOp
          go_wp2
          exact ⟨Low.refl _, rfl⟩
        · obtain ⟨rfl, -⟩ := h
          unfold relOp
          go_wp2_with (go_at_call 22; refine (ih (L.take k) a k c w1 (by have := Hn.out; simp; omega) (by have := Hn.out; simp; omega) (hT.low (bthen (low1 _ _).drew hR)) ((S'.out.take k (by omega)).low (bthen (low1 _ _).drew hR))).mono ?_; rintro e w2 ⟨rfl, hB⟩)
          exact ⟨hB, rfl⟩
        · unfold relOp
          go_wp2
          exact ⟨Low.refl _, rfl⟩
        · unfold relOp
          go_wp2
          exact ⟨Low.refl _, rfl⟩
        · obtain ⟨rfl, rfl, -⟩ := h
          unfold relOp
          go_wp2
          exact ⟨Low.refl _, rfl⟩
        · obtain ⟨rfl, rfl, -⟩ := h
          unfold relOp
          go_wp2_with (go_at_call 22; refine (ih (L.drop k) _ _ _ w1 (by have := Hn.out; simp; omega) (by have := Hn.out; simp; omega) (hT.low (bthen (low1 _ _).drew hR)) ((S'.out.rest k hkl).low (bthen (low1 _ _).drew hR))).mono ?_; rintro e w2 ⟨rfl, hB⟩)
          exact ⟨hB, rfl⟩
        · obtain ⟨rfl, rfl, rfl, rfl, rfl, rfl, rfl, rfl, -⟩ := h
          have h0 : Low w w1 := bthen (low1 _ _).drew hR
          have hr1 : w1.heap[w.heap.size]? = some (.cells (zeros8 32) 29 (0, 0)) := bblk hR (by exact blk1 _ _)
          have H0 := Lib.hid h0
          have HR1 := Lib.hid hr1
          have hl1 := Tree.root_len (L.take k) fun x hx => S'.out.each x (List.mem_of_mem_take hx)
          have hl2 := Tree.root_len (L.drop k) fun x hx => S'.out.each x (List.mem_of_mem_drop hx)
          have Hnd := Lib.hid fun w hT => rnode_any (Tree.root (L.take k)) (Tree.root (L.drop k)) w hT hl1 hl2
          obtain ⟨s, hs, hsl⟩ : ∃ s, s = Tree.root L ∧ s.length = 32 := ⟨_, rfl, Tree.root_len L S'.out.each⟩
          rw [show Sha.sum (1 :: (Tree.root (L.take k) ++ Tree.root (L.drop k))) = s from by rw [hs, Hr.out]; rfl] at Hnd
          have HS := Lib.hid hs
          have Hsl := Lib.hid hsl
          clear h0 hr1 hR hl1 hl2 hs hsl
          go_wp2_with (first | (go_at_call 20; refine (Hnd.out w1 (hT.low H0.out)).mono ?_; rintro e w2 ⟨rfl, hB⟩; have HB := Lib.hid hB; clear hB) | (refine wpList_store_sum rfl 29 _ _ rfl w.heap.size s 32 rfl rfl _ _ (bblk HB.out HR1.out) (by kernel_rfl) Hsl.out rfl ?_))
          refine bodyPost_ret (results_sum rfl _ _ w.heap.size _ s 32 (0, 0) _ rfl (setRow_heap _ _ _ _ _ _ (bblk HB.out HR1.out)) Tryd.underlying29 (by kernel_rfl) Hsl.out) rfl ⟨by rw [HS.out], ?_⟩
          exact brow (bthen H0.out HB.out) (Nat.le_refl _) _
end Go.Proofs.YtpdhgijeanbmcaaDoor

/- Croot -/
namespace Go.Proofs.YtpdhgijeanbmcaaDoor
open Go.RowKit

/-- One cell is stored into a variable of one cell; of the new world this is known. -/
theorem wpList_store_one' {P : Program} {ops : Array Oper} {rest : List Oper} {o : Oper} {a : Act} {w : World} {Q : Exit → Act → World → Prop} (hgd : o.guard = none) (ty : TypeId) (x y : Operand) (ho : o.op = .store ty x y)
    (hd : o.dst = none) (g : Nat) (v : Value) (hx : a.eval x = .pointer (some ⟨g, 0, none⟩)) (hy : a.eval y = v) (h1 : v.oneCell' = true)
    (t : TypeId) (old : Value) (hg : w.heap[g]? = some (.cells #[old] t (0, 0))) (hi : (P.info? ty).map (·.size) = some 1)
    (h : ∀ w', w'.heap[g]? = some (.cells #[v] t (0, 0)) → w.grownBy w' (some g) → wpList P ops Q rest a w') : wpList P ops Q (o :: rest) a w :=
  wpList_store_oneTo hgd ty x y ho hd g v hx hy h1 t old hg hi (h _ (setRow_heap _ _ _ _ _ _ hg) (grownBy_setRow _ _ _))

/-- The closure's variable holds the closure itself. -/
def rootFn (g : Nat) : Value := .func (.func 44) #[] #[.pointer (some ⟨g, 0, none⟩)]

set_option maxRecDepth 100000 in
set_option maxHeartbeats 2000000 in
theorem rootin_one (x : List UInt8) (a : Option Addr) (c : Nat) (p : Value) (w : World) (S : Sums w a 1 c [x]) : Calls Tryd.prog 44 #[.slice a 1 c, p] w (RetSum w (Tree.root [x])) := by
  rw [Tree.root_one]
  have Hsl := Lib.hid (S.each x (by simp))
  obtain ⟨b, o, ha, hg⟩ := S.get
  obtain rfl := ha (by omega)
  have hr : w.rangeAt b o (x.map V8) := by simpa using hg 0 (by simp)
  have Hr := Lib.hid hr
  have hcap := S.cap
  clear hr hg ha S
  go_enter Tryd.func44, Tryd.ntmps44
  go_wp2_with (first | (refine wpList_load_mid_sum rfl 29 _ rfl b o rfl x 32 _ (range_low Hr.out (low1 _ _)) Tryd.underlying29 (by kernel_rfl) Hsl.out ?_) | (refine wpList_store_sum rfl 29 _ _ rfl w.heap.size x 32 rfl rfl _ _ (blk1 _ _) (by kernel_rfl) Hsl.out rfl ?_))
  refine bodyPost_ret (results_sum rfl _ _ w.heap.size _ x 32 (0, 0) _ rfl (setRow_heap _ _ _ _ _ _ (blk1 _ _)) Tryd.underlying29 (by kernel_rfl) Hsl.out) rfl ⟨rfl, ?_⟩
  exact brow (low1 _ _) (Nat.le_refl _) _

set_option maxRecDepth 100000 in
set_option maxHeartbeats 2000000 in
theorem rootin_any : ∀ (N : Nat) (L : List (List UInt8)) (a : Option Addr) (n c g : Nat) (w : World), L.length ≤ N → 0 < L.length → L.length < 4611686018427387904 → Tabs w → Sums w a n c L → w.cell? ⟨g, 0, none⟩ = some (rootFn g) →
    Calls Tryd.prog 44 #[.slice a n c, .pointer (some ⟨g, 0, none⟩)] w (RetSum w (Tree.root L)) := by
  intro N
  induction N with
  | zero =>
    intro L a n c g w hN hpos
    omega
  | succ N ih =>
    intro L a n c g w hN hpos hlen hT S hg
    have S' := Lib.hid S
    have hn := S.len
    clear S
    by_cases h1 : n = 1
    · subst h1
      obtain ⟨x, rfl⟩ := List.length_eq_one_iff.1 hn.symm
      exact rootin_one x a c _ w S'.out
    · have hn1 : n < 4611686018427387904 := by omega
      have hkp := split_pos n
      have hkl := split_lt (show 1 < n by omega)
      have Hr := Lib.hid (Tree.root_many (l := L) (by omega))
      rw [← hn] at Hr
      have Hn := Lib.hid hn
      have Hg := Lib.hid hg
      have hcap := S'.out.cap
      have Hhalf := half_any n (by omega)
      generalize split n = k at *
      clear hn hg
      go_enter Tryd.func44, Tryd.ntmps44
      go_wp2_with (go_at_call 45; refine (Hhalf _).mono ?_; rintro e w1 ⟨rfl, rfl⟩)
      clear Hhalf
      refine wp_region_rel 10 Low (by kernel_rfl) (by kernel_rfl) Low.refl Low.trans [.is (rootFn g), .is (.slice a n c), .is (.int .i64 k), .is (.slice a k c), pSum (Tree.root (L.take k)), .is (rootFn g), .is (.slice a n c), .is (.int .i64 k), .is (.slice (a.map (·.add (k * 32))) (n - k : Nat) (c - k : Nat)), pSum (Tree.root (L.drop k))] rfl ?_
      refine .cons (fun w1 hR h => ?_) fun v14 => .cons (fun w1 hR h => ?_) fun v15 => .cons (fun w1 hR h => ?_) fun v16 => .cons (fun w1 hR h => ?_) fun v17 => .cons (fun w1 hR h => ?_) fun v18 => .cons (fun w1 hR h => ?_) fun v19 => .cons (fun w1 hR h => ?_) fun v20 => .cons (fun w1 hR h => ?_) fun v21 => .cons (fun w1 hR h => ?_) fun v22 => .cons (fun w1 hR h => ?_) fun v23 => .nil fun w1 hR h => ?_
      · have hc : w1.cell? ⟨g, 0, none⟩ = some (rootFn g) := (bthen (low1 _ _).drew hR).cell (p := ⟨g, 0, none⟩) (World.block_lt_of_cell? w _ Hg.out) |>.trans Hg.out
        unfold relOp
        go_wp2
        exact ⟨Low.refl _, rfl⟩
      · unfold relOp
        go_wp2
        exact ⟨Low.refl _, rfl⟩
      · unfold relOp
        go_wp2
        exact ⟨Low.refl _, rfl⟩
      · obtain ⟨rfl, rfl, -⟩ := h
        unfold relOp
        go_wp2
        exact ⟨Low.refl _, rfl⟩
      · obtain ⟨rfl, rfl, -⟩ := h
        unfold relOp rootFn
        go_wp2_with (go_at_call 44; refine (ih (L.take k) a k c g w1 (by have := Hn.out; simp; omega) (by have := Hn.out; simp; omega) (by have := Hn.out; simp; omega) (hT.low (bthen (low1 _ _).drew hR)) ((S'.out.take k (by omega)).low (bthen (low1 _ _).drew hR)) (((bthen (low1 _ _).drew hR).cell (p := ⟨g, 0, none⟩) (World.block_lt_of_cell? w _ Hg.out)).trans Hg.out)).mono ?_; rintro e w2 ⟨rfl, hB⟩)
        exact ⟨hB, rfl⟩
      · have hc : w1.cell? ⟨g, 0, none⟩ = some (rootFn g) := (bthen (low1 _ _).drew hR).cell (p := ⟨g, 0, none⟩) (World.block_lt_of_cell? w _ Hg.out) |>.trans Hg.out
        unfold relOp
        go_wp2
        exact ⟨Low.refl _, rfl⟩
      · unfold relOp
        go_wp2
        exact ⟨Low.refl _, rfl⟩
      · unfold relOp
        go_wp2
        exact ⟨Low.refl _, rfl⟩
      · obtain ⟨rfl, rfl, -⟩ := h
        unfold relOp
        go_wp2
        exact ⟨Low.refl _, rfl⟩
      · obtain ⟨rfl, rfl, -⟩ := h
        unfold relOp rootFn
        go_wp2_with (go_at_call 44; refine (ih (L.drop k) _ _ _ g w1 (by have := Hn.out; simp; omega) (by have := Hn.out; simp; omega) (by have := Hn.out; simp; omega) (hT.low (bthen (low1 _ _).drew hR)) ((S'.out.rest k hkl).low (bthen (low1 _ _).drew hR)) (((bthen (low1 _ _).drew hR).cell (p := ⟨g, 0, none⟩) (World.block_lt_of_cell? w _ Hg.out)).trans Hg.out)).mono ?_; rintro e w2 ⟨rfl, hB⟩)
        exact ⟨hB, rfl⟩
      · obtain ⟨rfl, rfl, rfl, rfl, rfl, rfl, rfl, rfl, rfl, rfl, -⟩ := h
        have h0 : Low w w1 := bthen (low1 _ _).drew hR
        have hr1 : w1.heap[w.heap.size]? = some (.cells (zeros8 32) 29 (0, 0)) := bblk hR (by exact blk1 _ _)
        have H0 := Lib.hid h0
        have HR1 := Lib.hid hr1
        have hl1 := Tree.root_len (L.take k) fun x hx => S'.out.each x (List.mem_of_mem_take hx)
        have hl2 := Tree.root_len (L.drop k) fun x hx => S'.out.each x (List.mem_of_mem_drop hx)
        have Hnd := Lib.hid fun w hT => node_any (Tree.root (L.take k)) (Tree.root (L.drop k)) w hT hl1 hl2
        obtain ⟨s, hs, hsl⟩ : ∃ s, s = Tree.root L ∧ s.length = 32 := ⟨_, rfl, Tree.root_len L S'.out.each⟩
        rw [show Sha.sum (1 :: (Tree.root (L.take k) ++ Tree.root (L.drop k))) = s from by rw [hs, Hr.out]; rfl] at Hnd
        have HS := Lib.hid hs
        have Hsl := Lib.hid hsl
        clear h0 hr1 hR hl1 hl2 hs hsl
        go_wp2_with (first | (go_at_call 19; refine (Hnd.out w1 (hT.low H0.out)).mono ?_; rintro e w2 ⟨rfl, hB⟩; have HB := Lib.hid hB; clear hB) | (refine wpList_store_sum rfl 29 _ _ rfl w.heap.size s 32 rfl rfl _ _ (bblk HB.out HR1.out) (by kernel_rfl) Hsl.out rfl ?_))
        refine bodyPost_ret (results_sum rfl _ _ w.heap.size _ s 32 (0, 0) _ rfl (setRow_heap _ _ _ _ _ _ (bblk HB.out HR1.out)) Tryd.underlying29 (by kernel_rfl) Hsl.out) rfl ⟨by rw [HS.out], ?_⟩
        exact brow (bthen H0.out HB.out) (Nat.le_refl _) _

theorem dsum_nil (w : World) (hT : Tabs w) : Calls Tryd.prog 41 #[.slice none 0 0] w (RetSum w (Sha.sum [])) :=
  dsum_any [] none 0 0 w rfl hT (.nil _ _) (by simp) (fun _ h => by cases h) (by simp)

set_option maxRecDepth 100000 in
set_option maxHeartbeats 2000000 in
theorem root_nil (a : Option Addr) (c : Nat) (w : World) (hT : Tabs w) : Calls Tryd.prog 21 #[.slice a 0 c] w (RetSum w (Tree.root [])) := by
  rw [Tree.root_nil]
  have hds := fun w hT => dsum_nil w hT
  obtain ⟨s, hs, hsl⟩ : ∃ s, s = Sha.sum [] ∧ s.length = 32 := ⟨_, rfl, rfl⟩
  rw [← hs] at hds ⊢
  have Hsl := Lib.hid hsl
  clear hs hsl
  go_enter Tryd.func21, Tryd.ntmps21
  go_wp2_with (first | (refine wpList_store_one' rfl 36 _ _ rfl rfl (w.heap.size + 1) (rootFn (w.heap.size + 1)) rfl rfl rfl _ _ (blk2 _ _ _).2 (by kernel_rfl) ?_; intro w0 hf hgr; have hl0 := (low2 _ _ _).grown hgr (by simp; omega) (fun k hk => by obtain rfl := Option.some.inj hk; exact Nat.le_succ _); have hb0 := (hgr.block _ (by simp; omega) (fun e => by have := Option.some.inj e; omega)).trans (blk2 _ _ _).1; have HL0 := Lib.hid hl0; have HB0 := Lib.hid hb0; clear hf hgr hl0 hb0) | (go_at_call 41; refine (hds _ (hT.below HL0.out)).mono ?_; rintro e w1 ⟨rfl, hB⟩; have HB := Lib.hid hB; clear hB) | (refine wpList_store_sum rfl 29 _ _ rfl w.heap.size s 32 rfl rfl _ _ (bblk HB.out HB0.out) (by kernel_rfl) Hsl.out rfl ?_))
  refine bodyPost_ret (results_sum rfl _ _ w.heap.size _ s 32 (0, 0) _ rfl (setRow_heap _ _ _ _ _ _ (bblk HB.out HB0.out)) Tryd.underlying29 (by kernel_rfl) Hsl.out) rfl ⟨rfl, ?_⟩
  exact brow (bthen HL0.out HB.out) (Nat.le_refl _) _

set_option maxRecDepth 100000 in
set_option maxHeartbeats 2000000 in
theorem root_any (L : List (List UInt8)) (a : Option Addr) (n c : Nat) (w : World) (hlen : L.length < 4611686018427387904) (hT : Tabs w) (S : Sums w a n c L) : Calls Tryd.prog 21 #[.slice a n c] w (RetSum w (Tree.root L)) := by
  by_cases h0 : n = 0
  · subst h0
    obtain rfl : L = [] := List.eq_nil_of_length_eq_zero S.len.symm
    exact root_nil a c w hT
  · have S' := Lib.hid S
    have hin := Lib.hid fun g w hT S hg => rootin_any L.length L a n c g w (Nat.le_refl _) (by have := S'.out.len; omega) hlen hT S hg
    obtain ⟨s, hs, hsl⟩ : ∃ s, s = Tree.root L ∧ s.length = 32 := ⟨_, rfl, Tree.root_len L S'.out.each⟩
    rw [← hs] at hin ⊢
    have Hsl := Lib.hid hsl
    clear S hs hsl
    go_enter Tryd.func21, Tryd.ntmps21
    go_wp2_with (first | (refine wpList_store_one' rfl 36 _ _ rfl rfl (w.heap.size + 1) (rootFn (w.heap.size + 1)) rfl rfl rfl _ _ (blk2 _ _ _).2 (by kernel_rfl) ?_; intro w0 hf hgr; have hc : w0.cell? ⟨w.heap.size + 1, 0, none⟩ = some (.func (.func 44) #[] #[.pointer (some ⟨w.heap.size + 1, 0, none⟩)]) := cell_block hf rfl; have hl0 := (low2 _ _ _).grown hgr (by simp; omega) (fun k hk => by obtain rfl := Option.some.inj hk; exact Nat.le_succ _); have hb0 := (hgr.block _ (by simp; omega) (fun e => by have := Option.some.inj e; omega)).trans (blk2 _ _ _).1; have HL0 := Lib.hid hl0; have HB0 := Lib.hid hb0; have HF := Lib.hid hf; clear hf hgr hl0 hb0) | (go_at_call 44; refine (hin.out (w.heap.size + 1) _ (hT.below HL0.out) (S'.out.below HL0.out) (cell_block HF.out rfl)).mono ?_; rintro e w1 ⟨rfl, hB⟩; have HB := Lib.hid hB; clear hB) | (refine wpList_store_sum rfl 29 _ _ rfl w.heap.size s 32 rfl rfl _ _ (bblk HB.out HB0.out) (by kernel_rfl) Hsl.out rfl ?_))
    refine bodyPost_ret (results_sum rfl _ _ w.heap.size _ s 32 (0, 0) _ rfl (setRow_heap _ _ _ _ _ _ (bblk HB.out HB0.out)) Tryd.underlying29 (by kernel_rfl) Hsl.out) rfl ⟨rfl, ?_⟩
    exact brow (bthen HL0.out HB.out) (Nat.le_refl _) _
end Go.Proofs.YtpdhgijeanbmcaaDoor

/- Tree2 -/
namespace Go.Proofs.YtpdhgijeanbmcaaDoor
open Go.RowKit

namespace Tree
def path (l : List (List UInt8)) (i : Nat) : List (List UInt8) :=
  if _h : 1 < l.length then
    if i < split l.length then path (l.take (split l.length)) i ++ [root (l.drop (split l.length))]
    else path (l.drop (split l.length)) (i - split l.length) ++ [root (l.take (split l.length))]
  else []
termination_by l.length
decreasing_by
  · have := split_lt _h; simp; omega
  · have := split_pos l.length; simp; omega
theorem path_left {l : List (List UInt8)} {i : Nat} (h : 1 < l.length) (hi : i < split l.length) : path l i = path (l.take (split l.length)) i ++ [root (l.drop (split l.length))] := by
  rw [path, dif_pos h, if_pos hi]
theorem path_right {l : List (List UInt8)} {i : Nat} (h : 1 < l.length) (hi : ¬ i < split l.length) : path l i = path (l.drop (split l.length)) (i - split l.length) ++ [root (l.take (split l.length))] := by
  rw [path, dif_pos h, if_neg hi]
theorem path_stop {l : List (List UInt8)} {i : Nat} (h : ¬ 1 < l.length) : path l i = [] := by rw [path, dif_neg h]

def sub (m : Nat) (l : List (List UInt8)) (whole : Bool) : List (List UInt8) :=
  if _h : 1 < l.length then
    if m = l.length then (if whole then [] else [root l])
    else if m ≤ split l.length then sub m (l.take (split l.length)) whole ++ [root (l.drop (split l.length))]
    else sub (m - split l.length) (l.drop (split l.length)) false ++ [root (l.take (split l.length))]
  else if whole then [] else [root l]
termination_by l.length
decreasing_by
  · have := split_lt _h; simp; omega
  · have := split_pos l.length; simp; omega
theorem sub_all {m : Nat} {l : List (List UInt8)} (h : m = l.length) (whole : Bool) : sub m l whole = if whole then [] else [root l] := by
  rw [sub]
  split <;> simp
theorem sub_left {m : Nat} {l : List (List UInt8)} {whole : Bool} (h : m < l.length) (hp : 0 < m) (hi : m ≤ split l.length) : sub m l whole = sub m (l.take (split l.length)) whole ++ [root (l.drop (split l.length))] := by
  rw [sub, dif_pos (by omega), if_neg (by omega), if_pos hi]
theorem sub_right {m : Nat} {l : List (List UInt8)} {whole : Bool} (h : m < l.length) (hp : 0 < m) (hi : ¬ m ≤ split l.length) : sub m l whole = sub (m - split l.length) (l.drop (split l.length)) false ++ [root (l.take (split l.length))] := by
  rw [sub, dif_pos (by omega), if_neg (by omega), if_neg hi]

/-- The root that a leaf and the first u sums of its path make, and whether their number is right. -/
def made (n i : Nat) (leaf : List UInt8) (p : List (List UInt8)) : Option (List UInt8) := 
  if _h : n ≤ 1 then (if p = [] then some leaf else none)
  else match p.getLast? with
    | none => none
    | some x => if i < split n then (made (split n) i leaf p.dropLast).map fun r => node r x else (made (n - split n) (i - split n) leaf p.dropLast).map fun r => node x r
termination_by n
decreasing_by
  · have := split_lt (show 1 < n by omega); omega
  · have := split_pos n; omega

theorem path_each (l : List (List UInt8)) (i : Nat) (h : ∀ x ∈ l, x.length = 32) : ∀ x ∈ path l i, x.length = 32 := by
  fun_induction path l i with
  | case1 l i h1 h2 ih =>
    intro x hx
    rw [List.mem_append] at hx
    rcases hx with hx | hx
    · exact ih (fun y hy => h y (List.mem_of_mem_take hy)) x hx
    · simp only [List.mem_singleton] at hx
      subst hx
      exact root_len _ fun y hy => h y (List.mem_of_mem_drop hy)
  | case2 l i h1 h2 ih =>
    intro x hx
    rw [List.mem_append] at hx
    rcases hx with hx | hx
    · exact ih (fun y hy => h y (List.mem_of_mem_drop hy)) x hx
    · simp only [List.mem_singleton] at hx
      subst hx
      exact root_len _ fun y hy => h y (List.mem_of_mem_take hy)
  | case3 l i h1 => simp
theorem sub_each (m : Nat) (l : List (List UInt8)) (w : Bool) (h : ∀ x ∈ l, x.length = 32) : (∀ x ∈ sub m l w, x.length = 32) ∧ (sub m l w).length ≤ l.length + 1 := by
  fun_induction sub m l w with
  | case1 => simp
  | case2 => exact ⟨by simpa using root_len _ h, by simp⟩
  | case3 m l w h1 h2 h3 ih =>
    have ih' := ih fun y hy => h y (List.mem_of_mem_take hy)
    refine ⟨fun x hx => ?_, ?_⟩
    · rw [List.mem_append] at hx
      rcases hx with hx | hx
      · exact ih'.1 x hx
      · simp only [List.mem_singleton] at hx
        subst hx
        exact root_len _ fun y hy => h y (List.mem_of_mem_drop hy)
    · have h5 := ih'.2
      have := split_lt h1
      simp only [List.length_append, List.length_take, List.length_singleton] at h5 ⊢
      omega
  | case4 m l w h1 h2 h3 ih =>
    have ih' := ih fun y hy => h y (List.mem_of_mem_drop hy)
    refine ⟨fun x hx => ?_, ?_⟩
    · rw [List.mem_append] at hx
      rcases hx with hx | hx
      · exact ih'.1 x hx
      · simp only [List.mem_singleton] at hx
        subst hx
        exact root_len _ fun y hy => h y (List.mem_of_mem_take hy)
    · have h5 := ih'.2
      have := split_pos l.length
      simp only [List.length_append, List.length_drop, List.length_singleton] at h5 ⊢
      omega
  | case5 => simp
  | case6 => exact ⟨by simpa using root_len _ h, by simp⟩
end Tree
end Go.Proofs.YtpdhgijeanbmcaaDoor

/- Grow -/
namespace Go.Proofs.YtpdhgijeanbmcaaDoor
open Go.RowKit Go.Great

def RetS (w : World) (L : List (List UInt8)) (e : Ending) (w' : World) : Prop := ∃ B C, e = .returned (.slice B L.length C) ∧ Acc 29 32 w w' w.heap.size B C L.length (sumCells L)
theorem RetS.of {w w' : World} {B : Option Addr} {C n : Nat} {cs : List Value} {L : List (List UInt8)} (h : Acc 29 32 w w' w.heap.size B C n cs) (hn : n = L.length) (hc : cs = sumCells L) : RetS w L (.returned (.slice B n C)) w' := by
  subst hn hc
  exact ⟨B, C, rfl, h⟩
def pOwn (w0 : World) (L : List (List UInt8)) : Post Low := ⟨fun v w => ∃ B C, v = .slice B L.length C ∧ Acc 29 32 w0 w w0.heap.size B C L.length (sumCells L), fun _ _ _ ⟨B, C, e, h⟩ hl => ⟨B, C, e, h.below hl⟩⟩
theorem info_sum : (Tryd.prog.info? 29).map (fun i => (i.zero.map (·.cells.size), i.size, i.bytes)) = some (some 32, 32, 32) := by kernel_rfl
theorem info_sum' : ∃ z, z.cells.size = 32 ∧ (Tryd.prog.info? 29).map (fun i => (i.zero, i.size, i.bytes)) = some (some z, 32, 32) := by
  have h := info_sum
  cases hi : Tryd.prog.info? 29 with
  | none => rw [hi] at h; cases h
  | some i =>
    rw [hi] at h
    simp only [Option.map_some, Option.some.injEq, Prod.mk.injEq] at h
    obtain ⟨h1, h2, h3⟩ := h
    cases hz : i.zero with
    | none => rw [hz] at h1; cases h1
    | some z => rw [hz] at h1; exact ⟨z, by simpa using h1, by simp [hz, h2, h3]⟩
theorem info_sum2 : ∃ i z, Tryd.prog.info? 29 = some i ∧ i.zero = some z ∧ i.size = 32 ∧ z.cells.size = 32 := by
  obtain ⟨z, hz, h⟩ := info_sum'
  cases hi : Tryd.prog.info? 29 with
  | none => rw [hi] at h; cases h
  | some i =>
    rw [hi] at h
    simp only [Option.map_some, Option.some.injEq, Prod.mk.injEq] at h
    exact ⟨i, z, rfl, h.1, h.2.1, hz⟩
/-- A literal list of one sum. -/
theorem wpList_build_sum {ops : Array Oper} {rest : List Oper} {o : Oper} {a : Act} {w : World} {Q : Exit → Act → World → Prop} (hg : o.guard = none) (x : Operand) (ho : o.op = .buildSlice 31 1 #[(0, x)]) (s : List UInt8) (hx : a.eval x = sumV s) (hs : s.length = 32)
    (h : wpList Tryd.prog ops Q rest (a.put o.dst (.slice (some ⟨w.heap.size, 0, none⟩) 1 1)) (w.alloc (.cells (sumRow s) 29))) : wpList Tryd.prog ops Q (o :: rest) a w := by
  obtain ⟨i, z, hi, hz, hsz, hzs⟩ := info_sum2
  refine wpList_buildSlice hg 31 29 1 #[(0, x)] ho (sumRow s) i z Tryd.underlying31 hi hz (by rw [hsz]; decide) (by rw [hsz]; decide) ?_ h
  have := fill_whole (s := 32) (by decide) [sumV s] ((Array.range (1 * 32)).map (z.cells[· % z.cells.size]!)) (by simp [sumV, Value.cells, hs]) (by simp)
  simp only [hsz]
  rw [show ((#[(0, x)] : Array (Nat × Operand)).map fun (i, x) => (i, a.eval x)).toList = ([sumV s].zipIdx 0).map fun x => (x.2, x.1) from by simp [hx]]
  rw [this]
  simp [sumV, Value.cells, sumRow]
def growFn (g : Nat) : Value := .func (.func 49) #[] #[.pointer (some ⟨g, 0, none⟩)]
theorem ones_sum (s : List UInt8) : ∀ u ∈ s.map V8, u.oneCell' = true := ones' s

set_option maxRecDepth 100000 in
set_option maxHeartbeats 2000000 in
theorem growthin_all (L : List (List UInt8)) (a : Option Addr) (n c : Nat) (whole : Bool) (p : Value) (w : World) (hpos : 0 < n) (hlen : n < 1099511627776) (hT : Tabs w) (S : Sums w a n c L) :
    Calls Tryd.prog 49 #[.int .i64 n, .slice a n c, .bool whole, p] w (RetS w (Tree.sub n L whole)) := by
  rw [Tree.sub_all S.len]
  cases whole with
  | true =>
    go_enter Tryd.func49, Tryd.ntmps49
    go_wp2
    go_ret
    exact ⟨none, 0, rfl, Acc.start _ _ _ _ _ (Below.refl _ _) (Nat.le_refl _)⟩
  | false =>
    have hds := Lib.hid (root_any L a n c w (by have := S.len; omega) hT S)
    obtain ⟨s, hs, hsl⟩ : ∃ s, s = Tree.root L ∧ s.length = 32 := ⟨_, rfl, Tree.root_len L S.each⟩
    rw [← hs] at hds ⊢
    have Hsl := Lib.hid hsl
    clear hs hsl S
    go_enter Tryd.func49, Tryd.ntmps49
    go_wp2_with (first | (go_at_call 21; refine hds.out.mono ?_; rintro e w1 ⟨rfl, hB⟩; have HB := Lib.hid hB; clear hB) | (refine wpList_build_sum rfl _ rfl s rfl Hsl.out ?_))
    go_ret
    refine ⟨some ⟨w1.heap.size, 0, none⟩, 1, rfl, ?_⟩
    have := Acc.lit (e := 29) (size := 32) w1 w.heap.size w (s.map V8).toArray 1 HB.out HB.out.size (by decide) (by simp [Hsl.out])
    simpa [sumCells, sumRow] using this

theorem Acc.sums {w0 w : World} {base : Nat} {A : Option Addr} {C n : Nat} {L : List (List UInt8)} (h : Acc 29 32 w0 w base A C n (sumCells L)) (hL : ∀ x ∈ L, x.length = 32) : Sums w A n C L := by
  have hl : n = L.length := by have := h.length; rw [sumCells_length L hL] at this; omega
  refine ⟨hl, hL, h.at_, h.cap, h.nil, fun ad had => ?_⟩
  rcases h.form with ⟨hn, _⟩ | ⟨g, _, hg, _, hs, _⟩
  · rw [had] at hn; cases hn
  · rw [had] at hg
    obtain rfl := Option.some.inj hg
    exact ⟨g, 0, rfl, hs⟩
theorem low_drew {w w' : World} (h : Low w.drew w') : Low w w' := bthen (Low.drew w) h

set_option maxRecDepth 100000 in
set_option maxHeartbeats 1000000 in
theorem growthin_any : ∀ (N : Nat) (L : List (List UInt8)) (a : Option Addr) (n c m g : Nat) (whole : Bool) (w : World), L.length ≤ N → 0 < m → m ≤ n → n < 1099511627776 → Tabs w → Sums w a n c L → w.cell? ⟨g, 0, none⟩ = some (growFn g) →
    Calls Tryd.prog 49 #[.int .i64 m, .slice a n c, .bool whole, .pointer (some ⟨g, 0, none⟩)] w (RetS w (Tree.sub m L whole)) := by
  obtain ⟨z0, hz0, hinfo⟩ := info_sum'
  have HI := Lib.hid hinfo
  have HZ0 := Lib.hid hz0
  clear hinfo hz0
  intro N
  induction N with
  | zero =>
    intro L a n c m g whole w hN hm hmn hn hT S hg
    have := S.len
    omega
  | succ N ih =>
    intro L a n c m g whole w hN hm hmn hn hT S hg
    by_cases hall : m = n
    · subst hall
      exact growthin_all L a m c whole _ w hm hn hT S
    · have S' := Lib.hid S
      have hnl := S.len
      have hkp := split_pos n
      have hkl := split_lt (show 1 < n by omega)
      have hsl := @Tree.sub_left m L whole (by omega) hm
      have hsr := @Tree.sub_right m L whole (by omega) hm
      rw [← hnl] at hsl hsr
      have Hn := Lib.hid hnl
      have Hg := Lib.hid hg
      have hcap := S.cap
      have Hhalf := half_any n (by omega)
      generalize split n = k at *
      have HN := Lib.hid hN
      have hmn2 : ((m : Int) == (n : Int)) = false := by simp; omega
      have hmne : ¬ (m : Int) = (n : Int) := by omega
      clear hnl hg S hN hall
      by_cases hmk : m ≤ k
      · have hs := hsl hmk
        clear hsl hsr
        have hmk2 : (m : Int) ≤ (k : Int) := by omega
        have hl1 := Tree.root_len (L.drop k) fun x hx => S'.out.each x (List.mem_of_mem_drop hx)
        have hsb := Tree.sub_each m (L.take k) whole fun x hx => S'.out.each x (List.mem_of_mem_take hx)
        have hih := Lib.hid fun w1 hT S hg => ih (L.take k) a k c m g whole w1 (by have := Hn.out; have := HN.out; simp; omega) hm hmk (by omega) hT S hg
        have hrt := Lib.hid fun w1 hT S => root_any (L.drop k) (a.map (·.add (k * 32))) (n - k) (c - k) w1 (by have := Hn.out; simp; omega) hT S
        obtain ⟨s, hse⟩ : ∃ s, s = Tree.root (L.drop k) := ⟨_, rfl⟩
        obtain ⟨M, hM⟩ : ∃ M, M = Tree.sub m (L.take k) whole := ⟨_, rfl⟩
        rw [← hse] at hrt hl1 hs
        rw [← hM] at hih hsb hs
        rw [hs]
        have hMl : M.length + 1 ≤ 1099511627776 := by have this := hsb.2; have h9 := Hn.out; simp at this; omega
        have Hl1 := Lib.hid hl1
        have Hsb := Lib.hid hsb
        have z1 : M.length + 1 ≤ maxLen := by unfold maxLen; omega
        have z2 : (M.length + 1) * 32 ≤ 140737488355328 := by omega
        clear hse hM hs hl1 hsb hMl
        go_enter Tryd.func49, Tryd.ntmps49
        go_wp2_with (go_at_call 45; refine (Hhalf _).mono ?_; rintro e w1 ⟨rfl, rfl⟩)
        clear Hhalf
        refine wp_region_rel 12 Low (by kernel_rfl) (by kernel_rfl) Low.refl Low.trans [.is (growFn g), .is (.int .i64 m), .is (.slice a n c), .is (.int .i64 k), .is (.slice a k c), .is (.bool whole), pOwn w M, .is (.slice a n c), .is (.int .i64 k), .is (.slice (a.map (·.add (k * 32))) (n - k : Nat) (c - k : Nat)), pSum s, pRow 1 (sumRow s) 29] rfl ?_
        refine .cons (fun w1 hR h => ?_) fun v23 => .cons (fun w1 hR h => ?_) fun v24 => .cons (fun w1 hR h => ?_) fun v25 => .cons (fun w1 hR h => ?_) fun v26 => .cons (fun w1 hR h => ?_) fun v27 => .cons (fun w1 hR h => ?_) fun v28 => .cons (fun w1 hR h => ?_) fun v29 => .cons (fun w1 hR h => ?_) fun v30 => .cons (fun w1 hR h => ?_) fun v31 => .cons (fun w1 hR h => ?_) fun v32 => .cons (fun w1 hR h => ?_) fun v33 => .cons (fun w1 hR h => ?_) fun v34 => .nil fun w1 hR h => ?_
        · have hc : w1.cell? ⟨g, 0, none⟩ = some (growFn g) := ((low_drew hR).cell (p := ⟨g, 0, none⟩) (World.block_lt_of_cell? w _ Hg.out)).trans Hg.out
          unfold relOp
          go_wp2
          exact ⟨Low.refl _, rfl⟩
        · unfold relOp
          go_wp2
          exact ⟨Low.refl _, rfl⟩
        · unfold relOp
          go_wp2
          exact ⟨Low.refl _, rfl⟩
        · unfold relOp
          go_wp2
          exact ⟨Low.refl _, rfl⟩
        · obtain ⟨rfl, rfl, -⟩ := h
          unfold relOp
          go_wp2
          exact ⟨Low.refl _, rfl⟩
        · unfold relOp
          go_wp2
          exact ⟨Low.refl _, rfl⟩
        · obtain ⟨rfl, rfl, rfl, rfl, -⟩ := h
          unfold relOp growFn
          go_wp2_with (go_at_call 49; refine (hih.out w1 (hT.low (low_drew hR)) ((S'.out.take k (by omega)).low (low_drew hR)) (((low_drew hR).cell (p := ⟨g, 0, none⟩) (World.block_lt_of_cell? w _ Hg.out)).trans Hg.out)).mono ?_; rintro e w2 ⟨B, C, rfl, hacc⟩)
          exact ⟨hacc.low, B, C, rfl, hacc.rebase (low_drew hR).size (low_drew hR)⟩
        · unfold relOp
          go_wp2
          exact ⟨Low.refl _, rfl⟩
        · unfold relOp
          go_wp2
          exact ⟨Low.refl _, rfl⟩
        · obtain ⟨rfl, rfl, -⟩ := h
          unfold relOp
          go_wp2
          exact ⟨Low.refl _, rfl⟩
        · obtain ⟨rfl, -⟩ := h
          unfold relOp
          go_wp2_with (go_at_call 21; refine (hrt.out w1 (hT.low (low_drew hR)) ((S'.out.rest k hkl).low (low_drew hR))).mono ?_; rintro e w2 ⟨rfl, hB⟩)
          exact ⟨hB, rfl⟩
        · obtain ⟨rfl, -⟩ := h
          unfold relOp
          refine wpList_build_sum rfl _ rfl s (by kernel_rfl) Hl1.out ?_
          go_wp2
          exact ⟨low1 _ _, _, rfl, blk1 _ _⟩
        · obtain ⟨rfl, rfl, rfl, rfl, rfl, rfl, ⟨B, C, rfl, hacc⟩, rfl, rfl, rfl, rfl, ⟨b, rfl, hb⟩, -⟩ := h
          have HA := Lib.hid hacc
          have HB := Lib.hid hb
          clear hacc hb
          refine wpList_acc rfl _ _ 31 rfl 29 32 32 z0 Tryd.underlying31 HI.out HZ0.out (by decide) w w.heap.size B C M.length (sumCells M) (by kernel_rfl) HA.out (some ⟨b, 0, none⟩) 1 1 (s.map V8) (by kernel_rfl) (by simp [Hl1.out]) (Txt.of_block (l := s) (n := 32) HB.out Hl1.out.symm).src.at_.cells (fun h => by cases h) (fun ad h => ⟨_, _, (Option.some.inj h).symm⟩) (ones' s) z1 z2 ?_
          intro B2 D2 w2 hacc hg2 hnew
          have HA2 := Lib.hid hacc
          clear hacc hg2 hnew
          go_wp2
          go_ret
          exact RetS.of HA2.out (by simp) (by rw [sumCells_append, sumCells_one])
      · have hs := hsr hmk
        clear hsl hsr
        have hmk2 : ¬ (m : Int) ≤ (k : Int) := by omega
        have hmk3 : (k : Int) < (m : Int) := by omega
        have e0 : ((m - k : Nat) : Int) = (m : Int) - (k : Int) := by omega
        have hl1 := Tree.root_len (L.take k) fun x hx => S'.out.each x (List.mem_of_mem_take hx)
        have hsb := Tree.sub_each (m - k) (L.drop k) false fun x hx => S'.out.each x (List.mem_of_mem_drop hx)
        have hih := Lib.hid fun w1 hT S hg => ih (L.drop k) (a.map (·.add (k * 32))) (n - k) (c - k) (m - k) g false w1 (by have := Hn.out; have := HN.out; simp; omega) (by omega) (by omega) (by omega) hT S hg
        have hrt := Lib.hid fun w1 hT S => root_any (L.take k) a k c w1 (by have := Hn.out; simp; omega) hT S
        obtain ⟨s, hse⟩ : ∃ s, s = Tree.root (L.take k) := ⟨_, rfl⟩
        obtain ⟨M, hM⟩ : ∃ M, M = Tree.sub (m - k) (L.drop k) false := ⟨_, rfl⟩
        rw [← hse] at hrt hl1 hs
        rw [← hM] at hih hsb hs
        rw [e0] at hih
        rw [hs]
        have hMl : M.length + 1 ≤ 1099511627776 := by have this := hsb.2; have h9 := Hn.out; simp at this; omega
        have Hl1 := Lib.hid hl1
        have Hsb := Lib.hid hsb
        have z1 : M.length + 1 ≤ maxLen := by unfold maxLen; omega
        have z2 : (M.length + 1) * 32 ≤ 140737488355328 := by omega
        clear hse hM hs hl1 hsb hMl e0
        go_enter Tryd.func49, Tryd.ntmps49
        go_wp2_with (go_at_call 45; refine (Hhalf _).mono ?_; rintro e w1 ⟨rfl, rfl⟩)
        clear Hhalf
        refine wp_region_rel 13 Low (by kernel_rfl) (by kernel_rfl) Low.refl Low.trans [.is (growFn g), .is (.int .i64 m), .is (.int .i64 k), .is (.int .i64 ((m : Int) - (k : Int))), .is (.slice a n c), .is (.int .i64 k), .is (.slice (a.map (·.add (k * 32))) (n - k : Nat) (c - k : Nat)), pOwn w M, .is (.slice a n c), .is (.int .i64 k), .is (.slice a k c), pSum s, pRow 1 (sumRow s) 29] rfl ?_
        refine .cons (fun w1 hR h => ?_) fun v => .cons (fun w1 hR h => ?_) fun v => .cons (fun w1 hR h => ?_) fun v => .cons (fun w1 hR h => ?_) fun v => .cons (fun w1 hR h => ?_) fun v => .cons (fun w1 hR h => ?_) fun v => .cons (fun w1 hR h => ?_) fun v => .cons (fun w1 hR h => ?_) fun v => .cons (fun w1 hR h => ?_) fun v => .cons (fun w1 hR h => ?_) fun v => .cons (fun w1 hR h => ?_) fun v => .cons (fun w1 hR h => ?_) fun v => .cons (fun w1 hR h => ?_) fun v => .nil fun w1 hR h => ?_
        · have hc : w1.cell? ⟨g, 0, none⟩ = some (growFn g) := ((low_drew hR).cell (p := ⟨g, 0, none⟩) (World.block_lt_of_cell? w _ Hg.out)).trans Hg.out
          unfold relOp
          go_wp2
          exact ⟨Low.refl _, rfl⟩
        · unfold relOp
          go_wp2
          exact ⟨Low.refl _, rfl⟩
        · unfold relOp
          go_wp2
          exact ⟨Low.refl _, rfl⟩
        · obtain ⟨rfl, rfl, -⟩ := h
          unfold relOp
          go_wp2
          exact ⟨Low.refl _, rfl⟩
        · unfold relOp
          go_wp2
          exact ⟨Low.refl _, rfl⟩
        · unfold relOp
          go_wp2
          exact ⟨Low.refl _, rfl⟩
        · obtain ⟨rfl, rfl, -⟩ := h
          unfold relOp
          go_wp2
          exact ⟨Low.refl _, rfl⟩
        · obtain ⟨rfl, rfl, rfl, -⟩ := h
          unfold relOp growFn
          go_wp2_with (go_at_call 49; refine (hih.out w1 (hT.low (low_drew hR)) ((S'.out.rest k hkl).low (low_drew hR)) (((low_drew hR).cell (p := ⟨g, 0, none⟩) (World.block_lt_of_cell? w _ Hg.out)).trans Hg.out)).mono ?_; rintro e w2 ⟨B, C, rfl, hacc⟩)
          exact ⟨hacc.low, B, C, rfl, hacc.rebase (low_drew hR).size (low_drew hR)⟩
        · unfold relOp
          go_wp2
          exact ⟨Low.refl _, rfl⟩
        · unfold relOp
          go_wp2
          exact ⟨Low.refl _, rfl⟩
        · obtain ⟨rfl, rfl, -⟩ := h
          unfold relOp
          go_wp2
          exact ⟨Low.refl _, rfl⟩
        · obtain ⟨rfl, -⟩ := h
          unfold relOp
          go_wp2_with (go_at_call 21; refine (hrt.out w1 (hT.low (low_drew hR)) ((S'.out.take k (by omega)).low (low_drew hR))).mono ?_; rintro e w2 ⟨rfl, hB⟩)
          exact ⟨hB, rfl⟩
        · obtain ⟨rfl, -⟩ := h
          unfold relOp
          refine wpList_build_sum rfl _ rfl s (by kernel_rfl) Hl1.out ?_
          go_wp2
          exact ⟨low1 _ _, _, rfl, blk1 _ _⟩
        · obtain ⟨rfl, rfl, rfl, rfl, rfl, rfl, rfl, ⟨B, C, rfl, hacc⟩, rfl, rfl, rfl, rfl, ⟨b, rfl, hb⟩, -⟩ := h
          have HA := Lib.hid hacc
          have HB := Lib.hid hb
          clear hacc hb
          refine wpList_acc rfl _ _ 31 rfl 29 32 32 z0 Tryd.underlying31 HI.out HZ0.out (by decide) w w.heap.size B C M.length (sumCells M) (by kernel_rfl) HA.out (some ⟨b, 0, none⟩) 1 1 (s.map V8) (by kernel_rfl) (by simp [Hl1.out]) (Txt.of_block (l := s) (n := 32) HB.out Hl1.out.symm).src.at_.cells (fun h => by cases h) (fun ad h => ⟨_, _, (Option.some.inj h).symm⟩) (ones' s) z1 z2 ?_
          intro B2 D2 w2 hacc hg2 hnew
          have HA2 := Lib.hid hacc
          clear hacc hg2 hnew
          go_wp2
          go_ret
          exact RetS.of HA2.out (by simp) (by rw [sumCells_append, sumCells_one])
end Go.Proofs.YtpdhgijeanbmcaaDoor

/- Growb -/
namespace Go.Proofs.YtpdhgijeanbmcaaDoor
open Go.RowKit Go.Great

/-- A list of sums of the call's own and an error's number (its value is kept open: V). -/
def RetSE (w : World) (L : List (List UInt8)) (k : Int) (e : Ending) (w' : World) : Prop := ∃ B C, e = .returned (.tuple #[.slice B L.length C, .int .i64 k]) ∧ Acc 29 32 w w' w.heap.size B C L.length (sumCells L)

set_option maxRecDepth 100000 in
set_option maxHeartbeats 1000000 in
theorem growth_bad (a : Option Addr) (n c : Nat) (m : Int) (w : World) (hm : m < 1 ∨ (n : Int) < m) :
    Calls Tryd.prog 26 #[.slice a n c, .int .i64 m] w (RetSE w [] 2) := by
  rcases hm with hm | hm
  · go_enter Tryd.func26, Tryd.ntmps26
    go_wp2
    go_ret2
    exact ⟨none, 0, rfl, Acc.start _ _ _ _ _ (Below.refl _ _) (Nat.le_refl _)⟩
  · have h1 : ¬ m < 1 := by omega
    go_enter Tryd.func26, Tryd.ntmps26
    go_wp2
    go_ret2
    exact ⟨none, 0, rfl, Acc.start _ _ _ _ _ (Below.refl _ _) (Nat.le_refl _)⟩

set_option maxRecDepth 100000 in
set_option maxHeartbeats 1000000 in
theorem growth_any (L : List (List UInt8)) (a : Option Addr) (n c m : Nat) (w : World) (hm : 0 < m) (hmn : m ≤ n) (hlen : n < 1099511627776) (hT : Tabs w) (S : Sums w a n c L) :
    Calls Tryd.prog 26 #[.slice a n c, .int .i64 m] w (RetSE w (Tree.sub m L true) 0) := by
  have S' := Lib.hid S
  have hin := Lib.hid fun g w hT S hg => growthin_any L.length L a n c m g true w (Nat.le_refl _) hm hmn hlen hT S hg
  obtain ⟨M, hM⟩ : ∃ M, M = Tree.sub m L true := ⟨_, rfl⟩
  rw [← hM] at hin ⊢
  have h1 : ¬ (m : Int) < 1 := by omega
  have h2 : ¬ (n : Int) < (m : Int) := by omega
  clear S hM
  go_enter Tryd.func26, Tryd.ntmps26
  go_wp2_with (first | (refine wpList_store_one' rfl 68 _ _ rfl rfl w.heap.size (growFn w.heap.size) rfl rfl rfl _ _ (blk1 _ _) (by kernel_rfl) ?_; intro w0 hf hgr; have hc : w0.cell? ⟨w.heap.size, 0, none⟩ = some (.func (.func 49) #[] #[.pointer (some ⟨w.heap.size, 0, none⟩)]) := cell_block hf rfl; have hl0 := (low1 _ _).grown hgr (by simp) (fun k hk => by obtain rfl := Option.some.inj hk; exact Nat.le_refl _); have HL0 := Lib.hid hl0; have HF := Lib.hid hf; clear hf hgr hl0) | (go_at_call 49; refine (hin.out w.heap.size _ (hT.below HL0.out) (S'.out.below HL0.out) (cell_block HF.out rfl)).mono ?_; rintro e w1 ⟨B, C, rfl, hA⟩; have HA := Lib.hid hA; clear hA))
  go_ret2
  exact ⟨B, C, rfl, HA.out.rebase HL0.out.size HL0.out⟩
end Go.Proofs.YtpdhgijeanbmcaaDoor

/- Hold -/
namespace Go.Proofs.YtpdhgijeanbmcaaDoor
open Go.RowKit Go.Great

theorem guard_sum : Tryd.prog.eqGuardType Tryd.prog.depth 29 = false := by kernel_rfl
theorem size_u8 (w : World) : (sizeOf 5).run Tryd.prog w = .ok 1 w := by
  obtain ⟨i, hi, _, hs, _⟩ := info_u8i
  simp [sizeOf, typeInfo, hi, hs]
@[go_sem] theorem eql_sumV (x y : List UInt8) (w : World) (hx : x.length = 32) (hy : y.length = 32) : (binOp .eql 29 (sumV x) (sumV y)).run Tryd.prog w = .ok (.bool (x == y)) w :=
  run_eql_bytes w 29 5 32 Tryd.underlying29 Tryd.underlying5 size_u8 x y hx hy
@[go_sem] theorem eqGuard_sumV (op : BinOp) (X Y : Operand) (x y : List UInt8) (w : World) : (eqGuard op 29 X Y (sumV x) (sumV y)).run Tryd.prog w = .ok () w :=
  run_eqGuard_agg w op 29 X Y _ _ guard_sum

theorem results_sum_tmp {P : Program} {fn : Func} {p u : Tmp} {ty : TypeId} (h : fn.results = #[.cell p ty, .tmp u]) (tmps : Array Value) (w : World) (g : Nat) (t : TypeId) (l : List UInt8) (n : Nat) (fr : Nat × Nat) (e : TypeId)
    (hp : tmps.getD p undef = .pointer (some ⟨g, 0, none⟩)) (hg : w.heap[g]? = some (.cells (l.map V8).toArray t fr))
    (hu : P.underlying ty = some (.array n e)) (hi : (P.info? ty).map (·.size) = some n) (hl : l.length = n) : (results fn tmps).run P w = .ok (.tuple #[sumV l, tmps.getD u undef]) w := by
  rw [results_cell_tmp h, hp]
  simp only [asAddr, Sem.run_pure, Result.andThen_ok]
  rw [run_loadVar_row w g t ty _ fr _ hg hu rfl (by rw [hi]; simp [hl])]
  rfl

namespace Tree
theorem made_one (n i : Nat) (leaf : List UInt8) (p : List (List UInt8)) (h : n ≤ 1) : made n i leaf p = if p = [] then some leaf else none := by rw [made, dif_pos h]
theorem made_zero (n i : Nat) (leaf : List UInt8) (h : ¬ n ≤ 1) : made n i leaf [] = none := by rw [made, dif_neg h]; rfl
theorem getLast_take (p : List (List UInt8)) (u : Nat) (hu : u < p.length) : (p.take (u + 1)).getLast? = some p[u] ∧ (p.take (u + 1)).dropLast = p.take u := by
  have e : p.take (u + 1) = p.take u ++ [p[u]] := by rw [List.take_succ_eq_append_getElem hu]
  rw [e]
  exact ⟨List.getLast?_concat, List.dropLast_concat⟩
theorem made_left (n i : Nat) (leaf : List UInt8) (p : List (List UInt8)) (u : Nat) (hu : u < p.length) (h : ¬ n ≤ 1) (hi : i < split n) : made n i leaf (p.take (u + 1)) = (made (split n) i leaf (p.take u)).map fun r => node r p[u] := by
  rw [made, dif_neg h, (getLast_take p u hu).1, (getLast_take p u hu).2]
  simp [hi]
theorem made_right (n i : Nat) (leaf : List UInt8) (p : List (List UInt8)) (u : Nat) (hu : u < p.length) (h : ¬ n ≤ 1) (hi : ¬ i < split n) : made n i leaf (p.take (u + 1)) = (made (n - split n) (i - split n) leaf (p.take u)).map fun r => node p[u] r := by
  rw [made, dif_neg h, (getLast_take p u hu).1, (getLast_take p u hu).2]
  simp [hi]
end Tree
/-- A sum and a truth: where it is true, the sum is what was to be reckoned; where it is false, there is none. -/
def RetMade (o : Option (List UInt8)) (w : World) (e : Ending) (w' : World) : Prop := ∃ (r : List UInt8) (b : Bool), e = .returned (.tuple #[sumV r, .bool b]) ∧ r.length = 32 ∧ (o = if b then some r else none) ∧ Below w.heap.size w w'

/-! ### the closure of Holds -/
def holdFn (lb pb g : Nat) : Value := .func (.func 51) #[] #[.pointer (some ⟨lb, 0, none⟩), .pointer (some ⟨pb, 0, none⟩), .pointer (some ⟨g, 0, none⟩)]
/-- What the closure is handed: the leaf's variable, the path's, its own. -/
structure HoldEnv (w : World) (lb pb g : Nat) (leaf : List UInt8) (a : Option Addr) (np c : Nat) (p : List (List UInt8)) : Prop where
  tabs : Tabs w
  leafAt : ∃ t fr, w.heap[lb]? = some (.cells (leaf.map V8).toArray t fr)
  pathAt : w.cell? ⟨pb, 0, none⟩ = some (.slice a np c)
  fn : w.cell? ⟨g, 0, none⟩ = some (holdFn lb pb g)
  len : leaf.length = 32
  sums : Sums w a np c p
theorem HoldEnv.low {w w' : World} {lb pb g : Nat} {leaf : List UInt8} {a : Option Addr} {np c : Nat} {p : List (List UInt8)} (h : HoldEnv w lb pb g leaf a np c p) (hl : Low w w') : HoldEnv w' lb pb g leaf a np c p := by
  obtain ⟨t, fr, h1⟩ := h.leafAt
  exact ⟨h.tabs.low hl, ⟨t, fr, bblk hl h1⟩, (hl.cell (p := ⟨pb, 0, none⟩) (World.block_lt_of_cell? w _ h.pathAt)).trans h.pathAt, (hl.cell (p := ⟨g, 0, none⟩) (World.block_lt_of_cell? w _ h.fn)).trans h.fn, h.len, h.sums.low hl⟩

set_option maxRecDepth 100000 in
set_option maxHeartbeats 1000000 in
theorem holdsin_one (i u lb pb g : Nat) (leaf : List UInt8) (a : Option Addr) (np c : Nat) (p : List (List UInt8)) (w : World) (E : HoldEnv w lb pb g leaf a np c p) (hu : u ≤ np) :
    Calls Tryd.prog 51 #[.int .i64 1, .int .i64 i, .int .i64 u, .pointer (some ⟨lb, 0, none⟩), .pointer (some ⟨pb, 0, none⟩), .pointer (some ⟨g, 0, none⟩)] w (RetMade (Tree.made 1 i leaf (p.take u)) w) := by
  have E' := Lib.hid E
  have Hl := Lib.hid E.len
  obtain ⟨t, fr, hlf⟩ := E.leafAt
  have HLF := Lib.hid hlf
  clear E hlf
  go_enter Tryd.func51, Tryd.ntmps51
  go_wp2_with (first | (refine wpList_load_sum rfl 29 _ rfl lb rfl t leaf 32 fr _ (at_old _ HLF.out) Tryd.underlying29 (by kernel_rfl) Hl.out ?_) | (refine wpList_store_sum rfl 29 _ _ rfl w.heap.size leaf 32 rfl rfl _ _ (blk1 _ _) (by kernel_rfl) Hl.out rfl ?_))
  refine bodyPost_ret (results_sum_tmp rfl _ _ w.heap.size _ leaf 32 (0, 0) _ rfl (setRow_heap _ _ _ _ _ _ (blk1 _ _)) Tryd.underlying29 (by kernel_rfl) Hl.out) rfl ⟨leaf, _, rfl, Hl.out, ?_, ?_⟩
  · rw [Tree.made_one _ _ _ _ (Nat.le_refl _)]
    have hp := E'.out.sums.len
    by_cases h : u = 0
    · subst h; simp
    · have h2 : p.take u ≠ [] := by simp; exact ⟨h, fun e => by rw [e] at hp; simp at hp; omega⟩
      rw [if_neg h2]
      have : ((u : Int) == 0) = false := by simp; exact h
      simp [this]
  · exact brow (low1 _ _) (Nat.le_refl _) _

set_option maxRecDepth 100000 in
set_option maxHeartbeats 1000000 in
theorem holdsin_zero (n i : Nat) (x y z : Value) (leaf : List UInt8) (w : World) (hn : 1 < n) :
    Calls Tryd.prog 51 #[.int .i64 n, .int .i64 i, .int .i64 0, x, y, z] w (RetMade (Tree.made n i leaf []) w) := by
  have h1 : ((n : Int) == 1) = false := by simp; omega
  have h2 : ¬ (n : Int) = 1 := by omega
  rw [Tree.made_zero _ _ _ (by omega)]
  go_enter Tryd.func51, Tryd.ntmps51
  go_wp2_with (first | (refine wpList_store_sum rfl 29 _ _ rfl w.heap.size (List.replicate 32 0) 32 rfl (by kernel_rfl) _ _ (blk1 _ _) (by kernel_rfl) (by simp) rfl ?_))
  refine bodyPost_ret (results_sum_tmp rfl _ _ w.heap.size _ (List.replicate 32 0) 32 (0, 0) _ rfl (setRow_heap _ _ _ _ _ _ (blk1 _ _)) Tryd.underlying29 (by kernel_rfl) (by simp)) rfl ⟨_, false, rfl, by simp, rfl, ?_⟩
  exact brow (low1 _ _) (Nat.le_refl _) _
end Go.Proofs.YtpdhgijeanbmcaaDoor

/- Holdb -/
namespace Go.Proofs.YtpdhgijeanbmcaaDoor
open Go.RowKit Go.Great

/-- A new variable of one row. -/
def pBox (base : Nat) (cs : Array Value) (t : TypeId) : Post Low := ⟨fun v w => ∃ b, v = .pointer (some ⟨b, 0, none⟩) ∧ base ≤ b ∧ w.heap[b]? = some (.cells cs t (0, 0)), fun _ _ _ ⟨b, e, h0, h⟩ hl => ⟨b, e, h0, bblk hl h⟩⟩

theorem node_some (x y : List UInt8) (w : World) (hT : Tabs w) (hx : x.length = 32) (hy : y.length = 32) :
    Calls Tryd.prog 19 #[sumV x, sumV y] w fun e w' => ∃ s, s = Tree.node x y ∧ s.length = 32 ∧ e = .returned (sumV s) ∧ Below w.heap.size w w' :=
  (node_any x y w hT hx hy).mono fun _ _ ⟨h1, h2⟩ => ⟨_, rfl, rfl, h1, h2⟩
theorem size_sum (l : List UInt8) (h : l.length = 32) : (Tryd.prog.info? 29).map (·.size) = some (l.map V8).toArray.size := by
  rw [show (Tryd.prog.info? 29).map (·.size) = some 32 from by kernel_rfl]
  simp [h]

set_option maxRecDepth 100000 in
set_option maxHeartbeats 1000000 in
theorem holdsin_any (lb pb g : Nat) (leaf : List UInt8) (a : Option Addr) (np c : Nat) (p : List (List UInt8)) : ∀ (u n i : Nat) (w : World), u ≤ np → np < 4611686018427387904 → 0 < n → n < 9223372036854775808 → i < n → HoldEnv w lb pb g leaf a np c p →
    Calls Tryd.prog 51 #[.int .i64 n, .int .i64 i, .int .i64 u, .pointer (some ⟨lb, 0, none⟩), .pointer (some ⟨pb, 0, none⟩), .pointer (some ⟨g, 0, none⟩)] w (RetMade (Tree.made n i leaf (p.take u)) w) := by
  intro u
  induction u with
  | zero =>
    intro n i w hu hnp hn hn63 hi E
    by_cases h1 : n = 1
    · subst h1
      exact holdsin_one i 0 lb pb g leaf a np c p w E hu
    · have := holdsin_zero n i (.pointer (some ⟨lb, 0, none⟩)) (.pointer (some ⟨pb, 0, none⟩)) (.pointer (some ⟨g, 0, none⟩)) leaf w (by omega)
      simpa using this
  | succ u ih =>
    intro n i w hu hnp hn hn63 hi E
    by_cases h1 : n = 1
    · subst h1
      exact holdsin_one i (u + 1) lb pb g leaf a np c p w E hu
    · have E' := Lib.hid E
      have hup : u < p.length := by have := E.sums.len; omega
      have hkp := split_pos n
      have hkl := split_lt (show 1 < n by omega)
      have Hml := Lib.hid (Tree.made_left n i leaf p u hup (by omega))
      have Hmr := Lib.hid (Tree.made_right n i leaf p u hup (by omega))
      have Hhalf := half_any n (by omega)
      obtain ⟨b, o, ha, hget⟩ := E.sums.get
      obtain rfl := ha (by omega)
      have hx := hget u hup
      have hxl := E.sums.each p[u] (by simp)
      obtain ⟨x, hxe⟩ : ∃ x, x = p[u] := ⟨_, rfl⟩
      rw [← hxe] at hx hxl Hml Hmr
      generalize split n = k at *
      have HX := Lib.hid hx
      have HXL := Lib.hid hxl
      have Ih := Lib.hid ih
      have hcap := E.sums.cap
      have e1 : ((u + 1 : Nat) : Int) - 1 = (u : Int) := by omega
      have hn1 : ((n : Int) == 1) = false := by simp; omega
      have hn2 : ¬ (n : Int) = 1 := by omega
      have hunp : (u : Int) < (np : Int) := by omega
      clear hx hxl hget ha ih E hxe hup hu
      go_enter Tryd.func51, Tryd.ntmps51
      go_wp2_with fail
      refine wp_region_rel 9 Low (by kernel_rfl) (by kernel_rfl) Low.refl Low.trans [.is (.int .i64 n), .is (.int .i64 k), .is (.slice (some ⟨b, o, none⟩) np c), .is (.int .i64 (u + 1 : Nat)), .is (.int .i64 u), .is (.pointer (some ⟨b, o + u * 32, none⟩)), pSum x, pBox (w.heap.size + 1) (zeros8 32) 29, .is (.int .i64 k)] rfl ?_
      refine .cons (fun w1 hR h => ?_) fun v => .cons (fun w1 hR h => ?_) fun v => .cons (fun w1 hR h => ?_) fun v => .cons (fun w1 hR h => ?_) fun v => .cons (fun w1 hR h => ?_) fun v => .cons (fun w1 hR h => ?_) fun v => .cons (fun w1 hR h => ?_) fun v => .cons (fun w1 hR h => ?_) fun v => .cons (fun w1 hR h => ?_) fun v => .nil fun w1 hR h => ?_
      · unfold relOp
        go_wp2
        exact ⟨Low.refl _, rfl⟩
      · obtain ⟨rfl, -⟩ := h
        unfold relOp
        go_wp2_with (go_at_call 45; refine (Hhalf _).mono ?_; rintro e w2 ⟨rfl, rfl⟩)
        exact ⟨Low.refl _, rfl⟩
      · have hc := (E'.out.low (bthen (low1 _ _).drew hR)).pathAt
        unfold relOp
        go_wp2
        exact ⟨Low.refl _, rfl⟩
      · unfold relOp
        go_wp2
        exact ⟨Low.refl _, rfl⟩
      · obtain ⟨rfl, -⟩ := h
        unfold relOp
        go_wp2
        exact ⟨Low.refl _, rfl⟩
      · obtain ⟨rfl, rfl, -⟩ := h
        unfold relOp
        go_wp2
        exact ⟨Low.refl _, rfl⟩
      · obtain ⟨rfl, -⟩ := h
        unfold relOp
        refine wpList_load_mid_sum rfl 29 _ rfl b (o + u * 32) (by kernel_rfl) x 32 _ (range_low HX.out (bthen (low1 _ _).drew hR)) Tryd.underlying29 (by kernel_rfl) HXL.out ?_
        go_wp2
        exact ⟨Low.refl _, rfl⟩
      · unfold relOp
        go_wp2
        exact ⟨low1 _ _, _, rfl, by have := (bthen (low1 _ _).drew hR).size; have h2 := hR.size; simp at h2; exact h2, blk1 _ _⟩
      · obtain ⟨rfl, -⟩ := h
        unfold relOp
        go_wp2
        exact ⟨Low.refl _, rfl⟩
      · obtain ⟨rfl, rfl, rfl, rfl, rfl, rfl, rfl, ⟨b12, rfl, hb12, hbx⟩, rfl, -⟩ := h
        have hL : Low w w1 := bthen (low1 _ _).drew hR
        have hr : w1.heap[w.heap.size]? = some (.cells (zeros8 32) 29 (0, 0)) := bblk hR (by exact blk1 _ _)
        refine wpList_store_row' rfl 29 _ _ rfl b12 (x.map V8).toArray (by kernel_rfl) (by kernel_rfl) _ _ hbx (by rw [show (Tryd.prog.info? 29).map (·.size) = some 32 from by kernel_rfl]; simp [HXL.out]) (by simp [HXL.out, zeros8]) (oneCells x) ?_
        intro w2 hx2 hg2 hs2
        have hL2 : Below w.heap.size w w2 := hL.grown hg2 hL.size (fun k' hk' => by obtain rfl := Option.some.inj hk'; omega)
        have hr2 : w2.heap[w.heap.size]? = some (.cells (zeros8 32) 29 (0, 0)) := (hg2.block _ (in_heap hr) (fun e => by have := Option.some.inj e; omega)).trans hr
        have E2 := E'.out.low hL2
        have HE2 := Lib.hid E2
        have HL2 := Lib.hid hL2
        have HR2 := Lib.hid hr2
        have HX2 := Lib.hid hx2
        have hc := E2.fn
        unfold holdFn at hc
        clear hR hL hr hbx hg2 hs2 hL2 hr2 hx2 E2 Hhalf
        have hml2 := Lib.hid hi
        by_cases hik : i < k
        · have hik2 : (i : Int) < (k : Int) := by omega
          have hml := Hml.out hik
          have hcall := Lib.hid (Ih.out k i w2 (by omega) hnp hkp (by omega) hik HE2.out)
          go_wp2_with (first | (go_at_call 51; refine hcall.out.mono ?_; rintro e w3 ⟨r, bb, rfl, hrl, hmd, hB⟩; have HRL := Lib.hid hrl; have HMD := Lib.hid hmd; have HB3 := Lib.hid hB; clear hrl hmd hB) | (refine wpList_store_row' rfl 29 _ _ rfl w3.heap.size (r.map V8).toArray rfl rfl _ _ (blk1 _ _) (size_sum r HRL.out) (by simp [HRL.out]) (oneCells r) ?_; intro w4 hr4 hg4 hs4; have hL4 : Below w.heap.size w w4 := ((HL2.out.trans (HB3.out.mono HL2.out.size)).alloc (Nat.le_trans HL2.out.size HB3.out.size) _).grown hg4 (by simp; exact Nat.le_succ_of_le (Nat.le_trans HL2.out.size HB3.out.size)) (fun k' hk' => by obtain rfl := Option.some.inj hk'; exact Nat.le_trans HL2.out.size HB3.out.size); have hz4 := (hg4.block _ (in_heap (at_old _ (bblk HB3.out HR2.out))) (fun e => absurd (Option.some.inj e) (Nat.ne_of_lt (in_heap (bblk HB3.out HR2.out))))).trans (at_old _ (bblk HB3.out HR2.out)); have hx4 := (hg4.block _ (in_heap (at_old _ (bblk HB3.out HX2.out))) (fun e => absurd (Option.some.inj e) (Nat.ne_of_lt (in_heap (bblk HB3.out HX2.out))))).trans (at_old _ (bblk HB3.out HX2.out)); have HL4 := Lib.hid hL4; have HZ4 := Lib.hid hz4; have HX4 := Lib.hid hx4; have HR4 := Lib.hid hr4; clear hr4 hg4 hs4 hL4 hz4 hx4) | (refine wpList_load_sum rfl 29 _ rfl w3.heap.size rfl _ r 32 _ _ HR4.out Tryd.underlying29 (by kernel_rfl) HRL.out ?_) | (refine wpList_load_sum rfl 29 _ rfl b12 rfl _ x 32 _ _ HX4.out Tryd.underlying29 (by kernel_rfl) HXL.out ?_) | (go_at_call 19; refine (node_some r x w4 (E'.out.tabs.below HL4.out) HRL.out HXL.out).mono ?_; rintro e w5 ⟨s, hs, hsl, rfl, hB⟩; have HS := Lib.hid hs; have HSL := Lib.hid hsl; have HB5 := Lib.hid hB; clear hs hsl hB) | (refine wpList_store_sum rfl 29 _ _ rfl w.heap.size s 32 rfl rfl _ _ (bblk HB5.out HZ4.out) (by kernel_rfl) HSL.out rfl ?_))
          refine bodyPost_ret (results_sum_tmp rfl _ _ w.heap.size _ s 32 (0, 0) _ rfl (setRow_heap _ _ _ _ _ _ (bblk HB5.out HZ4.out)) Tryd.underlying29 (by kernel_rfl) HSL.out) rfl ⟨s, bb, rfl, HSL.out, ?_, ?_⟩
          · rw [hml, HMD.out, HS.out]
            cases bb <;> rfl
          · exact brow (HL4.out.trans (HB5.out.mono HL4.out.size)) (Nat.le_refl _) _
        · have hik2 : ¬ (i : Int) < (k : Int) := by omega
          have hik3 : (k : Int) ≤ (i : Int) := by omega
          have hml := Hmr.out hik
          have hcall := Ih.out (n - k) (i - k) w2 (by omega) hnp (by omega) (by omega) (by omega) HE2.out
          rw [show ((n - k : Nat) : Int) = (n : Int) - (k : Int) from by omega, show ((i - k : Nat) : Int) = (i : Int) - (k : Int) from by omega] at hcall
          have hcall := Lib.hid hcall
          go_wp2_with (first | (go_at_call 51; refine hcall.out.mono ?_; rintro e w3 ⟨r, bb, rfl, hrl, hmd, hB⟩; have HRL := Lib.hid hrl; have HMD := Lib.hid hmd; have HB3 := Lib.hid hB; clear hrl hmd hB) | (refine wpList_store_row' rfl 29 _ _ rfl w3.heap.size (r.map V8).toArray rfl rfl _ _ (blk1 _ _) (size_sum r HRL.out) (by simp [HRL.out]) (oneCells r) ?_; intro w4 hr4 hg4 hs4; have hL4 : Below w.heap.size w w4 := ((HL2.out.trans (HB3.out.mono HL2.out.size)).alloc (Nat.le_trans HL2.out.size HB3.out.size) _).grown hg4 (by simp; exact Nat.le_succ_of_le (Nat.le_trans HL2.out.size HB3.out.size)) (fun k' hk' => by obtain rfl := Option.some.inj hk'; exact Nat.le_trans HL2.out.size HB3.out.size); have hz4 := (hg4.block _ (in_heap (at_old _ (bblk HB3.out HR2.out))) (fun e => absurd (Option.some.inj e) (Nat.ne_of_lt (in_heap (bblk HB3.out HR2.out))))).trans (at_old _ (bblk HB3.out HR2.out)); have hx4 := (hg4.block _ (in_heap (at_old _ (bblk HB3.out HX2.out))) (fun e => absurd (Option.some.inj e) (Nat.ne_of_lt (in_heap (bblk HB3.out HX2.out))))).trans (at_old _ (bblk HB3.out HX2.out)); have HL4 := Lib.hid hL4; have HZ4 := Lib.hid hz4; have HX4 := Lib.hid hx4; have HR4 := Lib.hid hr4; clear hr4 hg4 hs4 hL4 hz4 hx4) | (refine wpList_load_sum rfl 29 _ rfl w3.heap.size rfl _ r 32 _ _ HR4.out Tryd.underlying29 (by kernel_rfl) HRL.out ?_) | (refine wpList_load_sum rfl 29 _ rfl b12 rfl _ x 32 _ _ HX4.out Tryd.underlying29 (by kernel_rfl) HXL.out ?_) | (go_at_call 19; refine (node_some x r w4 (E'.out.tabs.below HL4.out) HXL.out HRL.out).mono ?_; rintro e w5 ⟨s, hs, hsl, rfl, hB⟩; have HS := Lib.hid hs; have HSL := Lib.hid hsl; have HB5 := Lib.hid hB; clear hs hsl hB) | (refine wpList_store_sum rfl 29 _ _ rfl w.heap.size s 32 rfl rfl _ _ (bblk HB5.out HZ4.out) (by kernel_rfl) HSL.out rfl ?_))
          refine bodyPost_ret (results_sum_tmp rfl _ _ w.heap.size _ s 32 (0, 0) _ rfl (setRow_heap _ _ _ _ _ _ (bblk HB5.out HZ4.out)) Tryd.underlying29 (by kernel_rfl) HSL.out) rfl ⟨s, bb, rfl, HSL.out, ?_, ?_⟩
          · rw [hml, HMD.out, HS.out]
            cases bb <;> rfl
          · exact brow (HL4.out.trans (HB5.out.mono HL4.out.size)) (Nat.le_refl _) _
end Go.Proofs.YtpdhgijeanbmcaaDoor

/- Tree3 -/
namespace Go.Proofs.YtpdhgijeanbmcaaDoor
open Go.RowKit

namespace Tree
def sole : List (List UInt8) → Option (List UInt8 × List UInt8)
  | [x] => some (x, x)
  | _ => none
/-- The old root and the new one; none: the proof is too short or too long. -/
def both (old : List UInt8) (m n : Nat) (whole : Bool) (p : List (List UInt8)) : Option (List UInt8 × List UInt8) :=
  if _h : n ≤ m ∨ n ≤ 1 then (if whole then (if p = [] then some (old, old) else none) else sole p)
  else match p.getLast? with
    | none => none
    | some x => if m ≤ split n then (both old m (split n) whole p.dropLast).map fun ab => (ab.1, node ab.2 x) else (both old (m - split n) (n - split n) false p.dropLast).map fun ab => (node x ab.1, node x ab.2)
termination_by n
decreasing_by
  · have := split_lt (show 1 < n by omega); omega
  · have := split_pos n; omega
theorem both_whole (old : List UInt8) (m : Nat) (p : List (List UInt8)) : both old m m true p = if p = [] then some (old, old) else none := by
  rw [both, dif_pos (.inl (Nat.le_refl _))]; rfl
theorem both_part (old : List UInt8) (m : Nat) (p : List (List UInt8)) (h : p.length ≠ 1) : both old m m false p = none := by
  rw [both, dif_pos (.inl (Nat.le_refl _))]
  match p, h with
  | [], _ => rfl
  | [x], h => simp at h
  | x :: y :: p, _ => rfl
theorem both_one (old : List UInt8) (m : Nat) (x : List UInt8) : both old m m false [x] = some (x, x) := by
  rw [both, dif_pos (.inl (Nat.le_refl _))]; rfl
theorem both_zero (old : List UInt8) (m n : Nat) (whole : Bool) (h : m < n) (h0 : 0 < m) : both old m n whole [] = none := by
  rw [both, dif_neg (by omega)]; rfl
theorem both_left (old : List UInt8) (m n : Nat) (whole : Bool) (p : List (List UInt8)) (u : Nat) (hu : u < p.length) (h : m < n) (h0 : 0 < m) (hm : m ≤ split n) :
    both old m n whole (p.take (u + 1)) = (both old m (split n) whole (p.take u)).map fun ab => (ab.1, node ab.2 p[u]) := by
  rw [both, dif_neg (by omega), (getLast_take p u hu).1, (getLast_take p u hu).2]
  simp [hm]
theorem both_right (old : List UInt8) (m n : Nat) (whole : Bool) (p : List (List UInt8)) (u : Nat) (hu : u < p.length) (h : m < n) (h0 : 0 < m) (hm : ¬ m ≤ split n) :
    both old m n whole (p.take (u + 1)) = (both old (m - split n) (n - split n) false (p.take u)).map fun ab => (node p[u] ab.1, node p[u] ab.2) := by
  rw [both, dif_neg (by omega), (getLast_take p u hu).1, (getLast_take p u hu).2]
  simp [hm]
def extends_ (m : Nat) (old : List UInt8) (n : Nat) (root : List UInt8) (p : List (List UInt8)) : Bool := match both old m n true p with
  | some (a, b) => a == old && b == root
  | none => false
end Tree
/-- Two sums and a truth. -/
def RetBoth (o : Option (List UInt8 × List UInt8)) (w : World) (e : Ending) (w' : World) : Prop := ∃ (r s : List UInt8) (b : Bool), e = .returned (.tuple #[sumV r, sumV s, .bool b]) ∧ r.length = 32 ∧ s.length = 32 ∧ (o = if b then some (r, s) else none) ∧ Below w.heap.size w w'
theorem results_sum2_tmp {P : Program} {fn : Func} {p q u : Tmp} {ty : TypeId} (h : fn.results = #[.cell p ty, .cell q ty, .tmp u]) (tmps : Array Value) (w : World) (g g2 : Nat) (t t2 : TypeId) (l l2 : List UInt8) (n : Nat) (fr fr2 : Nat × Nat) (e : TypeId)
    (hp : tmps.getD p undef = .pointer (some ⟨g, 0, none⟩)) (hq : tmps.getD q undef = .pointer (some ⟨g2, 0, none⟩)) (hg : w.heap[g]? = some (.cells (l.map V8).toArray t fr)) (hg2 : w.heap[g2]? = some (.cells (l2.map V8).toArray t2 fr2))
    (hu : P.underlying ty = some (.array n e)) (hi : (P.info? ty).map (·.size) = some n) (hl : l.length = n) (hl2 : l2.length = n) : (results fn tmps).run P w = .ok (.tuple #[sumV l, sumV l2, tmps.getD u undef]) w := by
  have h1 := run_loadVar_row (P := P) w g t ty _ fr _ hg hu rfl (by rw [hi]; simp [hl])
  have h2 := run_loadVar_row (P := P) w g2 t2 ty _ fr2 _ hg2 hu rfl (by rw [hi]; simp [hl2])
  have hp' : tmps[p]?.getD undef = .pointer (some ⟨g, 0, none⟩) := by simpa using hp
  have hq' : tmps[q]?.getD undef = .pointer (some ⟨g2, 0, none⟩) := by simpa using hq
  simp only [results, h]
  simp [Sem.run_bind, Result.andThen, hp', hq', asAddr, h1, h2]
  exact ⟨rfl, rfl⟩
end Go.Proofs.YtpdhgijeanbmcaaDoor

/- Mac -/
namespace Go.Proofs.YtpdhgijeanbmcaaDoor
namespace Sha
theorem sum_length (l : List UInt8) : (sum l).length = 32 := rfl
def key (k : List UInt8) : List UInt8 := if 64 < k.length then sum k else k
theorem key_le (k : List UInt8) : (key k).length ≤ 64 := by
  unfold key
  split
  · rw [sum_length]; decide
  · omega
def kpad (k : List UInt8) : List UInt8 := key k ++ List.replicate (64 - (key k).length) 0
theorem kpad_len (k : List UInt8) : (kpad k).length = 64 := by
  have := key_le k
  simp [kpad]; omega
def xin (k : List UInt8) : List UInt8 := (kpad k).map (· ^^^ 0x36)
def xout (k : List UInt8) : List UInt8 := (kpad k).map (· ^^^ 0x5c)
def mac (k m : List UInt8) : List UInt8 := sum (xout k ++ sum (xin k ++ m))
theorem mac_len (k m : List UInt8) : (mac k m).length = 32 := rfl
def xors (a b : List UInt8) : List UInt8 := List.zipWith (· ^^^ ·) a b
theorem xors_len (a b : List UInt8) (ha : a.length = 32) (hb : b.length = 32) : (xors a b).length = 32 := by simp [xors, ha, hb]
def numb (i : Nat) : List UInt8 := [0, 0, UInt8.ofNat (i / 256), UInt8.ofNat (i % 256)]
/-- The r-th u, and the sum of those up to it. -/
def pu (p s : List UInt8) (i : Nat) : Nat → List UInt8
  | 0 => mac p (s ++ numb i)
  | r + 1 => mac p (pu p s i r)
def pt (p s : List UInt8) (i : Nat) : Nat → List UInt8
  | 0 => pu p s i 0
  | r + 1 => xors (pt p s i r) (pu p s i (r + 1))
theorem pu_len (p s : List UInt8) (i : Nat) : ∀ r, (pu p s i r).length = 32
  | 0 => rfl
  | _ + 1 => rfl
theorem pt_len (p s : List UInt8) (i : Nat) : ∀ r, (pt p s i r).length = 32
  | 0 => rfl
  | r + 1 => xors_len _ _ (pt_len p s i r) (pu_len p s i (r + 1))
/-- The first j parts. -/
def derived (p s : List UInt8) (rounds : Nat) : Nat → List UInt8
  | 0 => []
  | j + 1 => derived p s rounds j ++ pt p s (j + 1) (rounds - 1)
theorem derived_len (p s : List UInt8) (rounds : Nat) : ∀ j, (derived p s rounds j).length = 32 * j
  | 0 => rfl
  | j + 1 => by rw [derived, List.length_append, derived_len p s rounds j, pt_len]; omega
theorem derived_take (p s : List UInt8) (N : Nat) (j : Nat) : ∀ k n, j ≤ k → n ≤ 32 * j → (derived p s N j).take n = (derived p s N k).take n
  | 0, n, h, hn => by obtain rfl : j = 0 := by omega
                      rfl
  | k + 1, n, h, hn => by
    by_cases e : j = k + 1
    · rw [e]
    · rw [derived_take p s N j k n (by omega) hn, derived, List.take_append_of_le_length (by rw [derived_len]; omega)]
end Sha
end Go.Proofs.YtpdhgijeanbmcaaDoor

/- DMac -/
namespace Go.Proofs.YtpdhgijeanbmcaaDoor
open Go.RowKit

theorem ofInt8 (x : UInt8) : BitVec.ofInt 8 (x.toNat : Int) = x.toBitVec := by
  rw [BitVec.ofInt_natCast]
  apply BitVec.eq_of_toNat_eq
  simp
theorem wrap8u (x : UInt8) : IntKind.u8.wrap (x.toNat : Int) = x.toNat := by
  have := x.toNat_lt
  simp only [IntKind.wrap_u8]
  omega
@[go_sem] theorem xor_V8 (t : TypeId) (c d : UInt8) : binOp .xor t (V8 c) (V8 d) = pure (V8 (c ^^^ d)) := by
  simp only [V8, binOp_xor, Op.intBits, IntKind.bits, ofInt8]
  show pure (Value.int .u8 (IntKind.u8.wrap ((c ^^^ d).toNat : Int))) = _
  rw [wrap8u]
@[go_sem] theorem xor_V8_54 (t : TypeId) (c : UInt8) : binOp .xor t (V8 c) (.int .u8 54) = pure (V8 (c ^^^ 0x36)) := xor_V8 t c 0x36
@[go_sem] theorem xor_V8_92 (t : TypeId) (c : UInt8) : binOp .xor t (V8 c) (.int .u8 92) = pure (V8 (c ^^^ 0x5c)) := xor_V8 t c 0x5c

theorem index_b64 (K : List UInt8) (hK : K.length = 64) (k : Nat) (h : k < 64) (w : World) : (Instr.index 78 (.agg (K.map V8).toArray) (.int .i64 (k : Int))).run Tryd.prog w = .ok (V8 (K.getD k 0)) w := by
  have h0 : 0 ≤ (k : Int) ∧ (k : Int) < ((64 : Nat) : Int) := by omega
  simp [Instr.index, run_underlying Tryd.underlying78, asIntOf, h0, go_sem]
  have hk : k < K.length := by omega
  simp [h, hk]

theorem wpList_copy_pad {P : Program} {w : World} {ops : Array Oper} {rs : List Oper} {o : Oper} {a : Act} {Q : Exit → Act → World → Prop} (hgd : o.guard = none) (d s : Operand) (dT sT : TypeId)
    (ho : o.op = .call { callee := .builtin .copy, args := #[d, s], argTypes := #[dT, sT] }) (elem : TypeId) (hu : P.underlying dT = some (.slice elem)) (hsz : (P.info? elem).map (·.size) = some 1)
    (g m c : Nat) (A : Option Addr) (hd : a.eval d = .slice (some ⟨g, 0, none⟩) 64 64) (hs : a.eval s = .slice A m c)
    (t : TypeId) (hg : w.heap[g]? = some (.cells (zeros8 64) t (0, 0))) (l : List UInt8) (hm : m = l.length) (hl : l.length ≤ 64) (hsrc : BytesAt w A l)
    (h : ∀ w', w'.heap[g]? = some (.cells ((l ++ List.replicate (64 - l.length) 0).map V8).toArray t (0, 0)) → w.grownBy w' (some g) →
      wpList P ops Q rs (a.put o.dst (.int .i64 (l.length : Int))) w') : wpList P ops Q (o :: rs) a w := by
  by_cases h0 : l = []
  · subst h0
    obtain rfl : m = 0 := hm
    refine wpList_copy_nothing hgd d s dT sT ho elem hu hsz _ _ 64 64 0 c hd hs rfl ?_
    have := h w (by simpa [zeros8] using hg) (World.grownBy.refl _ _)
    simpa [goInt] using this
  · obtain ⟨b, o', rfl, hc⟩ := hsrc.at_ (List.length_pos_iff.2 h0)
    refine wpList_copy_own hgd d s dT sT ho elem hu hsz g 0 64 64 ⟨b, o', none⟩ m c hd hs _ t hg (l.map V8) (by rw [List.length_map, hm]; exact (Nat.min_eq_left hl).symm) ?_ (by simp [zeros8_size]; omega) (by simp [V8, Value.oneCell']) ?_
    · intro j v hv
      have hj : j < l.length := by
        have := (List.getElem?_eq_some_iff.1 hv).1
        simpa using this
      rw [Addr.add_lit, hc j hj, ← hv]
      simp [byteF, List.getD, List.getElem?_eq_getElem hj]
    · have := h (w.setRow g ((zeros8 64).toList.take 0 ++ ((l.map V8) ++ (zeros8 64).toList.drop (0 + (l.map V8).length))).toArray) ?_ (grownBy_setRow _ _ _)
      · simpa [goInt] using this
      · rw [setRow_heap _ _ _ _ _ _ hg]
        rw [show (zeros8 64).toList = List.replicate 64 (V8 0) from rfl, List.take_zero, List.nil_append, List.drop_replicate, Nat.zero_add, List.length_map, List.map_append, List.map_replicate]
theorem HashAt.grown {w w' : World} {b k : Nat} {L : List UInt8} (h : HashAt w b L) (hg : w.grownBy w' (some k)) (hb : b ≠ k) : HashAt w' b L := by
  obtain ⟨A, q, rest, t, hL, h1, h2, h3, h4, h5⟩ := h
  exact ⟨A, q, rest, t, hL, h1, h2, h3, h4, (hg.block b (in_heap h5) (fun e => hb (Option.some.inj e))).trans h5⟩
end Go.Proofs.YtpdhgijeanbmcaaDoor

/- DMacb -/
namespace Go.Proofs.YtpdhgijeanbmcaaDoor
open Go.RowKit

theorem kpad_of (key K : List UInt8) (h : K = Sha.key key) : Sha.kpad key = K ++ List.replicate (64 - K.length) 0 := by rw [h]; rfl
theorem cut_next (K : List UInt8) (x : UInt8) (k : Nat) (h : k < K.length) : (K.map (· ^^^ x)).take k ++ [K.getD k 0 ^^^ x] = (K.map (· ^^^ x)).take (k + 1) := by
  rw [List.take_succ_eq_append_getElem (by simpa using h)]
  simp [List.getD, List.getElem?_eq_getElem h]
theorem one_bytes (w : World) (x : UInt8) (t : TypeId) : BytesAt (w.alloc (.cells #[V8 x] t)) (some ⟨w.heap.size, 0, none⟩) [x] :=
  ⟨fun _ => ⟨w.heap.size, 0, rfl, fun j hj => by
    have : j = 0 := by simpa using hj
    subst this
    rw [cell_of_row _ _ _ _ _ _ (heap_alloc_new _ _)]
    rfl⟩⟩

/-- Both sums under way: the inner one has taken A, the outer one B. -/
structure MAt (w : World) (hi ho : Nat) (A B : List UInt8) (wr : World) : Prop where
  inn : HashAt wr hi A
  out : HashAt wr ho B
  low : Below w.heap.size w wr
  res : wr.heap[w.heap.size]? = some (.cells (zeros8 32) 29 (0, 0))
  lt : w.heap.size < hi
  lt2 : w.heap.size < ho
  ne : hi ≠ ho
theorem HashAt.lt {w : World} {b : Nat} {L : List UInt8} (h : HashAt w b L) : b < w.heap.size := by
  obtain ⟨A, q, rest, t, hL, h1, h2, h3, h4, h5⟩ := h
  exact in_heap h5
theorem hsum_is (R : List UInt8) (hb : Nat) (L : List UInt8) (w : World) (hR : R = Sha.sum L) (hT : Tabs w) (H : HashAt w hb L) (hlen : L.length < 1152921504606846976) :
    Calls Tryd.prog 64 #[.pointer (some ⟨hb, 0, none⟩)] w fun e w' => e = .returned (sumV R) ∧ Below w.heap.size w w' := by
  subst hR
  exact hsum_any hb L w hT H hlen
theorem MAt.low_ {w wr w' : World} {hi ho : Nat} {A B : List UInt8} (M : MAt w hi ho A B wr) (h : Below wr.heap.size wr w') : MAt w hi ho A B w' :=
  ⟨M.inn.below h M.inn.lt, M.out.below h M.out.lt, bthen M.low h, bblk h M.res, M.lt, M.lt2, M.ne⟩
theorem MAt.wrote {w wr w' : World} {hi ho : Nat} {A A' B : List UInt8} (M : MAt w hi ho A B wr) (h : HashAt w' hi A') (hg : wr.grownBy w' (some hi)) : MAt w hi ho A' B w' :=
  ⟨h, M.out.grown hg M.ne.symm, M.low.grown hg M.low.size (fun k hk => by obtain rfl := Option.some.inj hk; have := M.lt; omega), (hg.block _ (in_heap M.res) (fun e => by have := Option.some.inj e; have := M.lt; omega)).trans M.res, M.lt, M.lt2, M.ne⟩
theorem MAt.wroteo {w wr w' : World} {hi ho : Nat} {A B B' : List UInt8} (M : MAt w hi ho A B wr) (h : HashAt w' ho B') (hg : wr.grownBy w' (some ho)) : MAt w hi ho A B' w' :=
  ⟨M.inn.grown hg M.ne, h, M.low.grown hg M.low.size (fun k hk => by obtain rfl := Option.some.inj hk; have := M.lt2; omega), (hg.block _ (in_heap M.res) (fun e => by have := Option.some.inj e; have := M.lt2; omega)).trans M.res, M.lt, M.lt2, M.ne⟩
theorem MAt.box {w wr w' : World} {hi ho : Nat} {A B : List UInt8} {o : Obj} (M : MAt w hi ho A B wr) (hg : (wr.alloc o).grownBy w' (some wr.heap.size)) : MAt w hi ho A B w' := by
  have M1 := M.low_ (low1 wr o)
  have i1 := M.inn.lt
  have i2 := M.out.lt
  have i3 := M.low.size
  exact ⟨M1.inn.grown hg (by omega), M1.out.grown hg (by omega), M1.low.grown hg M1.low.size (fun k hk => by obtain rfl := Option.some.inj hk; omega), (hg.block _ (in_heap M1.res) (fun e => by have := Option.some.inj e; have := in_heap M.res; omega)).trans M1.res, M.lt, M.lt2, M.ne⟩
theorem mat_in {w wr : World} {hi ho : Nat} {A B : List UInt8} (hT : Tabs w) (M : MAt w hi ho A B wr) (x : UInt8) (hlen : A.length < 2305843009213693952) :
    Calls Tryd.prog 63 #[.pointer (some ⟨hi, 0, none⟩), .slice (some ⟨wr.heap.size, 0, none⟩) 1 1] (wr.alloc (.cells #[V8 x] 5)) fun e w' => e = .returned (.tuple #[]) ∧ MAt w hi ho (A ++ [x]) B w' := by
  have M1 := M.low_ (low1 wr (.cells #[V8 x] 5))
  refine (write_len hi A [x] (some ⟨wr.heap.size, 0, none⟩) 1 1 _ rfl (hT.below M1.low) (hT.fresh (Nat.le_of_lt M.lt)) M1.inn (one_bytes wr x _) (Nat.le_refl _) (fun ad had => ?_) (by simp; omega)).mono ?_
  · obtain rfl := Option.some.inj had
    have := M.inn.lt
    exact fun e => by have e' : wr.heap.size = hi := e; omega
  · rintro e w' ⟨h1, h2, h3⟩
    exact ⟨h1, M1.wrote h2 h3⟩
theorem mat_out {w wr : World} {hi ho : Nat} {A B : List UInt8} (hT : Tabs w) (M : MAt w hi ho A B wr) (x : UInt8) (hlen : B.length < 2305843009213693952) :
    Calls Tryd.prog 63 #[.pointer (some ⟨ho, 0, none⟩), .slice (some ⟨wr.heap.size, 0, none⟩) 1 1] (wr.alloc (.cells #[V8 x] 5)) fun e w' => e = .returned (.tuple #[]) ∧ MAt w hi ho A (B ++ [x]) w' := by
  have M1 := M.low_ (low1 wr (.cells #[V8 x] 5))
  refine (write_len ho B [x] (some ⟨wr.heap.size, 0, none⟩) 1 1 _ rfl (hT.below M1.low) (hT.fresh (Nat.le_of_lt M.lt2)) M1.out (one_bytes wr x _) (Nat.le_refl _) (fun ad had => ?_) (by simp; omega)).mono ?_
  · obtain rfl := Option.some.inj had
    have := M.out.lt
    exact fun e => by have e' : wr.heap.size = ho := e; omega
  · rintro e w' ⟨h1, h2, h3⟩
    exact ⟨h1, M1.wroteo h2 h3⟩
theorem mat_part {w wr : World} {hi ho : Nat} {A B : List UInt8} (hT : Tabs w) (M : MAt w hi ho A B wr) (l : List UInt8) (a : Option Addr) (m c : Nat) (hm : m = l.length) (S : Src w a c l) (hlen : A.length + l.length < 2305843009213693952) :
    Calls Tryd.prog 63 #[.pointer (some ⟨hi, 0, none⟩), .slice a m c] wr fun e w' => e = .returned (.tuple #[]) ∧ MAt w hi ho (A ++ l) B w' := by
  have S1 := S.below M.low
  refine (write_len hi A l a m c _ hm (hT.below M.low) (hT.fresh (Nat.le_of_lt M.lt)) M.inn S1.at_ S1.cap (fun ad had => ?_) (by omega)).mono ?_
  · have := S.lt ad had
    have := M.lt
    omega
  · rintro e w' ⟨h1, h2, h3⟩
    exact ⟨h1, M.wrote h2 h3⟩
theorem mat_sum {w wr : World} {hi ho g : Nat} {A B : List UInt8} (hT : Tabs w) (M : MAt w hi ho A B wr) (s : List UInt8) (hs : s.length = 32) (t : TypeId) (hg : wr.heap[g]? = some (.cells (s.map V8).toArray t (0, 0))) (hne : g ≠ ho) (hlen : B.length < 2305843009213693952) :
    Calls Tryd.prog 63 #[.pointer (some ⟨ho, 0, none⟩), .slice (some ⟨g, 0, none⟩) 32 32] wr fun e w' => e = .returned (.tuple #[]) ∧ MAt w hi ho A (B ++ s) w' := by
  refine (write_len ho B s (some ⟨g, 0, none⟩) 32 32 _ hs.symm (hT.below M.low) (hT.fresh (Nat.le_of_lt M.lt2)) M.out ⟨fun _ => ⟨g, 0, rfl, fun j hj => ?_⟩⟩ (by omega) (fun ad had => ?_) (by omega)).mono ?_
  · rw [Nat.zero_add]
    exact cell_block hg (by simp [byteF, hj, List.getD])
  · obtain rfl := Option.some.inj had
    exact hne
  · rintro e w' ⟨h1, h2, h3⟩
    exact ⟨h1, M.wroteo h2 h3⟩

set_option maxRecDepth 100000 in
set_option maxHeartbeats 400000 in
theorem dmac_any (key : List UInt8) (a : Option Addr) (m c : Nat) (ps : List Part) (b n : Nat) (w : World) (hm : m = key.length) (hT : Tabs w) (S : Src w a c key) (hn : n = ps.length) (hP : Parts w b ps)
    (hlen : key.length < 70368744177664) (hn9 : n ≤ 1000000) (htot : tot ps ps.length ≤ 70368744177664) :
    Calls Tryd.prog 37 #[.slice a m c, .slice (some ⟨b, 0, none⟩) n n] w fun e w' => e = .returned (sumV (Sha.mac key (cat ps ps.length))) ∧ Below w.heap.size w w' := by
  have S' := Lib.hid S
  have HP := Lib.hid hP
  have Hm := Lib.hid hm
  have Hn := Lib.hid hn
  have Ht := Lib.hid htot
  have Hmac : Sha.mac key (cat ps ps.length) = Sha.sum (Sha.xout key ++ Sha.sum (Sha.xin key ++ cat ps ps.length)) := rfl
  have HMac := Lib.hid Hmac
  obtain ⟨R, hR⟩ : ∃ R, R = Sha.mac key (cat ps ps.length) := ⟨_, rfl⟩
  rw [← hR] at HMac ⊢
  have hRl : R.length = 32 := by rw [hR]; exact Sha.mac_len _ _
  have HRl := Lib.hid hRl
  clear S hP hm hn htot Hmac hR hRl
  have hB0 : ∀ o o', Below w.heap.size w ((w.alloc o).alloc o') := fun o o' => low2 w o o'
  have HB0 := Lib.hid hB0
  clear hB0
  have hcase : 64 < m ∨ ¬ 64 < m := by omega
  rcases hcase with h64 | h64
  case' inl =>
    have hi : (64 : Int) < (m : Int) := by omega
    have hK := Sha.sum_length key
    have hkey : Sha.sum key = Sha.key key := by unfold Sha.key; rw [if_pos (by have := Hm.out; omega)]
    have hds := Lib.hid fun W hT S => dsum_any key a m c W Hm.out hT S S'.out.cap
    obtain ⟨s, hs⟩ : ∃ s, s = Sha.sum key := ⟨_, rfl⟩
    rw [← hs] at hds hkey hK
    have Hk := Lib.hid hkey
    have HK := Lib.hid hK
    clear hkey hK hs
    go_enter Tryd.func37, Tryd.ntmps37
    go_wp2_with (first | (go_at_call 41; refine (hds.out _ (hT.below (HB0.out _ _)) (S'.out.at_.below (HB0.out _ _)) (fun ad had => Nat.lt_of_lt_of_le (S'.out.lt ad had) (HB0.out _ _).size) (by omega)).mono ?_; rintro e w1 ⟨rfl, hB⟩; have HB1 := Lib.hid hB; clear hB) | (refine wpList_store_row' rfl 29 _ _ rfl w1.heap.size (s.map V8).toArray rfl rfl _ _ (blk1 _ _) (by rw [show (Tryd.prog.info? 29).map (·.size) = some 32 from by kernel_rfl]; simp [HK.out]) (by simp [HK.out]) (oneCells s) ?_; intro w2 h2 g2 s2; have HS2 := Lib.hid h2; have HG2 := Lib.hid g2; clear h2 g2 s2))
    have hz1 := bblk HB1.out (blk2 w (.cells (zeros8 32) 29) (.cells (zeros8 64) 78)).1
    have hz2 := bblk HB1.out (blk2 w (.cells (zeros8 32) 29) (.cells (zeros8 64) 78)).2
    have i1 := in_heap hz1
    have i2 := in_heap hz2
    have y1 := (HG2.out.block _ (by simp; omega) (fun e => by have := Option.some.inj e; omega)).trans (at_old (.cells (zeros8 32) 29) hz1)
    have y2 := (HG2.out.block _ (by simp; omega) (fun e => by have := Option.some.inj e; omega)).trans (at_old (.cells (zeros8 32) 29) hz2)
    have hsrc : BytesAt w2 (some ⟨w1.heap.size, 0, none⟩) s := ⟨fun _ => ⟨_, _, rfl, fun j hj => by rw [Nat.zero_add]; exact cell_block HS2.out (by simp [byteF, hj, List.getD])⟩⟩
    have hl2 : Below w.heap.size w w2 := ((low2 w (.cells (zeros8 32) 29) (.cells (zeros8 64) 78)).trans ((HB1.out.mono (by simp; omega)).alloc (by omega) _)).grown HG2.out (by simp; omega) (fun k hk => by obtain rfl := Option.some.inj hk; omega)
    have Y1 := Lib.hid y1
    have Y2 := Lib.hid y2
    have HSrc := Lib.hid hsrc
    have HL2 := Lib.hid hl2
    have I1 := Lib.hid i1
    clear hz1 hz2 i1 i2 y1 y2 hsrc hl2
    refine wp_region_rel 2 Low (by kernel_rfl) (by kernel_rfl) Low.refl Low.trans [.is (.slice (some ⟨w.heap.size + 1, 0, none⟩) 64 64), .is (.slice (some ⟨w1.heap.size, 0, none⟩) 32 32)] rfl ?_
    refine .cons (fun wr hR h => ?_) fun v => .cons (fun wr hR h => ?_) fun v => .nil fun wr hR h => ?_
    · unfold relOp
      go_wp2
      exact ⟨Low.refl _, rfl⟩
    · unfold relOp
      go_wp2
      exact ⟨Low.refl _, rfl⟩
    obtain ⟨rfl, rfl, -⟩ := h
    have hR' := bthen (Low.drew w2) hR
    refine wpList_copy_pad rfl _ _ 22 22 rfl 5 Tryd.underlying22 (by kernel_rfl) (w.heap.size + 1) 32 32 (some ⟨w1.heap.size, 0, none⟩) (by kernel_rfl) (by kernel_rfl) _ (bblk hR' Y2.out) s HK.out.symm (by rw [HK.out]; decide) (HSrc.out.below hR') ?_
    intro w3 h3 g3
    rw [← kpad_of key s Hk.out] at h3
    have r3 := (g3.block w.heap.size (in_heap (bblk hR' Y1.out)) (fun e => by have := Option.some.inj e; omega)).trans (bblk hR' Y1.out)
    have l3 := (HL2.out.trans (hR'.mono HL2.out.size)).grown g3 (Nat.le_trans HL2.out.size hR'.size) (fun k hk => by obtain rfl := Option.some.inj hk; omega)
    have HK3 := Lib.hid h3
    have HR3 := Lib.hid r3
    have HL3 := Lib.hid l3
    clear h3 g3 r3 l3 hR hR' Y1 Y2 HSrc HL2 HG2 HS2 I1 HB1 hds HK Hk hi h64
    go_wp2_with fail
  case' inr =>
    have hi : ¬ (64 : Int) < (m : Int) := by omega
    have hkey : key = Sha.key key := by unfold Sha.key; rw [if_neg (by have := Hm.out; omega)]
    have hle : key.length ≤ 64 := by have := Hm.out; omega
    have Hk := Lib.hid hkey
    have HK := Lib.hid hle
    clear hkey hle
    go_enter Tryd.func37, Tryd.ntmps37
    go_wp2_with (refine wpList_copy_pad rfl _ _ 22 22 rfl 5 Tryd.underlying22 (by kernel_rfl) (w.heap.size + 1) m c a rfl rfl _ (blk2 w (.cells (zeros8 32) 29) (.cells (zeros8 64) 78)).2 key Hm.out HK.out (S'.out.at_.below (HB0.out _ _)) ?_; intro w3 h3 g3)
    rw [← kpad_of key key Hk.out] at h3
    have r3 := (g3.block w.heap.size (by simp; omega) (fun e => by have := Option.some.inj e; omega)).trans (blk2 w (.cells (zeros8 32) 29) (.cells (zeros8 64) 78)).1
    have l3 := (low2 w (.cells (zeros8 32) 29) (.cells (zeros8 64) 78)).grown g3 (by simp; omega) (fun k hk => by obtain rfl := Option.some.inj hk; omega)
    have HK3 := Lib.hid h3
    have HR3 := Lib.hid r3
    have HL3 := Lib.hid l3
    clear h3 g3 r3 l3 h64 hi HK Hk
  all_goals
    obtain ⟨K, hK⟩ : ∃ K, K = Sha.kpad key := ⟨_, rfl⟩
    rw [← hK] at HK3
    have hKl : K.length = 64 := by rw [hK]; exact Sha.kpad_len _
    have hxi : Sha.xin key = K.map (· ^^^ 0x36) := by rw [hK]; rfl
    have hxo : Sha.xout key = K.map (· ^^^ 0x5c) := by rw [hK]; rfl
    have HKl := Lib.hid hKl
    have Hxi := Lib.hid hxi
    have Hxo := Lib.hid hxo
    have HT3 := Lib.hid (hT.below HL3.out)
    have HT3' := Lib.hid fun o => (hT.below (HL3.out.alloc HL3.out.size o))
    have HKb := Lib.hid fun o o' => at_old o' (at_old o HK3.out)
    clear hK hKl hxi hxo
    go_wp2_with (first | (go_at_call 62; refine (newHash_any _ (by first | exact HT3.out.firstAt | exact (HT3'.out _).firstAt)).mono ?_; rintro e w1 ⟨rfl, rfl⟩) | (refine wpList_load_row rfl 78 _ rfl (w.heap.size + 1) rfl _ (K.map V8).toArray (0, 0) _ (HKb.out _ _) Tryd.underlying78 rfl (by rw [show (K.map V8).toArray.size = 64 from by simp [HKl.out]]; kernel_rfl) ?_))
    have hM : MAt w w3.heap.size (w3.heap.size + 1) [] [] ((w3.alloc (.cells (hashCells Sha.init (List.replicate 64 0) 0) 94)).alloc (.cells (hashCells Sha.init (List.replicate 64 0) 0) 94)) :=
      ⟨(HashAt.new w3).below (low1 _ _) (by simp), by have := HashAt.new (w3.alloc (.cells (hashCells Sha.init (List.replicate 64 0) 0) 94)); rwa [size_alloc] at this, bthen HL3.out (low2 _ _ _), at_old _ (at_old _ HR3.out), in_heap HR3.out, Nat.lt_succ_of_lt (in_heap HR3.out), by omega⟩
    have HM := Lib.hid hM
    clear hM HT3 HT3' HKb HK3 HR3 HL3
    go_loopw [10, 28] (fun _ i wr => ∃ k : Nat, k ≤ 64 ∧ i = .int .i64 k ∧ MAt w w3.heap.size (w3.heap.size + 1) ((K.map (· ^^^ 0x36)).take k) ((K.map (· ^^^ 0x5c)).take k) wr) (fun _ i _ => 64 - (intOf i).toNat)
    case atStart => exact ⟨0, by omega, rfl, by simpa using HM.out⟩
    case round =>
      clear HM
      obtain ⟨k, hk, rfl, M⟩ := hrel
      have HMr := Lib.hid M
      clear M
      by_cases hlt : k < 64
      · have hki : (k : Int) < 64 := by omega
        have hki0 : (0 : Int) ≤ (k : Int) := by omega
        have hidx := fun w => index_b64 K HKl.out k hlt w
        have hn1 := cut_next K 0x36 k (by rw [HKl.out]; exact hlt)
        have hn2 := cut_next K 0x5c k (by rw [HKl.out]; exact hlt)
        obtain ⟨x, hx⟩ : ∃ x, x = K.getD k 0 := ⟨_, rfl⟩
        rw [← hx] at hn1 hn2
        simp only [← hx] at hidx
        have Hn1 := Lib.hid hn1
        have Hn2 := Lib.hid hn2
        have hl1 : ((K.map (· ^^^ 0x36)).take k).length < 2305843009213693952 := by simp; omega
        have hl2 : ((K.map (· ^^^ 0x5c)).take k).length < 2305843009213693952 := by simp; omega
        have Hl1 := Lib.hid hl1
        have Hl2 := Lib.hid hl2
        clear hn1 hn2 hx hl1 hl2
        go_wp2_with (first | (go_at_call 63; refine (mat_out hT HM4.out (x ^^^ 0x5c) Hl2.out).mono ?_; rintro e w5 ⟨rfl, hM⟩; rw [Hn2.out] at hM; have HM5 := Lib.hid hM; clear hM) | (go_at_call 63; refine (mat_in hT HMr.out (x ^^^ 0x36) Hl1.out).mono ?_; rintro e w4 ⟨rfl, hM⟩; rw [Hn1.out] at hM; have HM4 := Lib.hid hM; clear hM))
        go_roundw
        case rel => exact ⟨k + 1, by omega, by go_num, HM5.out⟩
        case measure => simp [intOf]; omega
      · have hk64 : k = 64 := by omega
        have hki : ¬ (k : Int) < 64 := by omega
        have hM := HMr.out
        rw [hk64, List.take_of_length_le (by simp [HKl.out]), List.take_of_length_le (by simp [HKl.out]), ← Hxi.out, ← Hxo.out] at hM
        have HM6 := Lib.hid hM
        clear HMr hM hk64
        go_wp2
        go_loopw [12, 44] (fun _ i wq => ∃ k : Nat, k ≤ n ∧ i = .int .i64 k ∧ MAt w w3.heap.size (w3.heap.size + 1) (Sha.xin key ++ cat ps k) (Sha.xout key) wq) (fun _ i _ => n - (intOf i).toNat)
        case atStart => exact ⟨0, by omega, rfl, by simpa [cat] using HM6.out⟩
        case round =>
          clear HM6
          obtain ⟨k, hk, rfl, M⟩ := hrel
          have HMr := Lib.hid M
          clear M
          have hxl : (Sha.xin key).length = 64 := by rw [Hxi.out]; simp [HKl.out]
          have hyl : (Sha.xout key).length = 64 := by rw [Hxo.out]; simp [HKl.out]
          by_cases hlt : k < n
          · have hk' : k < ps.length := by have := Hn.out; omega
            have hki : (k : Int) < n := by omega
            have hki0 : (0 : Int) ≤ (k : Int) := by omega
            have c0 := (HP.out.below HMr.out.low).at_ k hk'
            have hsrc := HP.out.src k hk'
            have hcat := cat_succ ps k hk'
            have hle := tot_le ps (k + 1) (by omega)
            have hts := tot_succ ps k hk'
            have hcl := cat_length ps k
            have hT9 := Ht.out
            have hl1 : (Sha.xin key ++ cat ps k).length + ps[k].l.length < 2305843009213693952 := by rw [List.length_append, hxl, hcl]; omega
            obtain ⟨l, hl⟩ : ∃ l, l = ps[k].l := ⟨_, rfl⟩
            rw [← hl] at c0 hsrc hcat hl1
            obtain ⟨q, hq⟩ : ∃ q, q = l.length := ⟨_, rfl⟩
            rw [← hq] at c0
            have Hq := Lib.hid hq
            have Hsrc := Lib.hid hsrc
            have Hcat := Lib.hid hcat
            have Hl1 := Lib.hid hl1
            clear hsrc hcat hle hts hcl hT9 hl1 hl hq hxl hyl
            go_wp2_with (go_at_call 63; refine (mat_part hT HMr.out l ps[k].a q ps[k].c Hq.out Hsrc.out Hl1.out).mono ?_; rintro e w7 ⟨rfl, hM⟩; have HM7 := Lib.hid hM; clear hM)
            go_roundw
            case rel => exact ⟨k + 1, by omega, by go_num, by rw [Hcat.out, ← List.append_assoc]; exact HM7.out⟩
            case measure => simp [intOf]; omega
          · obtain rfl : k = n := by omega
            have hM := HMr.out
            have hkn : cat ps k = cat ps ps.length := by rw [Hn.out]
            rw [hkn] at hM
            have hl1 : (Sha.xin key ++ cat ps ps.length).length < 1152921504606846976 := by rw [List.length_append, hxl, cat_length]; have := Ht.out; omega
            have hh := Lib.hid (hsum_any w3.heap.size _ _ (hT.below hM.low) hM.inn hl1)
            have hmac := HMac.out
            obtain ⟨s, hs⟩ : ∃ s, s = Sha.sum (Sha.xin key ++ cat ps ps.length) := ⟨_, rfl⟩
            rw [← hs] at hh hmac
            have hsl : s.length = 32 := by rw [hs]; rfl
            have hl2 : (Sha.xout key ++ s).length < 1152921504606846976 := by rw [List.length_append, hyl, hsl]; decide
            have Hsl := Lib.hid hsl
            have Hl2 := Lib.hid hl2
            have Hyl := Lib.hid hyl
            have Hmac2 := Lib.hid hmac
            have HM8 := Lib.hid hM
            clear hM hkn hl1 hs hsl hl2 hmac HMr hxl hyl
            go_wp2_with (first | (go_at_call 64; refine (hsum_is R (w3.heap.size + 1) _ _ Hmac2.out (hT.below HM10.out.low) HM10.out.out Hl2.out).mono ?_; rintro e w11 ⟨rfl, hB⟩; have HB11 := Lib.hid hB; clear hB) | (go_at_call 64; refine hh.out.mono ?_; rintro e w8 ⟨rfl, hB⟩; have HB8 := Lib.hid hB; clear hB) | (go_at_call 63; refine (mat_sum hT HM9.out s Hsl.out _ H9.out (by have := HM8.out.out.lt; have := HB8.out.size; omega) (by rw [Hyl.out]; decide)).mono ?_; rintro e w10 ⟨rfl, hM⟩; have HM10 := Lib.hid hM; clear hM) | (refine wpList_store_sum rfl 29 _ _ rfl w.heap.size R 32 rfl rfl _ _ (bblk HB11.out HM10.out.res) (by kernel_rfl) HRl.out rfl ?_) | (refine wpList_store_row' rfl 29 _ _ rfl w8.heap.size (s.map V8).toArray rfl rfl _ _ (blk1 _ _) (by rw [show (Tryd.prog.info? 29).map (·.size) = some 32 from by kernel_rfl]; simp [Hsl.out]) (by simp [Hsl.out]) (oneCells s) ?_; intro w9 h9 g9 s9; have HM9 := Lib.hid ((HM8.out.low_ HB8.out).box g9); have H9 := Lib.hid h9; clear h9 g9 s9))
            refine bodyPost_ret (results_sum rfl _ _ w.heap.size _ R 32 (0, 0) _ rfl (setRow_heap _ _ _ _ _ _ (bblk HB11.out HM10.out.res)) Tryd.underlying29 (by kernel_rfl) HRl.out) rfl ⟨rfl, ?_⟩
            exact brow (bthen HM10.out.low HB11.out) (Nat.le_refl _) _
end Go.Proofs.YtpdhgijeanbmcaaDoor
