/- Trees of sums, as the document tells them; a slice of sums; wicketref25.Root, chain.Root. -/
import Derived.Test.YtpdhgijeanbmcaaDoorLeafb
import Derived.Deep.MidRow
namespace Go.Proofs.YtpdhgijeanbmcaaDoor
open Go.RowKit

namespace Tree
def leaf (p : List UInt8) : List UInt8 := Sha.sum (0 :: p)
def node (x y : List UInt8) : List UInt8 := Sha.sum (1 :: (x ++ y))
def root (l : List (List UInt8)) : List UInt8 :=
  if _h : 1 < l.length then node (root (l.take (split l.length))) (root (l.drop (split l.length))) else match l with
    | [] => Sha.sum []
    | x :: _ => x
termination_by l.length
decreasing_by
  · have := split_lt _h; simp; omega
  · have := split_pos l.length; simp; omega
theorem root_nil : root [] = Sha.sum [] := by rw [root]; simp
theorem root_one (x : List UInt8) : root [x] = x := by rw [root]; simp
theorem root_many {l : List (List UInt8)} (h : 1 < l.length) : root l = node (root (l.take (split l.length))) (root (l.drop (split l.length))) := by
  rw [root, dif_pos h]
theorem root_len (l : List (List UInt8)) (h : ∀ x ∈ l, x.length = 32) : (root l).length = 32 := by
  by_cases hl : 1 < l.length
  · rw [root_many hl]; rfl
  · match l, hl, h with
    | [], _, _ => rw [root_nil]; rfl
    | [x], _, h => rw [root_one]; exact h x (by simp)
    | x :: y :: l, hl, _ => simp at hl
end Tree

def sumCells (L : List (List UInt8)) : List Value := L.flatMap fun x => x.map V8
theorem sumCells_length (L : List (List UInt8)) (h : ∀ x ∈ L, x.length = 32) : (sumCells L).length = L.length * 32 := by
  induction L with
  | nil => rfl
  | cons x L ih =>
    have h1 := h x (by simp)
    have h2 := ih fun y hy => h y (by simp [hy])
    simp only [sumCells, List.flatMap_cons, List.length_append, List.length_map, List.length_cons] at h2 ⊢
    omega
theorem sumCells_append (L M : List (List UInt8)) : sumCells (L ++ M) = sumCells L ++ sumCells M := by simp [sumCells]
theorem sumCells_cons (x : List UInt8) (L : List (List UInt8)) : sumCells (x :: L) = x.map V8 ++ sumCells L := rfl
theorem sumCells_one (x : List UInt8) : sumCells [x] = x.map V8 := by simp [sumCells]
theorem sumCells_at (L : List (List UInt8)) (h : ∀ x ∈ L, x.length = 32) (j : Nat) (hj : j < L.length) (i : Nat) (v : Value) (hv : (L[j].map V8)[i]? = some v) : (sumCells L)[j * 32 + i]? = some v := by
  have e : L = L.take j ++ L[j] :: L.drop (j + 1) := by rw [← List.drop_eq_getElem_cons hj]; simp
  have hl : (sumCells (L.take j)).length = j * 32 := by
    rw [sumCells_length _ fun x hx => h x (List.mem_of_mem_take hx)]; simp; omega
  have hi : i < (L[j].map V8).length := (List.getElem?_eq_some_iff.1 hv).1
  have e2 : sumCells L = sumCells (L.take j) ++ (L[j].map V8 ++ sumCells (L.drop (j + 1))) := by
    have h3 : L[j].map V8 ++ sumCells (L.drop (j + 1)) = sumCells (L[j] :: L.drop (j + 1)) := (sumCells_cons _ _).symm
    rw [h3, ← sumCells_append, ← e]
  rw [e2, List.getElem?_append_right (by omega), hl, show j * 32 + i - j * 32 = i by omega, List.getElem?_append_left hi, hv]
theorem sumCells_take (L : List (List UInt8)) (h : ∀ x ∈ L, x.length = 32) (k : Nat) : sumCells (L.take k) = (sumCells L).take (k * 32) := by
  by_cases hk : k ≤ L.length
  · have e : sumCells L = sumCells (L.take k) ++ sumCells (L.drop k) := by rw [← sumCells_append, List.take_append_drop]
    have hl : (sumCells (L.take k)).length = k * 32 := by
      rw [sumCells_length _ fun x hx => h x (List.mem_of_mem_take hx)]; simp; omega
    rw [e, List.take_left' hl]
  · rw [List.take_of_length_le (by omega), List.take_of_length_le (by rw [sumCells_length L h]; omega)]
theorem sumCells_drop (L : List (List UInt8)) (h : ∀ x ∈ L, x.length = 32) (k : Nat) : sumCells (L.drop k) = (sumCells L).drop (k * 32) := by
  by_cases hk : k ≤ L.length
  · have e : sumCells L = sumCells (L.take k) ++ sumCells (L.drop k) := by rw [← sumCells_append, List.take_append_drop]
    have hl : (sumCells (L.take k)).length = k * 32 := by
      rw [sumCells_length _ fun x hx => h x (List.mem_of_mem_take hx)]; simp; omega
    rw [e, List.drop_left' hl]
  · rw [List.drop_of_length_le (by omega), List.drop_of_length_le (by rw [sumCells_length L h]; omega)]
    rfl

/-- A slice of n sums that may be read. -/
structure Sums (w : World) (a : Option Addr) (n c : Nat) (L : List (List UInt8)) : Prop where
  len : n = L.length
  each : ∀ x ∈ L, x.length = 32
  at_ : CellsAt w a (sumCells L)
  cap : n ≤ c
  nil : a = none → c = 0
  plain : ∀ ad, a = some ad → ∃ b o, ad = ⟨b, o, none⟩ ∧ b < w.heap.size
theorem Sums.below {w w' : World} {a : Option Addr} {n c : Nat} {L : List (List UInt8)} (h : Sums w a n c L) (hb : Below w.heap.size w w') : Sums w' a n c L :=
  ⟨h.len, h.each, h.at_.below hb, h.cap, h.nil, fun ad had => by obtain ⟨b, o, e, hlt⟩ := h.plain ad had; exact ⟨b, o, e, Nat.lt_of_lt_of_le hlt hb.size⟩⟩
theorem Sums.od {w : World} {a : Option Addr} {n c : Nat} {L : List (List UInt8)} (h : Sums w a n c L) : ∀ ad, a = some ad → ∃ b o, ad = ⟨b, o, none⟩ := fun ad had => by
  obtain ⟨b, o, rfl, _⟩ := h.plain ad had; exact ⟨b, o, rfl⟩
theorem Sums.take {w : World} {a : Option Addr} {n c : Nat} {L : List (List UInt8)} (h : Sums w a n c L) (k : Nat) (hk : k ≤ n) : Sums w a k c (L.take k) := by
  refine ⟨by have := h.len; simp; omega, fun x hx => h.each x (List.mem_of_mem_take hx), ⟨fun h0 => ?_⟩, by have := h.cap; omega, h.nil, h.plain⟩
  rw [sumCells_take L h.each] at h0 ⊢
  obtain ⟨b, o, ha, hc⟩ := h.at_.at_ (by simp at h0; omega)
  exact ⟨b, o, ha, fun j v hj => hc j v (by
    rw [List.getElem?_take] at hj
    split at hj
    · exact hj
    · cases hj)⟩
theorem Sums.drop {w : World} {a : Option Addr} {n c : Nat} {L : List (List UInt8)} (h : Sums w a n c L) (k : Nat) (hk : k ≤ n) (a' : Option Addr) (ha' : a' = if c = k then a else a.map (·.add (k * 32))) : Sums w a' (n - k) (c - k) (L.drop k) := by
  have hcap := h.cap
  refine ⟨by have := h.len; simp; omega, fun x hx => h.each x (List.mem_of_mem_drop hx), ⟨fun h0 => ?_⟩, by omega, fun hn => ?_, fun ad had => ?_⟩
  · rw [sumCells_drop L h.each] at h0 ⊢
    obtain ⟨b, o, ha, hc⟩ := h.at_.at_ (by simp at h0; omega)
    have hl := sumCells_length L h.each
    have hne : c ≠ k := fun e => by
      simp only [List.length_drop, hl] at h0
      have := h.len
      omega
    refine ⟨b, o + k * 32, by rw [ha', if_neg hne, ha]; simp [Addr.add_lit], fun j v hj => ?_⟩
    rw [List.getElem?_drop] at hj
    rw [Nat.add_assoc]
    exact hc _ v hj
  · by_cases e : c = k
    · omega
    · rw [ha', if_neg e] at hn
      cases ha : a with
      | none => have := h.nil ha; omega
      | some ad => rw [ha] at hn; cases hn
  · by_cases e : c = k
    · rw [ha', if_pos e] at had
      exact h.plain ad had
    · rw [ha', if_neg e] at had
      cases ha : a with
      | none => rw [ha] at had; cases had
      | some ad0 =>
        obtain ⟨b, o, e0, hlt⟩ := h.plain ad0 ha
        rw [ha, e0] at had
        obtain rfl := Option.some.inj had
        exact ⟨b, o + k * 32, by simp [Addr.add_lit], hlt⟩
theorem Sums.rest {w : World} {a : Option Addr} {n c : Nat} {L : List (List UInt8)} (h : Sums w a n c L) (k : Nat) (hk : k < n) : Sums w (a.map (·.add (k * 32))) (n - k) (c - k) (L.drop k) :=
  h.drop k (by omega) _ (by rw [if_neg (by have := h.cap; omega)])
/-- Where a sum lies. -/
theorem Sums.get {w : World} {a : Option Addr} {n c : Nat} {L : List (List UInt8)} (h : Sums w a n c L) : ∃ b o, (0 < n → a = some ⟨b, o, none⟩) ∧ ∀ j (hj : j < L.length), w.rangeAt b (o + j * 32) (L[j].map V8) := by
  by_cases h0 : 0 < L.length
  · obtain ⟨b, o, ha, hc⟩ := h.at_.at_ (by rw [sumCells_length L h.each]; omega)
    refine ⟨b, o, fun _ => ha, fun j hj i v hv => ?_⟩
    rw [Nat.add_assoc]
    exact hc _ v (sumCells_at L h.each j hj i v hv)
  · exact ⟨0, 0, fun hn => absurd hn (by have := h.len; omega), fun j hj => absurd hj (by omega)⟩

theorem Tabs.low {w w' : World} (h : Tabs w) (hl : Low w w') : Tabs w' := h.below hl
theorem Sums.low {w w' : World} {a : Option Addr} {n c : Nat} {L : List (List UInt8)} (h : Sums w a n c L) (hl : Low w w') : Sums w' a n c L := h.below hl
/-- The value is this sum. -/
def pSum (l : List UInt8) : Post Low := Post.is (sumV l)

theorem wpList_load_mid_sum {P : Program} {ops : Array Oper} {rest : List Oper} {o : Oper} {a : Act} {w : World} {Q : Exit → Act → World → Prop} (hgd : o.guard = none) (ty : TypeId) (x : Operand) (ho : o.op = .load ty x) (b off : Nat) (hx : a.eval x = .pointer (some ⟨b, off, none⟩))
    (l : List UInt8) (n : Nat) (e : TypeId) (hc : w.rangeAt b off (l.map V8)) (hu : P.underlying ty = some (.array n e)) (hi : (P.info? ty).map (·.size) = some n) (hl : l.length = n) (h : wpList P ops Q rest (a.put o.dst (sumV l)) w) : wpList P ops Q (o :: rest) a w :=
  wpList_load_mid hgd ty x ho b off hx (l.map V8) _ hc hu rfl (by rw [hi]; simp [hl]) h
theorem range_low {w w' : World} {b o : Nat} {cs : List Value} (h : w.rangeAt b o cs) (hl : Low w w') : w'.rangeAt b o cs := fun j v hv =>
  (hl.cell (p := ⟨b, o + j, none⟩) (World.block_lt_of_cell? w _ (h j v hv))).trans (h j v hv)

theorem rsum_nil (w : World) (hT : Tabs w) : Calls Tryd.prog 43 #[.slice none 0 0] w (RetSum w (Sha.sum [])) :=
  rsum_any [] none 0 0 w rfl hT ⟨.nil _ _, by simp, fun _ => rfl, fun _ h => by cases h⟩ (by simp)

set_option maxRecDepth 100000 in
set_option maxHeartbeats 2000000 in
theorem rroot_nil (a : Option Addr) (c : Nat) (w : World) (hT : Tabs w) : Calls Tryd.prog 22 #[.slice a 0 c] w (RetSum w (Tree.root [])) := by
  rw [Tree.root_nil]
  have hds := fun w hT => rsum_nil w hT
  obtain ⟨s, hs, hsl⟩ : ∃ s, s = Sha.sum [] ∧ s.length = 32 := ⟨_, rfl, rfl⟩
  rw [← hs] at hds ⊢
  have Hsl := Lib.hid hsl
  clear hs hsl
  go_enter Tryd.func22, Tryd.ntmps22
  go_wp2_with (first | (go_at_call 43; refine (hds _ (hT.below (low1 _ _))).mono ?_; rintro e w1 ⟨rfl, hB⟩; have HB := Lib.hid hB; clear hB) | (refine wpList_store_sum rfl 29 _ _ rfl w.heap.size s 32 rfl rfl _ _ (bblk HB.out (blk1 _ _)) (by kernel_rfl) Hsl.out rfl ?_))
  refine bodyPost_ret (results_sum rfl _ _ w.heap.size _ s 32 (0, 0) _ rfl (setRow_heap _ _ _ _ _ _ (bblk HB.out (blk1 _ _))) Tryd.underlying29 (by kernel_rfl) Hsl.out) rfl ⟨rfl, ?_⟩
  exact brow (bthen (low1 _ _) HB.out) (Nat.le_refl _) _

set_option maxRecDepth 100000 in
set_option maxHeartbeats 2000000 in
theorem rroot_one (x : List UInt8) (a : Option Addr) (c : Nat) (w : World) (S : Sums w a 1 c [x]) : Calls Tryd.prog 22 #[.slice a 1 c] w (RetSum w (Tree.root [x])) := by
  rw [Tree.root_one]
  have Hsl := Lib.hid (S.each x (by simp))
  obtain ⟨b, o, ha, hg⟩ := S.get
  obtain rfl := ha (by omega)
  have hr : w.rangeAt b o (x.map V8) := by simpa using hg 0 (by simp)
  have Hr := Lib.hid hr
  have hcap := S.cap
  clear hr hg ha S
  go_enter Tryd.func22, Tryd.ntmps22
  go_wp2_with (first | (refine wpList_load_mid_sum rfl 29 _ rfl b o rfl x 32 _ (range_low Hr.out (low1 _ _)) Tryd.underlying29 (by kernel_rfl) Hsl.out ?_) | (refine wpList_store_sum rfl 29 _ _ rfl w.heap.size x 32 rfl rfl _ _ (blk1 _ _) (by kernel_rfl) Hsl.out rfl ?_))
  refine bodyPost_ret (results_sum rfl _ _ w.heap.size _ x 32 (0, 0) _ rfl (setRow_heap _ _ _ _ _ _ (blk1 _ _)) Tryd.underlying29 (by kernel_rfl) Hsl.out) rfl ⟨rfl, ?_⟩
  exact brow (low1 _ _) (Nat.le_refl _) _

set_option maxRecDepth 100000 in
set_option maxHeartbeats 2000000 in
theorem rroot_any : ∀ (N : Nat) (L : List (List UInt8)) (a : Option Addr) (n c : Nat) (w : World), L.length ≤ N → L.length < 4611686018427387904 → Tabs w → Sums w a n c L → Calls Tryd.prog 22 #[.slice a n c] w (RetSum w (Tree.root L)) := by
  intro N
  induction N with
  | zero =>
    intro L a n c w hN hlen hT S
    obtain rfl : L = [] := List.eq_nil_of_length_eq_zero (by omega)
    obtain rfl : n = 0 := S.len
    exact rroot_nil a c w hT
  | succ N ih =>
    intro L a n c w hN hlen hT S
    have S' := Lib.hid S
    have hn := S.len
    clear S
    by_cases h0 : n = 0
    · subst h0
      obtain rfl : L = [] := List.eq_nil_of_length_eq_zero hn.symm
      exact rroot_nil a c w hT
    · by_cases h1 : n = 1
      · subst h1
        obtain ⟨x, rfl⟩ := List.length_eq_one_iff.1 hn.symm
        exact rroot_one x a c w S'.out
      · have hn1 : n < 4611686018427387904 := by omega
        have hkp := split_pos n
        have hkl := split_lt (show 1 < n by omega)
        have Hr := Lib.hid (Tree.root_many (l := L) (by omega))
        rw [← hn] at Hr
        have Hn := Lib.hid hn
        have hcap := S'.out.cap
        have Hhalf := split_any n (by omega)
        generalize split n = k at *
        clear hn
        go_enter Tryd.func22, Tryd.ntmps22
        go_wp2_with (go_at_call 46; refine (Hhalf _).mono ?_; rintro e w1 ⟨rfl, rfl⟩)
        clear Hhalf
        refine wp_region_rel 8 Low (by kernel_rfl) (by kernel_rfl) Low.refl Low.trans [.is (.slice a n c), .is (.int .i64 k), .is (.slice a k c), pSum (Tree.root (L.take k)), .is (.slice a n c), .is (.int .i64 k), .is (.slice (a.map (·.add (k * 32))) (n - k : Nat) (c - k : Nat)), pSum (Tree.root (L.drop k))] rfl ?_
        refine .cons (fun w1 hR h => ?_) fun v17 => .cons (fun w1 hR h => ?_) fun v18 => .cons (fun w1 hR h => ?_) fun v19 => .cons (fun w1 hR h => ?_) fun v20 => .cons (fun w1 hR h => ?_) fun v21 => .cons (fun w1 hR h => ?_) fun v22 => .cons (fun w1 hR h => ?_) fun v23 => .cons (fun w1 hR h => ?_) fun v24 => .nil fun w1 hR h => ?_
        · unfold relOp
          go_wp2
          exact ⟨Low.refl _, rfl⟩
        · unfold relOp
          go_wp2
          exact ⟨Low.refl _, rfl⟩
        · obtain ⟨rfl, rfl, -⟩ := h
          unfold relOp
          go_wp2
          exact ⟨Low.refl _, rfl⟩
        · obtain ⟨rfl, -⟩ := h
          unfold relOp
          go_wp2_with (go_at_call 22; refine (ih (L.take k) a k c w1 (by have := Hn.out; simp; omega) (by have := Hn.out; simp; omega) (hT.low (bthen (low1 _ _).drew hR)) ((S'.out.take k (by omega)).low (bthen (low1 _ _).drew hR))).mono ?_; rintro e w2 ⟨rfl, hB⟩)
          exact ⟨hB, rfl⟩
        · unfold relOp
          go_wp2
          exact ⟨Low.refl _, rfl⟩
        · unfold relOp
          go_wp2
          exact ⟨Low.refl _, rfl⟩
        · obtain ⟨rfl, rfl, -⟩ := h
          unfold relOp
          go_wp2
          exact ⟨Low.refl _, rfl⟩
        · obtain ⟨rfl, rfl, -⟩ := h
          unfold relOp
          go_wp2_with (go_at_call 22; refine (ih (L.drop k) _ _ _ w1 (by have := Hn.out; simp; omega) (by have := Hn.out; simp; omega) (hT.low (bthen (low1 _ _).drew hR)) ((S'.out.rest k hkl).low (bthen (low1 _ _).drew hR))).mono ?_; rintro e w2 ⟨rfl, hB⟩)
          exact ⟨hB, rfl⟩
        · obtain ⟨rfl, rfl, rfl, rfl, rfl, rfl, rfl, rfl, -⟩ := h
          have h0 : Low w w1 := bthen (low1 _ _).drew hR
          have hr1 : w1.heap[w.heap.size]? = some (.cells (zeros8 32) 29 (0, 0)) := bblk hR (by exact blk1 _ _)
          have H0 := Lib.hid h0
          have HR1 := Lib.hid hr1
          have hl1 := Tree.root_len (L.take k) fun x hx => S'.out.each x (List.mem_of_mem_take hx)
          have hl2 := Tree.root_len (L.drop k) fun x hx => S'.out.each x (List.mem_of_mem_drop hx)
          have Hnd := Lib.hid fun w hT => rnode_any (Tree.root (L.take k)) (Tree.root (L.drop k)) w hT hl1 hl2
          obtain ⟨s, hs, hsl⟩ : ∃ s, s = Tree.root L ∧ s.length = 32 := ⟨_, rfl, Tree.root_len L S'.out.each⟩
          rw [show Sha.sum (1 :: (Tree.root (L.take k) ++ Tree.root (L.drop k))) = s from by rw [hs, Hr.out]; rfl] at Hnd
          have HS := Lib.hid hs
          have Hsl := Lib.hid hsl
          clear h0 hr1 hR hl1 hl2 hs hsl
          go_wp2_with (first | (go_at_call 20; refine (Hnd.out w1 (hT.low H0.out)).mono ?_; rintro e w2 ⟨rfl, hB⟩; have HB := Lib.hid hB; clear hB) | (refine wpList_store_sum rfl 29 _ _ rfl w.heap.size s 32 rfl rfl _ _ (bblk HB.out HR1.out) (by kernel_rfl) Hsl.out rfl ?_))
          refine bodyPost_ret (results_sum rfl _ _ w.heap.size _ s 32 (0, 0) _ rfl (setRow_heap _ _ _ _ _ _ (bblk HB.out HR1.out)) Tryd.underlying29 (by kernel_rfl) Hsl.out) rfl ⟨by rw [HS.out], ?_⟩
          exact brow (bthen H0.out HB.out) (Nat.le_refl _) _
end Go.Proofs.YtpdhgijeanbmcaaDoor
