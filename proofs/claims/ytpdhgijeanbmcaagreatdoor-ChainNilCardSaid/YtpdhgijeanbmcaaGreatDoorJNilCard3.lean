/- The closure of chain.Extends: a step to the left. -/
import Derived.Deep.MidRow
import Derived.Great.BuildSlice
import Derived.Stop.BytesEq
import Derived.Deep.DeepCutAuto
import Derived.Test.YtpdhgijeanbmcaaGreatDoorJNilCard2
/- Leafb -/
namespace Go.Proofs.YtpdhgijeanbmcaaGreatDoor
set_option maxRecDepth 100000
open Go.RowKit

/-! ### half, Split -/
/-- The greatest power of two below n, as both find it: k doubled while it is less than n - k. -/
def splitFrom (n k : Nat) : Nat := if h : 0 < k ∧ k < n - k then splitFrom n (2 * k) else k
termination_by n - k
decreasing_by omega
def split (n : Nat) : Nat := splitFrom n 1
theorem splitFrom_step {n k : Nat} (h : 0 < k) (h2 : k < n - k) : splitFrom n k = splitFrom n (2 * k) := by
  rw [splitFrom, dif_pos ⟨h, h2⟩]
theorem splitFrom_stop {n k : Nat} (h2 : ¬ k < n - k) : splitFrom n k = k := by
  rw [splitFrom, dif_neg (fun h => h2 h.2)]
theorem splitFrom_pos (n k : Nat) (h : 0 < k) : 0 < splitFrom n k := by
  fun_induction splitFrom n k with
  | case1 k hk ih => exact ih (by omega)
  | case2 k hk => exact h
theorem splitFrom_lt (n k : Nat) (h : k < n) : splitFrom n k < n := by
  fun_induction splitFrom n k with
  | case1 k hk ih => exact ih (by omega)
  | case2 k hk => exact h
theorem split_pos (n : Nat) : 0 < split n := splitFrom_pos n 1 (by omega)
theorem split_lt {n : Nat} (h : 1 < n) : split n < n := splitFrom_lt n 1 h

set_option maxRecDepth 100000 in
theorem half_any (n : Nat) (hn : n < 9223372036854775808) (w : World) : Calls Tryz.prog 28 #[.int .i64 n] w fun e w' => e = .returned (.int .i64 (split n)) ∧ w = w' := by
  go_enter Tryz.func28, Tryz.ntmps28
  go_wp2
  go_loopw [3] (fun v wr => ∃ k : Nat, 0 < k ∧ k ≤ n + 1 ∧ v = .int .i64 k ∧ splitFrom n k = split n ∧ w = wr) (fun v _ => n + 2 - (intOf v).toNat)
  case atStart => exact ⟨1, by omega, by omega, rfl, rfl, rfl⟩
  case round =>
    obtain ⟨k, hk, hkn, rfl, hs, rfl⟩ := hrel
    by_cases hlt : k < n - k
    · have HS := Lib.hid (splitFrom_step hk hlt)
      have HS2 := Lib.hid hs
      have h1 : (k : Int) < (n : Int) - (k : Int) := by omega
      clear hs
      go_wp2
      go_roundw
      case rel => exact ⟨2 * k, by omega, by omega, by go_num, by rw [← HS.out]; exact HS2.out, trivial⟩
      case measure => simp [intOf]; omega
    · have h1 : ¬ (k : Int) < (n : Int) - (k : Int) := by omega
      have HS := Lib.hid ((splitFrom_stop hlt).symm.trans hs)
      clear hs
      go_wp2
      go_ret
      exact ⟨by rw [← HS.out]; rfl, rfl⟩
end Go.Proofs.YtpdhgijeanbmcaaGreatDoor

/- Tree -/
namespace Go.Proofs.YtpdhgijeanbmcaaGreatDoor
set_option maxRecDepth 100000
open Go.RowKit

namespace Tree
def leaf (p : List UInt8) : List UInt8 := Sha.sum (0 :: p)
def node (x y : List UInt8) : List UInt8 := Sha.sum (1 :: (x ++ y))
def root (l : List (List UInt8)) : List UInt8 :=
  if _h : 1 < l.length then node (root (l.take (split l.length))) (root (l.drop (split l.length))) else match l with
    | [] => Sha.sum []
    | x :: _ => x
termination_by l.length
decreasing_by
  · have := split_lt _h; simp; omega
  · have := split_pos l.length; simp; omega
theorem root_nil : root [] = Sha.sum [] := by rw [root]; simp
theorem root_one (x : List UInt8) : root [x] = x := by rw [root]; simp
theorem root_many {l : List (List UInt8)} (h : 1 < l.length) : root l = node (root (l.take (split l.length))) (root (l.drop (split l.length))) := by
  rw [root, dif_pos h]
theorem root_len (l : List (List UInt8)) (h : ∀ x ∈ l, x.length = 32) : (root l).length = 32 := by
  by_cases hl : 1 < l.length
  · rw [root_many hl]; rfl
  · match l, hl, h with
    | [], _, _ => rw [root_nil]; rfl
    | [x], _, h => rw [root_one]; exact h x (by simp)
    | x :: y :: l, hl, _ => simp at hl
end Tree

def sumCells (L : List (List UInt8)) : List Value := L.flatMap fun x => x.map V8
theorem sumCells_length (L : List (List UInt8)) (h : ∀ x ∈ L, x.length = 32) : (sumCells L).length = L.length * 32 := by
  induction L with
  | nil => rfl
  | cons x L ih =>
    have h1 := h x (by simp)
    have h2 := ih fun y hy => h y (by simp [hy])
    simp only [sumCells, List.flatMap_cons, List.length_append, List.length_map, List.length_cons] at h2 ⊢
    omega
theorem sumCells_append (L M : List (List UInt8)) : sumCells (L ++ M) = sumCells L ++ sumCells M := by simp [sumCells]
theorem sumCells_cons (x : List UInt8) (L : List (List UInt8)) : sumCells (x :: L) = x.map V8 ++ sumCells L := rfl
theorem sumCells_one (x : List UInt8) : sumCells [x] = x.map V8 := by simp [sumCells]
theorem sumCells_at (L : List (List UInt8)) (h : ∀ x ∈ L, x.length = 32) (j : Nat) (hj : j < L.length) (i : Nat) (v : Value) (hv : (L[j].map V8)[i]? = some v) : (sumCells L)[j * 32 + i]? = some v := by
  have e : L = L.take j ++ L[j] :: L.drop (j + 1) := by rw [← List.drop_eq_getElem_cons hj]; simp
  have hl : (sumCells (L.take j)).length = j * 32 := by
    rw [sumCells_length _ fun x hx => h x (List.mem_of_mem_take hx)]; simp; omega
  have hi : i < (L[j].map V8).length := (List.getElem?_eq_some_iff.1 hv).1
  have e2 : sumCells L = sumCells (L.take j) ++ (L[j].map V8 ++ sumCells (L.drop (j + 1))) := by
    have h3 : L[j].map V8 ++ sumCells (L.drop (j + 1)) = sumCells (L[j] :: L.drop (j + 1)) := (sumCells_cons _ _).symm
    rw [h3, ← sumCells_append, ← e]
  rw [e2, List.getElem?_append_right (by omega), hl, show j * 32 + i - j * 32 = i by omega, List.getElem?_append_left hi, hv]
theorem sumCells_take (L : List (List UInt8)) (h : ∀ x ∈ L, x.length = 32) (k : Nat) : sumCells (L.take k) = (sumCells L).take (k * 32) := by
  by_cases hk : k ≤ L.length
  · have e : sumCells L = sumCells (L.take k) ++ sumCells (L.drop k) := by rw [← sumCells_append, List.take_append_drop]
    have hl : (sumCells (L.take k)).length = k * 32 := by
      rw [sumCells_length _ fun x hx => h x (List.mem_of_mem_take hx)]; simp; omega
    rw [e, List.take_left' hl]
  · rw [List.take_of_length_le (by omega), List.take_of_length_le (by rw [sumCells_length L h]; omega)]
theorem sumCells_drop (L : List (List UInt8)) (h : ∀ x ∈ L, x.length = 32) (k : Nat) : sumCells (L.drop k) = (sumCells L).drop (k * 32) := by
  by_cases hk : k ≤ L.length
  · have e : sumCells L = sumCells (L.take k) ++ sumCells (L.drop k) := by rw [← sumCells_append, List.take_append_drop]
    have hl : (sumCells (L.take k)).length = k * 32 := by
      rw [sumCells_length _ fun x hx => h x (List.mem_of_mem_take hx)]; simp; omega
    rw [e, List.drop_left' hl]
  · rw [List.drop_of_length_le (by omega), List.drop_of_length_le (by rw [sumCells_length L h]; omega)]
    rfl

/-- A slice of n sums that may be read. -/
structure Sums (w : World) (a : Option Addr) (n c : Nat) (L : List (List UInt8)) : Prop where
  len : n = L.length
  each : ∀ x ∈ L, x.length = 32
  at_ : CellsAt w a (sumCells L)
  cap : n ≤ c
  nil : a = none → c = 0
  plain : ∀ ad, a = some ad → ∃ b o, ad = ⟨b, o, none⟩ ∧ b < w.heap.size
theorem Sums.below {w w' : World} {a : Option Addr} {n c : Nat} {L : List (List UInt8)} (h : Sums w a n c L) (hb : Below w.heap.size w w') : Sums w' a n c L :=
  ⟨h.len, h.each, h.at_.below hb, h.cap, h.nil, fun ad had => by obtain ⟨b, o, e, hlt⟩ := h.plain ad had; exact ⟨b, o, e, Nat.lt_of_lt_of_le hlt hb.size⟩⟩
theorem Sums.od {w : World} {a : Option Addr} {n c : Nat} {L : List (List UInt8)} (h : Sums w a n c L) : ∀ ad, a = some ad → ∃ b o, ad = ⟨b, o, none⟩ := fun ad had => by
  obtain ⟨b, o, rfl, _⟩ := h.plain ad had; exact ⟨b, o, rfl⟩
theorem Sums.take {w : World} {a : Option Addr} {n c : Nat} {L : List (List UInt8)} (h : Sums w a n c L) (k : Nat) (hk : k ≤ n) : Sums w a k c (L.take k) := by
  refine ⟨by have := h.len; simp; omega, fun x hx => h.each x (List.mem_of_mem_take hx), ⟨fun h0 => ?_⟩, by have := h.cap; omega, h.nil, h.plain⟩
  rw [sumCells_take L h.each] at h0 ⊢
  obtain ⟨b, o, ha, hc⟩ := h.at_.at_ (by simp at h0; omega)
  exact ⟨b, o, ha, fun j v hj => hc j v (by
    rw [List.getElem?_take] at hj
    split at hj
    · exact hj
    · cases hj)⟩
theorem Sums.drop {w : World} {a : Option Addr} {n c : Nat} {L : List (List UInt8)} (h : Sums w a n c L) (k : Nat) (hk : k ≤ n) (a' : Option Addr) (ha' : a' = if c = k then a else a.map (·.add (k * 32))) : Sums w a' (n - k) (c - k) (L.drop k) := by
  have hcap := h.cap
  refine ⟨by have := h.len; simp; omega, fun x hx => h.each x (List.mem_of_mem_drop hx), ⟨fun h0 => ?_⟩, by omega, fun hn => ?_, fun ad had => ?_⟩
  · rw [sumCells_drop L h.each] at h0 ⊢
    obtain ⟨b, o, ha, hc⟩ := h.at_.at_ (by simp at h0; omega)
    have hl := sumCells_length L h.each
    have hne : c ≠ k := fun e => by
      simp only [List.length_drop, hl] at h0
      have := h.len
      omega
    refine ⟨b, o + k * 32, by rw [ha', if_neg hne, ha]; simp [Addr.add_lit], fun j v hj => ?_⟩
    rw [List.getElem?_drop] at hj
    rw [Nat.add_assoc]
    exact hc _ v hj
  · by_cases e : c = k
    · omega
    · rw [ha', if_neg e] at hn
      cases ha : a with
      | none => have := h.nil ha; omega
      | some ad => rw [ha] at hn; cases hn
  · by_cases e : c = k
    · rw [ha', if_pos e] at had
      exact h.plain ad had
    · rw [ha', if_neg e] at had
      cases ha : a with
      | none => rw [ha] at had; cases had
      | some ad0 =>
        obtain ⟨b, o, e0, hlt⟩ := h.plain ad0 ha
        rw [ha, e0] at had
        obtain rfl := Option.some.inj had
        exact ⟨b, o + k * 32, by simp [Addr.add_lit], hlt⟩
theorem Sums.rest {w : World} {a : Option Addr} {n c : Nat} {L : List (List UInt8)} (h : Sums w a n c L) (k : Nat) (hk : k < n) : Sums w (a.map (·.add (k * 32))) (n - k) (c - k) (L.drop k) :=
  h.drop k (by omega) _ (by rw [if_neg (by have := h.cap; omega)])
/-- Where a sum lies. -/
theorem Sums.get {w : World} {a : Option Addr} {n c : Nat} {L : List (List UInt8)} (h : Sums w a n c L) : ∃ b o, (0 < n → a = some ⟨b, o, none⟩) ∧ ∀ j (hj : j < L.length), w.rangeAt b (o + j * 32) (L[j].map V8) := by
  by_cases h0 : 0 < L.length
  · obtain ⟨b, o, ha, hc⟩ := h.at_.at_ (by rw [sumCells_length L h.each]; omega)
    refine ⟨b, o, fun _ => ha, fun j hj i v hv => ?_⟩
    rw [Nat.add_assoc]
    exact hc _ v (sumCells_at L h.each j hj i v hv)
  · exact ⟨0, 0, fun hn => absurd hn (by have := h.len; omega), fun j hj => absurd hj (by omega)⟩

theorem Tabs.low {w w' : World} (h : Tabs w) (hl : Low w w') : Tabs w' := h.below hl
theorem Sums.low {w w' : World} {a : Option Addr} {n c : Nat} {L : List (List UInt8)} (h : Sums w a n c L) (hl : Low w w') : Sums w' a n c L := h.below hl
/-- The value is this sum. -/
def pSum (l : List UInt8) : Post Low := Post.is (sumV l)

theorem wpList_load_mid_sum {P : Program} {ops : Array Oper} {rest : List Oper} {o : Oper} {a : Act} {w : World} {Q : Exit → Act → World → Prop} (hgd : o.guard = none) (ty : TypeId) (x : Operand) (ho : o.op = .load ty x) (b off : Nat) (hx : a.eval x = .pointer (some ⟨b, off, none⟩))
    (l : List UInt8) (n : Nat) (e : TypeId) (hc : w.rangeAt b off (l.map V8)) (hu : P.underlying ty = some (.array n e)) (hi : (P.info? ty).map (·.size) = some n) (hl : l.length = n) (h : wpList P ops Q rest (a.put o.dst (sumV l)) w) : wpList P ops Q (o :: rest) a w :=
  wpList_load_mid hgd ty x ho b off hx (l.map V8) _ hc hu rfl (by rw [hi]; simp [hl]) h
theorem range_low {w w' : World} {b o : Nat} {cs : List Value} (h : w.rangeAt b o cs) (hl : Low w w') : w'.rangeAt b o cs := fun j v hv =>
  (hl.cell (p := ⟨b, o + j, none⟩) (World.block_lt_of_cell? w _ (h j v hv))).trans (h j v hv)

theorem rsum_nil (w : World) (hT : Tabs w) : Calls Tryz.prog 58 #[.slice none 0 0] w (RetSum w (Sha.sum [])) :=
  rsum_any [] none 0 0 w rfl hT ⟨.nil _ _, by simp, fun _ => rfl, fun _ h => by cases h⟩ (by simp)

end Go.Proofs.YtpdhgijeanbmcaaGreatDoor

/- Croot -/
namespace Go.Proofs.YtpdhgijeanbmcaaGreatDoor
set_option maxRecDepth 100000
open Go.RowKit

/-- One cell is stored into a variable of one cell; of the new world this is known. -/
theorem wpList_store_one' {P : Program} {ops : Array Oper} {rest : List Oper} {o : Oper} {a : Act} {w : World} {Q : Exit → Act → World → Prop} (hgd : o.guard = none) (ty : TypeId) (x y : Operand) (ho : o.op = .store ty x y)
    (hd : o.dst = none) (g : Nat) (v : Value) (hx : a.eval x = .pointer (some ⟨g, 0, none⟩)) (hy : a.eval y = v) (h1 : v.oneCell' = true)
    (t : TypeId) (old : Value) (hg : w.heap[g]? = some (.cells #[old] t (0, 0))) (hi : (P.info? ty).map (·.size) = some 1)
    (h : ∀ w', w'.heap[g]? = some (.cells #[v] t (0, 0)) → w.grownBy w' (some g) → wpList P ops Q rest a w') : wpList P ops Q (o :: rest) a w :=
  wpList_store_oneTo hgd ty x y ho hd g v hx hy h1 t old hg hi (h _ (setRow_heap _ _ _ _ _ _ hg) (grownBy_setRow _ _ _))

/-- The closure's variable holds the closure itself. -/
def rootFn (g : Nat) : Value := .func (.func 40) #[] #[.pointer (some ⟨g, 0, none⟩)]

set_option maxRecDepth 100000 in
set_option maxHeartbeats 2000000 in
theorem rootin_one (x : List UInt8) (a : Option Addr) (c : Nat) (p : Value) (w : World) (S : Sums w a 1 c [x]) : Calls Tryz.prog 40 #[.slice a 1 c, p] w (RetSum w (Tree.root [x])) := by
  rw [Tree.root_one]
  have Hsl := Lib.hid (S.each x (by simp))
  obtain ⟨b, o, ha, hg⟩ := S.get
  obtain rfl := ha (by omega)
  have hr : w.rangeAt b o (x.map V8) := by simpa using hg 0 (by simp)
  have Hr := Lib.hid hr
  have hcap := S.cap
  clear hr hg ha S
  go_enter Tryz.func40, Tryz.ntmps40
  go_wp2_with (first | (refine wpList_load_mid_sum rfl 34 _ rfl b o rfl x 32 _ (range_low Hr.out (low1 _ _)) Tryz.underlying34 (by kernel_rfl) Hsl.out ?_) | (refine wpList_store_sum rfl 34 _ _ rfl w.heap.size x 32 rfl rfl _ _ (blk1 _ _) (by kernel_rfl) Hsl.out rfl ?_))
  refine bodyPost_ret (results_sum rfl _ _ w.heap.size _ x 32 (0, 0) _ rfl (setRow_heap _ _ _ _ _ _ (blk1 _ _)) Tryz.underlying34 (by kernel_rfl) Hsl.out) rfl ⟨rfl, ?_⟩
  exact brow (low1 _ _) (Nat.le_refl _) _

set_option maxRecDepth 100000 in
set_option maxHeartbeats 2000000 in
theorem rootin_any : ∀ (N : Nat) (L : List (List UInt8)) (a : Option Addr) (n c g : Nat) (w : World), L.length ≤ N → 0 < L.length → L.length < 4611686018427387904 → Tabs w → Sums w a n c L → w.cell? ⟨g, 0, none⟩ = some (rootFn g) →
    Calls Tryz.prog 40 #[.slice a n c, .pointer (some ⟨g, 0, none⟩)] w (RetSum w (Tree.root L)) := by
  intro N
  induction N with
  | zero =>
    intro L a n c g w hN hpos
    omega
  | succ N ih =>
    intro L a n c g w hN hpos hlen hT S hg
    have S' := Lib.hid S
    have hn := S.len
    clear S
    by_cases h1 : n = 1
    · subst h1
      obtain ⟨x, rfl⟩ := List.length_eq_one_iff.1 hn.symm
      exact rootin_one x a c _ w S'.out
    · have hn1 : n < 4611686018427387904 := by omega
      have hkp := split_pos n
      have hkl := split_lt (show 1 < n by omega)
      have Hr := Lib.hid (Tree.root_many (l := L) (by omega))
      rw [← hn] at Hr
      have Hn := Lib.hid hn
      have Hg := Lib.hid hg
      have hcap := S'.out.cap
      have Hhalf := half_any n (by omega)
      generalize split n = k at *
      clear hn hg
      go_enter Tryz.func40, Tryz.ntmps40
      go_wp2_with (go_at_call 28; refine (Hhalf _).mono ?_; rintro e w1 ⟨rfl, rfl⟩)
      clear Hhalf
      refine wp_region_rel 10 Low (by kernel_rfl) (by kernel_rfl) Low.refl Low.trans [.is (rootFn g), .is (.slice a n c), .is (.int .i64 k), .is (.slice a k c), pSum (Tree.root (L.take k)), .is (rootFn g), .is (.slice a n c), .is (.int .i64 k), .is (.slice (a.map (·.add (k * 32))) (n - k : Nat) (c - k : Nat)), pSum (Tree.root (L.drop k))] rfl ?_
      refine .cons (fun w1 hR h => ?_) fun v14 => .cons (fun w1 hR h => ?_) fun v15 => .cons (fun w1 hR h => ?_) fun v16 => .cons (fun w1 hR h => ?_) fun v17 => .cons (fun w1 hR h => ?_) fun v18 => .cons (fun w1 hR h => ?_) fun v19 => .cons (fun w1 hR h => ?_) fun v20 => .cons (fun w1 hR h => ?_) fun v21 => .cons (fun w1 hR h => ?_) fun v22 => .cons (fun w1 hR h => ?_) fun v23 => .nil fun w1 hR h => ?_
      · have hc : w1.cell? ⟨g, 0, none⟩ = some (rootFn g) := (bthen (low1 _ _).drew hR).cell (p := ⟨g, 0, none⟩) (World.block_lt_of_cell? w _ Hg.out) |>.trans Hg.out
        unfold relOp
        go_wp2
        exact ⟨Low.refl _, rfl⟩
      · unfold relOp
        go_wp2
        exact ⟨Low.refl _, rfl⟩
      · unfold relOp
        go_wp2
        exact ⟨Low.refl _, rfl⟩
      · obtain ⟨rfl, rfl, -⟩ := h
        unfold relOp
        go_wp2
        exact ⟨Low.refl _, rfl⟩
      · obtain ⟨rfl, rfl, -⟩ := h
        unfold relOp rootFn
        go_wp2_with (go_at_call 40; refine (ih (L.take k) a k c g w1 (by have := Hn.out; simp; omega) (by have := Hn.out; simp; omega) (by have := Hn.out; simp; omega) (hT.low (bthen (low1 _ _).drew hR)) ((S'.out.take k (by omega)).low (bthen (low1 _ _).drew hR)) (((bthen (low1 _ _).drew hR).cell (p := ⟨g, 0, none⟩) (World.block_lt_of_cell? w _ Hg.out)).trans Hg.out)).mono ?_; rintro e w2 ⟨rfl, hB⟩)
        exact ⟨hB, rfl⟩
      · have hc : w1.cell? ⟨g, 0, none⟩ = some (rootFn g) := (bthen (low1 _ _).drew hR).cell (p := ⟨g, 0, none⟩) (World.block_lt_of_cell? w _ Hg.out) |>.trans Hg.out
        unfold relOp
        go_wp2
        exact ⟨Low.refl _, rfl⟩
      · unfold relOp
        go_wp2
        exact ⟨Low.refl _, rfl⟩
      · unfold relOp
        go_wp2
        exact ⟨Low.refl _, rfl⟩
      · obtain ⟨rfl, rfl, -⟩ := h
        unfold relOp
        go_wp2
        exact ⟨Low.refl _, rfl⟩
      · obtain ⟨rfl, rfl, -⟩ := h
        unfold relOp rootFn
        go_wp2_with (go_at_call 40; refine (ih (L.drop k) _ _ _ g w1 (by have := Hn.out; simp; omega) (by have := Hn.out; simp; omega) (by have := Hn.out; simp; omega) (hT.low (bthen (low1 _ _).drew hR)) ((S'.out.rest k hkl).low (bthen (low1 _ _).drew hR)) (((bthen (low1 _ _).drew hR).cell (p := ⟨g, 0, none⟩) (World.block_lt_of_cell? w _ Hg.out)).trans Hg.out)).mono ?_; rintro e w2 ⟨rfl, hB⟩)
        exact ⟨hB, rfl⟩
      · obtain ⟨rfl, rfl, rfl, rfl, rfl, rfl, rfl, rfl, rfl, rfl, -⟩ := h
        have h0 : Low w w1 := bthen (low1 _ _).drew hR
        have hr1 : w1.heap[w.heap.size]? = some (.cells (zeros8 32) 34 (0, 0)) := bblk hR (by exact blk1 _ _)
        have H0 := Lib.hid h0
        have HR1 := Lib.hid hr1
        have hl1 := Tree.root_len (L.take k) fun x hx => S'.out.each x (List.mem_of_mem_take hx)
        have hl2 := Tree.root_len (L.drop k) fun x hx => S'.out.each x (List.mem_of_mem_drop hx)
        have Hnd := Lib.hid fun w hT => node_any (Tree.root (L.take k)) (Tree.root (L.drop k)) w hT hl1 hl2
        obtain ⟨s, hs, hsl⟩ : ∃ s, s = Tree.root L ∧ s.length = 32 := ⟨_, rfl, Tree.root_len L S'.out.each⟩
        rw [show Sha.sum (1 :: (Tree.root (L.take k) ++ Tree.root (L.drop k))) = s from by rw [hs, Hr.out]; rfl] at Hnd
        have HS := Lib.hid hs
        have Hsl := Lib.hid hsl
        clear h0 hr1 hR hl1 hl2 hs hsl
        go_wp2_with (first | (go_at_call 41; refine (Hnd.out w1 (hT.low H0.out)).mono ?_; rintro e w2 ⟨rfl, hB⟩; have HB := Lib.hid hB; clear hB) | (refine wpList_store_sum rfl 34 _ _ rfl w.heap.size s 32 rfl rfl _ _ (bblk HB.out HR1.out) (by kernel_rfl) Hsl.out rfl ?_))
        refine bodyPost_ret (results_sum rfl _ _ w.heap.size _ s 32 (0, 0) _ rfl (setRow_heap _ _ _ _ _ _ (bblk HB.out HR1.out)) Tryz.underlying34 (by kernel_rfl) Hsl.out) rfl ⟨by rw [HS.out], ?_⟩
        exact brow (bthen H0.out HB.out) (Nat.le_refl _) _

theorem dsum_nil (w : World) (hT : Tabs w) : Calls Tryz.prog 22 #[.slice none 0 0] w (RetSum w (Sha.sum [])) :=
  dsum_any [] none 0 0 w rfl hT (.nil _ _) (by simp) (fun _ h => by cases h) (by simp)

set_option maxRecDepth 100000 in
set_option maxHeartbeats 2000000 in
theorem root_nil (a : Option Addr) (c : Nat) (w : World) (hT : Tabs w) : Calls Tryz.prog 21 #[.slice a 0 c] w (RetSum w (Tree.root [])) := by
  rw [Tree.root_nil]
  have hds := fun w hT => dsum_nil w hT
  obtain ⟨s, hs, hsl⟩ : ∃ s, s = Sha.sum [] ∧ s.length = 32 := ⟨_, rfl, rfl⟩
  rw [← hs] at hds ⊢
  have Hsl := Lib.hid hsl
  clear hs hsl
  go_enter Tryz.func21, Tryz.ntmps21
  go_wp2_with (first | (refine wpList_store_one' rfl 62 _ _ rfl rfl (w.heap.size + 1) (rootFn (w.heap.size + 1)) rfl rfl rfl _ _ (blk2 _ _ _).2 (by kernel_rfl) ?_; intro w0 hf hgr; have hl0 := (low2 _ _ _).grown hgr (by simp; omega) (fun k hk => by obtain rfl := Option.some.inj hk; exact Nat.le_succ _); have hb0 := (hgr.block _ (by simp; omega) (fun e => by have := Option.some.inj e; omega)).trans (blk2 _ _ _).1; have HL0 := Lib.hid hl0; have HB0 := Lib.hid hb0; clear hf hgr hl0 hb0) | (go_at_call 22; refine (hds _ (hT.below HL0.out)).mono ?_; rintro e w1 ⟨rfl, hB⟩; have HB := Lib.hid hB; clear hB) | (refine wpList_store_sum rfl 34 _ _ rfl w.heap.size s 32 rfl rfl _ _ (bblk HB.out HB0.out) (by kernel_rfl) Hsl.out rfl ?_))
  refine bodyPost_ret (results_sum rfl _ _ w.heap.size _ s 32 (0, 0) _ rfl (setRow_heap _ _ _ _ _ _ (bblk HB.out HB0.out)) Tryz.underlying34 (by kernel_rfl) Hsl.out) rfl ⟨rfl, ?_⟩
  exact brow (bthen HL0.out HB.out) (Nat.le_refl _) _

set_option maxRecDepth 100000 in
set_option maxHeartbeats 2000000 in
theorem root_any (L : List (List UInt8)) (a : Option Addr) (n c : Nat) (w : World) (hlen : L.length < 4611686018427387904) (hT : Tabs w) (S : Sums w a n c L) : Calls Tryz.prog 21 #[.slice a n c] w (RetSum w (Tree.root L)) := by
  by_cases h0 : n = 0
  · subst h0
    obtain rfl : L = [] := List.eq_nil_of_length_eq_zero S.len.symm
    exact root_nil a c w hT
  · have S' := Lib.hid S
    have hin := Lib.hid fun g w hT S hg => rootin_any L.length L a n c g w (Nat.le_refl _) (by have := S'.out.len; omega) hlen hT S hg
    obtain ⟨s, hs, hsl⟩ : ∃ s, s = Tree.root L ∧ s.length = 32 := ⟨_, rfl, Tree.root_len L S'.out.each⟩
    rw [← hs] at hin ⊢
    have Hsl := Lib.hid hsl
    clear S hs hsl
    go_enter Tryz.func21, Tryz.ntmps21
    go_wp2_with (first | (refine wpList_store_one' rfl 62 _ _ rfl rfl (w.heap.size + 1) (rootFn (w.heap.size + 1)) rfl rfl rfl _ _ (blk2 _ _ _).2 (by kernel_rfl) ?_; intro w0 hf hgr; have hc : w0.cell? ⟨w.heap.size + 1, 0, none⟩ = some (.func (.func 40) #[] #[.pointer (some ⟨w.heap.size + 1, 0, none⟩)]) := cell_block hf rfl; have hl0 := (low2 _ _ _).grown hgr (by simp; omega) (fun k hk => by obtain rfl := Option.some.inj hk; exact Nat.le_succ _); have hb0 := (hgr.block _ (by simp; omega) (fun e => by have := Option.some.inj e; omega)).trans (blk2 _ _ _).1; have HL0 := Lib.hid hl0; have HB0 := Lib.hid hb0; have HF := Lib.hid hf; clear hf hgr hl0 hb0) | (go_at_call 40; refine (hin.out (w.heap.size + 1) _ (hT.below HL0.out) (S'.out.below HL0.out) (cell_block HF.out rfl)).mono ?_; rintro e w1 ⟨rfl, hB⟩; have HB := Lib.hid hB; clear hB) | (refine wpList_store_sum rfl 34 _ _ rfl w.heap.size s 32 rfl rfl _ _ (bblk HB.out HB0.out) (by kernel_rfl) Hsl.out rfl ?_))
    refine bodyPost_ret (results_sum rfl _ _ w.heap.size _ s 32 (0, 0) _ rfl (setRow_heap _ _ _ _ _ _ (bblk HB.out HB0.out)) Tryz.underlying34 (by kernel_rfl) Hsl.out) rfl ⟨rfl, ?_⟩
    exact brow (bthen HL0.out HB.out) (Nat.le_refl _) _
end Go.Proofs.YtpdhgijeanbmcaaGreatDoor

/- Tree2 -/
namespace Go.Proofs.YtpdhgijeanbmcaaGreatDoor
set_option maxRecDepth 100000
open Go.RowKit

namespace Tree
def path (l : List (List UInt8)) (i : Nat) : List (List UInt8) :=
  if _h : 1 < l.length then
    if i < split l.length then path (l.take (split l.length)) i ++ [root (l.drop (split l.length))]
    else path (l.drop (split l.length)) (i - split l.length) ++ [root (l.take (split l.length))]
  else []
termination_by l.length
decreasing_by
  · have := split_lt _h; simp; omega
  · have := split_pos l.length; simp; omega
theorem path_left {l : List (List UInt8)} {i : Nat} (h : 1 < l.length) (hi : i < split l.length) : path l i = path (l.take (split l.length)) i ++ [root (l.drop (split l.length))] := by
  rw [path, dif_pos h, if_pos hi]
theorem path_right {l : List (List UInt8)} {i : Nat} (h : 1 < l.length) (hi : ¬ i < split l.length) : path l i = path (l.drop (split l.length)) (i - split l.length) ++ [root (l.take (split l.length))] := by
  rw [path, dif_pos h, if_neg hi]
theorem path_stop {l : List (List UInt8)} {i : Nat} (h : ¬ 1 < l.length) : path l i = [] := by rw [path, dif_neg h]

def sub (m : Nat) (l : List (List UInt8)) (whole : Bool) : List (List UInt8) :=
  if _h : 1 < l.length then
    if m = l.length then (if whole then [] else [root l])
    else if m ≤ split l.length then sub m (l.take (split l.length)) whole ++ [root (l.drop (split l.length))]
    else sub (m - split l.length) (l.drop (split l.length)) false ++ [root (l.take (split l.length))]
  else if whole then [] else [root l]
termination_by l.length
decreasing_by
  · have := split_lt _h; simp; omega
  · have := split_pos l.length; simp; omega
theorem sub_all {m : Nat} {l : List (List UInt8)} (h : m = l.length) (whole : Bool) : sub m l whole = if whole then [] else [root l] := by
  rw [sub]
  split <;> simp
theorem sub_left {m : Nat} {l : List (List UInt8)} {whole : Bool} (h : m < l.length) (hp : 0 < m) (hi : m ≤ split l.length) : sub m l whole = sub m (l.take (split l.length)) whole ++ [root (l.drop (split l.length))] := by
  rw [sub, dif_pos (by omega), if_neg (by omega), if_pos hi]
theorem sub_right {m : Nat} {l : List (List UInt8)} {whole : Bool} (h : m < l.length) (hp : 0 < m) (hi : ¬ m ≤ split l.length) : sub m l whole = sub (m - split l.length) (l.drop (split l.length)) false ++ [root (l.take (split l.length))] := by
  rw [sub, dif_pos (by omega), if_neg (by omega), if_neg hi]

/-- The root that a leaf and the first u sums of its path make, and whether their number is right. -/
def made (n i : Nat) (leaf : List UInt8) (p : List (List UInt8)) : Option (List UInt8) := 
  if _h : n ≤ 1 then (if p = [] then some leaf else none)
  else match p.getLast? with
    | none => none
    | some x => if i < split n then (made (split n) i leaf p.dropLast).map fun r => node r x else (made (n - split n) (i - split n) leaf p.dropLast).map fun r => node x r
termination_by n
decreasing_by
  · have := split_lt (show 1 < n by omega); omega
  · have := split_pos n; omega

theorem path_each (l : List (List UInt8)) (i : Nat) (h : ∀ x ∈ l, x.length = 32) : ∀ x ∈ path l i, x.length = 32 := by
  fun_induction path l i with
  | case1 l i h1 h2 ih =>
    intro x hx
    rw [List.mem_append] at hx
    rcases hx with hx | hx
    · exact ih (fun y hy => h y (List.mem_of_mem_take hy)) x hx
    · simp only [List.mem_singleton] at hx
      subst hx
      exact root_len _ fun y hy => h y (List.mem_of_mem_drop hy)
  | case2 l i h1 h2 ih =>
    intro x hx
    rw [List.mem_append] at hx
    rcases hx with hx | hx
    · exact ih (fun y hy => h y (List.mem_of_mem_drop hy)) x hx
    · simp only [List.mem_singleton] at hx
      subst hx
      exact root_len _ fun y hy => h y (List.mem_of_mem_take hy)
  | case3 l i h1 => simp
theorem sub_each (m : Nat) (l : List (List UInt8)) (w : Bool) (h : ∀ x ∈ l, x.length = 32) : (∀ x ∈ sub m l w, x.length = 32) ∧ (sub m l w).length ≤ l.length + 1 := by
  fun_induction sub m l w with
  | case1 => simp
  | case2 => exact ⟨by simpa using root_len _ h, by simp⟩
  | case3 m l w h1 h2 h3 ih =>
    have ih' := ih fun y hy => h y (List.mem_of_mem_take hy)
    refine ⟨fun x hx => ?_, ?_⟩
    · rw [List.mem_append] at hx
      rcases hx with hx | hx
      · exact ih'.1 x hx
      · simp only [List.mem_singleton] at hx
        subst hx
        exact root_len _ fun y hy => h y (List.mem_of_mem_drop hy)
    · have h5 := ih'.2
      have := split_lt h1
      simp only [List.length_append, List.length_take, List.length_singleton] at h5 ⊢
      omega
  | case4 m l w h1 h2 h3 ih =>
    have ih' := ih fun y hy => h y (List.mem_of_mem_drop hy)
    refine ⟨fun x hx => ?_, ?_⟩
    · rw [List.mem_append] at hx
      rcases hx with hx | hx
      · exact ih'.1 x hx
      · simp only [List.mem_singleton] at hx
        subst hx
        exact root_len _ fun y hy => h y (List.mem_of_mem_take hy)
    · have h5 := ih'.2
      have := split_pos l.length
      simp only [List.length_append, List.length_drop, List.length_singleton] at h5 ⊢
      omega
  | case5 => simp
  | case6 => exact ⟨by simpa using root_len _ h, by simp⟩
end Tree
end Go.Proofs.YtpdhgijeanbmcaaGreatDoor

/- Grow -/
namespace Go.Proofs.YtpdhgijeanbmcaaGreatDoor
set_option maxRecDepth 100000
open Go.RowKit Go.Great

def RetS (w : World) (L : List (List UInt8)) (e : Ending) (w' : World) : Prop := ∃ B C, e = .returned (.slice B L.length C) ∧ Acc 34 32 w w' w.heap.size B C L.length (sumCells L)
theorem RetS.of {w w' : World} {B : Option Addr} {C n : Nat} {cs : List Value} {L : List (List UInt8)} (h : Acc 34 32 w w' w.heap.size B C n cs) (hn : n = L.length) (hc : cs = sumCells L) : RetS w L (.returned (.slice B n C)) w' := by
  subst hn hc
  exact ⟨B, C, rfl, h⟩
def pOwn (w0 : World) (L : List (List UInt8)) : Post Low := ⟨fun v w => ∃ B C, v = .slice B L.length C ∧ Acc 34 32 w0 w w0.heap.size B C L.length (sumCells L), fun _ _ _ ⟨B, C, e, h⟩ hl => ⟨B, C, e, h.below hl⟩⟩
theorem info_sum : (Tryz.prog.info? 34).map (fun i => (i.zero.map (·.cells.size), i.size, i.bytes)) = some (some 32, 32, 32) := by kernel_rfl
theorem info_sum' : ∃ z, z.cells.size = 32 ∧ (Tryz.prog.info? 34).map (fun i => (i.zero, i.size, i.bytes)) = some (some z, 32, 32) := by
  have h := info_sum
  cases hi : Tryz.prog.info? 34 with
  | none => rw [hi] at h; cases h
  | some i =>
    rw [hi] at h
    simp only [Option.map_some, Option.some.injEq, Prod.mk.injEq] at h
    obtain ⟨h1, h2, h3⟩ := h
    cases hz : i.zero with
    | none => rw [hz] at h1; cases h1
    | some z => rw [hz] at h1; exact ⟨z, by simpa using h1, by simp [hz, h2, h3]⟩
theorem info_sum2 : ∃ i z, Tryz.prog.info? 34 = some i ∧ i.zero = some z ∧ i.size = 32 ∧ z.cells.size = 32 := by
  obtain ⟨z, hz, h⟩ := info_sum'
  cases hi : Tryz.prog.info? 34 with
  | none => rw [hi] at h; cases h
  | some i =>
    rw [hi] at h
    simp only [Option.map_some, Option.some.injEq, Prod.mk.injEq] at h
    exact ⟨i, z, rfl, h.1, h.2.1, hz⟩
/-- A literal list of one sum. -/
theorem wpList_build_sum {ops : Array Oper} {rest : List Oper} {o : Oper} {a : Act} {w : World} {Q : Exit → Act → World → Prop} (hg : o.guard = none) (x : Operand) (ho : o.op = .buildSlice 26 1 #[(0, x)]) (s : List UInt8) (hx : a.eval x = sumV s) (hs : s.length = 32)
    (h : wpList Tryz.prog ops Q rest (a.put o.dst (.slice (some ⟨w.heap.size, 0, none⟩) 1 1)) (w.alloc (.cells (sumRow s) 34))) : wpList Tryz.prog ops Q (o :: rest) a w := by
  obtain ⟨i, z, hi, hz, hsz, hzs⟩ := info_sum2
  refine wpList_buildSlice hg 26 34 1 #[(0, x)] ho (sumRow s) i z Tryz.underlying26 hi hz (by rw [hsz]; decide) (by rw [hsz]; decide) ?_ h
  have := fill_whole (s := 32) (by decide) [sumV s] ((Array.range (1 * 32)).map (z.cells[· % z.cells.size]!)) (by simp [sumV, Value.cells, hs]) (by simp)
  simp only [hsz]
  rw [show ((#[(0, x)] : Array (Nat × Operand)).map fun (i, x) => (i, a.eval x)).toList = ([sumV s].zipIdx 0).map fun x => (x.2, x.1) from by simp [hx]]
  rw [this]
  simp [sumV, Value.cells, sumRow]
def growFn (g : Nat) : Value := .func (.func 30) #[] #[.pointer (some ⟨g, 0, none⟩)]
theorem ones_sum (s : List UInt8) : ∀ u ∈ s.map V8, u.oneCell' = true := ones' s

set_option maxRecDepth 100000 in
set_option maxHeartbeats 2000000 in
theorem growthin_all (L : List (List UInt8)) (a : Option Addr) (n c : Nat) (whole : Bool) (p : Value) (w : World) (hpos : 0 < n) (hlen : n < 1099511627776) (hT : Tabs w) (S : Sums w a n c L) :
    Calls Tryz.prog 30 #[.int .i64 n, .slice a n c, .bool whole, p] w (RetS w (Tree.sub n L whole)) := by
  rw [Tree.sub_all S.len]
  cases whole with
  | true =>
    go_enter Tryz.func30, Tryz.ntmps30
    go_wp2
    go_ret
    exact ⟨none, 0, rfl, Acc.start _ _ _ _ _ (Below.refl _ _) (Nat.le_refl _)⟩
  | false =>
    have hds := Lib.hid (root_any L a n c w (by have := S.len; omega) hT S)
    obtain ⟨s, hs, hsl⟩ : ∃ s, s = Tree.root L ∧ s.length = 32 := ⟨_, rfl, Tree.root_len L S.each⟩
    rw [← hs] at hds ⊢
    have Hsl := Lib.hid hsl
    clear hs hsl S
    go_enter Tryz.func30, Tryz.ntmps30
    go_wp2_with (first | (go_at_call 21; refine hds.out.mono ?_; rintro e w1 ⟨rfl, hB⟩; have HB := Lib.hid hB; clear hB) | (refine wpList_build_sum rfl _ rfl s rfl Hsl.out ?_))
    go_ret
    refine ⟨some ⟨w1.heap.size, 0, none⟩, 1, rfl, ?_⟩
    have := Acc.lit (e := 34) (size := 32) w1 w.heap.size w (s.map V8).toArray 1 HB.out HB.out.size (by decide) (by simp [Hsl.out])
    simpa [sumCells, sumRow] using this

theorem Acc.sums {w0 w : World} {base : Nat} {A : Option Addr} {C n : Nat} {L : List (List UInt8)} (h : Acc 34 32 w0 w base A C n (sumCells L)) (hL : ∀ x ∈ L, x.length = 32) : Sums w A n C L := by
  have hl : n = L.length := by have := h.length; rw [sumCells_length L hL] at this; omega
  refine ⟨hl, hL, h.at_, h.cap, h.nil, fun ad had => ?_⟩
  rcases h.form with ⟨hn, _⟩ | ⟨g, _, hg, _, hs, _⟩
  · rw [had] at hn; cases hn
  · rw [had] at hg
    obtain rfl := Option.some.inj hg
    exact ⟨g, 0, rfl, hs⟩
theorem low_drew {w w' : World} (h : Low w.drew w') : Low w w' := bthen (Low.drew w) h

set_option maxRecDepth 100000 in
set_option maxHeartbeats 1000000 in
theorem growthin_any : ∀ (N : Nat) (L : List (List UInt8)) (a : Option Addr) (n c m g : Nat) (whole : Bool) (w : World), L.length ≤ N → 0 < m → m ≤ n → n < 1099511627776 → Tabs w → Sums w a n c L → w.cell? ⟨g, 0, none⟩ = some (growFn g) →
    Calls Tryz.prog 30 #[.int .i64 m, .slice a n c, .bool whole, .pointer (some ⟨g, 0, none⟩)] w (RetS w (Tree.sub m L whole)) := by
  obtain ⟨z0, hz0, hinfo⟩ := info_sum'
  have HI := Lib.hid hinfo
  have HZ0 := Lib.hid hz0
  clear hinfo hz0
  intro N
  induction N with
  | zero =>
    intro L a n c m g whole w hN hm hmn hn hT S hg
    have := S.len
    omega
  | succ N ih =>
    intro L a n c m g whole w hN hm hmn hn hT S hg
    by_cases hall : m = n
    · subst hall
      exact growthin_all L a m c whole _ w hm hn hT S
    · have S' := Lib.hid S
      have hnl := S.len
      have hkp := split_pos n
      have hkl := split_lt (show 1 < n by omega)
      have hsl := @Tree.sub_left m L whole (by omega) hm
      have hsr := @Tree.sub_right m L whole (by omega) hm
      rw [← hnl] at hsl hsr
      have Hn := Lib.hid hnl
      have Hg := Lib.hid hg
      have hcap := S.cap
      have Hhalf := half_any n (by omega)
      generalize split n = k at *
      have HN := Lib.hid hN
      have hmn2 : ((m : Int) == (n : Int)) = false := by simp; omega
      have hmne : ¬ (m : Int) = (n : Int) := by omega
      clear hnl hg S hN hall
      by_cases hmk : m ≤ k
      · have hs := hsl hmk
        clear hsl hsr
        have hmk2 : (m : Int) ≤ (k : Int) := by omega
        have hl1 := Tree.root_len (L.drop k) fun x hx => S'.out.each x (List.mem_of_mem_drop hx)
        have hsb := Tree.sub_each m (L.take k) whole fun x hx => S'.out.each x (List.mem_of_mem_take hx)
        have hih := Lib.hid fun w1 hT S hg => ih (L.take k) a k c m g whole w1 (by have := Hn.out; have := HN.out; simp; omega) hm hmk (by omega) hT S hg
        have hrt := Lib.hid fun w1 hT S => root_any (L.drop k) (a.map (·.add (k * 32))) (n - k) (c - k) w1 (by have := Hn.out; simp; omega) hT S
        obtain ⟨s, hse⟩ : ∃ s, s = Tree.root (L.drop k) := ⟨_, rfl⟩
        obtain ⟨M, hM⟩ : ∃ M, M = Tree.sub m (L.take k) whole := ⟨_, rfl⟩
        rw [← hse] at hrt hl1 hs
        rw [← hM] at hih hsb hs
        rw [hs]
        have hMl : M.length + 1 ≤ 1099511627776 := by have this := hsb.2; have h9 := Hn.out; simp at this; omega
        have Hl1 := Lib.hid hl1
        have Hsb := Lib.hid hsb
        have z1 : M.length + 1 ≤ maxLen := by unfold maxLen; omega
        have z2 : (M.length + 1) * 32 ≤ 140737488355328 := by omega
        clear hse hM hs hl1 hsb hMl
        go_enter Tryz.func30, Tryz.ntmps30
        go_wp2_with (go_at_call 28; refine (Hhalf _).mono ?_; rintro e w1 ⟨rfl, rfl⟩)
        clear Hhalf
        refine wp_region_rel 12 Low (by kernel_rfl) (by kernel_rfl) Low.refl Low.trans [.is (growFn g), .is (.int .i64 m), .is (.slice a n c), .is (.int .i64 k), .is (.slice a k c), .is (.bool whole), pOwn w M, .is (.slice a n c), .is (.int .i64 k), .is (.slice (a.map (·.add (k * 32))) (n - k : Nat) (c - k : Nat)), pSum s, pRow 1 (sumRow s) 34] rfl ?_
        refine .cons (fun w1 hR h => ?_) fun v23 => .cons (fun w1 hR h => ?_) fun v24 => .cons (fun w1 hR h => ?_) fun v25 => .cons (fun w1 hR h => ?_) fun v26 => .cons (fun w1 hR h => ?_) fun v27 => .cons (fun w1 hR h => ?_) fun v28 => .cons (fun w1 hR h => ?_) fun v29 => .cons (fun w1 hR h => ?_) fun v30 => .cons (fun w1 hR h => ?_) fun v31 => .cons (fun w1 hR h => ?_) fun v32 => .cons (fun w1 hR h => ?_) fun v33 => .cons (fun w1 hR h => ?_) fun v34 => .nil fun w1 hR h => ?_
        · have hc : w1.cell? ⟨g, 0, none⟩ = some (growFn g) := ((low_drew hR).cell (p := ⟨g, 0, none⟩) (World.block_lt_of_cell? w _ Hg.out)).trans Hg.out
          unfold relOp
          go_wp2
          exact ⟨Low.refl _, rfl⟩
        · unfold relOp
          go_wp2
          exact ⟨Low.refl _, rfl⟩
        · unfold relOp
          go_wp2
          exact ⟨Low.refl _, rfl⟩
        · unfold relOp
          go_wp2
          exact ⟨Low.refl _, rfl⟩
        · obtain ⟨rfl, rfl, -⟩ := h
          unfold relOp
          go_wp2
          exact ⟨Low.refl _, rfl⟩
        · unfold relOp
          go_wp2
          exact ⟨Low.refl _, rfl⟩
        · obtain ⟨rfl, rfl, rfl, rfl, -⟩ := h
          unfold relOp growFn
          go_wp2_with (go_at_call 30; refine (hih.out w1 (hT.low (low_drew hR)) ((S'.out.take k (by omega)).low (low_drew hR)) (((low_drew hR).cell (p := ⟨g, 0, none⟩) (World.block_lt_of_cell? w _ Hg.out)).trans Hg.out)).mono ?_; rintro e w2 ⟨B, C, rfl, hacc⟩)
          exact ⟨hacc.low, B, C, rfl, hacc.rebase (low_drew hR).size (low_drew hR)⟩
        · unfold relOp
          go_wp2
          exact ⟨Low.refl _, rfl⟩
        · unfold relOp
          go_wp2
          exact ⟨Low.refl _, rfl⟩
        · obtain ⟨rfl, rfl, -⟩ := h
          unfold relOp
          go_wp2
          exact ⟨Low.refl _, rfl⟩
        · obtain ⟨rfl, -⟩ := h
          unfold relOp
          go_wp2_with (go_at_call 21; refine (hrt.out w1 (hT.low (low_drew hR)) ((S'.out.rest k hkl).low (low_drew hR))).mono ?_; rintro e w2 ⟨rfl, hB⟩)
          exact ⟨hB, rfl⟩
        · obtain ⟨rfl, -⟩ := h
          unfold relOp
          refine wpList_build_sum rfl _ rfl s (by kernel_rfl) Hl1.out ?_
          go_wp2
          exact ⟨low1 _ _, _, rfl, blk1 _ _⟩
        · obtain ⟨rfl, rfl, rfl, rfl, rfl, rfl, ⟨B, C, rfl, hacc⟩, rfl, rfl, rfl, rfl, ⟨b, rfl, hb⟩, -⟩ := h
          have HA := Lib.hid hacc
          have HB := Lib.hid hb
          clear hacc hb
          refine wpList_acc rfl _ _ 26 rfl 34 32 32 z0 Tryz.underlying26 HI.out HZ0.out (by decide) w w.heap.size B C M.length (sumCells M) (by kernel_rfl) HA.out (some ⟨b, 0, none⟩) 1 1 (s.map V8) (by kernel_rfl) (by simp [Hl1.out]) (Txt.of_block (l := s) (n := 32) HB.out Hl1.out.symm).src.at_.cells (fun h => by cases h) (fun ad h => ⟨_, _, (Option.some.inj h).symm⟩) (ones' s) z1 z2 ?_
          intro B2 D2 w2 hacc hg2 hnew
          have HA2 := Lib.hid hacc
          clear hacc hg2 hnew
          go_wp2
          go_ret
          exact RetS.of HA2.out (by simp) (by rw [sumCells_append, sumCells_one])
      · have hs := hsr hmk
        clear hsl hsr
        have hmk2 : ¬ (m : Int) ≤ (k : Int) := by omega
        have hmk3 : (k : Int) < (m : Int) := by omega
        have e0 : ((m - k : Nat) : Int) = (m : Int) - (k : Int) := by omega
        have hl1 := Tree.root_len (L.take k) fun x hx => S'.out.each x (List.mem_of_mem_take hx)
        have hsb := Tree.sub_each (m - k) (L.drop k) false fun x hx => S'.out.each x (List.mem_of_mem_drop hx)
        have hih := Lib.hid fun w1 hT S hg => ih (L.drop k) (a.map (·.add (k * 32))) (n - k) (c - k) (m - k) g false w1 (by have := Hn.out; have := HN.out; simp; omega) (by omega) (by omega) (by omega) hT S hg
        have hrt := Lib.hid fun w1 hT S => root_any (L.take k) a k c w1 (by have := Hn.out; simp; omega) hT S
        obtain ⟨s, hse⟩ : ∃ s, s = Tree.root (L.take k) := ⟨_, rfl⟩
        obtain ⟨M, hM⟩ : ∃ M, M = Tree.sub (m - k) (L.drop k) false := ⟨_, rfl⟩
        rw [← hse] at hrt hl1 hs
        rw [← hM] at hih hsb hs
        rw [e0] at hih
        rw [hs]
        have hMl : M.length + 1 ≤ 1099511627776 := by have this := hsb.2; have h9 := Hn.out; simp at this; omega
        have Hl1 := Lib.hid hl1
        have Hsb := Lib.hid hsb
        have z1 : M.length + 1 ≤ maxLen := by unfold maxLen; omega
        have z2 : (M.length + 1) * 32 ≤ 140737488355328 := by omega
        clear hse hM hs hl1 hsb hMl e0
        go_enter Tryz.func30, Tryz.ntmps30
        go_wp2_with (go_at_call 28; refine (Hhalf _).mono ?_; rintro e w1 ⟨rfl, rfl⟩)
        clear Hhalf
        refine wp_region_rel 13 Low (by kernel_rfl) (by kernel_rfl) Low.refl Low.trans [.is (growFn g), .is (.int .i64 m), .is (.int .i64 k), .is (.int .i64 ((m : Int) - (k : Int))), .is (.slice a n c), .is (.int .i64 k), .is (.slice (a.map (·.add (k * 32))) (n - k : Nat) (c - k : Nat)), pOwn w M, .is (.slice a n c), .is (.int .i64 k), .is (.slice a k c), pSum s, pRow 1 (sumRow s) 34] rfl ?_
        refine .cons (fun w1 hR h => ?_) fun v => .cons (fun w1 hR h => ?_) fun v => .cons (fun w1 hR h => ?_) fun v => .cons (fun w1 hR h => ?_) fun v => .cons (fun w1 hR h => ?_) fun v => .cons (fun w1 hR h => ?_) fun v => .cons (fun w1 hR h => ?_) fun v => .cons (fun w1 hR h => ?_) fun v => .cons (fun w1 hR h => ?_) fun v => .cons (fun w1 hR h => ?_) fun v => .cons (fun w1 hR h => ?_) fun v => .cons (fun w1 hR h => ?_) fun v => .cons (fun w1 hR h => ?_) fun v => .nil fun w1 hR h => ?_
        · have hc : w1.cell? ⟨g, 0, none⟩ = some (growFn g) := ((low_drew hR).cell (p := ⟨g, 0, none⟩) (World.block_lt_of_cell? w _ Hg.out)).trans Hg.out
          unfold relOp
          go_wp2
          exact ⟨Low.refl _, rfl⟩
        · unfold relOp
          go_wp2
          exact ⟨Low.refl _, rfl⟩
        · unfold relOp
          go_wp2
          exact ⟨Low.refl _, rfl⟩
        · obtain ⟨rfl, rfl, -⟩ := h
          unfold relOp
          go_wp2
          exact ⟨Low.refl _, rfl⟩
        · unfold relOp
          go_wp2
          exact ⟨Low.refl _, rfl⟩
        · unfold relOp
          go_wp2
          exact ⟨Low.refl _, rfl⟩
        · obtain ⟨rfl, rfl, -⟩ := h
          unfold relOp
          go_wp2
          exact ⟨Low.refl _, rfl⟩
        · obtain ⟨rfl, rfl, rfl, -⟩ := h
          unfold relOp growFn
          go_wp2_with (go_at_call 30; refine (hih.out w1 (hT.low (low_drew hR)) ((S'.out.rest k hkl).low (low_drew hR)) (((low_drew hR).cell (p := ⟨g, 0, none⟩) (World.block_lt_of_cell? w _ Hg.out)).trans Hg.out)).mono ?_; rintro e w2 ⟨B, C, rfl, hacc⟩)
          exact ⟨hacc.low, B, C, rfl, hacc.rebase (low_drew hR).size (low_drew hR)⟩
        · unfold relOp
          go_wp2
          exact ⟨Low.refl _, rfl⟩
        · unfold relOp
          go_wp2
          exact ⟨Low.refl _, rfl⟩
        · obtain ⟨rfl, rfl, -⟩ := h
          unfold relOp
          go_wp2
          exact ⟨Low.refl _, rfl⟩
        · obtain ⟨rfl, -⟩ := h
          unfold relOp
          go_wp2_with (go_at_call 21; refine (hrt.out w1 (hT.low (low_drew hR)) ((S'.out.take k (by omega)).low (low_drew hR))).mono ?_; rintro e w2 ⟨rfl, hB⟩)
          exact ⟨hB, rfl⟩
        · obtain ⟨rfl, -⟩ := h
          unfold relOp
          refine wpList_build_sum rfl _ rfl s (by kernel_rfl) Hl1.out ?_
          go_wp2
          exact ⟨low1 _ _, _, rfl, blk1 _ _⟩
        · obtain ⟨rfl, rfl, rfl, rfl, rfl, rfl, rfl, ⟨B, C, rfl, hacc⟩, rfl, rfl, rfl, rfl, ⟨b, rfl, hb⟩, -⟩ := h
          have HA := Lib.hid hacc
          have HB := Lib.hid hb
          clear hacc hb
          refine wpList_acc rfl _ _ 26 rfl 34 32 32 z0 Tryz.underlying26 HI.out HZ0.out (by decide) w w.heap.size B C M.length (sumCells M) (by kernel_rfl) HA.out (some ⟨b, 0, none⟩) 1 1 (s.map V8) (by kernel_rfl) (by simp [Hl1.out]) (Txt.of_block (l := s) (n := 32) HB.out Hl1.out.symm).src.at_.cells (fun h => by cases h) (fun ad h => ⟨_, _, (Option.some.inj h).symm⟩) (ones' s) z1 z2 ?_
          intro B2 D2 w2 hacc hg2 hnew
          have HA2 := Lib.hid hacc
          clear hacc hg2 hnew
          go_wp2
          go_ret
          exact RetS.of HA2.out (by simp) (by rw [sumCells_append, sumCells_one])
end Go.Proofs.YtpdhgijeanbmcaaGreatDoor

/- Growb -/
namespace Go.Proofs.YtpdhgijeanbmcaaGreatDoor
set_option maxRecDepth 100000
open Go.RowKit Go.Great

/-- A list of sums of the call's own and an error's number (its value is kept open: V). -/
def RetSE (w : World) (L : List (List UInt8)) (k : Int) (e : Ending) (w' : World) : Prop := ∃ B C, e = .returned (.tuple #[.slice B L.length C, .int .i64 k]) ∧ Acc 34 32 w w' w.heap.size B C L.length (sumCells L)

set_option maxRecDepth 100000 in
set_option maxHeartbeats 1000000 in
theorem growth_bad (a : Option Addr) (n c : Nat) (m : Int) (w : World) (hm : m < 1 ∨ (n : Int) < m) :
    Calls Tryz.prog 13 #[.slice a n c, .int .i64 m] w (RetSE w [] 2) := by
  rcases hm with hm | hm
  · go_enter Tryz.func13, Tryz.ntmps13
    go_wp2
    go_ret2
    exact ⟨none, 0, rfl, Acc.start _ _ _ _ _ (Below.refl _ _) (Nat.le_refl _)⟩
  · have h1 : ¬ m < 1 := by omega
    go_enter Tryz.func13, Tryz.ntmps13
    go_wp2
    go_ret2
    exact ⟨none, 0, rfl, Acc.start _ _ _ _ _ (Below.refl _ _) (Nat.le_refl _)⟩

set_option maxRecDepth 100000 in
set_option maxHeartbeats 1000000 in
theorem growth_any (L : List (List UInt8)) (a : Option Addr) (n c m : Nat) (w : World) (hm : 0 < m) (hmn : m ≤ n) (hlen : n < 1099511627776) (hT : Tabs w) (S : Sums w a n c L) :
    Calls Tryz.prog 13 #[.slice a n c, .int .i64 m] w (RetSE w (Tree.sub m L true) 0) := by
  have S' := Lib.hid S
  have hin := Lib.hid fun g w hT S hg => growthin_any L.length L a n c m g true w (Nat.le_refl _) hm hmn hlen hT S hg
  obtain ⟨M, hM⟩ : ∃ M, M = Tree.sub m L true := ⟨_, rfl⟩
  rw [← hM] at hin ⊢
  have h1 : ¬ (m : Int) < 1 := by omega
  have h2 : ¬ (n : Int) < (m : Int) := by omega
  clear S hM
  go_enter Tryz.func13, Tryz.ntmps13
  go_wp2_with (first | (refine wpList_store_one' rfl 71 _ _ rfl rfl w.heap.size (growFn w.heap.size) rfl rfl rfl _ _ (blk1 _ _) (by kernel_rfl) ?_; intro w0 hf hgr; have hc : w0.cell? ⟨w.heap.size, 0, none⟩ = some (.func (.func 30) #[] #[.pointer (some ⟨w.heap.size, 0, none⟩)]) := cell_block hf rfl; have hl0 := (low1 _ _).grown hgr (by simp) (fun k hk => by obtain rfl := Option.some.inj hk; exact Nat.le_refl _); have HL0 := Lib.hid hl0; have HF := Lib.hid hf; clear hf hgr hl0) | (go_at_call 30; refine (hin.out w.heap.size _ (hT.below HL0.out) (S'.out.below HL0.out) (cell_block HF.out rfl)).mono ?_; rintro e w1 ⟨B, C, rfl, hA⟩; have HA := Lib.hid hA; clear hA))
  go_ret2
  exact ⟨B, C, rfl, HA.out.rebase HL0.out.size HL0.out⟩
end Go.Proofs.YtpdhgijeanbmcaaGreatDoor

/- Hold -/
namespace Go.Proofs.YtpdhgijeanbmcaaGreatDoor
set_option maxRecDepth 100000
open Go.RowKit Go.Great

theorem guard_sum : Tryz.prog.eqGuardType Tryz.prog.depth 34 = false := by kernel_rfl
theorem size_u8 (w : World) : (sizeOf 5).run Tryz.prog w = .ok 1 w := by
  obtain ⟨i, hi, _, hs, _⟩ := info_u8i
  simp [sizeOf, typeInfo, hi, hs]
@[go_sem] theorem eql_sumV (x y : List UInt8) (w : World) (hx : x.length = 32) (hy : y.length = 32) : (binOp .eql 34 (sumV x) (sumV y)).run Tryz.prog w = .ok (.bool (x == y)) w :=
  run_eql_bytes w 34 5 32 Tryz.underlying34 Tryz.underlying5 size_u8 x y hx hy
@[go_sem] theorem eqGuard_sumV (op : BinOp) (X Y : Operand) (x y : List UInt8) (w : World) : (eqGuard op 34 X Y (sumV x) (sumV y)).run Tryz.prog w = .ok () w :=
  run_eqGuard_agg w op 34 X Y _ _ guard_sum

theorem results_sum_tmp {P : Program} {fn : Func} {p u : Tmp} {ty : TypeId} (h : fn.results = #[.cell p ty, .tmp u]) (tmps : Array Value) (w : World) (g : Nat) (t : TypeId) (l : List UInt8) (n : Nat) (fr : Nat × Nat) (e : TypeId)
    (hp : tmps.getD p undef = .pointer (some ⟨g, 0, none⟩)) (hg : w.heap[g]? = some (.cells (l.map V8).toArray t fr))
    (hu : P.underlying ty = some (.array n e)) (hi : (P.info? ty).map (·.size) = some n) (hl : l.length = n) : (results fn tmps).run P w = .ok (.tuple #[sumV l, tmps.getD u undef]) w := by
  rw [results_cell_tmp h, hp]
  simp only [asAddr, Sem.run_pure, Result.andThen_ok]
  rw [run_loadVar_row w g t ty _ fr _ hg hu rfl (by rw [hi]; simp [hl])]
  rfl

namespace Tree
theorem made_one (n i : Nat) (leaf : List UInt8) (p : List (List UInt8)) (h : n ≤ 1) : made n i leaf p = if p = [] then some leaf else none := by rw [made, dif_pos h]
theorem made_zero (n i : Nat) (leaf : List UInt8) (h : ¬ n ≤ 1) : made n i leaf [] = none := by rw [made, dif_neg h]; rfl
theorem getLast_take (p : List (List UInt8)) (u : Nat) (hu : u < p.length) : (p.take (u + 1)).getLast? = some p[u] ∧ (p.take (u + 1)).dropLast = p.take u := by
  have e : p.take (u + 1) = p.take u ++ [p[u]] := by rw [List.take_succ_eq_append_getElem hu]
  rw [e]
  exact ⟨List.getLast?_concat, List.dropLast_concat⟩
theorem made_left (n i : Nat) (leaf : List UInt8) (p : List (List UInt8)) (u : Nat) (hu : u < p.length) (h : ¬ n ≤ 1) (hi : i < split n) : made n i leaf (p.take (u + 1)) = (made (split n) i leaf (p.take u)).map fun r => node r p[u] := by
  rw [made, dif_neg h, (getLast_take p u hu).1, (getLast_take p u hu).2]
  simp [hi]
theorem made_right (n i : Nat) (leaf : List UInt8) (p : List (List UInt8)) (u : Nat) (hu : u < p.length) (h : ¬ n ≤ 1) (hi : ¬ i < split n) : made n i leaf (p.take (u + 1)) = (made (n - split n) (i - split n) leaf (p.take u)).map fun r => node p[u] r := by
  rw [made, dif_neg h, (getLast_take p u hu).1, (getLast_take p u hu).2]
  simp [hi]
end Tree
/-- A sum and a truth: where it is true, the sum is what was to be reckoned; where it is false, there is none. -/
def RetMade (o : Option (List UInt8)) (w : World) (e : Ending) (w' : World) : Prop := ∃ (r : List UInt8) (b : Bool), e = .returned (.tuple #[sumV r, .bool b]) ∧ r.length = 32 ∧ (o = if b then some r else none) ∧ Below w.heap.size w w'

/-! ### the closure of Holds -/
def holdFn (lb pb g : Nat) : Value := .func (.func 47) #[] #[.pointer (some ⟨lb, 0, none⟩), .pointer (some ⟨pb, 0, none⟩), .pointer (some ⟨g, 0, none⟩)]
/-- What the closure is handed: the leaf's variable, the path's, its own. -/
structure HoldEnv (w : World) (lb pb g : Nat) (leaf : List UInt8) (a : Option Addr) (np c : Nat) (p : List (List UInt8)) : Prop where
  tabs : Tabs w
  leafAt : ∃ t fr, w.heap[lb]? = some (.cells (leaf.map V8).toArray t fr)
  pathAt : w.cell? ⟨pb, 0, none⟩ = some (.slice a np c)
  fn : w.cell? ⟨g, 0, none⟩ = some (holdFn lb pb g)
  len : leaf.length = 32
  sums : Sums w a np c p
theorem HoldEnv.low {w w' : World} {lb pb g : Nat} {leaf : List UInt8} {a : Option Addr} {np c : Nat} {p : List (List UInt8)} (h : HoldEnv w lb pb g leaf a np c p) (hl : Low w w') : HoldEnv w' lb pb g leaf a np c p := by
  obtain ⟨t, fr, h1⟩ := h.leafAt
  exact ⟨h.tabs.low hl, ⟨t, fr, bblk hl h1⟩, (hl.cell (p := ⟨pb, 0, none⟩) (World.block_lt_of_cell? w _ h.pathAt)).trans h.pathAt, (hl.cell (p := ⟨g, 0, none⟩) (World.block_lt_of_cell? w _ h.fn)).trans h.fn, h.len, h.sums.low hl⟩

set_option maxRecDepth 100000 in
set_option maxHeartbeats 1000000 in
theorem holdsin_one (i u lb pb g : Nat) (leaf : List UInt8) (a : Option Addr) (np c : Nat) (p : List (List UInt8)) (w : World) (E : HoldEnv w lb pb g leaf a np c p) (hu : u ≤ np) :
    Calls Tryz.prog 47 #[.int .i64 1, .int .i64 i, .int .i64 u, .pointer (some ⟨lb, 0, none⟩), .pointer (some ⟨pb, 0, none⟩), .pointer (some ⟨g, 0, none⟩)] w (RetMade (Tree.made 1 i leaf (p.take u)) w) := by
  have E' := Lib.hid E
  have Hl := Lib.hid E.len
  obtain ⟨t, fr, hlf⟩ := E.leafAt
  have HLF := Lib.hid hlf
  clear E hlf
  go_enter Tryz.func47, Tryz.ntmps47
  go_wp2_with (first | (refine wpList_load_sum rfl 34 _ rfl lb rfl t leaf 32 fr _ (at_old _ HLF.out) Tryz.underlying34 (by kernel_rfl) Hl.out ?_) | (refine wpList_store_sum rfl 34 _ _ rfl w.heap.size leaf 32 rfl rfl _ _ (blk1 _ _) (by kernel_rfl) Hl.out rfl ?_))
  refine bodyPost_ret (results_sum_tmp rfl _ _ w.heap.size _ leaf 32 (0, 0) _ rfl (setRow_heap _ _ _ _ _ _ (blk1 _ _)) Tryz.underlying34 (by kernel_rfl) Hl.out) rfl ⟨leaf, _, rfl, Hl.out, ?_, ?_⟩
  · rw [Tree.made_one _ _ _ _ (Nat.le_refl _)]
    have hp := E'.out.sums.len
    by_cases h : u = 0
    · subst h; simp
    · have h2 : p.take u ≠ [] := by simp; exact ⟨h, fun e => by rw [e] at hp; simp at hp; omega⟩
      rw [if_neg h2]
      have : ((u : Int) == 0) = false := by simp; exact h
      simp [this]
  · exact brow (low1 _ _) (Nat.le_refl _) _

set_option maxRecDepth 100000 in
set_option maxHeartbeats 1000000 in
theorem holdsin_zero (n i : Nat) (x y z : Value) (leaf : List UInt8) (w : World) (hn : 1 < n) :
    Calls Tryz.prog 47 #[.int .i64 n, .int .i64 i, .int .i64 0, x, y, z] w (RetMade (Tree.made n i leaf []) w) := by
  have h1 : ((n : Int) == 1) = false := by simp; omega
  have h2 : ¬ (n : Int) = 1 := by omega
  rw [Tree.made_zero _ _ _ (by omega)]
  go_enter Tryz.func47, Tryz.ntmps47
  go_wp2_with (first | (refine wpList_store_sum rfl 34 _ _ rfl w.heap.size (List.replicate 32 0) 32 rfl (by kernel_rfl) _ _ (blk1 _ _) (by kernel_rfl) (by simp) rfl ?_))
  refine bodyPost_ret (results_sum_tmp rfl _ _ w.heap.size _ (List.replicate 32 0) 32 (0, 0) _ rfl (setRow_heap _ _ _ _ _ _ (blk1 _ _)) Tryz.underlying34 (by kernel_rfl) (by simp)) rfl ⟨_, false, rfl, by simp, rfl, ?_⟩
  exact brow (low1 _ _) (Nat.le_refl _) _
end Go.Proofs.YtpdhgijeanbmcaaGreatDoor

/- Holdb -/
namespace Go.Proofs.YtpdhgijeanbmcaaGreatDoor
set_option maxRecDepth 100000
open Go.RowKit Go.Great

/-- A new variable of one row. -/
def pBox (base : Nat) (cs : Array Value) (t : TypeId) : Post Low := ⟨fun v w => ∃ b, v = .pointer (some ⟨b, 0, none⟩) ∧ base ≤ b ∧ w.heap[b]? = some (.cells cs t (0, 0)), fun _ _ _ ⟨b, e, h0, h⟩ hl => ⟨b, e, h0, bblk hl h⟩⟩

theorem node_some (x y : List UInt8) (w : World) (hT : Tabs w) (hx : x.length = 32) (hy : y.length = 32) :
    Calls Tryz.prog 41 #[sumV x, sumV y] w fun e w' => ∃ s, s = Tree.node x y ∧ s.length = 32 ∧ e = .returned (sumV s) ∧ Below w.heap.size w w' :=
  (node_any x y w hT hx hy).mono fun _ _ ⟨h1, h2⟩ => ⟨_, rfl, rfl, h1, h2⟩
theorem size_sum (l : List UInt8) (h : l.length = 32) : (Tryz.prog.info? 34).map (·.size) = some (l.map V8).toArray.size := by
  rw [show (Tryz.prog.info? 34).map (·.size) = some 32 from by kernel_rfl]
  simp [h]

set_option maxRecDepth 100000 in
set_option maxHeartbeats 1000000 in
theorem holdsin_any (lb pb g : Nat) (leaf : List UInt8) (a : Option Addr) (np c : Nat) (p : List (List UInt8)) : ∀ (u n i : Nat) (w : World), u ≤ np → np < 4611686018427387904 → 0 < n → n < 9223372036854775808 → i < n → HoldEnv w lb pb g leaf a np c p →
    Calls Tryz.prog 47 #[.int .i64 n, .int .i64 i, .int .i64 u, .pointer (some ⟨lb, 0, none⟩), .pointer (some ⟨pb, 0, none⟩), .pointer (some ⟨g, 0, none⟩)] w (RetMade (Tree.made n i leaf (p.take u)) w) := by
  intro u
  induction u with
  | zero =>
    intro n i w hu hnp hn hn63 hi E
    by_cases h1 : n = 1
    · subst h1
      exact holdsin_one i 0 lb pb g leaf a np c p w E hu
    · have := holdsin_zero n i (.pointer (some ⟨lb, 0, none⟩)) (.pointer (some ⟨pb, 0, none⟩)) (.pointer (some ⟨g, 0, none⟩)) leaf w (by omega)
      simpa using this
  | succ u ih =>
    intro n i w hu hnp hn hn63 hi E
    by_cases h1 : n = 1
    · subst h1
      exact holdsin_one i (u + 1) lb pb g leaf a np c p w E hu
    · have E' := Lib.hid E
      have hup : u < p.length := by have := E.sums.len; omega
      have hkp := split_pos n
      have hkl := split_lt (show 1 < n by omega)
      have Hml := Lib.hid (Tree.made_left n i leaf p u hup (by omega))
      have Hmr := Lib.hid (Tree.made_right n i leaf p u hup (by omega))
      have Hhalf := half_any n (by omega)
      obtain ⟨b, o, ha, hget⟩ := E.sums.get
      obtain rfl := ha (by omega)
      have hx := hget u hup
      have hxl := E.sums.each p[u] (by simp)
      obtain ⟨x, hxe⟩ : ∃ x, x = p[u] := ⟨_, rfl⟩
      rw [← hxe] at hx hxl Hml Hmr
      generalize split n = k at *
      have HX := Lib.hid hx
      have HXL := Lib.hid hxl
      have Ih := Lib.hid ih
      have hcap := E.sums.cap
      have e1 : ((u + 1 : Nat) : Int) - 1 = (u : Int) := by omega
      have hn1 : ((n : Int) == 1) = false := by simp; omega
      have hn2 : ¬ (n : Int) = 1 := by omega
      have hunp : (u : Int) < (np : Int) := by omega
      clear hx hxl hget ha ih E hxe hup hu
      go_enter Tryz.func47, Tryz.ntmps47
      go_wp2_with fail
      refine wp_region_rel 9 Low (by kernel_rfl) (by kernel_rfl) Low.refl Low.trans [.is (.int .i64 n), .is (.int .i64 k), .is (.slice (some ⟨b, o, none⟩) np c), .is (.int .i64 (u + 1 : Nat)), .is (.int .i64 u), .is (.pointer (some ⟨b, o + u * 32, none⟩)), pSum x, pBox (w.heap.size + 1) (zeros8 32) 34, .is (.int .i64 k)] rfl ?_
      refine .cons (fun w1 hR h => ?_) fun v => .cons (fun w1 hR h => ?_) fun v => .cons (fun w1 hR h => ?_) fun v => .cons (fun w1 hR h => ?_) fun v => .cons (fun w1 hR h => ?_) fun v => .cons (fun w1 hR h => ?_) fun v => .cons (fun w1 hR h => ?_) fun v => .cons (fun w1 hR h => ?_) fun v => .cons (fun w1 hR h => ?_) fun v => .nil fun w1 hR h => ?_
      · unfold relOp
        go_wp2
        exact ⟨Low.refl _, rfl⟩
      · obtain ⟨rfl, -⟩ := h
        unfold relOp
        go_wp2_with (go_at_call 28; refine (Hhalf _).mono ?_; rintro e w2 ⟨rfl, rfl⟩)
        exact ⟨Low.refl _, rfl⟩
      · have hc := (E'.out.low (bthen (low1 _ _).drew hR)).pathAt
        unfold relOp
        go_wp2
        exact ⟨Low.refl _, rfl⟩
      · unfold relOp
        go_wp2
        exact ⟨Low.refl _, rfl⟩
      · obtain ⟨rfl, -⟩ := h
        unfold relOp
        go_wp2
        exact ⟨Low.refl _, rfl⟩
      · obtain ⟨rfl, rfl, -⟩ := h
        unfold relOp
        go_wp2
        exact ⟨Low.refl _, rfl⟩
      · obtain ⟨rfl, -⟩ := h
        unfold relOp
        refine wpList_load_mid_sum rfl 34 _ rfl b (o + u * 32) (by kernel_rfl) x 32 _ (range_low HX.out (bthen (low1 _ _).drew hR)) Tryz.underlying34 (by kernel_rfl) HXL.out ?_
        go_wp2
        exact ⟨Low.refl _, rfl⟩
      · unfold relOp
        go_wp2
        exact ⟨low1 _ _, _, rfl, by have := (bthen (low1 _ _).drew hR).size; have h2 := hR.size; simp at h2; exact h2, blk1 _ _⟩
      · obtain ⟨rfl, -⟩ := h
        unfold relOp
        go_wp2
        exact ⟨Low.refl _, rfl⟩
      · obtain ⟨rfl, rfl, rfl, rfl, rfl, rfl, rfl, ⟨b12, rfl, hb12, hbx⟩, rfl, -⟩ := h
        have hL : Low w w1 := bthen (low1 _ _).drew hR
        have hr : w1.heap[w.heap.size]? = some (.cells (zeros8 32) 34 (0, 0)) := bblk hR (by exact blk1 _ _)
        refine wpList_store_row' rfl 34 _ _ rfl b12 (x.map V8).toArray (by kernel_rfl) (by kernel_rfl) _ _ hbx (by rw [show (Tryz.prog.info? 34).map (·.size) = some 32 from by kernel_rfl]; simp [HXL.out]) (by simp [HXL.out, zeros8]) (oneCells x) ?_
        intro w2 hx2 hg2 hs2
        have hL2 : Below w.heap.size w w2 := hL.grown hg2 hL.size (fun k' hk' => by obtain rfl := Option.some.inj hk'; omega)
        have hr2 : w2.heap[w.heap.size]? = some (.cells (zeros8 32) 34 (0, 0)) := (hg2.block _ (in_heap hr) (fun e => by have := Option.some.inj e; omega)).trans hr
        have E2 := E'.out.low hL2
        have HE2 := Lib.hid E2
        have HL2 := Lib.hid hL2
        have HR2 := Lib.hid hr2
        have HX2 := Lib.hid hx2
        have hc := E2.fn
        unfold holdFn at hc
        clear hR hL hr hbx hg2 hs2 hL2 hr2 hx2 E2 Hhalf
        have hml2 := Lib.hid hi
        by_cases hik : i < k
        · have hik2 : (i : Int) < (k : Int) := by omega
          have hml := Hml.out hik
          have hcall := Lib.hid (Ih.out k i w2 (by omega) hnp hkp (by omega) hik HE2.out)
          go_wp2_with (first | (go_at_call 47; refine hcall.out.mono ?_; rintro e w3 ⟨r, bb, rfl, hrl, hmd, hB⟩; have HRL := Lib.hid hrl; have HMD := Lib.hid hmd; have HB3 := Lib.hid hB; clear hrl hmd hB) | (refine wpList_store_row' rfl 34 _ _ rfl w3.heap.size (r.map V8).toArray rfl rfl _ _ (blk1 _ _) (size_sum r HRL.out) (by simp [HRL.out]) (oneCells r) ?_; intro w4 hr4 hg4 hs4; have hL4 : Below w.heap.size w w4 := ((HL2.out.trans (HB3.out.mono HL2.out.size)).alloc (Nat.le_trans HL2.out.size HB3.out.size) _).grown hg4 (by simp; exact Nat.le_succ_of_le (Nat.le_trans HL2.out.size HB3.out.size)) (fun k' hk' => by obtain rfl := Option.some.inj hk'; exact Nat.le_trans HL2.out.size HB3.out.size); have hz4 := (hg4.block _ (in_heap (at_old _ (bblk HB3.out HR2.out))) (fun e => absurd (Option.some.inj e) (Nat.ne_of_lt (in_heap (bblk HB3.out HR2.out))))).trans (at_old _ (bblk HB3.out HR2.out)); have hx4 := (hg4.block _ (in_heap (at_old _ (bblk HB3.out HX2.out))) (fun e => absurd (Option.some.inj e) (Nat.ne_of_lt (in_heap (bblk HB3.out HX2.out))))).trans (at_old _ (bblk HB3.out HX2.out)); have HL4 := Lib.hid hL4; have HZ4 := Lib.hid hz4; have HX4 := Lib.hid hx4; have HR4 := Lib.hid hr4; clear hr4 hg4 hs4 hL4 hz4 hx4) | (refine wpList_load_sum rfl 34 _ rfl w3.heap.size rfl _ r 32 _ _ HR4.out Tryz.underlying34 (by kernel_rfl) HRL.out ?_) | (refine wpList_load_sum rfl 34 _ rfl b12 rfl _ x 32 _ _ HX4.out Tryz.underlying34 (by kernel_rfl) HXL.out ?_) | (go_at_call 41; refine (node_some r x w4 (E'.out.tabs.below HL4.out) HRL.out HXL.out).mono ?_; rintro e w5 ⟨s, hs, hsl, rfl, hB⟩; have HS := Lib.hid hs; have HSL := Lib.hid hsl; have HB5 := Lib.hid hB; clear hs hsl hB) | (refine wpList_store_sum rfl 34 _ _ rfl w.heap.size s 32 rfl rfl _ _ (bblk HB5.out HZ4.out) (by kernel_rfl) HSL.out rfl ?_))
          refine bodyPost_ret (results_sum_tmp rfl _ _ w.heap.size _ s 32 (0, 0) _ rfl (setRow_heap _ _ _ _ _ _ (bblk HB5.out HZ4.out)) Tryz.underlying34 (by kernel_rfl) HSL.out) rfl ⟨s, bb, rfl, HSL.out, ?_, ?_⟩
          · rw [hml, HMD.out, HS.out]
            cases bb <;> rfl
          · exact brow (HL4.out.trans (HB5.out.mono HL4.out.size)) (Nat.le_refl _) _
        · have hik2 : ¬ (i : Int) < (k : Int) := by omega
          have hik3 : (k : Int) ≤ (i : Int) := by omega
          have hml := Hmr.out hik
          have hcall := Ih.out (n - k) (i - k) w2 (by omega) hnp (by omega) (by omega) (by omega) HE2.out
          rw [show ((n - k : Nat) : Int) = (n : Int) - (k : Int) from by omega, show ((i - k : Nat) : Int) = (i : Int) - (k : Int) from by omega] at hcall
          have hcall := Lib.hid hcall
          go_wp2_with (first | (go_at_call 47; refine hcall.out.mono ?_; rintro e w3 ⟨r, bb, rfl, hrl, hmd, hB⟩; have HRL := Lib.hid hrl; have HMD := Lib.hid hmd; have HB3 := Lib.hid hB; clear hrl hmd hB) | (refine wpList_store_row' rfl 34 _ _ rfl w3.heap.size (r.map V8).toArray rfl rfl _ _ (blk1 _ _) (size_sum r HRL.out) (by simp [HRL.out]) (oneCells r) ?_; intro w4 hr4 hg4 hs4; have hL4 : Below w.heap.size w w4 := ((HL2.out.trans (HB3.out.mono HL2.out.size)).alloc (Nat.le_trans HL2.out.size HB3.out.size) _).grown hg4 (by simp; exact Nat.le_succ_of_le (Nat.le_trans HL2.out.size HB3.out.size)) (fun k' hk' => by obtain rfl := Option.some.inj hk'; exact Nat.le_trans HL2.out.size HB3.out.size); have hz4 := (hg4.block _ (in_heap (at_old _ (bblk HB3.out HR2.out))) (fun e => absurd (Option.some.inj e) (Nat.ne_of_lt (in_heap (bblk HB3.out HR2.out))))).trans (at_old _ (bblk HB3.out HR2.out)); have hx4 := (hg4.block _ (in_heap (at_old _ (bblk HB3.out HX2.out))) (fun e => absurd (Option.some.inj e) (Nat.ne_of_lt (in_heap (bblk HB3.out HX2.out))))).trans (at_old _ (bblk HB3.out HX2.out)); have HL4 := Lib.hid hL4; have HZ4 := Lib.hid hz4; have HX4 := Lib.hid hx4; have HR4 := Lib.hid hr4; clear hr4 hg4 hs4 hL4 hz4 hx4) | (refine wpList_load_sum rfl 34 _ rfl w3.heap.size rfl _ r 32 _ _ HR4.out Tryz.underlying34 (by kernel_rfl) HRL.out ?_) | (refine wpList_load_sum rfl 34 _ rfl b12 rfl _ x 32 _ _ HX4.out Tryz.underlying34 (by kernel_rfl) HXL.out ?_) | (go_at_call 41; refine (node_some x r w4 (E'.out.tabs.below HL4.out) HXL.out HRL.out).mono ?_; rintro e w5 ⟨s, hs, hsl, rfl, hB⟩; have HS := Lib.hid hs; have HSL := Lib.hid hsl; have HB5 := Lib.hid hB; clear hs hsl hB) | (refine wpList_store_sum rfl 34 _ _ rfl w.heap.size s 32 rfl rfl _ _ (bblk HB5.out HZ4.out) (by kernel_rfl) HSL.out rfl ?_))
          refine bodyPost_ret (results_sum_tmp rfl _ _ w.heap.size _ s 32 (0, 0) _ rfl (setRow_heap _ _ _ _ _ _ (bblk HB5.out HZ4.out)) Tryz.underlying34 (by kernel_rfl) HSL.out) rfl ⟨s, bb, rfl, HSL.out, ?_, ?_⟩
          · rw [hml, HMD.out, HS.out]
            cases bb <;> rfl
          · exact brow (HL4.out.trans (HB5.out.mono HL4.out.size)) (Nat.le_refl _) _
end Go.Proofs.YtpdhgijeanbmcaaGreatDoor

/- Tree3 -/
namespace Go.Proofs.YtpdhgijeanbmcaaGreatDoor
set_option maxRecDepth 100000
open Go.RowKit

namespace Tree
def sole : List (List UInt8) → Option (List UInt8 × List UInt8)
  | [x] => some (x, x)
  | _ => none
/-- The old root and the new one; none: the proof is too short or too long. -/
def both (old : List UInt8) (m n : Nat) (whole : Bool) (p : List (List UInt8)) : Option (List UInt8 × List UInt8) :=
  if _h : n ≤ m ∨ n ≤ 1 then (if whole then (if p = [] then some (old, old) else none) else sole p)
  else match p.getLast? with
    | none => none
    | some x => if m ≤ split n then (both old m (split n) whole p.dropLast).map fun ab => (ab.1, node ab.2 x) else (both old (m - split n) (n - split n) false p.dropLast).map fun ab => (node x ab.1, node x ab.2)
termination_by n
decreasing_by
  · have := split_lt (show 1 < n by omega); omega
  · have := split_pos n; omega
theorem both_whole (old : List UInt8) (m : Nat) (p : List (List UInt8)) : both old m m true p = if p = [] then some (old, old) else none := by
  rw [both, dif_pos (.inl (Nat.le_refl _))]; rfl
theorem both_part (old : List UInt8) (m : Nat) (p : List (List UInt8)) (h : p.length ≠ 1) : both old m m false p = none := by
  rw [both, dif_pos (.inl (Nat.le_refl _))]
  match p, h with
  | [], _ => rfl
  | [x], h => simp at h
  | x :: y :: p, _ => rfl
theorem both_one (old : List UInt8) (m : Nat) (x : List UInt8) : both old m m false [x] = some (x, x) := by
  rw [both, dif_pos (.inl (Nat.le_refl _))]; rfl
theorem both_zero (old : List UInt8) (m n : Nat) (whole : Bool) (h : m < n) (h0 : 0 < m) : both old m n whole [] = none := by
  rw [both, dif_neg (by omega)]; rfl
theorem both_left (old : List UInt8) (m n : Nat) (whole : Bool) (p : List (List UInt8)) (u : Nat) (hu : u < p.length) (h : m < n) (h0 : 0 < m) (hm : m ≤ split n) :
    both old m n whole (p.take (u + 1)) = (both old m (split n) whole (p.take u)).map fun ab => (ab.1, node ab.2 p[u]) := by
  rw [both, dif_neg (by omega), (getLast_take p u hu).1, (getLast_take p u hu).2]
  simp [hm]
theorem both_right (old : List UInt8) (m n : Nat) (whole : Bool) (p : List (List UInt8)) (u : Nat) (hu : u < p.length) (h : m < n) (h0 : 0 < m) (hm : ¬ m ≤ split n) :
    both old m n whole (p.take (u + 1)) = (both old (m - split n) (n - split n) false (p.take u)).map fun ab => (node p[u] ab.1, node p[u] ab.2) := by
  rw [both, dif_neg (by omega), (getLast_take p u hu).1, (getLast_take p u hu).2]
  simp [hm]
def extends_ (m : Nat) (old : List UInt8) (n : Nat) (root : List UInt8) (p : List (List UInt8)) : Bool := match both old m n true p with
  | some (a, b) => a == old && b == root
  | none => false
end Tree
/-- Two sums and a truth. -/
def RetBoth (o : Option (List UInt8 × List UInt8)) (w : World) (e : Ending) (w' : World) : Prop := ∃ (r s : List UInt8) (b : Bool), e = .returned (.tuple #[sumV r, sumV s, .bool b]) ∧ r.length = 32 ∧ s.length = 32 ∧ (o = if b then some (r, s) else none) ∧ Below w.heap.size w w'
theorem results_sum2_tmp {P : Program} {fn : Func} {p q u : Tmp} {ty : TypeId} (h : fn.results = #[.cell p ty, .cell q ty, .tmp u]) (tmps : Array Value) (w : World) (g g2 : Nat) (t t2 : TypeId) (l l2 : List UInt8) (n : Nat) (fr fr2 : Nat × Nat) (e : TypeId)
    (hp : tmps.getD p undef = .pointer (some ⟨g, 0, none⟩)) (hq : tmps.getD q undef = .pointer (some ⟨g2, 0, none⟩)) (hg : w.heap[g]? = some (.cells (l.map V8).toArray t fr)) (hg2 : w.heap[g2]? = some (.cells (l2.map V8).toArray t2 fr2))
    (hu : P.underlying ty = some (.array n e)) (hi : (P.info? ty).map (·.size) = some n) (hl : l.length = n) (hl2 : l2.length = n) : (results fn tmps).run P w = .ok (.tuple #[sumV l, sumV l2, tmps.getD u undef]) w := by
  have h1 := run_loadVar_row (P := P) w g t ty _ fr _ hg hu rfl (by rw [hi]; simp [hl])
  have h2 := run_loadVar_row (P := P) w g2 t2 ty _ fr2 _ hg2 hu rfl (by rw [hi]; simp [hl2])
  have hp' : tmps[p]?.getD undef = .pointer (some ⟨g, 0, none⟩) := by simpa using hp
  have hq' : tmps[q]?.getD undef = .pointer (some ⟨g2, 0, none⟩) := by simpa using hq
  simp only [results, h]
  simp [Sem.run_bind, Result.andThen, hp', hq', asAddr, h1, h2]
  exact ⟨rfl, rfl⟩
end Go.Proofs.YtpdhgijeanbmcaaGreatDoor

/- Holdc -/
namespace Go.Proofs.YtpdhgijeanbmcaaGreatDoor
set_option maxRecDepth 100000
open Go.RowKit Go.Great

def Tree.holds (root : List UInt8) (n i : Nat) (leaf : List UInt8) (p : List (List UInt8)) : Bool := match Tree.made n i leaf p with
  | some r => r == root
  | none => false

set_option maxRecDepth 100000 in
set_option maxHeartbeats 1000000 in
theorem holds_bad (root leaf : List UInt8) (n i : Int) (a : Option Addr) (np c : Nat) (w : World) (hi : i < 0 ∨ n ≤ i) :
    Calls Tryz.prog 26 #[sumV root, .int .i64 n, .int .i64 i, sumV leaf, .slice a np c] w fun e w' => e = .returned (.bool false) ∧ Below w.heap.size w w' := by
  rcases hi with hi | hi
  · go_enter Tryz.func26, Tryz.ntmps26
    go_wp2
    go_ret
    exact ⟨rfl, low3 _ _ _ _⟩
  · by_cases h0 : i < 0
    · go_enter Tryz.func26, Tryz.ntmps26
      go_wp2
      go_ret
      exact ⟨rfl, low3 _ _ _ _⟩
    · go_enter Tryz.func26, Tryz.ntmps26
      go_wp2
      go_ret
      exact ⟨rfl, low3 _ _ _ _⟩

theorem holds_env {w w0 : World} {root leaf : List UInt8} {a : Option Addr} {np c : Nat} {p : List (List UInt8)} {t1 t2 t3 : TypeId} {t : TypeId} {o : Obj} (hT : Tabs w) (S : Sums w a np c p) (hl : leaf.length = 32)
    (hf : w0.heap[w.heap.size + 1 + 1 + 1]? = some (.cells #[holdFn (w.heap.size + 1) (w.heap.size + 1 + 1) (w.heap.size + 1 + 1 + 1)] t (0, 0)))
    (hg : ((((w.alloc (.cells (sumRow root) t1)).alloc (.cells (sumRow leaf) t2)).alloc (.cells #[.slice a np c] t3)).alloc o).grownBy w0 (some (w.heap.size + 1 + 1 + 1))) :
    HoldEnv w0 (w.heap.size + 1) (w.heap.size + 1 + 1) (w.heap.size + 1 + 1 + 1) leaf a np c p ∧ Below w.heap.size w w0 ∧ w0.heap[w.heap.size]? = some (.cells (root.map V8).toArray t1 (0, 0)) := by
  have hL : Below w.heap.size w w0 := (low4 _ _ _ _ _).grown hg (by simp; omega) (fun k hk => by obtain rfl := Option.some.inj hk; omega)
  have hb := blk4 w (.cells (sumRow root) t1) (.cells (sumRow leaf) t2) (.cells #[.slice a np c] t3) o
  have hk : ∀ b x, b < w.heap.size + 1 + 1 + 1 → ((((w.alloc (.cells (sumRow root) t1)).alloc (.cells (sumRow leaf) t2)).alloc (.cells #[.slice a np c] t3)).alloc o).heap[b]? = some x → w0.heap[b]? = some x :=
    fun b x hlt hx => (hg.block b (in_heap hx) (fun e => absurd (Option.some.inj e) (Nat.ne_of_lt hlt))).trans hx
  exact ⟨⟨hT.below hL, ⟨t2, (0, 0), hk _ _ (by omega) hb.2.1⟩, cell_block (hk _ _ (by omega) hb.2.2.1) rfl, cell_block hf rfl, hl, S.below hL⟩, hL, hk _ _ (by omega) hb.1⟩

/-- An operation whose guard is known to hold goes as one without a guard. -/
theorem wpList_guarded {P : Program} {ops : Array Oper} {rest : List Oper} {o : Oper} {a : Act} {w : World} {Q : Exit → Act → World → Prop} (hg : Region.wanted o (yielded ops a.tmps) = true) (h : wpList P ops Q ({ o with guard := none } :: rest) a w) : wpList P ops Q (o :: rest) a w := by
  unfold wpList at h ⊢
  rw [if_pos hg]
  rw [if_pos (show Region.wanted { o with guard := none } (yielded ops a.tmps) = true from rfl)] at h
  exact h

set_option maxRecDepth 100000 in
set_option maxHeartbeats 1000000 in
theorem holds_any (root leaf : List UInt8) (n i : Nat) (a : Option Addr) (np c : Nat) (p : List (List UInt8)) (w : World) (hi : i < n) (hn : n < 9223372036854775808) (hnp : np < 4611686018427387904) (hr : root.length = 32) (hl : leaf.length = 32) (hT : Tabs w) (S : Sums w a np c p) :
    Calls Tryz.prog 26 #[sumV root, .int .i64 n, .int .i64 i, sumV leaf, .slice a np c] w fun e w' => e = .returned (.bool (Tree.holds root n i leaf p)) ∧ Below w.heap.size w w' := by
  have hin := fun lb pb g w (E : HoldEnv w lb pb g leaf a np c p) => holdsin_any lb pb g leaf a np c p np n i w (Nat.le_refl _) hnp (by omega) hn hi E
  have htk : p.take np = p := by rw [S.len]; simp
  rw [htk] at hin
  have Hin := Lib.hid hin
  have S' := Lib.hid S
  have Hll := Lib.hid hl
  have HRR := Lib.hid hr
  have hi1 : ¬ (i : Int) < 0 := by omega
  have hi2 : ¬ (n : Int) ≤ (i : Int) := by omega
  have hi3 : (i : Int) < (n : Int) := by omega
  have hi4 : (0 : Int) ≤ (i : Int) := by omega
  clear S hl hr htk hin
  go_enter Tryz.func26, Tryz.ntmps26
  have HB4 := Lib.hid (blk4 w (.cells (sumRow root) 34) (.cells (sumRow leaf) 34) (.cells #[.slice a np c] 26) (.cells #[.nilFunc] 96)).2.2.2
  go_upto_region 5 with (refine wpList_store_one' rfl 96 _ _ rfl rfl (w.heap.size + 1 + 1 + 1) (.func (.func 47) #[] #[.pointer (some ⟨w.heap.size + 1, 0, none⟩), .pointer (some ⟨w.heap.size + 1 + 1, 0, none⟩), .pointer (some ⟨w.heap.size + 1 + 1 + 1, 0, none⟩)]) rfl rfl rfl _ _ HB4.out (by kernel_rfl) ?_; intro w0 hf hgr; have hf' := Lib.hid hf; have hgr' := Lib.hid hgr; clear hf hgr)
  obtain ⟨E, hB, hroot⟩ := holds_env (p := p) hT S'.out Hll.out hf'.out hgr'.out
  have hc := E.fn
  have hcp := E.pathAt
  unfold holdFn at hc
  have HE := Lib.hid E
  have HB0 := Lib.hid hB
  have HRoot := Lib.hid hroot
  have hel : ∀ (r : List UInt8), r.length = 32 → ∀ W, (binOp .eql 34 (sumV r) (sumV root)).run Tryz.prog W = .ok (.bool (r == root)) W := fun r h W => eql_sumV r root W h HRR.out
  have Hel := Lib.hid hel
  clear hf' hgr' E hB hroot hel
  go_wp2_with (first | (go_at_call 47; refine (Hin.out _ _ _ _ HE.out).mono ?_; rintro e w3 ⟨r, bb, rfl, hrl, hmd, hB⟩; have HRL := Lib.hid hrl; have HMD := Lib.hid hmd; have HB3 := Lib.hid hB; clear hrl hmd hB; cases bb) | (refine wpList_store_row' rfl 34 _ _ rfl w3.heap.size (r.map V8).toArray rfl rfl _ _ (blk1 _ _) (size_sum r HRL.out) (by simp [HRL.out]) (oneCells r) ?_; intro w4 h4 g4 s4; have hr4 := (g4.block _ (in_heap (at_old _ (bblk HB3.out HRoot.out))) (fun e => absurd (Option.some.inj e) (Nat.ne_of_lt (in_heap (bblk HB3.out HRoot.out))))).trans (at_old _ (bblk HB3.out HRoot.out)); have H4 := Lib.hid h4; have HR4 := Lib.hid hr4; have G4 := Lib.hid g4; have hel := Hel.out r HRL.out; clear h4 g4 s4 hr4) | (refine wpList_guarded rfl ?_; refine wpList_load_sum rfl 34 _ rfl w3.heap.size rfl _ r 32 _ _ H4.out Tryz.underlying34 (by kernel_rfl) HRL.out ?_) | (refine wpList_guarded rfl ?_; refine wpList_load_sum rfl 34 _ rfl w.heap.size rfl _ root 32 _ _ HR4.out Tryz.underlying34 (by kernel_rfl) HRR.out ?_))
  · go_ret
    refine ⟨?_, ?_⟩
    · have : Tree.holds root n i leaf p = false := by unfold Tree.holds; rw [HMD.out]; rfl
      rw [this]; try rfl
    · exact (((HB0.out.trans (HB3.out.mono HB0.out.size)).alloc (Nat.le_trans HB0.out.size HB3.out.size) _).grown G4.out (by rw [size_alloc]; exact Nat.le_succ_of_le (Nat.le_trans HB0.out.size HB3.out.size)) (fun k hk => by obtain rfl := Option.some.inj hk; exact Nat.le_trans HB0.out.size HB3.out.size))
  · go_ret
    refine ⟨?_, ?_⟩
    · have : Tree.holds root n i leaf p = (r == root) := by unfold Tree.holds; rw [HMD.out]; rfl
      rw [this]; try rfl
    · exact (((HB0.out.trans (HB3.out.mono HB0.out.size)).alloc (Nat.le_trans HB0.out.size HB3.out.size) _).grown G4.out (by rw [size_alloc]; exact Nat.le_succ_of_le (Nat.le_trans HB0.out.size HB3.out.size)) (fun k hk => by obtain rfl := Option.some.inj hk; exact Nat.le_trans HB0.out.size HB3.out.size))
end Go.Proofs.YtpdhgijeanbmcaaGreatDoor

/- Fast -/
namespace Go.Proofs.YtpdhgijeanbmcaaGreatDoor
set_option maxRecDepth 100000
namespace Nsha
def rot (x n : Nat) : Nat := x >>> n ||| (x <<< (32 - n)) % 4294967296
def s0 (x : Nat) : Nat := (rot x 7 ^^^ rot x 18) ^^^ x >>> 3
def s1 (x : Nat) : Nat := (rot x 17 ^^^ rot x 19) ^^^ x >>> 10
def e0 (x : Nat) : Nat := (rot x 2 ^^^ rot x 13) ^^^ rot x 22
def e1 (x : Nat) : Nat := (rot x 6 ^^^ rot x 11) ^^^ rot x 25
def ch (e f g : Nat) : Nat := (e &&& f) ^^^ ((4294967296 - 1 - e) &&& g)
def maj (a b c : Nat) : Nat := ((a &&& b) ^^^ (a &&& c)) ^^^ (b &&& c)
def nxt (l : List Nat) : Nat := (((l.getD 15 0 + s0 (l.getD 14 0)) % 4294967296 + l.getD 6 0) % 4294967296 + s1 (l.getD 1 0)) % 4294967296
def sched : Nat → List Nat → List Nat
  | 0, l => l
  | n + 1, l => sched n (nxt l :: l)
structure Reg where
  (a b c d e f g h : Nat)
def step (r : Reg) (k w : Nat) : Reg :=
  let u := ((((r.h + e1 r.e) % 4294967296 + ch r.e r.f r.g) % 4294967296 + k) % 4294967296 + w) % 4294967296
  let v := (e0 r.a + maj r.a r.b r.c) % 4294967296
  ⟨(u + v) % 4294967296, r.a, r.b, r.c, (r.d + u) % 4294967296, r.e, r.f, r.g⟩
def rounds : List Nat → List Nat → Reg → Reg
  | k :: ks, w :: ws, r => rounds ks ws (step r k w)
  | _, _, r => r
def word (a b c d : Nat) : Nat := ((a <<< 24 ||| b <<< 16) ||| c <<< 8) ||| d
def words : Nat → List Nat → List Nat
  | 0, _ => []
  | n + 1, l => word (l.getD 0 0) (l.getD 1 0) (l.getD 2 0) (l.getD 3 0) :: words n (l.drop 4)
def add (r q : Reg) : Reg :=
  ⟨(r.a + q.a) % 4294967296, (r.b + q.b) % 4294967296, (r.c + q.c) % 4294967296, (r.d + q.d) % 4294967296, (r.e + q.e) % 4294967296, (r.f + q.f) % 4294967296, (r.g + q.g) % 4294967296, (r.h + q.h) % 4294967296⟩
def turn (r : Reg) (l : List Nat) : Reg := add r (rounds Sha.roots (sched 48 (words 16 l).reverse).reverse r)
def blocks : Nat → Reg → List Nat → Reg
  | 0, r, _ => r
  | n + 1, r, l => blocks n (turn r l) (l.drop 64)
def init : Reg := ⟨0x6a09e667, 0xbb67ae85, 0x3c6ef372, 0xa54ff53a, 0x510e527f, 0x9b05688c, 0x1f83d9ab, 0x5be0cd19⟩
def wbytes (x : Nat) : List Nat := [x >>> 24 % 256, x >>> 16 % 256, x >>> 8 % 256, x % 256]
def bytes (r : Reg) : List Nat := [r.a, r.b, r.c, r.d, r.e, r.f, r.g, r.h].flatMap wbytes
def eight (n : Nat) : List Nat := (List.range 8).map fun i => n / 2 ^ (8 * (7 - i)) % 256
def pad (n : Nat) : List Nat := 128 :: (List.replicate ((119 - n % 64) % 64) 0 ++ eight (8 * n))
def sum (l : List Nat) : List Nat := bytes (blocks ((l.length + 72) / 64) init (l ++ pad l.length))
end Nsha

def Sha.Reg.nat (r : Sha.Reg) : Nsha.Reg := ⟨r.a.toNat, r.b.toNat, r.c.toNat, r.d.toNat, r.e.toNat, r.f.toNat, r.g.toNat, r.h.toNat⟩
namespace Nsha
theorem rot_eq (x : BitVec 32) (n : Nat) : (Sha.rot x n).toNat = rot x.toNat n := by
  simp [Sha.rot, rot, BitVec.toNat_or]
theorem s0_eq (x : BitVec 32) : (Sha.s0 x).toNat = s0 x.toNat := by simp [Sha.s0, s0, rot_eq, BitVec.toNat_xor]
theorem s1_eq (x : BitVec 32) : (Sha.s1 x).toNat = s1 x.toNat := by simp [Sha.s1, s1, rot_eq, BitVec.toNat_xor]
theorem e0_eq (x : BitVec 32) : (Sha.e0 x).toNat = e0 x.toNat := by simp [Sha.e0, e0, rot_eq, BitVec.toNat_xor]
theorem e1_eq (x : BitVec 32) : (Sha.e1 x).toNat = e1 x.toNat := by simp [Sha.e1, e1, rot_eq, BitVec.toNat_xor]
theorem ch_eq (x y z : BitVec 32) : (Sha.ch x y z).toNat = ch x.toNat y.toNat z.toNat := by
  simp [Sha.ch, ch, BitVec.toNat_xor, BitVec.toNat_and, BitVec.toNat_not]
theorem maj_eq (x y z : BitVec 32) : (Sha.maj x y z).toNat = maj x.toNat y.toNat z.toNat := by
  simp [Sha.maj, maj, BitVec.toNat_xor, BitVec.toNat_and]
theorem step_eq (r : Sha.Reg) (k w : BitVec 32) : (Sha.step r k w).nat = step r.nat k.toNat w.toNat := by
  simp only [Sha.step, step, Sha.Reg.nat, BitVec.toNat_add, e1_eq, ch_eq, e0_eq, maj_eq, show (2 : Nat) ^ 32 = 4294967296 from rfl]
theorem rounds_eq (p : Nat → UInt8) (r : Sha.Reg) : ∀ n t, rounds ((List.range' t n).map fun i => (Sha.root i).toNat) ((List.range' t n).map fun i => (Sha.sched p i).toNat) (Sha.rounds p r t).nat = (Sha.rounds p r (t + n)).nat
  | 0, t => rfl
  | n + 1, t => by
    rw [List.range'_succ, List.map_cons, List.map_cons, rounds, ← step_eq, show Sha.step (Sha.rounds p r t) (Sha.root t) (Sha.sched p t) = Sha.rounds p r (t + 1) from rfl, rounds_eq p r n (t + 1)]
    congr 2
    omega
def back (p : Nat → UInt8) : Nat → List Nat
  | 0 => []
  | k + 1 => (Sha.sched p k).toNat :: back p k
theorem back_get (p : Nat → UInt8) : ∀ k i, i < k → (back p k).getD i 0 = (Sha.sched p (k - 1 - i)).toNat
  | 0, i, h => by omega
  | k + 1, 0, _ => by simp [back]
  | k + 1, i + 1, h => by
    have := back_get p k i (by omega)
    rw [back, List.getD_cons_succ, this]
    congr 2
    omega
theorem nxt_eq (p : Nat → UInt8) (k : Nat) (h : 16 ≤ k) : nxt (back p k) = (Sha.sched p k).toNat := by
  rw [nxt, back_get p k 15 (by omega), back_get p k 14 (by omega), back_get p k 6 (by omega), back_get p k 1 (by omega), Sha.sched_ge p k (by omega), BitVec.toNat_add, BitVec.toNat_add, BitVec.toNat_add, s0_eq, s1_eq,
    show k - 1 - 15 = k - 16 by omega, show k - 1 - 14 = k - 15 by omega, show k - 1 - 6 = k - 7 by omega, show k - 1 - 1 = k - 2 by omega]
theorem sched_eq (p : Nat → UInt8) : ∀ n k, 16 ≤ k → sched n (back p k) = back p (k + n)
  | 0, k, _ => rfl
  | n + 1, k, h => by
    rw [sched, nxt_eq p k h, show (Sha.sched p k).toNat :: back p k = back p (k + 1) from rfl, sched_eq p n (k + 1) (by omega)]
    congr 1
    omega
theorem back_rev (p : Nat → UInt8) : ∀ k, (back p k).reverse = (List.range' 0 k).map fun i => (Sha.sched p i).toNat
  | 0 => rfl
  | k + 1 => by
    rw [back, List.reverse_cons, back_rev p k, show List.range' 0 (k + 1) = List.range' 0 k ++ [k] by rw [List.range'_concat]; simp]
    simp
theorem word_eq (a b c d : UInt8) : (Sha.word a b c d).toNat = word a.toNat b.toNat c.toNat d.toNat := by
  have ha := a.toNat_lt
  have hb := b.toNat_lt
  have hc := c.toNat_lt
  have hd := d.toNat_lt
  have e1 : (a.toNat % 4294967296) <<< 24 % 4294967296 = a.toNat <<< 24 := by rw [Nat.shiftLeft_eq, Nat.shiftLeft_eq]; omega
  have e2 : (b.toNat % 4294967296) <<< 16 % 4294967296 = b.toNat <<< 16 := by rw [Nat.shiftLeft_eq, Nat.shiftLeft_eq]; omega
  have e3 : (c.toNat % 4294967296) <<< 8 % 4294967296 = c.toNat <<< 8 := by rw [Nat.shiftLeft_eq, Nat.shiftLeft_eq]; omega
  have e4 : d.toNat % 4294967296 = d.toNat := by omega
  rw [Sha.word, word, BitVec.toNat_or, BitVec.toNat_or, BitVec.toNat_or, BitVec.toNat_shiftLeft, BitVec.toNat_shiftLeft, BitVec.toNat_shiftLeft, BitVec.toNat_setWidth, BitVec.toNat_setWidth, BitVec.toNat_setWidth, BitVec.toNat_setWidth]
  show ((((a.toNat % 4294967296) <<< 24 % 4294967296) ||| ((b.toNat % 4294967296) <<< 16 % 4294967296)) ||| ((c.toNat % 4294967296) <<< 8 % 4294967296)) ||| (d.toNat % 4294967296) = _
  rw [e1, e2, e3, e4]
theorem getD_nat (l : List UInt8) (i : Nat) : (l.map UInt8.toNat).getD i 0 = (l.getD i 0).toNat := by
  simp only [List.getD, List.getElem?_map]
  cases l[i]? <;> rfl
theorem words_eq (l : List UInt8) : ∀ n t, t + n ≤ 16 → words n ((l.map UInt8.toNat).drop (4 * t)) = (List.range' t n).map fun i => (Sha.sched (fun j => l.getD j 0) i).toNat
  | 0, t, _ => rfl
  | n + 1, t, h => by
    rw [List.range'_succ, List.map_cons, words, Sha.sched_lt _ t (by omega), word_eq, List.drop_drop, show 4 * t + 4 = 4 * (t + 1) by omega, words_eq l n (t + 1) (by omega), List.getD_eq_getElem?_getD, List.getD_eq_getElem?_getD, List.getD_eq_getElem?_getD, List.getD_eq_getElem?_getD,
      List.getElem?_drop, List.getElem?_drop, List.getElem?_drop, List.getElem?_drop, ← List.getD_eq_getElem?_getD, ← List.getD_eq_getElem?_getD, ← List.getD_eq_getElem?_getD, ← List.getD_eq_getElem?_getD, getD_nat, getD_nat, getD_nat, getD_nat]
    rfl
theorem roots_eq : Sha.roots = (List.range' 0 64).map fun i => (Sha.root i).toNat := by decide +kernel
theorem add_eq (r q : Sha.Reg) : (r.add q).nat = add r.nat q.nat := by
  simp only [Sha.Reg.add, add, Sha.Reg.nat, BitVec.toNat_add, show (2 : Nat) ^ 32 = 4294967296 from rfl]
theorem turn_eq (r : Sha.Reg) (l : List UInt8) : (Sha.turn r fun j => l.getD j 0).nat = turn r.nat (l.map UInt8.toNat) := by
  have h := words_eq l 16 0 (by omega)
  rw [Nat.mul_zero, List.drop_zero] at h
  have hr := rounds_eq (fun j => l.getD j 0) r 64 0
  rw [Nat.zero_add, ← roots_eq, show Sha.rounds (fun j => l.getD j 0) r 0 = r from rfl] at hr
  rw [turn, h, ← back_rev, List.reverse_reverse, sched_eq _ 48 16 (by omega), back_rev, Sha.turn, add_eq, hr]
theorem blocks_eq : ∀ n (r : Sha.Reg) (l : List UInt8), l.length / 64 = n → (Sha.blocks r l).nat = blocks n r.nat (l.map UInt8.toNat)
  | 0, r, l, h => by rw [Sha.blocks_short _ _ (by omega)]; rfl
  | n + 1, r, l, h => by
    rw [Sha.blocks_step _ _ (by omega), blocks, ← turn_eq, ← List.map_drop]
    exact blocks_eq n _ _ (by rw [List.length_drop]; omega)
theorem wbytes_eq (x : BitVec 32) : (Sha.wbytes x).map UInt8.toNat = wbytes x.toNat := by
  simp only [Sha.wbytes, wbytes, List.map_cons, List.map_nil, UInt8.toNat, BitVec.toNat_setWidth, BitVec.toNat_ushiftRight]
  try rfl
theorem bytes_eq (r : Sha.Reg) : (Sha.bytes r).map UInt8.toNat = bytes r.nat := by
  simp only [Sha.bytes, bytes, Sha.Reg.list, Sha.Reg.nat, List.flatMap_cons, List.flatMap_nil, List.map_append, wbytes_eq, List.map_nil]
theorem eight_eq (n : Nat) : (Sha.eight n).map UInt8.toNat = eight n := by
  simp [Sha.eight, eight]
theorem pad_eq (n : Nat) : (Sha.pad n).map UInt8.toNat = pad n := by
  simp [Sha.pad, pad, eight_eq]
theorem sum_eq (l : List UInt8) : (Sha.sum l).map UInt8.toNat = sum (l.map UInt8.toNat) := by
  have hp : (Sha.pad l.length).length = 1 + (119 - l.length % 64) % 64 + 8 := by simp [Sha.pad, Sha.eight]; omega
  rw [Sha.sum, sum, bytes_eq, blocks_eq ((l.length + 72) / 64) _ _ (by rw [List.length_append, hp]; omega), List.map_append, pad_eq, List.length_map]
  rfl
end Nsha
end Go.Proofs.YtpdhgijeanbmcaaGreatDoor

/- LiveP -/
namespace Go.Proofs.YtpdhgijeanbmcaaGreatDoor
set_option maxRecDepth 100000
namespace Nsha
def leaf (p : List Nat) : List Nat := sum (0 :: p)
def node (x y : List Nat) : List Nat := sum (1 :: (x ++ y))
theorem live_one : node (node (leaf [97]) (leaf [98])) (leaf [98]) ≠ node (node (leaf [97]) (leaf [98])) (leaf [99]) := by decide +kernel
theorem live_two : node (node (node (leaf [97]) (leaf [98])) (leaf [99])) (leaf [99]) ≠ node (node (leaf [97]) (leaf [98])) (leaf [99]) := by decide +kernel
end Nsha
namespace LiveP
def leaf (p : List UInt8) : List UInt8 := Sha.sum (0 :: p)
def node (x y : List UInt8) : List UInt8 := Sha.sum (1 :: (x ++ y))
theorem leaf_nat (p : List UInt8) : (leaf p).map UInt8.toNat = Nsha.leaf (p.map UInt8.toNat) := by
  rw [leaf, Nsha.sum_eq]; rfl
theorem node_nat (x y : List UInt8) : (node x y).map UInt8.toNat = Nsha.node (x.map UInt8.toNat) (y.map UInt8.toNat) := by
  rw [node, Nsha.sum_eq, List.map_cons, List.map_append]; rfl
theorem one : node (node (leaf [97]) (leaf [98])) (leaf [98]) ≠ node (node (leaf [97]) (leaf [98])) (leaf [99]) := fun h => by
  have h2 := congrArg (List.map UInt8.toNat) h
  simp only [node_nat, leaf_nat] at h2
  exact Nsha.live_one h2
theorem two : node (node (node (leaf [97]) (leaf [98])) (leaf [99])) (leaf [99]) ≠ node (node (leaf [97]) (leaf [98])) (leaf [99]) := fun h => by
  have h2 := congrArg (List.map UInt8.toNat) h
  simp only [node_nat, leaf_nat] at h2
  exact Nsha.live_two h2
end LiveP
end Go.Proofs.YtpdhgijeanbmcaaGreatDoor

/- LiveQ -/
namespace Go.Proofs.YtpdhgijeanbmcaaGreatDoor
set_option maxRecDepth 100000
namespace Tree
theorem split3 : split 3 = 2 := by
  unfold split
  rw [splitFrom_step (by omega) (by omega), splitFrom_stop (by omega)]
theorem split2 : split 2 = 1 := by
  unfold split
  rw [splitFrom_stop (by omega)]
theorem root2 (a b : List UInt8) : root [a, b] = node a b := by
  rw [root_many (by simp)]
  simp only [List.length_cons, List.length_nil]
  rw [show split (0 + 1 + 1) = 1 from split2]
  simp [root_one]
theorem root3 (a b c : List UInt8) : root [a, b, c] = node (node a b) c := by
  rw [root_many (by simp)]
  simp only [List.length_cons, List.length_nil]
  rw [show split (0 + 1 + 1 + 1) = 2 from split3]
  simp [root_one, root2]
theorem path3 (a b c : List UInt8) : path [a, b, c] 2 = [node a b] := by
  rw [path_right (by simp) (by simp only [List.length_cons, List.length_nil]; rw [show split (0 + 1 + 1 + 1) = 2 from split3]; omega)]
  simp only [List.length_cons, List.length_nil]
  rw [show split (0 + 1 + 1 + 1) = 2 from split3, path_stop (by simp)]
  simp [root2]
theorem sub3 (a b c : List UInt8) : sub 2 [a, b, c] true = [c] := by
  rw [sub_left (by simp) (by omega) (by simp only [List.length_cons, List.length_nil]; rw [show split (0 + 1 + 1 + 1) = 2 from split3]; omega)]
  simp only [List.length_cons, List.length_nil]
  rw [show split (0 + 1 + 1 + 1) = 2 from split3, sub_all (by simp)]
  simp [root_one]
theorem holds3 (r x p : List UInt8) : holds r 3 2 x [p] = (node p x == r) := by
  unfold holds
  have h := made_right 3 2 x [p] 0 (by simp) (by omega) (by rw [split3]; omega)
  simp only [Nat.zero_add, List.take_succ_cons, List.take_zero, List.getElem_cons_zero] at h
  rw [split3, made_one (3 - 2) _ _ _ (by decide)] at h
  rw [h]
  rfl
theorem ext3 (old r x : List UInt8) : extends_ 2 old 3 r [x] = (node old x == r) := by
  unfold extends_
  have h := both_left old 2 3 true [x] 0 (by simp) (by omega) (by omega) (by rw [split3]; omega)
  simp only [Nat.zero_add, List.take_succ_cons, List.take_zero, List.getElem_cons_zero] at h
  rw [split3, both_whole] at h
  rw [h]
  simp
end Tree
theorem live_ne1 : Tree.node (Tree.node (Tree.leaf [97]) (Tree.leaf [98])) (Tree.leaf [98]) ≠ Tree.node (Tree.node (Tree.leaf [97]) (Tree.leaf [98])) (Tree.leaf [99]) := LiveP.one
theorem live_ne2 : Tree.node (Tree.node (Tree.node (Tree.leaf [97]) (Tree.leaf [98])) (Tree.leaf [99])) (Tree.leaf [99]) ≠ Tree.node (Tree.node (Tree.leaf [97]) (Tree.leaf [98])) (Tree.leaf [99]) := LiveP.two
end Go.Proofs.YtpdhgijeanbmcaaGreatDoor

/- Ext -/
namespace Go.Proofs.YtpdhgijeanbmcaaGreatDoor
set_option maxRecDepth 100000
open Go.RowKit Go.Great

def extFn (ob pb g : Nat) : Value := .func (.func 48) #[] #[.pointer (some ⟨ob, 0, none⟩), .pointer (some ⟨pb, 0, none⟩), .pointer (some ⟨g, 0, none⟩)]
structure ExtEnv (w : World) (ob pb g : Nat) (old : List UInt8) (a : Option Addr) (np c : Nat) (p : List (List UInt8)) : Prop where
  tabs : Tabs w
  oldAt : ∃ t fr, w.heap[ob]? = some (.cells (old.map V8).toArray t fr)
  pathAt : w.cell? ⟨pb, 0, none⟩ = some (.slice a np c)
  fn : w.cell? ⟨g, 0, none⟩ = some (extFn ob pb g)
  len : old.length = 32
  sums : Sums w a np c p
theorem ExtEnv.low {w w' : World} {ob pb g : Nat} {old : List UInt8} {a : Option Addr} {np c : Nat} {p : List (List UInt8)} (h : ExtEnv w ob pb g old a np c p) (hl : Low w w') : ExtEnv w' ob pb g old a np c p := by
  obtain ⟨t, fr, h1⟩ := h.oldAt
  exact ⟨h.tabs.low hl, ⟨t, fr, bblk hl h1⟩, (hl.cell (p := ⟨pb, 0, none⟩) (World.block_lt_of_cell? w _ h.pathAt)).trans h.pathAt, (hl.cell (p := ⟨g, 0, none⟩) (World.block_lt_of_cell? w _ h.fn)).trans h.fn, h.len, h.sums.low hl⟩

/-- Two boxes of sums are written, each once and for good; all else that was there stays. -/
structure Wr (b1 b2 : Nat) (c1 c2 : Array Value) (t : TypeId) (w w' : World) : Prop where
  os : w'.os = w.os
  tape : w'.tape = w.tape
  output : w'.output = w.output
  size : w.heap.size ≤ w'.heap.size
  keep : ∀ i, i < w.heap.size → i ≠ b1 → i ≠ b2 → w'.heap[i]? = w.heap[i]?
  k1 : (∃ cs, w.heap[b1]? = some (.cells cs t (0, 0)) ∧ cs.size = 32) → ∃ cs, w'.heap[b1]? = some (.cells cs t (0, 0)) ∧ cs.size = 32
  f1 : w.heap[b1]? = some (.cells c1 t (0, 0)) → w'.heap[b1]? = some (.cells c1 t (0, 0))
  k2 : (∃ cs, w.heap[b2]? = some (.cells cs t (0, 0)) ∧ cs.size = 32) → ∃ cs, w'.heap[b2]? = some (.cells cs t (0, 0)) ∧ cs.size = 32
  f2 : w.heap[b2]? = some (.cells c2 t (0, 0)) → w'.heap[b2]? = some (.cells c2 t (0, 0))
section
variable {b1 b2 : Nat} {c1 c2 : Array Value} {t : TypeId}
theorem Wr.refl (w : World) : Wr b1 b2 c1 c2 t w w := ⟨rfl, rfl, rfl, Nat.le_refl _, fun _ _ _ _ => rfl, fun h => h, fun h => h, fun h => h, fun h => h⟩
theorem Wr.trans (w w' w'' : World) (h : Wr b1 b2 c1 c2 t w w') (h' : Wr b1 b2 c1 c2 t w' w'') : Wr b1 b2 c1 c2 t w w'' :=
  ⟨h'.os.trans h.os, h'.tape.trans h.tape, h'.output.trans h.output, Nat.le_trans h.size h'.size, fun i hi n1 n2 => (h'.keep i (Nat.lt_of_lt_of_le hi h.size) n1 n2).trans (h.keep i hi n1 n2), fun x => h'.k1 (h.k1 x), fun x => h'.f1 (h.f1 x), fun x => h'.k2 (h.k2 x), fun x => h'.f2 (h.f2 x)⟩
theorem Wr.of_low {w w' : World} (h : Low w w') : Wr b1 b2 c1 c2 t w w' :=
  ⟨h.os, h.tape, h.output, h.size, fun i hi _ _ => h.block i hi, fun ⟨cs, h1, h2⟩ => ⟨cs, bblk h h1, h2⟩, fun h1 => bblk h h1, fun ⟨cs, h1, h2⟩ => ⟨cs, bblk h h1, h2⟩, fun h1 => bblk h h1⟩
theorem Wr.one {w w' : World} (hne : b1 ≠ b2) (hg : w.grownBy w' (some b1)) (h1 : w'.heap[b1]? = some (.cells c1 t (0, 0))) (hs : c1.size = 32) : Wr b1 b2 c1 c2 t w w' :=
  ⟨hg.os, hg.tape, hg.output, hg.size, fun i hi n1 _ => hg.block i hi (fun e => n1 (Option.some.inj e)), fun _ => ⟨c1, h1, hs⟩, fun _ => h1, fun ⟨cs, h2, h3⟩ => ⟨cs, (hg.block _ (in_heap h2) (fun e => hne (Option.some.inj e).symm)).trans h2, h3⟩, fun h2 => (hg.block _ (in_heap h2) (fun e => hne (Option.some.inj e).symm)).trans h2⟩
theorem Wr.two {w w' : World} (hne : b1 ≠ b2) (hg : w.grownBy w' (some b2)) (h1 : w'.heap[b2]? = some (.cells c2 t (0, 0))) (hs : c2.size = 32) : Wr b1 b2 c1 c2 t w w' :=
  ⟨hg.os, hg.tape, hg.output, hg.size, fun i hi _ n2 => hg.block i hi (fun e => n2 (Option.some.inj e)), fun ⟨cs, h2, h3⟩ => ⟨cs, (hg.block _ (in_heap h2) (fun e => hne (Option.some.inj e))).trans h2, h3⟩, fun h2 => (hg.block _ (in_heap h2) (fun e => hne (Option.some.inj e))).trans h2, fun _ => ⟨c2, h1, hs⟩, fun _ => h1⟩
def pFin1 : Post (Wr b1 b2 c1 c2 t) := ⟨fun _ w => w.heap[b1]? = some (.cells c1 t (0, 0)), fun _ _ _ h hw => hw.f1 h⟩
def pFin2 : Post (Wr b1 b2 c1 c2 t) := ⟨fun _ w => w.heap[b2]? = some (.cells c2 t (0, 0)), fun _ _ _ h hw => hw.f2 h⟩
/-- What lies below both boxes is as it was. -/
theorem Wr.below {w w0 w' : World} (h0 : Below w.heap.size w w0) (h : Wr b1 b2 c1 c2 t w0 w') (n1 : w.heap.size ≤ b1) (n2 : w.heap.size ≤ b2) : Below w.heap.size w w' :=
  ⟨h.os.trans h0.os, h.tape.trans h0.tape, h.output.trans h0.output, Nat.le_trans h0.size h.size, fun i hi => (h.keep i (Nat.lt_of_lt_of_le hi h0.size) (by omega) (by omega)).trans (h0.block i hi)⟩
end
abbrev WrS (b1 b2 : Nat) (r s : List UInt8) : World → World → Prop := Wr b1 b2 (r.map V8).toArray (s.map V8).toArray 34

set_option maxRecDepth 100000 in
set_option maxHeartbeats 1000000 in
theorem extin_whole (m u : Nat) (ob pb g : Nat) (old : List UInt8) (a : Option Addr) (np c : Nat) (p : List (List UInt8)) (w : World) (E : ExtEnv w ob pb g old a np c p) (hu : u ≤ np) :
    Calls Tryz.prog 48 #[.int .i64 m, .int .i64 m, .int .i64 u, .bool true, .pointer (some ⟨ob, 0, none⟩), .pointer (some ⟨pb, 0, none⟩), .pointer (some ⟨g, 0, none⟩)] w (RetBoth (Tree.both old m m true (p.take u)) w) := by
  have E' := Lib.hid E
  have Hl := Lib.hid E.len
  obtain ⟨t, fr, hlf⟩ := E.oldAt
  have HLF := Lib.hid hlf
  clear E hlf
  go_enter Tryz.func48, Tryz.ntmps48
  go_wp2_with fail
  have hb := blk2 w (.cells (zeros8 32) 34) (.cells (zeros8 32) 34)
  have HBk := Lib.hid hb
  have hne : w.heap.size ≠ w.heap.size + 1 := by omega
  clear hb
  refine wp_region_rel2 6 (WrS w.heap.size (w.heap.size + 1) old old) (by kernel_rfl) (by kernel_rfl) Wr.refl Wr.trans [.is (sumV old), .is (sumV old), .is (.int .i64 u), .is (.bool ((u : Int) == 0)), pFin1, pFin2] rfl ?_
  have hold : ∀ wr, WrS w.heap.size (w.heap.size + 1) old old ((w.alloc (.cells (zeros8 32) 34)).alloc (.cells (zeros8 32) 34)).drew wr → wr.heap[ob]? = some (.cells (old.map V8).toArray t fr) := fun wr hR =>
    (hR.keep ob (by have := in_heap HLF.out; show ob < ((w.alloc _).alloc _).heap.size; simp; omega) (Nat.ne_of_lt (in_heap HLF.out)) (by have := in_heap HLF.out; omega)).trans (at_old _ (at_old _ HLF.out))
  have Hold := Lib.hid hold
  clear hold
  refine RelHead2.cons ?_ ?_
  · intro wr hR h
    unfold relOp
    refine wpList_load_sum rfl 34 _ rfl ob (by kernel_rfl) t old 32 fr _ (Hold.out wr hR) Tryz.underlying34 (by kernel_rfl) Hl.out ?_
    go_wp2
    exact ⟨Wr.refl _, rfl⟩
  intro v26
  refine RelHead2.cons ?_ ?_
  · intro wr hR h
    unfold relOp
    refine wpList_load_sum rfl 34 _ rfl ob (by kernel_rfl) t old 32 fr _ (Hold.out wr hR) Tryz.underlying34 (by kernel_rfl) Hl.out ?_
    go_wp2
    exact ⟨Wr.refl _, rfl⟩
  intro v27
  refine RelHead2.cons ?_ ?_
  · intro wr hR h
    unfold relOp
    go_wp2
    exact ⟨Wr.refl _, rfl⟩
  intro v28
  refine RelHead2.cons ?_ ?_
  · intro wr hR h
    have e28 : v28 = (.int .i64 u : Value) := allOf_iff.1 h 2 (by decide)
    subst e28
    unfold relOp
    clear h
    go_wp2
    exact ⟨Wr.refl _, rfl⟩
  intro v29
  refine RelHead2.cons ?_ ?_
  · intro wr hR h
    have e26 : v26 = sumV old := allOf_iff.1 h 0 (by decide)
    subst e26
    obtain ⟨cs, hcs, hs⟩ := hR.k1 ⟨_, HBk.out.1, rfl⟩
    unfold relOp
    refine wpList_store_row' rfl 34 _ _ rfl w.heap.size (old.map V8).toArray (by kernel_rfl) (by kernel_rfl) _ _ hcs (size_sum old Hl.out) (by simp [hs, Hl.out]) (oneCells old) ?_
    intro w' h1 g1 s1
    go_wp2
    exact ⟨Wr.one hne g1 h1 (by simp [Hl.out]), undef, h1⟩
  intro v30
  refine RelHead2.cons ?_ ?_
  · intro wr hR h
    have e27 : v27 = sumV old := allOf_iff.1 h 1 (by decide)
    subst e27
    obtain ⟨cs, hcs, hs⟩ := hR.k2 ⟨_, HBk.out.2, rfl⟩
    unfold relOp
    refine wpList_store_row' rfl 34 _ _ rfl (w.heap.size + 1) (old.map V8).toArray (by kernel_rfl) (by kernel_rfl) _ _ hcs (size_sum old Hl.out) (by simp [hs, Hl.out]) (oneCells old) ?_
    intro w' h1 g1 s1
    go_wp2
    exact ⟨Wr.two hne g1 h1 (by simp [Hl.out]), undef, h1⟩
  intro v31
  refine RelHead2.nil fun wr hR h => ?_
  have e29 : v29 = (.bool ((u : Int) == 0) : Value) := allOf_iff.1 h 3 (by decide)
  have e30 : wr.heap[w.heap.size]? = some (.cells (old.map V8).toArray 34 (0, 0)) := allOf_iff.1 h 4 (by decide)
  have e31 : wr.heap[w.heap.size + 1]? = some (.cells (old.map V8).toArray 34 (0, 0)) := allOf_iff.1 h 5 (by decide)
  subst e29
  have hBl : Below w.heap.size w wr := Wr.below (low2 w (.cells (zeros8 32) 34) (.cells (zeros8 32) 34)).drew hR (Nat.le_refl _) (by omega)
  clear h hR
  go_wp2
  refine bodyPost_ret (results_sum2_tmp rfl _ _ w.heap.size (w.heap.size + 1) _ _ old old 32 (0, 0) (0, 0) _ rfl rfl e30 e31 Tryz.underlying34 (by kernel_rfl) Hl.out Hl.out) rfl ⟨old, old, _, rfl, Hl.out, Hl.out, ?_, hBl⟩
  rw [Tree.both_whole]
  have hp := E'.out.sums.len
  by_cases h : u = 0
  · subst h; simp
  · have h2 : p.take u ≠ [] := by simp; exact ⟨h, fun e => by rw [e] at hp; simp at hp; omega⟩
    rw [if_neg h2]
    have : ((u : Int) == 0) = false := by simp; exact h
    simp [this]
end Go.Proofs.YtpdhgijeanbmcaaGreatDoor

/- Ext2 -/
namespace Go.Proofs.YtpdhgijeanbmcaaGreatDoor
set_option maxRecDepth 100000
open Go.RowKit Go.Great

theorem at_4 {w3 w4 : World} {o o' : Obj} {x : Obj} (_h : w4.heap[w3.heap.size]? = some x) (hg : ((w3.alloc o).alloc o').grownBy w4 (some w3.heap.size)) : w4.heap[w3.heap.size + 1]? = some o' :=
  (hg.block _ (by simp) (fun e => by have := Option.some.inj e; omega)).trans (blk2 _ _ _).2
theorem Wr.at_ {b1 b2 b : Nat} {c1 c2 : Array Value} {t : TypeId} {w w' : World} {o : Obj} (h : Wr b1 b2 c1 c2 t w w') (hb : w.heap[b]? = some o) (n1 : b ≠ b1) (n2 : b ≠ b2) : w'.heap[b]? = some o := (h.keep b (in_heap hb) n1 n2).trans hb

set_option maxRecDepth 100000 in
set_option maxHeartbeats 2000000 in
theorem extin_left (m n u ob pb g : Nat) (whole : Bool) (old : List UInt8) (a : Option Addr) (np c : Nat) (p : List (List UInt8)) (w : World) (hup : u < np) (hnp : np < 4611686018427387904) (hm : 0 < m) (hmn : m < n) (hn63 : n < 9223372036854775808) (hmk : m ≤ split n) (E : ExtEnv w ob pb g old a np c p)
    (ih : ∀ w', ExtEnv w' ob pb g old a np c p → Calls Tryz.prog 48 #[.int .i64 m, .int .i64 (split n), .int .i64 u, .bool whole, .pointer (some ⟨ob, 0, none⟩), .pointer (some ⟨pb, 0, none⟩), .pointer (some ⟨g, 0, none⟩)] w' (RetBoth (Tree.both old m (split n) whole (p.take u)) w')) :
    Calls Tryz.prog 48 #[.int .i64 m, .int .i64 n, .int .i64 (u + 1 : Nat), .bool whole, .pointer (some ⟨ob, 0, none⟩), .pointer (some ⟨pb, 0, none⟩), .pointer (some ⟨g, 0, none⟩)] w (RetBoth (Tree.both old m n whole (p.take (u + 1))) w) := by
  have E' := Lib.hid E
  have hup' : u < p.length := by have := E.sums.len; omega
  have hkp := split_pos n
  have hkl := split_lt (show 1 < n by omega)
  have Hb := Lib.hid (Tree.both_left old m n whole p u hup' hmn hm hmk)
  have Hhalf := half_any n (by omega)
  obtain ⟨b, o, ha, hget⟩ := E.sums.get
  obtain rfl := ha (by omega)
  have hx := hget u hup'
  have hxl := E.sums.each p[u] (by simp)
  obtain ⟨x, hxe⟩ : ∃ x, x = p[u] := ⟨_, rfl⟩
  rw [← hxe] at hx hxl Hb
  have Ih := Lib.hid ih
  clear ih
  generalize split n = k at *
  have HX := Lib.hid hx
  have HXL := Lib.hid hxl
  have hcap := E.sums.cap
  have e1 : ((u + 1 : Nat) : Int) - 1 = (u : Int) := by omega
  have hn1 : ((m : Int) == (n : Int)) = false := by simp; omega
  have hn2 : ¬ (m : Int) = (n : Int) := by omega
  have hunp : (u : Int) < (np : Int) := by omega
  have hmk2 : (m : Int) ≤ (k : Int) := by omega
  clear hx hxl hget ha E hxe hup'
  go_enter Tryz.func48, Tryz.ntmps48
  go_wp2_with fail
  have HBk := Lib.hid (blk2 w (.cells (zeros8 32) 34) (.cells (zeros8 32) 34))
  have HLk := Lib.hid (low2 w (.cells (zeros8 32) 34) (.cells (zeros8 32) 34)).drew
  refine wp_region_rel2 9 Low (by kernel_rfl) (by kernel_rfl) Low.refl Low.trans [.is (.int .i64 n), .is (.int .i64 k), .is (.slice (some ⟨b, o, none⟩) np c), .is (.int .i64 (u + 1 : Nat)), .is (.int .i64 u), .is (.pointer (some ⟨b, o + u * 32, none⟩)), pSum x, pBox (w.heap.size + 1 + 1) (zeros8 32) 34, .is (.int .i64 k)] rfl ?_
  refine RelHead2.cons ?_ ?_
  · intro wr hR h
    unfold relOp
    go_wp2
    exact ⟨Low.refl _, rfl⟩
  intro v44
  refine RelHead2.cons ?_ ?_
  · intro wr hR h
    have ev44 : v44 = (.int .i64 n : Value) := allOf_iff.1 h 0 (by decide)
    subst ev44
    unfold relOp
    go_wp2_with (go_at_call 28; refine (Hhalf _).mono ?_; rintro e w2 ⟨rfl, rfl⟩)
    exact ⟨Low.refl _, rfl⟩
  intro v45
  refine RelHead2.cons ?_ ?_
  · intro wr hR h
    have hc := (E'.out.low (bthen HLk.out hR)).pathAt
    unfold relOp
    go_wp2
    exact ⟨Low.refl _, rfl⟩
  intro v46
  refine RelHead2.cons ?_ ?_
  · intro wr hR h
    unfold relOp
    go_wp2
    exact ⟨Low.refl _, rfl⟩
  intro v47
  refine RelHead2.cons ?_ ?_
  · intro wr hR h
    have ev47 : v47 = (.int .i64 (u + 1 : Nat) : Value) := allOf_iff.1 h 3 (by decide)
    subst ev47
    unfold relOp
    go_wp2
    exact ⟨Low.refl _, rfl⟩
  intro v48
  refine RelHead2.cons ?_ ?_
  · intro wr hR h
    have ev46 : v46 = (.slice (some ⟨b, o, none⟩) np c : Value) := allOf_iff.1 h 2 (by decide)
    subst ev46
    have ev48 : v48 = (.int .i64 u : Value) := allOf_iff.1 h 4 (by decide)
    subst ev48
    unfold relOp
    go_wp2
    exact ⟨Low.refl _, rfl⟩
  intro v49
  refine RelHead2.cons ?_ ?_
  · intro wr hR h
    have ev49 : v49 = (.pointer (some ⟨b, o + u * 32, none⟩) : Value) := allOf_iff.1 h 5 (by decide)
    subst ev49
    unfold relOp
    refine wpList_load_mid_sum rfl 34 _ rfl b (o + u * 32) (by kernel_rfl) x 32 _ (range_low HX.out (bthen HLk.out hR)) Tryz.underlying34 (by kernel_rfl) HXL.out ?_
    go_wp2
    exact ⟨Low.refl _, rfl⟩
  intro v50
  refine RelHead2.cons ?_ ?_
  · intro wr hR h
    unfold relOp
    go_wp2
    exact ⟨low1 _ _, _, rfl, by have := hR.size; simp at this; exact this, blk1 _ _⟩
  intro v15
  refine RelHead2.cons ?_ ?_
  · intro wr hR h
    have ev45 : v45 = (.int .i64 k : Value) := allOf_iff.1 h 1 (by decide)
    subst ev45
    unfold relOp
    go_wp2
    exact ⟨Low.refl _, rfl⟩
  intro v14
  refine RelHead2.nil fun w1 hR h => ?_
  have e50 : v50 = sumV x := allOf_iff.1 h 6 (by decide)
  have e14 : v14 = (.int .i64 k : Value) := allOf_iff.1 h 8 (by decide)
  have e15 : ∃ b, v15 = .pointer (some ⟨b, 0, none⟩) ∧ w.heap.size + 1 + 1 ≤ b ∧ w1.heap[b]? = some (.cells (zeros8 32) 34 (0, 0)) := allOf_iff.1 h 7 (by decide)
  subst e50 e14
  obtain ⟨b15, rfl, hb15, hbx⟩ := e15
  have hL : Low w w1 := bthen HLk.out hR
  have hz1 := bblk hR (show ((w.alloc _).alloc _).drew.heap[w.heap.size]? = _ from HBk.out.1)
  have hz2 := bblk hR (show ((w.alloc _).alloc _).drew.heap[w.heap.size + 1]? = _ from HBk.out.2)
  clear h
  refine wpList_store_row' rfl 34 _ _ rfl b15 (x.map V8).toArray (by kernel_rfl) (by kernel_rfl) _ _ hbx (size_sum x HXL.out) (by simp [HXL.out, zeros8]) (oneCells x) ?_
  intro w2 hx2 hg2 hs2
  have hL2 : Below w.heap.size w w2 := hL.grown hg2 hL.size (fun k' hk' => by obtain rfl := Option.some.inj hk'; omega)
  have hy1 : w2.heap[w.heap.size]? = some (.cells (zeros8 32) 34 (0, 0)) := (hg2.block _ (in_heap hz1) (fun e => by have := Option.some.inj e; omega)).trans hz1
  have hy2 : w2.heap[w.heap.size + 1]? = some (.cells (zeros8 32) 34 (0, 0)) := (hg2.block _ (in_heap hz2) (fun e => by have := Option.some.inj e; omega)).trans hz2
  have E2 := E'.out.low hL2
  have HE2 := Lib.hid E2
  have HL2 := Lib.hid hL2
  have HY1 := Lib.hid hy1
  have HY2 := Lib.hid hy2
  have HX2 := Lib.hid hx2
  have hc := E2.fn
  unfold extFn at hc
  have H15 := Lib.hid hb15
  clear hR hL hz1 hz2 hbx hg2 hs2 hL2 hy1 hy2 hx2 E2 Hhalf HLk HBk hb15
  have hcall := Lib.hid (Ih.out w2 HE2.out)
  clear Ih
  go_wp2_with (first | (go_at_call 48; refine hcall.out.mono ?_; rintro e w3 ⟨r, s, bb, rfl, hrl, hsl, hmd, hB⟩; have HRL := Lib.hid hrl; have HSL := Lib.hid hsl; have HMD := Lib.hid hmd; have HB3 := Lib.hid hB; clear hrl hsl hmd hB) | (refine wpList_store_row' rfl 34 _ _ rfl (w3.heap.size + 1) (s.map V8).toArray rfl rfl _ _ (at_4 H4.out G4.out) (size_sum s HSL.out) (by simp [HSL.out]) (oneCells s) ?_; intro w5 h5 g5 s5; have H5 := Lib.hid h5; have G5 := Lib.hid g5; clear h5 g5 s5) | (refine wpList_store_row' rfl 34 _ _ rfl w3.heap.size (r.map V8).toArray rfl rfl _ _ (blk2 _ _ _).1 (size_sum r HRL.out) (by simp [HRL.out]) (oneCells r) ?_; intro w4 h4 g4 s4; have H4 := Lib.hid h4; have G4 := Lib.hid g4; clear h4 g4 s4))
  have i3 := HB3.out.size
  have i2 := HL2.out.size
  have q1 := in_heap HY2.out
  have q2 := in_heap HX2.out
  have i4 := G4.out.size
  rw [size_alloc, size_alloc] at i4
  have hl3 : Below w.heap.size w w3 := bthen HL2.out HB3.out
  have hl5 : Below w.heap.size w w5 := (((hl3.alloc hl3.size _).alloc (by rw [size_alloc]; omega) _).grown G4.out (by rw [size_alloc, size_alloc]; omega) (fun k hk => by obtain rfl := Option.some.inj hk; omega)).grown G5.out (by omega) (fun k hk => by obtain rfl := Option.some.inj hk; omega)
  have k5 : ∀ b' o', b' < w3.heap.size → w3.heap[b']? = some o' → w5.heap[b']? = some o' := fun b' o' hlt hx => (G5.out.block _ (by omega) (fun e => by have := Option.some.inj e; omega)).trans ((G4.out.block _ (by rw [size_alloc, size_alloc]; omega) (fun e => by have := Option.some.inj e; omega)).trans (at_old _ (at_old _ hx)))
  have h16 : w5.heap[w3.heap.size]? = some (.cells (r.map V8).toArray 34 (0, 0)) := (G5.out.block _ (by omega) (fun e => by have := Option.some.inj e; omega)).trans H4.out
  have HZ1 := Lib.hid (k5 _ _ (by omega) (bblk HB3.out HY1.out))
  have HZ2 := Lib.hid (k5 _ _ (by omega) (bblk HB3.out HY2.out))
  have HZ15 := Lib.hid (k5 _ _ (by omega) (bblk HB3.out HX2.out))
  have HZ16 := Lib.hid h16
  have HZ17 := Lib.hid H5.out
  have HL5 := Lib.hid hl5
  have hb15 := H15.out
  have n1 : b15 ≠ w.heap.size := by omega
  have n2 : b15 ≠ w.heap.size + 1 := by omega
  have n3 : w3.heap.size ≠ w.heap.size := by omega
  have n4 : w3.heap.size ≠ w.heap.size + 1 := by omega
  have n5 : w3.heap.size + 1 ≠ w.heap.size := by omega
  have n6 : w3.heap.size + 1 ≠ w.heap.size + 1 := by omega
  have hne : w.heap.size ≠ w.heap.size + 1 := by omega
  obtain ⟨g16, hg16⟩ : ∃ g, g = w3.heap.size := ⟨_, rfl⟩
  rw [← hg16] at n3 n4 n5 n6 HZ16 HZ17 ⊢
  obtain ⟨nd, hnd, hndl⟩ : ∃ nd, nd = Tree.node s x ∧ nd.length = 32 := ⟨_, rfl, rfl⟩
  have HND := Lib.hid hnd
  have HNDL := Lib.hid hndl
  have hnode := Lib.hid fun W hT => node_any s x W hT HSL.out HXL.out
  clear hl3 hl5 k5 h16 i2 i3 i4 q1 q2 hnd hndl H4 H5 G4 G5 HY1 HY2 HX2 hb15 H15 hg16 hc hcall
  refine wp_region_rel2 7 (WrS w.heap.size (w.heap.size + 1) r nd) (by kernel_rfl) (by kernel_rfl) Wr.refl Wr.trans [.is (sumV r), .is (sumV s), .is (sumV x), .is (sumV nd), .is (.bool bb), pFin1, pFin2] rfl ?_
  refine RelHead2.cons ?_ ?_
  · intro wr hR h
    unfold relOp
    refine wpList_load_sum rfl 34 _ rfl g16 (by kernel_rfl) _ r 32 _ _ (hR.at_ (show w5.drew.heap[_]? = _ from HZ16.out) n3 n4) Tryz.underlying34 (by kernel_rfl) HRL.out ?_
    go_wp2
    exact ⟨Wr.refl _, rfl⟩
  intro v65
  refine RelHead2.cons ?_ ?_
  · intro wr hR h
    unfold relOp
    refine wpList_load_sum rfl 34 _ rfl (g16 + 1) (by kernel_rfl) _ s 32 _ _ (hR.at_ (show w5.drew.heap[_]? = _ from HZ17.out) n5 n6) Tryz.underlying34 (by kernel_rfl) HSL.out ?_
    go_wp2
    exact ⟨Wr.refl _, rfl⟩
  intro v66
  refine RelHead2.cons ?_ ?_
  · intro wr hR h
    unfold relOp
    refine wpList_load_sum rfl 34 _ rfl b15 (by kernel_rfl) _ x 32 _ _ (hR.at_ (show w5.drew.heap[_]? = _ from HZ15.out) n1 n2) Tryz.underlying34 (by kernel_rfl) HXL.out ?_
    go_wp2
    exact ⟨Wr.refl _, rfl⟩
  intro v67
  refine RelHead2.cons ?_ ?_
  · intro wr hR h
    have ev66 : v66 = (sumV s : Value) := allOf_iff.1 h 1 (by decide)
    subst ev66
    have ev67 : v67 = (sumV x : Value) := allOf_iff.1 h 2 (by decide)
    subst ev67
    have hTr := E'.out.tabs.below (Wr.below HL5.out.drew hR (Nat.le_refl _) (by omega))
    unfold relOp
    go_wp2_with (go_at_call 41; refine (hnode.out wr hTr).mono ?_; rintro e w6 ⟨rfl, hB6⟩)
    exact ⟨Wr.of_low hB6, congrArg sumV HND.out.symm⟩
  intro v68
  refine RelHead2.cons ?_ ?_
  · intro wr hR h
    unfold relOp
    go_wp2
    exact ⟨Wr.refl _, rfl⟩
  intro v69
  refine RelHead2.cons ?_ ?_
  · intro wr hR h
    have ev65 : v65 = (sumV r : Value) := allOf_iff.1 h 0 (by decide)
    subst ev65
    obtain ⟨cs, hcs, hs⟩ := hR.k1 ⟨_, HZ1.out, rfl⟩
    unfold relOp
    refine wpList_store_row' rfl 34 _ _ rfl w.heap.size (r.map V8).toArray (by kernel_rfl) (by kernel_rfl) _ _ hcs (size_sum r HRL.out) (by simp [hs, HRL.out]) (oneCells r) ?_
    intro w' h1 g1 s1
    go_wp2
    exact ⟨Wr.one hne g1 h1 (by simp [HRL.out]), undef, h1⟩
  intro v70
  refine RelHead2.cons ?_ ?_
  · intro wr hR h
    have ev68 : v68 = (sumV nd : Value) := allOf_iff.1 h 3 (by decide)
    subst ev68
    obtain ⟨cs, hcs, hs⟩ := hR.k2 ⟨_, HZ2.out, rfl⟩
    unfold relOp
    refine wpList_store_row' rfl 34 _ _ rfl (w.heap.size + 1) (nd.map V8).toArray (by kernel_rfl) (by kernel_rfl) _ _ hcs (size_sum nd HNDL.out) (by simp [hs, HNDL.out]) (oneCells nd) ?_
    intro w' h1 g1 s1
    go_wp2
    exact ⟨Wr.two hne g1 h1 (by simp [HNDL.out]), undef, h1⟩
  intro v71
  refine RelHead2.nil fun wr hR h => ?_
  have e69 : v69 = (.bool bb : Value) := allOf_iff.1 h 4 (by decide)
  have e70 : wr.heap[w.heap.size]? = some (.cells (r.map V8).toArray 34 (0, 0)) := allOf_iff.1 h 5 (by decide)
  have e71 : wr.heap[w.heap.size + 1]? = some (.cells (nd.map V8).toArray 34 (0, 0)) := allOf_iff.1 h 6 (by decide)
  subst e69
  have hBl : Below w.heap.size w wr := Wr.below HL5.out.drew hR (Nat.le_refl _) (by omega)
  clear h hR
  go_wp2
  refine bodyPost_ret (results_sum2_tmp rfl _ _ w.heap.size (w.heap.size + 1) _ _ r nd 32 (0, 0) (0, 0) _ rfl rfl e70 e71 Tryz.underlying34 (by kernel_rfl) HRL.out HNDL.out) rfl ⟨r, nd, bb, rfl, HRL.out, HNDL.out, ?_, hBl⟩
  rw [Hb.out, HMD.out, HND.out]
  cases bb <;> rfl
end Go.Proofs.YtpdhgijeanbmcaaGreatDoor
