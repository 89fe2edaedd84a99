/- frame.putWord. -/
import Derived.Deep.RegionLaw
import Derived.Shelf.SlMaps.Clone
import Derived.Test.YtgpenpnobjecgaaGreatDoorJWalSafeCard3
import Derived.Test.YtgpenpnobjecgaaGreatDoorJWalSafeCard5
import Derived.Test.YtgpenpnobjecgaaGreatDoorJWalSafeCard6
/- OwnR -/
namespace Go.Proofs.YtgpenpnobjecgaaGreatDoor
set_option maxRecDepth 100000
open Go.RowKit

theorem CellsAt.of_block {w : World} {b : Nat} {l : List Value} {t : TypeId} {fr : Nat × Nat} (h : w.heap[b]? = some (.cells l.toArray t fr)) : CellsAt w (some ⟨b, 0, none⟩) l :=
  ⟨fun _ => ⟨b, 0, rfl, fun j v hj => cell_block h (by rw [Nat.zero_add]; simpa using hj)⟩⟩
/-- A slice of n elements of type e, size cells each: the cells are xs; blk: the block that it owns. -/
def OwnR (w : World) (e : TypeId) (size : Nat) (A : Option Addr) (n C : Nat) (xs : List Value) (blk : Option Nat) : Prop :=
  (A.map (·.block) = blk ∧ w.ownsRow 0 e size (.slice A n C) n xs) ∨ (blk = none ∧ n = 0 ∧ C = 0 ∧ xs = [] ∧ ∃ b o, A = some ⟨b, o, none⟩ ∧ b < w.heap.size)

section
variable {e size : Nat} {w w' : World} {A : Option Addr} {C n : Nat} {xs : List Value} {blk : Option Nat}
theorem ownBlock_slice (A : Option Addr) (n C : Nat) : Value.ownBlock (.slice A n C) = A.map (·.block) := by cases A <;> rfl
theorem OwnR.nil (w : World) (e size : Nat) : OwnR w e size none 0 0 [] none := .inl ⟨rfl, World.ownsRow_nil w 0 e size⟩
theorem OwnR.form (h : OwnR w e size A n C xs blk) : (blk = none ∧ n = 0 ∧ C = 0 ∧ xs = [] ∧ (A = none ∨ ∃ b o, A = some ⟨b, o, none⟩ ∧ b < w.heap.size)) ∨ ∃ g cur, A = some ⟨g, 0, none⟩ ∧ blk = some g ∧ w.heap[g]? = some (.cells cur e (0, 0)) ∧ n ≤ C ∧ C ≤ maxLen ∧ cur.size = C * size ∧ cur.toList.take (n * size) = xs := by
  rcases h with ⟨hb, h⟩ | ⟨h1, h2, h3, h4, h5⟩
  · have hl := h.1
    rcases h.2 with ⟨hv, h0⟩ | ⟨g, cap, cur, hv, _, hh, h1, h2, h3, h4⟩
    · injection hv with h1 _ h3
      subst h1 h0 h3
      exact .inl ⟨hb.symm, rfl, rfl, List.eq_nil_of_length_eq_zero (by simpa using hl), .inl rfl⟩
    · injection hv with h5 _ h7
      subst h7 h5
      exact .inr ⟨g, cur, rfl, hb.symm, hh, h1, h2, h3, h4⟩
  · exact .inl ⟨h1, h2, h3, h4, .inr h5⟩
theorem OwnR.of_row {g : Nat} {cur : Array Value} (hg : w.heap[g]? = some (.cells cur e (0, 0))) (h1 : n ≤ C) (h2 : C ≤ maxLen) (h3 : cur.size = C * size) (h4 : cur.toList.take (n * size) = xs) : OwnR w e size (some ⟨g, 0, none⟩) n C xs (some g) :=
  .inl ⟨rfl, by rw [← h4, List.length_take, Array.length_toList, h3]; exact Nat.min_eq_left (Nat.mul_le_mul_right _ h1), .inr ⟨g, C, cur, rfl, Nat.zero_le _, hg, h1, h2, h3, h4⟩⟩
theorem OwnR.length (h : OwnR w e size A n C xs blk) : xs.length = n * size := by
  rcases h with ⟨_, h⟩ | ⟨_, rfl, _, rfl, _⟩
  · exact h.1
  · simp
theorem OwnR.cap (h : OwnR w e size A n C xs blk) : n ≤ C ∧ C ≤ maxLen := by
  rcases h.form with ⟨_, h0, h1, _⟩ | ⟨_, _, _, _, _, h1, h2, _⟩
  · subst h0 h1; exact ⟨Nat.le_refl _, Nat.zero_le _⟩
  · exact ⟨h1, h2⟩
theorem OwnR.lt (h : OwnR w e size A n C xs blk) : ∀ b, blk = some b → b < w.heap.size := by
  intro b hb
  rcases h.form with ⟨h0, _⟩ | ⟨g, _, _, h0, hg, _⟩
  · rw [h0] at hb; cases hb
  · rw [h0] at hb
    obtain rfl := Option.some.inj hb
    exact in_heap hg
theorem OwnR.nilcap (h : OwnR w e size A n C xs blk) (hA : A = none) : C = 0 := by
  rcases h.form with ⟨_, _, h0, _⟩ | ⟨g, _, hg, _⟩
  · exact h0
  · rw [hA] at hg; cases hg
theorem OwnR.plain (h : OwnR w e size A n C xs blk) : ∀ ad, A = some ad → ∃ b o, ad = ⟨b, o, none⟩ ∧ b < w.heap.size := by
  intro ad had
  rcases h.form with ⟨_, _, _, _, hn | ⟨b, o, hb, hlt⟩⟩ | ⟨g, _, hg, _, hh, _⟩
  · rw [hn] at had; cases had
  · rw [hb] at had; exact ⟨b, o, (Option.some.inj had).symm, hlt⟩
  · rw [hg] at had; exact ⟨g, 0, (Option.some.inj had).symm, in_heap hh⟩
theorem OwnR.at_ (h : OwnR w e size A n C xs blk) : CellsAt w A xs :=
  ⟨fun h0 => by
    rcases h.form with ⟨_, _, _, hx, _⟩ | ⟨g, cur, hg, _, hh, h1, h2, h3, h4⟩
    · rw [hx] at h0; cases h0
    · refine ⟨g, 0, hg, fun j v hj => ?_⟩
      rw [cell_of_row _ _ _ _ _ _ hh, Nat.zero_add]
      rw [← h4, List.getElem?_take] at hj
      split at hj
      · simpa using hj
      · cases hj⟩
/-- Cell j of it. -/
theorem OwnR.cell (h : OwnR w e size A n C xs blk) {j : Nat} {v : Value} (hj : xs[j]? = some v) : ∃ g, A = some ⟨g, 0, none⟩ ∧ blk = some g ∧ w.cell? ⟨g, j, none⟩ = some v := by
  rcases h.form with ⟨_, _, _, hx, _⟩ | ⟨g, cur, hg, hb, hh, h1, h2, h3, h4⟩
  · rw [hx] at hj; cases hj
  · refine ⟨g, hg, hb, ?_⟩
    rw [cell_of_row _ _ _ _ _ _ hh]
    rw [← h4, List.getElem?_take] at hj
    split at hj
    · simpa using hj
    · cases hj
theorem OwnR.kept {F : Nat → Prop} (h : OwnR w e size A n C xs blk) (hk : Kept F w w') (hF : ∀ b, blk = some b → ¬ F b) : OwnR w' e size A n C xs blk := by
  rcases h with ⟨hb, h⟩ | ⟨h1, h2, h3, h4, b, o, h5, h6⟩
  · exact .inl ⟨hb, hk.owns h fun b h1 => hF b (by rw [← hb, ← ownBlock_slice A n C]; exact h1)⟩
  · exact .inr ⟨h1, h2, h3, h4, b, o, h5, Nat.lt_of_lt_of_le h6 hk.size⟩
theorem OwnR.below (h : OwnR w e size A n C xs blk) (hk : Below w.heap.size w w') : OwnR w' e size A n C xs blk := h.kept (Kept.of_below (F := fun _ => False) hk) fun _ _ => id
end

section
variable {P : Program} {e size bytes : Nat} {w : World} {A : Option Addr} {C n : Nat} {xs : List Value} {blk : Option Nat}
/-- 'append(s, x...)'. -/
theorem run_app0 (t ty : TypeId) (z : Value) (ht : P.underlying t = some (.slice e)) (hinfo : (P.info? e).map (fun i => (i.zero, i.size, i.bytes)) = some (some z, size, bytes)) (hzs : z.cells.size = size) (hsz : 0 < size)
    (H : OwnR w e size A n C xs blk) (A' : Option Addr) (m c : Nat) (news : List Value) (hl : news.length = m * size) (hsrc : CellsAt w A' news) (hnil : A' = none → c = 0) (h1 : ∀ u ∈ news, u.oneCell' = true)
    (h63 : n + m ≤ maxLen) (hbytes : (n + m) * bytes ≤ 140737488355328) :
    ∃ B D w' blk', (Builtin.append_ #[t, t] ty #[.slice A n C, .slice A' m c]).run P w = .ok (.slice B (n + m) D) w' ∧ OwnR w' e size B (n + m) D (xs ++ news) blk' ∧ w.grownBy w' blk ∧ (blk' = blk ∨ blk' = some w.heap.size) := by
  obtain ⟨i, hi, hz, hsize, hby⟩ := info_parts hinfo
  have hnews : ∀ ad, A' = some ad → ∀ j u, news[j]? = some u → w.cell? (ad.add j) = some u := fun ad had j u hu => by
    have hj : 0 < news.length := by have := (List.getElem?_eq_some_iff.1 hu).1; omega
    obtain ⟨b', o'', hb, hc⟩ := hsrc.at_ hj
    rw [had] at hb
    obtain rfl := Option.some.inj hb
    rw [Addr.add_lit]
    exact hc j u hu
  cases A' with
  | none =>
    obtain rfl := hnil rfl
    have hm : m = 0 := by
      rcases Nat.eq_zero_or_pos m with h0 | h0
      · exact h0
      · have : 0 < news.length := by rw [hl]; exact Nat.mul_pos h0 hsz
        obtain ⟨b, o', hb, _⟩ := hsrc.at_ this
        cases hb
    subst hm
    obtain rfl : news = [] := List.eq_nil_of_length_eq_zero (by simpa using hl)
    refine ⟨A, C, w, blk, ?_, by simpa using H, World.grownBy.refl _ _, .inl rfl⟩
    rcases H with ⟨hb, H⟩ | ⟨h1, rfl, rfl, rfl, b, o, rfl, h5⟩
    · exact run_append_owned_none (P := P) (w := w) 0 t ty e i size ht hi _ n xs H
    · simp [Builtin.append_, run_underlying ht, sizeOf, typeInfo, hi, Builtin.lenOf, Builtin.firstCells, storeCells]
  | some ad =>
    rcases H with ⟨hb, H⟩ | ⟨rfl, rfl, rfl, rfl, b, o, rfl, h5⟩
    · obtain ⟨v', w', hr, hown', hg, _, hblk⟩ := run_append_own_at (P := P) w 0 t ty e i z size bytes ht hi hz hsize hby hzs hsz _ n xs H ad m c news hl (hnews ad rfl) h1 h63 hbytes (Nat.zero_le _)
      rw [ownBlock_slice, hb] at hg hblk
      have key : ∃ B D, v' = .slice B (n + m) D := by
        rcases hown'.2 with ⟨rfl, h0⟩ | ⟨g, cap, cur, rfl, _⟩
        · exact ⟨none, 0, by rw [h0]⟩
        · exact ⟨_, cap, rfl⟩
      obtain ⟨B, D, rfl⟩ := key
      rw [ownBlock_slice] at hblk
      exact ⟨B, D, w', B.map (·.block), hr, .inl ⟨rfl, hown'⟩, hg, hblk⟩
    · by_cases hm : m = 0
      · subst hm
        obtain rfl : news = [] := List.eq_nil_of_length_eq_zero (by simpa using hl)
        refine ⟨some ⟨b, o, none⟩, 0, w, none, ?_, .inr ⟨rfl, rfl, rfl, rfl, b, o, rfl, h5⟩, World.grownBy.refl _ _, .inl rfl⟩
        simp [Builtin.append_, run_underlying ht, sizeOf, typeInfo, hi, Builtin.lenOf, Builtin.firstCells, storeCells, loadCells, loadCellsFrom]
      · subst hsize hby
        have hsmall : m ≤ 9223372036854775807 := by simp only [maxLen] at h63; omega
        have hr := run_append_grow (P := P) w t ty e i z ht hi hz ⟨b, o, none⟩ 0 0 [] (by simp) (fun j u hj => by cases hj) ad m c news hl (hnews ad rfl) (by omega) (by omega) (growslice_fits (by omega) hbytes)
        have hge := grownCap_ge w (0 + m) 0 e
        have hcm := grownCap_le_maxLen w (0 + m) 0 e h63
        simp only [Nat.zero_add] at hge hcm hr ⊢
        refine ⟨_, _, _, some w.heap.size, hr, .of_row (heap_alloc_new w.drew _) hge hcm ?_ ?_, ⟨rfl, rfl, rfl, by simp, fun k hk _ => Below.heap_alloc w.drew _ k hk⟩, .inr rfl⟩
        · simp only [Array.size_append, List.size_toArray, size_zeroCells, hzs, hl, List.length_nil, Nat.zero_add, ← Nat.add_mul]
          congr 1
          omega
        · simp only [Array.toList_append, List.nil_append]
          rw [← hl]
          simp

theorem run_app (t ty : TypeId) (z : Value) (ht : P.underlying t = some (.slice e)) (hinfo : (P.info? e).map (fun i => (i.zero, i.size, i.bytes)) = some (some z, size, bytes)) (hzs : z.cells.size = size) (hsz : 0 < size)
    (H : OwnR w e size A n C xs blk) (A' : Option Addr) (m c : Nat) (news : List Value) (hl : news.length = m * size) (hsrc : CellsAt w A' news) (hnil : A' = none → c = 0) (_hod : ∀ ad, A' = some ad → ∃ b o, ad = ⟨b, o, none⟩) (h1 : ∀ u ∈ news, u.oneCell' = true)
    (h63 : n + m ≤ maxLen) (hbytes : (n + m) * bytes ≤ 140737488355328) :
    ∃ B D w' blk', (Builtin.append_ #[t, t] ty #[.slice A n C, .slice A' m c]).run P w = .ok (.slice B (n + m) D) w' ∧ OwnR w' e size B (n + m) D (xs ++ news) blk' ∧ w.grownBy w' blk ∧ (blk' = blk ∨ blk' = some w.heap.size) :=
  run_app0 t ty z ht hinfo hzs hsz H A' m c news hl hsrc hnil h1 h63 hbytes

variable {ops : Array Oper} {rest : List Oper} {o : Oper} {a : Act} {Q : Exit → Act → World → Prop}
theorem wpList_app0 (hgd : o.guard = none) (s x : Operand) (t : TypeId) (ho : o.op = .call { callee := .builtin .append, args := #[s, x], argTypes := #[t, t] })
    (e size bytes : Nat) (z : Value) (ht : P.underlying t = some (.slice e)) (hinfo : (P.info? e).map (fun i => (i.zero, i.size, i.bytes)) = some (some z, size, bytes)) (hzs : z.cells.size = size) (hsz : 0 < size)
    (A : Option Addr) (n C : Nat) (xs : List Value) (blk : Option Nat) (hs : a.eval s = .slice A n C) (H : OwnR w e size A n C xs blk)
    (A' : Option Addr) (m c : Nat) (news : List Value) (hx : a.eval x = .slice A' m c) (hl : news.length = m * size) (hsrc : CellsAt w A' news) (hnil : A' = none → c = 0) (h1 : ∀ u ∈ news, u.oneCell' = true)
    (h63 : n + m ≤ maxLen) (hbytes : (n + m) * bytes ≤ 140737488355328)
    (h : ∀ B D w' blk', OwnR w' e size B (n + m) D (xs ++ news) blk' → w.grownBy w' blk → (blk' = blk ∨ blk' = some w.heap.size) → wpList P ops Q rest (a.put o.dst (.slice B (n + m) D)) w') : wpList P ops Q (o :: rest) a w := by
  refine wpList_plain hgd fun K hK => ?_
  obtain ⟨B, D, w', blk', hr, h2, h3, h4⟩ := run_app0 (P := P) t o.type z ht hinfo hzs hsz H A' m c news hl hsrc hnil h1 h63 hbytes
  unfold Oper.wp execOp
  simp only [ho, resolve, invoke, builtin, Sem.run_bind, Sem.run_pure, Result.andThen_ok, List.map_toArray, List.map_cons, List.map_nil, hs, hx, hr]
  exact hK _ _ (h B D w' blk' h2 h3 h4)
theorem wpList_app (hgd : o.guard = none) (s x : Operand) (t : TypeId) (ho : o.op = .call { callee := .builtin .append, args := #[s, x], argTypes := #[t, t] })
    (e size bytes : Nat) (z : Value) (ht : P.underlying t = some (.slice e)) (hinfo : (P.info? e).map (fun i => (i.zero, i.size, i.bytes)) = some (some z, size, bytes)) (hzs : z.cells.size = size) (hsz : 0 < size)
    (A : Option Addr) (n C : Nat) (xs : List Value) (blk : Option Nat) (hs : a.eval s = .slice A n C) (H : OwnR w e size A n C xs blk)
    (A' : Option Addr) (m c : Nat) (news : List Value) (hx : a.eval x = .slice A' m c) (hl : news.length = m * size) (hsrc : CellsAt w A' news) (hnil : A' = none → c = 0) (hod : ∀ ad, A' = some ad → ∃ b o, ad = ⟨b, o, none⟩) (h1 : ∀ u ∈ news, u.oneCell' = true)
    (h63 : n + m ≤ maxLen) (hbytes : (n + m) * bytes ≤ 140737488355328)
    (h : ∀ B D w' blk', OwnR w' e size B (n + m) D (xs ++ news) blk' → w.grownBy w' blk → (blk' = blk ∨ blk' = some w.heap.size) → wpList P ops Q rest (a.put o.dst (.slice B (n + m) D)) w') : wpList P ops Q (o :: rest) a w := by
  refine wpList_plain hgd fun K hK => ?_
  obtain ⟨B, D, w', blk', hr, h2, h3, h4⟩ := run_app (P := P) t o.type z ht hinfo hzs hsz H A' m c news hl hsrc hnil hod h1 h63 hbytes
  unfold Oper.wp execOp
  simp only [ho, resolve, invoke, builtin, Sem.run_bind, Sem.run_pure, Result.andThen_ok, List.map_toArray, List.map_cons, List.map_nil, hs, hx, hr]
  exact hK _ _ (h B D w' blk' h2 h3 h4)
/-- The same as one step of a region that draws. -/
theorem step_app0 {K : Act → World → Prop} {E : Prop} (hgd : o.guard = none) (s x : Operand) (t : TypeId) (ho : o.op = .call { callee := .builtin .append, args := #[s, x], argTypes := #[t, t] })
    (e size bytes : Nat) (z : Value) (ht : P.underlying t = some (.slice e)) (hinfo : (P.info? e).map (fun i => (i.zero, i.size, i.bytes)) = some (some z, size, bytes)) (hzs : z.cells.size = size) (hsz : 0 < size)
    (A : Option Addr) (n C : Nat) (xs : List Value) (blk : Option Nat) (hs : a.eval s = .slice A n C) (H : OwnR w e size A n C xs blk)
    (A' : Option Addr) (m c : Nat) (news : List Value) (hx : a.eval x = .slice A' m c) (hl : news.length = m * size) (hsrc : CellsAt w A' news) (hnil : A' = none → c = 0) (h1 : ∀ u ∈ news, u.oneCell' = true)
    (h63 : n + m ≤ maxLen) (hbytes : (n + m) * bytes ≤ 140737488355328)
    (hK : ∀ B D w' blk', OwnR w' e size B (n + m) D (xs ++ news) blk' → w.grownBy w' blk → (blk' = blk ∨ blk' = some w.heap.size) → K (a.put o.dst (.slice B (n + m) D)) w') : if Region.wanted o (yielded ops a.tmps) = true then Oper.wp P o a w K Q else E := by
  have hw : Region.wanted o (yielded ops a.tmps) = true := by simp [Region.wanted, hgd]
  rw [if_pos hw]
  obtain ⟨B, D, w', blk', hr, h2, h3, h4⟩ := run_app0 (P := P) t o.type z ht hinfo hzs hsz H A' m c news hl hsrc hnil h1 h63 hbytes
  unfold Oper.wp execOp
  simp only [ho, resolve, invoke, builtin, Sem.run_bind, Sem.run_pure, Result.andThen_ok, List.map_toArray, List.map_cons, List.map_nil, hs, hx, hr]
  exact hK B D w' blk' h2 h3 h4
theorem step_app {K : Act → World → Prop} {E : Prop} (hgd : o.guard = none) (s x : Operand) (t : TypeId) (ho : o.op = .call { callee := .builtin .append, args := #[s, x], argTypes := #[t, t] })
    (e size bytes : Nat) (z : Value) (ht : P.underlying t = some (.slice e)) (hinfo : (P.info? e).map (fun i => (i.zero, i.size, i.bytes)) = some (some z, size, bytes)) (hzs : z.cells.size = size) (hsz : 0 < size)
    (A : Option Addr) (n C : Nat) (xs : List Value) (blk : Option Nat) (hs : a.eval s = .slice A n C) (H : OwnR w e size A n C xs blk)
    (A' : Option Addr) (m c : Nat) (news : List Value) (hx : a.eval x = .slice A' m c) (hl : news.length = m * size) (hsrc : CellsAt w A' news) (hnil : A' = none → c = 0) (hod : ∀ ad, A' = some ad → ∃ b o, ad = ⟨b, o, none⟩) (h1 : ∀ u ∈ news, u.oneCell' = true)
    (h63 : n + m ≤ maxLen) (hbytes : (n + m) * bytes ≤ 140737488355328)
    (hK : ∀ B D w' blk', OwnR w' e size B (n + m) D (xs ++ news) blk' → w.grownBy w' blk → (blk' = blk ∨ blk' = some w.heap.size) → K (a.put o.dst (.slice B (n + m) D)) w') : if Region.wanted o (yielded ops a.tmps) = true then Oper.wp P o a w K Q else E := by
  have hw : Region.wanted o (yielded ops a.tmps) = true := by simp [Region.wanted, hgd]
  rw [if_pos hw]
  obtain ⟨B, D, w', blk', hr, h2, h3, h4⟩ := run_app (P := P) t o.type z ht hinfo hzs hsz H A' m c news hl hsrc hnil hod h1 h63 hbytes
  unfold Oper.wp execOp
  simp only [ho, resolve, invoke, builtin, Sem.run_bind, Sem.run_pure, Result.andThen_ok, List.map_toArray, List.map_cons, List.map_nil, hs, hx, hr]
  exact hK B D w' blk' h2 h3 h4
end
end Go.Proofs.YtgpenpnobjecgaaGreatDoor

/- Clones -/
namespace Go.Proofs.YtgpenpnobjecgaaGreatDoor
set_option maxRecDepth 100000
open Go.RowKit Go.Maps Dk

theorem Txt.kept {F : Nat → Prop} {w w' : World} {a : Option Addr} {n c : Nat} {l : Bs} (h : Txt w a n c l) (hk : Kept F w w') (hF : ∀ ad, a = some ad → 0 < l.length → ¬ F ad.block) : Txt w' a n c l := ⟨h.len, h.src.kept hk hF⟩
theorem Txt.take {w : World} {a : Option Addr} {n c : Nat} {l : Bs} (h : Txt w a n c l) {k : Nat} (hk : k ≤ n) : Txt w a k c (l.take k) :=
  ⟨by have := h.len; rw [List.length_take]; omega, ⟨⟨fun h0 => by
    have hl := h.len
    obtain ⟨b, o, e, hc⟩ := h.src.at_.at_ (by rw [List.length_take] at h0; omega)
    refine ⟨b, o, e, fun j hj => ?_⟩
    have hj1 : j < min k l.length := by simpa using hj
    have hj2 : j < k := by omega
    rw [hc j (by omega)]
    simp [byteF, List.getD, hj2]⟩, by have := h.src.cap; rw [List.length_take]; omega, h.src.nil, h.src.plain⟩⟩
/-- New bytes. -/
def RetNew (w : World) (l : Bs) (e : Ending) (w' : World) : Prop := ∃ B C blk, e = .returned (.slice B l.length C) ∧ OwnR w' 5 1 B l.length C (l.map V8) blk ∧ (∀ b, blk = some b → w.heap.size ≤ b) ∧ Below w.heap.size w w' ∧ ∀ ad, B = some ad → w.heap.size ≤ ad.block
theorem OwnR.txt {w : World} {A : Option Addr} {C : Nat} {l : Bs} {blk : Option Nat} (h : OwnR w 5 1 A l.length C (l.map V8) blk) : Txt w A l.length C l :=
  ⟨rfl, ⟨h.at_.bytes, h.cap.1, h.nilcap, h.plain⟩⟩
theorem bone (l : Bs) : ∀ u ∈ l.map V8, u.oneCell' = true := ones' l
theorem info_u8r : (Tryz.prog.info? 5).map (fun i => (i.zero, i.size, i.bytes)) = some (some (.int .u8 0), 1, 1) := by kernel_rfl
set_option maxRecDepth 100000 in
theorem bclone_any (l : Bs) (a : Option Addr) (c : Nat) (w : World) (X : Txt w a l.length c l) (hlen : l.length ≤ 70368744177664) :
    Calls Tryz.prog 51 #[.slice a l.length c] w (RetNew w l) := by
  have z1 : 0 + l.length ≤ maxLen := by unfold maxLen; omega
  have z2 : (0 + l.length) * 1 ≤ 140737488355328 := by omega
  have HX := Lib.hid X
  cases a with
  | none =>
    have h0 := X.src.nil rfl
    have h1 := X.src.cap
    obtain rfl : l = [] := List.eq_nil_of_length_eq_zero (by omega)
    clear X h1 z1 z2 hlen
    subst h0
    have he : ∀ w : World, (binOp .eql 22 (.slice none 0 0) (.slice none 0 0)).run Tryz.prog w = .ok (.bool true) w := fun _ => rfl
    simp only [List.length_nil]
    go_enter Tryz.func51, Tryz.ntmps51
    go_wp2
    go_ret
    exact ⟨none, 0, none, rfl, OwnR.nil _ _ _, (fun b h => by cases h), Below.refl _ _, (fun ad h => by cases h)⟩
  | some ad =>
    have he : ∀ w : World, (binOp .eql 22 (.slice (some ad) l.length c) (.slice none 0 0)).run Tryz.prog w = .ok (.bool false) w := fun _ => rfl
    clear X hlen
    go_enter Tryz.func51, Tryz.ntmps51
    go_wp2_with (at_builtin; refine wpList_app rfl _ _ 22 rfl 5 1 1 _ Tryz.underlying22 info_u8r rfl (by decide) (some ⟨w.heap.size, 0, none⟩) 0 0 [] (some w.heap.size) rfl (OwnR.of_row (blk1 _ _) (Nat.le_refl _) (Nat.zero_le _) rfl rfl) (some ad) l.length c (l.map V8) rfl (by simp) (HX.out.src.below (low1 _ _)).at_.cells HX.out.src.nil HX.out.src.od (bone l) z1 z2 ?_; intro B D w1 blk' h1 h2 h3; simp only [Nat.zero_add, List.nil_append] at h1; have H1 := Lib.hid h1; have H2 := Lib.hid h2; have H3 := Lib.hid h3; clear h1 h2 h3)
    go_ret
    have hfr : ∀ b, blk' = some b → w.heap.size ≤ b := fun b hb => by
      rcases H3.out with h | h
      · rw [h] at hb; exact Nat.le_of_eq (Option.some.inj hb)
      · rw [h] at hb
        have := Option.some.inj hb
        simp at this
        omega
    refine ⟨B, D, blk', ?_, H1.out, hfr, (low1 _ _).grown H2.out (by simp) fun k hk => Nat.le_of_eq (Option.some.inj hk), fun ad had => hfr _ ?_⟩
    · simp
    · rcases H1.out with ⟨h, _⟩ | ⟨h, _⟩
      · rw [← h, had]; rfl
      · rcases H3.out with h2 | h2 <;> (rw [h] at h2; cases h2)

set_option maxRecDepth 100000 in
theorem mclone_any {w : World} {b : Nat} {l : Dir} (h : DirAt w b l) :
    Calls Tryz.prog 52 #[.map (some b)] w fun e w' => e = .returned (.map (some w.heap.size)) ∧ DirAt w' w.heap.size l ∧ Below w.heap.size w w' := by
  have hlt := h.lt
  obtain ⟨es, clock, hb, F, hs, hD⟩ := h
  have hq := fun w => run_eql_map_nil_sl (P := Tryz.prog) w 99 _ _ (some b) Tryz.underlying99
  have HF := Lib.hid F
  have HD := Lib.hid hD
  clear F hD
  go_enter Tryz.func52, Tryz.ntmps52
  go_wp2
  rw [run_callFunc_extern Tryz.func91 (by kernel_rfl) (by kernel_rfl) (by kernel_rfl) (e := Extern.MapsClone.clone) (by kernel_rfl), run_maps_clone_sl w 99 hb]
  simp only [Result.andThen]
  rw [Oper.upon_value]
  go_wp2
  rw [run_typeAssert_map_sl _ 99 20 _ _ _ Tryz.underlying99]
  simp only [Result.andThen]
  rw [Oper.upon_value]
  go_wp2
  go_ret
  exact ⟨rfl, ⟨es, clock, heap_alloc_new _ _, HF.out, hs, HD.out⟩, low1 _ _⟩
end Go.Proofs.YtgpenpnobjecgaaGreatDoor

/- PutW -/
namespace Go.Proofs.YtgpenpnobjecgaaGreatDoor
set_option maxRecDepth 100000
open Go.RowKit

/-- A slice grown by more bytes. -/
def RetApp (w : World) (blk : Option Nat) (l : List UInt8) (e : Ending) (w' : World) : Prop :=
  ∃ B D blk', e = .returned (.slice B l.length D) ∧ OwnR w' 5 1 B l.length D (l.map V8) blk' ∧ Kept (fun b => blk = some b) w w' ∧ ∀ b, blk' = some b → blk = some b ∨ w.heap.size ≤ b
set_option maxRecDepth 100000 in
set_option maxHeartbeats 1000000 in
theorem putword_any (l : List UInt8) (x : BitVec 32) (A : Option Addr) (C : Nat) (blk : Option Nat) (w : World) (H : OwnR w 5 1 A l.length C (l.map V8) blk) (hl : l.length ≤ 1099511627776) :
    Calls Tryz.prog 129 #[.slice A l.length C, V32 x] w (RetApp w blk (l ++ wordB x)) := by
  have z1 : l.length + 4 ≤ maxLen := by unfold maxLen; omega
  have z2 : (l.length + 4) * 1 ≤ 140737488355328 := by omega
  have HH := Lib.hid H
  clear H
  go_enter Tryz.func129, Tryz.ntmps129
  go_wp2_with (at_builtin; refine wpList_app rfl _ _ 22 rfl 5 1 1 _ Tryz.underlying22 info_u8r rfl (by decide) A l.length C (l.map V8) blk rfl (HH.out.below (low1 _ _)) (some ⟨w.heap.size, 0, none⟩) 4 4 ((wordB x).map V8) rfl rfl (CellsAt.of_block (blk1 _ _)) (fun h => by cases h) (fun ad h => ⟨_, _, (Option.some.inj h).symm⟩) (bone _) z1 z2 ?_; intro B D w1 blk' h1 h2 h3; have H1 := Lib.hid h1; have H2 := Lib.hid h2; have H3 := Lib.hid h3; clear h1 h2 h3)
  go_ret
  refine ⟨B, D, blk', by simp [wordB_len], by simpa [wordB_len] using H1.out, (((Kept.refl _ w).alloc _).grown H2.out fun k e => .inl e), fun b hb => ?_⟩
  rcases H3.out with h | h
  · exact .inl (h ▸ hb)
  · rw [h] at hb
    have := Option.some.inj hb
    simp at this
    exact .inr (by omega)
end Go.Proofs.YtgpenpnobjecgaaGreatDoor
