/- wicketlaw06.alone. -/
import Derived.Test.YtgpenpnobjecgaaGreatDoorJWalSafeCard34
import Derived.Test.YtgpenpnobjecgaaGreatDoorJWalSafeCard36
/- OwnS -/
namespace Go.Proofs.YtgpenpnobjecgaaGreatDoor
set_option maxRecDepth 100000
open Go.RowKit Dk

section
variable {ops : Array Oper} {rest : List Oper} {o : Oper} {a : Act} {Q : Exit → Act → World → Prop}
/-- 'append' of bytes to a slice with a block of its own, told wholly. -/
theorem wpList_appB {w : World} (hgd : o.guard = none) (s x : Operand) (ho : o.op = .call { callee := .builtin .append, args := #[s, x], argTypes := #[22, 22] }) (g n C : Nat) (xs : Bs) (hs : a.eval s = .slice (some ⟨g, 0, none⟩) n C) (H : OwnR w 5 1 (some ⟨g, 0, none⟩) n C (xs.map V8) (some g))
    (ad : Addr) (m c : Nat) (news : Bs) (hx : a.eval x = .slice (some ad) m c) (hl : news.length = m) (hnews : ∀ j u, (news.map V8)[j]? = some u → w.cell? (ad.add j) = some u) (hnm : n + m ≤ 70368744177664)
    (h : ∀ gB D w', OwnR w' 5 1 (some ⟨gB, 0, none⟩) (n + m) D ((xs ++ news).map V8) (some gB) → ((gB = g ∧ D = C ∧ w.grownBy w' (some g) ∧ w'.heap.size = w.heap.size) ∨ (gB = w.heap.size ∧ LowU w w')) → wpList Tryz.prog ops Q rest (a.put o.dst (.slice (some ⟨gB, 0, none⟩) (n + m) D)) w') : wpList Tryz.prog ops Q (o :: rest) a w := by
  refine wpList_plain hgd fun K hK => ?_
  obtain ⟨gB, D, w', hr, h2, h3⟩ := app_bytes o.type H ad hl hnews hnm (c := c)
  unfold Oper.wp execOp
  simp only [ho, resolve, invoke, builtin, Sem.run_bind, Sem.run_pure, Result.andThen_ok, List.map_toArray, List.map_cons, List.map_nil, hs, hx, hr]
  exact hK _ _ (h gB D w' h2 h3)
end
theorem take_set {α : Type} (l : List α) (n j : Nat) (v : α) : (l.set j v).take n = (l.take n).set j v := by
  rw [List.take_set]
theorem OwnR.put {w : World} {e g n C j : Nat} {xs : List Value} (H : OwnR w e 1 (some ⟨g, 0, none⟩) n C xs (some g)) (hj : j < n) (v : Value) :
    OwnR (w.setCell ⟨g, j, none⟩ v) e 1 (some ⟨g, 0, none⟩) n C (xs.set j v) (some g) ∧ Kept (· = g) w (w.setCell ⟨g, j, none⟩ v) ∧ w.frozen? ⟨g, j, none⟩ = false ∧ (∃ u, xs[j]? = some u ∧ w.cell? ⟨g, j, none⟩ = some u) ∧ (w.setCell ⟨g, j, none⟩ v).heap.size = w.heap.size := by
  have hl := H.length
  rw [Nat.mul_one] at hl
  obtain ⟨u, hu⟩ : ∃ u, xs[j]? = some u := ⟨_, List.getElem?_eq_getElem (by omega)⟩
  obtain ⟨g2, h2, _, hc⟩ := H.cell hu
  obtain rfl : g = g2 := by cases h2; rfl
  rcases H.form with ⟨h, _⟩ | ⟨g3, cur, h3, _, hg, h4, h5, h6, h7⟩
  · cases h
  obtain rfl : g = g3 := by cases h3; rfl
  refine ⟨.of_row (cur := cur.setIfInBounds j v) (setCell_one hg v) h4 h5 (by rw [Array.size_setIfInBounds]; exact h6) ?_, (Kept.refl (· = g) w).setCell _ _ (.inl rfl), frozen_row hg j, ⟨u, hu, hc⟩, by simp [World.setCell]⟩
  rw [Array.toList_setIfInBounds, take_set, h7]
/-- Written over. -/
def Spoilt (w : World) (g n C : Nat) (w' : World) : Prop := Kept (· = g) w w' ∧ w'.heap.size = w.heap.size ∧ ∃ ys, OwnR w' 5 1 (some ⟨g, 0, none⟩) n C ys (some g)
set_option maxRecDepth 100000 in
set_option maxHeartbeats 1000000 in
theorem l6spoil_any {w : World} {g n C : Nat} {xs : List Value} (H : OwnR w 5 1 (some ⟨g, 0, none⟩) n C xs (some g)) : Calls Tryz.prog 26 #[.slice (some ⟨g, 0, none⟩) n C] w fun e w' => e = .returned (.tuple #[]) ∧ Spoilt w g n C w' := by
  have HH := Lib.hid H
  have hcap := H.cap
  have HC := Lib.hid hcap
  clear H hcap
  go_enter Tryz.func26, Tryz.ntmps26
  go_wp2
  go_loopw [2] (fun iv wr => ∃ i : Nat, iv = .int .i64 i ∧ Hid (i ≤ n ∧ Spoilt w g n C wr)) (fun iv _ => n - (intOf iv).toNat)
  case atStart => exact ⟨0, rfl, Lib.hid ⟨Nat.zero_le _, Kept.refl _ _, rfl, xs, HH.out⟩⟩
  case round =>
    obtain ⟨i, rfl, hI⟩ := hrel
    obtain ⟨hk, hsz, ys, hy⟩ := hI.out.2
    by_cases hlt : i < n
    · have h1 : (i : Int) < n := by omega
      have h0 : (0 : Int) ≤ (i : Int) := by omega
      have hi63 : (i : Int) + 1 ≤ 9223372036854775807 := by have := HC.out; unfold maxLen at this; omega
      obtain ⟨p1, p2, fz, ⟨u, _, c0⟩, p5⟩ := hy.put hlt (.int .u8 99)
      have P1 := Lib.hid p1
      have P2 := Lib.hid (hk.then p2)
      have P5 := Lib.hid (p5.trans hsz)
      clear hy p1 p2 p5 hk hsz
      go_wp2
      exact ⟨⟨i + 1, by simp, Lib.hid ⟨by omega, P2.out, P5.out, _, P1.out⟩⟩, by simp [intOf]; omega⟩
    · have h1 : ¬ (i : Int) < (n : Int) := by omega
      have HI := Lib.hid hI.out.2
      clear hy hk hsz hI
      go_wp2
      go_end0
      exact ⟨rfl, HI.out⟩
end Go.Proofs.YtgpenpnobjecgaaGreatDoor

/- Alone -/
namespace Go.Proofs.YtgpenpnobjecgaaGreatDoor
set_option maxRecDepth 100000
open Go.RowKit Dk

/-- Slices of bytes, each with a block of its own, and the row that holds them. -/
structure AloneAt (w : World) (b N : Nat) (n k c : Nat → Nat) : Prop where
  row : ∀ i, i < N → w.cell? ⟨b, i, none⟩ = some (.slice (some ⟨k i, 0, none⟩) (n i) (c i))
  own : ∀ i, i < N → ∃ ys, OwnR w 5 1 (some ⟨k i, 0, none⟩) (n i) (c i) ys (some (k i))
  inj : ∀ i j, i < N → j < N → k i = k j → i = j
  nb : ∀ i, i < N → k i ≠ b
  small : ∀ i, i < N → n i ≤ 4096
  few : N ≤ 1000
def isK (N : Nat) (k : Nat → Nat) (x : Nat) : Prop := ∃ i, i < N ∧ x = k i
def mk (i : Nat) : UInt8 := UInt8.ofNat (i + 1)
def markV (i : Nat) : Value := .int .u8 (IntKind.u8.wrap ((i : Int) + 1))
theorem markV_mk (i : Nat) : markV i = V8 (mk i) := by
  unfold markV mk V8
  congr 1
/-- The first i are full of their marks. -/
structure Marked (w wr : World) (b N : Nat) (n k c : Nat → Nat) (i : Nat) : Prop where
  own : ∀ j, j < N → ∃ ys, OwnR wr 5 1 (some ⟨k j, 0, none⟩) (n j) (c j) ys (some (k j)) ∧ (j < i → ys = List.replicate (n j) (markV j))
  kept : Kept (isK N k) w wr
  size : wr.heap.size = w.heap.size
theorem Marked.row {w wr : World} {b N : Nat} {n k c : Nat → Nat} {i : Nat} (h : Marked w wr b N n k c i) (H : AloneAt w b N n k c) {j : Nat} (hj : j < N) : wr.cell? ⟨b, j, none⟩ = some (.slice (some ⟨k j, 0, none⟩) (n j) (c j)) :=
  h.kept.cell (H.row j hj) (fun ⟨i, hi, e⟩ => H.nb i hi e.symm)
theorem take_put {α : Type} {ys : List α} {j : Nat} {v : α} (h : ys.take j = List.replicate j v) (hj : j < ys.length) : (ys.set j v).take (j + 1) = List.replicate (j + 1) v := by
  rw [List.take_add_one, List.getElem?_set_self hj, List.take_set, h, List.replicate_succ', Option.toList_some, List.set_eq_of_length_le (by simp)]
/-- More appended to slice i; what stands before i is done. -/
structure Grown (w1 wr : World) (b N : Nat) (n k c : Nat → Nat) (i : Nat) (B : Option Addr) (D : Nat) (bk : Option Nat) (g : Nat → Nat) (d : Nat → Nat) : Prop where
  kept : Kept (isK N k) w1 wr
  view : ∀ j, j < N → ∀ t, t < n j → wr.cell? ⟨k j, t, none⟩ = some (markV j)
  own : ∀ j, i ≤ j → j < N → OwnR wr 5 1 (some ⟨k j, 0, none⟩) (n j) (c j) ((List.replicate (n j) (mk j)).map V8) (some (k j))
  more : OwnR wr 22 1 B i D ((List.range i).map fun j => Value.slice (some ⟨g j, 0, none⟩) (n j + 64) (d j)) bk
  mnew : ∀ x, bk = some x → w1.heap.size ≤ x
  done : ∀ j, j < i → (g j = k j ∨ w1.heap.size ≤ g j) ∧ bk ≠ some (g j) ∧ g j < wr.heap.size ∧ ∀ t, t < n j + 64 → wr.cell? ⟨g j, t, none⟩ = some (markV j)
set_option maxRecDepth 100000 in
set_option maxHeartbeats 4000000 in
theorem l6alone_any {w : World} {b N C : Nat} {n k c : Nat → Nat} (H : AloneAt w b N n k c) : Calls Tryz.prog 28 #[.slice (some ⟨b, 0, none⟩) N C] w fun e w' => e = .returned (.bool true) ∧ Kept (isK N k) w w' := by
  have HH := Lib.hid H
  clear H
  go_enter Tryz.func28, Tryz.ntmps28
  go_wp2
  go_loopw [3] (fun iv wr => ∃ i : Nat, iv = .int .i64 i ∧ Hid (i ≤ N ∧ Marked w wr b N n k c i)) (fun iv _ => N - (intOf iv).toNat)
  case atStart => exact ⟨0, rfl, Lib.hid ⟨Nat.zero_le _, fun j hj => by obtain ⟨ys, h⟩ := HH.out.own j hj; exact ⟨ys, h, fun h => absurd h (Nat.not_lt_zero _)⟩, Kept.refl _ _, rfl⟩⟩
  case round =>
    obtain ⟨i, rfl, hI⟩ := hrel
    by_cases hlt : i < N
    · have h1 : (i : Int) < N := by omega
      have h0 : (0 : Int) ≤ (i : Int) := by omega
      have hi63 : (i : Int) + 1 ≤ 9223372036854775807 := by have := HH.out.few; omega
      go_wp2
      go_loopw [4] (fun jv wi => ∃ j : Nat, jv = .int .i64 j ∧ Hid (j ≤ n i ∧ Kept (isK N k) w wi ∧ wi.heap.size = w.heap.size ∧ (∃ ys, OwnR wi 5 1 (some ⟨k i, 0, none⟩) (n i) (c i) ys (some (k i)) ∧ ys.take j = List.replicate j (markV i)) ∧ ∀ x, x < N → x ≠ i → ∃ ys, OwnR wi 5 1 (some ⟨k x, 0, none⟩) (n x) (c x) ys (some (k x)) ∧ (x < i → ys = List.replicate (n x) (markV x)))) (fun jv _ => n i - (intOf jv).toNat)
      case atStart =>
        obtain ⟨ys, h, _⟩ := hI.out.2.own i hlt
        exact ⟨0, rfl, Lib.hid ⟨Nat.zero_le _, hI.out.2.kept, hI.out.2.size, ⟨ys, h, rfl⟩, fun x hx hne => hI.out.2.own x hx⟩⟩
      case round =>
        rename World => wi
        obtain ⟨j, rfl, hJ⟩ := hrel
        have c1 : wi.cell? ⟨b, i, none⟩ = some (.slice (some ⟨k i, 0, none⟩) (n i) (c i)) := hJ.out.2.1.cell (HH.out.row i hlt) (fun ⟨x, hx, e⟩ => HH.out.nb x hx e.symm)
        by_cases hj : j < n i
        · have j1 : (j : Int) < n i := by omega
          have j0 : (0 : Int) ≤ (j : Int) := by omega
          have hj63 : (j : Int) + 1 ≤ 9223372036854775807 := by have := HH.out.small i hlt; omega
          obtain ⟨ys, hy, ht⟩ := hJ.out.2.2.2.1
          obtain ⟨p1, p2, fz, ⟨u, hu, c0⟩, p5⟩ := hy.put hj (markV i)
          have HY := Lib.hid (show ys.length = n i ∧ ys.take j = List.replicate j (markV i) from ⟨by have := hy.length; omega, ht⟩)
          have P1 := Lib.hid p1
          have P2 := Lib.hid p2
          have P5 := Lib.hid p5
          clear hy ht p1 p2 p5 hu
          unfold markV
          go_wp2
          refine ⟨⟨j + 1, by simp, Lib.hid ⟨by omega, hJ.out.2.1.then (P2.out.mono fun x _ e => ⟨i, hlt, e⟩), P5.out.trans hJ.out.2.2.1, ⟨_, P1.out, take_put HY.out.2 (by rw [HY.out.1]; exact hj)⟩, fun x hx hne => ?_⟩⟩, by simp [intOf]; omega⟩
          obtain ⟨zs, hz, hz2⟩ := hJ.out.2.2.2.2 x hx hne
          exact ⟨zs, hz.kept P2.out fun y hy e => hne (HH.out.inj x i hx hlt ((Option.some.inj hy).trans e)), hz2⟩
        · have j1 : ¬ (j : Int) < n i := by omega
          have hM : Marked w wi b N n k c (i + 1) := ⟨fun x hx => by
            by_cases hxi : x = i
            · subst hxi
              obtain ⟨ys, hy, ht⟩ := hJ.out.2.2.2.1
              refine ⟨ys, hy, fun _ => ?_⟩
              have hl := hy.length
              have hjn : j = n x := by have := hJ.out.1; omega
              rw [← hjn, ← ht, List.take_of_length_le (by omega)]
            · obtain ⟨ys, hy, ht⟩ := hJ.out.2.2.2.2 x hx hxi
              exact ⟨ys, hy, fun h => ht (by omega)⟩, hJ.out.2.1, hJ.out.2.2.1⟩
          have HM := Lib.hid hM
          clear hM hJ
          go_wp2
          exact ⟨⟨i + 1, by simp, Lib.hid ⟨by omega, HM.out⟩⟩, by simp [intOf]; omega⟩
    · have h1 : ¬ (i : Int) < N := by omega
      have hM : Marked w wr b N n k c N := ⟨fun x hx => by
        obtain ⟨ys, hy, ht⟩ := hI.out.2.own x hx
        exact ⟨ys, hy, fun _ => ht (by omega)⟩, hI.out.2.kept, hI.out.2.size⟩
      have HM := Lib.hid hM
      clear hM hI
      generalize wr = w1 at HM ⊢
      go_wp2
      go_loopw [5, 6] (fun mv iv wr => ∃ (i : Nat) (B : Option Addr) (D : Nat) (bk : Option Nat) (g d : Nat → Nat), mv = .slice B i D ∧ iv = .int .i64 i ∧ Hid (i ≤ N ∧ Grown w1 wr b N n k c i B D bk g d)) (fun _ iv _ => N - (intOf iv).toNat)
      case atStart =>
        refine ⟨0, none, 0, none, fun _ => 0, fun _ => 0, rfl, rfl, Lib.hid ⟨Nat.zero_le _, Kept.refl _ _, fun j hj t ht => ?_, fun j _ hj => ?_, OwnR.nil _ _ _, (fun x h => by cases h), fun j hj => absurd hj (Nat.not_lt_zero _)⟩⟩
        · obtain ⟨ys, hy, e⟩ := HM.out.own j hj
          rw [e hj] at hy
          obtain ⟨g, hg, _, hc⟩ := hy.cell (j := t) (v := markV j) (by simp [ht])
          obtain rfl : k j = g := by cases hg; rfl
          exact hc
        · obtain ⟨ys, hy, e⟩ := HM.out.own j hj
          rw [e hj, markV_mk, ← List.map_replicate] at hy
          exact hy
      case round =>
        rename World => wr
        obtain ⟨i, B, D, bk, g, d, rfl, rfl, hI⟩ := hrel
        by_cases hlt : i < N
        · have h1 : (i : Int) < N := by omega
          have h0 : (0 : Int) ≤ (i : Int) := by omega
          have hiw : IntKind.i64.wrap ((i : Int) + 1) = (i : Int) + 1 := IntWalk.i64_in _ (by have := HH.out.few; omega)
          have c1 : wr.cell? ⟨b, i, none⟩ = some (.slice (some ⟨k i, 0, none⟩) (n i) (c i)) := hI.out.2.kept.cell (HM.out.row HH.out hlt) (fun ⟨x, hx, e⟩ => HH.out.nb x hx e.symm)
          have HNI := Lib.hid (HH.out.small i hlt)
          go_wp2
          go_loopw [7, 8] (fun mv jv wi => ∃ (j gg DD : Nat), mv = .slice (some ⟨gg, 0, none⟩) (n i + j) DD ∧ jv = .int .i64 j ∧ Hid (j ≤ 64 ∧ OwnR wi 5 1 (some ⟨gg, 0, none⟩) (n i + j) DD ((List.replicate (n i + j) (mk i)).map V8) (some gg) ∧ (gg = k i ∨ wr.heap.size ≤ gg) ∧ Kept (fun x => x = k i) wr wi ∧ ∀ t, t < n i → wi.cell? ⟨k i, t, none⟩ = some (markV i))) (fun _ jv _ => 64 - (intOf jv).toNat)
          case atStart => exact ⟨0, k i, c i, rfl, rfl, Lib.hid ⟨by omega, hI.out.2.own i (Nat.le_refl _) hlt, .inl rfl, Kept.refl _ _, hI.out.2.view i hlt⟩⟩
          case round =>
            rename World => wi
            obtain ⟨j, gg, DD, rfl, rfl, hJ⟩ := hrel
            by_cases hj : j < 64
            · have j1 : (j : Int) < 64 := by omega
              have Z1 := Lib.hid (show n i + j + 1 ≤ 70368744177664 by have := HNI.out; omega)
              have hjw : IntKind.i64.wrap ((j : Int) + 1) = (j : Int) + 1 := IntWalk.i64_in _ (by omega)
              go_wp2_with (at_builtin; refine wpList_appB rfl _ _ rfl gg (n i + j) DD (List.replicate (n i + j) (mk i)) rfl (hJ.out.2.1.below (low1 _ _)) ⟨wi.heap.size, 0, none⟩ 1 1 [mk i] rfl rfl (txt_cells (Txt.of_one (blk1 _ _) (markV_mk i)) ) Z1.out ?_; intro g2 D2 w2 h2 h3; have H2 := Lib.hid h2; have H3 := Lib.hid h3; clear h2 h3)
              have hki : k i < wr.heap.size := (hI.out.2.own i (Nat.le_refl _) hlt).lt _ rfl
              have hown : OwnR w2 5 1 (some ⟨g2, 0, none⟩) (n i + (j + 1)) D2 ((List.replicate (n i + (j + 1)) (mk i)).map V8) (some g2) := by
                have h := H2.out
                rw [← List.replicate_succ'] at h
                exact h
              have hks := hJ.out.2.2.2.1.size
              refine ⟨⟨j + 1, g2, D2, rfl, by simp, Lib.hid ⟨by omega, hown, ?_, ?_, fun t ht => ?_⟩⟩, by simp [intOf]; omega⟩
              · rcases H3.out with ⟨rfl, _⟩ | ⟨rfl, _⟩
                · exact hJ.out.2.2.1
                · right
                  simp
                  omega
              · rcases H3.out with ⟨_, _, hg, _⟩ | ⟨_, hl⟩
                · exact (hJ.out.2.2.2.1.alloc _).grown hg fun x e => by obtain rfl := Option.some.inj e; exact hJ.out.2.2.1
                · exact (hJ.out.2.2.2.1.alloc _).then (Kept.of_below hl.low)
              · by_cases hgk : g2 = k i
                · subst hgk
                  obtain ⟨x, hx, _, hc⟩ := hown.cell (j := t) (v := V8 (mk i)) (by rw [List.getElem?_map, List.getElem?_replicate, if_pos (by omega)]; rfl)
                  obtain rfl : k i = x := by cases hx; rfl
                  rw [markV_mk]
                  exact hc
                · have hv := hJ.out.2.2.2.2 t ht
                  have hv2 := (low1 wi (.cells #[Value.int .u8 (IntKind.u8.wrap ((i : Int) + 1))] 5)).cell (p := ⟨k i, t, none⟩) (World.block_lt_of_cell? _ _ hv)
                  rw [hv] at hv2
                  rcases H3.out with ⟨rfl, _, hg, _⟩ | ⟨_, hl⟩
                  · exact ((Kept.refl (fun x => x = g2) _).grown hg fun x e => .inl (Option.some.inj e).symm).cell hv2 (show ¬ k i = g2 from fun e => hgk e.symm)
                  · exact (hl.low.cell (p := ⟨k i, t, none⟩) (World.block_lt_of_cell? _ _ hv2)).trans hv2
            · have j1 : ¬ (j : Int) < 64 := by omega
              obtain rfl : j = 64 := by have := hJ.out.1; omega
              have hki : k i < w1.heap.size := by
                obtain ⟨ys, hy, _⟩ := HM.out.own i hlt
                exact hy.lt _ rfl
              have hbk : ∀ x, bk = some x → ¬ x = k i := fun x e hx => by have := hI.out.2.mnew x e; omega
              have Z3 := Lib.hid (show i + 1 ≤ maxLen by have := HH.out.few; unfold maxLen; omega)
              have Z4 := Lib.hid (show (i + 1) * 24 ≤ 140737488355328 by have := HH.out.few; omega)
              have hrow := hI.out.2.more.kept hJ.out.2.2.2.1 hbk
              have HROW := Lib.hid hrow
              have HKI := Lib.hid hki
              have HBK := Lib.hid hbk
              clear hrow hki hbk
              go_wp2_with (at_builtin; refine wpList_app0 rfl _ _ 23 rfl 22 1 24 (.slice none 0 0) Tryz.underlying23 (by kernel_rfl) rfl (by decide) B i D _ bk rfl (HROW.out.below (low1 _ _)) (some ⟨wi.heap.size, 0, none⟩) 1 1 [.slice (some ⟨gg, 0, none⟩) (n i + 64) DD] rfl rfl (CellsAt.of_block (blk1 _ _)) (fun h => by cases h) (by simp; rfl) Z3.out Z4.out ?_; intro B2 D2 w2 b2 h2 h3 h4; have H2 := Lib.hid h2; have H3 := Lib.hid h3; have H4 := Lib.hid h4; clear h2 h3 h4)
              obtain ⟨o, ho⟩ : ∃ o, o = Obj.cells #[Value.slice (some ⟨gg, 0, none⟩) (n i + 64) DD] 22 := ⟨_, rfl⟩
              rw [← ho] at H3 H4
              have hG := hI.out.2
              have hks := hJ.out.2.2.2.1.size
              have h1s := hG.kept.size
              have hrl := hG.more.lt
              have hal : (wi.alloc o).heap.size = wi.heap.size + 1 := by simp
              have hk2 : Kept (fun x => bk = some x) wi w2 := ((Kept.refl (fun x => bk = some x) wi).alloc o).grown H3.out fun x e => .inl e
              have hb2 : ∀ x, b2 = some x → bk = some x ∨ wi.heap.size ≤ x := fun x e => by
                rcases H4.out with h | h
                · exact .inl (h ▸ e)
                · rw [h] at e
                  have := Option.some.inj e
                  exact .inr (by omega)
              have hkj : ∀ j, j < N → bk ≠ some (k j) := fun j hj e => by
                obtain ⟨ys, hy, _⟩ := HM.out.own j hj
                have := hy.lt _ rfl
                have := hG.mnew _ e
                omega
              have hgl : gg < wi.heap.size := hJ.out.2.1.lt _ rfl
              have hgb : bk ≠ some gg := fun e => by
                rcases hJ.out.2.2.1 with h | h
                · exact hkj i hlt (by rw [← h]; exact e)
                · have := hrl _ e
                  omega
              refine ⟨⟨i + 1, B2, D2, b2, fun x => if x = i then gg else g x, fun x => if x = i then DD else d x, rfl, by simp, Lib.hid ⟨by omega, ⟨?_, fun j hj t ht => ?_, fun j hj1 hj => ?_, ?_, fun x e => ?_, fun j hj => ?_⟩⟩⟩, by simp [intOf]; omega⟩
              · exact (hG.kept.trans hJ.out.2.2.2.1 fun x e => .inl ⟨i, hlt, e⟩).trans hk2 fun x e => .inr (hG.mnew x e)
              · have hv : wi.cell? ⟨k j, t, none⟩ = some (markV j) := by
                  by_cases hji : j = i
                  · subst hji
                    exact hJ.out.2.2.2.2 t ht
                  · exact hJ.out.2.2.2.1.cell (hG.view j hj t ht) (fun e => hji (HH.out.inj j i hj hlt e))
                exact hk2.cell hv (hkj j hj)
              · refine ((hG.own j (by omega) hj).kept hJ.out.2.2.2.1 fun x e hx => ?_).kept hk2 fun x e hx => ?_
                · have := HH.out.inj j i hj hlt ((Option.some.inj e).trans hx)
                  omega
                · exact hkj j hj (by rw [hx, e])
              · have h := H2.out
                rw [List.range_succ, List.map_append, List.map_singleton, if_pos rfl, if_pos rfl]
                rw [show (List.range i).map (fun j => Value.slice (some ⟨if j = i then gg else g j, 0, none⟩) (n j + 64) (if j = i then DD else d j)) = (List.range i).map (fun j => Value.slice (some ⟨g j, 0, none⟩) (n j + 64) (d j)) from List.map_congr_left fun j hj => by
                  have hj : j ≠ i := by have := List.mem_range.1 hj; omega
                  rw [if_neg hj, if_neg hj]]
                exact h
              · rcases hb2 x e with h | h
                · exact hG.mnew x h
                · omega
              · by_cases hji : j = i
                · subst hji
                  simp only [if_true]
                  refine ⟨hJ.out.2.2.1.imp id fun h => by omega, fun e => ?_, Nat.lt_of_lt_of_le hgl hk2.size, fun t ht => ?_⟩
                  · rcases hb2 _ e with h | h
                    · exact hgb h
                    · omega
                  · obtain ⟨x, hx, _, hc⟩ := hJ.out.2.1.cell (j := t) (v := V8 (mk j)) (by rw [List.getElem?_map, List.getElem?_replicate, if_pos (by omega)]; rfl)
                    obtain rfl : gg = x := by cases hx; rfl
                    rw [markV_mk]
                    exact hk2.cell hc hgb
                · have hji2 : j < i := by omega
                  simp only [if_neg hji]
                  obtain ⟨d1, d2, d3, d4⟩ := hG.done j hji2
                  refine ⟨d1, fun e => ?_, by have := hk2.size; omega, fun t ht => ?_⟩
                  · rcases hb2 _ e with h | h
                    · exact d2 h
                    · omega
                  · have hv := hJ.out.2.2.2.1.cell (d4 t ht) (fun e => by
                      rcases d1 with h | h
                      · exact hji (HH.out.inj j i (by omega) hlt (h.symm.trans e))
                      · have := HKI.out
                        have e2 : g j = k i := e
                        omega)
                    exact hk2.cell hv d2
        · have h1 : ¬ (i : Int) < N := by omega
          obtain rfl : i = N := by have := hI.out.1; omega
          have HG := Lib.hid hI.out.2
          clear hI hlt
          go_wp2
          go_loopw [9] (fun iv w9 => ∃ i5 : Nat, iv = .int .i64 i5 ∧ Hid (i5 ≤ i ∧ w9 = wr)) (fun iv _ => i - (intOf iv).toNat)
          case atStart => exact ⟨0, rfl, Lib.hid ⟨Nat.zero_le _, rfl⟩⟩
          case round =>
            rename World => w9
            obtain ⟨q, rfl, hQ⟩ := hrel
            obtain rfl := hQ.out.2
            have hqi := Lib.hid hQ.out.1
            clear hQ
            by_cases hq : q < i
            · have q1 : (q : Int) < i := by omega
              have q0 : (0 : Int) ≤ (q : Int) := by omega
              have hqw : IntKind.i64.wrap ((q : Int) + 1) = (q : Int) + 1 := IntWalk.i64_in _ (by have := HH.out.few; omega)
              obtain ⟨mb, rfl, _, cm⟩ := HG.out.more.cell (j := q) (v := .slice (some ⟨g q, 0, none⟩) (n q + 64) (d q)) (by simp [hq])
              have c1 : w9.cell? ⟨b, q, none⟩ = some (.slice (some ⟨k q, 0, none⟩) (n q) (c q)) := HG.out.kept.cell (HM.out.row HH.out hq) (fun ⟨x, hx, e⟩ => HH.out.nb x hx e.symm)
              have HNQ := Lib.hid (HH.out.small q hq)
              go_wp2
              go_loopw [10] (fun jv w10 => ∃ t : Nat, jv = .int .i64 t ∧ Hid (t ≤ n q + 64 ∧ w10 = w9)) (fun jv _ => n q + 64 - (intOf jv).toNat)
              case atStart => exact ⟨0, rfl, Lib.hid ⟨Nat.zero_le _, rfl⟩⟩
              case round =>
                rename World => w10
                obtain ⟨t, rfl, hT⟩ := hrel
                obtain rfl := hT.out.2
                have HTN := Lib.hid hT.out.1
                clear hT
                by_cases ht : t < n q + 64
                · have t1 : (t : Int) < (n q : Int) + 64 := by omega
                  have t0 : (0 : Int) ≤ (t : Int) := by omega
                  have htw : IntKind.i64.wrap ((t : Int) + 1) = (t : Int) + 1 := IntWalk.i64_in _ (by have := HNQ.out; omega)
                  have cg := (HG.out.done q hq).2.2.2 t ht
                  unfold markV at cg
                  by_cases hv : t < n q
                  · have v1 : decide ((t : Int) < (n q : Int)) = true := by simp; omega
                    have cv := HG.out.view q hq t hv
                    unfold markV at cv
                    go_wp2
                    exact ⟨⟨t + 1, by simp, Lib.hid ⟨by omega, trivial⟩⟩, by simp [intOf]; omega⟩
                  · have v1 : decide ((t : Int) < (n q : Int)) = false := by simp; omega
                    go_wp2
                    exact ⟨⟨t + 1, by simp, Lib.hid ⟨by omega, trivial⟩⟩, by simp [intOf]; omega⟩
                · have t1 : ¬ (t : Int) < (n q : Int) + 64 := by omega
                  go_wp2
                  exact ⟨⟨q + 1, by simp, Lib.hid ⟨by omega, trivial⟩⟩, by simp [intOf]; omega⟩
            · have q1 : ¬ (q : Int) < i := by omega
              go_wp2
              go_ret
              exact ⟨rfl, HM.out.kept.then HG.out.kept⟩
end Go.Proofs.YtgpenpnobjecgaaGreatDoor
