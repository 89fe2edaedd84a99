/- Owned bytes written over: wicketlaw06.spoil. -/
import Derived.Test.YtgpenpnobjecgaaGreatDoorJWalOwnCard41
import Derived.Test.YtgpenpnobjecgaaGreatDoorJWalOwnCard43
/- LawF -/
namespace Go.Proofs.YtgpenpnobjecgaaGreatDoor
set_option maxRecDepth 100000
open Go.RowKit Dk

def DRunZ (Z : Nat → Prop) (w w' : World) (dg : Nat) (d : DiskS) : Prop := ∃ recs own, DAt w' dg d recs own ∧ Ok d ∧ (∀ b, foot own b → w.heap.size ≤ b ∧ ¬ Z b) ∧ RowKit.Below w.heap.size w w'
def RunZ (Z : Nat → Prop) (w w' : World) (g dg : Nat) (d : DiskS) (L : LogS) : Prop := ∃ own lf, PairAt w' g dg d L own lf ∧ (∀ b, both own lf b → w.heap.size ≤ b ∧ ¬ Z b) ∧ RowKit.Below w.heap.size w w'
section
variable {Z : Nat → Prop} {w w1 W : World} {g dg : Nat} {d d' : DiskS} {L L' : LogS} {q : Nat}
theorem DRunZ.run (h : DRunZ Z w w1 dg d) : DRun w w1 dg d := by
  obtain ⟨recs, own, h1, h2, h3, h4⟩ := h
  exact ⟨recs, own, h1, h2, fun b hb => (h3 b hb).1, h4⟩
theorem RunZ.run (h : RunZ Z w w1 g dg d L) : Run w w1 g dg d L := by
  obtain ⟨own, lf, h1, h2, h3⟩ := h
  exact ⟨own, lf, h1, fun b hb => (h2 b hb).1, h3⟩
theorem RunZ.disk (h : RunZ Z w w1 g dg d L) : DRunZ Z w w1 dg d := by
  obtain ⟨own, lf, hp, hf, hl⟩ := h
  obtain ⟨recs, hd⟩ := hp.dat
  exact ⟨recs, own, hd, hp.ok, fun b hb => hf b (.inl hb), hl⟩
theorem RunZ.below (h : RunZ Z w w1 g dg d L) (hb : RowKit.Below w1.heap.size w1 W) : RunZ Z w W g dg d L := by
  obtain ⟨own, lf, hp, hf, hl⟩ := h
  exact ⟨own, lf, hp.below hb, hf, bthen hl hb⟩
theorem DRunZ.below (h : DRunZ Z w w1 dg d) (hb : RowKit.Below w1.heap.size w1 W) : DRunZ Z w W dg d := by
  obtain ⟨recs, own, hd, hO, hf, hl⟩ := h
  exact ⟨recs, own, hd.below hb, hO, hf, bthen hl hb⟩
theorem DRunZ.low (h : DRunZ Z w w1 dg d) : RowKit.Below w.heap.size w w1 := h.run.low
theorem RunZ.low (h : RunZ Z w w1 g dg d L) : RowKit.Below w.heap.size w w1 := h.run.low
theorem DRunZ.ok (h : DRunZ Z w w1 dg d) : Ok d := h.run.ok
theorem RunZ.ok (h : RunZ Z w w1 g dg d L) : Ok d := h.run.ok
/-- What is made behind it may be added to what stays. -/
theorem DRunZ.wide (h : DRunZ Z w w1 dg d) (hb : RowKit.Below w1.heap.size w1 W) : DRunZ (fun b => Z b ∨ (w1.heap.size ≤ b ∧ b < W.heap.size)) w W dg d := by
  obtain ⟨recs, own, hd, hO, hf, hl⟩ := h
  exact ⟨recs, own, hd.below hb, hO, fun b hb2 => ⟨(hf b hb2).1, fun hz => hz.elim (hf b hb2).2 fun hz => by have := hd.lt b hb2; omega⟩, bthen hl hb⟩
theorem DRunZ.of_run (h : DRun w w1 dg d) : DRunZ (fun _ => False) w w1 dg d := by
  obtain ⟨recs, own, h1, h2, h3, h4⟩ := h
  exact ⟨recs, own, h1, h2, fun b hb => ⟨h3 b hb, id⟩, h4⟩
theorem RunZ.of_run (h : Run w w1 g dg d L) : RunZ (fun _ => False) w w1 g dg d L := by
  obtain ⟨own, lf, h1, h2, h3⟩ := h
  exact ⟨own, lf, h1, fun b hb => ⟨h2 b hb, id⟩, h3⟩
theorem run_armZ (h : DRunZ Z w w1 dg d) (n : Int) (hn : n ≤ 9223372036854775807) : Calls Tryz.prog 30 #[ptrV dg, .int .i64 n] w1 fun e w' => e = .returned (.tuple #[]) ∧ DRunZ Z w w' dg (Dk.arm d n) ∧ Kept (fun b => ¬ Z b) w1 w' := by
  obtain ⟨recs, own, hd, hO, hf, hl⟩ := h
  have hm : foot own dg := DAtU.mine hd
  refine (arm_any hd hO n hn).mono ?_
  rintro e w2 ⟨rfl, hd2, hO2, hk⟩
  exact ⟨rfl, ⟨recs, own, hd2, hO2, hf, ((Kept.of_below (F := foot own) hl).then (hk.mono fun b _ e => e ▸ hm)).below fun b hlt h => by have := (hf b h).1; omega⟩, hk.mono fun b _ e => by subst e; exact (hf _ hm).2⟩
theorem run_openZ (hT : Tabs6 w) (h : DRunZ Z w w1 dg d) (hZ : ∀ b, Z b → b < w1.heap.size) (hr : openW d = (d', some L, 0)) :
    Calls Tryz.prog 16 #[ptrV dg] w1 fun e w' => ∃ g, e = .returned (.tuple #[ptrV g, .int .i64 0]) ∧ RunZ Z w w' g dg d' L ∧ Kept (fun b => ¬ Z b) w1 w' := by
  obtain ⟨recs, own, hd, hO, hf, hl⟩ := h
  have hop := wopen_any hd hO (w0 := w) ⟨hT, hl, fun b hb => (hf b hb).1⟩
  rw [hr] at hop
  refine hop.mono ?_
  rintro e w2 ⟨hO2, recs2, own2, hd2, ht2, g, lf, rfl, hl2, hap, hlk⟩
  refine ⟨g, rfl, ⟨own2, lf, ⟨⟨recs2, hd2⟩, hO2, hl2, fun b hb => (hap b hb).2, hlk⟩, fun b hb => ?_, ((Kept.of_below (F := foot own) hl).then ht2.kept).below fun b hlt hf2 => by have := (hf b hf2).1; omega⟩, ht2.kept.mono fun b _ hb => (hf b hb).2⟩
  have new : w1.heap.size ≤ b → w.heap.size ≤ b ∧ ¬ Z b := fun h => ⟨Nat.le_trans hl.size h, fun hz => by have := hZ b hz; omega⟩
  rcases hb with hb | hb
  · rcases Nat.lt_or_ge b w1.heap.size with h | h
    · exact hf b (ht2.foot b h hb)
    · exact new h
  · exact new (hap b hb).1
theorem run_open_noneZ (hT : Tabs6 w) (h : DRunZ Z w w1 dg d) (hZ : ∀ b, Z b → b < w1.heap.size) (hr : openW d = (d', none, q)) :
    Calls Tryz.prog 16 #[ptrV dg] w1 fun e w' => e = .returned (.tuple #[.pointer none, .int .i64 q]) ∧ DRunZ Z w w' dg d' ∧ Kept (fun b => ¬ Z b) w1 w' := by
  obtain ⟨recs, own, hd, hO, hf, hl⟩ := h
  have hop := wopen_any hd hO (w0 := w) ⟨hT, hl, fun b hb => (hf b hb).1⟩
  rw [hr] at hop
  refine hop.mono ?_
  rintro e w2 ⟨hO2, recs2, own2, hd2, ht2, he⟩
  have he' : e = .returned (.tuple #[.pointer none, .int .i64 q]) := he
  subst he'
  refine ⟨rfl, ⟨recs2, own2, hd2, hO2, fun b hb => ?_, ((Kept.of_below (F := foot own) hl).then ht2.kept).below fun b hlt hf2 => by have := (hf b hf2).1; omega⟩, ht2.kept.mono fun b _ hb => (hf b hb).2⟩
  rcases Nat.lt_or_ge b w1.heap.size with h | h
  · exact hf b (ht2.foot b h hb)
  · exact ⟨Nat.le_trans hl.size h, fun hz => by have := hZ b hz; omega⟩
theorem run_newZ {l : List (Bs × Bs)} {A : Option Addr} {C : Nat} {G : Nat → Prop} (hl : RowKit.Below w.heap.size w W) (hZ : ∀ b, Z b → b < W.heap.size) (hF : FilesAt W A l.length C l G) {R : Int} (hR : -9223372036854775808 ≤ R ∧ R ≤ 9223372036854775807) (hn : ∀ p ∈ l, p.1.length ≤ maxLen) (hll : l.length ≤ 4611686018427387904) (hr : Dk.new l R = (some d, 0)) :
    Calls Tryz.prog 13 #[.slice A l.length C, .int .i64 R] W fun e w' => ∃ dg, e = .returned (.tuple #[ptrV dg, .int .i64 0]) ∧ DRunZ Z w w' dg d ∧ RowKit.Below W.heap.size W w' := by
  refine (new_any l A C G hF R hR hn hll).mono ?_
  rw [hr]
  rintro e w' ⟨hb, _, hO, dg, recs, own, rfl, hd, hf⟩
  exact ⟨dg, rfl, ⟨recs, own, hd, hO, fun b h => ⟨Nat.le_trans hl.size (hf b h), fun hz => by have := hZ b hz; have := hf b h; omega⟩, bthen hl hb⟩, hb⟩
/-- Text and rows in blocks that stay. -/
theorem Txt.stays {w w' : World} {A : Option Addr} {n c : Nat} {l : Bs} (h : Txt w A n c l) (hk : Kept (fun b => ¬ Z b) w w') (hZ : ∀ ad, A = some ad → Z ad.block) : Txt w' A n c l := h.kept hk fun ad had _ hn => hn (hZ ad had)
theorem RowsAt.stays {w w' : World} {A : Option Addr} {n C : Nat} {l : List Bs} {G : Nat → Prop} (h : RowsAt w A n C l G) (hk : Kept (fun b => ¬ Z b) w w') (hZ : ∀ b, G b → b < w.heap.size → Z b) : RowsAt w' A n C l G := h.kept hk fun b hg hlt hn => hn (hZ b hg hlt)
/-- A state and records told, in blocks that stay. -/
structure Saved (Z : Nat → Prop) (w : World) (sA : Option Addr) (sC : Nat) (rA : Option Addr) (rC : Nat) (s : Bs) (rs : List Bs) : Prop where
  txt : Txt w sA s.length sC s
  tz : ∀ ad, sA = some ad → Z ad.block
  rows : RowsAt w rA rs.length rC rs Z
  lt : ∀ b, Z b → b < w.heap.size
variable {sA rA : Option Addr} {sC rC : Nat} {s : Bs} {rs : List Bs}
theorem Saved.kept (h : Saved Z w1 sA sC rA rC s rs) (hk : Kept (fun b => ¬ Z b) w1 W) : Saved Z W sA sC rA rC s rs :=
  ⟨h.txt.stays hk h.tz, h.tz, h.rows.stays hk fun _ hg _ => hg, fun b hb => Nat.lt_of_lt_of_le (h.lt b hb) hk.size⟩
theorem Saved.below (h : Saved Z w1 sA sC rA rC s rs) (hb : RowKit.Below w1.heap.size w1 W) : Saved Z W sA sC rA rC s rs := h.kept (Kept.of_below hb)
theorem run_stateS (h : Run w w1 g dg d L) (hs : L.state = s) : Calls Tryz.prog 19 #[ptrV g] w1 fun e w' => ∃ k C, RetOwn w1 s e w' k C := by subst hs; exact run_state h
theorem run_recordsS (h : Run w w1 g dg d L) (hs : L.records = rs) : Calls Tryz.prog 21 #[ptrV g] w1 fun e w' => ∃ A C, e = .returned (.slice A rs.length C) ∧ (∃ blk qs', Sole w1 w' rs A C blk qs') ∧ RowKit.Below w1.heap.size w1 w' := by subst hs; exact run_records h
end
end Go.Proofs.YtgpenpnobjecgaaGreatDoor

/- OwnS -/
namespace Go.Proofs.YtgpenpnobjecgaaGreatDoor
set_option maxRecDepth 100000
open Go.RowKit Dk

section
variable {ops : Array Oper} {rest : List Oper} {o : Oper} {a : Act} {Q : Exit → Act → World → Prop}
/-- 'append' of bytes to a slice with a block of its own, told wholly. -/
theorem wpList_appB {w : World} (hgd : o.guard = none) (s x : Operand) (ho : o.op = .call { callee := .builtin .append, args := #[s, x], argTypes := #[22, 22] }) (g n C : Nat) (xs : Bs) (hs : a.eval s = .slice (some ⟨g, 0, none⟩) n C) (H : OwnR w 5 1 (some ⟨g, 0, none⟩) n C (xs.map V8) (some g))
    (ad : Addr) (m c : Nat) (news : Bs) (hx : a.eval x = .slice (some ad) m c) (hl : news.length = m) (hnews : ∀ j u, (news.map V8)[j]? = some u → w.cell? (ad.add j) = some u) (hnm : n + m ≤ 70368744177664)
    (h : ∀ gB D w', OwnR w' 5 1 (some ⟨gB, 0, none⟩) (n + m) D ((xs ++ news).map V8) (some gB) → ((gB = g ∧ D = C ∧ w.grownBy w' (some g) ∧ w'.heap.size = w.heap.size) ∨ (gB = w.heap.size ∧ LowU w w')) → wpList Tryz.prog ops Q rest (a.put o.dst (.slice (some ⟨gB, 0, none⟩) (n + m) D)) w') : wpList Tryz.prog ops Q (o :: rest) a w := by
  refine wpList_plain hgd fun K hK => ?_
  obtain ⟨gB, D, w', hr, h2, h3⟩ := app_bytes o.type H ad hl hnews hnm (c := c)
  unfold Oper.wp execOp
  simp only [ho, resolve, invoke, builtin, Sem.run_bind, Sem.run_pure, Result.andThen_ok, List.map_toArray, List.map_cons, List.map_nil, hs, hx, hr]
  exact hK _ _ (h gB D w' h2 h3)
end
theorem take_set {α : Type} (l : List α) (n j : Nat) (v : α) : (l.set j v).take n = (l.take n).set j v := by
  rw [List.take_set]
theorem OwnR.put {w : World} {e g n C j : Nat} {xs : List Value} (H : OwnR w e 1 (some ⟨g, 0, none⟩) n C xs (some g)) (hj : j < n) (v : Value) :
    OwnR (w.setCell ⟨g, j, none⟩ v) e 1 (some ⟨g, 0, none⟩) n C (xs.set j v) (some g) ∧ Kept (· = g) w (w.setCell ⟨g, j, none⟩ v) ∧ w.frozen? ⟨g, j, none⟩ = false ∧ (∃ u, xs[j]? = some u ∧ w.cell? ⟨g, j, none⟩ = some u) ∧ (w.setCell ⟨g, j, none⟩ v).heap.size = w.heap.size := by
  have hl := H.length
  rw [Nat.mul_one] at hl
  obtain ⟨u, hu⟩ : ∃ u, xs[j]? = some u := ⟨_, List.getElem?_eq_getElem (by omega)⟩
  obtain ⟨g2, h2, _, hc⟩ := H.cell hu
  obtain rfl : g = g2 := by cases h2; rfl
  rcases H.form with ⟨h, _⟩ | ⟨g3, cur, h3, _, hg, h4, h5, h6, h7⟩
  · cases h
  obtain rfl : g = g3 := by cases h3; rfl
  refine ⟨.of_row (cur := cur.setIfInBounds j v) (setCell_one hg v) h4 h5 (by rw [Array.size_setIfInBounds]; exact h6) ?_, (Kept.refl (· = g) w).setCell _ _ (.inl rfl), frozen_row hg j, ⟨u, hu, hc⟩, by simp [World.setCell]⟩
  rw [Array.toList_setIfInBounds, take_set, h7]
/-- Written over. -/
def Spoilt (w : World) (g n C : Nat) (w' : World) : Prop := Kept (· = g) w w' ∧ w'.heap.size = w.heap.size ∧ ∃ ys, OwnR w' 5 1 (some ⟨g, 0, none⟩) n C ys (some g)
set_option maxRecDepth 100000 in
set_option maxHeartbeats 1000000 in
theorem l6spoil_any {w : World} {g n C : Nat} {xs : List Value} (H : OwnR w 5 1 (some ⟨g, 0, none⟩) n C xs (some g)) : Calls Tryz.prog 26 #[.slice (some ⟨g, 0, none⟩) n C] w fun e w' => e = .returned (.tuple #[]) ∧ Spoilt w g n C w' := by
  have HH := Lib.hid H
  have hcap := H.cap
  have HC := Lib.hid hcap
  clear H hcap
  go_enter Tryz.func26, Tryz.ntmps26
  go_wp2
  go_loopw [2] (fun iv wr => ∃ i : Nat, iv = .int .i64 i ∧ Hid (i ≤ n ∧ Spoilt w g n C wr)) (fun iv _ => n - (intOf iv).toNat)
  case atStart => exact ⟨0, rfl, Lib.hid ⟨Nat.zero_le _, Kept.refl _ _, rfl, xs, HH.out⟩⟩
  case round =>
    obtain ⟨i, rfl, hI⟩ := hrel
    obtain ⟨hk, hsz, ys, hy⟩ := hI.out.2
    by_cases hlt : i < n
    · have h1 : (i : Int) < n := by omega
      have h0 : (0 : Int) ≤ (i : Int) := by omega
      have hi63 : (i : Int) + 1 ≤ 9223372036854775807 := by have := HC.out; unfold maxLen at this; omega
      obtain ⟨p1, p2, fz, ⟨u, _, c0⟩, p5⟩ := hy.put hlt (.int .u8 99)
      have P1 := Lib.hid p1
      have P2 := Lib.hid (hk.then p2)
      have P5 := Lib.hid (p5.trans hsz)
      clear hy p1 p2 p5 hk hsz
      go_wp2
      exact ⟨⟨i + 1, by simp, Lib.hid ⟨by omega, P2.out, P5.out, _, P1.out⟩⟩, by simp [intOf]; omega⟩
    · have h1 : ¬ (i : Int) < (n : Int) := by omega
      have HI := Lib.hid hI.out.2
      clear hy hk hsz hI
      go_wp2
      go_end0
      exact ⟨rfl, HI.out⟩
end Go.Proofs.YtgpenpnobjecgaaGreatDoor
