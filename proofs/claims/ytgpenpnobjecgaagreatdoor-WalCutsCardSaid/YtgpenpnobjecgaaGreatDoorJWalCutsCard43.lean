/- Single operations of drawn regions in the laws of the log. -/
import Derived.Test.YtgpenpnobjecgaaGreatDoorJWalCutsCard5
import Derived.Test.YtgpenpnobjecgaaGreatDoorJWalCutsCard13
import Derived.Test.YtgpenpnobjecgaaGreatDoorJWalCutsCard25
import Derived.Test.YtgpenpnobjecgaaGreatDoorJWalCutsCard29
import Derived.Test.YtgpenpnobjecgaaGreatDoorJWalCutsCard40
import Derived.Test.YtgpenpnobjecgaaGreatDoorJWalCutsCard41
/- Two -/
namespace Go.Proofs.YtgpenpnobjecgaaGreatDoor
set_option maxRecDepth 100000
open Go.RowKit Dk

def OwnB (w : World) (n0 g C : Nat) (l : Bs) : Prop := n0 ≤ g ∧ OwnR w 5 1 (some ⟨g, 0, none⟩) l.length C (l.map V8) (some g)
/-- A row of files is there. -/
def Flagged (n0 : Nat) (w : World) : Prop := ∃ (g : Nat) (cs : Array Value) (fr : Nat × Nat), n0 ≤ g ∧ w.heap[g]? = some (Obj.cells cs 35 fr)
structure Two (n0 : Nat) (x y s : Bs) (w w' : World) : Prop where
  one : ∀ g C, OwnB w n0 g C x → OwnB w' n0 g C x
  two : ∀ g C, OwnB w n0 g C y → OwnB w' n0 g C y
  row : ∀ (g : Nat) (v : Value) (t : TypeId) (fr : Nat × Nat), w.heap[g]? = some (Obj.cells #[strV s, v] t fr) → w'.heap[g]? = some (Obj.cells #[strV s, v] t fr)
  nil : ∀ g : Nat, w.heap[g]? = some (Obj.cells #[] 5 (0, 0)) → w'.heap[g]? = some (Obj.cells #[] 5 (0, 0))
  flag : Flagged n0 w → Below w.heap.size w w' ∧ Flagged n0 w'
variable {n0 : Nat} {x y s : Bs} {w w1 w2 : World}
theorem Flagged.below (h : Flagged n0 w) (hb : Below w.heap.size w w1) : Flagged n0 w1 := by
  obtain ⟨g, cs, fr, h1, h2⟩ := h
  exact ⟨g, cs, fr, h1, bblk hb h2⟩
theorem Flagged.lowU (hl : LowU w w1) (h : Flagged n0 w1) : Flagged n0 w := by
  obtain ⟨g, cs, fr, h1, h2⟩ := h
  rcases Nat.lt_or_ge g w.heap.size with h3 | h3
  · exact ⟨g, cs, fr, h1, by rw [← hl.low.block g h3]; exact h2⟩
  · have h4 : g < w1.heap.size := (Array.getElem?_eq_some_iff.1 h2).1
    obtain ⟨cs', fr', h5⟩ := hl.byt g h3 h4
    rw [h2] at h5
    injection h5 with h5
    injection h5 with _ h5 _
    exact absurd h5 (by decide)
theorem Two.of_low (h : Below w.heap.size w w1) : Two n0 x y s w w1 :=
  ⟨fun _ _ ho => ⟨ho.1, ho.2.below h⟩, fun _ _ ho => ⟨ho.1, ho.2.below h⟩, fun _ _ _ _ hg => bblk h hg, fun _ hg => bblk h hg, fun hf => ⟨h, hf.below h⟩⟩
theorem Two.refl (w : World) : Two n0 x y s w w := .of_low (Below.refl _ _)
/-- The second append, in place. -/
theorem Two.place {g C : Nat} {z : Bs} (hn : n0 ≤ g) (hx : x ≠ []) (hfl : ¬ Flagged n0 w) (H : OwnR w 5 1 (some ⟨g, 0, none⟩) x.length C (x.map V8) (some g)) (H' : OwnR w1 5 1 (some ⟨g, 0, none⟩) (x.length + z.length) C ((x ++ z).map V8) (some g)) (hg : w.grownBy w1 (some g)) :
    Two n0 x (x ++ z) s w w1 ∧ (n0 ≤ w.heap.size → Below n0 w w1) ∧ (w1.heap.size = w.heap.size → ¬ Flagged n0 w1) := by
  have hk : Kept (fun b => b = g) w w1 := (Kept.refl _ w).grown hg fun k e => .inl (by have := Option.some.inj e; exact this.symm)
  rcases H.form with ⟨h, _⟩ | ⟨a, cur, ha, _, hc, h1, h2, h3, h4⟩
  · cases h
  obtain rfl : g = a := by cases ha; rfl
  rcases H'.form with ⟨h, _⟩ | ⟨b, cur', hb, _, hc', h1', h2', h3', h4'⟩
  · cases h
  obtain rfl : g = b := by cases hb; rfl
  have same : ∀ C2 (l : Bs), OwnB w n0 g C2 l → C2 = C := fun C2 l ho => by
    rcases ho.2.form with ⟨h, _⟩ | ⟨c, cur2, hcc, _, h5, _, _, h6, _⟩
    · cases h
    obtain rfl : g = c := by cases hcc; rfl
    rw [hc] at h5
    cases h5
    omega
  have hcur : cur ≠ #[] := fun e => by
    rw [e] at h4
    cases x with
    | nil => exact hx rfl
    | cons a l => simp at h4
  refine ⟨⟨fun j D ho => ?_, fun j D ho => ?_, fun j v t fr hj => ?_, fun j hj => ?_, fun hf => absurd hf hfl⟩, fun hn0 => ⟨hg.1, hg.2, hg.3, hk.size, fun j hj => hk.block j (by omega) (fun e => by omega)⟩, fun hsz => ?_⟩
  · by_cases e : j = g
    · subst e
      obtain rfl := same _ _ ho
      refine ⟨hn, .of_row hc' h1 h2 h3' ?_⟩
      have : cur'.toList.take (x.length * 1) = (cur'.toList.take ((x.length + z.length) * 1)).take (x.length * 1) := by rw [List.take_take, Nat.min_eq_left (by omega)]
      rw [this, h4', List.map_append, Nat.mul_one]
      exact List.take_left' (by simp)
    · exact ⟨ho.1, ho.2.kept hk fun b hb hbg => e ((Option.some.inj hb).trans hbg)⟩
  · by_cases e : j = g
    · subst e
      obtain rfl := same _ _ ho
      exact ⟨hn, by rw [List.length_append]; exact H'⟩
    · exact ⟨ho.1, ho.2.kept hk fun b hb hbg => e ((Option.some.inj hb).trans hbg)⟩
  · have e : j ≠ g := by
      rintro rfl
      rw [hc] at hj
      cases hj
      cases x with
      | nil => exact hx rfl
      | cons a l =>
        simp [strV, V8] at h4
    have hlt : j < w.heap.size := (Array.getElem?_eq_some_iff.1 hj).1
    rw [hk.block j hlt e]
    exact hj
  · have e : j ≠ g := by
      rintro rfl
      rw [hc] at hj
      injection hj with hj
      injection hj with hj _ _
      exact hcur hj
    have hlt : j < w.heap.size := (Array.getElem?_eq_some_iff.1 hj).1
    rw [hk.block j hlt e]
    exact hj
  · rintro ⟨j, cs, fr, hj1, hj2⟩
    have hjl : j < w1.heap.size := (Array.getElem?_eq_some_iff.1 hj2).1
    by_cases e : j = g
    · subst e
      rw [hc'] at hj2
      injection hj2 with hj2
      injection hj2 with _ hj2 _
      exact absurd hj2 (by decide)
    · rw [hk.block j (by omega) e] at hj2
      exact hfl ⟨j, cs, fr, hj1, hj2⟩
/-- What is known of the world while the row is not yet there, and then. -/
def cutI (w0 : World) (l : List Bool) (w : World) : Prop := Below w0.heap.size w0 w ∧ (l = [false] → ¬ Flagged w0.heap.size w)
theorem cutI.lowU {w0 : World} {l : List Bool} (h : cutI w0 l w) (hl : LowU w w1) : cutI w0 l w1 := ⟨bthen h.1 hl.low, fun e hf => h.2 e (hf.lowU hl)⟩
section
variable (w0 : World) (n : Nat) (d : DiskS)
def yNil : Yld (Two n0 x y s) := Yld.pr (fun v w => ∃ g, v = .slice (some ⟨g, 0, none⟩) 0 0 ∧ n0 ≤ g ∧ w.heap[g]? = some (.cells #[] 5 (0, 0))) fun _ _ _ ⟨g, e, h1, h2⟩ hr => ⟨g, e, h1, hr.nil g h2⟩
def yOne : Yld (Two n0 x y s) := Yld.pr (fun v w => ∃ g C, v = .slice (some ⟨g, 0, none⟩) x.length C ∧ OwnB w n0 g C x) fun _ _ _ ⟨g, C, e, h⟩ hr => ⟨g, C, e, hr.one g C h⟩
def yTwo : Yld (Two n0 x y s) := Yld.pr (fun v w => ∃ g C, v = .slice (some ⟨g, 0, none⟩) y.length C ∧ OwnB w n0 g C y) fun _ _ _ ⟨g, C, e, h⟩ hr => ⟨g, C, e, hr.two g C h⟩
def yAgg : Yld (Two n0 x y s) := Yld.pr (fun v w => ∃ g C, v = .agg #[strV s, .slice (some ⟨g, 0, none⟩) y.length C] ∧ OwnB w n0 g C y) fun _ _ _ ⟨g, C, e, h⟩ hr => ⟨g, C, e, hr.two g C h⟩
def yRowF : Yld (Two n0 x y s) := Yld.pr (fun v w => ∃ b g C, v = .slice (some ⟨b, 0, none⟩) 1 1 ∧ n0 ≤ b ∧ w.heap[b]? = some (.cells #[strV s, .slice (some ⟨g, 0, none⟩) y.length C] 35 (0, 0)) ∧ OwnB w n0 g C y) fun _ _ _ ⟨b, g, C, e, h1, h2, h3⟩ hr => ⟨b, g, C, e, h1, hr.row b _ _ _ h2, hr.two g C h3⟩
def yNew : Yld (Two n0 x y s) := Yld.pr (fun v w => ∃ dg, v = .tuple #[ptrV dg, .int .i64 0] ∧ DRun w0 w dg d ∧ Flagged n0 w) fun _ _ _ ⟨dg, e, h1, h2⟩ hr => ⟨dg, e, h1.below (hr.flag h2).1, (hr.flag h2).2⟩
def yPtr : Yld (Two n0 x y s) := Yld.pr (fun v w => ∃ dg, v = ptrV dg ∧ DRun w0 w dg d ∧ Flagged n0 w) fun _ _ _ ⟨dg, e, h1, h2⟩ hr => ⟨dg, e, h1.below (hr.flag h2).1, (hr.flag h2).2⟩
end
theorem run_build_afile (w : World) (s : Bs) (A : Option Addr) (n C : Nat) : (Instr.buildSlice 36 1 #[(0, .agg #[strV s, .slice A n C])]).run Tryz.prog w = .ok (.slice (some ⟨w.heap.size, 0, none⟩) 1 1) (w.alloc (.cells #[strV s, .slice A n C] 35)) := by kernel_rfl
theorem run_build_file (w : World) (s : Bs) (A : Option Addr) (n C : Nat) : (Instr.build 35 #[(0, strV s), (1, .slice A n C)]).run Tryz.prog w = .ok (.agg #[strV s, .slice A n C]) w := by kernel_rfl
theorem txt_cells {w : World} {a : Addr} {n c : Nat} {l : Bs} (X : Txt w (some a) n c l) : ∀ (j : Nat) u, (l.map V8)[j]? = some u → w.cell? (a.add j) = some u := fun j u hj => by
  have hlt : j < l.length := by have := (List.getElem?_eq_some_iff.1 hj).1; simpa using this
  obtain ⟨b, o, e, hc⟩ := X.src.at_.at_ (by omega)
  obtain rfl := Option.some.inj e
  rw [Addr.add_lit]
  have h1 := hc j (by simpa using hlt)
  rw [h1]
  rw [← hj]
  simp [byteF, V8, List.getD, hlt]
theorem app_first (w : World) (g : Nat) (hb : w.heap[g]? = some (.cells #[] 5 (0, 0))) {a : Addr} {c : Nat} {l : Bs} (X : Txt w (some a) l.length c l) (hl : l.length ≤ 70368744177664) (hne : l ≠ []) (ty : TypeId) :
    ∃ g8 C8 w8, (Builtin.append_ #[22, 22] ty #[.slice (some ⟨g, 0, none⟩) 0 0, .slice (some a) l.length c]).run Tryz.prog w = .ok (.slice (some ⟨g8, 0, none⟩) l.length C8) w8 ∧ OwnR w8 5 1 (some ⟨g8, 0, none⟩) l.length C8 (l.map V8) (some g8) ∧ LowU w w8 ∧ w.heap.size ≤ g8 := by
  have H : OwnR w 5 1 (some ⟨g, 0, none⟩) 0 0 (([] : Bs).map V8) (some g) := .of_row hb (Nat.le_refl _) (Nat.zero_le _) rfl rfl
  obtain ⟨gB, D, w', h1, h2, h3⟩ := app_bytes ty H a rfl (txt_cells X) (c := c) (by omega)
  rw [Nat.zero_add] at h1 h2
  rcases h3 with ⟨rfl, rfl, _⟩ | ⟨rfl, h3⟩
  · have := h2.cap.1
    exact absurd (List.eq_nil_of_length_eq_zero (by omega)) hne
  · exact ⟨_, D, w', h1, h2, h3, Nat.le_refl _⟩
theorem app_second {n0 g C : Nat} {x z s : Bs} (w : World) (hsz : n0 ≤ w.heap.size) (hnf : ¬ Flagged n0 w) (ho : OwnB w n0 g C x) {a : Addr} {c : Nat} (X : Txt w (some a) z.length c z) (hne : x ≠ []) (hl : x.length + z.length ≤ 70368744177664) (ty : TypeId) :
    ∃ g8 C8 w8, (Builtin.append_ #[22, 22] ty #[.slice (some ⟨g, 0, none⟩) x.length C, .slice (some a) z.length c]).run Tryz.prog w = .ok (.slice (some ⟨g8, 0, none⟩) (x.length + z.length) C8) w8 ∧ OwnB w8 n0 g8 C8 (x ++ z) ∧ Two n0 x (x ++ z) s w w8 ∧ Below n0 w w8 ∧ ¬ Flagged n0 w8 := by
  obtain ⟨gB, D, w', h1, h2, h3⟩ := app_bytes ty ho.2 a rfl (txt_cells X) (c := c) hl
  have h2' := h2
  rw [← List.length_append] at h2'
  rcases h3 with ⟨rfl, rfl, h3, h4⟩ | ⟨rfl, h3⟩
  · obtain ⟨k1, k2, k3⟩ := Two.place (s := s) ho.1 hne hnf ho.2 h2 h3
    exact ⟨_, D, w', h1, ⟨ho.1, h2'⟩, k1, k2 hsz, k3 h4⟩
  · exact ⟨_, D, w', h1, ⟨hsz, h2'⟩, .of_low h3.low, h3.low.mono hsz, fun hf => hnf (hf.lowU h3)⟩
theorem run_new2 {w W : World} {l : List (Bs × Bs)} {A : Option Addr} {C : Nat} {G : Nat → Prop} {d : DiskS} (hl : RowKit.Below w.heap.size w W) (hF : FilesAt W A l.length C l G) {R : Int} (hR : -9223372036854775808 ≤ R ∧ R ≤ 9223372036854775807) (hn : ∀ p ∈ l, p.1.length ≤ maxLen) (hll : l.length ≤ 4611686018427387904) (hr : Dk.new l R = (some d, 0)) :
    Calls Tryz.prog 13 #[.slice A l.length C, .int .i64 R] W fun e w' => ∃ dg, e = .returned (.tuple #[ptrV dg, .int .i64 0]) ∧ DRun w w' dg d ∧ RowKit.Below W.heap.size W w' := by
  refine (new_any l A C G hF R hR hn hll).mono ?_
  rw [hr]
  rintro e w' ⟨hb, _, hO, dg, recs, own, rfl, hd, hf⟩
  exact ⟨dg, rfl, ⟨recs, own, hd, hO, fun b h => Nat.le_trans hl.size (hf b h), bthen hl hb⟩, hb⟩
theorem files_one {w : World} {b g C n0 : Nat} {s y : Bs} (hb : n0 ≤ b) (h : w.heap[b]? = some (.cells #[strV s, .slice (some ⟨g, 0, none⟩) y.length C] 35 (0, 0))) (ho : OwnB w n0 g C y) : FilesAt w (some ⟨b, 0, none⟩) 1 1 [(s, y)] (fun k => n0 ≤ k) := by
  refine ⟨rfl, Nat.le_refl _, fun h => (by cases h), fun ad had => ⟨b, 0, (Option.some.inj had).symm, (Array.getElem?_eq_some_iff.1 h).1, hb⟩, fun i p hp => ?_⟩
  have hi : i = 0 := by have := (List.getElem?_eq_some_iff.1 hp).1; simp at this; exact this
  subst hi
  obtain rfl := Option.some.inj hp
  exact ⟨b, 0, some ⟨g, 0, none⟩, C, rfl, cell_block h rfl, cell_block h rfl, ho.2.txt, fun ad had => by rw [← Option.some.inj had]; exact ho.1⟩
end Go.Proofs.YtgpenpnobjecgaaGreatDoor

/- CutRuns -/
namespace Go.Proofs.YtgpenpnobjecgaaGreatDoor
set_option maxRecDepth 100000
open Go.RowKit Dk

/-- A file in a slice's first place. -/
structure FileOne (w : World) (b o : Nat) (s y : Bs) (B : Option Addr) (c : Nat) : Prop where
  nam : w.cell? ⟨b, o, none⟩ = some (strV s)
  byt : w.cell? ⟨b, o + 1, none⟩ = some (.slice B y.length c)
  txt : Txt w B y.length c y
theorem FileOne.below {w w' : World} {b o : Nat} {s y : Bs} {B : Option Addr} {c : Nat} (h : FileOne w b o s y B c) (hb : RowKit.Below w.heap.size w w') : w'.cell? ⟨b, o, none⟩ = some (strV s) ∧ w'.cell? ⟨b, o + 1, none⟩ = some (.slice B y.length c) ∧ Txt w' B y.length c y :=
  ⟨(hb.cell (p := ⟨b, o, none⟩) (World.block_lt_of_cell? w _ h.nam)).trans h.nam, (hb.cell (p := ⟨b, o + 1, none⟩) (World.block_lt_of_cell? w _ h.byt)).trans h.byt, h.txt.below hb⟩
theorem run_index_afile (w : World) (b o C : Nat) : (Instr.indexAt 36 (.slice (some ⟨b, o, none⟩) 1 C) (.int .i64 0)).run Tryz.prog w = .ok (.pointer (some ⟨b, o, none⟩)) w := by
  have h := run_indexAt_slice (P := Tryz.prog) (w := w) 36 ⟨b, o, none⟩ 1 C .i64 0 Tryz.underlying36
  rw [if_pos ⟨by omega, by omega⟩, show (sizeOf (Tryz.prog.elem 36)).run Tryz.prog w = .ok 2 w by kernel_rfl] at h
  rw [h]
  simp [Result.andThen, Addr.add_lit]
theorem run_eql_int_same {P : Program} (w : World) (t : TypeId) (p q : Operand) (a : Int) : (binW .eql t p q (.int .i64 a) (.int .i64 a)).run P w = .ok (.bool true) w := by
  have hg : (eqGuard .eql t p q (.int .i64 a) (.int .i64 a)).run P w = .ok () w := rfl
  have h2 : (binOp .eql t (.int .i64 a) (.int .i64 a)).run P w = .ok (.bool true) w := by simp [go_sem]
  simp [binW, Sem.run_bind, hg, h2]
theorem run_eql_str_same (w : World) (p q : Operand) (s : Bs) : (binW .eql 9 p q (strV s) (strV s)).run Tryz.prog w = .ok (.bool true) w := by
  have hg : (eqGuard .eql 9 p q (strV s) (strV s)).run Tryz.prog w = .ok () w := by kernel_rfl
  simp [binW, Sem.run_bind, hg, eql_strV_same w _ s]
def yTxt (l : List UInt8) : Yld Low := Yld.pr (fun v w => ∃ B C, v = .slice B l.length C ∧ Txt w B l.length C l) fun _ _ _ ⟨B, C, e, h⟩ hl => ⟨B, C, e, h.below hl⟩
end Go.Proofs.YtgpenpnobjecgaaGreatDoor
