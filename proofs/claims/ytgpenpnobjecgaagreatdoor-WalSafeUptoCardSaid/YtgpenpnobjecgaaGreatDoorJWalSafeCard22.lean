/- The steps of Append and Sync. -/
import Derived.Deep.RegionLaw
import Derived.Test.YtgpenpnobjecgaaGreatDoorJWalSafeCard19
import Derived.Test.YtgpenpnobjecgaaGreatDoorJWalSafeCard21
/- WGet -/
namespace Go.Proofs.YtgpenpnobjecgaaGreatDoor
set_option maxRecDepth 100000
open Go.RowKit Dk

section
variable {w w' : World} {g dg : Nat} {L : LogS} {lf : Nat → Prop} {sA : Option Addr} {sC : Nat} {rA : Option Addr} {rC : Nat} {rblk : Option Nat} {qs : List (Option Addr × Nat)}
/-- Its records as a slice of slices. -/
theorem LMem.rows (h : LMem w g dg L lf sA sC rA rC rblk qs) : RowsAt w rA L.records.length rC L.records (fun b => lf b ∧ b ≠ g) := by
  refine ⟨rfl, h.recs.row.cap.1, h.recs.row.nilcap, fun ad had => ?_, fun i p hp => ?_⟩
  · rcases h.recs.row.form with ⟨h0, _⟩ | ⟨b, cur, hb, hk, _⟩
    · rw [h.rn h0] at had; cases had
    · rw [hb] at had
      exact ⟨b, 0, (Option.some.inj had).symm, h.recs.row.lt b hk, h.rf b hk⟩
  · have hq := h.qlen
    have hi : i < L.records.length := (List.getElem?_eq_some_iff.1 hp).1
    obtain ⟨q, hqi⟩ : ∃ q, qs[i]? = some q := ⟨_, List.getElem?_eq_getElem (by omega)⟩
    have hel : (List.zipWith recEl L.records qs)[i]? = some (recEl p q) := by rw [List.getElem?_zipWith, hp, hqi]
    have hsz : ∀ x ∈ List.zipWith recEl L.records qs, x.cells.length = 1 := fun x hx => by
      obtain ⟨_, _, _, _, rfl⟩ := zip_part hx
      rfl
    have hget := getElem_flat El.cells 1 _ hsz i 0 _ hel (by omega)
    obtain ⟨b, hb, _, c0⟩ := h.recs.row.cell (j := i) (v := .slice q.1 p.length q.2) (by
      rw [Nat.mul_one, Nat.add_zero] at hget
      rw [show (elCells (List.zipWith recEl L.records qs))[i]? = _ from hget]
      rfl)
    obtain ⟨h3, _⟩ := h.recs.part (recEl p q) (List.mem_of_getElem? hel) (q.1, q.2, p) (by simp [recEl])
    exact ⟨b, 0, q.1, q.2, hb, by rw [Nat.zero_add]; exact c0, h3, fun ad had => h.pf q (List.mem_of_getElem? hqi) ad had⟩
set_option maxRecDepth 100000 in
theorem epoch_any (h : LMem w g dg L lf sA sC rA rC rblk qs) : Calls Tryz.prog 23 #[ptrV g] w fun e w' => e = .returned (.int .i64 L.epoch) ∧ w = w' := by
  have c1 : w.cell? ⟨g, 1, none⟩ = some (.int .i64 L.epoch) := cell_block h.row rfl
  clear h
  unfold ptrV
  go_enter Tryz.func23, Tryz.ntmps23
  go_wp2
  go_ret
  exact ⟨rfl, rfl⟩
set_option maxRecDepth 100000 in
theorem wcut_any (h : LMem w g dg L lf sA sC rA rC rblk qs) : Calls Tryz.prog 17 #[ptrV g] w fun e w' => e = .returned (.int .i64 L.cut) ∧ w = w' := by
  have c1 : w.cell? ⟨g, 5, none⟩ = some (.int .i64 L.cut) := cell_block h.row rfl
  clear h
  unfold ptrV
  go_enter Tryz.func17, Tryz.ntmps17
  go_wp2
  go_ret
  exact ⟨rfl, rfl⟩
set_option maxRecDepth 100000 in
theorem wcount_any (h : LMem w g dg L lf sA sC rA rC rblk qs) : Calls Tryz.prog 46 #[ptrV g] w fun e w' => e = .returned (.int .i64 L.records.length) ∧ w = w' := by
  have c1 : w.cell? ⟨g, 3, none⟩ = some (.slice rA L.records.length rC) := cell_block h.row rfl
  clear h
  unfold ptrV
  go_enter Tryz.func46, Tryz.ntmps46
  go_wp2
  go_ret
  exact ⟨rfl, rfl⟩
set_option maxRecDepth 100000 in
theorem wbroken_any (h : LMem w g dg L lf sA sC rA rC rblk qs) : Calls Tryz.prog 41 #[ptrV g] w fun e w' => e = .returned (.bool L.broken) ∧ w = w' := by
  have c1 : w.cell? ⟨g, 6, none⟩ = some (.bool L.broken) := cell_block h.row rfl
  clear h
  unfold ptrV
  go_enter Tryz.func41, Tryz.ntmps41
  go_wp2
  go_ret
  exact ⟨rfl, rfl⟩
/-- New bytes of the call's own. -/
structure RetOwn (w : World) (l : Bs) (e : Ending) (w' : World) (k C : Nat) : Prop where
  ret : e = .returned (.slice (some ⟨k, 0, none⟩) l.length C)
  own : OwnR w' 5 1 (some ⟨k, 0, none⟩) l.length C (l.map V8) (some k)
  new : w.heap.size ≤ k
  low : Below w.heap.size w w'
theorem own_addr {w : World} {B : Option Addr} {n D : Nat} {xs : List Value} {e size : Nat} {k : Nat} (h : OwnR w e size B n D xs (some k)) : B = some ⟨k, 0, none⟩ := by
  rcases h.form with ⟨h0, _⟩ | ⟨g, cur, h1, h2, _⟩
  · cases h0
  · rw [h1, Option.some.inj h2]
set_option maxRecDepth 100000 in
set_option maxHeartbeats 1000000 in
theorem wstate_any (h : LMem w g dg L lf sA sC rA rC rblk qs) (hl : L.state.length ≤ 1048576) : Calls Tryz.prog 19 #[ptrV g] w fun e w' => ∃ k C, RetOwn w L.state e w' k C := by
  have c1 : w.cell? ⟨g, 2, none⟩ = some (.slice sA L.state.length sC) := cell_block h.row rfl
  have hgl := in_heap h.row
  have X := Lib.hid h.st
  generalize L.state = y at *
  have z1 : 0 + y.length ≤ maxLen := by unfold maxLen; omega
  have z2 : (0 + y.length) * 1 ≤ 140737488355328 := by omega
  clear h
  unfold ptrV
  go_enter Tryz.func19, Tryz.ntmps19
  go_wp2_with (at_builtin; refine wpList_app rfl _ _ 22 rfl 5 1 1 _ Tryz.underlying22 info_u8r rfl (by decide) (some ⟨w.heap.size, 0, none⟩) 0 0 [] (some w.heap.size) rfl (OwnR.of_row (blk1 _ _) (Nat.le_refl _) (Nat.zero_le _) rfl rfl) sA y.length sC (y.map V8) rfl (by simp) (X.out.below (low1 _ _)).src.at_.cells X.out.src.nil X.out.src.od (bone y) z1 z2 ?_; intro B2 D2 w2 b2 h1 h2 h3; have H1 := Lib.hid h1; have H2 := Lib.hid h2; have H3 := Lib.hid h3; clear h1 h2 h3)
  go_ret
  obtain ⟨k, hk, hkn⟩ : ∃ k, b2 = some k ∧ w.heap.size ≤ k := by
    rcases H3.out with e | e
    · exact ⟨_, e, Nat.le_refl _⟩
    · exact ⟨_, e, by simp⟩
  subst hk
  have H := H1.out
  have hB := own_addr H
  subst hB
  simp only [Nat.zero_add, List.nil_append] at H
  exact ⟨k, D2, rfl, H, hkn, ((Kept.of_below (F := fun b => b = w.heap.size) (low1 w (.cells #[] 5))).grown H2.out fun b hb => .inl (Option.some.inj hb).symm).below fun b hlt e => by omega⟩
def soleV (p : Bs) (q : Nat × Nat) : Value := .slice (some ⟨q.1, 0, none⟩) p.length q.2
/-- New slices of bytes, each with a block of its own. -/
structure Sole (w0 w : World) (l : List Bs) (A : Option Addr) (C : Nat) (blk : Option Nat) (qs : List (Nat × Nat)) : Prop where
  row : OwnR w 22 1 A l.length C (List.zipWith soleV l qs) blk
  len : qs.length = l.length
  own : ∀ (i : Nat) (p : Bs) (q : Nat × Nat), l[i]? = some p → qs[i]? = some q → OwnR w 5 1 (some ⟨q.1, 0, none⟩) p.length q.2 (p.map V8) (some q.1)
  nodup : (qs.map (·.1)).Nodup
  new : ∀ q ∈ qs, w0.heap.size ≤ q.1 ∧ blk ≠ some q.1
  rnew : ∀ b, blk = some b → w0.heap.size ≤ b
  rnil : blk = none → A = none
theorem Sole.nil (w0 w : World) : Sole w0 w [] none 0 none [] := ⟨OwnR.nil _ _ _, rfl, (fun i p q h => by cases h), List.nodup_nil, (fun q h => by cases h), (fun b h => by cases h), fun _ => rfl⟩
theorem Sole.kept {w0 w w' : World} {l : List Bs} {A : Option Addr} {C : Nat} {blk : Option Nat} {qs : List (Nat × Nat)} {F : Nat → Prop} (h : Sole w0 w l A C blk qs) (hk : Kept F w w') (hF : ∀ b, w0.heap.size ≤ b → b < w.heap.size → ¬ F b) : Sole w0 w' l A C blk qs :=
  ⟨h.row.kept hk fun b hb => hF b (h.rnew b hb) (h.row.lt b hb), h.len, fun i p q hp hq => (h.own i p q hp hq).kept hk fun b hb => by
    obtain rfl := Option.some.inj hb
    exact hF _ (h.new q (List.mem_of_getElem? hq)).1 ((h.own i p q hp hq).lt _ rfl), h.nodup, h.new, h.rnew, h.rnil⟩
theorem Sole.below {w0 w w' : World} {l : List Bs} {A : Option Addr} {C : Nat} {blk : Option Nat} {qs : List (Nat × Nat)} (h : Sole w0 w l A C blk qs) (hb : Below w.heap.size w w') : Sole w0 w' l A C blk qs := h.kept (Kept.of_below (F := fun _ => False) hb) fun _ _ _ => id
theorem Sole.push {w0 w1 w2 : World} {l : List Bs} {A B : Option Addr} {C D D2 k : Nat} {blk blk' : Option Nat} {qs : List (Nat × Nat)} (h : Sole w0 w1 l A C blk qs) (r : Bs) (h0 : w0.heap.size ≤ w1.heap.size) (hg : w1.grownBy w2 blk) (hr : OwnR w2 22 1 B (l.length + 1) D (List.zipWith soleV l qs ++ [soleV r (k, D2)]) blk') (hb : blk' = blk ∨ blk' = some w1.heap.size)
    (hk : OwnR w1 5 1 (some ⟨k, 0, none⟩) r.length D2 (r.map V8) (some k)) (hn : w0.heap.size ≤ k) (hkb : blk ≠ some k) (hkq : ∀ q ∈ qs, q.1 ≠ k) : Sole w0 w2 (l ++ [r]) B D blk' (qs ++ [(k, D2)]) := by
  have hK : Kept (fun b => blk = some b) w1 w2 := (Kept.refl (fun b => blk = some b) w1).grown hg fun b e => .inl e
  have hbn : ∀ b, b < w1.heap.size → blk ≠ some b → blk' ≠ some b := fun b hlt hne e => by
    rcases hb with h1 | h1
    · exact hne (h1 ▸ e)
    · rw [h1] at e; have := Option.some.inj e; omega
  have hkl := hk.lt k rfl
  refine ⟨?_, by simp [h.len], fun i p q hp hq => ?_, ?_, fun q hq => ?_, fun b e => ?_, fun e => ?_⟩
  · rw [List.zipWith_append h.len.symm, List.length_append, List.length_singleton]
    exact hr
  · by_cases hi : i < l.length
    · rw [List.getElem?_append_left hi] at hp
      rw [List.getElem?_append_left (by rw [h.len]; exact hi)] at hq
      exact (h.own i p q hp hq).kept hK fun b e => by
        obtain rfl := Option.some.inj e
        exact (h.new q (List.mem_of_getElem? hq)).2
    · rw [List.getElem?_append_right (by omega)] at hp
      rw [List.getElem?_append_right (by rw [h.len]; omega)] at hq
      rw [h.len] at hq
      have hi0 : i - l.length = 0 := by
        have := (List.getElem?_eq_some_iff.1 hp).1
        simp at this
        omega
      rw [hi0] at hp hq
      obtain rfl := Option.some.inj hp
      obtain rfl := Option.some.inj hq
      exact hk.kept hK fun b e => by obtain rfl := Option.some.inj e; exact hkb
  · rw [List.map_append, List.nodup_append]
    refine ⟨h.nodup, by simp, fun a ha b hb e => ?_⟩
    obtain ⟨q, hq, rfl⟩ := List.mem_map.1 ha
    simp at hb
    exact hkq q hq (e.trans hb)
  · rcases List.mem_append.1 hq with hq | hq
    · have := h.new q hq
      obtain ⟨i, hi⟩ := List.mem_iff_getElem?.1 hq
      have hil := (List.getElem?_eq_some_iff.1 hi).1
      obtain ⟨p, hp⟩ : ∃ p, l[i]? = some p := ⟨_, List.getElem?_eq_getElem (by rw [← h.len]; exact hil)⟩
      exact ⟨this.1, hbn _ ((h.own i p q hp hi).lt _ rfl) this.2⟩
    · obtain rfl := List.mem_singleton.1 hq
      exact ⟨hn, hbn _ hkl hkb⟩
  · rcases hb with h1 | h1
    · exact h.rnew b (h1 ▸ e)
    · rw [h1] at e; have := Option.some.inj e; omega
  · rcases hr.form with ⟨_, h0, _⟩ | ⟨g2, _, _, h2, _⟩
    · omega
    · rw [e] at h2; cases h2
set_option maxRecDepth 100000 in
set_option maxHeartbeats 1000000 in
theorem wrecords_any (h : LMem w g dg L lf sA sC rA rC rblk qs) (hr : ∀ r ∈ L.records, r.length ≤ 65536) (hc : L.records.length ≤ 4194304) : Calls Tryz.prog 21 #[ptrV g] w fun e w' => ∃ A C, e = .returned (.slice A L.records.length C) ∧ (∃ blk qs', Sole w w' L.records A C blk qs') ∧ Below w.heap.size w w' := by
  have c1 : w.cell? ⟨g, 3, none⟩ = some (.slice rA L.records.length rC) := cell_block h.row rfl
  have hgl := in_heap h.row
  have Y := Lib.hid h.rows
  have HR := Lib.hid hr
  generalize L.records = l at *
  clear h hr
  unfold ptrV
  go_enter Tryz.func21, Tryz.ntmps21
  go_wp2_with fail
  go_loopw [3, 13] (fun sv iv wr => ∃ (i : Nat) (A : Option Addr) (C : Nat) (blk : Option Nat) (qs' : List (Nat × Nat)), sv = .slice A i C ∧ iv = .int .i64 i ∧ Hid (i ≤ l.length ∧ Sole w wr (l.take i) A C blk qs' ∧ RowKit.Below w.heap.size w wr)) (fun _ iv _ => l.length - (intOf iv).toNat)
  case atStart => exact ⟨0, none, 0, none, [], rfl, rfl, Lib.hid ⟨Nat.zero_le _, Sole.nil _ _, Below.refl _ _⟩⟩
  case round =>
    obtain ⟨i, A, C, blk, qs', rfl, rfl, hI⟩ := hrel
    by_cases hlt : i < l.length
    · have h1 : (i : Int) < l.length := by omega
      obtain ⟨r, hr⟩ : ∃ r, l[i]? = some r := ⟨_, List.getElem?_eq_getElem hlt⟩
      obtain ⟨b, o, Br, cr, rfl, q1, q2, _⟩ := (Y.out.below hI.out.2.2).each i r hr
      have hrl := HR.out r (List.mem_of_getElem? hr)
      have Hr := Lib.hid hr
      have X := Lib.hid q2
      have z1 : 0 + r.length ≤ maxLen := by unfold maxLen; omega
      have z2 : (0 + r.length) * 1 ≤ 140737488355328 := by omega
      have z3 : i + 1 ≤ maxLen := by unfold maxLen; omega
      have z4 : (i + 1) * 24 ≤ 140737488355328 := by omega
      have hI1 := Lib.hid (show OwnR wr 22 1 A i C (List.zipWith soleV (l.take i) qs') blk by have := hI.out.2.1.row; rwa [List.length_take, Nat.min_eq_left (by omega)] at this)
      clear hr q2 hrl
      go_wp2_with (first
        | (at_builtin; refine wpList_app rfl _ _ 23 rfl 22 1 24 (.slice none 0 0) Tryz.underlying23 (by kernel_rfl) rfl (by decide) A i C _ blk rfl (hI1.out.below (bthen HB2.out (low1 _ _))) (some ⟨w2.heap.size, 0, none⟩) 1 1 [.slice B2 r.length D2] rfl rfl (CellsAt.of_block (blk1 _ _)) (fun h => by cases h) (fun ad h => ⟨_, _, (Option.some.inj h).symm⟩) (by simp; rfl) z3 z4 ?_; intro B8 D8 w8 b8 h1 h2 h3; have H81 := Lib.hid h1; have H82 := Lib.hid h2; have H83 := Lib.hid h3; clear h1 h2 h3)
        | (at_builtin; refine wpList_app rfl _ _ 22 rfl 5 1 1 _ Tryz.underlying22 info_u8r rfl (by decide) (some ⟨wr.heap.size, 0, none⟩) 0 0 [] (some wr.heap.size) rfl (OwnR.of_row (blk1 _ _) (Nat.le_refl _) (Nat.zero_le _) rfl rfl) Br r.length cr (r.map V8) rfl (by simp) (X.out.below (low1 _ _)).src.at_.cells X.out.src.nil X.out.src.od (bone r) z1 z2 ?_; intro B2 D2 w2 b2 h1 h2 h3; simp only [Nat.zero_add, List.nil_append] at h1; have HB2 : Hid (RowKit.Below wr.heap.size wr w2) := Lib.hid (((Kept.of_below (F := fun b => b = wr.heap.size) (low1 wr (.cells #[] 5))).grown h2 fun b hb => .inl (Option.some.inj hb).symm).below fun b hlt e => by omega); have H1 := Lib.hid h1; have H2 := Lib.hid h2; have H3 := Lib.hid h3; clear h1 h2 h3))
      have hs := hI.out.2.1
      have hlen : (l.take i).length = i := by rw [List.length_take]; omega
      obtain ⟨k, hk, hkn⟩ : ∃ k, b2 = some k ∧ wr.heap.size ≤ k := by
        rcases H3.out with e | e
        · exact ⟨_, e, Nat.le_refl _⟩
        · exact ⟨_, e, by simp⟩
      subst hk
      have HO := H1.out
      have hB := own_addr HO
      subst hB
      have hlow := bthen HB2.out (low1 w2 (.cells #[.slice (some ⟨k, 0, none⟩) r.length D2] 22))
      have hp := (hs.below hlow).push (k := k) (D2 := D2) r (Nat.le_trans hI.out.2.2.size hlow.size) H82.out (by rw [hlen]; exact H81.out) H83.out (HO.below (low1 _ _)) (Nat.le_trans hI.out.2.2.size hkn) (fun e => by have := hs.row.lt k e; omega) (fun q hq e => by
        obtain ⟨j, hj⟩ := List.mem_iff_getElem?.1 hq
        have hjl := (List.getElem?_eq_some_iff.1 hj).1
        obtain ⟨p, hp⟩ : ∃ p, (l.take i)[j]? = some p := ⟨_, List.getElem?_eq_getElem (by rw [← hs.len]; exact hjl)⟩
        have := (hs.own j p q hp hj).lt _ rfl
        omega)
      have htk : l.take i ++ [r] = l.take (i + 1) := by rw [List.take_add_one, Hr.out]; rfl
      rw [htk] at hp
      refine ⟨⟨i + 1, B8, D8, b8, _, rfl, by simp, Lib.hid ⟨by omega, hp, ?_⟩⟩, by simp [intOf]; omega⟩
      exact ((Kept.of_below (F := fun b => blk = some b) (bthen hI.out.2.2 hlow)).grown H82.out fun b e => .inl e).below fun b hlt e => by have := hs.rnew b e; omega
    · obtain rfl : i = l.length := by have := hI.out.1; omega
      have hi : ¬ (l.length : Int) < (l.length : Int) := by omega
      go_wp2
      go_ret
      have hs := hI.out.2.1
      rw [List.take_length] at hs
      exact ⟨A, C, rfl, ⟨blk, qs', hs⟩, hI.out.2.2⟩
end
end Go.Proofs.YtgpenpnobjecgaaGreatDoor

/- WDoes -/
namespace Go.Proofs.YtgpenpnobjecgaaGreatDoor
set_option maxRecDepth 100000
open Go.RowKit Dk

def funV (f : Nat × Array Value × Array Value) : Value := .func (.func f.1) f.2.1 f.2.2
set_option maxRecDepth 100000 in
set_option maxHeartbeats 1000000 in
theorem does_any {w : World} {g : Nat} (fs : List (Nat × Array Value × Array Value)) (A : Option Addr) (C : Nat) (I : Nat → World → Prop) (S : Nat → World → Prop)
    (hA : ∀ i wx, I i wx → CellsAt wx A (fs.map funV))
    (hS : ∀ q wx, S q wx → ∃ cs t, wx.heap[g]? = some (.cells cs t (0, 0)) ∧ 6 < cs.size)
    (hB : ∀ i wx wy, I i wx → RowKit.Below wx.heap.size wx wy → I i wy)
    (hstep : ∀ i f wx, fs[i]? = some f → I i wx → Calls Tryz.prog f.1 (f.2.1 ++ f.2.2) wx fun e w' => (e = .returned (.int .i64 0) ∧ I (i + 1) w') ∨ ∃ q : Nat, q ≠ 0 ∧ e = .returned (.int .i64 q) ∧ S q w')
    (hent : ∀ f ∈ fs, ∀ (args : Array Value) (w : World), (callFunc f.1 args).run Tryz.prog w = .ok (.enter f.1 args) w)
    (hl : fs.length ≤ 1000) (h0 : I 0 w) :
    Calls Tryz.prog 66 #[ptrV g, .slice A fs.length C] w fun e w' => (e = .returned (.int .i64 0) ∧ I fs.length w') ∨ ∃ (q : Nat) (wx : World), q ≠ 0 ∧ e = .returned (.int .i64 q) ∧ S q wx ∧ w' = wx.setCell ⟨g, 6, none⟩ (.bool true) := by
  have HA := Lib.hid hA
  have HS := Lib.hid hS
  have HB := Lib.hid hB
  have HST := Lib.hid hstep
  have H0 := Lib.hid h0
  have HE := Lib.hid hent
  clear hA hS hB hstep h0 hent
  unfold ptrV
  go_enter Tryz.func66, Tryz.ntmps66
  go_wp2
  go_loopw [10] (fun iv wr => ∃ i : Nat, iv = .int .i64 i ∧ Hid (i ≤ fs.length ∧ I i wr)) (fun iv _ => fs.length - (intOf iv).toNat)
  case atStart => exact ⟨0, rfl, Lib.hid ⟨Nat.zero_le _, H0.out⟩⟩
  case round =>
    obtain ⟨i, rfl, hI⟩ := hrel
    by_cases hlt : i < fs.length
    · have h1 : (i : Int) < fs.length := by omega
      obtain ⟨⟨k, first, cap⟩, hf⟩ : ∃ f, fs[i]? = some f := ⟨_, List.getElem?_eq_getElem hlt⟩
      obtain ⟨b, o, rfl, hc⟩ := (HA.out i wr hI.out.2).at_ (by rw [List.length_map]; omega)
      have hcell : wr.cell? ⟨b, o + i, none⟩ = some (.func (.func k) first cap) := hc i _ (by rw [List.getElem?_map, hf]; rfl)
      have HF := Lib.hid hf
      have hce := fun W => HE.out _ (List.mem_of_getElem? hf) (first ++ cap) W
      clear hc hf
      go_wp2
      refine (HST.out i _ _ HF.out hI.out.2).mono ?_
      intro e w1 h
      rcases h with ⟨rfl, h2⟩ | ⟨q, hq, rfl, h2⟩
      · have H2 := Lib.hid h2
        clear h2
        go_wp2
        exact ⟨⟨i + 1, by simp, Lib.hid ⟨by omega, H2.out⟩⟩, by simp [intOf]; omega⟩
      · have hq' : ¬ (q : Int) = 0 := by omega
        obtain ⟨cs, t, hrow, h6⟩ := HS.out q w1 h2
        have fz := frozen_row hrow
        have hg := in_heap hrow
        obtain ⟨v6, hv6⟩ : ∃ v, w1.cell? ⟨g, 6, none⟩ = some v := ⟨_, cell_block hrow (Array.getElem?_eq_getElem h6)⟩
        have H2 := Lib.hid h2
        clear h2 hrow
        go_wp2
        go_ret
        exact .inr ⟨q, w1, hq, rfl, H2.out, rfl⟩
    · obtain rfl : i = fs.length := by have := hI.out.1; omega
      have hi : ¬ (fs.length : Int) < (fs.length : Int) := by omega
      go_wp2
      go_ret
      exact .inl ⟨rfl, hI.out.2⟩
end Go.Proofs.YtgpenpnobjecgaaGreatDoor

/- WApp1 -/
namespace Go.Proofs.YtgpenpnobjecgaaGreatDoor
set_option maxRecDepth 100000
open Go.RowKit Dk

section
variable {w0 w : World} {g dg : Nat} {d : DiskS} {recs : List Nat} {own : Nat → Option DTag} {L : LogS} {lf : Nat → Prop} {sA : Option Addr} {sC : Nat} {rA : Option Addr} {rC : Nat} {rblk : Option Nat} {qs : List (Option Addr × Nat)}
set_option maxRecDepth 100000 in
set_option maxHeartbeats 1000000 in
theorem append1_any (hd : DAt w dg d recs own) (hO : Ok d) (hH : Home w0 w (foot own)) (M : LMem w g dg L lf sA sC rA rC rblk qs) {lb bb : Nat} (hlb : w.heap[lb]? = some (.cells #[ptrV g] 38 (0, 0))) (b : Bs) (A : Option Addr) (C : Nat) (hbb : w.heap[bb]? = some (.cells #[.slice A b.length C] 22 (0, 0))) (X : Txt w A b.length C b) (hb : b.length ≤ 4611686018427387904) (hbf : ∀ ad, A = some ad → ¬ foot own ad.block) (hn : L.epoch < 9223372036854775808) :
    Calls Tryz.prog 70 #[ptrV lb, ptrV bb] w (DPost w dg own (Dk.append d (nameW L.epoch) b)) := by
  have q0 : w.cell? ⟨g, 0, none⟩ = some (ptrV dg) := cell_block M.row rfl
  have q1 : w.cell? ⟨g, 1, none⟩ = some (.int .i64 L.epoch) := cell_block M.row rfl
  have q2 : w.cell? ⟨lb, 0, none⟩ = some (ptrV g) := cell_block hlb rfl
  have q3 : w.cell? ⟨bb, 0, none⟩ = some (.slice A b.length C) := cell_block hbb rfl
  have hgl := in_heap M.row
  have hll := in_heap hlb
  have hbl := in_heap hbb
  have HNM := Lib.hid (fun W hW => wname_any L.epoch hn W (hH.tab.low (w' := W) hW))
  have HAP := Lib.hid (fun W (hW : RowKit.Below w.heap.size w W) => append_any (hd.below hW) hO (nameW L.epoch) b (by have := nameW_len L.epoch hn; unfold maxLen; omega) A C (X.below hW) hb hbf)
  clear hd hO hH M hlb hbb X hbf
  unfold ptrV at *
  go_enter Tryz.func70, Tryz.ntmps70
  go_upto_region 1 with (fail)
  go_region_law (first
    | (go_simp; go_at_call 71; refine (HAP.out _ HB1.out).mono ?_; rintro e w2 ⟨rfl, h1⟩; have H2 := Lib.hid h1; clear h1)
    | (go_simp; go_at_call 64; refine (HNM.out _ ((Below.refl _ _).drew)).mono ?_; rintro e w1 ⟨rfl, h1⟩; have HB1 : Hid (RowKit.Below w.heap.size w w1) := Lib.hid (bthen ((Below.refl _ _).drew) h1); have q01 : w1.cell? ⟨bb, 0, none⟩ = some (.slice A b.length C) := (HB1.out.cell (p := ⟨bb, 0, none⟩) hbl).trans q3; have q02 : w1.cell? ⟨g, 0, none⟩ = some (.pointer (some ⟨dg, 0, none⟩)) := (HB1.out.cell (p := ⟨g, 0, none⟩) hgl).trans q0; have q03 : w1.cell? ⟨lb, 0, none⟩ = some (.pointer (some ⟨g, 0, none⟩)) := (HB1.out.cell (p := ⟨lb, 0, none⟩) hll).trans q2; clear h1))
  all_goals
    go_wp2_with fail
    go_ret
    obtain ⟨h1, recs2, own2, h2, h3⟩ := H2.out
    exact ⟨rfl, h1, recs2, own2, h2, (Turned.below HB1.out).trans h3⟩
end
end Go.Proofs.YtgpenpnobjecgaaGreatDoor
