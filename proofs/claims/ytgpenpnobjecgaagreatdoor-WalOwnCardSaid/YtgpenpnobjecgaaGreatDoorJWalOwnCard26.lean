/- What a log tells: (*wal.Log).Epoch, Count, Cut, Broken, State, Records. -/
import Derived.Test.YtgpenpnobjecgaaGreatDoorJWalOwnCard25
/- WLog -/
namespace Go.Proofs.YtgpenpnobjecgaaGreatDoor
set_option maxRecDepth 100000
open Go.RowKit Dk

/-- A log as data. -/
structure LogS where
  epoch : Nat
  state : Bs
  records : List Bs
  size : Nat
  cut : Nat
  broken : Bool
/-- A record as an element. -/
def recEl (p : Bs) (q : Option Addr × Nat) : El := ⟨[.slice q.1 p.length q.2], [(q.1, q.2, p)]⟩
def logRow (dg : Nat) (L : LogS) (sA : Option Addr) (sC : Nat) (rA : Option Addr) (rC : Nat) : Array Value :=
  #[ptrV dg, .int .i64 L.epoch, .slice sA L.state.length sC, .slice rA L.records.length rC, .int .i64 L.size, .int .i64 L.cut, .bool L.broken]
/-- Block g holds the log, lf: its blocks. -/
structure LMem (w : World) (g dg : Nat) (L : LogS) (lf : Nat → Prop) (sA : Option Addr) (sC : Nat) (rA : Option Addr) (rC : Nat) (rblk : Option Nat) (qs : List (Option Addr × Nat)) : Prop where
  row : w.heap[g]? = some (.cells (logRow dg L sA sC rA rC) 114 (0, 0))
  st : Txt w sA L.state.length sC L.state
  stf : ∀ ad, sA = some ad → lf ad.block ∧ ad.block ≠ g
  recs : Bunch w 0 22 1 rA L.records.length rC (List.zipWith recEl L.records qs) rblk
  qlen : qs.length = L.records.length
  rf : ∀ b, rblk = some b → lf b ∧ b ≠ g
  rn : rblk = none → rA = none
  pf : ∀ q ∈ qs, ∀ ad, q.1 = some ad → lf ad.block ∧ ad.block ≠ g
  me : lf g
  lt : ∀ b, lf b → b < w.heap.size
  sr : ∀ ad, sA = some ad → rblk ≠ some ad.block
def LogAt (w : World) (g dg : Nat) (L : LogS) (lf : Nat → Prop) : Prop := ∃ sA sC rA rC rblk qs, LMem w g dg L lf sA sC rA rC rblk qs
section
variable {w w' : World} {g dg : Nat} {L : LogS} {lf : Nat → Prop} {sA : Option Addr} {sC : Nat} {rA : Option Addr} {rC : Nat} {rblk : Option Nat} {qs : List (Option Addr × Nat)}
theorem zip_part {l : List Bs} {x : El} (hx : x ∈ List.zipWith recEl l qs) : ∃ p ∈ l, ∃ q ∈ qs, x = recEl p q := by
  rw [List.zipWith_eq_zipWith_take_min] at hx
  obtain ⟨j, hj, rfl⟩ := List.mem_iff_getElem.1 hx
  rw [List.getElem_zipWith]
  exact ⟨_, List.mem_of_mem_take (List.getElem_mem _), _, List.mem_of_mem_take (List.getElem_mem _), rfl⟩
theorem LMem.bunch {F : Nat → Prop} (h : LMem w g dg L lf sA sC rA rC rblk qs) (hk : Kept F w w') (hF : ∀ b, lf b → b ≠ g → ¬ F b) : Bunch w' 0 22 1 rA L.records.length rC (List.zipWith recEl L.records qs) rblk :=
  ⟨h.recs.row.kept hk fun b hb => hF b (h.rf b hb).1 (h.rf b hb).2, fun _ _ => Nat.zero_le _, fun x hx q hq => by
    obtain ⟨h1, h2⟩ := h.recs.part x hx q hq
    refine ⟨h1.kept hk fun ad had _ => ?_, h2⟩
    obtain ⟨p, _, q2, hq2, rfl⟩ := zip_part hx
    obtain rfl := List.mem_singleton.1 (show q ∈ [(q2.1, q2.2, p)] from hq)
    have := h.pf q2 hq2 ad had
    exact hF _ this.1 this.2⟩
/-- Its block anew, all else of it as it was. -/
theorem LMem.rerow {F : Nat → Prop} (h : LMem w g dg L lf sA sC rA rC rblk qs) (hk : Kept F w w') (hF : ∀ b, lf b → b ≠ g → ¬ F b) (L' : LogS) (hs : L'.state = L.state) (hr : L'.records = L.records) (hrow : w'.heap[g]? = some (.cells (logRow dg L' sA sC rA rC) 114 (0, 0))) : LMem w' g dg L' lf sA sC rA rC rblk qs := by
  have hb := h.bunch hk hF
  refine ⟨hrow, ?_, h.stf, by rw [hr]; exact hb, by rw [hr]; exact h.qlen, h.rf, h.rn, h.pf, h.me, fun b hb => Nat.lt_of_lt_of_le (h.lt b hb) hk.size, h.sr⟩
  rw [hs]
  exact h.st.kept hk fun ad had _ => hF _ (h.stf ad had).1 (h.stf ad had).2
theorem LMem.kept {F : Nat → Prop} (h : LMem w g dg L lf sA sC rA rC rblk qs) (hk : Kept F w w') (hF : ∀ b, lf b → ¬ F b) : LMem w' g dg L lf sA sC rA rC rblk qs :=
  h.rerow hk (fun b hb _ => hF b hb) L rfl rfl (hk.blk h.row (hF g h.me))
theorem LogAt.kept {F : Nat → Prop} (h : LogAt w g dg L lf) (hk : Kept F w w') (hF : ∀ b, lf b → ¬ F b) : LogAt w' g dg L lf := by
  obtain ⟨sA, sC, rA, rC, rblk, qs, M⟩ := h
  exact ⟨sA, sC, rA, rC, rblk, qs, M.kept hk hF⟩
theorem LogAt.below (h : LogAt w g dg L lf) (hb : Below w.heap.size w w') : LogAt w' g dg L lf := h.kept (Kept.of_below (F := fun _ => False) hb) fun _ _ => id
/-- More blocks. -/
theorem LMem.wide {lf' : Nat → Prop} (h : LMem w g dg L lf sA sC rA rC rblk qs) (hs : ∀ b, lf b → lf' b) (hl : ∀ b, lf' b → b < w.heap.size) : LMem w g dg L lf' sA sC rA rC rblk qs :=
  ⟨h.row, h.st, fun ad had => ⟨hs _ (h.stf ad had).1, (h.stf ad had).2⟩, h.recs, h.qlen, fun b hb => ⟨hs _ (h.rf b hb).1, (h.rf b hb).2⟩, h.rn, fun q hq ad had => ⟨hs _ (h.pf q hq ad had).1, (h.pf q hq ad had).2⟩, hs _ h.me, hl, h.sr⟩
/-- What the log has, and all blocks from base on. -/
def from_ (lf : Nat → Prop) (base top : Nat) (b : Nat) : Prop := lf b ∨ (base ≤ b ∧ b < top)
/-- A new state. -/
theorem LMem.setState (h : LMem w g dg L lf sA sC rA rC rblk qs) {base : Nat} (hg : g < base) (_hbase : base ≤ w.heap.size) {A : Option Addr} {C : Nat} {s : Bs} (X : Txt w A s.length C s) (hA : ∀ ad, A = some ad → base ≤ ad.block) (hrb : ∀ ad, A = some ad → rblk ≠ some ad.block) :
    LMem (w.setCell ⟨g, 2, none⟩ (.slice A s.length C)) g dg { L with state := s } (from_ lf base w.heap.size) A C rA rC rblk qs := by
  have hk : Kept (· = g) w (w.setCell ⟨g, 2, none⟩ (.slice A s.length C)) := (Kept.refl (· = g) w).setCell _ _ (.inl rfl)
  have hsz : (w.setCell ⟨g, 2, none⟩ (.slice A s.length C)).heap.size = w.heap.size := by simp [World.setCell]
  have hb := h.bunch hk fun b _ hn => hn
  refine ⟨by rw [setCell_one h.row]; rfl, X.kept hk fun ad had _ e => by have := hA ad had; omega, fun ad had => ⟨.inr ⟨hA ad had, ?_⟩, by have := hA ad had; omega⟩, hb, h.qlen, fun b hb => ⟨.inl (h.rf b hb).1, (h.rf b hb).2⟩, h.rn, fun q hq ad had => ⟨.inl (h.pf q hq ad had).1, (h.pf q hq ad had).2⟩, .inl h.me, fun b hb => ?_, hrb⟩
  · obtain ⟨b2, o2, rfl, hlt⟩ := X.src.plain ad had
    exact hlt
  · rw [hsz]
    rcases hb with h1 | h1
    · exact h.lt b h1
    · exact h1.2
/-- Other records. -/
theorem LMem.setRecs (h : LMem w g dg L lf sA sC rA rC rblk qs) {base : Nat} {l : List Bs} {A : Option Addr} {C : Nat} {blk : Option Nat} {qs' : List (Option Addr × Nat)} (hB : Bunch w 0 22 1 A l.length C (List.zipWith recEl l qs') blk) (hq : qs'.length = l.length) (hA : ∀ b, blk = some b → (lf b ∧ b ≠ g) ∨ base ≤ b) (hn : blk = none → A = none) (hp : ∀ q ∈ qs', ∀ ad, q.1 = some ad → (lf ad.block ∧ ad.block ≠ g) ∨ base ≤ ad.block) (hg : g < base) (hsr : ∀ ad, sA = some ad → blk ≠ some ad.block) :
    LMem (w.setCell ⟨g, 3, none⟩ (.slice A l.length C)) g dg { L with records := l } (from_ lf base w.heap.size) sA sC A C blk qs' := by
  have hk : Kept (· = g) w (w.setCell ⟨g, 3, none⟩ (.slice A l.length C)) := (Kept.refl (· = g) w).setCell _ _ (.inl rfl)
  have hsz : (w.setCell ⟨g, 3, none⟩ (.slice A l.length C)).heap.size = w.heap.size := by simp [World.setCell]
  have ne : ∀ {b}, ((lf b ∧ b ≠ g) ∨ base ≤ b) → b ≠ g := fun h => h.elim (·.2) fun h e => by omega
  have inn : ∀ {b}, ((lf b ∧ b ≠ g) ∨ base ≤ b) → b < w.heap.size → from_ lf base w.heap.size b := fun h hl => h.elim (fun h => .inl h.1) fun h => .inr ⟨h, hl⟩
  have hpl : ∀ q ∈ qs', ∀ ad, q.1 = some ad → ad.block < w.heap.size := fun q hq2 ad had => by
    obtain ⟨i, hi, rfl⟩ := List.mem_iff_getElem.1 hq2
    have hel : recEl (l[i]'(by omega)) qs'[i] ∈ List.zipWith recEl l qs' := by
      have : i < (List.zipWith recEl l qs').length := by simp; omega
      have h2 := List.getElem_mem this
      rwa [List.getElem_zipWith] at h2
    have := (hB.part _ hel (qs'[i].1, qs'[i].2, l[i]'(by omega)) (by simp [recEl])).1
    obtain ⟨b2, o2, rfl, hlt⟩ := this.src.plain ad had
    exact hlt
  refine ⟨by rw [setCell_one h.row]; rfl, h.st.kept hk fun ad had _ => (h.stf ad had).2, fun ad had => ⟨.inl (h.stf ad had).1, (h.stf ad had).2⟩, ⟨hB.row.kept hk fun b hb => ne (hA b hb), fun _ _ => Nat.zero_le _, fun x hx q hq2 => ?_⟩, hq, fun b hb => ⟨inn (hA b hb) (hB.row.lt b hb), ne (hA b hb)⟩, hn, fun q hq2 ad had => ⟨inn (hp q hq2 ad had) (hpl q hq2 ad had), ne (hp q hq2 ad had)⟩, .inl h.me, fun b hb => ?_, hsr⟩
  · obtain ⟨h1, h2⟩ := hB.part x hx q hq2
    refine ⟨h1.kept hk fun ad had _ => ?_, h2⟩
    obtain ⟨p, _, q3, hq3, rfl⟩ := zip_part hx
    obtain rfl := List.mem_singleton.1 (show q ∈ [(q3.1, q3.2, p)] from hq2)
    exact ne (hp q3 hq3 ad had)
  · rw [hsz]
    rcases hb with h1 | h1
    · exact h.lt b h1
    · exact h1.2
end
end Go.Proofs.YtgpenpnobjecgaaGreatDoor

/- WGet -/
namespace Go.Proofs.YtgpenpnobjecgaaGreatDoor
set_option maxRecDepth 100000
open Go.RowKit Dk

section
variable {w w' : World} {g dg : Nat} {L : LogS} {lf : Nat → Prop} {sA : Option Addr} {sC : Nat} {rA : Option Addr} {rC : Nat} {rblk : Option Nat} {qs : List (Option Addr × Nat)}
/-- Its records as a slice of slices. -/
theorem LMem.rows (h : LMem w g dg L lf sA sC rA rC rblk qs) : RowsAt w rA L.records.length rC L.records (fun b => lf b ∧ b ≠ g) := by
  refine ⟨rfl, h.recs.row.cap.1, h.recs.row.nilcap, fun ad had => ?_, fun i p hp => ?_⟩
  · rcases h.recs.row.form with ⟨h0, _⟩ | ⟨b, cur, hb, hk, _⟩
    · rw [h.rn h0] at had; cases had
    · rw [hb] at had
      exact ⟨b, 0, (Option.some.inj had).symm, h.recs.row.lt b hk, h.rf b hk⟩
  · have hq := h.qlen
    have hi : i < L.records.length := (List.getElem?_eq_some_iff.1 hp).1
    obtain ⟨q, hqi⟩ : ∃ q, qs[i]? = some q := ⟨_, List.getElem?_eq_getElem (by omega)⟩
    have hel : (List.zipWith recEl L.records qs)[i]? = some (recEl p q) := by rw [List.getElem?_zipWith, hp, hqi]
    have hsz : ∀ x ∈ List.zipWith recEl L.records qs, x.cells.length = 1 := fun x hx => by
      obtain ⟨_, _, _, _, rfl⟩ := zip_part hx
      rfl
    have hget := getElem_flat El.cells 1 _ hsz i 0 _ hel (by omega)
    obtain ⟨b, hb, _, c0⟩ := h.recs.row.cell (j := i) (v := .slice q.1 p.length q.2) (by
      rw [Nat.mul_one, Nat.add_zero] at hget
      rw [show (elCells (List.zipWith recEl L.records qs))[i]? = _ from hget]
      rfl)
    obtain ⟨h3, _⟩ := h.recs.part (recEl p q) (List.mem_of_getElem? hel) (q.1, q.2, p) (by simp [recEl])
    exact ⟨b, 0, q.1, q.2, hb, by rw [Nat.zero_add]; exact c0, h3, fun ad had => h.pf q (List.mem_of_getElem? hqi) ad had⟩
set_option maxRecDepth 100000 in
theorem epoch_any (h : LMem w g dg L lf sA sC rA rC rblk qs) : Calls Tryz.prog 23 #[ptrV g] w fun e w' => e = .returned (.int .i64 L.epoch) ∧ w = w' := by
  have c1 : w.cell? ⟨g, 1, none⟩ = some (.int .i64 L.epoch) := cell_block h.row rfl
  clear h
  unfold ptrV
  go_enter Tryz.func23, Tryz.ntmps23
  go_wp2
  go_ret
  exact ⟨rfl, rfl⟩
set_option maxRecDepth 100000 in
theorem wcut_any (h : LMem w g dg L lf sA sC rA rC rblk qs) : Calls Tryz.prog 17 #[ptrV g] w fun e w' => e = .returned (.int .i64 L.cut) ∧ w = w' := by
  have c1 : w.cell? ⟨g, 5, none⟩ = some (.int .i64 L.cut) := cell_block h.row rfl
  clear h
  unfold ptrV
  go_enter Tryz.func17, Tryz.ntmps17
  go_wp2
  go_ret
  exact ⟨rfl, rfl⟩
set_option maxRecDepth 100000 in
theorem wcount_any (h : LMem w g dg L lf sA sC rA rC rblk qs) : Calls Tryz.prog 46 #[ptrV g] w fun e w' => e = .returned (.int .i64 L.records.length) ∧ w = w' := by
  have c1 : w.cell? ⟨g, 3, none⟩ = some (.slice rA L.records.length rC) := cell_block h.row rfl
  clear h
  unfold ptrV
  go_enter Tryz.func46, Tryz.ntmps46
  go_wp2
  go_ret
  exact ⟨rfl, rfl⟩
set_option maxRecDepth 100000 in
theorem wbroken_any (h : LMem w g dg L lf sA sC rA rC rblk qs) : Calls Tryz.prog 41 #[ptrV g] w fun e w' => e = .returned (.bool L.broken) ∧ w = w' := by
  have c1 : w.cell? ⟨g, 6, none⟩ = some (.bool L.broken) := cell_block h.row rfl
  clear h
  unfold ptrV
  go_enter Tryz.func41, Tryz.ntmps41
  go_wp2
  go_ret
  exact ⟨rfl, rfl⟩
/-- New bytes of the call's own. -/
structure RetOwn (w : World) (l : Bs) (e : Ending) (w' : World) (k C : Nat) : Prop where
  ret : e = .returned (.slice (some ⟨k, 0, none⟩) l.length C)
  own : OwnR w' 5 1 (some ⟨k, 0, none⟩) l.length C (l.map V8) (some k)
  new : w.heap.size ≤ k
  low : Below w.heap.size w w'
theorem own_addr {w : World} {B : Option Addr} {n D : Nat} {xs : List Value} {e size : Nat} {k : Nat} (h : OwnR w e size B n D xs (some k)) : B = some ⟨k, 0, none⟩ := by
  rcases h.form with ⟨h0, _⟩ | ⟨g, cur, h1, h2, _⟩
  · cases h0
  · rw [h1, Option.some.inj h2]
set_option maxRecDepth 100000 in
set_option maxHeartbeats 1000000 in
theorem wstate_any (h : LMem w g dg L lf sA sC rA rC rblk qs) (hl : L.state.length ≤ 1048576) : Calls Tryz.prog 19 #[ptrV g] w fun e w' => ∃ k C, RetOwn w L.state e w' k C := by
  have c1 : w.cell? ⟨g, 2, none⟩ = some (.slice sA L.state.length sC) := cell_block h.row rfl
  have hgl := in_heap h.row
  have X := Lib.hid h.st
  generalize L.state = y at *
  have z1 : 0 + y.length ≤ maxLen := by unfold maxLen; omega
  have z2 : (0 + y.length) * 1 ≤ 140737488355328 := by omega
  clear h
  unfold ptrV
  go_enter Tryz.func19, Tryz.ntmps19
  go_wp2_with (at_builtin; refine wpList_app rfl _ _ 22 rfl 5 1 1 _ Tryz.underlying22 info_u8r rfl (by decide) (some ⟨w.heap.size, 0, none⟩) 0 0 [] (some w.heap.size) rfl (OwnR.of_row (blk1 _ _) (Nat.le_refl _) (Nat.zero_le _) rfl rfl) sA y.length sC (y.map V8) rfl (by simp) (X.out.below (low1 _ _)).src.at_.cells X.out.src.nil X.out.src.od (bone y) z1 z2 ?_; intro B2 D2 w2 b2 h1 h2 h3; have H1 := Lib.hid h1; have H2 := Lib.hid h2; have H3 := Lib.hid h3; clear h1 h2 h3)
  go_ret
  obtain ⟨k, hk, hkn⟩ : ∃ k, b2 = some k ∧ w.heap.size ≤ k := by
    rcases H3.out with e | e
    · exact ⟨_, e, Nat.le_refl _⟩
    · exact ⟨_, e, by simp⟩
  subst hk
  have H := H1.out
  have hB := own_addr H
  subst hB
  simp only [Nat.zero_add, List.nil_append] at H
  exact ⟨k, D2, rfl, H, hkn, ((Kept.of_below (F := fun b => b = w.heap.size) (low1 w (.cells #[] 5))).grown H2.out fun b hb => .inl (Option.some.inj hb).symm).below fun b hlt e => by omega⟩
def soleV (p : Bs) (q : Nat × Nat) : Value := .slice (some ⟨q.1, 0, none⟩) p.length q.2
/-- New slices of bytes, each with a block of its own. -/
structure Sole (w0 w : World) (l : List Bs) (A : Option Addr) (C : Nat) (blk : Option Nat) (qs : List (Nat × Nat)) : Prop where
  row : OwnR w 22 1 A l.length C (List.zipWith soleV l qs) blk
  len : qs.length = l.length
  own : ∀ (i : Nat) (p : Bs) (q : Nat × Nat), l[i]? = some p → qs[i]? = some q → OwnR w 5 1 (some ⟨q.1, 0, none⟩) p.length q.2 (p.map V8) (some q.1)
  nodup : (qs.map (·.1)).Nodup
  new : ∀ q ∈ qs, w0.heap.size ≤ q.1 ∧ blk ≠ some q.1
  rnew : ∀ b, blk = some b → w0.heap.size ≤ b
  rnil : blk = none → A = none
theorem Sole.nil (w0 w : World) : Sole w0 w [] none 0 none [] := ⟨OwnR.nil _ _ _, rfl, (fun i p q h => by cases h), List.nodup_nil, (fun q h => by cases h), (fun b h => by cases h), fun _ => rfl⟩
theorem Sole.kept {w0 w w' : World} {l : List Bs} {A : Option Addr} {C : Nat} {blk : Option Nat} {qs : List (Nat × Nat)} {F : Nat → Prop} (h : Sole w0 w l A C blk qs) (hk : Kept F w w') (hF : ∀ b, w0.heap.size ≤ b → b < w.heap.size → ¬ F b) : Sole w0 w' l A C blk qs :=
  ⟨h.row.kept hk fun b hb => hF b (h.rnew b hb) (h.row.lt b hb), h.len, fun i p q hp hq => (h.own i p q hp hq).kept hk fun b hb => by
    obtain rfl := Option.some.inj hb
    exact hF _ (h.new q (List.mem_of_getElem? hq)).1 ((h.own i p q hp hq).lt _ rfl), h.nodup, h.new, h.rnew, h.rnil⟩
theorem Sole.below {w0 w w' : World} {l : List Bs} {A : Option Addr} {C : Nat} {blk : Option Nat} {qs : List (Nat × Nat)} (h : Sole w0 w l A C blk qs) (hb : Below w.heap.size w w') : Sole w0 w' l A C blk qs := h.kept (Kept.of_below (F := fun _ => False) hb) fun _ _ _ => id
theorem Sole.push {w0 w1 w2 : World} {l : List Bs} {A B : Option Addr} {C D D2 k : Nat} {blk blk' : Option Nat} {qs : List (Nat × Nat)} (h : Sole w0 w1 l A C blk qs) (r : Bs) (h0 : w0.heap.size ≤ w1.heap.size) (hg : w1.grownBy w2 blk) (hr : OwnR w2 22 1 B (l.length + 1) D (List.zipWith soleV l qs ++ [soleV r (k, D2)]) blk') (hb : blk' = blk ∨ blk' = some w1.heap.size)
    (hk : OwnR w1 5 1 (some ⟨k, 0, none⟩) r.length D2 (r.map V8) (some k)) (hn : w0.heap.size ≤ k) (hkb : blk ≠ some k) (hkq : ∀ q ∈ qs, q.1 ≠ k) : Sole w0 w2 (l ++ [r]) B D blk' (qs ++ [(k, D2)]) := by
  have hK : Kept (fun b => blk = some b) w1 w2 := (Kept.refl (fun b => blk = some b) w1).grown hg fun b e => .inl e
  have hbn : ∀ b, b < w1.heap.size → blk ≠ some b → blk' ≠ some b := fun b hlt hne e => by
    rcases hb with h1 | h1
    · exact hne (h1 ▸ e)
    · rw [h1] at e; have := Option.some.inj e; omega
  have hkl := hk.lt k rfl
  refine ⟨?_, by simp [h.len], fun i p q hp hq => ?_, ?_, fun q hq => ?_, fun b e => ?_, fun e => ?_⟩
  · rw [List.zipWith_append h.len.symm, List.length_append, List.length_singleton]
    exact hr
  · by_cases hi : i < l.length
    · rw [List.getElem?_append_left hi] at hp
      rw [List.getElem?_append_left (by rw [h.len]; exact hi)] at hq
      exact (h.own i p q hp hq).kept hK fun b e => by
        obtain rfl := Option.some.inj e
        exact (h.new q (List.mem_of_getElem? hq)).2
    · rw [List.getElem?_append_right (by omega)] at hp
      rw [List.getElem?_append_right (by rw [h.len]; omega)] at hq
      rw [h.len] at hq
      have hi0 : i - l.length = 0 := by
        have := (List.getElem?_eq_some_iff.1 hp).1
        simp at this
        omega
      rw [hi0] at hp hq
      obtain rfl := Option.some.inj hp
      obtain rfl := Option.some.inj hq
      exact hk.kept hK fun b e => by obtain rfl := Option.some.inj e; exact hkb
  · rw [List.map_append, List.nodup_append]
    refine ⟨h.nodup, by simp, fun a ha b hb e => ?_⟩
    obtain ⟨q, hq, rfl⟩ := List.mem_map.1 ha
    simp at hb
    exact hkq q hq (e.trans hb)
  · rcases List.mem_append.1 hq with hq | hq
    · have := h.new q hq
      obtain ⟨i, hi⟩ := List.mem_iff_getElem?.1 hq
      have hil := (List.getElem?_eq_some_iff.1 hi).1
      obtain ⟨p, hp⟩ : ∃ p, l[i]? = some p := ⟨_, List.getElem?_eq_getElem (by rw [← h.len]; exact hil)⟩
      exact ⟨this.1, hbn _ ((h.own i p q hp hi).lt _ rfl) this.2⟩
    · obtain rfl := List.mem_singleton.1 hq
      exact ⟨hn, hbn _ hkl hkb⟩
  · rcases hb with h1 | h1
    · exact h.rnew b (h1 ▸ e)
    · rw [h1] at e; have := Option.some.inj e; omega
  · rcases hr.form with ⟨_, h0, _⟩ | ⟨g2, _, _, h2, _⟩
    · omega
    · rw [e] at h2; cases h2
set_option maxRecDepth 100000 in
set_option maxHeartbeats 1000000 in
theorem wrecords_any (h : LMem w g dg L lf sA sC rA rC rblk qs) (hr : ∀ r ∈ L.records, r.length ≤ 65536) (hc : L.records.length ≤ 4194304) : Calls Tryz.prog 21 #[ptrV g] w fun e w' => ∃ A C, e = .returned (.slice A L.records.length C) ∧ (∃ blk qs', Sole w w' L.records A C blk qs') ∧ Below w.heap.size w w' := by
  have c1 : w.cell? ⟨g, 3, none⟩ = some (.slice rA L.records.length rC) := cell_block h.row rfl
  have hgl := in_heap h.row
  have Y := Lib.hid h.rows
  have HR := Lib.hid hr
  generalize L.records = l at *
  clear h hr
  unfold ptrV
  go_enter Tryz.func21, Tryz.ntmps21
  go_wp2_with fail
  go_loopw [3, 13] (fun sv iv wr => ∃ (i : Nat) (A : Option Addr) (C : Nat) (blk : Option Nat) (qs' : List (Nat × Nat)), sv = .slice A i C ∧ iv = .int .i64 i ∧ Hid (i ≤ l.length ∧ Sole w wr (l.take i) A C blk qs' ∧ RowKit.Below w.heap.size w wr)) (fun _ iv _ => l.length - (intOf iv).toNat)
  case atStart => exact ⟨0, none, 0, none, [], rfl, rfl, Lib.hid ⟨Nat.zero_le _, Sole.nil _ _, Below.refl _ _⟩⟩
  case round =>
    obtain ⟨i, A, C, blk, qs', rfl, rfl, hI⟩ := hrel
    by_cases hlt : i < l.length
    · have h1 : (i : Int) < l.length := by omega
      obtain ⟨r, hr⟩ : ∃ r, l[i]? = some r := ⟨_, List.getElem?_eq_getElem hlt⟩
      obtain ⟨b, o, Br, cr, rfl, q1, q2, _⟩ := (Y.out.below hI.out.2.2).each i r hr
      have hrl := HR.out r (List.mem_of_getElem? hr)
      have Hr := Lib.hid hr
      have X := Lib.hid q2
      have z1 : 0 + r.length ≤ maxLen := by unfold maxLen; omega
      have z2 : (0 + r.length) * 1 ≤ 140737488355328 := by omega
      have z3 : i + 1 ≤ maxLen := by unfold maxLen; omega
      have z4 : (i + 1) * 24 ≤ 140737488355328 := by omega
      have hI1 := Lib.hid (show OwnR wr 22 1 A i C (List.zipWith soleV (l.take i) qs') blk by have := hI.out.2.1.row; rwa [List.length_take, Nat.min_eq_left (by omega)] at this)
      clear hr q2 hrl
      go_wp2_with (first
        | (at_builtin; refine wpList_app rfl _ _ 23 rfl 22 1 24 (.slice none 0 0) Tryz.underlying23 (by kernel_rfl) rfl (by decide) A i C _ blk rfl (hI1.out.below (bthen HB2.out (low1 _ _))) (some ⟨w2.heap.size, 0, none⟩) 1 1 [.slice B2 r.length D2] rfl rfl (CellsAt.of_block (blk1 _ _)) (fun h => by cases h) (fun ad h => ⟨_, _, (Option.some.inj h).symm⟩) (by simp; rfl) z3 z4 ?_; intro B8 D8 w8 b8 h1 h2 h3; have H81 := Lib.hid h1; have H82 := Lib.hid h2; have H83 := Lib.hid h3; clear h1 h2 h3)
        | (at_builtin; refine wpList_app rfl _ _ 22 rfl 5 1 1 _ Tryz.underlying22 info_u8r rfl (by decide) (some ⟨wr.heap.size, 0, none⟩) 0 0 [] (some wr.heap.size) rfl (OwnR.of_row (blk1 _ _) (Nat.le_refl _) (Nat.zero_le _) rfl rfl) Br r.length cr (r.map V8) rfl (by simp) (X.out.below (low1 _ _)).src.at_.cells X.out.src.nil X.out.src.od (bone r) z1 z2 ?_; intro B2 D2 w2 b2 h1 h2 h3; simp only [Nat.zero_add, List.nil_append] at h1; have HB2 : Hid (RowKit.Below wr.heap.size wr w2) := Lib.hid (((Kept.of_below (F := fun b => b = wr.heap.size) (low1 wr (.cells #[] 5))).grown h2 fun b hb => .inl (Option.some.inj hb).symm).below fun b hlt e => by omega); have H1 := Lib.hid h1; have H2 := Lib.hid h2; have H3 := Lib.hid h3; clear h1 h2 h3))
      have hs := hI.out.2.1
      have hlen : (l.take i).length = i := by rw [List.length_take]; omega
      obtain ⟨k, hk, hkn⟩ : ∃ k, b2 = some k ∧ wr.heap.size ≤ k := by
        rcases H3.out with e | e
        · exact ⟨_, e, Nat.le_refl _⟩
        · exact ⟨_, e, by simp⟩
      subst hk
      have HO := H1.out
      have hB := own_addr HO
      subst hB
      have hlow := bthen HB2.out (low1 w2 (.cells #[.slice (some ⟨k, 0, none⟩) r.length D2] 22))
      have hp := (hs.below hlow).push (k := k) (D2 := D2) r (Nat.le_trans hI.out.2.2.size hlow.size) H82.out (by rw [hlen]; exact H81.out) H83.out (HO.below (low1 _ _)) (Nat.le_trans hI.out.2.2.size hkn) (fun e => by have := hs.row.lt k e; omega) (fun q hq e => by
        obtain ⟨j, hj⟩ := List.mem_iff_getElem?.1 hq
        have hjl := (List.getElem?_eq_some_iff.1 hj).1
        obtain ⟨p, hp⟩ : ∃ p, (l.take i)[j]? = some p := ⟨_, List.getElem?_eq_getElem (by rw [← hs.len]; exact hjl)⟩
        have := (hs.own j p q hp hj).lt _ rfl
        omega)
      have htk : l.take i ++ [r] = l.take (i + 1) := by rw [List.take_add_one, Hr.out]; rfl
      rw [htk] at hp
      refine ⟨⟨i + 1, B8, D8, b8, _, rfl, by simp, Lib.hid ⟨by omega, hp, ?_⟩⟩, by simp [intOf]; omega⟩
      exact ((Kept.of_below (F := fun b => blk = some b) (bthen hI.out.2.2 hlow)).grown H82.out fun b e => .inl e).below fun b hlt e => by have := hs.rnew b e; omega
    · obtain rfl : i = l.length := by have := hI.out.1; omega
      have hi : ¬ (l.length : Int) < (l.length : Int) := by omega
      go_wp2
      go_ret
      have hs := hI.out.2.1
      rw [List.take_length] at hs
      exact ⟨A, C, rfl, ⟨blk, qs', hs⟩, hI.out.2.2⟩
end
end Go.Proofs.YtgpenpnobjecgaaGreatDoor
