/- wal.sealed. -/
import Derived.WalkLawsBesides
import Derived.Test.YtgpenpnobjecgaaGreatDoorJWalOwnCard8
import Derived.Test.YtgpenpnobjecgaaGreatDoorJWalOwnCard12
/- Bunch -/
namespace Go.Proofs.YtgpenpnobjecgaaGreatDoor
set_option maxRecDepth 100000
open Go.RowKit Dk

/-- An element: its cells; the slices of bytes among them (address, capacity, bytes). -/
structure El where
  cells : List Value
  parts : List (Option Addr × Nat × Bs)
def elCells (l : List El) : List Value := l.flatMap El.cells
structure Bunch (w : World) (base : Nat) (e size : Nat) (A : Option Addr) (n C : Nat) (els : List El) (blk : Option Nat) : Prop where
  row : OwnR w e size A n C (elCells els) blk
  fresh : ∀ b, blk = some b → base ≤ b
  part : ∀ x ∈ els, ∀ q ∈ x.parts, Txt w q.1 q.2.2.length q.2.1 q.2.2 ∧ ∀ ad, q.1 = some ad → base ≤ ad.block ∧ blk ≠ some ad.block
section
variable {w w' : World} {base e size : Nat} {A : Option Addr} {n C : Nat} {els : List El} {blk : Option Nat}
theorem Bunch.nil (w : World) (base e size : Nat) : Bunch w base e size none 0 0 [] none := ⟨OwnR.nil _ _ _, fun b h => (by cases h), fun x h => (by cases h)⟩
theorem Bunch.kept {F : Nat → Prop} (h : Bunch w base e size A n C els blk) (hk : Kept F w w') (hF : ∀ b, base ≤ b → b < w.heap.size → ¬ F b) : Bunch w' base e size A n C els blk :=
  ⟨h.row.kept hk fun b hb => hF b (h.fresh b hb) (h.row.lt b hb), h.fresh, fun x hx q hq => by
    obtain ⟨h1, h2⟩ := h.part x hx q hq
    refine ⟨h1.kept hk fun ad had _ => hF _ (h2 ad had).1 ?_, h2⟩
    obtain ⟨b, o, rfl, hlt⟩ := h1.src.plain ad had
    exact hlt⟩
theorem Bunch.below (h : Bunch w base e size A n C els blk) (hb : Below w.heap.size w w') : Bunch w' base e size A n C els blk := h.kept (Kept.of_below (F := fun _ => False) hb) fun _ _ _ => id
theorem Bunch.push (h : Bunch w base e size A n C els blk) (x : El) {B : Option Addr} {D : Nat} {blk' : Option Nat} (hg : w.grownBy w' blk) (hr : OwnR w' e size B (n + 1) D (elCells els ++ x.cells) blk') (hb : blk' = blk ∨ blk' = some w.heap.size) (hbase : base ≤ w.heap.size)
    (hx : ∀ q ∈ x.parts, Txt w q.1 q.2.2.length q.2.1 q.2.2 ∧ ∀ ad, q.1 = some ad → base ≤ ad.block ∧ blk ≠ some ad.block) : Bunch w' base e size B (n + 1) D (els ++ [x]) blk' := by
  refine ⟨?_, fun b hb2 => ?_, fun y hy q hq => ?_⟩
  · simpa [elCells] using hr
  · rcases hb with h1 | h1
    · exact h.fresh b (h1 ▸ hb2)
    · rw [h1] at hb2; obtain rfl := Option.some.inj hb2; exact hbase
  · have key : Txt w q.1 q.2.2.length q.2.1 q.2.2 ∧ ∀ ad, q.1 = some ad → base ≤ ad.block ∧ blk ≠ some ad.block := by
      rcases List.mem_append.1 hy with hy | hy
      · exact h.part y hy q hq
      · obtain rfl := List.mem_singleton.1 hy
        exact hx q hq
    obtain ⟨h1, h2⟩ := key
    refine ⟨h1.kept ((Kept.refl (fun b => blk = some b) w).grown hg fun k e => .inl e) fun ad had _ => (h2 ad had).2, fun ad had => ⟨(h2 ad had).1, ?_⟩⟩
    rcases hb with h3 | h3
    · rw [h3]; exact (h2 ad had).2
    · rw [h3]
      intro e
      have := Option.some.inj e
      obtain ⟨b, o, hb, hlt⟩ := h1.src.plain ad had
      subst hb
      simp at this
      omega
end

/-- A file as an element. -/
def fileEl (p : Bs × Bs) (q : Option Addr × Nat) : El := ⟨[strV p.1, .slice q.1 p.2.length q.2], [(q.1, q.2, p.2)]⟩
/-- A slice of files; all its blocks are in G. -/
structure FilesAt (w : World) (A : Option Addr) (n C : Nat) (l : List (Bs × Bs)) (G : Nat → Prop) : Prop where
  len : n = l.length
  cap : n ≤ C
  nil : A = none → C = 0
  plain : ∀ ad, A = some ad → ∃ b o, ad = ⟨b, o, none⟩ ∧ b < w.heap.size ∧ G b
  each : ∀ i p, l[i]? = some p → ∃ b o B c, A = some ⟨b, o, none⟩ ∧ w.cell? ⟨b, o + i * 2, none⟩ = some (strV p.1) ∧ w.cell? ⟨b, o + i * 2 + 1, none⟩ = some (.slice B p.2.length c) ∧ Txt w B p.2.length c p.2 ∧ ∀ ad, B = some ad → G ad.block
theorem FilesAt.kept {F G : Nat → Prop} {w w' : World} {A : Option Addr} {n C : Nat} {l : List (Bs × Bs)} (h : FilesAt w A n C l G) (hk : Kept F w w') (hF : ∀ b, G b → b < w.heap.size → ¬ F b) : FilesAt w' A n C l G := by
  refine ⟨h.len, h.cap, h.nil, fun ad had => ?_, fun i p hp => ?_⟩
  · obtain ⟨b, o, e, hlt, hg⟩ := h.plain ad had
    exact ⟨b, o, e, Nat.lt_of_lt_of_le hlt hk.size, hg⟩
  · obtain ⟨b, o, B, c, hA, h1, h2, h3, h4⟩ := h.each i p hp
    obtain ⟨b', o', e, hlt, hg⟩ := h.plain _ hA
    simp only [Addr.mk.injEq, and_true] at e
    obtain ⟨rfl, rfl⟩ := e
    refine ⟨b, o, B, c, hA, hk.cell h1 (hF b hg hlt), hk.cell h2 (hF b hg hlt), h3.kept hk fun ad had _ => ?_, h4⟩
    obtain ⟨b2, o2, rfl, hlt2⟩ := h3.src.plain ad had
    exact hF b2 (h4 _ had) hlt2
theorem FilesAt.below {G : Nat → Prop} {w w' : World} {A : Option Addr} {n C : Nat} {l : List (Bs × Bs)} (h : FilesAt w A n C l G) (hb : Below w.heap.size w w') : FilesAt w' A n C l G := h.kept (Kept.of_below (F := fun _ => False) hb) fun _ _ _ => id
theorem FilesAt.mono {G H : Nat → Prop} {w : World} {A : Option Addr} {n C : Nat} {l : List (Bs × Bs)} (h : FilesAt w A n C l G) (hG : ∀ b, b < w.heap.size → G b → H b) : FilesAt w A n C l H :=
  ⟨h.len, h.cap, h.nil, fun ad had => by obtain ⟨b, o, e, hlt, hg⟩ := h.plain ad had; exact ⟨b, o, e, hlt, hG b hlt hg⟩, fun i p hp => by
    obtain ⟨b, o, B, c, hA, h1, h2, h3, h4⟩ := h.each i p hp
    refine ⟨b, o, B, c, hA, h1, h2, h3, fun ad had => ?_⟩
    obtain ⟨b2, o2, rfl, hlt2⟩ := h3.src.plain ad had
    exact hG _ hlt2 (h4 _ had)⟩
theorem getElem_flat {α β : Type} (f : α → List β) (k : Nat) : ∀ (l : List α) (_ : ∀ x ∈ l, (f x).length = k) (i j : Nat) (x : α), l[i]? = some x → j < k → (l.flatMap f)[i * k + j]? = (f x)[j]?
  | [], _, i, j, x, h, _ => by simp at h
  | y :: r, hk, 0, j, x, h, hj => by
    simp only [List.getElem?_cons_zero, Option.some.injEq] at h
    subst h
    rw [List.flatMap_cons, Nat.zero_mul, Nat.zero_add, List.getElem?_append_left (by rw [hk y (by simp)]; exact hj)]
  | y :: r, hk, i + 1, j, x, h, hj => by
    have hy := hk y (by simp)
    rw [List.flatMap_cons, List.getElem?_append_right (by rw [hy, Nat.add_mul]; omega), hy, show (i + 1) * k + j - k = i * k + j by rw [Nat.add_mul]; omega]
    exact getElem_flat f k r (fun x hx => hk x (by simp [hx])) i j x (by simpa using h) hj
theorem Bunch.files {w : World} {base : Nat} {A : Option Addr} {n C : Nat} {l : List (Bs × Bs)} {qs : List (Option Addr × Nat)} {blk : Option Nat} (h : Bunch w base 35 2 A n C (List.zipWith fileEl l qs) blk) (hq : qs.length = l.length) (hn : n = l.length) (hA0 : ∀ ad, A = some ad → blk ≠ none) : FilesAt w A n C l (fun b => base ≤ b) := by
  refine ⟨hn, h.row.cap.1, h.row.nilcap, fun ad had => ?_, fun i p hp => ?_⟩
  · obtain ⟨b, o, e, hlt⟩ := h.row.plain ad had
    refine ⟨b, o, e, hlt, ?_⟩
    rcases h.row.form with ⟨h0, _⟩ | ⟨g, cur, hg, hb, _⟩
    · exact absurd h0 (hA0 ad had)
    · rw [hg] at had
      obtain rfl := Option.some.inj had
      simp only [Addr.mk.injEq, and_true] at e
      obtain ⟨rfl, _⟩ := e
      exact h.fresh _ hb
  · have hi : i < l.length := (List.getElem?_eq_some_iff.1 hp).1
    obtain ⟨q, hqi⟩ : ∃ q, qs[i]? = some q := ⟨_, List.getElem?_eq_getElem (by omega)⟩
    have hel : (List.zipWith fileEl l qs)[i]? = some (fileEl p q) := by rw [List.getElem?_zipWith, hp, hqi]
    have hsz : ∀ x ∈ List.zipWith fileEl l qs, x.cells.length = 2 := fun x hx => by
      rw [List.zipWith_eq_zipWith_take_min] at hx
      obtain ⟨j, hj, rfl⟩ := List.mem_iff_getElem.1 hx
      rw [List.getElem_zipWith]; rfl
    have hget : ∀ j, j < 2 → (elCells (List.zipWith fileEl l qs))[i * 2 + j]? = (fileEl p q).cells[j]? := fun j hj => getElem_flat El.cells 2 _ hsz i j _ hel hj
    obtain ⟨g, hg, _, c0⟩ := h.row.cell (j := i * 2) (v := strV p.1) (by rw [show i * 2 = i * 2 + 0 by omega, hget 0 (by omega)]; rfl)
    obtain ⟨g2, hg2, _, c1⟩ := h.row.cell (j := i * 2 + 1) (v := .slice q.1 p.2.length q.2) (by rw [hget 1 (by omega)]; rfl)
    obtain rfl : g = g2 := by rw [hg] at hg2; simpa using hg2
    obtain ⟨h3, h4⟩ := h.part (fileEl p q) (List.mem_of_getElem? hel) (q.1, q.2, p.2) (by simp [fileEl])
    exact ⟨g, 0, q.1, q.2, hg, by rw [Nat.zero_add]; exact c0, by rw [Nat.zero_add]; exact c1, h3, fun ad had => (h4 ad had).1⟩
end Go.Proofs.YtgpenpnobjecgaaGreatDoor

/- ScanF -/
namespace Go.Proofs.YtgpenpnobjecgaaGreatDoor
set_option maxRecDepth 100000
open Go.RowKit

/-- A frame as an element. -/
def frameEl (p : FrameS) (q : Option Addr × Nat) : El := ⟨[V8 p.1, .slice q.1 p.2.length q.2], [(q.1, q.2, p.2)]⟩
/-- A slice of frames; all its blocks are in G. -/
structure FramesAt (w : World) (A : Option Addr) (n C : Nat) (l : List FrameS) (G : Nat → Prop) : Prop where
  len : n = l.length
  cap : n ≤ C
  nil : A = none → C = 0
  plain : ∀ ad, A = some ad → ∃ b o, ad = ⟨b, o, none⟩ ∧ b < w.heap.size ∧ G b
  each : ∀ i p, l[i]? = some p → ∃ b o B c, A = some ⟨b, o, none⟩ ∧ w.cell? ⟨b, o + i * 2, none⟩ = some (V8 p.1) ∧ w.cell? ⟨b, o + i * 2 + 1, none⟩ = some (.slice B p.2.length c) ∧ Txt w B p.2.length c p.2 ∧ ∀ ad, B = some ad → G ad.block
theorem FramesAt.kept {F G : Nat → Prop} {w w' : World} {A : Option Addr} {n C : Nat} {l : List FrameS} (h : FramesAt w A n C l G) (hk : Kept F w w') (hF : ∀ b, G b → b < w.heap.size → ¬ F b) : FramesAt w' A n C l G := by
  refine ⟨h.len, h.cap, h.nil, fun ad had => ?_, fun i p hp => ?_⟩
  · obtain ⟨b, o, e, hlt, hg⟩ := h.plain ad had
    exact ⟨b, o, e, Nat.lt_of_lt_of_le hlt hk.size, hg⟩
  · obtain ⟨b, o, B, c, hA, h1, h2, h3, h4⟩ := h.each i p hp
    obtain ⟨b', o', e, hlt, hg⟩ := h.plain _ hA
    simp only [Addr.mk.injEq, and_true] at e
    obtain ⟨rfl, rfl⟩ := e
    refine ⟨b, o, B, c, hA, hk.cell h1 (hF b hg hlt), hk.cell h2 (hF b hg hlt), h3.kept hk fun ad had _ => ?_, h4⟩
    obtain ⟨b2, o2, rfl, hlt2⟩ := h3.src.plain ad had
    exact hF b2 (h4 _ had) hlt2
theorem FramesAt.below {G : Nat → Prop} {w w' : World} {A : Option Addr} {n C : Nat} {l : List FrameS} (h : FramesAt w A n C l G) (hb : Below w.heap.size w w') : FramesAt w' A n C l G := h.kept (Kept.of_below (F := fun _ => False) hb) fun _ _ _ => id
theorem FramesAt.mono {G H : Nat → Prop} {w : World} {A : Option Addr} {n C : Nat} {l : List FrameS} (h : FramesAt w A n C l G) (hG : ∀ b, b < w.heap.size → G b → H b) : FramesAt w A n C l H :=
  ⟨h.len, h.cap, h.nil, fun ad had => by obtain ⟨b, o, e, hlt, hg⟩ := h.plain ad had; exact ⟨b, o, e, hlt, hG b hlt hg⟩, fun i p hp => by
    obtain ⟨b, o, B, c, hA, h1, h2, h3, h4⟩ := h.each i p hp
    refine ⟨b, o, B, c, hA, h1, h2, h3, fun ad had => ?_⟩
    obtain ⟨b2, o2, rfl, hlt2⟩ := h3.src.plain ad had
    exact hG _ hlt2 (h4 _ had)⟩
theorem Bunch.frames {w : World} {base : Nat} {A : Option Addr} {n C : Nat} {l : List FrameS} {qs : List (Option Addr × Nat)} {blk : Option Nat} (h : Bunch w base 174 2 A n C (List.zipWith frameEl l qs) blk) (hq : qs.length = l.length) (hn : n = l.length) (hA0 : ∀ ad, A = some ad → blk ≠ none) : FramesAt w A n C l (fun b => base ≤ b) := by
  refine ⟨hn, h.row.cap.1, h.row.nilcap, fun ad had => ?_, fun i p hp => ?_⟩
  · obtain ⟨b, o, e, hlt⟩ := h.row.plain ad had
    refine ⟨b, o, e, hlt, ?_⟩
    rcases h.row.form with ⟨h0, _⟩ | ⟨g, cur, hg, hb, _⟩
    · exact absurd h0 (hA0 ad had)
    · rw [hg] at had
      obtain rfl := Option.some.inj had
      simp only [Addr.mk.injEq, and_true] at e
      obtain ⟨rfl, _⟩ := e
      exact h.fresh _ hb
  · have hi : i < l.length := (List.getElem?_eq_some_iff.1 hp).1
    obtain ⟨q, hqi⟩ : ∃ q, qs[i]? = some q := ⟨_, List.getElem?_eq_getElem (by omega)⟩
    have hel : (List.zipWith frameEl l qs)[i]? = some (frameEl p q) := by rw [List.getElem?_zipWith, hp, hqi]
    have hsz : ∀ x ∈ List.zipWith frameEl l qs, x.cells.length = 2 := fun x hx => by
      rw [List.zipWith_eq_zipWith_take_min] at hx
      obtain ⟨j, hj, rfl⟩ := List.mem_iff_getElem.1 hx
      rw [List.getElem_zipWith]; rfl
    have hget : ∀ j, j < 2 → (elCells (List.zipWith frameEl l qs))[i * 2 + j]? = (frameEl p q).cells[j]? := fun j hj => getElem_flat El.cells 2 _ hsz i j _ hel hj
    obtain ⟨g, hg, _, c0⟩ := h.row.cell (j := i * 2) (v := V8 p.1) (by rw [show i * 2 = i * 2 + 0 by omega, hget 0 (by omega)]; rfl)
    obtain ⟨g2, hg2, _, c1⟩ := h.row.cell (j := i * 2 + 1) (v := .slice q.1 p.2.length q.2) (by rw [hget 1 (by omega)]; rfl)
    obtain rfl : g = g2 := by rw [hg] at hg2; simpa using hg2
    obtain ⟨h3, h4⟩ := h.part (frameEl p q) (List.mem_of_getElem? hel) (q.1, q.2, p.2) (by simp [frameEl])
    exact ⟨g, 0, q.1, q.2, hg, by rw [Nat.zero_add]; exact c0, by rw [Nat.zero_add]; exact c1, h3, fun ad had => (h4 ad had).1⟩
theorem zip_push {α β γ : Type} (f : α → β → γ) {l : List α} {qs : List β} (h : qs.length = l.length) (x : α) (q : β) : List.zipWith f l qs ++ [f x q] = List.zipWith f (l ++ [x]) (qs ++ [q]) := by
  rw [List.zipWith_append h.symm]
  rfl
theorem openF_len (x : List UInt8) (h : (openF x).2.2 = 0) : 9 ≤ (openF x).2.1 ∧ (openF x).2.1 ≤ x.length := by
  have hs := openF_ok x h
  obtain ⟨h1, h2, h3, _⟩ := sizeF_code x hs
  unfold openF
  rw [if_pos hs]
  exact ⟨by show 9 ≤ frameLen x; omega, h3⟩
/-- What Scan answers. -/
def RetScan (w : World) (r : List FrameS × Nat × Nat) (e : Ending) (w' : World) : Prop :=
  ∃ A C, e = .returned (.tuple #[.slice A r.1.length C, .int .i64 r.2.1, .int .i64 r.2.2]) ∧ FramesAt w' A r.1.length C r.1 (fun b => w.heap.size ≤ b) ∧ Below w.heap.size w w'
set_option maxRecDepth 100000 in
set_option maxHeartbeats 1000000 in
theorem scan_any (x : List UInt8) (a : Option Addr) (n c : Nat) (w : World) (X : Txt w a n c x) (hn : n ≤ 1099511627776) (hT : SumsTab w) :
    Calls Tryz.prog 100 #[.slice a n c] w (RetScan w (scanF x)) := by
  have HX := Lib.hid X
  have HT := Lib.hid hT
  have Hl := Lib.hid X.len
  clear X hT
  go_enter Tryz.func100, Tryz.ntmps100
  go_wp2
  go_loopw [5, 6] (fun sv iv wr => ∃ (acc : List FrameS) (off : Nat) (A : Option Addr) (C : Nat) (qs : List (Option Addr × Nat)) (blk : Option Nat) (k : Nat), sv = .slice A acc.length C ∧ iv = .int .i64 off ∧ Hid (off ≤ n ∧ n < off + k ∧ scanF x = scanFrom k x off acc ∧ Bunch wr w.heap.size 174 2 A acc.length C (List.zipWith frameEl acc qs) blk ∧ qs.length = acc.length ∧ (blk = none → A = none) ∧ acc.length ≤ off ∧ RowKit.Below w.heap.size w wr)) (fun _ iv _ => n - (intOf iv).toNat)
  case atStart => exact ⟨[], 0, none, 0, [], none, x.length + 1, rfl, rfl, Lib.hid ⟨Nat.zero_le _, by have := Hl.out; omega, rfl, Bunch.nil _ _ _ _, rfl, fun _ => rfl, Nat.le_refl _, Below.refl _ _⟩⟩
  case round =>
    obtain ⟨acc, off, A, C, qs, blk, k, rfl, rfl, hJ⟩ := hrel
    by_cases hlt : off < n
    · have h1 : (off : Int) < n := by omega
      have hX := HX.out.below hJ.out.2.2.2.2.2.2.2
      have hT := HT.out.low hJ.out.2.2.2.2.2.2.2
      have hcap := hX.src.cap
      rw [← Hl.out] at hcap
      obtain ⟨b, o, rfl, _⟩ := hX.src.at_.cells.at_ (show 0 < (x.map V8).length by have := Hl.out; simp; omega)
      have hs : ∀ w : World, (Instr.slice 22 (.slice (some ⟨b, o, none⟩) n c) (some (.int .i64 (off : Int))) none none).run Tryz.prog w = .ok (.slice (some ⟨b, o + off, none⟩) (n - off) (c - off)) w := fun w => run_sl_l w b o n c off off (by omega) (by omega) (by omega) (by omega)
      have hP : Txt wr (some ⟨b, o + off, none⟩) (n - off) (c - off) (x.drop off) := by
        have h := hX.part off (n - off) (by omega)
        rw [if_neg (by omega), List.take_of_length_le (by have := Hl.out; simp; omega), Option.map_some, Addr.add_lit] at h
        exact h
      have hO := fopen_any _ _ _ _ _ hP (by omega) hT
      obtain ⟨fk, fl, m, q, hq⟩ : ∃ fk fl m q, openF (x.drop off) = ((fk, fl), m, q) := ⟨_, _, _, _, rfl⟩
      have hlen := openF_len (x.drop off)
      rw [hq] at hO hlen
      simp only [] at hlen
      have HO := Lib.hid hO
      have Hq := Lib.hid hq
      clear hX hT hcap hP hq hO
      go_wp2_with fail
      go_at_call 126
      refine HO.out.mono ?_
      rintro e w1 ⟨B, D, rfl, h2, h3, h4⟩
      simp only [] at h2 ⊢
      have H2 := Lib.hid h2
      have H3 := Lib.hid h3
      have H4 := Lib.hid h4
      clear h2 h3 h4 HO hs
      by_cases hq0 : q = 0
      · subst hq0
        obtain ⟨m9, mle⟩ := hlen rfl
        have hon : off + m ≤ n := by have := Hl.out; simp at mle; omega
        have hon' : (off : Int) + m ≤ n := by omega
        have z1 : acc.length + 1 ≤ maxLen := by have := hJ.out.2.2.2.2.2.2.1; unfold maxLen; omega
        have z2 : (acc.length + 1) * 32 ≤ 140737488355328 := by have := hJ.out.2.2.2.2.2.2.1; omega
        have hlow : RowKit.Below wr.heap.size wr (((w1.alloc (.cells #[V8 fk, .slice B fl.length D] 174)).alloc (.cells #[V8 fk, .slice B fl.length D] 174))) := bthen H4.out (low2 _ _ _)
        have HLOW := Lib.hid hlow
        clear hlen mle hlow
        go_wp2_with (at_builtin; refine wpList_app rfl _ _ 169 rfl 174 2 32 (.agg #[.int .u8 0, .slice none 0 0]) Tryz.underlying169 (by kernel_rfl) rfl (by decide) A acc.length C _ blk rfl (hJ.out.2.2.2.1.row.below HLOW.out) (some ⟨w1.heap.size + 1, 0, none⟩) 1 1 [V8 fk, .slice B fl.length D] rfl rfl (CellsAt.of_block (blk2 _ _ _).2) (fun h => by cases h) (fun ad h => ⟨_, _, (Option.some.inj h).symm⟩) (by simp; exact ⟨rfl, rfl⟩) z1 z2 ?_; intro B8 D8 w8 b8 h1 h2 h3; have H81 := Lib.hid h1; have H82 := Lib.hid h2; have H83 := Lib.hid h3; clear h1 h2 h3)
        obtain ⟨hle, hk, hsc, hb, hqs, hbA, hacc, hlow⟩ := hJ.out
        obtain ⟨k, rfl⟩ : ∃ k', k = k' + 1 := ⟨k - 1, by omega⟩
        rw [scanFrom, if_pos (by have := Hl.out; omega), Hq.out, if_pos rfl] at hsc
        have hfresh : ∀ ad, B = some ad → wr.heap.size ≤ ad.block := H3.out
        have hwr : w.heap.size ≤ wr.heap.size := hlow.size
        have hbn := (hb.below HLOW.out).push (frameEl (fk, fl) (B, D)) H82.out H81.out H83.out (Nat.le_trans hwr HLOW.out.size) (fun q hq => by
          obtain rfl := List.mem_singleton.1 (show q ∈ [(B, D, fl)] from hq)
          refine ⟨H2.out.below (low2 _ _ _), fun ad had => ?_⟩
          have h4 := hfresh ad had
          refine ⟨Nat.le_trans hwr h4, fun e => ?_⟩
          have := hb.row.lt _ e
          omega)
        rw [zip_push frameEl hqs] at hbn
        have hlow8 : RowKit.Below w.heap.size w w8 := (bthen hlow HLOW.out).grown H82.out (bthen hlow HLOW.out).size (fun b hb2 => hb.fresh b hb2)
        have hb8 : b8 = none → B8 = none := fun e => by
          rcases hbn.row.form with ⟨_, h0, _⟩ | ⟨g, _, _, h2, _⟩
          · exact absurd h0 (by omega)
          · rw [e] at h2; cases h2
        exact ⟨⟨acc ++ [(fk, fl)], off + m, B8, D8, qs ++ [(B, D)], b8, k, by simp, by simp, Lib.hid ⟨hon, by omega, hsc, by simpa using hbn, by simp [hqs], hb8, by simp; omega, hlow8⟩⟩, by simp [intOf]; omega⟩
      · have hq0' : ¬ (q : Int) = 0 := by omega
        obtain ⟨hle, hk, hsc, hb, hqs, hbA, _, hlow⟩ := hJ.out
        have hsc' : scanF x = (acc, off, q) := by
          rw [hsc]
          cases k with
          | zero => exact absurd hk (by omega)
          | succ k => rw [scanFrom, if_pos (by have := Hl.out; omega), Hq.out, if_neg hq0]
        have hfin := hb.frames hqs rfl (fun ad had e => by rw [hbA e] at had; cases had)
        have HS := Lib.hid hsc'
        have HF := Lib.hid hfin
        have HL := Lib.hid hlow
        clear hlen hle hk hsc hb hqs hbA hlow hsc' hfin hJ hq0
        go_wp2
        go_ret3
        rw [HS.out]
        exact ⟨A, C, rfl, (HF.out.below H4.out).below (low1 _ _), bthen (bthen HL.out H4.out) (low1 _ _)⟩
    · have h1 : ¬ (off : Int) < n := by omega
      obtain ⟨hle, hk, hsc, hb, hqs, hbA, _, hlow⟩ := hJ.out
      have hsc' : scanF x = (acc, off, 0) := by
        rw [hsc]
        cases k with
        | zero => rfl
        | succ k => rw [scanFrom, if_neg (by have := Hl.out; omega)]
      have hfin := hb.frames hqs rfl (fun ad had e => by rw [hbA e] at had; cases had)
      have HS := Lib.hid hsc'
      have HF := Lib.hid hfin
      have HL := Lib.hid hlow
      clear hle hk hsc hb hqs hbA hlow hsc' hfin hJ
      go_wp2
      go_ret3
      rw [HS.out]
      exact ⟨A, C, rfl, HF.out, HL.out⟩
end Go.Proofs.YtgpenpnobjecgaaGreatDoor

/- WMust -/
namespace Go.Proofs.YtgpenpnobjecgaaGreatDoor
set_option maxRecDepth 100000
open Go.RowKit

/-- What must panics with. -/
def stopV (q : Nat) : Value := .iface 156 (.agg #[.int .i64 q])
def stopped (q : Nat) : Ending := .panicked [{ v := stopV q, recovered := false }]
set_option maxRecDepth 100000 in
theorem must_ok (w : World) : Calls Tryz.prog 57 #[.int .i64 0] w (fun e w' => e = .returned (.tuple #[]) ∧ w = w') := by
  go_enter Tryz.func57, Tryz.ntmps57
  go_wp2
  go_end0
  exact ⟨rfl, rfl⟩
set_option maxRecDepth 100000 in
theorem must_stops (q : Nat) (hq : q ≠ 0) (w : World) : Calls Tryz.prog 57 #[.int .i64 q] w (fun e w' => e = .panicked [{ v := stopV q, recovered := false }] ∧ w = w') := by
  have hq' : ¬ (q : Int) = 0 := by omega
  clear hq
  go_enter Tryz.func57, Tryz.ntmps57
  go_wp2
  exact ⟨rfl, rfl, rfl⟩
end Go.Proofs.YtgpenpnobjecgaaGreatDoor

/- WSeal -/
namespace Go.Proofs.YtgpenpnobjecgaaGreatDoor
set_option maxRecDepth 100000
open Go.RowKit

/-- New bytes. -/
def RetF (w : World) (l : List UInt8) (e : Ending) (w' : World) : Prop := ∃ B C blk, e = .returned (.slice B l.length C) ∧ Fresh w w' B C l blk
theorem RetB.fresh {w w' : World} {n : Nat} {l : List UInt8} {e : Ending} (h : RetB w n l e w') (hn : n = l.length) : ∃ B C blk, e = .returned (.slice B l.length C) ∧ Fresh w w' B C l blk := by
  obtain ⟨B, C, he, hA⟩ := h
  subst hn
  refine ⟨B, C, B.map (·.block), he, ?_, fun b hb => ?_, hA.low⟩
  · refine .inl ⟨rfl, hA.own.1, ?_⟩
    rcases hA.own.2 with h1 | ⟨g, cap, cur, h1, h2, h3⟩
    · exact .inl h1
    · exact .inr ⟨g, cap, cur, h1, Nat.zero_le _, h3⟩
  · cases B with
    | none => cases hb
    | some ad => rw [← Option.some.inj hb]; exact (hA.block ad rfl).1
/-- wal.sealed. -/
def sealW (k : UInt8) (n : Nat) (p : List UInt8) : List UInt8 := sealed k (groups n ++ p)
set_option maxRecDepth 100000 in
set_option maxHeartbeats 1000000 in
theorem wsealed_any (k : UInt8) (n : Nat) (p : List UInt8) (A : Option Addr) (C : Nat) (w : World) (X : Txt w A p.length C p) (hk : k ≠ 0) (hn : n < 18446744073709551616) (hl : p.length ≤ 2097142) (hT : SumsTab w) :
    Calls Tryz.prog 69 #[V8 k, .int .u64 n, .slice A p.length C] w (RetF w (sealW k n p)) := by
  have hgl := groups_len n hn
  have hnil : Txt w none 0 0 [] := ⟨rfl, ⟨⟨fun h => by cases h⟩, Nat.le_refl _, fun _ => rfl, fun ad h => by cases h⟩⟩
  have hpu := Lib.hid (putuint_any [] none 0 0 n w hnil (by decide) hn)
  have HX := Lib.hid X
  have HT := Lib.hid hT
  obtain ⟨G, hG⟩ : ∃ G, G = groups n := ⟨_, rfl⟩
  have hs := Lib.hid (show sealF k (G ++ p) = (sealW k n p, 0) by unfold sealF; rw [if_neg hk, if_neg (by rw [List.length_append, hG]; omega), hG]; rfl)
  rw [← hG, List.nil_append] at hpu
  rw [← hG] at hgl
  clear X hT hnil hG hk
  have z1 : G.length + p.length ≤ maxLen := by unfold maxLen; omega
  have z2 : (G.length + p.length) * 1 ≤ 140737488355328 := by omega
  go_enter Tryz.func69, Tryz.ntmps69
  go_wp2_with fail
  go_at_call 104
  refine hpu.out.mono ?_
  intro e w1 h
  obtain ⟨B1, C1, b1, rfl, F1⟩ := h.fresh (by simp)
  have H1 := Lib.hid F1
  clear h F1 hpu
  go_wp2_with (at_builtin; refine wpList_app rfl _ _ 22 rfl 5 1 1 _ Tryz.underlying22 info_u8r rfl (by decide) B1 G.length C1 (G.map V8) b1 rfl H1.out.own A p.length C (p.map V8) rfl (by simp) (HX.out.below H1.out.low).src.at_.cells HX.out.src.nil HX.out.src.od (bone p) z1 z2 ?_; intro B2 D2 w2 b2 h1 h2 h3; have F2 := Lib.hid (H1.out.app rfl h1 h2 h3); clear h1 h2 h3)
  go_at_call 103
  have hsl : (G ++ p).length = G.length + p.length := List.length_append
  rw [← hsl]
  refine (seal_any k (G ++ p) B2 D2 w2 F2.out.txt (by omega) (HT.out.low F2.out.low)).mono ?_
  rw [hs.out]
  rintro e w3 ⟨B3, C3, b3, rfl, h1, h2, h3⟩
  have F3 : Fresh w w3 B3 C3 (sealW k n p) b3 := ⟨h1, fun b hb => Nat.le_trans F2.out.low.size (h2 b hb), bthen F2.out.low h3⟩
  have F3 := Lib.hid F3
  clear h1 h2 h3 hsl
  go_wp2_with (go_at_call 57; refine (must_ok w3).mono ?_; rintro e w4 ⟨rfl, rfl⟩)
  go_ret
  exact ⟨B3, C3, b3, rfl, F3.out⟩
end Go.Proofs.YtgpenpnobjecgaaGreatDoor
