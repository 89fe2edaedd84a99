/- wicketlaw06: back. -/
import Derived.BigQuiet
import Derived.Test.YtgpenpnobjecgaaGreatDoorJWalSafeCard42
import Derived.Test.YtgpenpnobjecgaaGreatDoorJWalSafeCard44
/- LawG -/
namespace Go.Proofs.YtgpenpnobjecgaaGreatDoor
set_option maxRecDepth 100000
open Go.RowKit Dk

section
variable {Z : Nat → Prop} {w w1 W : World} {g dg : Nat} {d d' : DiskS} {L L' : LogS} {q : Nat}
/-- Blocks made behind it are not its own. -/
theorem Run.add (h : Run w w1 g dg d L) (hb : RowKit.Below w1.heap.size w1 W) (hZ : ∀ b, Z b → w1.heap.size ≤ b) : RunZ Z w W g dg d L := by
  obtain ⟨own, lf, hp, hf, hl⟩ := h
  refine ⟨own, lf, hp.below hb, fun b hb2 => ⟨hf b hb2, fun hz => ?_⟩, bthen hl hb⟩
  have h1 := hZ b hz
  have h2 : b < w1.heap.size := by
    obtain ⟨recs, hd⟩ := hp.dat
    exact hb2.elim (hd.lt b) (hp.log.lt b)
  omega
theorem RunZ.add (h : RunZ Z w w1 g dg d L) (hb : RowKit.Below w1.heap.size w1 W) {Z' : Nat → Prop} (hZ : ∀ b, Z' b → Z b ∨ w1.heap.size ≤ b) : RunZ Z' w W g dg d L := by
  obtain ⟨own, lf, hp, hf, hl⟩ := h
  refine ⟨own, lf, hp.below hb, fun b hb2 => ⟨(hf b hb2).1, fun hz => ?_⟩, bthen hl hb⟩
  rcases hZ b hz with h1 | h1
  · exact (hf b hb2).2 h1
  · have h2 : b < w1.heap.size := by
      obtain ⟨recs, hd⟩ := hp.dat
      exact hb2.elim (hd.lt b) (hp.log.lt b)
    omega
/-- Others wrote. -/
theorem RunZ.other {F : Nat → Prop} (h : RunZ Z w w1 g dg d L) (hk : Kept F w1 W) (hF : ∀ b, F b → Z b ∧ w.heap.size ≤ b) : RunZ Z w W g dg d L := by
  obtain ⟨own, lf, ⟨⟨recs, hd⟩, hO, hlog, hap, hlk⟩, hf, hl⟩ := h
  exact ⟨own, lf, ⟨⟨recs, hd.kept hk fun b hb hF2 => (hf b (.inl hb)).2 (hF b hF2).1⟩, hO, hlog.kept hk fun b hb hF2 => (hf b (.inr hb)).2 (hF b hF2).1, hap, hlk⟩, hf, ((Kept.of_below (F := F) hl).then hk).below fun b hlt hF2 => by have := (hF b hF2).2; omega⟩
theorem RunZ.next {own own' : Nat → Option DTag} {lf lf' : Nat → Prop} (hf : ∀ b, both own lf b → w.heap.size ≤ b ∧ ¬ Z b) (hl : RowKit.Below w.heap.size w w1) (hZ : ∀ b, Z b → b < w1.heap.size) (hp : PairAt W g dg d L own' lf') (ht : Turned (both own lf) (both own' lf') w1 W) : RunZ Z w W g dg d L ∧ Kept (fun b => ¬ Z b) w1 W := by
  refine ⟨⟨own', lf', hp, fun b hb => ?_, ((Kept.of_below (F := both own lf) hl).then ht.kept).below fun b hlt h => by have := (hf b h).1; omega⟩, ht.kept.mono fun b _ h => (hf b h).2⟩
  rcases Nat.lt_or_ge b w1.heap.size with h | h
  · exact hf b (ht.foot b h hb)
  · exact ⟨Nat.le_trans hl.size h, fun hz => by have := hZ b hz; omega⟩
theorem run_appendZ (hT : Tabs6 w) (h : RunZ Z w w1 g dg d L) (hZ : ∀ b, Z b → b < w1.heap.size) {p : Bs} {A : Option Addr} {C : Nat} (X : Txt w1 A p.length C p) (hA : ∀ ad, A = some ad → Z ad.block) (hp : p.length ≤ 4611686018427387904) (hr : appendW d L p = ((d', L'), q)) :
    Calls Tryz.prog 27 #[ptrV g, .slice A p.length C] w1 fun e w' => e = .returned (.int .i64 q) ∧ RunZ Z w w' g dg d' L' ∧ Kept (fun b => ¬ Z b) w1 w' := by
  obtain ⟨own, lf, hP, hf, hl⟩ := h
  refine (wappend_any hP (w0 := w) ⟨hT, hl, fun b hb => (hf b hb).1⟩ p A C X hp (fun ad had hb => (hf _ hb).2 (hA ad had))).mono ?_
  rintro e w' ⟨he, own', lf', hp', ht⟩
  rw [hr] at he hp'
  obtain ⟨h1, h2⟩ := RunZ.next hf hl hZ hp' ht
  exact ⟨he, h1, h2⟩
theorem run_syncZ (hT : Tabs6 w) (h : RunZ Z w w1 g dg d L) (hZ : ∀ b, Z b → b < w1.heap.size) (hr : syncW d L = ((d', L'), q)) :
    Calls Tryz.prog 42 #[ptrV g] w1 fun e w' => e = .returned (.int .i64 q) ∧ RunZ Z w w' g dg d' L' ∧ Kept (fun b => ¬ Z b) w1 w' := by
  obtain ⟨own, lf, hP, hf, hl⟩ := h
  refine (wsync_any hP (w0 := w) ⟨hT, hl, fun b hb => (hf b hb).1⟩).mono ?_
  rintro e w' ⟨he, own', lf', hp', ht⟩
  rw [hr] at he hp'
  obtain ⟨h1, h2⟩ := RunZ.next hf hl hZ hp' ht
  exact ⟨he, h1, h2⟩
theorem run_snapZ (hT : Tabs6 w) (h : RunZ Z w w1 g dg d L) (hZ : ∀ b, Z b → b < w1.heap.size) {p : Bs} {A : Option Addr} {C : Nat} (X : Txt w1 A p.length C p) (hA : ∀ ad, A = some ad → Z ad.block) (hp : p.length ≤ 4611686018427387904) (hfs : L.broken = false → free d + L.size ≤ 9223372036854775807) (hr : snapW d L p = ((d', L'), q)) :
    Calls Tryz.prog 25 #[ptrV g, .slice A p.length C] w1 fun e w' => e = .returned (.int .i64 q) ∧ RunZ Z w w' g dg d' L' ∧ Kept (fun b => ¬ Z b) w1 w' := by
  obtain ⟨own, lf, hP, hf, hl⟩ := h
  refine (wsnap_any hP (w0 := w) ⟨hT, hl, fun b hb => (hf b hb).1⟩ p A C X hp (fun ad had hb => (hf _ hb).2 (hA ad had)) hfs).mono ?_
  rintro e w' ⟨he, own', lf', hp', ht⟩
  rw [hr] at he hp'
  obtain ⟨h1, h2⟩ := RunZ.next hf hl hZ hp' ht
  exact ⟨he, h1, h2⟩
end
/-- Bytes, the block that holds them, its capacity. -/
abbrev Own3 := Bs × Nat × Nat
def own3V (q : Own3) : Value := .slice (some ⟨q.2.1, 0, none⟩) q.1.length q.2.2
theorem l6alone_list {w : World} {b C : Nat} (Q : List Own3) (hrow : ∀ i q, Q[i]? = some q → w.cell? ⟨b, i, none⟩ = some (own3V q)) (hown : ∀ q ∈ Q, OwnR w 5 1 (some ⟨q.2.1, 0, none⟩) q.1.length q.2.2 (q.1.map V8) (some q.2.1)) (hnd : (Q.map (·.2.1)).Nodup) (hnb : ∀ q ∈ Q, q.2.1 ≠ b) (hs : ∀ q ∈ Q, q.1.length ≤ 4096) (hf : Q.length ≤ 1000) :
    Calls Tryz.prog 28 #[.slice (some ⟨b, 0, none⟩) Q.length C] w fun e w' => e = .returned (.bool true) ∧ Kept (fun x => ∃ q ∈ Q, x = q.2.1) w w' := by
  have hget : ∀ i, i < Q.length → ∃ q, Q[i]? = some q ∧ q ∈ Q ∧ Q.getD i ([], 0, 0) = q := fun i hi => ⟨Q[i], List.getElem?_eq_getElem hi, List.getElem_mem hi, by simp [hi]⟩
  have H : AloneAt w b Q.length (fun i => (Q.getD i ([], 0, 0)).1.length) (fun i => (Q.getD i ([], 0, 0)).2.1) (fun i => (Q.getD i ([], 0, 0)).2.2) := by
    refine ⟨fun i hi => ?_, fun i hi => ?_, fun i j hi hj e => ?_, fun i hi => ?_, fun i hi => ?_, hf⟩
    · obtain ⟨q, h1, _, h3⟩ := hget i hi
      simp only [h3]
      exact hrow i q h1
    · obtain ⟨q, _, h2, h3⟩ := hget i hi
      simp only [h3]
      exact ⟨_, hown q h2⟩
    · obtain ⟨p, h1, _, h3⟩ := hget i hi
      obtain ⟨q, h4, _, h6⟩ := hget j hj
      simp only [h3, h6] at e
      have e1 : (Q.map (·.2.1))[i]? = some p.2.1 := by rw [List.getElem?_map, h1]; rfl
      have e2 : (Q.map (·.2.1))[j]? = some p.2.1 := by rw [List.getElem?_map, h4, e]; rfl
      exact (List.getElem?_inj (by simpa using hi) hnd).1 (e1.trans e2.symm)
    · obtain ⟨q, _, h2, h3⟩ := hget i hi
      simp only [h3]
      exact hnb q h2
    · obtain ⟨q, _, h2, h3⟩ := hget i hi
      simp only [h3]
      exact hs q h2
  refine (l6alone_any H).mono fun e w' h => ⟨h.1, h.2.mono fun x _ hx => ?_⟩
  obtain ⟨i, hi, e⟩ := hx
  obtain ⟨q, _, h2, h3⟩ := hget i hi
  simp only [h3] at e
  exact ⟨q, h2, e⟩
/-- A row that is grown, in memory of its own behind w0. -/
structure AllI (w0 wc : World) (B : Option Addr) (N D : Nat) (vals : List Value) (bk : Option Nat) : Prop where
  own : OwnR wc 22 1 B N D vals bk
  new : ∀ x, bk = some x → w0.heap.size ≤ x
  low : RowKit.Below w0.heap.size w0 wc
theorem AllI.nil (w : World) : AllI w w none 0 0 [] none := ⟨OwnR.nil _ _ _, (fun x h => by cases h), Below.refl _ _⟩
theorem AllI.below {w0 wc wd : World} {B : Option Addr} {N D : Nat} {vals : List Value} {bk : Option Nat} (h : AllI w0 wc B N D vals bk) (hb : RowKit.Below wc.heap.size wc wd) : AllI w0 wd B N D vals bk := ⟨h.own.below hb, h.new, bthen h.low hb⟩
theorem AllI.next {w0 wd w' : World} {B B' : Option Addr} {N D N' D' : Nat} {vals vals' : List Value} {bk bk' : Option Nat} (h : AllI w0 wd B N D vals bk) (H : OwnR w' 22 1 B' N' D' vals' bk') (hg : wd.grownBy w' bk) (hb : bk' = bk ∨ bk' = some wd.heap.size) : AllI w0 w' B' N' D' vals' bk' := by
  refine ⟨H, fun x e => ?_, ((Kept.of_below (F := fun x => bk = some x) h.low).grown hg fun x e => .inl e).below fun x hlt e => by have := h.new x e; omega⟩
  rcases hb with h1 | h1
  · exact h.new x (h1 ▸ e)
  · rw [h1] at e
    obtain rfl := Option.some.inj e
    exact h.low.size
def soleQ (l : List Bs) (qs : List (Nat × Nat)) : List Own3 := List.zipWith (fun p q => (p, q.1, q.2)) l qs
theorem soleQ_vals (l : List Bs) (qs : List (Nat × Nat)) : (soleQ l qs).map own3V = List.zipWith soleV l qs := by
  unfold soleQ
  rw [List.map_zipWith]
  rfl
theorem soleQ_get {w0 w : World} {l : List Bs} {A : Option Addr} {C : Nat} {blk : Option Nat} {qs : List (Nat × Nat)} (h : Sole w0 w l A C blk qs) {x : Own3} (hx : x ∈ soleQ l qs) : OwnR w 5 1 (some ⟨x.2.1, 0, none⟩) x.1.length x.2.2 (x.1.map V8) (some x.2.1) ∧ w0.heap.size ≤ x.2.1 ∧ x.2.1 < w.heap.size ∧ x.1 ∈ l := by
  obtain ⟨i, hi⟩ := List.getElem?_of_mem hx
  unfold soleQ at hi
  rw [List.getElem?_zipWith] at hi
  cases hp : l[i]? with
  | none => rw [hp] at hi; simp at hi
  | some p =>
    cases hq : qs[i]? with
    | none => rw [hp, hq] at hi; simp at hi
    | some q =>
      rw [hp, hq] at hi
      obtain rfl := Option.some.inj hi
      have ho := h.own i p q hp hq
      exact ⟨ho, (h.new q (List.mem_of_getElem? hq)).1, ho.lt _ rfl, List.mem_of_getElem? hp⟩
theorem soleQ_blocks {w0 w : World} {l : List Bs} {A : Option Addr} {C : Nat} {blk : Option Nat} {qs : List (Nat × Nat)} (h : Sole w0 w l A C blk qs) : (soleQ l qs).map (·.2.1) = qs.map (·.1) := by
  unfold soleQ
  rw [List.map_zipWith]
  have : ∀ (l : List Bs) (qs : List (Nat × Nat)), qs.length = l.length → List.zipWith (fun (_ : Bs) (q : Nat × Nat) => q.1) l qs = qs.map (·.1) := fun l => by
    induction l with
    | nil =>
      intro qs hl
      obtain rfl : qs = [] := List.eq_nil_of_length_eq_zero (by simpa using hl)
      rfl
    | cons a t ih =>
      intro qs hl
      cases qs with
      | nil => simp at hl
      | cons q r =>
        simp only [List.zipWith_cons_cons, List.map_cons]
        rw [ih r (by simpa using hl)]
  exact this l qs h.len
theorem soleQ_len {w0 w : World} {l : List Bs} {A : Option Addr} {C : Nat} {blk : Option Nat} {qs : List (Nat × Nat)} (h : Sole w0 w l A C blk qs) : (soleQ l qs).length = l.length := by
  unfold soleQ
  rw [List.length_zipWith, h.len]
  omega
/-- Two rows and two texts, one made behind the other: blocks apart. -/
theorem four_apart {w0 w1 w2 w3 : World} {l : List Bs} {A1 A2 : Option Addr} {C1 C2 c3 c4 k3 k4 : Nat} {b1 b2 : Option Nat} {q1 q2 : List (Nat × Nat)} {st : Bs} (S1 : Sole w0 w1 l A1 C1 b1 q1) (S2 : Sole w1 w2 l A2 C2 b2 q2) (hs : w1.heap.size ≤ w2.heap.size) (h3 : w2.heap.size ≤ k3 ∧ k3 < w3.heap.size) (h4 : w3.heap.size ≤ k4) : ((soleQ l q1 ++ (soleQ l q2 ++ [((st, k3, c3) : Own3), (st, k4, c4)])).map (·.2.1)).Nodup := by
  have a1 : ∀ x ∈ (soleQ l q1).map (·.2.1), x < w1.heap.size := fun x hx => by
    obtain ⟨y, hy, rfl⟩ := List.mem_map.1 hx
    exact (soleQ_get S1 hy).2.2.1
  have a2 : ∀ x ∈ (soleQ l q2).map (·.2.1), w1.heap.size ≤ x ∧ x < w2.heap.size := fun x hx => by
    obtain ⟨y, hy, rfl⟩ := List.mem_map.1 hx
    exact ⟨(soleQ_get S2 hy).2.1, (soleQ_get S2 hy).2.2.1⟩
  simp only [List.map_append, List.map_cons, List.map_nil]
  rw [List.nodup_append]
  refine ⟨by rw [soleQ_blocks S1]; exact S1.nodup, ?_, fun x hx y hy e => ?_⟩
  · rw [List.nodup_append]
    refine ⟨by rw [soleQ_blocks S2]; exact S2.nodup, by simp; omega, fun x hx y hy e => ?_⟩
    have := a2 x hx
    simp at hy
    omega
  · have h1 := a1 x hx
    rcases List.mem_append.1 hy with hy | hy
    · have := a2 y hy
      omega
    · simp at hy
      omega
end Go.Proofs.YtgpenpnobjecgaaGreatDoor

/- RunArm -/
namespace Go.Proofs.YtgpenpnobjecgaaGreatDoor
set_option maxRecDepth 100000
open Go.RowKit Dk

section
variable {Z Z' : Nat → Prop} {w w1 W : World} {g dg : Nat} {d : DiskS} {L : LogS}
theorem RunZ.weak (h : RunZ Z w w1 g dg d L) (hz : ∀ b, Z' b → Z b) : RunZ Z' w w1 g dg d L := by
  obtain ⟨own, lf, hp, hf, hl⟩ := h
  exact ⟨own, lf, hp, fun b hb => ⟨(hf b hb).1, fun h => (hf b hb).2 (hz b h)⟩, hl⟩
theorem DRunZ.weak (h : DRunZ Z w w1 dg d) (hz : ∀ b, Z' b → Z b) : DRunZ Z' w w1 dg d := by
  obtain ⟨recs, own, hd, hO, hf, hl⟩ := h
  exact ⟨recs, own, hd, hO, fun b hb => ⟨(hf b hb).1, fun h => (hf b hb).2 (hz b h)⟩, hl⟩
theorem run_armL (h : RunZ Z w w1 g dg d L) (n : Int) (hn : n ≤ 9223372036854775807) : Calls Tryz.prog 30 #[ptrV dg, .int .i64 n] w1 fun e w' => e = .returned (.tuple #[]) ∧ RunZ Z w w' g dg (Dk.arm d n) L ∧ Kept (fun b => ¬ Z b) w1 w' := by
  obtain ⟨own, lf, ⟨⟨recs, hd⟩, hO, hlog, hap, hlk⟩, hf, hl⟩ := h
  have hm : foot own dg := DAtU.mine hd
  refine (arm_any hd hO n hn).mono ?_
  rintro e w2 ⟨rfl, hd2, hO2, hk⟩
  exact ⟨rfl, ⟨own, lf, ⟨⟨recs, hd2⟩, hO2, hlog.kept hk fun b hb e => by subst e; exact hap _ hb hm, hap, hlk⟩, hf, ((Kept.of_below (F := both own lf) hl).then (hk.mono fun b _ e => e ▸ .inl hm)).below fun b hlt h => by have := (hf b h).1; omega⟩, hk.mono fun b _ e => by subst e; exact (hf _ (.inl hm)).2⟩
end
end Go.Proofs.YtgpenpnobjecgaaGreatDoor

/- Back -/
namespace Go.Proofs.YtgpenpnobjecgaaGreatDoor
set_option maxRecDepth 100000
open Go.RowKit Dk

/-- What comes back. -/
def BackRet (Z : Nat → Prop) (w w1 : World) (R E : Nat) (b : BookS) (e : Ending) (w' : World) : Prop :=
  ∃ dg g d L s rs, e = .returned (.tuple #[ptrV dg, ptrV g]) ∧ RunZ Z w w' g dg d L ∧ Kept (fun b => ¬ Z b) w1 w' ∧ FitsB b s rs ∧ L.state = s ∧ L.records = rs ∧ SafeI R E d L (toldB s rs)
/-- Ahead of a round. -/
structure BackI (Z : Nat → Prop) (w w1 w' : World) (R E : Nat) (b : BookS) (cb dg : Nat) (d : DiskS) (cd : Int) (TA : Option Addr) (tn TC : Nat) : Prop where
  run : DRunZ (fun x => Z x ∨ x = cb) w w' dg d
  kept : Kept (fun b => ¬ Z b) w1 w'
  al : AL (GoodB R E b) d
  box : w'.heap[cb]? = some (.cells #[.int .i64 cd, .slice TA tn TC] 56 (0, 0))
theorem left_fits {R E : Nat} {d : DiskS} {b : BookS} (h : AL (GoodB R E b) d) (c : Int) (tails : List Int) : (left d c tails).length ≤ 4611686018427387904 ∧ ∀ p ∈ left d c tails, p.1.length ≤ maxLen := by
  obtain ⟨s, rs, _, hg⟩ := h c tails
  exact ⟨by have := hg.1.many; omega, fun p hp => by have := (named_len (hg.1.nam p hp)).2; unfold maxLen; omega⟩
set_option maxRecDepth 100000 in
set_option maxHeartbeats 4000000 in
theorem l6back_any {Z : Nat → Prop} {w w1 : World} {dg : Nat} {d : DiskS} {R E times : Nat} {b : BookS} {n cd : Int} {TA : Option Addr} {TC : Nat} {tails : List Int} (hT : Tabs6 w) (h : DRunZ Z w w1 dg d) (hZ : ∀ b, Z b → b < w1.heap.size) (hA : AL (GoodB R E b) d) (hR : R ≤ 9223372036854775807) (ht : times ≤ 3) (hE : E + times + 1 ≤ 1099511627776)
    (hcd : -9223372036854775808 ≤ cd ∧ cd ≤ 9223372036854775807) (Y : IntsW w TA tails.length tails) (hn : n ≤ 9223372036854775807) :
    Calls Tryz.prog 43 #[ptrV dg, .agg #[.int .i64 cd, .slice TA tails.length TC], .int .i64 n, .int .i64 times, .int .i64 R] w1 (BackRet Z w w1 R (E + times + 1) b) := by
  have HT := Lib.hid hT
  have HY := Lib.hid Y
  have HN := Lib.hid (show R ≤ 9223372036854775807 ∧ times ≤ 3 ∧ E + times + 1 ≤ 1099511627776 ∧ (-9223372036854775808 ≤ cd ∧ cd ≤ 9223372036854775807) ∧ n ≤ 9223372036854775807 from ⟨hR, ht, hE, hcd, hn⟩)
  have HZ := Lib.hid hZ
  obtain ⟨cb, hcb⟩ : ∃ cb, cb = w1.heap.size := ⟨_, rfl⟩
  obtain ⟨w2, hw2⟩ : ∃ w2, w2 = w1.alloc (.cells #[.int .i64 cd, .slice TA tails.length TC] 56) := ⟨_, rfl⟩
  have hb2 : RowKit.Below w1.heap.size w1 w2 := by rw [hw2]; exact low1 _ _
  have HI : Hid (BackI Z w w1 w2 R E b cb dg d cd TA tails.length TC) := Lib.hid ⟨(h.wide hb2).weak fun x hx => hx.imp id fun e => ⟨by omega, by rw [hw2]; simp; omega⟩, Kept.of_below hb2, hA, by rw [hcb, hw2]; exact blk1 _ _⟩
  have HCB := Lib.hid (show cb < w2.heap.size ∧ (∀ x, Z x → x ≠ cb) from ⟨by rw [hcb, hw2]; simp, fun x hx e => by have := hZ x hx; omega⟩)
  clear hT h hZ hA hR ht hE hcd Y hn hb2
  unfold ptrV
  go_enter Tryz.func43, Tryz.ntmps43
  go_wp2
  simp only [← hw2, ← hcb]
  clear hw2 hcb
  go_loopw [0, 12] (fun dv iv wr => ∃ (i gi : Nat) (di : DiskS), dv = .pointer (some ⟨gi, 0, none⟩) ∧ iv = .int .i64 i ∧ Hid (i ≤ times ∧ BackI Z w w1 wr R (E + i) b cb gi di cd TA tails.length TC)) (fun _ iv _ => times + 1 - (intOf iv).toNat)
  case atStart => exact ⟨0, dg, d, rfl, rfl, Lib.hid ⟨Nat.zero_le _, HI.out⟩⟩
  case round =>
    obtain ⟨i, gi, di, rfl, rfl, hI⟩ := hrel
    have l1 : (i : Int) ≤ times := by have := hI.out.1; omega
    have c0 : wr.cell? ⟨cb, 0, none⟩ = some (.int .i64 cd) := cell_block hI.out.2.box rfl
    have c1 : wr.cell? ⟨cb, 1, none⟩ = some (.slice TA tails.length TC) := cell_block hI.out.2.box rfl
    have hlf := Lib.hid (run_left (tc := TC) hI.out.2.run.run cd HN.out.2.2.2.1 (Below.refl _ _) (HY.out.below hI.out.2.run.low))
    have hZr := Lib.hid (show ∀ x, Z x ∨ x = cb → x < wr.heap.size from fun x hx => hx.elim (fun h => Nat.lt_of_lt_of_le (HZ.out x h) hI.out.2.kept.size) fun e => e ▸ in_heap hI.out.2.box)
    obtain ⟨e0, hn0, ha0, hst0⟩ := back_step hI.out.2.al (by have := HN.out; have := hI.out.1; omega) cd tails
    have HN0 := Lib.hid hn0
    have HST0 := Lib.hid hst0
    have HA0 := Lib.hid ha0
    have HGN := Lib.hid (left_fits hI.out.2.al cd tails)
    generalize Dk.left di cd tails = lf at hlf HN0 HGN
    clear hn0 hst0 ha0
    unfold ptrV at hlf
    go_wp2_with fail
    go_at_call 31
    refine hlf.out.mono ?_
    rintro e w3 ⟨A3, C3, rfl, hF3, hb3⟩
    have hnw := Lib.hid (run_newZ (Z := fun x => Z x ∨ x = cb) (bthen hI.out.2.run.low hb3) (fun x hx => Nat.lt_of_lt_of_le (hZr.out x hx) hb3.size) hF3 (R := (R : Int)) ⟨by omega, by have := HN.out.1; omega⟩ HGN.out.2 HGN.out.1 HN0.out)
    have HB3 := Lib.hid hb3
    clear hF3 hb3 hlf c0 c1
    go_wp2_with fail
    go_at_call 13
    refine hnw.out.mono ?_
    rintro e w4 ⟨eg, rfl, hD4, hb4⟩
    have HD4 := Lib.hid hD4
    have HK4 := Lib.hid (hI.out.2.kept.then (Kept.of_below (F := fun b => ¬ Z b) (bthen HB3.out hb4)))
    have HBX4 := Lib.hid (bblk (bthen HB3.out hb4) hI.out.2.box)
    have HZ4 := Lib.hid (show ∀ x, Z x ∨ x = cb → x < w4.heap.size from fun x hx => Nat.lt_of_lt_of_le (hZr.out x hx) (bthen HB3.out hb4).size)
    clear hD4 hb4 hnw
    unfold ptrV
    by_cases hlt : i < times
    · have l2 : (i : Int) < times := by omega
      have har := Lib.hid (run_armZ HD4.out n HN.out.2.2.2.2)
      have HLT := Lib.hid hlt
      clear hlt
      unfold ptrV at har
      go_wp2_with (go_at_call 15; refine (l6num_any _ _).mono ?_; rintro e w99 ⟨rfl, rfl⟩)
      go_at_call 30
      refine har.out.mono ?_
      rintro e w5 ⟨rfl, hD5, hk5⟩
      have hx := HST0.out (Dk.arm e0 n) (.inr ⟨n, rfl⟩) hD5.ok
      generalize Dk.arm e0 n = x at hD5 hx
      have HD5 := Lib.hid hD5
      have HK5 := Lib.hid (HK4.out.then (hk5.mono fun b _ hb hz => hb (.inl hz)))
      have HBX5 := Lib.hid (hk5.blk HBX4.out fun h => h (.inr rfl))
      have HZ5 := Lib.hid (show ∀ x, Z x ∨ x = cb → x < w5.heap.size from fun x hx => Nat.lt_of_lt_of_le (HZ4.out x hx) hk5.size)
      clear hD5 hk5 har
      rcases hx with ⟨x', L, s, rs, ho, hf, hs, hr, hsafe⟩ | ⟨_, x', ho, hal⟩
      · have hsafe2 := fun h => (hsafe h).more (E' := E + times + 1) (by have := hI.out.1; omega)
        have HSAFE := Lib.hid (show _ ∧ _ ∧ _ ∧ _ from ⟨hf, hs, hr, hsafe2⟩)
        have hop := Lib.hid (run_openZ HT.out HD5.out HZ5.out ho)
        clear hf hs hr hsafe hsafe2 ho
        unfold ptrV at hop
        go_wp2_with (fail)
        go_at_call 16
        refine hop.out.mono ?_
        rintro e w6 ⟨g, rfl, hR6, hk6⟩
        have HSF := Lib.hid (HSAFE.out.2.2.2 hR6.ok)
        have har2 := Lib.hid (run_armL hR6 0 (by omega))
        have HK6 := Lib.hid (HK5.out.then (hk6.mono fun b _ hb hz => hb (.inl hz)))
        clear hR6 hk6 hop
        unfold ptrV at har2
        go_wp2_with (go_at_call 15; refine (l6num_any _ _).mono ?_; rintro e w99 ⟨rfl, rfl⟩)
        go_at_call 30
        refine har2.out.mono ?_
        rintro e w7 ⟨rfl, hR7, hk7⟩
        have HEND : Hid (BackRet Z w w1 R (E + times + 1) b (.returned (.tuple #[ptrV eg, ptrV g])) w7) := Lib.hid ⟨eg, g, _, L, s, rs, rfl, hR7.weak fun b h => .inl h, HK6.out.then (hk7.mono fun b _ hb hz => hb (.inl hz)), HSAFE.out.1, HSAFE.out.2.1, HSAFE.out.2.2.1, HSF.out.arm 0⟩
        clear hR7 hk7 har2
        go_wp2
        go_ret2
        exact HEND.out
      · have hop := Lib.hid (run_open_noneZ HT.out HD5.out HZ5.out ho)
        have HAL := Lib.hid hal
        clear ho hal
        unfold ptrV at hop
        go_wp2_with (fail)
        go_at_call 16
        refine hop.out.mono ?_
        rintro e w6 ⟨rfl, hD6, hk6⟩
        have HD6 := Lib.hid hD6
        have HK6 := Lib.hid (HK5.out.then (hk6.mono fun b _ hb hz => hb (.inl hz)))
        have HBX6 := Lib.hid (hk6.blk HBX5.out fun h => h (.inr rfl))
        clear hD6 hk6 hop
        have hiw : IntKind.i64.wrap ((i : Int) + 1) = (i : Int) + 1 := IntWalk.i64_in _ (by have := HN.out; omega)
        simp only [Int.cast_ofNat_Int]
        go_wp2_with (go_at_call 15; refine (l6num_any _ _).mono ?_; rintro e w99 ⟨rfl, rfl⟩)
        refine ⟨⟨i + 1, eg, x', rfl, by simp, Lib.hid ⟨HLT.out, HD6.out, HK6.out, HAL.out, HBX6.out⟩⟩, by have := HLT.out; simp [intOf]; omega⟩
    · have l2 : ¬ (i : Int) < times := by omega
      clear hlt
      have hx := HST0.out e0 (.inl rfl) HD4.out.ok
      rcases hx with ⟨x', L, s, rs, ho, hf, hs, hr, hsafe⟩ | ⟨h0, _⟩
      · have hsafe2 := fun h => (hsafe h).more (E' := E + times + 1) (by have := hI.out.1; omega)
        have HSAFE := Lib.hid (show _ ∧ _ ∧ _ ∧ _ from ⟨hf, hs, hr, hsafe2⟩)
        have hop := Lib.hid (run_openZ HT.out HD4.out HZ4.out ho)
        clear hf hs hr hsafe hsafe2 ho
        unfold ptrV at hop
        go_wp2_with (go_at_call 15; refine (l6num_any _ _).mono ?_; rintro e w99 ⟨rfl, rfl⟩)
        go_at_call 16
        refine hop.out.mono ?_
        rintro e w6 ⟨g, rfl, hR6, hk6⟩
        have HSF := Lib.hid (HSAFE.out.2.2.2 hR6.ok)
        have har2 := Lib.hid (run_armL hR6 0 (by omega))
        have HK6 := Lib.hid (HK4.out.then (hk6.mono fun b _ hb hz => hb (.inl hz)))
        clear hR6 hk6 hop
        unfold ptrV at har2
        go_wp2_with (go_at_call 15; refine (l6num_any _ _).mono ?_; rintro e w99 ⟨rfl, rfl⟩)
        go_at_call 30
        refine har2.out.mono ?_
        rintro e w7 ⟨rfl, hR7, hk7⟩
        have HEND : Hid (BackRet Z w w1 R (E + times + 1) b (.returned (.tuple #[ptrV eg, ptrV g])) w7) := Lib.hid ⟨eg, g, _, L, s, rs, rfl, hR7.weak fun b h => .inl h, HK6.out.then (hk7.mono fun b _ hb hz => hb (.inl hz)), HSAFE.out.1, HSAFE.out.2.1, HSAFE.out.2.2.1, HSF.out.arm 0⟩
        clear hR7 hk7 har2
        go_wp2
        go_ret2
        exact HEND.out
      · exact absurd HA0.out h0
end Go.Proofs.YtgpenpnobjecgaaGreatDoor
