/- What both Derives call: Mac of two parts and of one; the memory in which a part is made. -/
import Derived.Test.YtpdhgijeanbmcaaDoorRMac
namespace Go.Proofs.YtpdhgijeanbmcaaDoor
open Go.RowKit

theorem parts2 {W : World} (x y : Part) (m1 m2 : Nat) (h1 : m1 = x.l.length) (h2 : m2 = y.l.length) (t : TypeId) (hx : Src W x.a x.c x.l) (hy : Src W y.a y.c y.l) : Parts (W.alloc (.cells #[.slice x.a m1 x.c, .slice y.a m2 y.c] t)) W.heap.size [x, y] := by
  subst h1 h2
  refine ⟨by simp, fun k hk => ?_, fun k hk => ?_⟩
  · have : k = 0 ∨ k = 1 := by simp at hk; omega
    rcases this with rfl | rfl <;> (rw [cell_of_row _ _ _ _ _ _ (heap_alloc_new _ _)]; rfl)
  · have : k = 0 ∨ k = 1 := by simp at hk; omega
    rcases this with rfl | rfl
    · exact hx.below (low1 _ _)
    · exact hy.below (low1 _ _)
theorem parts1 {W : World} (x : Part) (m1 : Nat) (h1 : m1 = x.l.length) (t : TypeId) (hx : Src W x.a x.c x.l) : Parts (W.alloc (.cells #[.slice x.a m1 x.c] t)) W.heap.size [x] := by
  subst h1
  refine ⟨by simp, fun k hk => ?_, fun k hk => ?_⟩
  · have : k = 0 := by simp at hk; omega
    subst this
    rw [cell_of_row _ _ _ _ _ _ (heap_alloc_new _ _)]; rfl
  · have : k = 0 := by simp at hk; omega
    subst this
    exact hx.below (low1 _ _)
def MacOk (F : FuncId) : Prop := ∀ (key : List UInt8) (a : Option Addr) (m c : Nat) (ps : List Part) (b n : Nat) (w : World), m = key.length → Tabs w → Src w a c key → n = ps.length → Parts w b ps → key.length < 70368744177664 → n ≤ 1000000 → tot ps ps.length ≤ 35184372088832 →
    Calls Tryd.prog F #[.slice a m c, .slice (some ⟨b, 0, none⟩) n n] w fun e w' => e = .returned (sumV (Sha.mac key (cat ps ps.length))) ∧ Below w.heap.size w w'
theorem dmac_ok : MacOk 37 := fun key a m c ps b n w h1 h2 h3 h4 h5 h6 h7 h8 => dmac_any key a m c ps b n w h1 h2 h3 h4 h5 h6 h7 (by omega)
theorem rmac_ok : MacOk 39 := rmac_any
theorem mac_two {F : FuncId} (hF : MacOk F) (key s z U : List UInt8) (a sa za : Option Addr) (m c sm sc zm zc g : Nat) (W : World) (t : TypeId) (hg : g = W.heap.size) (hU : U = Sha.mac key (s ++ z)) (hm : m = key.length) (hs : sm = s.length) (hz : zm = z.length) (hT : Tabs W) (S : Src W a c key) (S1 : Src W sa sc s) (S2 : Src W za zc z)
    (hlen : key.length < 70368744177664) (hl2 : s.length + z.length ≤ 35184372088832) :
    Calls Tryd.prog F #[.slice a m c, .slice (some ⟨g, 0, none⟩) 2 2] (W.alloc (.cells #[.slice sa sm sc, .slice za zm zc] t)) fun e w' => e = .returned (sumV U) ∧ Below W.heap.size W w' := by
  subst hg
  refine (hF key a m c [⟨sa, sc, s⟩, ⟨za, zc, z⟩] W.heap.size 2 _ hm (hT.below (low1 _ _)) (S.below (low1 _ _)) rfl (parts2 ⟨sa, sc, s⟩ ⟨za, zc, z⟩ sm zm hs hz t S1 S2) hlen (by decide) (by simpa [tot] using hl2)).mono ?_
  rintro e w' ⟨h1, h2⟩
  refine ⟨by rw [h1, hU]; simp [cat], bthen (low1 _ _) h2⟩
theorem mac_one {F : FuncId} (hF : MacOk F) (key s U : List UInt8) (a sa : Option Addr) (m c sm sc g : Nat) (W : World) (t : TypeId) (hg : g = W.heap.size) (hU : U = Sha.mac key s) (hm : m = key.length) (hs : sm = s.length) (hT : Tabs W) (S : Src W a c key) (S1 : Src W sa sc s)
    (hlen : key.length < 70368744177664) (hl2 : s.length ≤ 35184372088832) :
    Calls Tryd.prog F #[.slice a m c, .slice (some ⟨g, 0, none⟩) 1 1] (W.alloc (.cells #[.slice sa sm sc] t)) fun e w' => e = .returned (sumV U) ∧ Below W.heap.size W w' := by
  subst hg
  refine (hF key a m c [⟨sa, sc, s⟩] W.heap.size 1 _ hm (hT.below (low1 _ _)) (S.below (low1 _ _)) rfl (parts1 ⟨sa, sc, s⟩ sm hs t S1) hlen (by decide) (by simpa [tot] using hl2)).mono ?_
  rintro e w' ⟨h1, h2⟩
  refine ⟨by rw [h1, hU]; simp [cat], bthen (low1 _ _) h2⟩

/-- The list so far, and the two arrays in which a part is made. -/
structure DAt (w wq : World) (ub tb : Nat) (B : Option Addr) (C n : Nat) (l U : List UInt8) (f : Nat → Value) : Prop where
  acc : Acc 5 1 w wq w.heap.size B C n (l.map V8)
  u : ∃ t, wq.heap[ub]? = some (.cells (U.map V8).toArray t (0, 0))
  t : Arr wq tb 32 f
  ne : ub ≠ tb
  au : ∀ ad, B = some ad → ad.block ≠ ub
  at_ : ∀ ad, B = some ad → ad.block ≠ tb
  hu : w.heap.size ≤ ub
  ht : w.heap.size ≤ tb
theorem DAt.below {w wq w' : World} {ub tb : Nat} {B : Option Addr} {C n : Nat} {l U : List UInt8} {f : Nat → Value} (h : DAt w wq ub tb B C n l U f) (hb : Below wq.heap.size wq w') : DAt w w' ub tb B C n l U f :=
  ⟨h.acc.below hb, h.u.elim fun t ht => ⟨t, bblk hb ht⟩, h.t.below hb h.t.size, h.ne, h.au, h.at_, h.hu, h.ht⟩
theorem DAt.setu {w wq w' : World} {ub tb : Nat} {B : Option Addr} {C n : Nat} {l U U' : List UInt8} {f : Nat → Value} (h : DAt w wq ub tb B C n l U f) (hg : wq.grownBy w' (some ub)) (hu : ∃ t, w'.heap[ub]? = some (.cells (U'.map V8).toArray t (0, 0))) : DAt w w' ub tb B C n l U' f :=
  ⟨h.acc.other hg h.hu h.au, hu, h.t.grown hg h.ne.symm, h.ne, h.au, h.at_, h.hu, h.ht⟩
theorem DAt.sett {w wq : World} {ub tb : Nat} {B : Option Addr} {C n k : Nat} {l U : List UInt8} {f : Nat → Value} {v : Value} (h : DAt w wq ub tb B C n l U f) (hk : k < 32) : DAt w (wq.setCell ⟨tb, k, none⟩ v) ub tb B C n l U (fun j => if j = k then v else f j) :=
  ⟨h.acc.other (grownBy_setCell _ _ _ _) h.ht h.at_, h.u.elim fun t ht => ⟨t, (((grownBy_setCell wq tb k v).block _ (in_heap ht) (fun e => h.ne (Option.some.inj e)))).trans ht⟩, h.t.set k v hk, h.ne, h.au, h.at_, h.hu, h.ht⟩
theorem DAt.ext {w wq : World} {ub tb : Nat} {B : Option Addr} {C n : Nat} {l U : List UInt8} {f g : Nat → Value} (h : DAt w wq ub tb B C n l U f) (hg : ∀ j, j < 32 → f j = g j) : DAt w wq ub tb B C n l U g :=
  ⟨h.acc, h.u, h.t.ext hg, h.ne, h.au, h.at_, h.hu, h.ht⟩
theorem DAt.ucell {w wq : World} {ub tb : Nat} {B : Option Addr} {C n : Nat} {l U : List UInt8} {f : Nat → Value} (h : DAt w wq ub tb B C n l U f) (k : Nat) (hk : k < U.length) : wq.cell? ⟨ub, k, none⟩ = some (V8 (U.getD k 0)) := by
  obtain ⟨t, ht⟩ := h.u
  exact cell_block ht (by simp [hk, List.getD])
/-- The sum of t and u so far. -/
def xorF (T U : List UInt8) (k j : Nat) : Value := if j < k then V8 (T.getD j 0 ^^^ U.getD j 0) else byteF T j
theorem xorF_zero (T U : List UInt8) : xorF T U 0 = byteF T := by funext j; simp [xorF]
theorem xorF_next (T U : List UInt8) (k j : Nat) : (if j = k then V8 (T.getD k 0 ^^^ U.getD k 0) else xorF T U k j) = xorF T U (k + 1) j := by
  unfold xorF
  by_cases h : j = k
  · subst h; simp
  · rw [if_neg h]
    by_cases h2 : j < k
    · rw [if_pos h2, if_pos (by omega)]
    · rw [if_neg h2, if_neg (by omega)]
theorem xorF_end (T U : List UInt8) (hT : T.length = 32) (hU : U.length = 32) (j : Nat) (hj : j < 32) : xorF T U 32 j = byteF (Sha.xors T U) j := by
  simp [xorF, hj, byteF, Sha.xors, List.getD, hT, hU]
theorem sum_arr {w : World} {b : Nat} {l : List UInt8} {t : TypeId} (h : w.heap[b]? = some (.cells (l.map V8).toArray t (0, 0))) (hl : l.length = 32) : Arr w b 32 (byteF l) :=
  ⟨_, t, h, by simp [hl], fun j hj => by simp [byteF, List.getD, hl, hj]⟩
theorem numb_cells (W : World) (z : List UInt8) (cs : Array Value) (t : TypeId) (h : cs = (z.map V8).toArray) : Src (W.alloc (.cells cs t)) (some ⟨W.heap.size, 0, none⟩) z.length z := by
  subst h
  exact ⟨box_bytes (heap_alloc_new _ _), Nat.le_refl _, (fun h => by cases h), fun ad had => ⟨_, _, (Option.some.inj had).symm, by simp⟩⟩
theorem DAt.start {w w5 w6 w7 : World} {B : Option Addr} {C n : Nat} {l U : List UInt8} {o o' : Obj} {t6 t7 : TypeId} (h : Acc 5 1 w w5 w.heap.size B C n (l.map V8))
    (h6 : w6.heap[w5.heap.size]? = some (.cells (U.map V8).toArray t6 (0, 0))) (g6 : (w5.alloc o).grownBy w6 (some w5.heap.size))
    (h7 : w7.heap[w6.heap.size]? = some (.cells (U.map V8).toArray t7 (0, 0))) (g7 : (w6.alloc o').grownBy w7 (some w6.heap.size)) (hU : U.length = 32) : DAt w w7 w5.heap.size w6.heap.size B C n l U (byteF U) := by
  have i6 := g6.size
  rw [size_alloc] at i6
  have ib := h.base_le
  have a6 := (h.alloc o).other g6 ib fun ad had => Nat.ne_of_lt (h.block ad had).2
  have a7 := (a6.alloc o').other g7 (by omega) fun ad had => Nat.ne_of_lt (a6.block ad had).2
  refine ⟨a7, ⟨t6, (g7.block _ (by rw [size_alloc]; omega) (fun e => by have := Option.some.inj e; omega)).trans (at_old _ h6)⟩, sum_arr h7 hU, by omega, fun ad had => Nat.ne_of_lt (h.block ad had).2, fun ad had => by have := (h.block ad had).2; omega, ib, by omega⟩
theorem Src.take {w : World} {a : Option Addr} {c : Nat} {l : List UInt8} (h : Src w a c l) (n : Nat) : Src w a c (l.take n) :=
  ⟨⟨fun h0 => by
    have hl : 0 < l.length := by simp at h0; omega
    obtain ⟨b, o, e, hc⟩ := h.at_.at_ hl
    refine ⟨b, o, e, fun j hj => ?_⟩
    have hj1 : j < min n l.length := by simpa using hj
    have hj2 : j < n := by omega
    rw [hc j (by omega)]
    simp [byteF, List.getD, hj2]⟩, by have := h.cap; simp; omega, h.nil, h.plain⟩
set_option maxRecDepth 100000 in
set_option maxHeartbeats 400000 in
theorem clone_any (l : List UInt8) (ad : Addr) (m c : Nat) (w : World) (hm : m = l.length) (S : Src w (some ad) c l) (hlen : l.length ≤ 70368744177664) :
    Calls Tryd.prog 38 #[.slice (some ad) m c] w (RetB w m l) := by
  have HS := Lib.hid S
  have Hm := Lib.hid hm
  obtain ⟨b, o, hb, _⟩ := S.plain ad rfl
  subst hb
  have z1 : 0 + m ≤ maxLen := by unfold maxLen; omega
  have z2 : (0 + m) * 1 ≤ 140737488355328 := by omega
  have he : ∀ w : World, (binOp .eql 22 (.slice (some ⟨b, o, none⟩) m c) (.slice none 0 0)).run Tryd.prog w = .ok (.bool false) w := fun _ => rfl
  clear S hm
  go_enter Tryd.func38, Tryd.ntmps38
  go_wp2_with (at_builtin; refine wpList_acc rfl _ _ 22 rfl 5 1 1 _ Tryd.underlying22 info_u8' rfl (by decide) w w.heap.size (some ⟨w.heap.size, 0, none⟩) 0 0 [] rfl (Acc.lit' rfl #[] 0 (Below.refl _ _) (Nat.le_refl _) (by decide) rfl) (some ⟨b, o, none⟩) m c (l.map V8) rfl (by simp [Hm.out]) (HS.out.below (low1 _ _)).at_.cells HS.out.nil HS.out.od (ones' l) z1 z2 ?_; intro B1 D1 w1 hacc hg hnew; rw [List.nil_append, Nat.zero_add] at hacc; have HA1 := Lib.hid hacc; clear hacc hg hnew)
  go_ret
  exact ⟨B1, D1, rfl, HA1.out⟩
theorem numb_at (j : Nat) (h : j ≤ 6) : #[Value.int .u8 ((((j : Nat) : Int) + 1) / 16777216), Value.int .u8 ((((j : Nat) : Int) + 1) / 65536), Value.int .u8 ((((j : Nat) : Int) + 1) / 256), Value.int .u8 (((j : Nat) : Int) + 1)] = ((Sha.numb (j + 1)).map V8).toArray := by
  have h1 : j = 0 ∨ j = 1 ∨ j = 2 ∨ j = 3 ∨ j = 4 ∨ j = 5 ∨ j = 6 := by omega
  rcases h1 with rfl | rfl | rfl | rfl | rfl | rfl | rfl <;> rfl
end Go.Proofs.YtpdhgijeanbmcaaDoor
