/- Laws for digest.Mac: bytes by xor, an array of bytes by value, a copy into an array of zeros. -/
import Derived.Test.YtpdhgijeanbmcaaDoorDsum
import Derived.Test.YtpdhgijeanbmcaaDoorMac
import Derived.Test.YtpdhgijeanbmcaaDoorCat
namespace Go.Proofs.YtpdhgijeanbmcaaDoor
open Go.RowKit

theorem ofInt8 (x : UInt8) : BitVec.ofInt 8 (x.toNat : Int) = x.toBitVec := by
  rw [BitVec.ofInt_natCast]
  apply BitVec.eq_of_toNat_eq
  simp
theorem wrap8u (x : UInt8) : IntKind.u8.wrap (x.toNat : Int) = x.toNat := by
  have := x.toNat_lt
  simp only [IntKind.wrap_u8]
  omega
@[go_sem] theorem xor_V8 (t : TypeId) (c d : UInt8) : binOp .xor t (V8 c) (V8 d) = pure (V8 (c ^^^ d)) := by
  simp only [V8, binOp_xor, Op.intBits, IntKind.bits, ofInt8]
  show pure (Value.int .u8 (IntKind.u8.wrap ((c ^^^ d).toNat : Int))) = _
  rw [wrap8u]
@[go_sem] theorem xor_V8_54 (t : TypeId) (c : UInt8) : binOp .xor t (V8 c) (.int .u8 54) = pure (V8 (c ^^^ 0x36)) := xor_V8 t c 0x36
@[go_sem] theorem xor_V8_92 (t : TypeId) (c : UInt8) : binOp .xor t (V8 c) (.int .u8 92) = pure (V8 (c ^^^ 0x5c)) := xor_V8 t c 0x5c

theorem index_b64 (K : List UInt8) (hK : K.length = 64) (k : Nat) (h : k < 64) (w : World) : (Instr.index 78 (.agg (K.map V8).toArray) (.int .i64 (k : Int))).run Tryd.prog w = .ok (V8 (K.getD k 0)) w := by
  have h0 : 0 ≤ (k : Int) ∧ (k : Int) < ((64 : Nat) : Int) := by omega
  simp [Instr.index, run_underlying Tryd.underlying78, asIntOf, h0, go_sem]
  have hk : k < K.length := by omega
  simp [h, hk]

theorem wpList_copy_pad {P : Program} {w : World} {ops : Array Oper} {rs : List Oper} {o : Oper} {a : Act} {Q : Exit → Act → World → Prop} (hgd : o.guard = none) (d s : Operand) (dT sT : TypeId)
    (ho : o.op = .call { callee := .builtin .copy, args := #[d, s], argTypes := #[dT, sT] }) (elem : TypeId) (hu : P.underlying dT = some (.slice elem)) (hsz : (P.info? elem).map (·.size) = some 1)
    (g m c : Nat) (A : Option Addr) (hd : a.eval d = .slice (some ⟨g, 0, none⟩) 64 64) (hs : a.eval s = .slice A m c)
    (t : TypeId) (hg : w.heap[g]? = some (.cells (zeros8 64) t (0, 0))) (l : List UInt8) (hm : m = l.length) (hl : l.length ≤ 64) (hsrc : BytesAt w A l)
    (h : ∀ w', w'.heap[g]? = some (.cells ((l ++ List.replicate (64 - l.length) 0).map V8).toArray t (0, 0)) → w.grownBy w' (some g) →
      wpList P ops Q rs (a.put o.dst (.int .i64 (l.length : Int))) w') : wpList P ops Q (o :: rs) a w := by
  by_cases h0 : l = []
  · subst h0
    obtain rfl : m = 0 := hm
    refine wpList_copy_nothing hgd d s dT sT ho elem hu hsz _ _ 64 64 0 c hd hs rfl ?_
    have := h w (by simpa [zeros8] using hg) (World.grownBy.refl _ _)
    simpa [goInt] using this
  · obtain ⟨b, o', rfl, hc⟩ := hsrc.at_ (List.length_pos_iff.2 h0)
    refine wpList_copy_own hgd d s dT sT ho elem hu hsz g 0 64 64 ⟨b, o', none⟩ m c hd hs _ t hg (l.map V8) (by rw [List.length_map, hm]; exact (Nat.min_eq_left hl).symm) ?_ (by simp [zeros8_size]; omega) (by simp [V8, Value.oneCell']) ?_
    · intro j v hv
      have hj : j < l.length := by
        have := (List.getElem?_eq_some_iff.1 hv).1
        simpa using this
      rw [Addr.add_lit, hc j hj, ← hv]
      simp [byteF, List.getD, List.getElem?_eq_getElem hj]
    · have := h (w.setRow g ((zeros8 64).toList.take 0 ++ ((l.map V8) ++ (zeros8 64).toList.drop (0 + (l.map V8).length))).toArray) ?_ (grownBy_setRow _ _ _)
      · simpa [goInt] using this
      · rw [setRow_heap _ _ _ _ _ _ hg]
        rw [show (zeros8 64).toList = List.replicate 64 (V8 0) from rfl, List.take_zero, List.nil_append, List.drop_replicate, Nat.zero_add, List.length_map, List.map_append, List.map_replicate]
theorem HashAt.grown {w w' : World} {b k : Nat} {L : List UInt8} (h : HashAt w b L) (hg : w.grownBy w' (some k)) (hb : b ≠ k) : HashAt w' b L := by
  obtain ⟨A, q, rest, t, hL, h1, h2, h3, h4, h5⟩ := h
  exact ⟨A, q, rest, t, hL, h1, h2, h3, h4, (hg.block b (in_heap h5) (fun e => hb (Option.some.inj e))).trans h5⟩
end Go.Proofs.YtpdhgijeanbmcaaDoor
