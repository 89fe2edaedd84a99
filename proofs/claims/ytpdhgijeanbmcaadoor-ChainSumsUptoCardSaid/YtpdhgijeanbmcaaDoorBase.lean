/- Bytes and 32-bit words as values that the walk keeps closed, and what each operation makes of them. -/
import Derived.WalkKit
import Derived.KernelRfl
namespace Go.Proofs.YtpdhgijeanbmcaaDoor
open Go.RowKit

/-- A 32-bit word as a value. -/
def V32 (x : BitVec 32) : Value := .int .u32 (x.toNat : Int)
/-- A byte as a value. -/
def V8 (x : UInt8) : Value := .int .u8 (x.toNat : Int)

section
variable (P : Program) (t t' : TypeId) (op : BinOp) (X Y : Operand) (a b : BitVec 32) (c d : UInt8)
theorem ofInt_toNat (x : BitVec 32) : BitVec.ofInt 32 (x.toNat : Int) = x := by simp [BitVec.ofInt_natCast]
theorem wrap32u (x : BitVec 32) : IntKind.u32.wrap (x.toNat : Int) = x.toNat := by
  have := x.isLt
  simp only [IntKind.wrap_u32]
  omega

@[go_sem high] theorem oneCell'_V32 : (V32 a).oneCell' = true := rfl
@[go_sem high] theorem oneCell'_V8 : (V8 c).oneCell' = true := rfl
@[go_sem high] theorem cells_V32 : (V32 a).cells = #[V32 a] := rfl
@[go_sem high] theorem cells_V8 : (V8 c).cells = #[V8 c] := rfl
@[go_sem] theorem match_V32 : Value.cells.match_1 (fun _ => Array Value) (V32 a) (fun cs => cs) (fun v => #[v]) = #[V32 a] := rfl
@[go_sem] theorem match_V8 : Value.cells.match_1 (fun _ => Array Value) (V8 c) (fun cs => cs) (fun v => #[v]) = #[V8 c] := rfl
@[go_sem] theorem eqGuard_at_V32 (v : Value) : eqGuard op t X Y (V32 a) v = pure () := by cases op <;> rfl
@[go_sem] theorem eqGuard_at_V8 (v : Value) : eqGuard op t X Y (V8 c) v = pure () := by cases op <;> rfl

@[go_sem] theorem xor_V32 : binOp .xor t (V32 a) (V32 b) = pure (V32 (a ^^^ b)) := by
  simp only [V32, binOp_xor, Op.intBits, IntKind.bits, ofInt_toNat, wrap32u]; rfl
@[go_sem] theorem and_V32 : binOp .and t (V32 a) (V32 b) = pure (V32 (a &&& b)) := by
  simp only [V32, binOp_and, Op.intBits, IntKind.bits, ofInt_toNat, wrap32u]; rfl
@[go_sem] theorem or_V32 : binOp .or t (V32 a) (V32 b) = pure (V32 (a ||| b)) := by
  simp only [V32, binOp_or, Op.intBits, IntKind.bits, ofInt_toNat, wrap32u]; rfl
@[go_sem] theorem add_V32 : binOp .add t (V32 a) (V32 b) = pure (V32 (a + b)) := by
  simp only [V32, binOp_add, Op.intArith, BitVec.toNat_add]
  rw [show IntKind.u32.wrap ((a.toNat : Int) + b.toNat) = (((a.toNat + b.toNat) % 2 ^ 32 : Nat) : Int) from by simp only [IntKind.wrap_u32]; omega]
@[go_sem] theorem shr_V32 (n : Int) (h0 : 0 ≤ n) (h1 : n ≤ 32) : binOp .shr t (V32 a) (.int .u64 n) = pure (V32 (a >>> n.toNat)) := by
  simp only [V32, binOp_shr, shift_shr_u32 _ _ _ h0 h1, BitVec.toNat_ushiftRight, Nat.shiftRight_eq_div_pow]
  simp
@[go_sem] theorem shl_V32 (n : Int) (h0 : 0 ≤ n) (h1 : n ≤ 32) : binOp .shl t (V32 a) (.int .u64 n) = pure (V32 (a <<< n.toNat)) := by
  simp only [V32, binOp_shl, shift_shl_u32 _ _ _ h0 h1, BitVec.toNat_shiftLeft, Nat.shiftLeft_eq]
  rw [show IntKind.u32.wrap ((a.toNat : Int) * 2 ^ n.toNat) = ((a.toNat * 2 ^ n.toNat % 2 ^ 32 : Nat) : Int) from by simp only [IntKind.wrap_u32]; simp]
theorem allOnes_xor (x : BitVec 32) : BitVec.allOnes 32 ^^^ x = ~~~x := by rw [BitVec.xor_comm]; exact BitVec.xor_allOnes
@[go_sem] theorem not_V32 : Op.unary .xor (V32 a) = pure (V32 (~~~a)) := by
  have h : Op.unary .xor (V32 a) = pure (Value.int .u32 (IntKind.u32.wrap ((BitVec.allOnes 32 ^^^ BitVec.ofInt 32 (a.toNat : Int) : BitVec 32).toNat : Int))) := rfl
  rw [h, ofInt_toNat, allOnes_xor, wrap32u]
  rfl
end
section
variable {P : Program} (w : World) (ad : Addr) (m : Mode)
@[go_sem] theorem run_store_V32 (x : BitVec 32) : (store ad (V32 x) m).run P w = stored P w ad (V32 x) m := run_store P w ad _ m rfl
@[go_sem] theorem run_store_V8 (x : UInt8) : (store ad (V8 x) m).run P w = stored P w ad (V8 x) m := run_store P w ad _ m rfl
@[go_sem] theorem run_convert_V8_V32 (src dst : TypeId) (x : UInt8) (hs : (P.underlying src).isSome = true) (hd : P.underlying dst = some (.int .u32)) :
    (convert src dst (V8 x)).run P w = .ok (V32 (x.toBitVec.setWidth 32)) w := by
  have hk : P.intKind dst = .u32 := by simp [Program.intKind, hd]
  have := run_convert_int w src dst .u8 x.toNat hs (by rw [hk]; exact hd)
  rw [hk] at this
  rw [V8, this, V32]
  have hx := x.toNat_lt
  rw [show IntKind.u32.wrap (x.toNat : Int) = ((x.toBitVec.setWidth 32).toNat : Int) from by simp only [IntKind.wrap_u32, BitVec.toNat_setWidth, UInt8.toNat_toBitVec]; omega]
@[go_sem] theorem run_convert_V32_V8 (src dst : TypeId) (x : BitVec 32) (hs : (P.underlying src).isSome = true) (hd : P.underlying dst = some (.int .u8)) :
    (convert src dst (V32 x)).run P w = .ok (V8 ⟨x.setWidth 8⟩) w := by
  have hk : P.intKind dst = .u8 := by simp [Program.intKind, hd]
  have := run_convert_int w src dst .u32 x.toNat hs (by rw [hk]; exact hd)
  rw [hk] at this
  rw [V32, this, V8]
  rw [show IntKind.u8.wrap (x.toNat : Int) = (((⟨x.setWidth 8⟩ : UInt8)).toNat : Int) from by simp only [IntKind.wrap_u8, ← UInt8.toNat_toBitVec, BitVec.toNat_setWidth]; omega]
end
end Go.Proofs.YtpdhgijeanbmcaaDoor
