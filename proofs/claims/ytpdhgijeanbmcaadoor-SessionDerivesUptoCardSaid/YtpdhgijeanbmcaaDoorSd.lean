/- Both Derives at numbers out of bounds; the law SessionDerives. -/
import Derived.Test.YtpdhgijeanbmcaaDoorDerive
import Derived.Test.YtpdhgijeanbmcaaDoorRDerive
namespace Go.Proofs.YtpdhgijeanbmcaaDoor
open Go.RowKit

def Bad (r n : Int) : Prop := r < 1 ∨ 100000 < r ∨ n < 1 ∨ 1024 < n
set_option maxRecDepth 100000 in
set_option maxHeartbeats 400000 in
theorem derive_bad (u v : Value) (r n : Int) (w : World) (h : Bad r n) : Calls Tryd.prog 11 #[u, v, .int .i64 r, .int .i64 n] w fun e w' => e = .returned (.slice none 0 0) ∧ w = w' := by
  by_cases h1 : r < 1
  · go_enter Tryd.func11, Tryd.ntmps11
    go_wp2
    go_ret
    exact ⟨rfl, rfl⟩
  · by_cases h2 : 100000 < r
    · go_enter Tryd.func11, Tryd.ntmps11
      go_wp2
      go_ret
      exact ⟨rfl, rfl⟩
    · by_cases h3 : n < 1
      · go_enter Tryd.func11, Tryd.ntmps11
        go_wp2
        go_ret
        exact ⟨rfl, rfl⟩
      · have h4 : 1024 < n := by unfold Bad at h; omega
        go_enter Tryd.func11, Tryd.ntmps11
        go_wp2
        go_ret
        exact ⟨rfl, rfl⟩
set_option maxRecDepth 100000 in
set_option maxHeartbeats 400000 in
theorem rderive_bad (u v : Value) (r n : Int) (w : World) (h : Bad r n) : Calls Tryd.prog 12 #[u, v, .int .i64 r, .int .i64 n] w fun e w' => e = .returned (.slice none 0 0) ∧ w = w' := by
  by_cases h1 : r < 1
  · go_enter Tryd.func12, Tryd.ntmps12
    go_wp2
    go_ret
    exact ⟨rfl, rfl⟩
  · by_cases h2 : 100000 < r
    · go_enter Tryd.func12, Tryd.ntmps12
      go_wp2
      go_ret
      exact ⟨rfl, rfl⟩
    · by_cases h3 : n < 1
      · go_enter Tryd.func12, Tryd.ntmps12
        go_wp2
        go_ret
        exact ⟨rfl, rfl⟩
      · have h4 : 1024 < n := by unfold Bad at h; omega
        go_enter Tryd.func12, Tryd.ntmps12
        go_wp2
        go_ret
        exact ⟨rfl, rfl⟩
/-- What both hand back. -/
def pbk (p s : List UInt8) (r n : Int) : List UInt8 := if r < 1 ∨ 100000 < r ∨ n < 1 ∨ 1024 < n then [] else (Sha.derived p s r.toNat 7).take n.toNat
def RetL (w : World) (l : List UInt8) (e : Ending) (w' : World) : Prop := ∃ B m C, e = .returned (.slice B m C) ∧ Acc 5 1 w w' w.heap.size B C m (l.map V8)
theorem RetL.of {w w' : World} {m : Nat} {l : List UInt8} {e : Ending} (h : RetB w m l e w') : RetL w l e w' := by
  obtain ⟨B, C, h1, h2⟩ := h
  exact ⟨B, m, C, h1, h2⟩
/-- The law goes on where: the numbers are out of bounds, or small. -/
structure Fine (r n : Int) : Prop where
  r : ¬ (300 < r ∧ r ≤ 100000)
  n : ¬ (200 < n ∧ n ≤ 1024)
theorem derive_law (p s : List UInt8) (pa sa : Option Addr) (pm pc sm sc : Nat) (r n : Int) (w : World) (hpm : pm = p.length) (hsm : sm = s.length) (hT : Tabs w) (SP : Src w pa pc p) (SS : Src w sa sc s) (hp : p.length < 1099511627776) (hs : s.length < 1099511627776) (hf : Fine r n) :
    Calls Tryd.prog 11 #[.slice pa pm pc, .slice sa sm sc, .int .i64 r, .int .i64 n] w (RetL w (pbk p s r n)) := by
  by_cases hb : Bad r n
  · refine (derive_bad _ _ r n w hb).mono ?_
    rintro e w' ⟨rfl, rfl⟩
    have hb' : r < 1 ∨ 100000 < r ∨ n < 1 ∨ 1024 < n := hb
    rw [pbk, if_pos hb']
    exact ⟨none, 0, 0, rfl, Acc.start _ _ _ _ _ (Below.refl _ _) (Nat.le_refl _)⟩
  · have h1 := hf.r
    have h2 := hf.n
    have hb' : ¬ (r < 1 ∨ 100000 < r ∨ n < 1 ∨ 1024 < n) := hb
    rw [pbk, if_neg hb']
    unfold Bad at hb
    have e1 : r = (r.toNat : Int) := by omega
    have e2 : n = (n.toNat : Int) := by omega
    have := derive_any p s pa sa pm pc sm sc r.toNat n.toNat w hpm hsm hT SP SS hp hs (by omega) (by omega) (by omega) (by omega)
    rw [← e1, ← e2] at this
    exact this.mono fun e w' h => RetL.of h
theorem rderive_law (p s : List UInt8) (pa sa : Option Addr) (pm pc sm sc : Nat) (r n : Int) (w : World) (hpm : pm = p.length) (hsm : sm = s.length) (hT : Tabs w) (SP : Src w pa pc p) (SS : Src w sa sc s) (hp : p.length < 1099511627776) (hs : s.length < 1099511627776) (hf : Fine r n) :
    Calls Tryd.prog 12 #[.slice pa pm pc, .slice sa sm sc, .int .i64 r, .int .i64 n] w (RetL w (pbk p s r n)) := by
  by_cases hb : Bad r n
  · refine (rderive_bad _ _ r n w hb).mono ?_
    rintro e w' ⟨rfl, rfl⟩
    have hb' : r < 1 ∨ 100000 < r ∨ n < 1 ∨ 1024 < n := hb
    rw [pbk, if_pos hb']
    exact ⟨none, 0, 0, rfl, Acc.start _ _ _ _ _ (Below.refl _ _) (Nat.le_refl _)⟩
  · have h1 := hf.r
    have h2 := hf.n
    have hb' : ¬ (r < 1 ∨ 100000 < r ∨ n < 1 ∨ 1024 < n) := hb
    rw [pbk, if_neg hb']
    unfold Bad at hb
    have e1 : r = (r.toNat : Int) := by omega
    have e2 : n = (n.toNat : Int) := by omega
    have := rderive_any p s pa sa pm pc sm sc r.toNat n.toNat w hpm hsm hT SP SS hp hs (by omega) (by omega) (by omega) (by omega)
    rw [← e1, ← e2] at this
    exact this.mono fun e w' h => RetL.of h

/-- A slice of bytes as a string. -/
theorem conv_text {W : World} {l : List UInt8} {a : Option Addr} {m c : Nat} (hm : m = l.length) (S : Src W a c l) : (convert 22 9 (.slice a m c)).run Tryd.prog W = .ok (.string ⟨l.toArray⟩) W := by
  cases a with
  | none =>
    have hc := S.nil rfl
    have hl : l = [] := List.eq_nil_of_length_eq_zero (by have := S.cap; omega)
    rw [run_convert_bytes_nil W 22 5 Tryd.underlying22 Tryd.underlying5 m c 9 Tryd.underlying9, hl]
    rfl
  | some ad =>
    obtain ⟨b, o, e, _⟩ := S.plain ad rfl
    subst e
    rw [run_convert_bytes_arg W 22 5 Tryd.underlying22 Tryd.underlying5 b o m c (l.map fun x => (x.toNat : Int)) (by simp [hm]) (fun i hi => ?_) 9 Tryd.underlying9]
    · simp [strOfNums, Function.comp_def]
    · obtain ⟨b', o', e, hc⟩ := S.at_.at_ (by omega)
      simp only [Option.some.injEq, Addr.mk.injEq, and_true] at e
      obtain ⟨rfl, rfl⟩ := e
      rw [hc i (by omega)]
      simp [byteF, V8, List.getD, show i < l.length by omega]
def pText (l : List UInt8) : Post Low := ⟨fun v w => ∃ B m C, v = .slice B m C ∧ m = l.length ∧ Src w B C l, fun _ _ _ ⟨B, m, C, e, h, hs⟩ hl => ⟨B, m, C, e, h, hs.below hl⟩⟩

set_option maxRecDepth 100000 in
set_option maxHeartbeats 400000 in
theorem sd_early (u v : Value) (r n : Int) (w : World) (h : ¬ Fine r n) : Calls Tryd.prog 3 #[u, v, .int .i64 r, .int .i64 n] w fun e w' => e = .returned (.bool true) ∧ Below w.heap.size w w' := by
  by_cases h1 : 300 < r ∧ r ≤ 100000
  · obtain ⟨h1, h2⟩ := h1
    go_enter Tryd.func3, Tryd.ntmps3
    go_wp2
    go_ret
    exact ⟨rfl, Below.refl _ _⟩
  · have h3 : 200 < n ∧ n ≤ 1024 := Classical.byContradiction fun h4 => h ⟨h1, h4⟩
    obtain ⟨h3, h4⟩ := h3
    by_cases h5 : 300 < r
    · have h6 : ¬ r ≤ 100000 := fun h => h1 ⟨h5, h⟩
      go_enter Tryd.func3, Tryd.ntmps3
      go_wp2
      go_ret
      exact ⟨rfl, Below.refl _ _⟩
    · clear h1
      go_enter Tryd.func3, Tryd.ntmps3
      go_wp2
      go_ret
      exact ⟨rfl, Below.refl _ _⟩

end Go.Proofs.YtpdhgijeanbmcaaDoor
