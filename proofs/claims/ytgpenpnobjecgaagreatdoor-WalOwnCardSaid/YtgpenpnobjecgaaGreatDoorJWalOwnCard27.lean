/- The steps of Append and Sync. -/
import Derived.Deep.RegionLaw
import Derived.Test.YtgpenpnobjecgaaGreatDoorJWalOwnCard23
import Derived.Test.YtgpenpnobjecgaaGreatDoorJWalOwnCard26
/- WDoes -/
namespace Go.Proofs.YtgpenpnobjecgaaGreatDoor
set_option maxRecDepth 100000
open Go.RowKit Dk

def funV (f : Nat × Array Value × Array Value) : Value := .func (.func f.1) f.2.1 f.2.2
set_option maxRecDepth 100000 in
set_option maxHeartbeats 1000000 in
theorem does_any {w : World} {g : Nat} (fs : List (Nat × Array Value × Array Value)) (A : Option Addr) (C : Nat) (I : Nat → World → Prop) (S : Nat → World → Prop)
    (hA : ∀ i wx, I i wx → CellsAt wx A (fs.map funV))
    (hS : ∀ q wx, S q wx → ∃ cs t, wx.heap[g]? = some (.cells cs t (0, 0)) ∧ 6 < cs.size)
    (hB : ∀ i wx wy, I i wx → RowKit.Below wx.heap.size wx wy → I i wy)
    (hstep : ∀ i f wx, fs[i]? = some f → I i wx → Calls Tryz.prog f.1 (f.2.1 ++ f.2.2) wx fun e w' => (e = .returned (.int .i64 0) ∧ I (i + 1) w') ∨ ∃ q : Nat, q ≠ 0 ∧ e = .returned (.int .i64 q) ∧ S q w')
    (hent : ∀ f ∈ fs, ∀ (args : Array Value) (w : World), (callFunc f.1 args).run Tryz.prog w = .ok (.enter f.1 args) w)
    (hl : fs.length ≤ 1000) (h0 : I 0 w) :
    Calls Tryz.prog 66 #[ptrV g, .slice A fs.length C] w fun e w' => (e = .returned (.int .i64 0) ∧ I fs.length w') ∨ ∃ (q : Nat) (wx : World), q ≠ 0 ∧ e = .returned (.int .i64 q) ∧ S q wx ∧ w' = wx.setCell ⟨g, 6, none⟩ (.bool true) := by
  have HA := Lib.hid hA
  have HS := Lib.hid hS
  have HB := Lib.hid hB
  have HST := Lib.hid hstep
  have H0 := Lib.hid h0
  have HE := Lib.hid hent
  clear hA hS hB hstep h0 hent
  unfold ptrV
  go_enter Tryz.func66, Tryz.ntmps66
  go_wp2
  go_loopw [10] (fun iv wr => ∃ i : Nat, iv = .int .i64 i ∧ Hid (i ≤ fs.length ∧ I i wr)) (fun iv _ => fs.length - (intOf iv).toNat)
  case atStart => exact ⟨0, rfl, Lib.hid ⟨Nat.zero_le _, H0.out⟩⟩
  case round =>
    obtain ⟨i, rfl, hI⟩ := hrel
    by_cases hlt : i < fs.length
    · have h1 : (i : Int) < fs.length := by omega
      obtain ⟨⟨k, first, cap⟩, hf⟩ : ∃ f, fs[i]? = some f := ⟨_, List.getElem?_eq_getElem hlt⟩
      obtain ⟨b, o, rfl, hc⟩ := (HA.out i wr hI.out.2).at_ (by rw [List.length_map]; omega)
      have hcell : wr.cell? ⟨b, o + i, none⟩ = some (.func (.func k) first cap) := hc i _ (by rw [List.getElem?_map, hf]; rfl)
      have HF := Lib.hid hf
      have hce := fun W => HE.out _ (List.mem_of_getElem? hf) (first ++ cap) W
      clear hc hf
      go_wp2
      refine (HST.out i _ _ HF.out hI.out.2).mono ?_
      intro e w1 h
      rcases h with ⟨rfl, h2⟩ | ⟨q, hq, rfl, h2⟩
      · have H2 := Lib.hid h2
        clear h2
        go_wp2
        exact ⟨⟨i + 1, by simp, Lib.hid ⟨by omega, H2.out⟩⟩, by simp [intOf]; omega⟩
      · have hq' : ¬ (q : Int) = 0 := by omega
        obtain ⟨cs, t, hrow, h6⟩ := HS.out q w1 h2
        have fz := frozen_row hrow
        have hg := in_heap hrow
        obtain ⟨v6, hv6⟩ : ∃ v, w1.cell? ⟨g, 6, none⟩ = some v := ⟨_, cell_block hrow (Array.getElem?_eq_getElem h6)⟩
        have H2 := Lib.hid h2
        clear h2 hrow
        go_wp2
        go_ret
        exact .inr ⟨q, w1, hq, rfl, H2.out, rfl⟩
    · obtain rfl : i = fs.length := by have := hI.out.1; omega
      have hi : ¬ (fs.length : Int) < (fs.length : Int) := by omega
      go_wp2
      go_ret
      exact .inl ⟨rfl, hI.out.2⟩
end Go.Proofs.YtgpenpnobjecgaaGreatDoor

/- WApp1 -/
namespace Go.Proofs.YtgpenpnobjecgaaGreatDoor
set_option maxRecDepth 100000
open Go.RowKit Dk

section
variable {w0 w : World} {g dg : Nat} {d : DiskS} {recs : List Nat} {own : Nat → Option DTag} {L : LogS} {lf : Nat → Prop} {sA : Option Addr} {sC : Nat} {rA : Option Addr} {rC : Nat} {rblk : Option Nat} {qs : List (Option Addr × Nat)}
set_option maxRecDepth 100000 in
set_option maxHeartbeats 1000000 in
theorem append1_any (hd : DAt w dg d recs own) (hO : Ok d) (hH : Home w0 w (foot own)) (M : LMem w g dg L lf sA sC rA rC rblk qs) {lb bb : Nat} (hlb : w.heap[lb]? = some (.cells #[ptrV g] 38 (0, 0))) (b : Bs) (A : Option Addr) (C : Nat) (hbb : w.heap[bb]? = some (.cells #[.slice A b.length C] 22 (0, 0))) (X : Txt w A b.length C b) (hb : b.length ≤ 4611686018427387904) (hbf : ∀ ad, A = some ad → ¬ foot own ad.block) (hn : L.epoch < 9223372036854775808) :
    Calls Tryz.prog 70 #[ptrV lb, ptrV bb] w (DPost w dg own (Dk.append d (nameW L.epoch) b)) := by
  have q0 : w.cell? ⟨g, 0, none⟩ = some (ptrV dg) := cell_block M.row rfl
  have q1 : w.cell? ⟨g, 1, none⟩ = some (.int .i64 L.epoch) := cell_block M.row rfl
  have q2 : w.cell? ⟨lb, 0, none⟩ = some (ptrV g) := cell_block hlb rfl
  have q3 : w.cell? ⟨bb, 0, none⟩ = some (.slice A b.length C) := cell_block hbb rfl
  have hgl := in_heap M.row
  have hll := in_heap hlb
  have hbl := in_heap hbb
  have HNM := Lib.hid (fun W hW => wname_any L.epoch hn W (hH.tab.low (w' := W) hW))
  have HAP := Lib.hid (fun W (hW : RowKit.Below w.heap.size w W) => append_any (hd.below hW) hO (nameW L.epoch) b (by have := nameW_len L.epoch hn; unfold maxLen; omega) A C (X.below hW) hb hbf)
  clear hd hO hH M hlb hbb X hbf
  unfold ptrV at *
  go_enter Tryz.func70, Tryz.ntmps70
  go_upto_region 1 with (fail)
  go_region_law (first
    | (go_simp; go_at_call 71; refine (HAP.out _ HB1.out).mono ?_; rintro e w2 ⟨rfl, h1⟩; have H2 := Lib.hid h1; clear h1)
    | (go_simp; go_at_call 64; refine (HNM.out _ ((Below.refl _ _).drew)).mono ?_; rintro e w1 ⟨rfl, h1⟩; have HB1 : Hid (RowKit.Below w.heap.size w w1) := Lib.hid (bthen ((Below.refl _ _).drew) h1); have q01 : w1.cell? ⟨bb, 0, none⟩ = some (.slice A b.length C) := (HB1.out.cell (p := ⟨bb, 0, none⟩) hbl).trans q3; have q02 : w1.cell? ⟨g, 0, none⟩ = some (.pointer (some ⟨dg, 0, none⟩)) := (HB1.out.cell (p := ⟨g, 0, none⟩) hgl).trans q0; have q03 : w1.cell? ⟨lb, 0, none⟩ = some (.pointer (some ⟨g, 0, none⟩)) := (HB1.out.cell (p := ⟨lb, 0, none⟩) hll).trans q2; clear h1))
  all_goals
    go_wp2_with fail
    go_ret
    obtain ⟨h1, recs2, own2, h2, h3⟩ := H2.out
    exact ⟨rfl, h1, recs2, own2, h2, (Turned.below HB1.out).trans h3⟩
end
end Go.Proofs.YtgpenpnobjecgaaGreatDoor
