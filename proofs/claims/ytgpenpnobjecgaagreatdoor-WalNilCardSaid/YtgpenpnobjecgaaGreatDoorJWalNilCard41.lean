/- THE CARD of WalNil: the law answers true and the arguments read as they did. -/
import Derived.Test.YtgpenpnobjecgaaGreatDoorJWalNilCard14
import Derived.Test.YtgpenpnobjecgaaGreatDoorJWalNilCard40
/- LawNil -/
namespace Go.Proofs.YtgpenpnobjecgaaGreatDoor
set_option maxRecDepth 100000
open Go.RowKit Dk

set_option maxRecDepth 100000 in
set_option maxHeartbeats 4000000 in
theorem walnil_law {w : World} (hT : Tabs6 w) : Calls Tryz.prog 8 #[] w fun e w' => e = .returned (.bool true) ∧ RowKit.Below w.heap.size w w' := by
  have HT := Lib.hid hT
  have hc1 := fun (W : World) (cs : Array Value) => lit_conv W cs 1 1
  clear hT
  go_enter Tryz.func8, Tryz.ntmps8
  go_wp2_with fail
  go_at_call 16
  refine (open_nil w).mono ?_
  rintro e w1 ⟨rfl, h1⟩
  have H1 := Lib.hid h1
  clear h1
  have hF0 : FilesAt w1 none ([] : List (Bs × Bs)).length 0 [] (fun _ => False) := ⟨rfl, Nat.le_refl _, fun _ => rfl, (fun ad h => by cases h), (fun i p h => by cases h)⟩
  have hnw := Lib.hid (run_new (w := w) (d := Dk.empty 100) (l := []) H1.out hF0 (R := ((100 : Nat) : Int)) ⟨by omega, by omega⟩ (fun p hp => by cases hp) (by simp) (new_empty 100))
  simp only [List.length_nil] at hnw
  clear hF0
  go_wp2_with fail
  go_at_call 13
  refine hnw.out.mono ?_
  rintro e w2 ⟨dg, rfl, recs, own, hd2, hO2, hf2, hl2⟩
  have har := Lib.hid (arm_any hd2 hO2 1 (by omega))
  have HF2 := Lib.hid hf2
  have HL2 := Lib.hid hl2
  clear hd2 hO2 hf2 hl2 hnw
  unfold ptrV at har
  unfold ptrV
  go_wp2_with fail
  go_at_call 30
  refine har.out.mono ?_
  rintro e w3 ⟨rfl, hd3, hO3, hk3⟩
  have hsd := Lib.hid (syncdir_any hd3 hO3)
  have HK3 := Lib.hid hk3
  have HD3 := Lib.hid hd3
  clear hd3 hO3 hk3 har
  unfold ptrV at hsd
  go_wp2_with fail
  go_at_call 45
  refine hsd.out.mono ?_
  rintro e w4 ⟨rfl, hO4, recs4, own4, hd4, ht4⟩
  have hr4 : syncDir (arm (Dk.empty 100) 1) = ({ arm (Dk.empty 100) 1 with armed := 0, dead := true }, 51) := rfl
  rw [hr4] at hO4 hd4
  have hlow : RowKit.Below w.heap.size w w4 := by
    have hd := HD3.out
    have hdg : foot own dg := by obtain ⟨_, _, _, _, _, _, _, _, M⟩ := hd; exact foot_of M.tg
    exact (((Kept.of_below (F := foot own) HL2.out).then (HK3.out.mono fun b _ e => e ▸ hdg)).then ht4.kept).below fun b hlt h => by have := HF2.out b h; omega
  have hs23 := HK3.out.size
  have hft : ∀ b, foot own4 b → w.heap.size ≤ b := fun b hb => by
    rcases Nat.lt_or_ge b w3.heap.size with h | h
    · exact HF2.out b (ht4.foot b h hb)
    · exact Nat.le_trans HL2.out.size (Nat.le_trans hs23 h)
  have hop := wopen_any hd4 hO4 (w0 := w) ⟨HT.out, hlow, hft⟩
  have hdead : openW { arm (Dk.empty 100) 1 with armed := 0, dead := true } = ({ arm (Dk.empty 100) 1 with armed := 0, dead := true }, none, 2) := by
    unfold openW
    rw [if_pos rfl]
  rw [hdead] at hop
  have HOP := Lib.hid hop
  have HL4 := Lib.hid (show RowKit.Below w.heap.size w w4 ∧ ∀ b, foot own4 b → w.heap.size ≤ b from ⟨hlow, hft⟩)
  clear hr4 hO4 hd4 hlow hs23 hft hop hdead ht4 hsd HD3 HK3 HF2 HL2
  unfold ptrV at HOP
  go_wp2_with fail
  go_at_call 16
  refine HOP.out.mono ?_
  rintro e w5 ⟨_, recs5, own5, _, ht5, he⟩
  have he' : e = .returned (.tuple #[.pointer none, .int .i64 2]) := he
  subst he'
  have H5 : Hid (RowKit.Below w.heap.size w w5) := Lib.hid (((Kept.of_below (F := foot own4) HL4.out.1).then ht5.kept).below fun b hlt h => by have := HL4.out.2 b h; omega)
  clear he ht5 HOP HL4
  go_wp2_with (first
    | (go_at_call 15; refine (l6num_any _ _).mono ?_; rintro e w99 ⟨rfl, rfl⟩)
    | (go_at_call 27; refine (append_nil _ _).mono ?_; rintro e w6 ⟨rfl, h6⟩; have H6 : Hid (RowKit.Below w.heap.size w w6) := Lib.hid (bthen H5.out (bthen (lit_low w5 #[.int .u8 97]) h6)); clear h6)
    | (go_at_call 42; refine (sync_nil _).mono ?_; rintro e w7 ⟨rfl, h7⟩; have H7 : Hid (RowKit.Below w.heap.size w w7) := Lib.hid (bthen H6.out h7); clear h7)
    | (go_at_call 25; refine (snap_nil _ _).mono ?_; rintro e w8 ⟨rfl, h8⟩; have H8 : Hid (RowKit.Below w.heap.size w w8) := Lib.hid (bthen H7.out h8); clear h8)
    | (go_at_call 10; refine (l6live_any (HT.out.low H8.out)).mono ?_; rintro e w9 ⟨rfl, h9⟩; have H9 : Hid (RowKit.Below w.heap.size w w9) := Lib.hid (bthen H8.out h9); clear h9)
    | (go_at_call 19; refine (state_nil _).mono ?_; rintro e w99 ⟨rfl, rfl⟩)
    | (go_at_call 21; refine (records_nil _).mono ?_; rintro e w99 ⟨rfl, rfl⟩)
    | (go_at_call 23; refine (epoch_nil _).mono ?_; rintro e w99 ⟨rfl, rfl⟩)
    | (go_at_call 46; refine (count_nil _).mono ?_; rintro e w99 ⟨rfl, rfl⟩)
    | (go_at_call 17; refine (cut_nil _).mono ?_; rintro e w99 ⟨rfl, rfl⟩)
    | (go_at_call 41; refine (broken_nil _).mono ?_; rintro e w99 ⟨rfl, rfl⟩))
  go_ret
  exact ⟨rfl, H9.out⟩
end Go.Proofs.YtgpenpnobjecgaaGreatDoor

/- WalNilCard -/
namespace Go.Proofs.YtgpenpnobjecgaaGreatDoor.walNil
set_option maxRecDepth 100000
open Go.ChangeShapes Go.WideShapes Go.ChangeAt Go.RowKit

theorem contract (H : Type) (enc : TypeId × Value → H) (W : World) (base : Nat) (args : Array Value) (ds gs : List (DataW H)) (before : List MemPlace)
    (hval : ∀ (j : Nat) t v, Tryz.f8.params[j]? = some t → args[j]? = some v → Value.okWide Tryz.prog W .any base t v)
    (hW : DataW.Whole enc Tryz.prog Tryz.f8.params.toList Rows.walNilSpec.vars false W args.toList ds gs before) (hL : laidMetH Tryz.prog laidLW W) :
    Calls Tryz.prog 8 args W fun e W' => ∃ v, e = .returned v ∧ Rows.walNilSpec.post enc Tryz.prog Tryz.f8 false true false false W args v W' := by
  have hW' := hW
  obtain ⟨p, q, hA0, hV, rfl, hfz, hnd⟩ := hW
  have hA : DataW.TrodAll enc Tryz.prog W 0 (fun _ => true) true Tryz.f8.params.toList args.toList ds p := hA0
  rw [Tryz.params8] at hA hval
  obtain ⟨hargs, rfl, rfl⟩ := trodAll_nil hA
  obtain rfl : args = #[] := by cases args; simp_all
  obtain ⟨rfl, rfl⟩ := trodVars_none hV
  refine (walnil_law (tabs6_of_laid hL)).mono fun e W' ⟨he, hB⟩ => ?_
  subst he
  exact ⟨_, rfl, post_law rfl hW' rfl rfl rfl (by kernel_rfl) hB (fun t ht => by
    have h : t ∈ ([] : List TypeId) := ht
    cases h)⟩

theorem reads (os : Os) {H : Type} (enc : TypeId × Value → H) : ∃ places, DataW.whole enc Tryz.prog ((laidWorldW os).forCall (fun _ _ => 0) ⟨#[], (#[] : Array Value), []⟩).memory Tryz.f8.params.toList Rows.walNilSpec.vars false (#[] : Array Value).toList 8 = some ([], [], places) :=
  ⟨[], by kernel_rfl⟩

set_option maxRecDepth 100000 in
theorem lifted (os : Os) (started : os.Started) (H : Type) (enc : TypeId × Value → H) (F : Stop.Interp) :
    ReturnsInHanded {} Tryz.checked os 8 .any ((OpenSpec.ofChange Rows.walNilSpec).preRow enc Tryz.prog Tryz.f8 Rows.walNilRow.domain false Rows.walNilRow.laid) (((OpenSpec.ofChange Rows.walNilSpec).at F).post enc Tryz.prog Tryz.f8 false true false false) := by
  obtain ⟨places, hx⟩ := reads os enc
  refine returnsInHanded_of_row (C := Tryz.checked) (s := OpenSpec.ofChange Rows.walNilSpec) own started (by kernel_rfl) Tryz.func8
    (witness_row_at (enc := enc) (C := Tryz.checked) false (laidWorldW os) #[] rfl (by kernel_rfl) (by kernel_rfl) (by kernel_rfl)
      (OpenSpec.preRow_of_cond 8 hx (by kernel_rfl) (fun k hk => by cases hk) (by kernel_rfl) (laid_metW os _))) ?_
  intro W base args ds gs before hval hW _ _ _ hL _ _
  exact contract H enc W base args ds gs before hval hW hL

theorem said : Rows.WalNilSaid :=
  OpenClaim.holds_of_cond 8 Tryz.f8 rfl rfl rfl rfl rfl rfl rfl ⟨rfl, rfl, rfl, rfl, rfl⟩ rfl rfl rfl rfl rfl (by kernel_rfl) Tryz.func8 (by kernel_rfl)
    (of_decide_eq_true (by kernel_rfl)) (by unfold Func.isWrapper; first | (rw [if_pos (by decide +kernel)]; kernel_rfl) | (rw [if_neg (by decide +kernel)]; exact ⟨rfl, rfl⟩))
    (fun os started H enc _ F => by rw [OpenClaim.pre_eq_preRow]; exact lifted os started H enc F)

theorem plain (f : FuncId) (fn : Func) (hf : Tryz.pinned.checked.prog.funcNamed "wicket/wicketlaw06.WalNil" = some f) (hfn : Tryz.pinned.checked.prog.funcs[f]? = some fn) :
    true = Tryz.pinned.checked.prog.looks [] ∧ ∀ (j : Nat) t, fn.params[j]? = some t → Tryz.pinned.checked.prog.wantsStandIn t = false := by
  obtain rfl : f = 8 := Option.some.inj ((show Tryz.prog.funcNamed "wicket/wicketlaw06.WalNil" = some 8 by kernel_rfl).symm.trans hf) |>.symm
  obtain rfl : fn = Tryz.f8 := (Option.some.inj (Tryz.func8.symm.trans hfn)).symm
  refine ⟨by kernel_rfl, fun j t ht => ?_⟩
  rw [Tryz.params8] at ht
  simp at ht

/-- THE CARD. -/
theorem card : Rows.WalNilCardSaid :=
  Claim7.holds_tied_plain_at .later [] _ _ _ _ said (fun _ h => by cases h) (by kernel_rfl) (fun _ h => by cases h) walNil_row_tie rfl ⟨rfl, rfl⟩ (by kernel_rfl) rfl plain (by kernel_rfl)
end Go.Proofs.YtgpenpnobjecgaaGreatDoor.walNil
