/- disk.New. -/
import Derived.Test.YtgpenpnobjecgaaGreatDoorJWalSafeCard20
/- DNew -/
namespace Go.Proofs.YtgpenpnobjecgaaGreatDoor
set_option maxRecDepth 100000
open Go.RowKit Go.Maps Dk

section
variable {w w' : World} {g : Nat} {d : DiskS} {u : Nat} {recs : List Nat} {own : Nat → Option DTag} {fA : Option Addr} {fC : Nat} {fb : Option Nat} {mb : Nat} {sb : Option Nat} {cA : Option Addr} {cC : Nat} {cb : Option Nat}
theorem DMem.resafe1 (M : DMem w g d u recs own fA fC fb mb sb cA cC cb) (hB : Below w.heap.size w w') {nb : Nat} (hs : DirAt w' nb d.dir) (hn : w.heap.size ≤ nb) :
    DMem (w'.setCell ⟨g, 4, none⟩ (.map (some nb))) g { d with safe := d.dir } u recs (grow own .safe (some nb)) fA fC fb mb (some nb) cA cC cb := by
  have hk : Kept (· = g) w (w'.setCell ⟨g, 4, none⟩ (.map (some nb))) := (Kept.of_below (F := (· = g)) hB).setCell _ _ (.inl rfl)
  have hkg : Kept (· = g) w' (w'.setCell ⟨g, 4, none⟩ (.map (some nb))) := (Kept.refl (· = g) w').setCell _ _ (.inl rfl)
  have hne : ∀ {b t}, own b = some t → t ≠ .disk → ¬ b = g := fun h hn => ne_of_tag h M.tg hn
  have hgl := in_heap M.row
  have ho : ∀ b, b < w.heap.size → grow own .safe (some nb) b = own b := fun b hb => by unfold grow; rw [if_neg]; intro e; have := Option.some.inj e; omega
  have tg' : ∀ {b t}, own b = some t → grow own .safe (some nb) b = some t := fun {b t} h => by rw [ho b (M.lt b (by rw [h]; simp))]; exact h
  have hg' : w'.heap[g]? = _ := bblk hB M.row
  refine ⟨?_, M.files.kept hk fun b hb => hne (M.tf b hb) (by simp), fun i f hf => ?_, M.dir.kept hk (hne M.td (by simp)), fun b hb => (by obtain rfl := Option.some.inj hb; exact hs.kept hkg (by show ¬ nb = g; omega)), M.chg.kept hk fun b hb => hne (M.tc b hb) (by simp), fun b hb => ?_, tg' M.tg, M.tf.grown ho M.files.lt, tg' M.td, grow_tag _, M.tc.grown ho M.chg.lt⟩
  · rw [setCell_one hg' _]; rfl
  · obtain ⟨r, A, C, blk, e1, e2⟩ := M.fil i f hf
    exact ⟨r, A, C, blk, e1, (e2.retag ho).kept hk (hne e2.tag (by simp)) fun b hb => hne (e2.btag b hb) (by simp)⟩
  · refine Nat.lt_of_lt_of_le ?_ hkg.size
    unfold grow at hb
    split at hb
    · next e => obtain rfl := Option.some.inj e; exact hs.lt
    · exact Nat.lt_of_lt_of_le (M.lt b hb) hB.size
end
/-- What a disk is while it is made, but for the room. -/
def Ok0 (d : DiskS) : Prop := Ok { d with room := 9223372036854775807 }
def dkAdd (d : DiskS) (s b : Bs) : DiskS := { d with dir := dput d.dir s d.files.length, files := d.files ++ [⟨b, b.length⟩] }
theorem dkAdd_used {d : DiskS} (h : Ok0 d) {s b : Bs} (hg : dget d.dir s = none) : (dkAdd d s b).used = d.used + b.length := by
  have h1 : usedIn (d.files ++ [⟨b, b.length⟩]) (dput d.dir s d.files.length) = b.length + usedIn (d.files ++ [⟨b, b.length⟩]) (ddel d.dir s) := by
    unfold dput
    rw [usedIn_dins]
    simp [fileAt]
  have h2 : usedIn (d.files ++ [⟨b, b.length⟩]) d.dir = usedIn d.files d.dir := usedIn_congr fun p hp => by rw [fileAt_push (h.dirF p hp).1]
  show usedIn _ _ = usedIn _ _ + _
  show usedIn (d.files ++ [⟨b, b.length⟩]) (dput d.dir s d.files.length) = _
  rw [h1, ddel_none hg, h2]
  omega
theorem dkAdd_ok {d : DiskS} (h : Ok0 d) {s b : Bs} (hg : dget d.dir s = none) (hn : named s = true) (hb : b.length ≤ 4194304) (hk : d.files.length + 1 ≤ 64) (hl : d.dir.length + 1 ≤ 64) (hu : d.used ≤ 4611686018427387904) (hs : d.safe = []) (hc : d.chg = []) : Ok0 (dkAdd d s b) := by
  have hused := dkAdd_used h (b := b) hg
  refine ⟨Nat.le_refl _, ?_, h.ops, h.armed, ?_, h.nchg, ?_, h.nsafe, fun f hf => ?_, ?_, rising_dput h.dirR _ _, h.safeR, fun p hp => ?_, fun p hp => ?_, fun c hc2 => ?_⟩
  · show (dkAdd d s b).used ≤ _
    rw [hused]; show _ ≤ 9223372036854775807; omega
  · have := h.nfiles; show (d.files ++ [_]).length ≤ _; simp only [List.length_append, List.length_singleton]; show _ ≤ 64 + d.ops; omega
  · show (dput d.dir s _).length ≤ 64
    unfold dput; rw [length_dins]; have := length_ddel_le d.dir s; omega
  · rcases List.mem_append.1 hf with hf | hf
    · exact h.len f hf
    · obtain rfl := List.mem_singleton.1 hf
      exact ⟨hb, Nat.le_refl _⟩
  · refine nodup_dins (nodup_ddel h.dirI _) ?_
    intro hm
    obtain ⟨p, hp, he⟩ := List.mem_map.1 hm
    have := (h.dirF p (mem_ddel.1 hp).1).1
    have h2 : p.2 = d.files.length := he
    have h3 : p.2 < d.files.length := this
    omega
  · have key : p.2 < d.files.length + 1 ∧ named p.1 = true := by
      rcases mem_dput.1 hp with rfl | ⟨hp, _⟩
      · exact ⟨Nat.lt_succ_self _, hn⟩
      · have := h.dirF p hp; exact ⟨Nat.lt_succ_of_lt this.1, this.2⟩
    refine ⟨?_, key.2⟩
    show _ < (d.files ++ [_]).length
    simp only [List.length_append, List.length_singleton]; exact key.1
  · have : p ∈ d.safe := hp
    rw [hs] at this; cases this
  · have : c ∈ d.chg := hc2
    rw [hc] at this; cases this
theorem newFrom_cons (room : Nat) (s b : Bs) (r : List (Bs × Bs)) (d : DiskS) : newFrom room ((s, b) :: r) d = if !named s then (d, 50) else if (dget d.dir s).isSome then (d, 34) else if 4194304 < b.length then (d, 1) else newFrom room r (dkAdd d s b) := rfl

/-- What New answers. -/
def NewPost (w : World) (r : Option DiskS × Nat) (e : Ending) (w' : World) : Prop := Below w.heap.size w w' ∧ match r with
  | (none, n) => e = .returned (.tuple #[.pointer none, .int .i64 n])
  | (some d, n) => n = 0 ∧ Ok d ∧ ∃ g recs own, e = .returned (.tuple #[ptrV g, .int .i64 0]) ∧ DAt w' g d recs own ∧ ∀ b, foot own b → w.heap.size ≤ b
/-- The disk in the midst of New. -/
def MakingU (w wr : World) (g : Nat) (d : DiskS) (u : Nat) : Prop := ∃ recs own fA fC fb mb cA cC cb, DMem wr g d u recs own fA fC fb mb none cA cC cb ∧ ∀ b, foot own b → w.heap.size ≤ b
def Making (w wr : World) (g : Nat) (d : DiskS) : Prop := MakingU w wr g d d.used
set_option maxRecDepth 100000 in
set_option maxHeartbeats 4000000 in
theorem new_any {w : World} (l : List (Bs × Bs)) (A : Option Addr) (C : Nat) (G : Nat → Prop) (hF : FilesAt w A l.length C l G) (room : Int) (hr : -9223372036854775808 ≤ room ∧ room ≤ 9223372036854775807) (hn : ∀ p ∈ l, p.1.length ≤ maxLen) (hll : l.length ≤ 4611686018427387904) :
    Calls Tryz.prog 13 #[.slice A l.length C, .int .i64 room] w (NewPost w (Dk.new l room)) := by
  have HF := Lib.hid hF
  have HR := Lib.hid hr
  have HN := Lib.hid hn
  clear hF hn
  by_cases h1 : room < 0
  · have hq := Lib.hid (show Dk.new l room = (none, 2) by unfold Dk.new; rw [if_pos h1])
    go_enter Tryz.func13, Tryz.ntmps13
    go_wp2
    go_ret2
    rw [hq.out]
    exact ⟨Below.refl _ _, rfl⟩
  · by_cases h2 : 64 < l.length
    · have hq := Lib.hid (show Dk.new l room = (none, 32) by unfold Dk.new; rw [if_neg h1, if_pos h2])
      have h2' : (64 : Int) < l.length := by omega
      clear h2
      go_enter Tryz.func13, Tryz.ntmps13
      go_wp2
      go_ret2
      rw [hq.out]
      exact ⟨Below.refl _ _, rfl⟩
    · have h2' : ¬ (64 : Int) < l.length := by omega
      have HL := Lib.hid h2
      have hm := @run_makeMap Tryz.prog
      obtain ⟨R, hR⟩ : ∃ R : Nat, room = R := ⟨room.toNat, by omega⟩
      subst hR
      have hq := Lib.hid (show Dk.new l (R : Int) = match newFrom R l (empty R) with
        | (d, 0) => if d.room < d.used then (none, 5) else (some { d with safe := d.dir }, 0)
        | (_, e + 1) => (none, e + 1) by unfold Dk.new; rw [if_neg h1, if_neg h2]; rfl)
      clear h2 h1 hr
      go_enter Tryz.func13, Tryz.ntmps13
      go_wp2
      have hM0 : DMem ((w.alloc (.map #[] 0)).alloc (.cells (diskRow R 0 none 0 0 w.heap.size none none 0 0 0 0 false) 103)) (w.heap.size + 1) (empty R) (empty R).used [] (fun b => if b = w.heap.size + 1 then some .disk else if b = w.heap.size then some .dir else none) none 0 none w.heap.size none none 0 none := by
        refine ⟨?_, OwnR.nil _ _ _, (fun i f hf => by simp [empty] at hf), (DirAt.made w).below (low1 _ _), (fun b hb => by cases hb), OwnR.nil _ _ _, fun b hb => ?_, by simp, (fun b hb => by cases hb), by simp, (fun b hb => by cases hb), (fun b hb => by cases hb)⟩
        · exact at_new _ _ (by simp)
        · by_cases e1 : b = w.heap.size + 1
          · subst e1; simp
          · by_cases e2 : b = w.heap.size
            · subst e2; simp <;> omega
            · simp [e1, e2] at hb
      have hMk0 : Making w ((w.alloc (.map #[] 0)).alloc (.cells (diskRow R 0 none 0 0 w.heap.size none none 0 0 0 0 false) 103)) (w.heap.size + 1) (empty R) := by
        refine ⟨_, _, _, _, _, _, _, _, _, hM0, fun b hb => ?_⟩
        unfold foot at hb
        by_cases e1 : b = w.heap.size + 1
        · omega
        · by_cases e2 : b = w.heap.size
          · omega
          · simp [e1, e2] at hb
      have hLow0 : Below w.heap.size w ((w.alloc (.map #[] 0)).alloc (.cells (diskRow R 0 none 0 0 w.heap.size none none 0 0 0 0 false) 103)) := low2 _ _ _
      unfold diskRow at hMk0 hLow0
      have HMK0 := Lib.hid hMk0
      have HLOW0 := Lib.hid hLow0
      clear hM0 hMk0 hLow0
      obtain ⟨g, hg⟩ : ∃ g, g = w.heap.size + 1 := ⟨_, rfl⟩
      rw [← hg] at HMK0 ⊢
      have HG := Lib.hid hg
      clear hg
      go_loopw [22] (fun i ws => ∃ (k : Nat) (d : DiskS), k ≤ l.length ∧ i = .int .i64 k ∧ Hid (Making w ws g d ∧ Below w.heap.size w ws ∧ newFrom R l (empty R) = newFrom R (l.drop k) d ∧ Ok0 d ∧ d.files.length = k ∧ d.dir.length ≤ k ∧ d.used ≤ k * 4194304 ∧ d.safe = [] ∧ d.chg = [] ∧ d.room = R)) (fun i _ => l.length - (intOf i).toNat)
      case atStart => exact ⟨0, empty R, by omega, rfl, Lib.hid ⟨HMK0.out, HLOW0.out, rfl, ⟨Nat.le_refl _, Nat.zero_le _, Nat.zero_le _, Nat.zero_le _, Nat.zero_le _, Nat.zero_le _, Nat.zero_le _, Nat.zero_le _, (fun f hf => by cases hf), List.nodup_nil, List.Pairwise.nil, List.Pairwise.nil, (fun p hp => by cases hp), (fun p hp => by cases hp), (fun c hc => by cases hc)⟩, rfl, Nat.le_refl _, (by simp [empty, DiskS.used, usedIn]), rfl, rfl, rfl⟩⟩
      case round =>
        obtain ⟨k, d, hk, rfl, hI⟩ := hrel
        by_cases hlt : k < l.length
        · have hki : (k : Int) < l.length := by omega
          have hki0 : (0 : Int) ≤ (k : Int) := by omega
          obtain ⟨s, b, hsb⟩ : ∃ s b, l[k] = (s, b) := ⟨_, _, rfl⟩
          obtain ⟨fb0, fo, B, bc, rfl, e1, e2, hX, _⟩ := HF.out.each k (s, b) (by rw [List.getElem?_eq_getElem hlt, hsb])
          have hcap := HF.out.cap
          have e1' : wr.cell? ⟨fb0, fo + k * 2, none⟩ = some (.string ⟨s.toArray⟩) := (hI.out.2.1.cell (p := ⟨fb0, fo + k * 2, none⟩) (World.block_lt_of_cell? _ _ e1)).trans e1
          have e2' : wr.cell? ⟨fb0, fo + k * 2 + 1, none⟩ = some (.slice B b.length bc) := (hI.out.2.1.cell (p := ⟨fb0, fo + k * 2 + 1, none⟩) (World.block_lt_of_cell? _ _ e2)).trans e2
          obtain ⟨recs, own, fA, fC, fb, mb, cA, cC, cb, M, hfr⟩ := hI.out.1
          have c3 : wr.cell? ⟨g, 3, none⟩ = some (.map (some mb)) := cell_block M.row rfl
          have hgl := in_heap M.row
          have hsl : s.length ≤ maxLen := HN.out (s, b) (by rw [← hsb]; simp)
          have hlk : ∀ n o, (Instr.lookup 99 (.map (some mb)) (.string ⟨s.toArray⟩) true).run Tryz.prog ((wr.alloc o).drewN n) = .ok (.tuple #[.int .i64 ((dget d.dir s).getD 0 : Nat), .bool (dget d.dir s).isSome]) ((wr.alloc o).drewN n) := fun n o => ((M.dir.below (low1 wr o)).below (below_drewN _ n)).look2 hsl
          have hlk0 : ∀ o, (Instr.lookup 99 (.map (some mb)) (.string ⟨s.toArray⟩) true).run Tryz.prog (wr.alloc o) = .ok (.tuple #[.int .i64 ((dget d.dir s).getD 0 : Nat), .bool (dget d.dir s).isSome]) (wr.alloc o) := fun o => hlk 0 o
          have hcons : newFrom R (l.drop k) d = if !named s then (d, 50) else if (dget d.dir s).isSome then (d, 34) else if 4194304 < b.length then (d, 1) else newFrom R (l.drop (k + 1)) (dkAdd d s b) := by
            rw [List.drop_eq_getElem_cons hlt, hsb]; exact newFrom_cons R s b _ d
          have HM := Lib.hid M
          have HFR := Lib.hid hfr
          have HX := Lib.hid hX
          have HSB := Lib.hid hsb
          have HCO := Lib.hid hcons
          have HSL := Lib.hid hsl
          have HNM := Lib.hid (fun W => named_any s W (by unfold maxLen at hsl; omega))
          unfold strV at HNM
          clear M hfr hX hsb hcons e1 e2 hsl
          have hfin : ∀ (n : Nat) (o : Obj) (q : Nat), newFrom R l (empty R) = (d, n + 1) → NewPost w (Dk.new l (R : Int)) (.returned (.tuple #[.pointer none, .int .i64 ((n + 1 : Nat) : Int)])) ((wr.alloc o).drewN q) := fun n o q hn => by
            rw [hq.out, hn]
            exact ⟨bthen hI.out.2.1 (bthen (low1 _ _) (below_drewN _ _)), rfl⟩
          have HFIN := Lib.hid hfin
          clear hfin
          by_cases hnm : named s = false
          · have he := Lib.hid (show newFrom R l (empty R) = (d, 49 + 1) by rw [hI.out.2.2.1, HCO.out, if_pos (by simp [hnm])])
            have HNF := Lib.hid hnm
            clear hnm
            go_upto_region 9 with (fail)
            go_quiet (fail)
            go_wp2_with (go_at_call 50; refine (HNM.out _).mono ?_; rw [HNF.out]; rintro e w1 ⟨rfl, rfl⟩)
            go_ret2
            exact HFIN.out _ _ _ he.out
          · have hnt : named s = true := by simpa using hnm
            have HNT := Lib.hid hnt
            clear hnm hnt
            cases hg : dget d.dir s with
            | some i =>
              have he := Lib.hid (show newFrom R l (empty R) = (d, 33 + 1) by rw [hI.out.2.2.1, HCO.out, if_neg (by simp [HNT.out]), if_pos (by rw [hg]; rfl)])
              rw [hg] at hlk hlk0
              simp only [Option.getD_some, Option.isSome_some] at hlk hlk0
              clear hg
              go_upto_region 9 with (fail)
              go_quiet (fail)
              go_wp2_with (go_at_call 50; refine (HNM.out _).mono ?_; rw [HNT.out]; rintro e w1 ⟨rfl, rfl⟩)
              go_ret2
              exact HFIN.out _ _ _ he.out
            | none =>
              have HG2 := Lib.hid hg
              rw [hg] at hlk hlk0
              simp only [Option.getD_none, Option.isSome_none] at hlk hlk0
              clear hg
              by_cases hlen : 4194304 < b.length
              · have he := Lib.hid (show newFrom R l (empty R) = (d, 0 + 1) by rw [hI.out.2.2.1, HCO.out, if_neg (by simp [HNT.out]), if_neg (by rw [HG2.out]; simp), if_pos hlen])
                have hlen' : (4194304 : Int) < b.length := by omega
                clear hlen
                go_upto_region 9 with (fail)
                go_quiet (fail)
                go_wp2_with (go_at_call 50; refine (HNM.out _).mono ?_; rw [HNT.out]; rintro e w1 ⟨rfl, rfl⟩)
                go_ret2
                exact HFIN.out _ _ _ he.out
              · have hlen' : decide ((4194304 : Int) < b.length) = false := by simp; omega
                have HLE := Lib.hid (show b.length ≤ 4194304 by omega)
                clear hlen HFIN
                go_upto_region 9 with (fail)
                go_quiet (fail)
                go_wp2_with (go_at_call 50; refine (HNM.out _).mono ?_; rw [HNT.out]; rintro e w1 ⟨rfl, rfl⟩)
                have hB1 : Below wr.heap.size wr ((wr.alloc (.cells #[.string ⟨s.toArray⟩, .slice B b.length bc] 35)).drewN nq) := bthen (low1 _ _) (below_drewN _ _)
                have hbox : ((wr.alloc (.cells #[.string ⟨s.toArray⟩, .slice B b.length bc] 35)).drewN nq).heap[wr.heap.size]? = some (.cells #[.string ⟨s.toArray⟩, .slice B b.length bc] 35 (0, 0)) := blk1 _ _
                obtain ⟨W1, hW1⟩ : ∃ W1, W1 = (wr.alloc (.cells #[.string ⟨s.toArray⟩, .slice B b.length bc] 35)).drewN nq := ⟨_, rfl⟩
                rw [← hW1] at hB1 hbox ⊢
                have hM1 := HM.out.kept (Kept.of_below (F := fun _ => False) hB1) (fun _ _ => id)
                have c31 : W1.cell? ⟨g, 3, none⟩ = some (.map (some mb)) := cell_block hM1.row rfl
                have x0 : W1.cell? ⟨wr.heap.size, 0, none⟩ = some (.string ⟨s.toArray⟩) := cell_block hbox rfl
                have hkb : k ≤ 9223372036854775807 := by have := HL.out; omega
                have hdl : d.dir.length < maxLen := by have := hI.out.2.2.2.2.2.1; have := HL.out; unfold maxLen; omega
                have HB1 := Lib.hid hB1
                have HBX := Lib.hid hbox
                have HM1 := Lib.hid hM1
                have HDL := Lib.hid hdl
                clear hB1 hbox hM1 hdl hW1 hlk hlk0 e1' e2' c3
                go_still_tail 7, (by kernel_rfl)
                change wpList _ _ _ _ _ W1.drew
                go_upto_region 17 with (at_mapUpdate; refine wpList_put_dir rfl _ _ _ rfl mb d.dir s k rfl rfl rfl (HM1.out.dir.below ((Below.refl _ _).drew)) HSL.out HDL.out hkb ?_; intro w2 hd2 hk2; have HD2 := Lib.hid hd2; have HK2 := Lib.hid hk2; clear hd2 hk2)
                have hmbl : mb < wr.heap.size := HM.out.lt mb (by rw [HM.out.td]; simp)
                have hM2 := (HM1.out.kept (F := fun _ => False) (Kept.of_below ((Below.refl _ _).drew)) (fun _ _ => id)).redir HK2.out _ HD2.out
                have hbx2 := HK2.out.blk (b := wr.heap.size) HBX.out (by show ¬ wr.heap.size = mb; omega)
                have hgl2 := in_heap hM2.row
                have c22 : w2.cell? ⟨g, 2, none⟩ = some (.slice fA d.files.length fC) := cell_block hM2.row rfl
                have c21 : w2.cell? ⟨g, 1, none⟩ = some (.int .i64 d.used) := cell_block hM2.row rfl
                have x1 : w2.cell? ⟨wr.heap.size, 1, none⟩ = some (.slice B b.length bc) := cell_block hbx2 rfl
                have hxl := in_heap hbx2
                have hX2 : Txt w2 B b.length bc b := ((HX.out.below (bthen hI.out.2.1 (bthen HB1.out ((Below.refl _ _).drew))))).kept HK2.out (fun ad had _ => by
                  obtain ⟨b9, o9, rfl, hlt9⟩ := HX.out.src.plain ad had
                  have := HFR.out mb (foot_of HM.out.td)
                  show ¬ b9 = mb
                  omega)
                have HM2 := Lib.hid hM2
                have HCL := Lib.hid (fun W (h : Below w2.heap.size w2 W) => bclone_any b B bc W (hX2.below h) (by have := HLE.out; omega))
                have z1 : d.files.length + 1 ≤ maxLen := by have := hI.out.2.2.2.2.1; have := HL.out; unfold maxLen; omega
                have z2 : (d.files.length + 1) * 8 ≤ 140737488355328 := by have := hI.out.2.2.2.2.1; have := HL.out; omega
                have j5 : (d.used : Int) + b.length ≤ 9223372036854775807 := by have := hI.out.2.2.2.2.2.2.1; have := HL.out; have := HLE.out; omega
                have j6 : (0 : Int) ≤ (d.used : Int) + b.length := by omega
                clear hM2 hbx2 hX2 x0 c31
                go_frame
                obtain ⟨d1, hd1⟩ : ∃ d1, d1 = dkAdd d s b := ⟨_, rfl⟩
                have HD1 := Lib.hid hd1
                clear hd1
                go_cut [] (fun wx => Hid (MakingU w wx g d1 d.used ∧ Below w.heap.size w wx ∧ wx.cell? ⟨wr.heap.size, 1, none⟩ = some (.slice B b.length bc)))
                case first =>
                  go_region_law (first
                    | (refine step_app rfl _ _ 100 rfl 106 1 8 (.pointer none) Tryz.underlying100 (by kernel_rfl) rfl (by decide) fA d.files.length fC (recs.map ptrV) fb rfl (HM2.out.files.below (bthen HB3.out (low2 _ _ _))) (some ⟨w3.heap.size + 1, 0, none⟩) 1 1 [.pointer (some ⟨w3.heap.size, 0, none⟩)] rfl rfl (CellsAt.of_block (blk2 _ _ _).2) (fun h => by cases h) (fun ad h => ⟨_, _, (Option.some.inj h).symm⟩) (by simp; rfl) z1 z2 ?_; intro B4 D4 w4 b4 h1 h2 h3; have hlow : Below w2.heap.size w2 ((w3.alloc (.cells #[.slice B3 b.length D3, .int .i64 b.length] 109)).alloc (.cells #[.pointer (some ⟨w3.heap.size, 0, none⟩)] 106)) := bthen HB3.out (low2 _ _ _); have hk4 : Kept (fun x => fb = some x) w2 w4 := (Kept.of_below hlow).grown h2 (fun k e => .inl e); have hfl := HM.out.files.lt; have h23 := HB3.out.size; have hwr2 : wr.heap.size ≤ w2.heap.size := Nat.le_trans HB1.out.size HK2.out.size; have hgf : ¬ fb = some g := (fun e => absurd (HM.out.tf g e) (by rw [HM.out.tg]; simp)); have hr4 := hk4.blk HM2.out.row hgf; have c24 : w4.cell? ⟨g, 2, none⟩ = some (.slice fA d.files.length fC) := cell_block hr4 rfl; have c14 : w4.cell? ⟨g, 1, none⟩ = some (.int .i64 d.used) := cell_block hr4 rfl; have fg4 := frozen_row hr4; have x14 : w4.cell? ⟨wr.heap.size, 1, none⟩ = some (.slice B b.length bc) := hk4.cell x1 (show ¬ fb = some wr.heap.size from (fun e => by have := hfl _ e; omega)); have hrec : w4.heap[w3.heap.size]? = some (.cells #[.slice B3 b.length D3, .int .i64 b.length] 109 (0, 0)) := (h2.block w3.heap.size (by simp <;> omega) (fun e => by have := hfl _ e.symm; omega)).trans (blk2 _ _ _).1; have hby : OwnR w4 5 1 B3 b.length D3 (b.map V8) b3 := (H31.out.below (low2 _ _ _)).kept ((Kept.refl (fun x => fb = some x) _).grown h2 (fun k e => .inl e)) (fun x hx e => by have h9 := H32.out x hx; have := hfl _ e; omega); have hb3 : ∀ x, b3 = some x → w2.heap.size ≤ x ∧ x ≠ w3.heap.size := (fun x hx => by have h9 := H32.out x hx; have h8 := H31.out.lt x hx; omega); have hMp := HM2.out.push ⟨b, b.length⟩ (nr := w3.heap.size) (k := w3.heap.size + 2) hk4 (by omega) hrec hby hb3 (by rw [List.map_append]; exact h1) (by simpa using h3) (by omega) ⟨by omega, fun e => by have := H31.out.lt _ e; omega⟩; have HMP := Lib.hid hMp; have HK4 := Lib.hid hk4; have HB3F := Lib.hid hb3; have HB4 : Hid (b4 = fb ∨ b4 = some (w3.heap.size + 2)) := Lib.hid (by simpa using h3); clear hlow hk4 hfl h23 hwr2 hgf hr4 hrec hby hb3 hMp h1 h2 h3)
                    | (go_simp; go_at_call 51; refine (HCL.out _ (by repeat (first | exact Below.refl _ _ | refine Below.drew ?_ | refine Below.alloc ?_ (by simp) _))).mono ?_; rintro e w3 ⟨B3, D3, b3, rfl, h1, h2, h3, h4⟩; have H31 := Lib.hid h1; have H32 : Hid (∀ x, b3 = some x → w2.heap.size ≤ x) := Lib.hid h2; have HB3 : Hid (Below w2.heap.size w2 w3) := Lib.hid (bthen (by repeat (first | exact Below.refl _ _ | refine Below.drew ?_ | refine Below.alloc ?_ (by simp) _)) h3); have hgl3 : g < w3.heap.size := Nat.lt_of_lt_of_le hgl2 HB3.out.size; have hxl3 : wr.heap.size < w3.heap.size := Nat.lt_of_lt_of_le hxl HB3.out.size; have x13 : w3.cell? ⟨wr.heap.size, 1, none⟩ = some (.slice B b.length bc) := (HB3.out.cell (p := ⟨wr.heap.size, 1, none⟩) hxl).trans x1; have c23 : w3.cell? ⟨g, 2, none⟩ = some (.slice fA d.files.length fC) := (HB3.out.cell (p := ⟨g, 2, none⟩) hgl2).trans c22; clear h1 h2 h3 h4))
                  all_goals
                    go_wp2_with fail
                    go_meet
                    obtain ⟨hm1, hm2, hm3, hm4, hm5, hm6, hm7, hm8, hm9, hm10⟩ := hI.out
                    have hadd : dkAdd d s b = { { d with dir := dput d.dir s k } with files := d.files ++ [⟨b, b.length⟩] } := by unfold dkAdd; rw [hm5]
                    have hgw : w.heap.size ≤ g := HFR.out g (foot_of HM.out.tg)
                    have q1 : Kept (fun x => w.heap.size ≤ x) w W1.drew := Kept.of_below (bthen hm2 (bthen HB1.out ((Below.refl _ _).drew)))
                    have q2 := q1.then (HK2.out.mono fun x _ h => h ▸ HFR.out mb (foot_of HM.out.td))
                    have q3 := q2.then (HK4.out.mono fun x _ h => HFR.out x (foot_of (HM.out.tf x h)))
                    refine Lib.hid ⟨⟨recs ++ [w3.heap.size], pushOwn own d.files.length w3.heap.size b4 b3, B4, D4, b4, mb, cA, cC, cb, ?_, fun x hx => ?_⟩, ?_, ?_⟩
                    · rw [HD1.out, hadd]
                      first | exact HMP.out | exact HMP.out.kept (F := fun _ => False) (Kept.of_below ((Below.refl _ _).drew)) (fun _ _ => id)
                    · by_cases hxw : w.heap.size ≤ x
                      · exact hxw
                      · unfold foot at hx
                        have hs1 : w.heap.size ≤ w3.heap.size := Nat.le_trans hm2.size (Nat.le_trans HB1.out.size (Nat.le_trans HK2.out.size HB3.out.size))
                        have hs2 : w.heap.size ≤ w2.heap.size := Nat.le_trans hm2.size (Nat.le_trans HB1.out.size HK2.out.size)
                        rw [pushOwn_old (m := w.heap.size) (k := w3.heap.size + 2) (by omega) hs1 (fun y hy => Nat.le_trans hs2 (HB3F.out y hy).1) HB4.out HM.out.tf (by omega)] at hx
                        exact HFR.out x hx
                    · first | exact (q3.setCell ⟨g, 2, none⟩ _ (.inl hgw)).below (fun x hx h => by omega) | exact (q3.setCell ⟨g, 2, none⟩ _ (.inl hgw)).drew.below (fun x hx h => by omega)
                    · exact ((Kept.refl (· = g) w4).setCell ⟨g, 2, none⟩ _ (.inl rfl)).cell x14 (show ¬ wr.heap.size = g by omega)
                case rest =>
                  obtain ⟨⟨recs2, own2, fA2, fC2, fb2, mb2, cA2, cC2, cb2, M5, hfr5⟩, hlow5, x15⟩ := hcut.out
                  have c15 : wc.cell? ⟨g, 1, none⟩ = some (.int .i64 d.used) := cell_block M5.row rfl
                  have fg5 := frozen_row M5.row
                  have hgw : w.heap.size ≤ g := HFR.out g (foot_of HM.out.tg)
                  have HM5 := Lib.hid M5
                  have HFR5 := Lib.hid hfr5
                  have HLOW5 := Lib.hid hlow5
                  clear M5 hfr5 hlow5 c22 c21 x1
                  go_wp2
                  go_region
                  go_wp2
                  obtain ⟨hm1, hm2, hm3, hm4, hm5, hm6, hm7, hm8, hm9, hm10⟩ := hI.out
                  have hkk : k + 1 ≤ 64 := by have := HL.out; omega
                  have hus := dkAdd_used hm4 (b := b) HG2.out
                  rw [← HD1.out] at hus
                  have hfin : Making w (wc.setCell ⟨g, 1, none⟩ (.int .i64 ((d.used : Int) + b.length))).drew g d1 := by
                    refine ⟨recs2, own2, fA2, fC2, fb2, mb2, cA2, cC2, cb2, ?_, HFR5.out⟩
                    rw [hus, show (d.used : Int) + b.length = ((d.used + b.length : Nat) : Int) by omega]
                    exact (HM5.out.setUsed _).kept (F := fun _ => False) (Kept.of_below ((Below.refl _ _).drew)) (fun _ _ => id)
                  have hlow : Below w.heap.size w (wc.setCell ⟨g, 1, none⟩ (.int .i64 ((d.used : Int) + b.length))).drew := (HLOW5.out.setCell (p := ⟨g, 1, none⟩) hgw _).drew
                  have hok := dkAdd_ok hm4 HG2.out HNT.out HLE.out (by omega) (by omega) (by omega) hm8 hm9
                  rw [← HD1.out] at hok
                  have hnf : newFrom R l (empty R) = newFrom R (l.drop (k + 1)) d1 := by rw [hm3, HCO.out, if_neg (by simp [HNT.out]), if_neg (by rw [HG2.out]; simp), if_neg (by have := HLE.out; omega), HD1.out]
                  have hfl : d1.files.length = k + 1 := by rw [HD1.out]; show (d.files ++ [_]).length = _; simp [hm5]
                  have hdl : d1.dir.length ≤ k + 1 := by
                    rw [HD1.out]; show (dput d.dir s _).length ≤ _
                    unfold dput; rw [length_dins]; have := length_ddel_le d.dir s; omega
                  have hul : d1.used ≤ (k + 1) * 4194304 := by rw [hus]; have := HLE.out; omega
                  have h8 : d1.safe = [] := by rw [HD1.out]; exact hm8
                  have h9 : d1.chg = [] := by rw [HD1.out]; exact hm9
                  have h10 : d1.room = R := by rw [HD1.out]; exact hm10
                  have HALL := Lib.hid (And.intro hfin (And.intro hlow (And.intro hnf (And.intro hok (And.intro hfl (And.intro hdl (And.intro hul (And.intro h8 (And.intro h9 h10)))))))))
                  go_roundw
                  case rel => exact ⟨k + 1, d1, by omega, by go_num, HALL⟩
                  case measure => simp [intOf]; omega
        · obtain rfl : k = l.length := by omega
          have hki : ¬ (l.length : Int) < (l.length : Int) := by omega
          obtain ⟨hm1, hm2, hm3, hm4, hm5, hm6, hm7, hm8, hm9, hm10⟩ := hI.out
          obtain ⟨recs, own, fA, fC, fb, mb, cA, cC, cb, M, hfr⟩ := hm1
          have hnf : newFrom R l (empty R) = (d, 0) := by rw [hm3, List.drop_length]; rfl
          have c1 : wr.cell? ⟨g, 1, none⟩ = some (.int .i64 d.used) := cell_block M.row rfl
          have c3 : wr.cell? ⟨g, 3, none⟩ = some (.map (some mb)) := cell_block M.row rfl
          have hgl := in_heap M.row
          have HM := Lib.hid M
          have HFR := Lib.hid hfr
          have HM4 := Lib.hid hm4
          have HQ := Lib.hid (hq.out.trans (by rw [hnf]))
          simp only at HQ
          clear hm3 hm4 hm5 hm6 hm7 hm8 hm9 M hfr hnf hI hq
          have HM2 := Lib.hid hm2
          have HM10 := Lib.hid hm10
          clear hm2 hm10
          by_cases hfull : d.room < d.used
          · have hq := Lib.hid (HQ.out.trans (if_pos hfull))
            have hfull' : (R : Int) < d.used := by rw [← HM10.out]; omega
            clear hfull
            go_wp2
            go_ret2
            rw [hq.out]
            exact ⟨HM2.out, rfl⟩
          · have hq := Lib.hid (HQ.out.trans (if_neg hfull))
            have hfull' : ¬ (R : Int) < d.used := by rw [← HM10.out]; omega
            have HFU := Lib.hid hfull
            clear hfull
            go_wp2_with (go_at_call 52; refine (mclone_any HM.out.dir).mono ?_; rintro e w5 ⟨rfl, h1, h2⟩; have c45 : w5.cell? ⟨g, 4, none⟩ = some (.map none) := cell_block (bblk h2 HM.out.row) rfl; have fg5 := frozen_row (bblk h2 HM.out.row); have H51 := Lib.hid h1; have H52 := Lib.hid h2; clear h1 h2)
            go_ret2
            rw [hq.out]
            have hMs := HM.out.resafe1 H52.out H51.out (Nat.le_refl _)
            have hgw : w.heap.size ≤ g := HFR.out g (foot_of HM.out.tg)
            have hok := HM4.out
            have hrm := HR.out
            refine ⟨((bthen HM2.out H52.out).setCell (p := ⟨g, 4, none⟩) hgw _), rfl, ⟨by show d.room ≤ _; rw [HM10.out]; omega, by show d.used ≤ d.room; have := HFU.out; omega, hok.ops, hok.armed, hok.nfiles, hok.nchg, hok.ndir, hok.ndir, hok.len, hok.dirI, hok.dirR, hok.dirR, hok.dirF, hok.dirF, hok.chgF⟩, g, recs, grow own .safe (some wr.heap.size), rfl, ⟨fA, fC, fb, mb, wr.heap.size, cA, cC, cb, hMs⟩, fun x hx => ?_⟩
            unfold foot grow at hx
            split at hx
            · next e => obtain rfl := Option.some.inj e; exact HM2.out.size
            · exact HFR.out x hx
end Go.Proofs.YtgpenpnobjecgaaGreatDoor
