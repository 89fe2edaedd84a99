/- wal.generations. -/
import Derived.Deep.DeepCutAuto
import Derived.Test.YtgpenpnobjecgaaGreatDoorJWalSafeCard10
import Derived.Test.YtgpenpnobjecgaaGreatDoorJWalSafeCard19
/- DLeft -/
namespace Go.Proofs.YtgpenpnobjecgaaGreatDoor
set_option maxRecDepth 100000
open Go.RowKit Go.Maps Go.Sort Go.Shelf Dk

/-- A slice of ints. -/
structure IntsAt (w : World) (A : Option Addr) (n C : Nat) (l : List Int) : Prop where
  len : n = l.length
  cap : n ≤ C
  nil : A = none → C = 0
  plain : ∀ ad, A = some ad → ∃ b o, ad = ⟨b, o, none⟩ ∧ b < w.heap.size
  each : ∀ i x, l[i]? = some x → ∃ b o, A = some ⟨b, o, none⟩ ∧ w.cell? ⟨b, o + i, none⟩ = some (.int .i64 x) ∧ -9223372036854775808 ≤ x ∧ x ≤ 9223372036854775807
theorem IntsAt.below {w w' : World} {A : Option Addr} {n C : Nat} {l : List Int} (h : IntsAt w A n C l) (hb : Below w.heap.size w w') : IntsAt w' A n C l :=
  ⟨h.len, h.cap, h.nil, fun ad had => by obtain ⟨b, o, e, hlt⟩ := h.plain ad had; exact ⟨b, o, e, Nat.lt_of_lt_of_le hlt hb.size⟩, fun i x hx => by
    obtain ⟨b, o, hA, hc, h1⟩ := h.each i x hx
    exact ⟨b, o, hA, (hb.cell (p := ⟨b, o + i, none⟩) (World.block_lt_of_cell? w _ hc)).trans hc, h1⟩⟩

/-- A slice of ints that came in: an empty one may lie anywhere. -/
structure IntsW (w : World) (A : Option Addr) (n : Nat) (l : List Int) : Prop where
  len : n = l.length
  each : ∀ i x, l[i]? = some x → ∃ b o, A = some ⟨b, o, none⟩ ∧ w.cell? ⟨b, o + i, none⟩ = some (.int .i64 x) ∧ -9223372036854775808 ≤ x ∧ x ≤ 9223372036854775807
theorem IntsAt.wide {w : World} {A : Option Addr} {n C : Nat} {l : List Int} (h : IntsAt w A n C l) : IntsW w A n l := ⟨h.len, h.each⟩
theorem IntsW.below {w w' : World} {A : Option Addr} {n : Nat} {l : List Int} (h : IntsW w A n l) (hb : Below w.heap.size w w') : IntsW w' A n l :=
  ⟨h.len, fun i x hx => by
    obtain ⟨b, o, hA, hc, h1⟩ := h.each i x hx
    exact ⟨b, o, hA, (hb.cell (p := ⟨b, o + i, none⟩) (World.block_lt_of_cell? w _ hc)).trans hc, h1⟩⟩
theorem turns_ok {d : DiskS} (hO : Ok d) : ∀ (k : Nat), k ≤ d.chg.length → Rising ((d.chg.take k).foldl turn d.safe) ∧ ((d.chg.take k).foldl turn d.safe).length ≤ 64 + k ∧ ∀ p ∈ (d.chg.take k).foldl turn d.safe, p.2 < d.files.length ∧ named p.1 = true
  | 0, _ => ⟨hO.safeR, by simpa using hO.nsafe, fun p hp => hO.safeF p (by simpa using hp)⟩
  | k + 1, hk => by
    obtain ⟨h1, h2, h3⟩ := turns_ok hO k (by omega)
    have e : (d.chg.take (k + 1)).foldl turn d.safe = turn ((d.chg.take k).foldl turn d.safe) d.chg[k] := by
      rw [List.take_succ_eq_append_getElem (by omega), List.foldl_append]; rfl
    rw [e]
    have hc := hO.chgF d.chg[k] (by simp)
    refine ⟨rising_turn h1 _, by have := length_turn_le ((d.chg.take k).foldl turn d.safe) d.chg[k]; omega, fun p hp => ?_⟩
    rcases mem_turn hp with hp | ⟨e2, rfl⟩
    · exact h3 p hp
    · exact hc.2.1 e2
theorem leftDir_ok {d : DiskS} (hO : Ok d) (c : Int) : Rising (leftDir d c) ∧ (leftDir d c).length ≤ 1048640 ∧ ∀ p ∈ leftDir d c, p.2 < d.files.length ∧ named p.1 = true := by
  have key : ∃ k, k ≤ d.chg.length ∧ leftDir d c = (d.chg.take k).foldl turn d.safe := by
    by_cases h : c.toNat ≤ d.chg.length
    · exact ⟨c.toNat, h, rfl⟩
    · exact ⟨d.chg.length, Nat.le_refl _, by unfold leftDir; rw [List.take_of_length_le (by omega), List.take_length]⟩
  obtain ⟨k, hk, e⟩ := key
  rw [e]
  obtain ⟨h1, h2, h3⟩ := turns_ok hO k hk
  exact ⟨h1, by have := hO.nchg; have := hO.ops; omega, h3⟩
theorem zip_next {α β γ : Type} (f : α → β → γ) {l : List α} {q : List β} {x : α} {y : β} {j : Nat} (hx : l[j]? = some x) (hq : q.length = j) : List.zipWith f (l.take j) q ++ [f x y] = List.zipWith f (l.take (j + 1)) (q ++ [y]) := by
  have hj : j < l.length := (List.getElem?_eq_some_iff.1 hx).1
  rw [List.take_add_one, hx, Option.toList_some, List.zipWith_append (by simp; omega)]
  rfl

set_option maxRecDepth 100000 in
set_option maxHeartbeats 4000000 in
theorem left_any {w : World} {g : Nat} {d : DiskS} {recs : List Nat} {own : Nat → Option DTag} (hd : DAt w g d recs own) (hO : Ok d) (cd : Int) (hc : -9223372036854775808 ≤ cd ∧ cd ≤ 9223372036854775807) (ta : Option Addr) (tc : Nat) (tails : List Int) (hT : IntsW w ta tails.length tails) :
    Calls Tryz.prog 31 #[ptrV g, .agg #[.int .i64 cd, .slice ta tails.length tc]] w fun e w' => ∃ A C, e = .returned (.slice A (Dk.left d cd tails).length C) ∧ FilesAt w' A (Dk.left d cd tails).length C (Dk.left d cd tails) (fun b => w.heap.size ≤ b) ∧ Below w.heap.size w w' := by
  have HD := Lib.hid hd
  have HO := Lib.hid hO
  have HT := Lib.hid hT
  have HC := Lib.hid hc
  obtain ⟨fA, fC, fb, mb, sb, cA, cC, cb, M⟩ := hd
  have hgl := in_heap M.row
  have c4 : w.cell? ⟨g, 4, none⟩ = some (.map (some sb)) := cell_block M.row rfl
  have HM := Lib.hid M
  have HB0 := Lib.hid (low1 w (.cells #[.int .i64 cd, .slice ta tails.length tc] 56))
  have hb0 := blk1 w (.cells #[.int .i64 cd, .slice ta tails.length tc] 56)
  obtain ⟨w1, hw1⟩ : ∃ w1, w1 = w.alloc (.cells #[.int .i64 cd, .slice ta tails.length tc] 56) := ⟨_, rfl⟩
  rw [← hw1] at hb0 HB0
  have HB1 := Lib.hid hb0
  have HW1 := Lib.hid hw1
  clear hO hT hc M hw1 hb0
  unfold ptrV
  go_enter Tryz.func31, Tryz.ntmps31
  go_wp2_with (go_at_call 52; rw [← HW1.out]; refine (mclone_any ((HM.out.safe _ rfl).below HB0.out)).mono ?_; rintro e w2 ⟨rfl, h1, h2⟩; have H1 := Lib.hid h1; have H2 := Lib.hid h2; clear h1 h2)
  have hrow2 := bblk H2.out (bblk HB0.out HM.out.row)
  have hbox2 := bblk H2.out HB1.out
  have c5 : w2.cell? ⟨g, 5, none⟩ = some (.slice cA d.chg.length cC) := cell_block hrow2 rfl
  have x0 : w2.cell? ⟨w.heap.size, 0, none⟩ = some (.int .i64 cd) := cell_block hbox2 rfl
  clear hrow2 hbox2
  have hcap := HM.out.chg.cap.1
  go_region
  have hdb : w.heap.size ≤ w1.heap.size := by rw [HW1.out]; simp
  have hdb2 : w1.heap.size < w2.heap.size := H1.out.lt
  obtain ⟨db, hdb1⟩ : ∃ db, db = w1.heap.size := ⟨_, rfl⟩
  have hb1 : w.heap.size < db := by rw [hdb1, HW1.out]; simp
  rw [← hdb1] at H1 hdb2 ⊢
  obtain ⟨K, hK⟩ : ∃ K, K = (min (max cd 0) (d.chg.length : Int)).toNat := ⟨_, rfl⟩
  have hKl : K ≤ d.chg.length := by omega
  have hKc : K ≤ cC := by omega
  have HK := Lib.hid (show d.chg.take cd.toNat = d.chg.take K by rw [hK]; by_cases h : cd.toNat ≤ d.chg.length; (congr 1; omega); (rw [List.take_of_length_le (by omega), List.take_of_length_le (by omega)]))
  have HKN := Lib.hid hKl
  rw [← hK, show max (min (max cd 0) (d.chg.length : Int)) 0 = (K : Int) by omega]
  clear hK hdb
  have HD1 := Lib.hid hdb1
  clear hdb1
  go_wp2
  go_loopw [36] (fun i wr => ∃ k : Nat, k ≤ K ∧ i = .int .i64 k ∧ Hid (DirAt wr db ((d.chg.take k).foldl turn d.safe) ∧ Kept (fun b => b = db) w2 wr)) (fun i _ => K - (intOf i).toNat)
  case atStart => exact ⟨0, by omega, rfl, Lib.hid ⟨H1.out.below ((Below.refl _ _).drew), (Kept.refl _ _).drew⟩⟩
  case round =>
    obtain ⟨k, hk, rfl, hI⟩ := hrel
    by_cases hlt : k < K
    · have hki : (k : Int) < K := by omega
      have hki0 : (0 : Int) ≤ (k : Int) := by omega
      have hkl : k < d.chg.length := by omega
      have hkb : (k : Int) + 1 ≤ 9223372036854775807 := by have := HO.out.nchg; have := HO.out.ops; omega
      obtain ⟨c, hc⟩ : ∃ c, c = d.chg[k] := ⟨_, rfl⟩
      have hch : ∀ j, j < 3 → ∀ v, [strV c.frm, strV c.to, Value.int .i64 c.file][j]? = some v → ∃ b, cA = some ⟨b, 0, none⟩ ∧ wr.cell? ⟨b, k * 3 + j, none⟩ = some v := fun j hj v hv => by
        obtain ⟨b, h1, h2, h3⟩ := HM.out.chg.cell (j := k * 3 + j) (v := v) (by rw [← hv]; exact getElem_flat (fun c : Chg => [strV c.frm, strV c.to, Value.int .i64 c.file]) 3 d.chg (fun _ _ => rfl) k j c (by rw [hc]; exact List.getElem?_eq_getElem hkl) hj)
        refine ⟨b, h1, ?_⟩
        have hbl := HM.out.chg.lt b h2
        have h4 : w2.cell? ⟨b, k * 3 + j, none⟩ = some v := (H2.out.cell (p := ⟨b, k * 3 + j, none⟩) (by have := HB0.out.size; show b < w1.heap.size; omega)).trans ((HB0.out.cell (p := ⟨b, k * 3 + j, none⟩) hbl).trans h3)
        exact hI.out.2.cell h4 (show ¬ b = db by omega)
      obtain ⟨b, rfl, e0⟩ := hch 0 (by omega) _ rfl
      obtain ⟨b', hb', e1⟩ := hch 1 (by omega) _ rfl
      obtain ⟨b'', hb'', e2⟩ := hch 2 (by omega) _ rfl
      obtain rfl : b = b' := by simpa using hb'
      obtain rfl : b = b'' := by simpa using hb''
      have hcf := HO.out.chgF c (by rw [hc]; simp)
      have hlen1 : c.frm.length ≤ 4194304 := by
        by_cases h : c.frm = []
        · rw [h]; simp
        · have := (named_len (hcf.2.2 h)).2; omega
      have hlen2 : c.to.length ≤ 4194304 := by
        by_cases h : c.to = []
        · rw [h]; simp
        · have := (named_len (hcf.2.1 h).2).2; omega
      have hdl : ((d.chg.take k).foldl turn d.safe).length ≤ 16777216 := by have := (turns_ok HO.out k (by omega)).2.1; have := HO.out.nchg; have := HO.out.ops; omega
      have hfl : c.file ≤ 9223372036854775807 := by have := hcf.1; have := HO.out.nfiles; have := HO.out.ops; omega
      have hturn := fun W (h : DirAt W db ((d.chg.take k).foldl turn d.safe)) => dturn_any h c hlen1 hlen2 hdl hfl
      have hnx : (d.chg.take (k + 1)).foldl turn d.safe = turn ((d.chg.take k).foldl turn d.safe) c := by
        rw [List.take_succ_eq_append_getElem hkl, List.foldl_append, ← hc]; rfl
      have HN := Lib.hid hnx
      unfold chgV at hturn
      have HTU := Lib.hid hturn
      clear hch hb' hb'' hcf hlen1 hlen2 hdl hfl hturn hnx hc hkl
      unfold strV at e0 e1 HTU
      simp only [Nat.add_zero] at e0
      go_wp2_with (go_at_call 72; refine (HTU.out _ (hI.out.1.below (low1 _ _))).mono ?_; rintro e w4 ⟨rfl, h1, h2⟩; have H4 := Lib.hid h1; have K4 := Lib.hid h2; clear h1 h2)
      refine ⟨⟨k + 1, by omega, by simp, Lib.hid ⟨by rw [HN.out]; exact H4.out, (hI.out.2.alloc _).then K4.out⟩⟩, by simp [intOf]; omega⟩
    · rename World => v1
      obtain rfl : k = K := by omega
      have hki : ¬ (k : Int) < k := by omega
      have hR := hI.out.1
      have hLD : (d.chg.take k).foldl turn d.safe = leftDir d cd := by unfold leftDir; rw [HK.out]
      rw [hLD] at hR
      have HR := Lib.hid hR
      have hris : Rising (leftDir d cd) := (leftDir_ok HO.out cd).1
      have HRI := Lib.hid hris
      have HNA := Lib.hid (names_any hR hris (by have := (leftDir_ok HO.out cd).2.1; omega))
      have HKE := Lib.hid (callsIn_wide.1 (Tryz.mapsKeys_mapstringint (some db) v1))
      clear hR hLD hris
      go_wp2_with (first | (go_at_call 74; refine HKE.out.mono ?_; rintro e w5 ⟨rfl, rfl⟩) | (go_at_call 73; refine HNA.out.mono ?_; rintro e w6 ⟨B, C, blk, rfl, h1, h2, h3⟩; rw [List.length_map]; have H61 := Lib.hid h1; have H62 := Lib.hid h2; have H63 := Lib.hid h3; clear h1 h2 h3))
      have hw6 : w.heap.size ≤ v1.heap.size := Nat.le_trans (Nat.le_trans HB0.out.size H2.out.size) hI.out.2.size
      obtain ⟨LD, hLD⟩ : ∃ LD, LD = leftDir d cd := ⟨_, rfl⟩
      obtain ⟨LL, hLL⟩ : ∃ LL, LL = Dk.left d cd tails := ⟨_, rfl⟩
      have hlen : LL.length = LD.length := by rw [hLL, hLD]; simp [Dk.left]
      rw [← hLD] at H61 HR HRI ⊢
      have HLD := Lib.hid hLD
      have HLL := Lib.hid hLL
      have HLEN := Lib.hid hlen
      have HW6 := Lib.hid hw6
      have HLDB := Lib.hid (show LD.length ≤ 1048640 by rw [hLD]; exact (leftDir_ok HO.out cd).2.1)
      have HLDF := Lib.hid (show ∀ p ∈ LD, p.2 < d.files.length ∧ named p.1 = true by rw [hLD]; exact (leftDir_ok HO.out cd).2.2)
      have hbv : RowKit.Below w.heap.size w v1 := by
        have h1 : RowKit.Below w.heap.size w w2 := bthen HB0.out H2.out
        exact ((Kept.of_below (F := fun _ => False) h1).trans hI.out.2 (fun b hb => .inr (by omega))).below (fun _ _ => id)
      have HBV := Lib.hid hbv
      have hbox : v1.heap[w.heap.size]? = some (.cells #[.int .i64 cd, .slice ta tails.length tc] 56 (0, 0)) := hI.out.2.blk (bblk H2.out HB1.out) (show ¬ w.heap.size = db by omega)
      have HBOX := Lib.hid hbox
      clear hbv hbox
      clear hLD hLL hlen hw6 HNA HKE x0 c5
      have hLDc : LD.length ≤ C := by have := H61.out.cap.1; rwa [List.length_map] at this
      go_loopw [8, 48] (fun l i ws => ∃ (k : Nat) (A : Option Addr) (C : Nat) (qs : List (Option Addr × Nat)) (bk : Option Nat), k ≤ LD.length ∧ i = .int .i64 k ∧ l = .slice A k C ∧ Hid (Bunch ws w6.heap.size 35 2 A k C (List.zipWith fileEl (LL.take k) qs) bk ∧ qs.length = k ∧ (k = 0 → A = none) ∧ Below w6.heap.size w6 ws)) (fun _ i _ => LD.length - (intOf i).toNat)
      case atStart => exact ⟨0, none, 0, [], none, by omega, rfl, rfl, Lib.hid ⟨Bunch.nil _ _ _ _, rfl, fun _ => rfl, Below.refl _ _⟩⟩
      case round =>
        obtain ⟨j, A, C2, qs, bk, hj, rfl, rfl, hJ⟩ := hrel
        by_cases hlt : j < LD.length
        · have hji : (j : Int) < LD.length := by omega
          have hji0 : (0 : Int) ≤ (j : Int) := by omega
          obtain ⟨s, i, hsi⟩ : ∃ s i, LD[j] = (s, i) := ⟨_, _, rfl⟩
          have hB6 : RowKit.Below v1.heap.size v1 wr := bthen H63.out hJ.out.2.2.2
          obtain ⟨nb, rfl, _, hnc⟩ := H61.out.cell (j := j) (v := strV s) (by simp [hlt, hsi])
          have hnc' : wr.cell? ⟨nb, j, none⟩ = some (.string ⟨s.toArray⟩) := (hJ.out.2.2.2.cell (p := ⟨nb, j, none⟩) (World.block_lt_of_cell? _ _ hnc)).trans hnc
          have hil : i < d.files.length := (HLDF.out (s, i) (by rw [← hsi]; simp)).1
          have hbw : RowKit.Below w.heap.size w wr := bthen HBV.out hB6
          have hMr := HM.out.kept (Kept.of_below (F := fun _ => False) hbw) (fun _ _ => id)
          obtain ⟨r, Af, Cf, fbk, hri, hfa⟩ := hMr.fil i _ (fileAt_mem hil)
          obtain ⟨f, hff⟩ : ∃ f, f = fileAt d.files i := ⟨_, rfl⟩
          rw [← hff] at hfa
          obtain ⟨fb1, rfl, _, hfc⟩ := hMr.files.cell (j := i) (v := ptrV r) (by rw [List.getElem?_map, hri]; rfl)
          unfold ptrV at hfc
          have c2 : wr.cell? ⟨g, 2, none⟩ = some (.slice (some ⟨fb1, 0, none⟩) d.files.length fC) := cell_block hMr.row rfl
          have q0 : wr.cell? ⟨r, 0, none⟩ = some (.slice Af f.b.length Cf) := cell_block hfa.row rfl
          have q1 : wr.cell? ⟨r, 1, none⟩ = some (.int .i64 f.synced) := cell_block hfa.row rfl
          have hbx := bblk hB6 HBOX.out
          have b1 : wr.cell? ⟨w.heap.size, 1, none⟩ = some (.slice ta tails.length tc) := cell_block hbx rfl
          have hdr : DirAt wr db LD := HR.out.below hB6
          have hsl : s.length ≤ maxLen := by have := (named_len (show named s = true from (HLDF.out (s, i) (by rw [← hsi]; simp)).2)).2; unfold maxLen; omega
          have hlk : ∀ n, (Instr.lookup 99 (.map (some db)) (.string ⟨s.toArray⟩) false).run Tryz.prog (wr.drewN n) = .ok (.int .i64 i) (wr.drewN n) := fun n => by
            have := (hdr.below (below_drewN wr n)).look hsl
            rw [dget_of_mem HRI.out (by rw [← hsi]; simp)] at this
            exact this
          have hlk0 : (Instr.lookup 99 (.map (some db)) (.string ⟨s.toArray⟩) false).run Tryz.prog wr = .ok (.int .i64 i) wr := hlk 0
          have hfl := HO.out.len (fileAt d.files i) (by rw [fileAt_eq hil]; simp)
          rw [← hff] at hfl
          have i3 : (0 : Int) ≤ i := by omega
          have i4 : (i : Int) < d.files.length := by omega
          have HFA := Lib.hid hfa
          have HFL := Lib.hid hfl
          have HBW := Lib.hid hbw
          have HFF := Lib.hid hff
          have HSI := Lib.hid hsi
          have H6B := Lib.hid hB6
          clear hMr hfa hff hri hbx hdr hfl hbw hsi hnc hB6
          go_wp2
          go_quiet (fail)
          go_upto_if 68 with (fail)
          obtain ⟨T, hT⟩ : ∃ T : Nat, T = (if h : i < tails.length then min (tails[i]).toNat (f.b.length - f.synced) else 0) := ⟨_, rfl⟩
          have HTT := Lib.hid hT
          clear hT
          go_cut [12] (fun s12 wx => s12 = .int .i64 T ∧ Hid (RowKit.Below wr.heap.size wr wx))
          case first =>
            by_cases hti : i < tails.length
            · obtain ⟨tb, tof, rfl, htc, hx1, hx2⟩ := HT.out.each i (tails[i]) (by simp [hti])
              have htc' : wr.cell? ⟨tb, tof + i, none⟩ = some (.int .i64 (tails[i])) := (HBW.out.cell (p := ⟨tb, tof + i, none⟩) (World.block_lt_of_cell? _ _ htc)).trans htc
              obtain ⟨x, hx⟩ : ∃ x, x = tails[i] := ⟨_, rfl⟩
              rw [← hx] at htc' hx1 hx2
              have hTe : (T : Int) = min (max x 0) ((f.b.length : Int) - f.synced) := by
                rw [HTT.out, dif_pos hti, ← hx]
                have := HFL.out
                omega
              have HTE := Lib.hid hTe
              have k1 : (i : Int) < tails.length := by omega
              have k2 : (0 : Int) ≤ (f.b.length : Int) - f.synced := by have := HFL.out; omega
              have k3 : (f.b.length : Int) - f.synced ≤ 9223372036854775807 := by have := HFL.out; omega
              clear hTe hx htc hti
              go_wp2
              go_quiet (fail)
              go_wp2
              go_meet
              exact ⟨by rw [HTE.out], Lib.hid (bthen (below_drewN _ _) (below_drewN _ _))⟩
            · have k1 : ¬ (i : Int) < tails.length := by omega
              have hTe : T = 0 := by rw [HTT.out, dif_neg hti]
              have HTE := Lib.hid hTe
              clear hTe hti
              go_wp2
              go_meet
              exact ⟨by rw [HTE.out]; rfl, Lib.hid (below_drewN _ _)⟩
          case rest =>
            obtain ⟨rfl, HC1⟩ := hcut
            have q0c : wc.cell? ⟨r, 0, none⟩ = some (.slice Af f.b.length Cf) := cell_block (bblk HC1.out HFA.out.row) rfl
            have q1c : wc.cell? ⟨r, 1, none⟩ = some (.int .i64 f.synced) := cell_block (bblk HC1.out HFA.out.row) rfl
            have hrl : r < wc.heap.size := in_heap (bblk HC1.out HFA.out.row)
            have hTl : f.synced + T ≤ f.b.length := by
              have := HFL.out
              rw [HTT.out]
              split <;> omega
            obtain ⟨pb, hpb⟩ : ∃ pb, pb = f.b.take (f.synced + T) := ⟨_, rfl⟩
            have hpl : f.synced + T = pb.length := by rw [hpb, List.length_take]; omega
            have hwrap : IntKind.i64.wrap ((f.synced : Int) + (T : Int)) = (f.synced : Int) + T := IntWalk.i64_in _ (by have := HFL.out; omega)
            have hTC : (f.synced : Int) + T ≤ Cf := by have := HFA.out.bytes.cap.1; omega
            have hTC0 : (0 : Int) ≤ (f.synced : Int) + T := by omega
            have hTN : ((f.synced : Int) + T).toNat = f.synced + T := by omega
            have hJc := hJ.out.1.below HC1.out
            have HJC := Lib.hid hJc
            have HPL := Lib.hid hpl
            clear q0 q1 hlk hlk0 c2 b1 hnc' hfc hJc hpl
            go_wp2
            have hclone : ∀ W, RowKit.Below wc.heap.size wc W → Calls Tryz.prog 51 #[.slice Af (f.synced + T) Cf] W (RetNew W pb) := fun W hW => by
              have hX := ((HFA.out.bytes.below HC1.out).below hW).txt.take hTl
              rw [← hpb] at hX
              rw [HPL.out] at hX ⊢
              exact bclone_any pb Af Cf W hX (by have := HFL.out; have := HPL.out; omega)
            have HCL := Lib.hid hclone
            have z1 : j + 1 ≤ maxLen := by have := H61.out.cap; rw [List.length_map] at this; omega
            have z2 : (j + 1) * 40 ≤ 140737488355328 := by have := HLDB.out; omega
            clear hclone
            go_region_law (first
              | (refine step_app rfl _ _ 36 rfl 35 2 40 (.agg #[.string ⟨#[]⟩, .slice none 0 0]) Tryz.underlying36 (by kernel_rfl) rfl (by decide) A j C2 _ bk rfl (HJC.out.row.below (bthen HB7.out (low1 _ _))) (some ⟨w7.heap.size, 0, none⟩) 1 1 [.string ⟨s.toArray⟩, .slice B7 (f.synced + T) D7] rfl rfl (CellsAt.of_block (blk1 _ _)) (fun h => by cases h) (fun ad h => ⟨_, _, (Option.some.inj h).symm⟩) (by simp; exact ⟨rfl, rfl⟩) z1 z2 ?_; intro B8 D8 w8 b8 h1 h2 h3; have H81 := Lib.hid h1; have H82 := Lib.hid h2; have H83 := Lib.hid h3; clear h1 h2 h3)
              | (go_simp; go_at_call 51; refine (HCL.out _ ((Below.refl _ _).drew)).mono ?_; rintro e w7 ⟨B7, D7, b7, rfl, h1, h2, h3, h4⟩; rw [← HPL.out]; have H71 := Lib.hid h1; have H72 := Lib.hid h2; have HB7 : Hid (RowKit.Below wc.heap.size wc w7) := Lib.hid (bthen ((Below.refl _ _).drew) h3); have H74 := Lib.hid h4; clear h1 h2 h3 h4))
            all_goals
              go_wp2
              have hLLj : LL[j]? = some (s, pb) := by
                have h1 : LD[j]? = some (s, i) := by rw [List.getElem?_eq_getElem hlt, HSI.out]
                have h2 : leftFile d tails i = pb := by
                  rw [hpb, HTT.out]
                  unfold leftFile
                  rw [← HFF.out]
                rw [HLL.out]
                unfold Dk.left
                rw [← HLD.out, List.getElem?_map, h1, ← h2]
                rfl
              have hs7 : w6.heap.size ≤ wc.heap.size := Nat.le_trans hJ.out.2.2.2.size HC1.out.size
              have hbk : ∀ b, bk = some b → b < wc.heap.size := HJC.out.row.lt
              have hlow : RowKit.Below wc.heap.size wc (w7.alloc (.cells #[.string ⟨s.toArray⟩, .slice B7 (f.synced + T) D7] 35)) := bthen HB7.out (low1 _ _)
              have hT7 : Txt (w7.alloc (.cells #[.string ⟨s.toArray⟩, .slice B7 (f.synced + T) D7] 35)) B7 pb.length D7 pb := (H71.out.below (low1 _ _)).txt
              have hrow8 : OwnR w8 35 2 B8 (j + 1) D8 (elCells (List.zipWith fileEl (LL.take j) qs) ++ (fileEl (s, pb) (B7, D7)).cells) b8 := by
                have h := H81.out
                rw [HPL.out] at h
                exact h
              have hbn := (HJC.out.below hlow).push (fileEl (s, pb) (B7, D7)) H82.out hrow8 H83.out (Nat.le_trans hs7 hlow.size) (fun q hq => by
                obtain rfl := List.mem_singleton.1 (show q ∈ [(B7, D7, pb)] from hq)
                refine ⟨hT7, fun ad had => ?_⟩
                have h4 : wc.heap.size ≤ ad.block := H74.out ad had
                refine ⟨by omega, fun e => ?_⟩
                have := hbk _ e
                omega)
              rw [zip_next fileEl hLLj hJ.out.2.1] at hbn
              have hlow8 : RowKit.Below w6.heap.size w6 w8 := ((bthen hJ.out.2.2.2 (bthen HC1.out hlow))).grown H82.out (by have := (bthen hJ.out.2.2.2 (bthen HC1.out hlow)).size; exact this) (fun b hb => HJC.out.fresh b hb)
              go_roundw
              case rel => exact ⟨j + 1, B8, D8, qs ++ [(B7, D7)], b8, by omega, by go_num, rfl, Lib.hid ⟨hbn, by simp [hJ.out.2.1], fun h => by omega, hlow8⟩⟩
              case measure => simp [intOf]; omega
        · obtain rfl : j = LD.length := by omega
          have hji : ¬ (LD.length : Int) < (LD.length : Int) := by omega
          have hend : FilesAt wr A LL.length C2 LL (fun b => w.heap.size ≤ b) := by
            have h1 := hJ.out.1
            rw [List.take_of_length_le (by rw [HLEN.out]; exact Nat.le_refl _), ← HLEN.out] at h1
            refine (h1.files (by rw [HLEN.out]; exact hJ.out.2.1) rfl (fun ad had e => ?_)).mono (fun b _ hb => by have := HW6.out; have := H63.out.size; omega)
            rcases h1.row.form with ⟨_, h0, _⟩ | ⟨g2, _, _, h2, _⟩
            · have := hJ.out.2.2.1 (by rw [← HLEN.out]; exact h0)
              rw [this] at had; cases had
            · rw [e] at h2; cases h2
          rw [HLL.out] at hend
          have HEND := Lib.hid hend
          clear hend
          go_wp2
          go_ret
          refine ⟨A, C2, ?_, HEND.out, bthen HBV.out (bthen H63.out hJ.out.2.2.2)⟩
          rw [← HLL.out, HLEN.out]
          rfl
set_option maxRecDepth 100000 in
theorem durable_any {w : World} {g : Nat} {d : DiskS} {recs : List Nat} {own : Nat → Option DTag} (hd : DAt w g d recs own) (hO : Ok d) :
    Calls Tryz.prog 22 #[ptrV g] w fun e w' => ∃ A C, e = .returned (.slice A (Dk.left d 0 []).length C) ∧ FilesAt w' A (Dk.left d 0 []).length C (Dk.left d 0 []) (fun b => w.heap.size ≤ b) ∧ Below w.heap.size w w' := by
  have HL := Lib.hid (left_any hd hO 0 (by decide) none 0 [] ⟨rfl, (fun i x h => by cases h)⟩)
  unfold ptrV at HL
  clear hd hO
  unfold ptrV
  go_enter Tryz.func22, Tryz.ntmps22
  go_wp2_with (go_at_call 31; refine HL.out.mono ?_; rintro e w1 ⟨A, C, rfl, h1, h2⟩; have H1 := Lib.hid h1; have H2 := Lib.hid h2; clear h1 h2)
  go_ret
  exact ⟨A, C, rfl, H1.out, H2.out⟩
end Go.Proofs.YtgpenpnobjecgaaGreatDoor

/- WGens -/
namespace Go.Proofs.YtgpenpnobjecgaaGreatDoor
set_option maxRecDepth 100000
open Go.RowKit Dk

theorem below_bytesWorld (w : World) (e : TypeId) (s : ByteArray) : Below w.heap.size w (Lib.bytesWorld w e s) := by
  refine ⟨?_, ?_, ?_, by rw [Lib.bytesWorld_size]; omega, fun j hj => Lib.bytesWorld_at_old w e s j hj⟩ <;>
  · unfold Lib.bytesWorld World.freeze
    simp
    try rfl
/-- strconv.Atoi. -/
def atoiW (s : Bs) : Option Int := match Lib.atoiAll s with
  | .ok v => some v
  | _ => none
theorem atoi_any (s : Bs) (hs : s.length ≤ 70368744177664) (w : World) (hT : Tabs6 w) :
    Calls Tryz.prog 96 #[strV s] w fun e w' => Below w.heap.size w w' ∧ match atoiW s with
      | some v => e = .returned (.tuple #[.int .i64 v, .nilIface])
      | none => ∃ z N T, e = .returned (.tuple #[.int .i64 z, .iface T (.pointer (some ⟨N, 0, none⟩))]) := by
  have hsz : (⟨s.toArray⟩ : ByteArray).size = s.length := by simp [ByteArray.size]
  rcases h : Lib.atoiAll s with v | _ | _
  · have h1 : atoiW s = some v := by unfold atoiW; rw [h]
    rw [h1]
    refine (Tryz.strconv_Atoi_ok ⟨s.toArray⟩ (by rw [hsz]; omega) v (by simpa using h) w).mono ?_
    rintro e w' ⟨rfl, h2⟩
    refine ⟨?_, rfl⟩
    rcases h2 with rfl | ⟨t, rfl⟩
    · exact Below.refl _ _
    · exact below_bytesWorld _ _ _
  · have h1 : atoiW s = none := by unfold atoiW; rw [h]
    rw [h1]
    obtain ⟨tp, p, hv⟩ := hT.syn
    refine (Tryz.strconv_Atoi_syntax_var ⟨s.toArray⟩ (by rw [hsz]; omega) (by simp only; rw [h]; rfl) tp p w hv).mono ?_
    rintro e w' ⟨N, rfl, _, _, h2⟩
    exact ⟨h2, _, N, _, rfl⟩
  · have h1 : atoiW s = none := by unfold atoiW; rw [h]
    rw [h1]
    obtain ⟨tp, p, hv⟩ := hT.rng
    refine (Tryz.strconv_Atoi_range_var ⟨s.toArray⟩ (by rw [hsz]; omega) (by simpa using h) tp p w hv).mono ?_
    rintro e w' ⟨N, rfl, _, _, h2⟩
    exact ⟨h2, _, N, _, rfl⟩
def preW : Bs := [119, 97, 108, 45]
def cutW (s : Bs) : Bs := Lib.trimPrefix s preW
/-- The generation whose name it is. -/
def genOf (s : Bs) : Option Nat :=
  if Lib.hasPrefix s preW = true then
    match atoiW (cutW s) with
    | some v => if 1 ≤ v ∧ v ≤ 1099511627776 ∧ nameW v.toNat = s then some v.toNat else none
    | none => none
  else none
def intV (x : Int) : Value := .int .i64 x
def gensW (l : List Bs) : List Nat := (l.filterMap genOf).mergeSort
/-- New numbers. -/
def RetInts (w : World) (l : List Int) (e : Ending) (w' : World) : Prop := ∃ B C, e = .returned (.slice B l.length C) ∧ IntsAt w' B l.length C l ∧ (∀ ad, B = some ad → w.heap.size ≤ ad.block) ∧ Below w.heap.size w w'
theorem below_putRow {α : Type} [Inhabited α] (enc : α → Value) (w : World) (n b off : Nat) (d : Array α) (os : Array Obj) : Kept (fun k => k = b) w (Sort.grow (Sort.putRow enc (Sort.ahead w n) b off d) os) :=
  ⟨rfl, rfl, rfl, by simp [Sort.grow, Sort.putRow, Sort.mapBlock, Sort.ahead], fun k hk hb => by
    show ((w.heap.modify b _) ++ os)[k]? = _
    rw [Array.getElem?_append_left (by simpa using hk), Array.getElem?_modify, if_neg (Ne.symm hb)]⟩
set_option maxRecDepth 100000 in
/-- sort.Ints of a slice of one's own. -/
theorem sortints_any (l : List Int) (hl : l.length < 4611686018427387904) (hr : ∀ x ∈ l, -9223372036854775808 ≤ x ∧ x ≤ 9223372036854775807) (w : World) (B : Option Addr) (D : Nat) (blk : Option Nat) (H : OwnR w 3 1 B l.length D (l.map intV) blk) :
    Calls Tryz.prog 97 #[.slice B l.length D] w fun e w' => e = .returned (.tuple #[]) ∧ IntsAt w' B l.length D (l.mergeSort fun x y => decide (x ≤ y)) ∧ Kept (fun b => blk = some b) w w' := by
  by_cases h0 : l.length = 0
  · obtain rfl : l = [] := List.eq_nil_of_length_eq_zero h0
    refine (Tryz.sort_Ints_none B D w).mono ?_
    rintro e w' ⟨rfl, rfl⟩
    exact ⟨rfl, ⟨by simp, H.cap.1, H.nilcap, H.plain, fun i x h => by simp at h⟩, .refl _ _⟩
  · rcases H.form with ⟨_, h1, _⟩ | ⟨g, cur, rfl, rfl, hg, h1, h2, h3, h4⟩
    · exact absurd h1 h0
    · have hcell : ∀ j, j < l.length → cur[j]? = some (intV (l[j]!)) := fun j hj => by
        have : (l.map intV)[j]? = some (intV (l[j]!)) := by simp [hj]
        rw [← h4, List.getElem?_take, if_pos (by omega)] at this
        simpa using this
      have hH : Sort.Holds (Value.int .i64) w g 0 l.toArray := fun j hj => by
        have hj' : j < l.length := by simpa using hj
        refine ⟨?_, frozen_row hg _⟩
        rw [cell_of_row _ _ _ _ _ _ hg, Nat.zero_add, hcell j hj']
        simp [intV, hj']
      refine (Tryz.sort_Ints g 0 D l w hH (in_heap hg) hl).mono ?_
      rintro e w' ⟨rfl, n, os, rfl⟩
      have hk := below_putRow (Value.int .i64) w n g 0 (l.mergeSort fun x y => decide (x ≤ y)).toArray os
      have hlen : (l.mergeSort fun x y => decide (x ≤ y)).length = l.length := List.length_mergeSort _
      refine ⟨rfl, ⟨hlen.symm, h1, (fun e => by cases e), fun ad had => ⟨g, 0, (Option.some.inj had).symm, Nat.lt_of_lt_of_le (in_heap hg) hk.size⟩, fun i x hx => ⟨g, 0, rfl, ?_, ?_⟩⟩, hk.mono fun b _ e => by rw [e]⟩
      · have hi : i < (l.mergeSort fun x y => decide (x ≤ y)).toArray.size := by have := (List.getElem?_eq_some_iff.1 hx).1; simpa using this
        have hc := Sort.cell?_putRow (Value.int .i64) (Sort.ahead w n) g 0 l.toArray (l.mergeSort fun x y => decide (x ≤ y)).toArray hH (by simp) i hi
        rw [show (0 : Nat) + i = i by omega] at hc ⊢
        have hx2 : (l.mergeSort fun x y => decide (x ≤ y)).toArray[i]! = x := by
          have := (List.getElem?_eq_some_iff.1 hx)
          obtain ⟨h5, h6⟩ := this
          rw [getElem!_pos _ i hi]
          simpa using h6
        rw [hx2] at hc
        rw [← hc]
        have hlt : g < (Sort.putRow (Value.int .i64) (Sort.ahead w n) g 0 (l.mergeSort fun x y => decide (x ≤ y)).toArray).heap.size := by
          simp [Sort.putRow, Sort.mapBlock, Sort.ahead]; exact in_heap hg
        exact World.cell?_of_block (by simp [Sort.grow, Array.getElem?_append_left hlt])
      · exact hr x ((List.mergeSort_perm l _).mem_iff.1 (List.mem_of_getElem? hx))
end Go.Proofs.YtgpenpnobjecgaaGreatDoor
