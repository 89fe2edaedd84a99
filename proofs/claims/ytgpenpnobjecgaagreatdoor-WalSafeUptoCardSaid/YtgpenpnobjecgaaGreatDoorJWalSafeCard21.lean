/- A log in memory. -/
import Derived.Test.YtgpenpnobjecgaaGreatDoorJWalSafeCard20
/- WGen2 -/
namespace Go.Proofs.YtgpenpnobjecgaaGreatDoor
set_option maxRecDepth 100000
open Go.RowKit Dk

theorem cutprefix_any (s : Bs) (w : World) : Calls Tryz.prog 95 #[strV s, strV preW] w fun e w' => e = .returned (.tuple #[strV (cutW s), .bool (Lib.hasPrefix s preW)]) ∧ w = w' :=
  (Tryz.strings_CutPrefix ⟨s.toArray⟩ ⟨preW.toArray⟩ w).mono fun e w' h => ⟨by simpa [strV, cutW] using h.1, h.2.symm⟩
theorem cutW_len (s : Bs) : (cutW s).length ≤ s.length := by
  unfold cutW Lib.trimPrefix
  split
  · simp
  · exact Nat.le_refl _
theorem eql_strV (w : World) (t : TypeId) (a b : Bs) : (binOp .eql t (strV a) (strV b)).run Tryz.prog w = .ok (.bool (a == b)) w := by
  unfold strV
  simp [go_sem]
theorem eql_strV_same (w : World) (t : TypeId) (a : Bs) : (binOp .eql t (strV a) (strV a)).run Tryz.prog w = .ok (.bool true) w := by
  rw [eql_strV]; simp
theorem eql_strV_ne (w : World) (t : TypeId) {a b : Bs} (h : a ≠ b) : (binOp .eql t (strV a) (strV b)).run Tryz.prog w = .ok (.bool false) w := by
  rw [eql_strV]; simp [h]
set_option maxRecDepth 100000 in
set_option maxHeartbeats 1000000 in
theorem wgens_any {w0 w : World} {g : Nat} {d : DiskS} {recs : List Nat} {own : Nat → Option DTag} (hd : DAt w g d recs own) (hO : Ok d) (hH : Home w0 w (foot own)) (hn : (Dk.list d).length ≤ 16777216) (hs : ∀ s ∈ Dk.list d, s.length ≤ 32) :
    Calls Tryz.prog 59 #[ptrV g] w (RetInts w ((gensW (Dk.list d)).map Int.ofNat)) := by
  have hl := Lib.hid (list_any hd hO)
  have HT := Lib.hid hH.tab
  obtain ⟨l, hll⟩ : ∃ l, l = Dk.list d := ⟨_, rfl⟩
  rw [← hll] at hl hn hs ⊢
  have HS := Lib.hid hs
  clear hd hO hH hll hs
  unfold ptrV at *
  go_enter Tryz.func59, Tryz.ntmps59
  go_wp2_with fail
  go_at_call 94
  refine hl.out.mono ?_
  rintro e w1 ⟨B, C, blk, rfl, h1, h2, h3⟩
  have H1 := Lib.hid h1
  have H2 := Lib.hid h2
  have H3 := Lib.hid h3
  clear h1 h2 h3 hl
  go_wp2
  go_loopw [3, 13] (fun sv iv wr => ∃ (i : Nat) (out : List Nat) (A : Option Addr) (D : Nat) (bk : Option Nat), sv = .slice A out.length D ∧ iv = .int .i64 i ∧ Hid (i ≤ l.length ∧ out = (l.take i).filterMap genOf ∧ OwnR wr 3 1 A out.length D ((out.map Int.ofNat).map intV) bk ∧ (∀ b, bk = some b → w1.heap.size ≤ b) ∧ RowKit.Below w1.heap.size w1 wr ∧ out.length ≤ i ∧ (bk = none → A = none))) (fun _ iv _ => l.length - (intOf iv).toNat)
  case atStart => exact ⟨0, [], none, 0, none, rfl, rfl, Lib.hid ⟨Nat.zero_le _, by simp, OwnR.nil _ _ _, (fun b h => by cases h), Below.refl _ _, Nat.le_refl _, fun _ => rfl⟩⟩
  case round =>
    obtain ⟨i, out, A, D, bk, rfl, rfl, hI⟩ := hrel
    by_cases hlt : i < l.length
    · have hi : (i : Int) < l.length := by omega
      obtain ⟨s, hsi⟩ : ∃ s, l[i]? = some s := ⟨_, List.getElem?_eq_getElem hlt⟩
      obtain ⟨b, rfl, hb1, hb2⟩ := (H1.out.below hI.out.2.2.2.2.1).cell (j := i) (v := strV s) (by simp [hsi])
      have hsl := HS.out s (List.mem_of_getElem? hsi)
      have htk : l.take (i + 1) = l.take i ++ [s] := by rw [List.take_add_one, hsi]; rfl
      have hcp := Lib.hid (fun w => cutprefix_any s w)
      have hLT := HT.out.low (bthen H3.out hI.out.2.2.2.2.1)
      have HLT := Lib.hid hLT
      have hgo := Lib.hid (show genOf s = if Lib.hasPrefix s preW = true then (match atoiW (cutW s) with | some v => if 1 ≤ v ∧ v ≤ 1099511627776 ∧ nameW v.toNat = s then some v.toNat else none | none => none) else none from rfl)
      have hkeep : genOf s = none → out = (l.take (i + 1)).filterMap genOf := fun h => by rw [htk, List.filterMap_append, ← hI.out.2.1]; simp [h]
      have hpush : ∀ n, genOf s = some n → out ++ [n] = (l.take (i + 1)).filterMap genOf := fun n h => by rw [htk, List.filterMap_append, ← hI.out.2.1]; simp [h]
      have HK := Lib.hid hkeep
      have HP := Lib.hid hpush
      have hstay : ∀ W, RowKit.Below wr.heap.size wr W → genOf s = none → (∃ (i' : Nat) (out' : List Nat) (A' : Option Addr) (D' : Nat) (bk' : Option Nat), Value.slice A out.length D = .slice A' out'.length D' ∧ Value.int .i64 ((i : Int) + 1) = .int .i64 i' ∧ Hid (i' ≤ l.length ∧ out' = (l.take i').filterMap genOf ∧ OwnR W 3 1 A' out'.length D' ((out'.map Int.ofNat).map intV) bk' ∧ (∀ b, bk' = some b → w1.heap.size ≤ b) ∧ RowKit.Below w1.heap.size w1 W ∧ out'.length ≤ i' ∧ (bk' = none → A' = none))) := fun W hW hnone =>
        ⟨i + 1, out, A, D, bk, rfl, by simp, Lib.hid ⟨by omega, HK.out hnone, hI.out.2.2.1.below hW, hI.out.2.2.2.1, bthen hI.out.2.2.2.2.1 hW, by have := hI.out.2.2.2.2.2.1; omega, hI.out.2.2.2.2.2.2⟩⟩
      have HST := Lib.hid hstay
      have hmeas : l.length - (intOf (Value.int .i64 ((i : Int) + 1))).toNat < l.length - (intOf (Value.int .i64 (i : Int))).toNat := by simp [intOf]; omega
      have HME := Lib.hid hmeas
      clear hsi htk hLT hkeep hpush hb1 hstay hmeas
      go_wp2_with fail
      go_at_call 95
      refine (hcp.out wr).mono ?_
      rintro e w2 ⟨rfl, rfl⟩
      obtain ⟨pf, hpf⟩ : ∃ pf, pf = Lib.hasPrefix s preW := ⟨_, rfl⟩
      rw [← hpf] at hgo ⊢
      clear hpf
      cases pf with
      | false =>
        have hno := Lib.hid (show genOf s = none by rw [hgo.out]; rfl)
        go_wp2
        exact ⟨HST.out _ (Below.refl _ _) hno.out, HME.out⟩
      | true =>
        have hcl : (cutW s).length ≤ 32 := Nat.le_trans (cutW_len s) hsl
        generalize hcw : cutW s = t at hgo hcl hcp ⊢
        have hat := Lib.hid (atoi_any t (by omega) wr HLT.out)
        clear hcw hcp
        go_wp2_with fail
        go_at_call 96
        refine hat.out.mono ?_
        intro e w3
        rintro ⟨hb3, h⟩
        have HB3 := Lib.hid hb3
        clear hb3 hat
        cases hav : atoiW t with
        | none =>
          rw [hav] at h hgo
          simp only [] at h hgo
          obtain ⟨z, N, T, rfl⟩ := h
          have hno := Lib.hid (show genOf s = none by rw [hgo.out]; rfl)
          clear hav
          go_wp2
          exact ⟨HST.out _ HB3.out hno.out, HME.out⟩
        | some v =>
          rw [hav] at h hgo
          simp only [] at h hgo
          subst h
          have hgo' := Lib.hid (show genOf s = if 1 ≤ v ∧ v ≤ 1099511627776 ∧ nameW v.toNat = s then some v.toNat else none by rw [hgo.out]; rfl)
          clear hav hgo
          by_cases v1 : 1 ≤ v
          · by_cases v2 : v ≤ 1099511627776
            · obtain ⟨n, rfl⟩ : ∃ n : Nat, v = n := ⟨v.toNat, by omega⟩
              rw [Int.toNat_natCast] at hgo'
              have hnm := Lib.hid (wname_any n (by omega) w3 (HLT.out.low HB3.out))
              generalize hnn : nameW n = nm at hnm hgo'
              have hgo2 := Lib.hid (show genOf s = if nm = s then some n else none by
                rw [hgo'.out]
                by_cases h : nm = s
                · rw [if_pos ⟨v1, v2, h⟩, if_pos h]
                · rw [if_neg (fun h2 => h h2.2.2), if_neg h])
              clear hnn hgo'
              by_cases he : nm = s
              · subst he
                have hyes := Lib.hid (show genOf nm = some n by rw [hgo2.out, if_pos rfl])
                have heq : ∀ w : World, (binOp .eql 9 (strV nm) (strV nm)).run Tryz.prog w = .ok (.bool true) w := fun w => eql_strV_same w _ nm
                have z1 : out.length + 1 ≤ maxLen := by have := hI.out.2.2.2.2.2.1; unfold maxLen; omega
                have z2 : (out.length + 1) * 8 ≤ 140737488355328 := by have := hI.out.2.2.2.2.2.1; omega
                clear hgo2
                go_wp2_with fail
                go_at_call 64
                refine hnm.out.mono ?_
                rintro e w4 ⟨rfl, hb4⟩
                have HB4 := Lib.hid (bthen HB3.out hb4)
                clear hb4 hnm
                go_wp2
                rename_i hK
                refine hK _ _ ?_
                simp only [Act.put, List.setIfInBounds_toArray, List.set_cons_succ, List.set_cons_zero]
                go_wp2_with (at_builtin; refine wpList_app rfl _ _ 54 rfl 3 1 8 (.int .i64 0) Tryz.underlying54 (by kernel_rfl) rfl (by decide) A out.length D _ bk rfl (hI.out.2.2.1.below (bthen HB4.out (low1 _ _))) (some ⟨w4.heap.size, 0, none⟩) 1 1 [intV n] rfl rfl (CellsAt.of_block (blk1 _ _)) (fun h => by cases h) (fun ad h => ⟨_, _, (Option.some.inj h).symm⟩) (by simp [intV, Value.oneCell']) z1 z2 ?_; intro B8 D8 w8 b8 h1 h2 h3; have H81 := Lib.hid h1; have H82 := Lib.hid h2; have H83 := Lib.hid h3; clear h1 h2 h3)
                have hn9 : out.map Int.ofNat ++ [(n : Int)] = (out ++ [n]).map Int.ofNat := by simp
                have hrow : OwnR w8 3 1 B8 (out ++ [n]).length D8 (((out ++ [n]).map Int.ofNat).map intV) b8 := by
                  rw [List.length_append, List.length_singleton, ← hn9, List.map_append]
                  exact H81.out
                have hlow := bthen hI.out.2.2.2.2.1 (bthen HB4.out (low1 w4 (.cells #[intV n] 3)))
                exact ⟨⟨i + 1, out ++ [n], B8, D8, b8, by simp, by simp, Lib.hid ⟨by omega, HP.out n hyes.out, hrow, fun b hb => by
                  rcases H83.out with h | h
                  · exact hI.out.2.2.2.1 b (h ▸ hb)
                  · rw [h] at hb; rw [← Option.some.inj hb]; exact hlow.size, hlow.grown H82.out hlow.size (fun b hb => hI.out.2.2.2.1 b hb), by have := hI.out.2.2.2.2.2.1; simp; omega, fun e => by
                  rcases hrow.form with ⟨_, h0, _⟩ | ⟨g2, _, _, h2, _⟩
                  · simp at h0
                  · rw [e] at h2; cases h2⟩⟩, HME.out⟩
              · have hno := Lib.hid (show genOf s = none by rw [hgo2.out, if_neg he])
                have heq : ∀ w : World, (binOp .eql 9 (strV nm) (strV s)).run Tryz.prog w = .ok (.bool false) w := fun w => eql_strV_ne w _ he
                clear he hgo2
                go_wp2_with fail
                go_at_call 64
                refine hnm.out.mono ?_
                rintro e w4 ⟨rfl, hb4⟩
                have HB4 := Lib.hid (bthen HB3.out hb4)
                clear hb4 hnm
                go_wp2
                rename_i hK
                refine hK _ _ ?_
                simp only [Act.put, List.setIfInBounds_toArray, List.set_cons_succ, List.set_cons_zero]
                go_wp2
                exact ⟨HST.out _ HB4.out hno.out, HME.out⟩
            · have hno := Lib.hid (show genOf s = none by rw [hgo'.out, if_neg (fun h => v2 h.2.1)])
              have v2' : decide (v ≤ 1099511627776) = false := by simpa using v2
              clear v2
              go_wp2
              exact ⟨HST.out _ HB3.out hno.out, HME.out⟩
          · have hno := Lib.hid (show genOf s = none by rw [hgo'.out, if_neg (fun h => v1 h.1)])
            have v1' : decide (1 ≤ v) = false := by simpa using v1
            go_wp2
            exact ⟨HST.out _ HB3.out hno.out, HME.out⟩
    · obtain rfl : i = l.length := by have := hI.out.1; omega
      have hi : ¬ (l.length : Int) < (l.length : Int) := by omega
      have hout := hI.out.2.1
      rw [List.take_length] at hout
      have hso := sortints_any (out.map Int.ofNat) (by have := hI.out.2.2.2.2.2.1; simp; omega) (fun x hx => by
        obtain ⟨n, hn2, rfl⟩ := List.mem_map.1 hx
        rw [hout] at hn2
        obtain ⟨s, _, hg⟩ := List.mem_filterMap.1 hn2
        have : n ≤ 1099511627776 := by
          unfold genOf at hg
          split at hg
          · split at hg
            · split at hg
              · next h => injection hg with hg; omega
              · cases hg
            · cases hg
          · cases hg
        show -9223372036854775808 ≤ (n : Int) ∧ (n : Int) ≤ 9223372036854775807
        omega) wr A D bk (by rw [List.length_map]; exact hI.out.2.2.1)
      rw [List.length_map] at hso
      have HSO := Lib.hid hso
      have Hout := Lib.hid hout
      clear hout hso
      go_wp2_with fail
      go_at_call 97
      refine HSO.out.mono ?_
      rintro e w9 ⟨rfl, h1, h2⟩
      have H91 := Lib.hid h1
      have H92 := Lib.hid h2
      clear h1 h2
      go_wp2
      go_ret
      have hg : (gensW l).map Int.ofNat = (out.map Int.ofNat).mergeSort fun x y => decide (x ≤ y) := by
        unfold gensW
        rw [← Hout.out]
        refine (List.map_mergeSort (fun a _ b _ => ?_))
        simp
      have hlen : ((gensW l).map Int.ofNat).length = out.length := by rw [hg, List.length_mergeSort, List.length_map]
      refine ⟨A, D, by rw [hlen]; rfl, by rw [hlen, hg]; exact H91.out, fun ad had => ?_, ?_⟩
      · rcases hI.out.2.2.1.form with ⟨h0, _⟩ | ⟨g2, _, h1, h2, _⟩
        · rw [hI.out.2.2.2.2.2.2 h0] at had; cases had
        · rw [h1] at had
          rw [← Option.some.inj had]
          exact Nat.le_trans H3.out.size (hI.out.2.2.2.1 g2 h2)
      · exact bthen H3.out ((((Kept.of_below (F := fun b => bk = some b) hI.out.2.2.2.2.1).then H92.out)).below fun b hb e => by have := hI.out.2.2.2.1 b e; omega)
end Go.Proofs.YtgpenpnobjecgaaGreatDoor

/- WLog -/
namespace Go.Proofs.YtgpenpnobjecgaaGreatDoor
set_option maxRecDepth 100000
open Go.RowKit Dk

/-- A log as data. -/
structure LogS where
  epoch : Nat
  state : Bs
  records : List Bs
  size : Nat
  cut : Nat
  broken : Bool
/-- A record as an element. -/
def recEl (p : Bs) (q : Option Addr × Nat) : El := ⟨[.slice q.1 p.length q.2], [(q.1, q.2, p)]⟩
def logRow (dg : Nat) (L : LogS) (sA : Option Addr) (sC : Nat) (rA : Option Addr) (rC : Nat) : Array Value :=
  #[ptrV dg, .int .i64 L.epoch, .slice sA L.state.length sC, .slice rA L.records.length rC, .int .i64 L.size, .int .i64 L.cut, .bool L.broken]
/-- Block g holds the log, lf: its blocks. -/
structure LMem (w : World) (g dg : Nat) (L : LogS) (lf : Nat → Prop) (sA : Option Addr) (sC : Nat) (rA : Option Addr) (rC : Nat) (rblk : Option Nat) (qs : List (Option Addr × Nat)) : Prop where
  row : w.heap[g]? = some (.cells (logRow dg L sA sC rA rC) 114 (0, 0))
  st : Txt w sA L.state.length sC L.state
  stf : ∀ ad, sA = some ad → lf ad.block ∧ ad.block ≠ g
  recs : Bunch w 0 22 1 rA L.records.length rC (List.zipWith recEl L.records qs) rblk
  qlen : qs.length = L.records.length
  rf : ∀ b, rblk = some b → lf b ∧ b ≠ g
  rn : rblk = none → rA = none
  pf : ∀ q ∈ qs, ∀ ad, q.1 = some ad → lf ad.block ∧ ad.block ≠ g
  me : lf g
  lt : ∀ b, lf b → b < w.heap.size
  sr : ∀ ad, sA = some ad → rblk ≠ some ad.block
def LogAt (w : World) (g dg : Nat) (L : LogS) (lf : Nat → Prop) : Prop := ∃ sA sC rA rC rblk qs, LMem w g dg L lf sA sC rA rC rblk qs
section
variable {w w' : World} {g dg : Nat} {L : LogS} {lf : Nat → Prop} {sA : Option Addr} {sC : Nat} {rA : Option Addr} {rC : Nat} {rblk : Option Nat} {qs : List (Option Addr × Nat)}
theorem zip_part {l : List Bs} {x : El} (hx : x ∈ List.zipWith recEl l qs) : ∃ p ∈ l, ∃ q ∈ qs, x = recEl p q := by
  rw [List.zipWith_eq_zipWith_take_min] at hx
  obtain ⟨j, hj, rfl⟩ := List.mem_iff_getElem.1 hx
  rw [List.getElem_zipWith]
  exact ⟨_, List.mem_of_mem_take (List.getElem_mem _), _, List.mem_of_mem_take (List.getElem_mem _), rfl⟩
theorem LMem.bunch {F : Nat → Prop} (h : LMem w g dg L lf sA sC rA rC rblk qs) (hk : Kept F w w') (hF : ∀ b, lf b → b ≠ g → ¬ F b) : Bunch w' 0 22 1 rA L.records.length rC (List.zipWith recEl L.records qs) rblk :=
  ⟨h.recs.row.kept hk fun b hb => hF b (h.rf b hb).1 (h.rf b hb).2, fun _ _ => Nat.zero_le _, fun x hx q hq => by
    obtain ⟨h1, h2⟩ := h.recs.part x hx q hq
    refine ⟨h1.kept hk fun ad had _ => ?_, h2⟩
    obtain ⟨p, _, q2, hq2, rfl⟩ := zip_part hx
    obtain rfl := List.mem_singleton.1 (show q ∈ [(q2.1, q2.2, p)] from hq)
    have := h.pf q2 hq2 ad had
    exact hF _ this.1 this.2⟩
/-- Its block anew, all else of it as it was. -/
theorem LMem.rerow {F : Nat → Prop} (h : LMem w g dg L lf sA sC rA rC rblk qs) (hk : Kept F w w') (hF : ∀ b, lf b → b ≠ g → ¬ F b) (L' : LogS) (hs : L'.state = L.state) (hr : L'.records = L.records) (hrow : w'.heap[g]? = some (.cells (logRow dg L' sA sC rA rC) 114 (0, 0))) : LMem w' g dg L' lf sA sC rA rC rblk qs := by
  have hb := h.bunch hk hF
  refine ⟨hrow, ?_, h.stf, by rw [hr]; exact hb, by rw [hr]; exact h.qlen, h.rf, h.rn, h.pf, h.me, fun b hb => Nat.lt_of_lt_of_le (h.lt b hb) hk.size, h.sr⟩
  rw [hs]
  exact h.st.kept hk fun ad had _ => hF _ (h.stf ad had).1 (h.stf ad had).2
theorem LMem.kept {F : Nat → Prop} (h : LMem w g dg L lf sA sC rA rC rblk qs) (hk : Kept F w w') (hF : ∀ b, lf b → ¬ F b) : LMem w' g dg L lf sA sC rA rC rblk qs :=
  h.rerow hk (fun b hb _ => hF b hb) L rfl rfl (hk.blk h.row (hF g h.me))
theorem LogAt.kept {F : Nat → Prop} (h : LogAt w g dg L lf) (hk : Kept F w w') (hF : ∀ b, lf b → ¬ F b) : LogAt w' g dg L lf := by
  obtain ⟨sA, sC, rA, rC, rblk, qs, M⟩ := h
  exact ⟨sA, sC, rA, rC, rblk, qs, M.kept hk hF⟩
theorem LogAt.below (h : LogAt w g dg L lf) (hb : Below w.heap.size w w') : LogAt w' g dg L lf := h.kept (Kept.of_below (F := fun _ => False) hb) fun _ _ => id
/-- More blocks. -/
theorem LMem.wide {lf' : Nat → Prop} (h : LMem w g dg L lf sA sC rA rC rblk qs) (hs : ∀ b, lf b → lf' b) (hl : ∀ b, lf' b → b < w.heap.size) : LMem w g dg L lf' sA sC rA rC rblk qs :=
  ⟨h.row, h.st, fun ad had => ⟨hs _ (h.stf ad had).1, (h.stf ad had).2⟩, h.recs, h.qlen, fun b hb => ⟨hs _ (h.rf b hb).1, (h.rf b hb).2⟩, h.rn, fun q hq ad had => ⟨hs _ (h.pf q hq ad had).1, (h.pf q hq ad had).2⟩, hs _ h.me, hl, h.sr⟩
/-- What the log has, and all blocks from base on. -/
def from_ (lf : Nat → Prop) (base top : Nat) (b : Nat) : Prop := lf b ∨ (base ≤ b ∧ b < top)
/-- A new state. -/
theorem LMem.setState (h : LMem w g dg L lf sA sC rA rC rblk qs) {base : Nat} (hg : g < base) (_hbase : base ≤ w.heap.size) {A : Option Addr} {C : Nat} {s : Bs} (X : Txt w A s.length C s) (hA : ∀ ad, A = some ad → base ≤ ad.block) (hrb : ∀ ad, A = some ad → rblk ≠ some ad.block) :
    LMem (w.setCell ⟨g, 2, none⟩ (.slice A s.length C)) g dg { L with state := s } (from_ lf base w.heap.size) A C rA rC rblk qs := by
  have hk : Kept (· = g) w (w.setCell ⟨g, 2, none⟩ (.slice A s.length C)) := (Kept.refl (· = g) w).setCell _ _ (.inl rfl)
  have hsz : (w.setCell ⟨g, 2, none⟩ (.slice A s.length C)).heap.size = w.heap.size := by simp [World.setCell]
  have hb := h.bunch hk fun b _ hn => hn
  refine ⟨by rw [setCell_one h.row]; rfl, X.kept hk fun ad had _ e => by have := hA ad had; omega, fun ad had => ⟨.inr ⟨hA ad had, ?_⟩, by have := hA ad had; omega⟩, hb, h.qlen, fun b hb => ⟨.inl (h.rf b hb).1, (h.rf b hb).2⟩, h.rn, fun q hq ad had => ⟨.inl (h.pf q hq ad had).1, (h.pf q hq ad had).2⟩, .inl h.me, fun b hb => ?_, hrb⟩
  · obtain ⟨b2, o2, rfl, hlt⟩ := X.src.plain ad had
    exact hlt
  · rw [hsz]
    rcases hb with h1 | h1
    · exact h.lt b h1
    · exact h1.2
/-- Other records. -/
theorem LMem.setRecs (h : LMem w g dg L lf sA sC rA rC rblk qs) {base : Nat} {l : List Bs} {A : Option Addr} {C : Nat} {blk : Option Nat} {qs' : List (Option Addr × Nat)} (hB : Bunch w 0 22 1 A l.length C (List.zipWith recEl l qs') blk) (hq : qs'.length = l.length) (hA : ∀ b, blk = some b → (lf b ∧ b ≠ g) ∨ base ≤ b) (hn : blk = none → A = none) (hp : ∀ q ∈ qs', ∀ ad, q.1 = some ad → (lf ad.block ∧ ad.block ≠ g) ∨ base ≤ ad.block) (hg : g < base) (hsr : ∀ ad, sA = some ad → blk ≠ some ad.block) :
    LMem (w.setCell ⟨g, 3, none⟩ (.slice A l.length C)) g dg { L with records := l } (from_ lf base w.heap.size) sA sC A C blk qs' := by
  have hk : Kept (· = g) w (w.setCell ⟨g, 3, none⟩ (.slice A l.length C)) := (Kept.refl (· = g) w).setCell _ _ (.inl rfl)
  have hsz : (w.setCell ⟨g, 3, none⟩ (.slice A l.length C)).heap.size = w.heap.size := by simp [World.setCell]
  have ne : ∀ {b}, ((lf b ∧ b ≠ g) ∨ base ≤ b) → b ≠ g := fun h => h.elim (·.2) fun h e => by omega
  have inn : ∀ {b}, ((lf b ∧ b ≠ g) ∨ base ≤ b) → b < w.heap.size → from_ lf base w.heap.size b := fun h hl => h.elim (fun h => .inl h.1) fun h => .inr ⟨h, hl⟩
  have hpl : ∀ q ∈ qs', ∀ ad, q.1 = some ad → ad.block < w.heap.size := fun q hq2 ad had => by
    obtain ⟨i, hi, rfl⟩ := List.mem_iff_getElem.1 hq2
    have hel : recEl (l[i]'(by omega)) qs'[i] ∈ List.zipWith recEl l qs' := by
      have : i < (List.zipWith recEl l qs').length := by simp; omega
      have h2 := List.getElem_mem this
      rwa [List.getElem_zipWith] at h2
    have := (hB.part _ hel (qs'[i].1, qs'[i].2, l[i]'(by omega)) (by simp [recEl])).1
    obtain ⟨b2, o2, rfl, hlt⟩ := this.src.plain ad had
    exact hlt
  refine ⟨by rw [setCell_one h.row]; rfl, h.st.kept hk fun ad had _ => (h.stf ad had).2, fun ad had => ⟨.inl (h.stf ad had).1, (h.stf ad had).2⟩, ⟨hB.row.kept hk fun b hb => ne (hA b hb), fun _ _ => Nat.zero_le _, fun x hx q hq2 => ?_⟩, hq, fun b hb => ⟨inn (hA b hb) (hB.row.lt b hb), ne (hA b hb)⟩, hn, fun q hq2 ad had => ⟨inn (hp q hq2 ad had) (hpl q hq2 ad had), ne (hp q hq2 ad had)⟩, .inl h.me, fun b hb => ?_, hsr⟩
  · obtain ⟨h1, h2⟩ := hB.part x hx q hq2
    refine ⟨h1.kept hk fun ad had _ => ?_, h2⟩
    obtain ⟨p, _, q3, hq3, rfl⟩ := zip_part hx
    obtain rfl := List.mem_singleton.1 (show q ∈ [(q3.1, q3.2, p)] from hq2)
    exact ne (hp q3 hq3 ad had)
  · rw [hsz]
    rcases hb with h1 | h1
    · exact h.lt b h1
    · exact h1.2
end
end Go.Proofs.YtgpenpnobjecgaaGreatDoor
