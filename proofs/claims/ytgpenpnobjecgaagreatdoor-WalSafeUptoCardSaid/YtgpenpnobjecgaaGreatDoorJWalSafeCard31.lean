/- lists. -/
import Derived.Test.YtgpenpnobjecgaaGreatDoorJWalSafeCard12
import Derived.Test.YtgpenpnobjecgaaGreatDoorJWalSafeCard28
import Derived.Test.YtgpenpnobjecgaaGreatDoorJWalSafeCard29
import Derived.Test.YtgpenpnobjecgaaGreatDoorJWalSafeCard30
/- Solo2 -/
namespace Go.Proofs.YtgpenpnobjecgaaGreatDoor
set_option maxRecDepth 100000
open Go.RowKit Dk

theorem solo_new {n : Nat} (hn : n < 9223372036854775808) {x : Bs} {R : Nat} (hx : x.length ≤ 4194304) (hR : x.length ≤ R) :
    ∃ d, Dk.new [(nameW n, x)] (R : Int) = (some d, 0) ∧ Solo d n x x.length 0 ∧ d.ops = 0 ∧ d.room = R := by
  have hf : newFrom R [(nameW n, x)] (Dk.empty R) = (dkAdd (Dk.empty R) (nameW n) x, 0) := by
    rw [newFrom_cons, named_nameW n hn, if_neg (by simp), if_neg (by simp [Dk.empty, dget]), if_neg (by omega)]
    rfl
  have hd : (dkAdd (Dk.empty R) (nameW n) x).dir = [(nameW n, 0)] := rfl
  have hu : (dkAdd (Dk.empty R) (nameW n) x).used = x.length := by
    unfold DiskS.used
    rw [hd]
    simp [usedIn, dkAdd, Dk.empty, fileAt]
  refine ⟨{ dkAdd (Dk.empty R) (nameW n) x with safe := (dkAdd (Dk.empty R) (nameW n) x).dir }, ?_, ⟨rfl, rfl, hd, hd, rfl, by show 0 < 1; omega, rfl⟩, rfl, rfl⟩
  unfold Dk.new
  rw [if_neg (by omega), if_neg (by simp), show (R : Int).toNat = R by omega, hf]
  simp only []
  rw [if_neg (by rw [hu]; show ¬ R < x.length; omega)]
theorem new_empty (R : Nat) : Dk.new [] (R : Int) = (some (Dk.empty R), 0) := by
  unfold Dk.new
  rw [if_neg (by omega), if_neg (by simp), show (R : Int).toNat = R by omega]
  show (if (Dk.empty R).room < (Dk.empty R).used then _ else _) = _
  rw [if_neg (by simp [Dk.empty, DiskS.used, usedIn])]
  rfl
theorem open_fresh {d : DiskS} (hl : d.dead = false) (ha : d.armed = 0) (hd : d.dir = []) (hO : Ok d) (hops : d.ops + 5 ≤ 1048576) (hf : (bytesW 1 [] []).length ≤ d.room) (hb : (bytesW 1 [] []).length ≤ 4194304) :
    ∃ d', openW d = (d', some (newLog 1 [] [] 0), 0) ∧ Solo d' 1 (bytesW 1 [] []) (bytesW 1 [] []).length d.files.length ∧ d'.ops = d.ops + 5 ∧ d'.room = d.room := by
  obtain ⟨h1, h2⟩ := fresh_make hl ha hd hO hops hb hf
  have ht : tempGone d = (d, 0) := by
    unfold tempGone Dk.read
    rw [hl, hd]
    simp [dget]
  refine ⟨_, ?_, h2, rfl, rfl⟩
  unfold openW
  rw [if_neg (by rw [hl]; simp), ht]
  simp only [if_true]
  have hg : gensW (Dk.list d) = [] := by
    unfold Dk.list
    rw [hl, hd]
    simp [gensW]
  unfold openBody
  rw [hg]
  show closeW (make1W d 1 (bytesW 1 [] [])) [] _ = _
  rw [closeW_nil, h1]
  simp
theorem open_whole {d : DiskS} {n : Nat} {b : Bs} {s i : Nat} (h : Solo d n b s i) (h1 : 1 ≤ n) (h2 : n ≤ 1099511627776) (hops : d.ops + 2 ≤ 1048576) {st : Bs} {rs : List Bs} {wh : Nat} (hr : readB b n = some ⟨st, rs, wh, 0⟩) :
    ∃ d', openW d = (d', some ⟨n, st, rs, wh, 0, false⟩, 0) ∧ Solo d' n b b.length i ∧ d'.ops = d.ops + 2 ∧ d'.room = d.room := by
  obtain ⟨d1, e1, S1, o1, r1⟩ := solo_sync h (by omega)
  obtain ⟨d2, e2, S2, o2, r2⟩ := solo_syncDir S1 (by omega)
  refine ⟨d2, ?_, S2, by omega, by rw [r2, r1]⟩
  unfold openW
  rw [if_neg (by rw [h.live]; simp), solo_temp h]
  simp only [if_true]
  unfold openBody
  rw [solo_list h h1 h2]
  show openOf d [n] n = _
  unfold openOf readW
  rw [solo_read h]
  simp only []
  rw [if_neg (by simp), hr]
  simp only []
  rw [if_neg (by omega), e1]
  show closeW (syncDir d1) [] _ = _
  rw [closeW_nil, e2]
  simp
theorem open_torn {d : DiskS} {n : Nat} {b : Bs} {s i : Nat} (h : Solo d n b s i) (hO : Ok d) (h1 : 1 ≤ n) (h2 : n < 1099511627776) (hops : d.ops + 7 ≤ 1048576) {st : Bs} {rs : List Bs} {wh cut : Nat} (hc : 0 < cut) (hr : readB b n = some ⟨st, rs, wh, cut⟩)
    (hb : (bytesW (n + 1) st rs).length ≤ 4194304) (hf : b.length + (bytesW (n + 1) st rs).length ≤ d.room) :
    ∃ d', openW d = (d', some (newLog (n + 1) st rs cut), 0) ∧ Solo d' (n + 1) (bytesW (n + 1) st rs) (bytesW (n + 1) st rs).length d.files.length ∧ d'.ops = d.ops + 7 ∧ d'.room = d.room := by
  obtain ⟨d', e1, e2, e3, S, o1, r1⟩ := solo_next h hO (by omega) hops hb hf
  refine ⟨d', ?_, S, o1, r1⟩
  unfold openW
  rw [if_neg (by rw [h.live]; simp), solo_temp h]
  simp only [if_true]
  unfold openBody
  rw [solo_list h h1 (by omega)]
  show openOf d [n] n = _
  unfold openOf readW
  rw [solo_read h]
  simp only []
  rw [if_neg (by simp), hr]
  simp only []
  rw [if_pos hc, if_neg (by omega), e1, closeW_fin, removeAll_ok e2]
  show finW (note (ticked (made1 d (n + 1) (bytesW (n + 1) st rs))) ⟨nameW n, [], 0⟩, 0) [n] _ = _
  unfold finW
  simp only [if_neg (show ¬ [n] = [] by simp)]
  rw [next_ok, e3]
  simp
theorem append_solo {d : DiskS} {L : LogS} {b : Bs} {s i : Nat} (h : Solo d L.epoch b s i) (hs : L.size = b.length) (hB : L.broken = false) (hops : d.ops + 1 ≤ 1048576) {p : Bs} (hp : p.length ≤ 65536)
    (h1 : b.length + (sealW 2 (L.records.length + 1) p).length ≤ 4194304) (h2 : b.length + b.length + (sealW 2 (L.records.length + 1) p).length + (sealW 2 (L.records.length + 1) p).length ≤ d.room) :
    ∃ d', appendW d L p = ((d', { L with records := L.records ++ [p], size := b.length + (sealW 2 (L.records.length + 1) p).length }), 0) ∧ Solo d' L.epoch (b ++ sealW 2 (L.records.length + 1) p) s i ∧ d'.ops = d.ops + 1 ∧ d'.room = d.room := by
  obtain ⟨d1, e1, S1, o1, r1⟩ := solo_append h hops (p := sealW 2 (L.records.length + 1) p) h1 (by omega)
  refine ⟨d1, ?_, S1, o1, r1⟩
  unfold appendW
  rw [if_neg (by omega), if_neg (by rw [hB]; simp), if_neg (by rw [h.fr, hs]; omega), e1]
  simp [hs]
theorem sync_solo {d : DiskS} {L : LogS} {b : Bs} {s i : Nat} (h : Solo d L.epoch b s i) (hB : L.broken = false) (hops : d.ops + 1 ≤ 1048576) :
    ∃ d', syncW d L = ((d', L), 0) ∧ Solo d' L.epoch b b.length i ∧ d'.ops = d.ops + 1 ∧ d'.room = d.room := by
  obtain ⟨d1, e1, S1, o1, r1⟩ := solo_sync h hops
  refine ⟨d1, ?_, S1, o1, r1⟩
  unfold syncW
  rw [if_neg (by rw [hB]; simp), e1]
  simp
theorem snap_solo {d : DiskS} {L : LogS} {b : Bs} {s i : Nat} (h : Solo d L.epoch b s i) (hO : Ok d) (hs : L.size = b.length) (hB : L.broken = false) (he : L.epoch < 1099511627776) (hops : d.ops + 7 ≤ 1048576) {p : Bs} (hp : p.length ≤ 1048576)
    (hb : (bytesW (L.epoch + 1) p []).length ≤ 4194304) (hf : b.length + (bytesW (L.epoch + 1) p []).length ≤ d.room) (hf2 : (bytesW (L.epoch + 1) p []).length + (bytesW (L.epoch + 1) p []).length ≤ d.room) :
    ∃ d', snapW d L p = ((d', { epoch := L.epoch + 1, state := p, records := [], size := (bytesW (L.epoch + 1) p []).length, cut := L.cut, broken := L.broken }), 0) ∧ Solo d' (L.epoch + 1) (bytesW (L.epoch + 1) p []) (bytesW (L.epoch + 1) p []).length d.files.length ∧ d'.ops = d.ops + 7 ∧ d'.room = d.room := by
  obtain ⟨d', e1, e2, e3, S, o1, r1⟩ := solo_next h hO (by omega) hops hb hf
  refine ⟨d', ?_, S, o1, r1⟩
  unfold snapW
  rw [if_neg (by omega), if_neg (by rw [hB]; simp), if_neg (by omega), if_neg (by rw [h.fr, hs]; omega), e1, next_ok, e2, next_ok, e3]
  simp
end Go.Proofs.YtgpenpnobjecgaaGreatDoor

/- LawB -/
namespace Go.Proofs.YtgpenpnobjecgaaGreatDoor
set_option maxRecDepth 100000
open Go.RowKit Dk

/-- A slice of bytes as a string. -/
theorem text_of {W : World} {l : List UInt8} {a : Option Addr} {m c : Nat} (hm : m = l.length) (S : Src W a c l) : (convert 22 9 (.slice a m c)).run Tryz.prog W = .ok (.string ⟨l.toArray⟩) W := by
  cases a with
  | none =>
    have hc := S.nil rfl
    have hl : l = [] := List.eq_nil_of_length_eq_zero (by have := S.cap; omega)
    rw [run_convert_bytes_nil W 22 5 Tryz.underlying22 Tryz.underlying5 m c 9 Tryz.underlying9, hl]
    rfl
  | some ad =>
    obtain ⟨b, o, e, _⟩ := S.plain ad rfl
    subst e
    rw [run_convert_bytes_arg W 22 5 Tryz.underlying22 Tryz.underlying5 b o m c (l.map fun x => (x.toNat : Int)) (by simp [hm]) (fun i hi => ?_) 9 Tryz.underlying9]
    · simp [strOfNums, Function.comp_def]
    · obtain ⟨b', o', e, hc⟩ := S.at_.at_ (by omega)
      simp only [Option.some.injEq, Addr.mk.injEq, and_true] at e
      obtain ⟨rfl, rfl⟩ := e
      rw [hc i (by omega)]
      simp [byteF, V8, List.getD, show i < l.length by omega]
theorem text_wide {W : World} {l : List UInt8} {a : Option Addr} {c : Nat} (X : TxtW W a l.length c l) : (convert 22 9 (.slice a l.length c)).run Tryz.prog W = .ok (.string ⟨l.toArray⟩) W := by
  rcases X with X | ⟨_, rfl, rfl⟩
  · exact text_of rfl X.src
  · cases a with
    | none => exact text_of (l := []) rfl ⟨⟨fun h => by cases h⟩, Nat.le_refl _, fun _ => rfl, fun ad h => by cases h⟩
    | some ad =>
      simp [convert, run_underlying Tryz.underlying22, run_underlying Tryz.underlying5, run_underlying Tryz.underlying9, Conv.bytesToString, loadCells, loadCellsFrom]
      rfl
/-- A literal '[]byte(".."): new memory, marked. -/
def litW (W : World) (cs : Array Value) : World := (W.alloc (.cells cs 5)).freeze ⟨W.heap.size, cs.size, none⟩ 1
theorem mark_any (b n c : Nat) (W : World) (cs : Array Value) (t : TypeId) (fr : Nat × Nat) (h : W.heap[b]? = some (.cells cs t fr)) : (convert 22 22 (.slice (some ⟨b, 0, none⟩) n c)).run Tryz.prog W = .ok (.slice (some ⟨b, 0, none⟩) n c) (W.freeze ⟨b, cs.size, none⟩ 1) ∧ Kept (· = b) W (W.freeze ⟨b, cs.size, none⟩ 1) ∧ ∃ fr', (W.freeze ⟨b, cs.size, none⟩ 1).heap[b]? = some (.cells cs t fr') := by
  have hsh : W.shape? b = some (t, cs.size) := by simp [World.shape?, h]
  refine ⟨?_, ?_, ?_⟩
  · simp [convert, run_underlying Tryz.underlying22, run_underlying Tryz.underlying5, markStringish, hsh]
  · refine ⟨rfl, rfl, rfl, by simp [World.freeze], fun i hi hne => ?_⟩
    have : ¬ b = i := fun e => hne e.symm
    simp [World.freeze, Array.getElem?_modify, this]
  · simp [World.freeze, Array.getElem?_modify, h]
theorem lit_conv (W : World) (cs : Array Value) (n c : Nat) : (convert 22 22 (.slice (some ⟨W.heap.size, 0, none⟩) n c)).run Tryz.prog (W.alloc (.cells cs 5)) = .ok (.slice (some ⟨W.heap.size, 0, none⟩) n c) (litW W cs) :=
  (mark_any W.heap.size n c _ cs _ _ (blk1 W (.cells cs 5))).1
theorem lit_low (W : World) (cs : Array Value) : RowKit.Below W.heap.size W (litW W cs) :=
  ((Kept.of_below (F := (· = W.heap.size)) (low1 W (.cells cs 5))).then (mark_any W.heap.size 0 0 _ cs _ _ (blk1 W (.cells cs 5))).2.1).below fun b hlt e => by omega
theorem lit_block (W : World) (cs : Array Value) : ∃ fr, (litW W cs).heap[W.heap.size]? = some (.cells cs 5 fr) := (mark_any W.heap.size 0 0 _ cs _ _ (blk1 W (.cells cs 5))).2.2
theorem lit_txt (W : World) (l : Bs) (n : Nat) (hn : n = l.length) : Txt (litW W (l.map V8).toArray) (some ⟨W.heap.size, 0, none⟩) n n l := by
  obtain ⟨fr, h⟩ := lit_block W (l.map V8).toArray
  exact Txt.of_block h hn
set_option maxRecDepth 100000 in
theorem l6num_any (k : Int) (w : World) : Calls Tryz.prog 15 #[.int .i64 k] w fun e w' => e = .returned (.int .i64 k) ∧ w = w' := by
  go_enter Tryz.func15, Tryz.ntmps15
  go_wp2
  go_ret
  exact ⟨rfl, rfl⟩
set_option maxRecDepth 100000 in
theorem l6same_wide (x y : Bs) (A B : Option Addr) (C D : Nat) (w : World) (X : TxtW w A x.length C x) (Y : TxtW w B y.length D y) : Calls Tryz.prog 18 #[.slice A x.length C, .slice B y.length D] w fun e w' => e = .returned (.bool (x == y)) ∧ w = w' := by
  have h1 := text_wide X
  have h2 := text_wide Y
  have heq : ∀ w : World, (binOp .eql 9 (.string ⟨x.toArray⟩) (.string ⟨y.toArray⟩)).run Tryz.prog w = .ok (.bool (x == y)) w := fun w => eql_strV w _ x y
  clear X Y
  go_enter Tryz.func18, Tryz.ntmps18
  go_wp2
  go_ret
  exact ⟨rfl, rfl⟩
theorem l6same_any (x y : Bs) (A B : Option Addr) (C D : Nat) (w : World) (X : Txt w A x.length C x) (Y : Txt w B y.length D y) : Calls Tryz.prog 18 #[.slice A x.length C, .slice B y.length D] w fun e w' => e = .returned (.bool (x == y)) ∧ w = w' := l6same_wide x y A B C D w X.wide Y.wide
/-! ### a nil log -/
section
variable (w : World)
set_option maxRecDepth 100000 in
theorem append_nil (v : Value) : Calls Tryz.prog 27 #[.pointer none, v] w fun e w' => e = .returned (.int .i64 0) ∧ RowKit.Below w.heap.size w w' := by
  go_enter Tryz.func27, Tryz.ntmps27
  go_wp2
  go_ret
  exact ⟨rfl, low1 _ _⟩
set_option maxRecDepth 100000 in
theorem sync_nil : Calls Tryz.prog 42 #[.pointer none] w fun e w' => e = .returned (.int .i64 0) ∧ RowKit.Below w.heap.size w w' := by
  go_enter Tryz.func42, Tryz.ntmps42
  go_wp2
  go_ret
  exact ⟨rfl, low1 _ _⟩
set_option maxRecDepth 100000 in
theorem snap_nil (v : Value) : Calls Tryz.prog 25 #[.pointer none, v] w fun e w' => e = .returned (.int .i64 0) ∧ RowKit.Below w.heap.size w w' := by
  go_enter Tryz.func25, Tryz.ntmps25
  go_wp2
  go_ret
  exact ⟨rfl, low1 _ _⟩
set_option maxRecDepth 100000 in
theorem state_nil : Calls Tryz.prog 19 #[.pointer none] w fun e w' => e = .returned (.slice none 0 0) ∧ w = w' := by
  go_enter Tryz.func19, Tryz.ntmps19
  go_wp2
  go_ret
  exact ⟨rfl, rfl⟩
set_option maxRecDepth 100000 in
theorem records_nil : Calls Tryz.prog 21 #[.pointer none] w fun e w' => e = .returned (.slice none 0 0) ∧ w = w' := by
  go_enter Tryz.func21, Tryz.ntmps21
  go_wp2
  go_ret
  exact ⟨rfl, rfl⟩
set_option maxRecDepth 100000 in
theorem epoch_nil : Calls Tryz.prog 23 #[.pointer none] w fun e w' => e = .returned (.int .i64 0) ∧ w = w' := by
  go_enter Tryz.func23, Tryz.ntmps23
  go_wp2
  go_ret
  exact ⟨rfl, rfl⟩
set_option maxRecDepth 100000 in
theorem count_nil : Calls Tryz.prog 46 #[.pointer none] w fun e w' => e = .returned (.int .i64 0) ∧ w = w' := by
  go_enter Tryz.func46, Tryz.ntmps46
  go_wp2
  go_ret
  exact ⟨rfl, rfl⟩
set_option maxRecDepth 100000 in
theorem cut_nil : Calls Tryz.prog 17 #[.pointer none] w fun e w' => e = .returned (.int .i64 0) ∧ w = w' := by
  go_enter Tryz.func17, Tryz.ntmps17
  go_wp2
  go_ret
  exact ⟨rfl, rfl⟩
set_option maxRecDepth 100000 in
theorem broken_nil : Calls Tryz.prog 41 #[.pointer none] w fun e w' => e = .returned (.bool false) ∧ w = w' := by
  go_enter Tryz.func41, Tryz.ntmps41
  go_wp2
  go_ret
  exact ⟨rfl, rfl⟩
end
theorem bytes_one : (bytesW 1 [] []).length = 10 := by
  unfold bytesW
  rw [List.length_append, sealW_len, groups_small (by omega)]
  simp [recsW]
set_option maxRecDepth 100000 in
set_option maxHeartbeats 1000000 in
/-- A disk without files, and a log on it. -/
theorem begun_any {w : World} (hT : Tabs6 w) (R : Nat) (h10 : 10 ≤ R) (hR : R ≤ 9223372036854775807) :
    Calls Tryz.prog 24 #[.int .i64 R] w fun e w' => ∃ g dg d own lf, e = .returned (.tuple #[ptrV dg, ptrV g]) ∧ PairAt w' g dg d (newLog 1 [] [] 0) own lf ∧ Solo d 1 (bytesW 1 [] []) (bytesW 1 [] []).length 0 ∧ d.ops = 5 ∧ d.room = R ∧ RowKit.Below w.heap.size w w' ∧ ∀ b, both own lf b → w.heap.size ≤ b := by
  have hne := new_any (w := w) [] none 0 (fun _ => False) ⟨rfl, Nat.le_refl _, fun _ => rfl, (fun ad h => by cases h), (fun i p h => by cases h)⟩ (R : Int) ⟨by omega, by omega⟩ (fun p h => by cases h) (by simp)
  rw [new_empty R] at hne
  have HNE := Lib.hid hne
  have HT := Lib.hid hT
  have HR := Lib.hid (show 10 ≤ R ∧ R ≤ 9223372036854775807 from ⟨h10, hR⟩)
  clear hne hT h10 hR
  simp only [List.length_nil] at HNE
  go_enter Tryz.func24, Tryz.ntmps24
  go_wp2_with fail
  go_at_call 13
  refine HNE.out.mono ?_
  rintro e w1 ⟨hb1, _, hO1, dg, recs, own, rfl, hd1, hf1⟩
  have H1 := Lib.hid hb1
  have HD := Lib.hid hd1
  have HF := Lib.hid hf1
  have HO := Lib.hid hO1
  clear hb1 hd1 hf1 hO1 HNE
  unfold ptrV
  go_wp2_with (go_at_call 15; refine (l6num_any _ _).mono ?_; rintro e w9 ⟨rfl, rfl⟩)
  go_at_call 16
  obtain ⟨d2, ho, hs, hops, hroom⟩ := open_fresh (d := Dk.empty R) rfl rfl rfl HO.out (by show 0 + 5 ≤ _; omega) (by rw [bytes_one]; exact HR.out.1) (by rw [bytes_one]; omega)
  have hop := wopen_any HD.out HO.out (w0 := w) ⟨HT.out, H1.out, HF.out⟩
  rw [ho] at hop
  unfold ptrV at hop
  have HS := Lib.hid (show Solo d2 1 (bytesW 1 [] []) (bytesW 1 [] []).length 0 ∧ d2.ops = 5 ∧ d2.room = R from ⟨hs, hops, hroom⟩)
  refine hop.mono ?_
  clear ho hs hops hroom hop
  rintro e w2 ⟨hO2, recs2, own2, hd2, ht2, g, lf, rfl, hl2, hap, hlk⟩
  have hP : PairAt w2 g dg d2 (newLog 1 [] [] 0) own2 lf := ⟨⟨recs2, hd2⟩, hO2, hl2, fun b hb => (hap b hb).2, hlk⟩
  have HP := Lib.hid hP
  have HB : Hid (RowKit.Below w.heap.size w w2 ∧ ∀ b, both own2 lf b → w.heap.size ≤ b) := Lib.hid ⟨((Kept.of_below (F := foot own) H1.out).then ht2.kept).below fun b hlt hf => by have := HF.out b hf; omega, fun b hb => by
    rcases hb with hb | hb
    · rcases Nat.lt_or_ge b w1.heap.size with h | h
      · exact HF.out b (ht2.foot b h hb)
      · exact Nat.le_trans H1.out.size h
    · exact Nat.le_trans H1.out.size (hap b hb).1⟩
  clear hO2 hd2 ht2 hl2 hap hlk hP
  unfold ptrV
  go_wp2_with (go_at_call 15; refine (l6num_any _ _).mono ?_; rintro e w9 ⟨rfl, rfl⟩)
  go_ret2
  exact ⟨g, dg, d2, own2, lf, rfl, HP.out, HS.out.1, HS.out.2.1, HS.out.2.2, HB.out.1, HB.out.2⟩
end Go.Proofs.YtgpenpnobjecgaaGreatDoor

/- LawC -/
namespace Go.Proofs.YtgpenpnobjecgaaGreatDoor
set_option maxRecDepth 100000
open Go.RowKit Dk

set_option maxRecDepth 100000 in
set_option maxHeartbeats 1000000 in
theorem l6lists_wide (x y : List Bs) (A B : Option Addr) (C D : Nat) (w : World) (X : RowsW w A x.length x) (Y : RowsW w B y.length y) (hx : x.length ≤ 4611686018427387904) : Calls Tryz.prog 20 #[.slice A x.length C, .slice B y.length D] w fun e w' => e = .returned (.bool (x == y)) ∧ RowKit.Below w.heap.size w w' := by
  have HX := Lib.hid X
  have HY := Lib.hid Y
  have HXL := Lib.hid hx
  clear X Y hx
  by_cases hl : x.length = y.length
  · have HL := Lib.hid hl
    have hl' : ((x.length : Int) != (y.length : Int)) = false := by simp; omega
    clear hl
    go_enter Tryz.func20, Tryz.ntmps20
    go_wp2
    go_loopw [5] (fun iv wr => ∃ i : Nat, iv = .int .i64 i ∧ Hid (i ≤ x.length ∧ x.take i = y.take i ∧ RowKit.Below w.heap.size w wr)) (fun iv _ => x.length - (intOf iv).toNat)
    case atStart => exact ⟨0, rfl, Lib.hid ⟨Nat.zero_le _, by simp, Below.refl _ _⟩⟩
    case round =>
      obtain ⟨i, rfl, hI⟩ := hrel
      by_cases hlt : i < x.length
      · have h1 : (i : Int) < x.length := by omega
        have h2 : (i : Int) < y.length := by have := HL.out; omega
        obtain ⟨p, hp⟩ : ∃ p, x[i]? = some p := ⟨_, List.getElem?_eq_getElem hlt⟩
        obtain ⟨q, hq⟩ : ∃ q, y[i]? = some q := ⟨_, List.getElem?_eq_getElem (by have := HL.out; omega)⟩
        have HXr := HX.out.below hI.out.2.2
        have HYr := HY.out.below hI.out.2.2
        obtain ⟨b, o, Bx, cx, rfl, q1, q2⟩ := HXr.each i p hp
        obtain ⟨b', o', By, cy, rfl, q3, q4⟩ := HYr.each i q hq
        have hsm := Lib.hid (fun k => l6same_wide p q Bx By cx cy (wr.drewN k) (q2.below (below_drewN _ _)) (q4.below (below_drewN _ _)))
        have HP := Lib.hid hp
        have HQ := Lib.hid hq
        clear HXr HYr q2 q4 hp hq
        have hwrap : (i : Int) + 1 ≤ 9223372036854775807 := by have := HXL.out; omega
        go_wp2
        go_quiet ((go_at_call 18; exact Calls.quiet_of_same ((hsm.out _).mono fun e w' h => ⟨h.1, h.2.symm⟩)))
        clear hwrap
        by_cases he : p = q
        · have hb : (p == q) = true := by simp [he]
          have htk : x.take (i + 1) = y.take (i + 1) := by
            rw [List.take_add_one, List.take_add_one, hI.out.2.1, HP.out, HQ.out, he]
          have HTK := Lib.hid htk
          clear htk he
          rw [hb]
          have hwrap : IntKind.i64.wrap ((i : Int) + 1) = (i : Int) + 1 := IntWalk.i64_in _ (by have := HXL.out; omega)
          clear hb h2
          go_wp2
          exact ⟨⟨i + 1, by simp, Lib.hid ⟨by omega, HTK.out, bthen hI.out.2.2 (below_drewN _ _)⟩⟩, by simp [intOf]; omega⟩
        · have hb : (p == q) = false := by simp [he]
          have hne : Hid ((x == y) = false) := Lib.hid (by
            rw [beq_eq_false_iff_ne]
            intro e
            subst e
            rw [HP.out] at HQ
            exact he (Option.some.inj HQ.out))
          clear he
          rw [hb]
          clear hb
          go_wp2
          go_ret
          rw [hne.out]
          exact ⟨rfl, bthen hI.out.2.2 (below_drewN _ _)⟩
      · obtain rfl : i = x.length := by have := hI.out.1; omega
        have hi : ¬ (x.length : Int) < (x.length : Int) := by omega
        have hxy : Hid ((x == y) = true) := Lib.hid (by
          have h := hI.out.2.1
          have h9 := HL.out
          rw [List.take_length, h9, List.take_length] at h
          rw [h]
          simp)
        go_wp2
        go_ret
        rw [hxy.out]
        exact ⟨rfl, hI.out.2.2⟩
  · have hl' : ((x.length : Int) != (y.length : Int)) = true := by simp; omega
    have hne : Hid ((x == y) = false) := Lib.hid (by
      rw [beq_eq_false_iff_ne]
      intro e
      exact hl (by rw [e]))
    clear hl
    go_enter Tryz.func20, Tryz.ntmps20
    go_wp2
    go_ret
    rw [hne.out]
    exact ⟨rfl, Below.refl _ _⟩
theorem l6lists_any (x y : List Bs) (A B : Option Addr) (C D : Nat) (G H : Nat → Prop) (w : World) (X : RowsAt w A x.length C x G) (Y : RowsAt w B y.length D y H) (hx : x.length ≤ 4611686018427387904) : Calls Tryz.prog 20 #[.slice A x.length C, .slice B y.length D] w fun e w' => e = .returned (.bool (x == y)) ∧ RowKit.Below w.heap.size w w' := l6lists_wide x y A B C D w X.wide Y.wide hx
end Go.Proofs.YtgpenpnobjecgaaGreatDoor
