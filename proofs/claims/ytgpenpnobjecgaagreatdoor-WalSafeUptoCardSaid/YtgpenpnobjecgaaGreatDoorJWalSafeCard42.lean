/- What the operations of wicketlaw06.fits do. -/
import Derived.Test.YtgpenpnobjecgaaGreatDoorJWalSafeCard24
import Derived.Test.YtgpenpnobjecgaaGreatDoorJWalSafeCard35
import Derived.Test.YtgpenpnobjecgaaGreatDoorJWalSafeCard40
import Derived.Test.YtgpenpnobjecgaaGreatDoorJWalSafeCard41
/- Safe5 -/
namespace Go.Proofs.YtgpenpnobjecgaaGreatDoor
set_option maxRecDepth 100000
open Go.RowKit Dk

theorem SafeI.arm {R E : Nat} {d : DiskS} {L : LogS} {b : BookS} (h : SafeI R E d L b) (n : Int) : SafeI R E (Dk.arm d n) L b := by
  unfold Dk.arm
  split
  · exact h
  · refine ⟨h.room, h.left, fun hb => ?_⟩
    obtain ⟨i, j, hu, hr⟩ := h.use hb
    exact ⟨i, j, ⟨hu.live, hu.room, hu.lo, hu.hi, hu.dir, hu.safe, hu.chg, hu.lt, hu.file, hu.part, hu.twice, hu.state, hu.small, hu.len, hu.fits⟩, hr⟩
/-- One name alone. -/
theorem dir_one {l : Dir} {s : Bs} {i : Nat} (hR : Rising l) (hg : dget l s = some i) (h : ∀ p ∈ l, p.1 = s) : l = [(s, i)] := by
  have hn := names_nodup hR
  have hm := dget_mem hg
  match l, hn, hm, h with
  | [x], _, hm, _ => rw [← List.mem_singleton.1 hm]
  | x :: y :: r, hn, _, h =>
    rw [List.map_cons, List.map_cons, List.nodup_cons] at hn
    exact absurd (by rw [h x (by simp), h y (by simp)]; simp) hn.1
theorem safe_opened {z : Prop} {E o : Nat} {d0 d1 : DiskS} {s : Bs} {rs : List Bs} {L : LogS} (ho : Opened True z (NmE E) d0 d1 o s rs L) (hN : ∀ p ∈ view d0, NmE E p.1) (hE : E ≤ 1099511627776) (hO : Ok d1) : SafeI d1.room E d1 L (toldB s rs) := by
  obtain ⟨b, i, h1, h2, h3, h4, h5⟩ := ho.file
  obtain ⟨e1, e2⟩ := ho.epoch
  have hdir : d1.dir = [(nameW L.epoch, i)] := dir_one hO.dirR h1 fun p hp => by
    rcases ho.rest p hp with e | ⟨k1, k2, j, hj⟩
    · exact e
    · rcases hN (p.1, _) (mem_fmap.2 ⟨j, hj, rfl⟩) with e | ⟨n, n1, n2, e⟩
      · exact absurd e k2
      · have e : p.1 = nameW n := e
        rw [e, genOf_name n1 (by omega)] at k1
        cases k1
  have hb := h5 trivial
  have hmem : (nameW L.epoch, i) ∈ d1.dir := dget_mem h1
  have hlt : i < d1.files.length := (hO.dirF _ hmem).1
  have hsyn := ho.calm.syn _ hmem
  obtain ⟨_, r1, r2, r3⟩ := readB_split h4
  have hfile : fileAt d1.files i = ⟨bytesW L.epoch s rs, (bytesW L.epoch s (rs.take rs.length)).length⟩ := by
    rw [List.take_length, ← hb, ← h2]
    simp only at hsyn
    rw [← hsyn]
  have hlen : (fileAt d1.files i).b.length ≤ 4194304 := (hO.len (fileAt d1.files i) (by rw [fileAt_eq hlt]; exact List.getElem_mem _)).1
  rw [hfile] at hlen
  have hused := hO.used
  unfold DiskS.used at hused
  rw [hdir] at hused
  simp [usedIn, hfile] at hused
  have hep : L.epoch ≤ E := by
    rcases ho.name with e | ⟨n, n1, n2, e⟩
    · exact absurd e.symm (temp_ne _)
    · have := nameW_inj (by omega) (by omega) e
      omega
  have hu : InUse d1.room d1 L.epoch s rs i rs.length := ⟨ho.calm.live, rfl, e1, e2, hdir, by rw [ho.calm.safe, hdir], ho.calm.chg, hlt, hfile, Nat.le_refl _, fun h => absurd h (Nat.lt_irrefl _), r1, r2, hlen, hused⟩
  exact ⟨rfl, hu.al (b := toldB s rs) hep rfl rfl (Nat.le_refl _), fun _ => ⟨i, rs.length, hu, Nat.le_refl _, rfl, ho.state, ho.recs, by rw [h3, hb]; rfl, hep⟩⟩
/-- A disk of what is left, and an Open of it, armed or not. -/
theorem back_step {R E : Nat} {d : DiskS} {b : BookS} (h : AL (GoodB R E b) d) (hE : E + 1 ≤ 1099511627776) (c : Int) (tails : List Int) :
    ∃ e, Dk.new (left d c tails) (R : Int) = (some e, 0) ∧ e.armed = 0 ∧ ∀ x, (x = e ∨ ∃ n, x = Dk.arm e n) → Ok x →
      (∃ x' L s rs, openW x = (x', some L, 0) ∧ FitsB b s rs ∧ L.state = s ∧ L.records = rs ∧ (Ok x' → SafeI R (E + 1) x' L (toldB s rs))) ∨ (x.armed ≠ 0 ∧ ∃ x', openW x = (x', none, 51) ∧ AL (GoodB R (E + 1) b) x') := by
  obtain ⟨s, rs, hf, hg⟩ := h c tails
  obtain ⟨e, h1, h2, h3, h4, h5⟩ := new_fits hg.1
  refine ⟨e, h1, h4, fun x hx hO => ?_⟩
  have hv : view x = view e ∧ x.room = R ∧ Calm 0 x := by
    rcases hx with rfl | ⟨n, rfl⟩
    · exact ⟨rfl, h5, h3⟩
    · exact ⟨arm_view _ _, by rw [arm_room, h5], h3.arm n⟩
  obtain ⟨v1, v2, v3⟩ := hv
  have hT : Tells True x.room (view x) s rs := by rw [v1, v2, h2]; exact hg.2.1
  have hN : ∀ p ∈ view x, NmE E p.1 := by rw [v1, h2]; exact hg.2.2
  rcases open_holds (z := x.armed = 0) hO v3 id (by decide) hT (nmE_ok (by omega) hN) with ⟨L, k1, k2⟩ | ⟨k0, k1, _, k2⟩
  · refine .inl ⟨_, L, s, rs, pair_eq k1, hf, k2.state, k2.recs, fun hO2 => ?_⟩
    have := safe_opened k2 (fun p hp => (hN p hp).more (Nat.le_succ E)) hE hO2
    rw [k2.room, v2] at this
    exact this
  · refine .inr ⟨k0, _, pair_eq k1, fun c t => ?_⟩
    have := k2 c t
    rw [v2] at this
    exact ⟨s, rs, hf, this⟩
/-- A log just begun. -/
theorem safe_begun {d : DiskS} (h : Solo d 1 (bytesW 1 [] []) (bytesW 1 [] []).length 0) (hR : 10 ≤ d.room) : SafeI d.room 1 d (newLog 1 [] [] 0) (toldB [] []) := by
  have h1 : (bytesW 1 [] []).length = 10 := bytes_one
  have hu : InUse d.room d 1 [] [] 0 0 := ⟨h.live, rfl, by omega, by omega, h.dir, h.safe, h.chg, h.lt, h.file, Nat.le_refl _, fun h => absurd h (Nat.lt_irrefl _), by simp, (fun r hr => by cases hr), by omega, by omega⟩
  exact ⟨rfl, hu.al (b := toldB [] []) (Nat.le_refl _) rfl rfl (Nat.le_refl _), fun _ => ⟨0, 0, hu, Nat.le_refl _, rfl, rfl, rfl, rfl, Nat.le_refl _⟩⟩
end Go.Proofs.YtgpenpnobjecgaaGreatDoor

/- FitsRuns -/
namespace Go.Proofs.YtgpenpnobjecgaaGreatDoor
set_option maxRecDepth 100000
open Go.RowKit Dk

theorem run_geq_int {P : Program} (w : World) (t : TypeId) (p q : Operand) {a b : Int} (h : b ≤ a) : (binW .geq t p q (.int .i64 a) (.int .i64 b)).run P w = .ok (.bool true) w := by
  have hg : (eqGuard .geq t p q (.int .i64 a) (.int .i64 b)).run P w = .ok () w := rfl
  have h2 : (binOp .geq t (.int .i64 a) (.int .i64 b)).run P w = .ok (.bool true) w := by simp [go_sem, h]
  simp [binW, Sem.run_bind, hg, h2]
theorem run_leq_int {P : Program} (w : World) (t : TypeId) (p q : Operand) {a b : Int} (h : a ≤ b) : (binW .leq t p q (.int .i64 a) (.int .i64 b)).run P w = .ok (.bool true) w := by
  have hg : (eqGuard .leq t p q (.int .i64 a) (.int .i64 b)).run P w = .ok () w := rfl
  have h2 : (binOp .leq t (.int .i64 a) (.int .i64 b)).run P w = .ok (.bool true) w := by simp [go_sem, h]
  simp [binW, Sem.run_bind, hg, h2]
theorem run_len_zero {P : Program} (w : World) (t : TypeId) (p q : Operand) (n : Nat) : (binW .eql t p q (.int .i64 n) (.int .i64 0)).run P w = .ok (.bool ((n : Int) == 0)) w := by
  have hg : (eqGuard .eql t p q (.int .i64 n) (.int .i64 0)).run P w = .ok () w := rfl
  have h2 : (binOp .eql t (.int .i64 n) (.int .i64 0)).run P w = .ok (.bool ((n : Int) == 0)) w := by simp [go_sem]
  simp [binW, Sem.run_bind, hg, h2]
theorem run_len_zero_of {P : Program} (w : World) (t : TypeId) (p q : Operand) {n : Nat} {x : Bool} (h : ((n : Int) == 0) = x) : (binW .eql t p q (.int .i64 n) (.int .i64 0)).run P w = .ok (.bool x) w := by
  rw [← h]
  exact run_len_zero w t p q n
theorem run_load_bool {w : World} {b o : Nat} {v : Value} (h : w.cell? ⟨b, o, none⟩ = some v) : (Instr.loadAt 4 (.pointer (some ⟨b, o, none⟩))).run Tryz.prog w = .ok v w := by
  simp [Instr.loadAt, go_sem, h]
theorem elem_byteses : Tryz.prog.underlying 23 = some (.slice (Tryz.prog.elem 23)) := by kernel_rfl
theorem sizeOf_byteses (w : World) : (sizeOf (Tryz.prog.elem 23)).run Tryz.prog w = .ok 1 w := by kernel_rfl
theorem run_slice_rows {w0 : World} {A : Option Addr} {n C : Nat} {l : List Bs} {G : Nat → Prop} (h : RowsAt w0 A n C l G) {k : Nat} (hk : k ≤ n) (w : World) : (Instr.sliceAt 23 (.slice A n C) none (some (.int .i64 (k : Int))) none).run Tryz.prog w = .ok (.slice A k C) w := by
  have hc := h.cap
  rw [run_sliceAt_slice (P := Tryz.prog) (w := w) 23 _ _ _ _ elem_byteses, run_slice_h w 23 _ n C elem_byteses .i64 k (by omega) (by omega), sizeOf_byteses]
  simp only [Result.andThen, sliced]
  split
  · rfl
  · cases A with
    | none => rfl
    | some ad =>
      obtain ⟨b, o, rfl, _⟩ := h.plain ad rfl
      rw [Nat.zero_mul, Option.map_some, Addr.add_lit]
      rfl
/-- The first rows of rows. -/
theorem RowsAt.part {w : World} {A : Option Addr} {n C : Nat} {l : List Bs} {G : Nat → Prop} (h : RowsAt w A n C l G) {k : Nat} (hk : k ≤ n) : RowsAt w A k C (l.take k) G :=
  ⟨by rw [List.length_take, ← h.len]; omega, Nat.le_trans hk h.cap, h.nil, h.plain, fun i p hp => h.each i p (by
    rw [List.getElem?_take] at hp
    split at hp
    · exact hp
    · cases hp)⟩
end Go.Proofs.YtgpenpnobjecgaaGreatDoor
