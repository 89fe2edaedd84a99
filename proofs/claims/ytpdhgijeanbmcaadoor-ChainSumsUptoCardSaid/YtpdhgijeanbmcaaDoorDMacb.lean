/- digest.Mac of a key and of parts is HMAC with SHA-256 of the key and the parts behind one another. -/
import Derived.Test.YtpdhgijeanbmcaaDoorDMac
import Derived.Test.YtpdhgijeanbmcaaDoorLow
namespace Go.Proofs.YtpdhgijeanbmcaaDoor
open Go.RowKit

theorem kpad_of (key K : List UInt8) (h : K = Sha.key key) : Sha.kpad key = K ++ List.replicate (64 - K.length) 0 := by rw [h]; rfl
theorem cut_next (K : List UInt8) (x : UInt8) (k : Nat) (h : k < K.length) : (K.map (· ^^^ x)).take k ++ [K.getD k 0 ^^^ x] = (K.map (· ^^^ x)).take (k + 1) := by
  rw [List.take_succ_eq_append_getElem (by simpa using h)]
  simp [List.getD, List.getElem?_eq_getElem h]
theorem one_bytes (w : World) (x : UInt8) (t : TypeId) : BytesAt (w.alloc (.cells #[V8 x] t)) (some ⟨w.heap.size, 0, none⟩) [x] :=
  ⟨fun _ => ⟨w.heap.size, 0, rfl, fun j hj => by
    have : j = 0 := by simpa using hj
    subst this
    rw [cell_of_row _ _ _ _ _ _ (heap_alloc_new _ _)]
    rfl⟩⟩

/-- Both sums under way: the inner one has taken A, the outer one B. -/
structure MAt (w : World) (hi ho : Nat) (A B : List UInt8) (wr : World) : Prop where
  inn : HashAt wr hi A
  out : HashAt wr ho B
  low : Below w.heap.size w wr
  res : wr.heap[w.heap.size]? = some (.cells (zeros8 32) 29 (0, 0))
  lt : w.heap.size < hi
  lt2 : w.heap.size < ho
  ne : hi ≠ ho
theorem HashAt.lt {w : World} {b : Nat} {L : List UInt8} (h : HashAt w b L) : b < w.heap.size := by
  obtain ⟨A, q, rest, t, hL, h1, h2, h3, h4, h5⟩ := h
  exact in_heap h5
theorem hsum_is (R : List UInt8) (hb : Nat) (L : List UInt8) (w : World) (hR : R = Sha.sum L) (hT : Tabs w) (H : HashAt w hb L) (hlen : L.length < 1152921504606846976) :
    Calls Tryd.prog 64 #[.pointer (some ⟨hb, 0, none⟩)] w fun e w' => e = .returned (sumV R) ∧ Below w.heap.size w w' := by
  subst hR
  exact hsum_any hb L w hT H hlen
theorem MAt.low_ {w wr w' : World} {hi ho : Nat} {A B : List UInt8} (M : MAt w hi ho A B wr) (h : Below wr.heap.size wr w') : MAt w hi ho A B w' :=
  ⟨M.inn.below h M.inn.lt, M.out.below h M.out.lt, bthen M.low h, bblk h M.res, M.lt, M.lt2, M.ne⟩
theorem MAt.wrote {w wr w' : World} {hi ho : Nat} {A A' B : List UInt8} (M : MAt w hi ho A B wr) (h : HashAt w' hi A') (hg : wr.grownBy w' (some hi)) : MAt w hi ho A' B w' :=
  ⟨h, M.out.grown hg M.ne.symm, M.low.grown hg M.low.size (fun k hk => by obtain rfl := Option.some.inj hk; have := M.lt; omega), (hg.block _ (in_heap M.res) (fun e => by have := Option.some.inj e; have := M.lt; omega)).trans M.res, M.lt, M.lt2, M.ne⟩
theorem MAt.wroteo {w wr w' : World} {hi ho : Nat} {A B B' : List UInt8} (M : MAt w hi ho A B wr) (h : HashAt w' ho B') (hg : wr.grownBy w' (some ho)) : MAt w hi ho A B' w' :=
  ⟨M.inn.grown hg M.ne, h, M.low.grown hg M.low.size (fun k hk => by obtain rfl := Option.some.inj hk; have := M.lt2; omega), (hg.block _ (in_heap M.res) (fun e => by have := Option.some.inj e; have := M.lt2; omega)).trans M.res, M.lt, M.lt2, M.ne⟩
theorem MAt.box {w wr w' : World} {hi ho : Nat} {A B : List UInt8} {o : Obj} (M : MAt w hi ho A B wr) (hg : (wr.alloc o).grownBy w' (some wr.heap.size)) : MAt w hi ho A B w' := by
  have M1 := M.low_ (low1 wr o)
  have i1 := M.inn.lt
  have i2 := M.out.lt
  have i3 := M.low.size
  exact ⟨M1.inn.grown hg (by omega), M1.out.grown hg (by omega), M1.low.grown hg M1.low.size (fun k hk => by obtain rfl := Option.some.inj hk; omega), (hg.block _ (in_heap M1.res) (fun e => by have := Option.some.inj e; have := in_heap M.res; omega)).trans M1.res, M.lt, M.lt2, M.ne⟩
theorem mat_in {w wr : World} {hi ho : Nat} {A B : List UInt8} (hT : Tabs w) (M : MAt w hi ho A B wr) (x : UInt8) (hlen : A.length < 2305843009213693952) :
    Calls Tryd.prog 63 #[.pointer (some ⟨hi, 0, none⟩), .slice (some ⟨wr.heap.size, 0, none⟩) 1 1] (wr.alloc (.cells #[V8 x] 5)) fun e w' => e = .returned (.tuple #[]) ∧ MAt w hi ho (A ++ [x]) B w' := by
  have M1 := M.low_ (low1 wr (.cells #[V8 x] 5))
  refine (write_len hi A [x] (some ⟨wr.heap.size, 0, none⟩) 1 1 _ rfl (hT.below M1.low) (hT.fresh (Nat.le_of_lt M.lt)) M1.inn (one_bytes wr x _) (Nat.le_refl _) (fun ad had => ?_) (by simp; omega)).mono ?_
  · obtain rfl := Option.some.inj had
    have := M.inn.lt
    exact fun e => by have e' : wr.heap.size = hi := e; omega
  · rintro e w' ⟨h1, h2, h3⟩
    exact ⟨h1, M1.wrote h2 h3⟩
theorem mat_out {w wr : World} {hi ho : Nat} {A B : List UInt8} (hT : Tabs w) (M : MAt w hi ho A B wr) (x : UInt8) (hlen : B.length < 2305843009213693952) :
    Calls Tryd.prog 63 #[.pointer (some ⟨ho, 0, none⟩), .slice (some ⟨wr.heap.size, 0, none⟩) 1 1] (wr.alloc (.cells #[V8 x] 5)) fun e w' => e = .returned (.tuple #[]) ∧ MAt w hi ho A (B ++ [x]) w' := by
  have M1 := M.low_ (low1 wr (.cells #[V8 x] 5))
  refine (write_len ho B [x] (some ⟨wr.heap.size, 0, none⟩) 1 1 _ rfl (hT.below M1.low) (hT.fresh (Nat.le_of_lt M.lt2)) M1.out (one_bytes wr x _) (Nat.le_refl _) (fun ad had => ?_) (by simp; omega)).mono ?_
  · obtain rfl := Option.some.inj had
    have := M.out.lt
    exact fun e => by have e' : wr.heap.size = ho := e; omega
  · rintro e w' ⟨h1, h2, h3⟩
    exact ⟨h1, M1.wroteo h2 h3⟩
theorem mat_part {w wr : World} {hi ho : Nat} {A B : List UInt8} (hT : Tabs w) (M : MAt w hi ho A B wr) (l : List UInt8) (a : Option Addr) (m c : Nat) (hm : m = l.length) (S : Src w a c l) (hlen : A.length + l.length < 2305843009213693952) :
    Calls Tryd.prog 63 #[.pointer (some ⟨hi, 0, none⟩), .slice a m c] wr fun e w' => e = .returned (.tuple #[]) ∧ MAt w hi ho (A ++ l) B w' := by
  have S1 := S.below M.low
  refine (write_len hi A l a m c _ hm (hT.below M.low) (hT.fresh (Nat.le_of_lt M.lt)) M.inn S1.at_ S1.cap (fun ad had => ?_) (by omega)).mono ?_
  · have := S.lt ad had
    have := M.lt
    omega
  · rintro e w' ⟨h1, h2, h3⟩
    exact ⟨h1, M.wrote h2 h3⟩
theorem mat_sum {w wr : World} {hi ho g : Nat} {A B : List UInt8} (hT : Tabs w) (M : MAt w hi ho A B wr) (s : List UInt8) (hs : s.length = 32) (t : TypeId) (hg : wr.heap[g]? = some (.cells (s.map V8).toArray t (0, 0))) (hne : g ≠ ho) (hlen : B.length < 2305843009213693952) :
    Calls Tryd.prog 63 #[.pointer (some ⟨ho, 0, none⟩), .slice (some ⟨g, 0, none⟩) 32 32] wr fun e w' => e = .returned (.tuple #[]) ∧ MAt w hi ho A (B ++ s) w' := by
  refine (write_len ho B s (some ⟨g, 0, none⟩) 32 32 _ hs.symm (hT.below M.low) (hT.fresh (Nat.le_of_lt M.lt2)) M.out ⟨fun _ => ⟨g, 0, rfl, fun j hj => ?_⟩⟩ (by omega) (fun ad had => ?_) (by omega)).mono ?_
  · rw [Nat.zero_add]
    exact cell_block hg (by simp [byteF, hj, List.getD])
  · obtain rfl := Option.some.inj had
    exact hne
  · rintro e w' ⟨h1, h2, h3⟩
    exact ⟨h1, M.wroteo h2 h3⟩

set_option maxRecDepth 100000 in
set_option maxHeartbeats 400000 in
theorem dmac_any (key : List UInt8) (a : Option Addr) (m c : Nat) (ps : List Part) (b n : Nat) (w : World) (hm : m = key.length) (hT : Tabs w) (S : Src w a c key) (hn : n = ps.length) (hP : Parts w b ps)
    (hlen : key.length < 70368744177664) (hn9 : n ≤ 1000000) (htot : tot ps ps.length ≤ 70368744177664) :
    Calls Tryd.prog 37 #[.slice a m c, .slice (some ⟨b, 0, none⟩) n n] w fun e w' => e = .returned (sumV (Sha.mac key (cat ps ps.length))) ∧ Below w.heap.size w w' := by
  have S' := Lib.hid S
  have HP := Lib.hid hP
  have Hm := Lib.hid hm
  have Hn := Lib.hid hn
  have Ht := Lib.hid htot
  have Hmac : Sha.mac key (cat ps ps.length) = Sha.sum (Sha.xout key ++ Sha.sum (Sha.xin key ++ cat ps ps.length)) := rfl
  have HMac := Lib.hid Hmac
  obtain ⟨R, hR⟩ : ∃ R, R = Sha.mac key (cat ps ps.length) := ⟨_, rfl⟩
  rw [← hR] at HMac ⊢
  have hRl : R.length = 32 := by rw [hR]; exact Sha.mac_len _ _
  have HRl := Lib.hid hRl
  clear S hP hm hn htot Hmac hR hRl
  have hB0 : ∀ o o', Below w.heap.size w ((w.alloc o).alloc o') := fun o o' => low2 w o o'
  have HB0 := Lib.hid hB0
  clear hB0
  have hcase : 64 < m ∨ ¬ 64 < m := by omega
  rcases hcase with h64 | h64
  case' inl =>
    have hi : (64 : Int) < (m : Int) := by omega
    have hK := Sha.sum_length key
    have hkey : Sha.sum key = Sha.key key := by unfold Sha.key; rw [if_pos (by have := Hm.out; omega)]
    have hds := Lib.hid fun W hT S => dsum_any key a m c W Hm.out hT S S'.out.cap
    obtain ⟨s, hs⟩ : ∃ s, s = Sha.sum key := ⟨_, rfl⟩
    rw [← hs] at hds hkey hK
    have Hk := Lib.hid hkey
    have HK := Lib.hid hK
    clear hkey hK hs
    go_enter Tryd.func37, Tryd.ntmps37
    go_wp2_with (first | (go_at_call 41; refine (hds.out _ (hT.below (HB0.out _ _)) (S'.out.at_.below (HB0.out _ _)) (fun ad had => Nat.lt_of_lt_of_le (S'.out.lt ad had) (HB0.out _ _).size) (by omega)).mono ?_; rintro e w1 ⟨rfl, hB⟩; have HB1 := Lib.hid hB; clear hB) | (refine wpList_store_row' rfl 29 _ _ rfl w1.heap.size (s.map V8).toArray rfl rfl _ _ (blk1 _ _) (by rw [show (Tryd.prog.info? 29).map (·.size) = some 32 from by kernel_rfl]; simp [HK.out]) (by simp [HK.out]) (oneCells s) ?_; intro w2 h2 g2 s2; have HS2 := Lib.hid h2; have HG2 := Lib.hid g2; clear h2 g2 s2))
    have hz1 := bblk HB1.out (blk2 w (.cells (zeros8 32) 29) (.cells (zeros8 64) 78)).1
    have hz2 := bblk HB1.out (blk2 w (.cells (zeros8 32) 29) (.cells (zeros8 64) 78)).2
    have i1 := in_heap hz1
    have i2 := in_heap hz2
    have y1 := (HG2.out.block _ (by simp; omega) (fun e => by have := Option.some.inj e; omega)).trans (at_old (.cells (zeros8 32) 29) hz1)
    have y2 := (HG2.out.block _ (by simp; omega) (fun e => by have := Option.some.inj e; omega)).trans (at_old (.cells (zeros8 32) 29) hz2)
    have hsrc : BytesAt w2 (some ⟨w1.heap.size, 0, none⟩) s := ⟨fun _ => ⟨_, _, rfl, fun j hj => by rw [Nat.zero_add]; exact cell_block HS2.out (by simp [byteF, hj, List.getD])⟩⟩
    have hl2 : Below w.heap.size w w2 := ((low2 w (.cells (zeros8 32) 29) (.cells (zeros8 64) 78)).trans ((HB1.out.mono (by simp; omega)).alloc (by omega) _)).grown HG2.out (by simp; omega) (fun k hk => by obtain rfl := Option.some.inj hk; omega)
    have Y1 := Lib.hid y1
    have Y2 := Lib.hid y2
    have HSrc := Lib.hid hsrc
    have HL2 := Lib.hid hl2
    have I1 := Lib.hid i1
    clear hz1 hz2 i1 i2 y1 y2 hsrc hl2
    refine wp_region_rel 2 Low (by kernel_rfl) (by kernel_rfl) Low.refl Low.trans [.is (.slice (some ⟨w.heap.size + 1, 0, none⟩) 64 64), .is (.slice (some ⟨w1.heap.size, 0, none⟩) 32 32)] rfl ?_
    refine .cons (fun wr hR h => ?_) fun v => .cons (fun wr hR h => ?_) fun v => .nil fun wr hR h => ?_
    · unfold relOp
      go_wp2
      exact ⟨Low.refl _, rfl⟩
    · unfold relOp
      go_wp2
      exact ⟨Low.refl _, rfl⟩
    obtain ⟨rfl, rfl, -⟩ := h
    have hR' := bthen (Low.drew w2) hR
    refine wpList_copy_pad rfl _ _ 22 22 rfl 5 Tryd.underlying22 (by kernel_rfl) (w.heap.size + 1) 32 32 (some ⟨w1.heap.size, 0, none⟩) (by kernel_rfl) (by kernel_rfl) _ (bblk hR' Y2.out) s HK.out.symm (by rw [HK.out]; decide) (HSrc.out.below hR') ?_
    intro w3 h3 g3
    rw [← kpad_of key s Hk.out] at h3
    have r3 := (g3.block w.heap.size (in_heap (bblk hR' Y1.out)) (fun e => by have := Option.some.inj e; omega)).trans (bblk hR' Y1.out)
    have l3 := (HL2.out.trans (hR'.mono HL2.out.size)).grown g3 (Nat.le_trans HL2.out.size hR'.size) (fun k hk => by obtain rfl := Option.some.inj hk; omega)
    have HK3 := Lib.hid h3
    have HR3 := Lib.hid r3
    have HL3 := Lib.hid l3
    clear h3 g3 r3 l3 hR hR' Y1 Y2 HSrc HL2 HG2 HS2 I1 HB1 hds HK Hk hi h64
    go_wp2_with fail
  case' inr =>
    have hi : ¬ (64 : Int) < (m : Int) := by omega
    have hkey : key = Sha.key key := by unfold Sha.key; rw [if_neg (by have := Hm.out; omega)]
    have hle : key.length ≤ 64 := by have := Hm.out; omega
    have Hk := Lib.hid hkey
    have HK := Lib.hid hle
    clear hkey hle
    go_enter Tryd.func37, Tryd.ntmps37
    go_wp2_with (refine wpList_copy_pad rfl _ _ 22 22 rfl 5 Tryd.underlying22 (by kernel_rfl) (w.heap.size + 1) m c a rfl rfl _ (blk2 w (.cells (zeros8 32) 29) (.cells (zeros8 64) 78)).2 key Hm.out HK.out (S'.out.at_.below (HB0.out _ _)) ?_; intro w3 h3 g3)
    rw [← kpad_of key key Hk.out] at h3
    have r3 := (g3.block w.heap.size (by simp; omega) (fun e => by have := Option.some.inj e; omega)).trans (blk2 w (.cells (zeros8 32) 29) (.cells (zeros8 64) 78)).1
    have l3 := (low2 w (.cells (zeros8 32) 29) (.cells (zeros8 64) 78)).grown g3 (by simp; omega) (fun k hk => by obtain rfl := Option.some.inj hk; omega)
    have HK3 := Lib.hid h3
    have HR3 := Lib.hid r3
    have HL3 := Lib.hid l3
    clear h3 g3 r3 l3 h64 hi HK Hk
  all_goals
    obtain ⟨K, hK⟩ : ∃ K, K = Sha.kpad key := ⟨_, rfl⟩
    rw [← hK] at HK3
    have hKl : K.length = 64 := by rw [hK]; exact Sha.kpad_len _
    have hxi : Sha.xin key = K.map (· ^^^ 0x36) := by rw [hK]; rfl
    have hxo : Sha.xout key = K.map (· ^^^ 0x5c) := by rw [hK]; rfl
    have HKl := Lib.hid hKl
    have Hxi := Lib.hid hxi
    have Hxo := Lib.hid hxo
    have HT3 := Lib.hid (hT.below HL3.out)
    have HT3' := Lib.hid fun o => (hT.below (HL3.out.alloc HL3.out.size o))
    have HKb := Lib.hid fun o o' => at_old o' (at_old o HK3.out)
    clear hK hKl hxi hxo
    go_wp2_with (first | (go_at_call 62; refine (newHash_any _ (by first | exact HT3.out.firstAt | exact (HT3'.out _).firstAt)).mono ?_; rintro e w1 ⟨rfl, rfl⟩) | (refine wpList_load_row rfl 78 _ rfl (w.heap.size + 1) rfl _ (K.map V8).toArray (0, 0) _ (HKb.out _ _) Tryd.underlying78 rfl (by rw [show (K.map V8).toArray.size = 64 from by simp [HKl.out]]; kernel_rfl) ?_))
    have hM : MAt w w3.heap.size (w3.heap.size + 1) [] [] ((w3.alloc (.cells (hashCells Sha.init (List.replicate 64 0) 0) 94)).alloc (.cells (hashCells Sha.init (List.replicate 64 0) 0) 94)) :=
      ⟨(HashAt.new w3).below (low1 _ _) (by simp), by have := HashAt.new (w3.alloc (.cells (hashCells Sha.init (List.replicate 64 0) 0) 94)); rwa [size_alloc] at this, bthen HL3.out (low2 _ _ _), at_old _ (at_old _ HR3.out), in_heap HR3.out, Nat.lt_succ_of_lt (in_heap HR3.out), by omega⟩
    have HM := Lib.hid hM
    clear hM HT3 HT3' HKb HK3 HR3 HL3
    go_loopw [10, 28] (fun _ i wr => ∃ k : Nat, k ≤ 64 ∧ i = .int .i64 k ∧ MAt w w3.heap.size (w3.heap.size + 1) ((K.map (· ^^^ 0x36)).take k) ((K.map (· ^^^ 0x5c)).take k) wr) (fun _ i _ => 64 - (intOf i).toNat)
    case atStart => exact ⟨0, by omega, rfl, by simpa using HM.out⟩
    case round =>
      clear HM
      obtain ⟨k, hk, rfl, M⟩ := hrel
      have HMr := Lib.hid M
      clear M
      by_cases hlt : k < 64
      · have hki : (k : Int) < 64 := by omega
        have hki0 : (0 : Int) ≤ (k : Int) := by omega
        have hidx := fun w => index_b64 K HKl.out k hlt w
        have hn1 := cut_next K 0x36 k (by rw [HKl.out]; exact hlt)
        have hn2 := cut_next K 0x5c k (by rw [HKl.out]; exact hlt)
        obtain ⟨x, hx⟩ : ∃ x, x = K.getD k 0 := ⟨_, rfl⟩
        rw [← hx] at hn1 hn2
        simp only [← hx] at hidx
        have Hn1 := Lib.hid hn1
        have Hn2 := Lib.hid hn2
        have hl1 : ((K.map (· ^^^ 0x36)).take k).length < 2305843009213693952 := by simp; omega
        have hl2 : ((K.map (· ^^^ 0x5c)).take k).length < 2305843009213693952 := by simp; omega
        have Hl1 := Lib.hid hl1
        have Hl2 := Lib.hid hl2
        clear hn1 hn2 hx hl1 hl2
        go_wp2_with (first | (go_at_call 63; refine (mat_out hT HM4.out (x ^^^ 0x5c) Hl2.out).mono ?_; rintro e w5 ⟨rfl, hM⟩; rw [Hn2.out] at hM; have HM5 := Lib.hid hM; clear hM) | (go_at_call 63; refine (mat_in hT HMr.out (x ^^^ 0x36) Hl1.out).mono ?_; rintro e w4 ⟨rfl, hM⟩; rw [Hn1.out] at hM; have HM4 := Lib.hid hM; clear hM))
        go_roundw
        case rel => exact ⟨k + 1, by omega, by go_num, HM5.out⟩
        case measure => simp [intOf]; omega
      · have hk64 : k = 64 := by omega
        have hki : ¬ (k : Int) < 64 := by omega
        have hM := HMr.out
        rw [hk64, List.take_of_length_le (by simp [HKl.out]), List.take_of_length_le (by simp [HKl.out]), ← Hxi.out, ← Hxo.out] at hM
        have HM6 := Lib.hid hM
        clear HMr hM hk64
        go_wp2
        go_loopw [12, 44] (fun _ i wq => ∃ k : Nat, k ≤ n ∧ i = .int .i64 k ∧ MAt w w3.heap.size (w3.heap.size + 1) (Sha.xin key ++ cat ps k) (Sha.xout key) wq) (fun _ i _ => n - (intOf i).toNat)
        case atStart => exact ⟨0, by omega, rfl, by simpa [cat] using HM6.out⟩
        case round =>
          clear HM6
          obtain ⟨k, hk, rfl, M⟩ := hrel
          have HMr := Lib.hid M
          clear M
          have hxl : (Sha.xin key).length = 64 := by rw [Hxi.out]; simp [HKl.out]
          have hyl : (Sha.xout key).length = 64 := by rw [Hxo.out]; simp [HKl.out]
          by_cases hlt : k < n
          · have hk' : k < ps.length := by have := Hn.out; omega
            have hki : (k : Int) < n := by omega
            have hki0 : (0 : Int) ≤ (k : Int) := by omega
            have c0 := (HP.out.below HMr.out.low).at_ k hk'
            have hsrc := HP.out.src k hk'
            have hcat := cat_succ ps k hk'
            have hle := tot_le ps (k + 1) (by omega)
            have hts := tot_succ ps k hk'
            have hcl := cat_length ps k
            have hT9 := Ht.out
            have hl1 : (Sha.xin key ++ cat ps k).length + ps[k].l.length < 2305843009213693952 := by rw [List.length_append, hxl, hcl]; omega
            obtain ⟨l, hl⟩ : ∃ l, l = ps[k].l := ⟨_, rfl⟩
            rw [← hl] at c0 hsrc hcat hl1
            obtain ⟨q, hq⟩ : ∃ q, q = l.length := ⟨_, rfl⟩
            rw [← hq] at c0
            have Hq := Lib.hid hq
            have Hsrc := Lib.hid hsrc
            have Hcat := Lib.hid hcat
            have Hl1 := Lib.hid hl1
            clear hsrc hcat hle hts hcl hT9 hl1 hl hq hxl hyl
            go_wp2_with (go_at_call 63; refine (mat_part hT HMr.out l ps[k].a q ps[k].c Hq.out Hsrc.out Hl1.out).mono ?_; rintro e w7 ⟨rfl, hM⟩; have HM7 := Lib.hid hM; clear hM)
            go_roundw
            case rel => exact ⟨k + 1, by omega, by go_num, by rw [Hcat.out, ← List.append_assoc]; exact HM7.out⟩
            case measure => simp [intOf]; omega
          · obtain rfl : k = n := by omega
            have hM := HMr.out
            have hkn : cat ps k = cat ps ps.length := by rw [Hn.out]
            rw [hkn] at hM
            have hl1 : (Sha.xin key ++ cat ps ps.length).length < 1152921504606846976 := by rw [List.length_append, hxl, cat_length]; have := Ht.out; omega
            have hh := Lib.hid (hsum_any w3.heap.size _ _ (hT.below hM.low) hM.inn hl1)
            have hmac := HMac.out
            obtain ⟨s, hs⟩ : ∃ s, s = Sha.sum (Sha.xin key ++ cat ps ps.length) := ⟨_, rfl⟩
            rw [← hs] at hh hmac
            have hsl : s.length = 32 := by rw [hs]; rfl
            have hl2 : (Sha.xout key ++ s).length < 1152921504606846976 := by rw [List.length_append, hyl, hsl]; decide
            have Hsl := Lib.hid hsl
            have Hl2 := Lib.hid hl2
            have Hyl := Lib.hid hyl
            have Hmac2 := Lib.hid hmac
            have HM8 := Lib.hid hM
            clear hM hkn hl1 hs hsl hl2 hmac HMr hxl hyl
            go_wp2_with (first | (go_at_call 64; refine (hsum_is R (w3.heap.size + 1) _ _ Hmac2.out (hT.below HM10.out.low) HM10.out.out Hl2.out).mono ?_; rintro e w11 ⟨rfl, hB⟩; have HB11 := Lib.hid hB; clear hB) | (go_at_call 64; refine hh.out.mono ?_; rintro e w8 ⟨rfl, hB⟩; have HB8 := Lib.hid hB; clear hB) | (go_at_call 63; refine (mat_sum hT HM9.out s Hsl.out _ H9.out (by have := HM8.out.out.lt; have := HB8.out.size; omega) (by rw [Hyl.out]; decide)).mono ?_; rintro e w10 ⟨rfl, hM⟩; have HM10 := Lib.hid hM; clear hM) | (refine wpList_store_sum rfl 29 _ _ rfl w.heap.size R 32 rfl rfl _ _ (bblk HB11.out HM10.out.res) (by kernel_rfl) HRl.out rfl ?_) | (refine wpList_store_row' rfl 29 _ _ rfl w8.heap.size (s.map V8).toArray rfl rfl _ _ (blk1 _ _) (by rw [show (Tryd.prog.info? 29).map (·.size) = some 32 from by kernel_rfl]; simp [Hsl.out]) (by simp [Hsl.out]) (oneCells s) ?_; intro w9 h9 g9 s9; have HM9 := Lib.hid ((HM8.out.low_ HB8.out).box g9); have H9 := Lib.hid h9; clear h9 g9 s9))
            refine bodyPost_ret (results_sum rfl _ _ w.heap.size _ R 32 (0, 0) _ rfl (setRow_heap _ _ _ _ _ _ (bblk HB11.out HM10.out.res)) Tryd.underlying29 (by kernel_rfl) HRl.out) rfl ⟨rfl, ?_⟩
            exact brow (bthen HM10.out.low HB11.out) (Nat.le_refl _) _
end Go.Proofs.YtpdhgijeanbmcaaDoor
