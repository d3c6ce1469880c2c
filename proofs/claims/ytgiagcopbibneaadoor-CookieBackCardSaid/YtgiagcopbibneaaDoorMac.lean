/- The contracts of mac.Sum's closure and of mac.Sum. -/
import Derived.Test.YtgiagcopbibneaaDoorRef4
namespace Sha
/-- a block of 64 bytes, noughts behind the key -/
def pad64 (k : List UInt8) : List UInt8 := k ++ List.replicate (64 - k.length) 0
def short (k : List UInt8) : List UInt8 := if 64 < k.length then sum k else k
theorem length_short (k : List UInt8) : (short k).length ≤ 64 := by
  unfold short
  split
  · rw [length_sum]; omega
  · omega
def turned (k : List UInt8) (c : UInt8) : List UInt8 := (pad64 (short k)).map (· ^^^ c)
theorem length_pad (k : List UInt8) (h : k.length ≤ 64) : (pad64 k).length = 64 := by simp [pad64]; omega
theorem length_turned (k : List UInt8) (c : UInt8) : (turned k c).length = 64 := by rw [turned, List.length_map, length_pad _ (length_short k)]
/-- the sum of a text under a key -/
def mac (k t : List UInt8) : List UInt8 := sum (turned k 0x5c ++ sum (turned k 0x36 ++ t))
theorem length_mac (k t : List UInt8) : (mac k t).length = 32 := length_sum _
theorem take_map {b : List UInt8} (f : UInt8 → UInt8) (k : Nat) (h : k < b.length) : (b.map f).take k ++ [f (b.getD k 0)] = (b.map f).take (k + 1) := by
  rw [List.take_succ_eq_append_getElem (by simpa using h)]
  simp [List.getD_eq_getElem?_getD, List.getElem?_eq_getElem h]
end Sha
namespace Go.Proofs.YtgiagcopbibneaaDoor
open Go.RowKit
open Sha (W)

set_option maxRecDepth 100000 in
set_option maxHeartbeats 2000000 in
/-- the closure: the block, turned, and the text are summed -/
theorem mac1_any (w : World) (c : UInt8) (blk : List UInt8) (hblk : blk.length = 64) (g : Nat) (hrow : HasRow w g (bv blk) 127) (htab : Tabs w) (h2 : 2 ≤ w.heap.size)
    (t : List UInt8) (n : Nat) (hn : t.length = n) (hmost : n < 1000000000) (a : Option Addr) (cap : Nat) (hb : Bytes w (fun b => w.heap.size ≤ b) a cap t) :
    Calls Tryd.prog 90 #[.int .u8 (bt8 c), .slice a n cap, .pointer (some ⟨g, 0, none⟩)] w fun e w' => e = .returned (.agg (bv (Sha.sum (blk.map (· ^^^ c) ++ t))).toArray) ∧ Below w.heap.size w w' := by
  obtain ⟨wa, hwa⟩ : ∃ wa, wa = w.alloc (.cells (bv (List.replicate 32 0)).toArray 106) := ⟨_, rfl⟩
  have bwa : Below w.heap.size w wa := by rw [hwa]; exact (Below.refl _ _).alloc (Nat.le_refl _) _
  have sa : wa.heap.size = w.heap.size + 1 := by rw [hwa]; simp
  have ra : HasRow wa w.heap.size (bv (List.replicate 32 0)) 106 := by rw [hwa]; exact HasRow.new _ _ _
  have Hb := hid hb
  have Htab := hid htab
  have Hrow := hid hrow
  have Hn := hid hn
  have Hblk := hid hblk
  have Bwa := hid bwa
  have Ra := hid ra
  have Sa := hid sa
  have Hwa := hid hwa
  have glt := hrow.lt
  have hww : w.alloc (.cells (bv (List.replicate 32 0)).toArray 106) = wa := hwa.symm
  have F1 : Hid (0 + 64 ≤ (bv blk).length) := by rw [length_bv, hblk]; exact Nat.le_refl 64
  have F2 : Hid (List.take 64 (List.drop 0 (bv blk)) = bv blk) := List.take_of_length_le (by rw [List.drop_zero, length_bv, hblk]; exact Nat.le_refl 64)
  clear hb htab hrow hn hblk bwa ra sa hwa
  go_enter Tryd.func90, Tryd.ntmps90
  go_wp2_with fail
  refine (new_any _).mono ?_
  rintro e w1 ⟨rfl, hs1, b1, s1⟩
  have B1 : Hid (Below (w.heap.size + 1) wa w1) := by rw [Hwa.out]; exact b1.mono (by simp)
  have S1 : Hid (IsState w1 (w.heap.size + 1) []) := hid (by simpa using hs1)
  have Z1 : Hid (w1.heap.size = w.heap.size + 2) := hid (by rw [s1]; simp)
  have R1 : Hid (HasRow w1 w.heap.size (bv (List.replicate 32 0)) 106) := Ra.out.below B1.out (by omega)
  have BW1 : Hid (Below w.heap.size w w1) := Bwa.out.trans (B1.out.mono (by omega))
  have G1 : Hid (HasRow w1 g (bv blk) 127) := Hrow.out.below BW1.out glt
  clear hs1 b1 s1 hww
  go_wp2_with (refine wpList_load_part rfl 127 _ rfl g 0 64 rfl (bv blk) _ G1.out.tab Tryd.underlying127 rfl (by kernel_rfl) F1.out (bv blk) F2.out ?_)
  go_loopw [11] (fun i wr => ∃ k : Nat, k ≤ 64 ∧ i = .int .i64 (k : Int) ∧ IsState wr (w.heap.size + 1) ((blk.map (· ^^^ c)).take k) ∧ HasRow wr w.heap.size (bv (List.replicate 32 0)) 106 ∧ Below w.heap.size w wr) (fun i _ => 64 - (intOf i).toNat)
  case atStart => exact ⟨0, by omega, rfl, S1.out, R1.out, BW1.out⟩
  case round =>
    obtain ⟨k, hk, rfl, st, ro, bb⟩ := hrel
    obtain ⟨wo, rfl⟩ : ∃ wo : World, wo = wr := ⟨_, rfl⟩
    have St := hid st
    have Ro := hid ro
    have Bb := hid bb
    have Lt := hid st.lt
    have TabR : Hid (Tabs wo) := Htab.out.below h2 bb
    clear st ro bb
    by_cases h64 : k < 64
    · obtain ⟨x, hx⟩ : ∃ x, x = blk.getD k 0 := ⟨_, rfl⟩
      have ix : ∀ w, (Instr.index 127 (.agg (bv blk).toArray) (.int .i64 (k : Int))).run Tryd.prog w = .ok (.int .u8 (bt8 x)) w := fun w =>
        run_index_arr 127 5 64 .u8 Tryd.underlying127 Tryd.underlying5 (by kernel_rfl) _ k h64 _ (by
          rw [hx]; simp [bv, List.getD_eq_getElem?_getD, List.getElem?_eq_getElem (show k < blk.length by rw [Hblk.out]; exact h64)]) w
      have hp : Bytes (wo.alloc (.cells (bv [x ^^^ c]).toArray 5)) (· = w.heap.size + 1) (some ⟨wo.heap.size, 0, none⟩) 1 [x ^^^ c] :=
        ⟨Nat.le_refl 1, by decide, fun _ => ⟨wo.heap.size, 0, rfl, by have := Lt.out; omega, by simp, fun i hi => by
          rw [Nat.zero_add]; exact (HasRow.new wo (bv [x ^^^ c]) 5).byte i hi⟩⟩
      have Hp := hid hp
      have Hx := hid hx
      clear hp hx
      go_wp2_with fail
      refine (write_len (w.heap.size + 1) _ [x ^^^ c] 1 rfl _ _ (wo.alloc (.cells (bv [x ^^^ c]).toArray 5)) (St.out.below ((Below.refl _ wo).alloc (Nat.le_refl _) _) Lt.out) Hp.out (TabR.out.below (by have := Lt.out; omega) ((Below.refl _ wo).alloc (Nat.le_refl _) _)) (by omega) (by simp; omega)).mono ?_
      rintro e w4 ⟨rfl, st4, g4⟩
      have hk2 : (blk.map (· ^^^ c)).take k ++ [x ^^^ c] = (blk.map (· ^^^ c)).take (k + 1) := by rw [Hx.out]; exact Sha.take_map (· ^^^ c) k (by rw [Hblk.out]; exact h64)
      rw [hk2] at st4
      have St4 := hid st4
      have ro4 := (Ro.out.alloc (.cells (bv [x ^^^ c]).toArray 5)).grown g4 (by intro e; injection e with e; omega)
      have Ro4 := hid ro4
      have bb4 := (Bb.out.alloc Bb.out.size (.cells (bv [x ^^^ c]).toArray 5)).trans (below_of_grownBy g4 (by have := Bb.out.size; simp; omega) (by intro k hk; injection hk with hk; omega))
      have Bb4 := hid bb4
      clear st4 g4 ro4 bb4 hk2
      go_wp2_with fail
      go_roundw
      case rel => exact ⟨k + 1, by omega, by go_num, St4.out, Ro4.out, Bb4.out⟩
      case measure => simp [intOf]; omega
    · obtain rfl : k = 64 := by omega
      obtain ⟨L, hL⟩ : ∃ L, L = blk.map (· ^^^ c) := ⟨_, rfl⟩
      have hLl : L.length = 64 := by rw [hL, List.length_map, Hblk.out]
      rw [← hL, List.take_of_length_le (by omega)] at St
      obtain ⟨OUT, hOUT⟩ : ∃ OUT, OUT = Sha.sum (L ++ t) := ⟨_, rfl⟩
      have OL : Hid (OUT.length = 32) := by rw [hOUT]; exact Sha.length_sum _
      have HL := hid hL
      have HLl := hid hLl
      have HO := hid hOUT
      clear hL hLl hOUT
      go_wp2_with fail
      refine (write_len (w.heap.size + 1) L t n Hn.out _ _ _ St.out ((Hb.out.below Bb.out (fun b hb _ => hb)).other (fun b _ h e => h (by omega))) TabR.out (by omega) (by have := HLl.out; omega)).mono ?_
      rintro e w4 ⟨rfl, st4, g4⟩
      have St4 := hid st4
      have Ro4 := hid (Ro.out.grown g4 (by intro e; injection e with e; omega))
      have Bb4 := hid (Bb.out.trans (below_of_grownBy g4 Bb.out.size (by intro k hk; injection hk with hk; omega)))
      clear st4 g4
      go_wp2_with fail
      refine (stsum_any _ (w.heap.size + 1) _ St4.out (Htab.out.below h2 Bb4.out) (by omega) (by rw [List.length_append, HLl.out, Hn.out]; omega)).mono ?_
      rintro e w5 ⟨rfl, b5⟩
      rw [← HO.out]
      have R3 : Hid (HasRow w5 w.heap.size (bv (List.replicate 32 0)) 106) := Ro4.out.below b5 Ro4.out.lt
      have BW3 : Hid (Below w.heap.size w w5) := Bb4.out.trans (b5.mono Bb4.out.size)
      have F3 : Hid ((Tryd.prog.info? 106).map (·.size) = some (bv OUT).length) := by rw [length_bv, OL.out]; exact (show (Tryd.prog.info? 106).map (·.size) = some 32 by kernel_rfl)
      have F4 : Hid (0 + (bv OUT).length ≤ (bv (List.replicate 32 0)).length) := by rw [length_bv, OL.out]; exact Nat.le_refl 32
      have F5 : Hid ((bv (List.replicate 32 0)).length = (bv OUT).length) := by rw [length_bv OUT, OL.out]; rfl
      clear b5
      go_wp2_with (refine wpList_store_into rfl 106 _ _ rfl w.heap.size 0 rfl (bv OUT) rfl (bv (List.replicate 32 0)) 106 R3.out F3.out F4.out (one_bv _) ?_; intro w6 h6 g6 s6; rw [splice_all _ _ F5.out] at h6; have H6 := hid h6; have G6 := hid g6; clear h6 g6 s6)
      refine bodyPost_ret (v := .agg (bv OUT).toArray) (results_cell_row (ty := 106) (p := 5) rfl _ w6 w.heap.size _ _ _ _ rfl H6.out Tryd.underlying106 rfl (by simpa using F3.out)) rfl ⟨by rw [HO.out, HL.out], ?_⟩
      exact BW3.out.grown G6.out BW3.out.size (by intro k hk; injection hk with hk; omega)

theorem bytes_row {w : World} {g : Nat} {l : List UInt8} {T : TypeId} (h : HasRow w g (bv l) T) (no : Nat → Prop) (hno : ¬ no g) (n : Nat) (hn : l.length = n) (hmost : n ≤ 64) : Bytes w no (some ⟨g, 0, none⟩) n l :=
  ⟨by omega, by unfold maxLen; omega, fun _ => ⟨g, 0, rfl, hno, h.lt, fun i hi => by rw [Nat.zero_add]; exact h.byte i hi⟩⟩

theorem pad_splice (K : List UInt8) : splice (bv (List.replicate 64 0)) 0 (bv K) = bv (Sha.pad64 K) := by
  unfold splice Sha.pad64
  rw [length_bv, List.take_zero, List.nil_append, Nat.zero_add]
  simp only [bv, ← List.map_drop, List.drop_replicate, ← List.map_append]

set_option maxRecDepth 100000 in
set_option maxHeartbeats 2000000 in
theorem mac_any (w : World) (htab : Tabs w) (h2 : 2 ≤ w.heap.size) (no1 no2 : Nat → Prop) (l : List UInt8) (n : Nat) (hn : l.length = n) (hmost : n < 1000000) (a : Option Addr) (cap : Nat) (hb : Bytes w no1 a cap l)
    (t : List UInt8) (m : Nat) (hm : t.length = m) (hmost2 : m < 1000000) (a2 : Option Addr) (cap2 : Nat) (hb2 : Bytes w no2 a2 cap2 t) :
    Calls Tryd.prog 59 #[.slice a n cap, .slice a2 m cap2] w fun e w' => e = .returned (.agg (bv (Sha.mac l t)).toArray) ∧ Below w.heap.size w w' := by
  have b0 : Below w.heap.size w ((w.alloc (.cells (bv (List.replicate 32 0)).toArray 106)).alloc (.cells (bv (List.replicate 64 0)).toArray 127)) := ((Below.refl _ _).alloc (Nat.le_refl _) _).alloc (by simp) _
  have s0 : ((w.alloc (.cells (bv (List.replicate 32 0)).toArray 106)).alloc (.cells (bv (List.replicate 64 0)).toArray 127)).heap.size = w.heap.size + 2 := by simp
  have r0 : HasRow ((w.alloc (.cells (bv (List.replicate 32 0)).toArray 106)).alloc (.cells (bv (List.replicate 64 0)).toArray 127)) w.heap.size (bv (List.replicate 32 0)) 106 := (HasRow.new _ _ _).alloc _
  have k0 : HasRow ((w.alloc (.cells (bv (List.replicate 32 0)).toArray 106)).alloc (.cells (bv (List.replicate 64 0)).toArray 127)) (w.heap.size + 1) (bv (List.replicate 64 0)) 127 := by
    have := HasRow.new (w.alloc (.cells (bv (List.replicate 32 0)).toArray 106)) (bv (List.replicate 64 0)) 127
    rwa [show (w.alloc (.cells (bv (List.replicate 32 0)).toArray 106)).heap.size = w.heap.size + 1 by simp] at this
  have Hb := hid ((hb.other (no' := fun x => w.heap.size ≤ x) (fun b hb _ => by omega)).below b0 (fun b hb _ => hb))
  have Hb2 := hid ((hb2.other (no' := fun x => w.heap.size ≤ x) (fun b hb _ => by omega)).below b0 (fun b hb _ => hb))
  have Htab := hid htab
  have Hn := hid hn
  have Hm := hid hm
  have B0 := hid b0
  have S0 := hid s0
  have R0 := hid r0
  have K0 := hid k0
  obtain ⟨K, hK⟩ : ∃ K, K = Sha.short l := ⟨_, rfl⟩
  obtain ⟨q, hq⟩ : ∃ q, q = K.length := ⟨_, rfl⟩
  have q64 : q ≤ 64 := by rw [hq, hK]; exact Sha.length_short l
  have HK := hid hK
  have Hq := hid hq
  have hmf : ∀ (fn : Fn) (first cap : Array Value) (w : World), (Instr.makeFunc fn first cap).run Tryd.prog w = .ok (.func fn first cap) w := fun _ _ _ _ => rfl
  have hcap : n ≤ cap ∧ cap ≤ 9223372036854775807 := by have h1 := hb.1; have h2 := hb.2.1; unfold maxLen at h2; omega
  clear hb hb2 htab hn hm b0 s0 r0 k0 hK hq
  go_enter Tryd.func59, Tryd.ntmps59
  go_upto_if 11 with (fail)
  go_cut [0] (fun v wx => ∃ aK cK, v = .slice aK q cK ∧ Bytes wx (fun b => w.heap.size ≤ b ∧ b < w.heap.size + 2) aK cK K ∧ Below (w.heap.size + 2) ((w.alloc (.cells (bv (List.replicate 32 0)).toArray 106)).alloc (.cells (bv (List.replicate 64 0)).toArray 127)) wx)
  case first =>
    by_cases h64 : 64 < n
    · have hKs : K = Sha.sum l := by rw [HK.out, Sha.short, if_pos (by rw [Hn.out]; exact h64)]
      have OL : Hid (K.length = 32) := by rw [hKs]; exact Sha.length_sum l
      have q32 : q = 32 := by rw [Hq.out]; exact OL.out
      subst q32
      have HKs := hid hKs
      clear hKs
      go_wp2_with fail
      refine (sum_len l n Hn.out a cap _ (fun x => w.heap.size ≤ x) Hb.out (Htab.out.below h2 B0.out) (by have := S0.out; omega) (by omega)).mono ?_
      rintro e w1 ⟨rfl, b1⟩
      rw [← HKs.out]
      have B1 := hid b1
      have R1 := hid (HasRow.new w1 (bv (List.replicate 32 0)) 106)
      have F3 : Hid ((Tryd.prog.info? 106).map (·.size) = some (bv K).length) := by rw [length_bv, OL.out]; exact (show (Tryd.prog.info? 106).map (·.size) = some 32 by kernel_rfl)
      have F4 : Hid (0 + (bv K).length ≤ (bv (List.replicate 32 0)).length) := by rw [length_bv, OL.out]; exact Nat.le_refl 32
      have F5 : Hid ((bv (List.replicate 32 0)).length = (bv K).length) := by rw [length_bv K, OL.out]; rfl
      clear b1
      go_wp2_with (refine wpList_store_into rfl 106 _ _ rfl w1.heap.size 0 rfl (bv K) rfl (bv (List.replicate 32 0)) 106 R1.out F3.out F4.out (one_bv _) ?_; intro w6 h6 g6 s6; rw [splice_all _ _ F5.out] at h6; have H6 := hid h6; have G6 := hid g6; clear h6 g6 s6)
      go_meet
      have z1 := B1.out.size
      rw [S0.out] at z1
      refine ⟨some ⟨w1.heap.size, 0, none⟩, 32, rfl, bytes_row H6.out _ (by omega) 32 OL.out (by omega), ?_⟩
      exact ((B1.out.mono (by rw [S0.out]; exact Nat.le_refl _)).alloc z1 _).grown G6.out (by simp; omega) (by intro k hk; injection hk with hk; omega)
    · have hKs : K = l := by rw [HK.out, Sha.short, if_neg (by rw [Hn.out]; exact h64)]
      have hqn : q = n := by rw [Hq.out, hKs]; exact Hn.out
      subst hqn
      go_wp2_with fail
      go_meet
      refine ⟨a, cap, rfl, ?_, Below.refl _ _⟩
      rw [hKs]
      exact Hb.out.other (fun b hb hn h => hn h.1)
  case rest =>
    obtain ⟨aK, cK, hv, hby, bel⟩ := hcut
    subst hv
    have hcK : q ≤ cK ∧ cK ≤ 9223372036854775807 := by have h1 := hby.1; have h2 := hby.2.1; have := Hq.out; unfold maxLen at h2; omega
    have Hby := hid hby
    have BW : Hid (Below w.heap.size w wc) := B0.out.trans (bel.mono (by omega))
    have Rc : Hid (HasRow wc w.heap.size (bv (List.replicate 32 0)) 106) := R0.out.below bel (by omega)
    have Kc : Hid (HasRow wc (w.heap.size + 1) (bv (List.replicate 64 0)) 127) := K0.out.below bel (by omega)
    have Tx : Hid (Bytes wc (fun x => w.heap.size ≤ x) a2 cap2 t) := Hb2.out.below bel (fun b hb hn => by omega)
    have Zc : Hid (w.heap.size + 2 ≤ wc.heap.size) := by have := bel.size; rw [S0.out] at this; exact this
    have Hnn : Hid ((bv K).length = Nat.min q 64) := by rw [length_bv, ← Hq.out]; exact (Nat.min_eq_left q64).symm
    have Hpos : Hid (0 < (bv K).length → (some ⟨w.heap.size + 1, 0, none⟩ : Option Addr) = some ⟨w.heap.size + 1, 0, none⟩ ∧ ∃ ad, aK = some ad ∧ ∀ j v, (bv K)[j]? = some v → wc.cell? (ad.add j) = some v) := fun h0 => by
      obtain ⟨b, off, hab, _, _, hc⟩ := hby.2.2 (by intro e; rw [e] at h0; exact absurd h0 (by decide))
      refine ⟨rfl, _, hab, fun j v hj => ?_⟩
      have hj2 : j < K.length := by have := (List.getElem?_eq_some_iff.1 hj).1; simpa using this
      rw [addr_add, hc j hj2, ← hj]
      simp [bv, List.getD_eq_getElem?_getD, List.getElem?_eq_getElem hj2]
    have Hfit : Hid (0 + (bv K).length ≤ (bv (List.replicate 64 0)).length) := by rw [length_bv, ← Hq.out]; show 0 + q ≤ 64; omega
    obtain ⟨blk, hblk⟩ : ∃ blk, blk = Sha.pad64 K := ⟨_, rfl⟩
    have Hsp : Hid (splice (bv (List.replicate 64 0)) 0 (bv K) = bv blk) := by
      rw [hblk]; exact pad_splice K
    have HB : Hid (blk.length = 64) := by rw [hblk]; exact Sha.length_pad K (by rw [← Hq.out]; exact q64)
    have Hblk := hid hblk
    clear hby bel hblk
    go_wp2_with (refine wpList_copy_splice rfl (.tmp 15) (.tmp 16) 29 29 rfl 5 Tryd.underlying29 (by kernel_rfl) _ _ _ _ _ _ rfl rfl (w.heap.size + 1) 0 (bv (List.replicate 64 0)) 127 Kc.out (bv K) Hnn.out Hpos.out Hfit.out (one_bv _) (w.heap.size + 1) wc (Below.refl _ _) (Nat.le_refl _) ?_; intro w2 HG2 hB2; rw [Hsp.out] at HG2; have Kb : Hid (HasRow w2 (w.heap.size + 1) (bv blk) 127) := HG2; have B2 := hid hB2; clear HG2 hB2)
    have Z2 : Hid (w.heap.size + 2 ≤ w2.heap.size) := by have := Zc.out; have := B2.out.size; exact hid (by omega)
    have BW2 : Hid (Below w.heap.size w w2) := BW.out.trans (B2.out.mono (by omega))
    have T2 : Hid (Bytes w2 (fun x => w.heap.size ≤ x) a2 cap2 t) := Tx.out.below B2.out (fun b hb hn => by omega)
    have R2 : Hid (HasRow w2 w.heap.size (bv (List.replicate 32 0)) 106) := Rc.out.below B2.out (by omega)
    have c1 := mac1_any w2 0x36 blk HB.out (w.heap.size + 1) Kb.out (Htab.out.below h2 BW2.out) (by have := Z2.out; omega) t m Hm.out (by omega) a2 cap2 (T2.out.other (fun b hb _ h => by omega))
    rw [show bt8 0x36 = 54 from rfl] at c1
    refine c1.mono ?_
    clear c1
    rintro e w3 ⟨rfl, b3⟩
    obtain ⟨S1, hS1⟩ : ∃ S1, S1 = Sha.sum (blk.map (fun x => x ^^^ 0x36) ++ t) := ⟨_, rfl⟩
    rw [← hS1]
    have L1 : Hid (S1.length = 32) := by rw [hS1]; exact Sha.length_sum _
    have HS1 := hid hS1
    have Z3 : Hid (w.heap.size + 2 ≤ w3.heap.size) := by have := Z2.out; have := b3.size; exact hid (by omega)
    have BW3 : Hid (Below w.heap.size w w3) := BW2.out.trans (b3.mono (by have := Z2.out; omega))
    have R3 : Hid (HasRow w3 w.heap.size (bv (List.replicate 32 0)) 106) := R2.out.below b3 (by have := Z2.out; omega)
    have Kb3 : Hid (HasRow w3 (w.heap.size + 1) (bv blk) 127) := Kb.out.below b3 (by have := Z2.out; omega)
    have N3 := hid (HasRow.new w3 (bv (List.replicate 32 0)) 106)
    have F3 : Hid ((Tryd.prog.info? 106).map (·.size) = some (bv S1).length) := by rw [length_bv, L1.out]; exact (show (Tryd.prog.info? 106).map (·.size) = some 32 by kernel_rfl)
    have F4 : Hid (0 + (bv S1).length ≤ (bv (List.replicate 32 0)).length) := by rw [length_bv, L1.out]; exact Nat.le_refl 32
    have F5 : Hid ((bv (List.replicate 32 0)).length = (bv S1).length) := by rw [length_bv S1, L1.out]; rfl
    clear b3 hS1
    go_wp2_with (refine wpList_store_into rfl 106 _ _ rfl w3.heap.size 0 rfl (bv S1) rfl (bv (List.replicate 32 0)) 106 N3.out F3.out F4.out (one_bv _) ?_; intro w4 h4 g4 s4; rw [splice_all _ _ F5.out] at h4; have H4 := hid h4; have G4 := hid g4; clear h4 g4 s4)
    have B4 : Hid (Below w3.heap.size w3 w4) := ((Below.refl _ w3).alloc (Nat.le_refl _) _).grown G4.out (by simp) (by intro k hk; injection hk with hk; omega)
    have Z4 : Hid (w.heap.size + 2 ≤ w4.heap.size) := by have := Z3.out; have := B4.out.size; exact hid (by omega)
    have BW4 : Hid (Below w.heap.size w w4) := BW3.out.trans (B4.out.mono (by have := Z3.out; omega))
    have c2 := mac1_any w4 0x5c blk HB.out (w.heap.size + 1) (Kb3.out.below B4.out (by have := Z3.out; omega)) (Htab.out.below h2 BW4.out) (by have := Z4.out; omega) S1 32 L1.out (by omega) _ 32 (bytes_row H4.out _ (by have := H4.out.lt; omega) 32 L1.out (by omega))
    rw [show bt8 0x5c = 92 from rfl] at c2
    refine c2.mono ?_
    clear c2
    rintro e w5 ⟨rfl, b5⟩
    obtain ⟨OUT, hOUT⟩ : ∃ OUT, OUT = Sha.sum (blk.map (fun x => x ^^^ 0x5c) ++ S1) := ⟨_, rfl⟩
    rw [← hOUT]
    have OL : Hid (OUT.length = 32) := by rw [hOUT]; exact Sha.length_sum _
    have HO : Hid (Sha.mac l t = OUT) := by
      rw [hOUT, HS1.out, Hblk.out, HK.out]; rfl
    have BW5 : Hid (Below w.heap.size w w5) := BW4.out.trans (b5.mono (by have := Z4.out; omega))
    have R5 : Hid (HasRow w5 w.heap.size (bv (List.replicate 32 0)) 106) := (R3.out.below B4.out (by have := Z3.out; omega)).below b5 (by have := Z4.out; omega)
    have E3 : Hid ((Tryd.prog.info? 106).map (·.size) = some (bv OUT).length) := by rw [length_bv, OL.out]; exact (show (Tryd.prog.info? 106).map (·.size) = some 32 by kernel_rfl)
    have E4 : Hid (0 + (bv OUT).length ≤ (bv (List.replicate 32 0)).length) := by rw [length_bv, OL.out]; exact Nat.le_refl 32
    have E5 : Hid ((bv (List.replicate 32 0)).length = (bv OUT).length) := by rw [length_bv OUT, OL.out]; rfl
    clear b5 hOUT
    go_wp2_with (refine wpList_store_into rfl 106 _ _ rfl w.heap.size 0 rfl (bv OUT) rfl (bv (List.replicate 32 0)) 106 R5.out E3.out E4.out (one_bv _) ?_; intro w6 h6 g6 s6; rw [splice_all _ _ E5.out] at h6; have H6 := hid h6; have G6 := hid g6; clear h6 g6 s6)
    refine bodyPost_ret (v := .agg (bv OUT).toArray) (results_cell_row (ty := 106) (p := 4) rfl _ w6 w.heap.size _ _ _ _ rfl H6.out Tryd.underlying106 rfl (by simpa using E3.out)) rfl ⟨by rw [HO.out], ?_⟩
    exact BW5.out.grown G6.out BW5.out.size (by intro k hk; injection hk with hk; omega)
end Go.Proofs.YtgiagcopbibneaaDoor
