/- The contracts of the reference: fairleadref00's Roomy, Kept, EqBytes; fairleadref06's constants, whole, words, Sum. -/
import Derived.Test.YtadpcefdkifagaaDoorCopy
import Derived.Test.YtadpcefdkifagaaDoorLaws4
namespace Go.Proofs.YtadpcefdkifagaaDoor
open Go.RowKit
open Sha (W)

set_option maxRecDepth 100000 in
set_option maxHeartbeats 1000000 in
/-- EqBytes: the same row of bytes twice -/
theorem eqbytes_same (w : World) (no no2 : Nat → Prop) (l : List UInt8) (n : Nat) (hn : l.length = n) (a a2 : Option Addr) (cap cap2 : Nat) (hb : Bytes w no a cap l) (hb2 : Bytes w no2 a2 cap2 l) :
    Calls Tryd.prog 33 #[.slice a n cap, .slice a2 n cap2] w fun e w' => e = .returned (.bool true) ∧ Drawn w w' := by
  have hm : n ≤ 9223372036854775807 := by have h1 := hb.1; have h2 := hb.2.1; unfold maxLen at h2; omega
  have Hb := hid hb
  have Hb2 := hid hb2
  have Hn := hid hn
  clear hb hb2 hn
  go_enter Tryd.func33, Tryd.ntmps33
  go_wp2
  go_loopw [6, 7] (fun u i wr => ∃ k : Nat, k ≤ n ∧ i = .int .i64 (k : Int) ∧ u = .int .u8 (bt8 0) ∧ Drawn w wr) (fun _ i _ => n - (intOf i).toNat)
  case atStart => exact ⟨0, by omega, rfl, rfl, Drawn.refl _⟩
  case round =>
    obtain ⟨k, hk, rfl, rfl, dr⟩ := hrel
    have Dr := hid dr
    by_cases hkn : k < n
    · have hne : l ≠ [] := by intro e; have := Hn.out; rw [e] at this; simp at this; omega
      obtain ⟨b, off, ha, _, _, hc⟩ := Hb.out.2.2 hne
      obtain ⟨b2, off2, ha2, _, _, hc2⟩ := Hb2.out.2.2 hne
      subst ha ha2
      have c1 : wr.cell? ⟨b, off + k, none⟩ = some (.int .u8 (bt8 (l.getD k 0))) := (dr.cell _).trans (hc k (by have := Hn.out; omega))
      have c2 : wr.cell? ⟨b2, off2 + k, none⟩ = some (.int .u8 (bt8 (l.getD k 0))) := (dr.cell _).trans (hc2 k (by have := Hn.out; omega))
      generalize l.getD k 0 = x at c1 c2
      have i1 : (k : Int) < (n : Int) := by omega
      clear dr hc hc2
      go_wp2
      go_quiet (fail)
      go_wp2
      go_roundw
      case rel => exact ⟨k + 1, by omega, by go_num, by simp, Dr.out.drewN _⟩
      case measure => simp [intOf]; omega
    · clear dr
      go_wp2
      go_ret
      exact ⟨rfl, Dr.out⟩

/-- what Roomy makes: the bytes, marks behind them -/
def marks : List UInt8 := List.replicate 16 0x5a
def RoomyAt (w : World) (base : Nat) (l : List UInt8) (g : Nat) : Prop := base ≤ g ∧ HasRow w g (bv (l ++ marks)) 5

def RoomyMade (w : World) (l : List UInt8) (e : Ending) (w' : World) : Prop := ∃ g, e = .returned (.slice (some ⟨g, 0, none⟩) l.length (l.length + 16)) ∧ RoomyAt w' w.heap.size l g ∧ Below w.heap.size w w'

set_option maxRecDepth 100000 in
set_option maxHeartbeats 1000000 in
theorem roomy_any (w : World) (no : Nat → Prop) (l : List UInt8) (n : Nat) (hn : l.length = n) (a : Option Addr) (cap : Nat) (hb : Bytes w no a cap l) (hmost : n < 1152921504606) :
    Calls Tryd.prog 16 #[.slice a n cap] w (RoomyMade w l) := by
  have Hb := hid hb
  have Hn := hid hn
  clear hb hn
  obtain ⟨i0, hi, hz0, hz1, hz2⟩ := info_parts info_u8
  have Hi := hid hi
  have Hz0 := hid hz0
  have Hz1 := hid hz1
  have Hz2 := hid hz2
  obtain ⟨m, hm⟩ : ∃ m, m = n + 16 := ⟨_, rfl⟩
  have m1 : (n : Int) + 16 = (m : Int) := by omega
  have mn : n ≤ m := by omega
  have m2 : m < 1152921504700 := by omega
  have Hm := hid hm
  clear hi hz0 hz1 hz2 hm
  go_enter Tryd.func16, Tryd.ntmps16
  go_wp2_with (refine wpList_make_row rfl 22 _ _ rfl 5 i0 (.int .u8 0) Tryd.underlying22 Hi.out Hz0.out Hz1.out rfl .i64 .i64 m m rfl rfl (Nat.le_refl _) (by rw [Hz2.out]; omega) (by omega) ?_; intro w3 h3 b3 s3; have H3 := hid h3; have B3 := hid b3; have S3 := hid s3; clear h3 b3 s3)
  go_loopw [4] (fun i wr => ∃ k : Nat, n ≤ k ∧ k ≤ m ∧ i = .int .i64 (k : Int) ∧ HasRow wr w.heap.size (bv (List.replicate n 0 ++ (List.replicate (k - n) 0x5a ++ List.replicate (m - k) 0))) 5 ∧ Below w.heap.size w wr) (fun i _ => m - (intOf i).toNat)
  case atStart =>
    refine ⟨n, by omega, by omega, rfl, ?_, B3.out⟩
    have := H3.out
    rw [Nat.sub_self, List.replicate_zero, List.nil_append, List.replicate_append_replicate, show n + (m - n) = m by omega]
    simp [bv]; exact this
  case round =>
    obtain ⟨k, hk0, hk, rfl, ro, bb⟩ := hrel
    have Ro := hid ro
    have Bb := hid bb
    by_cases hkm : k < m
    · obtain ⟨u, c2⟩ : ∃ u, wr.cell? ⟨w.heap.size, k, none⟩ = some (.int .u8 (bt8 u)) := ⟨_, ro.byte k (by simp; omega)⟩
      have c3 := ro.free k
      clear ro bb
      go_wp2
      go_roundw
      case rel =>
        refine ⟨k + 1, by omega, by omega, by go_num, ?_, Bb.out.setCell (p := ⟨w.heap.size, k, none⟩) (Nat.le_refl _) _⟩
        have := Ro.out.setByte k 0x5a
        rw [List.set_append_right (h := by simp; omega), List.length_replicate, List.set_append_right (h := by simp), List.length_replicate, Nat.sub_self, show m - k = (m - (k + 1)) + 1 by omega, List.replicate_succ, List.set_cons_zero] at this
        rw [show k + 1 - n = (k - n) + 1 by omega, List.replicate_succ', List.append_assoc]
        exact this
      case measure => simp [intOf]; omega
    · obtain rfl : k = m := by omega
      rw [Nat.sub_self, List.replicate_zero, List.append_nil, show k - n = 16 by have := Hm.out; omega] at Ro
      clear ro
      clear bb
      obtain ⟨wo, rfl⟩ : ∃ wo : World, wo = wr := ⟨_, rfl⟩
      go_wp2
      go_loopw [5] (fun i wr => ∃ j : Nat, j ≤ n ∧ i = .int .i64 (j : Int) ∧ HasRow wr w.heap.size (bv ((l.take j ++ List.replicate (n - j) 0) ++ marks)) 5 ∧ Below w.heap.size w wr) (fun i _ => n - (intOf i).toNat)
      case atStart => exact ⟨0, by omega, rfl, by simpa [marks] using Ro.out, Bb.out⟩
      case round =>
        obtain ⟨j, hj, rfl, ro2, bb2⟩ := hrel
        have Ro2 := hid ro2
        have Bb2 := hid bb2
        by_cases hjn : j < n
        · obtain ⟨b, off, ha, _, hlt, hc⟩ := Hb.out.2.2 (by intro e; have := Hn.out; rw [e] at this; simp at this; omega)
          subst ha
          have c1 : wr.cell? ⟨b, off + j, none⟩ = some (.int .u8 (bt8 (l.getD j 0))) := (bb2.cell (by exact hlt)).trans (hc j (by have := Hn.out; omega))
          obtain ⟨u, c2⟩ : ∃ u, wr.cell? ⟨w.heap.size, j, none⟩ = some (.int .u8 (bt8 u)) := ⟨_, ro2.byte j (by simp [marks]; have := Hn.out; omega)⟩
          have c3 := ro2.free j
          obtain ⟨x, hx⟩ : ∃ x, x = l.getD j 0 := ⟨_, rfl⟩
          rw [← hx] at c1
          have Hx := hid hx
          clear ro2 bb2 hx hc
          go_wp2
          go_roundw
          case rel =>
            refine ⟨j + 1, by omega, by go_num, ?_, Bb2.out.setCell (p := ⟨w.heap.size, j, none⟩) (Nat.le_refl _) _⟩
            have := Ro2.out.setByte j x
            rw [Hx.out, List.set_append_left (h := by simp; have := Hn.out; omega), fill_step l 0 0 j n Hn.out hjn] at this
            rw [Hx.out]
            exact this
          case measure => simp [intOf]; omega
        · obtain rfl : j = n := by omega
          clear ro2 bb2
          go_wp2
          go_ret
          have h := Ro2.out
          rw [Nat.sub_self, List.replicate_zero, List.append_nil, List.take_of_length_le (by have := Hn.out; omega)] at h
          exact ⟨w.heap.size, by rw [Hn.out, ← Hm.out]; rfl, ⟨Nat.le_refl _, h⟩, Bb2.out⟩

theorem roomy_bytes {w : World} {base g : Nat} {l : List UInt8} (h : RoomyAt w base l g) (no : Nat → Prop) (hno : ∀ b, base ≤ b → ¬ no b) (hl : l.length < 1152921504606) : Bytes w no (some ⟨g, 0, none⟩) (l.length + 16) l := by
  refine ⟨by omega, by unfold maxLen; omega, fun _ => ⟨g, 0, rfl, hno g h.1, h.2.lt, fun i hi => ?_⟩⟩
  rw [Nat.zero_add, h.2.byte i (by simp; omega)]
  rw [List.getD_eq_getElem?_getD, List.getElem?_append_left hi, ← List.getD_eq_getElem?_getD]
theorem RoomyAt.below {w w' : World} {base g : Nat} {l : List UInt8} (h : RoomyAt w base l g) {B : Nat} (hb : Below B w w') (hB : w.heap.size ≤ B) : RoomyAt w' base l g :=
  ⟨h.1, h.2.below hb (Nat.lt_of_lt_of_le h.2.lt hB)⟩

set_option maxRecDepth 100000 in
set_option maxHeartbeats 1000000 in
/-- Kept: a row of Roomy's that was not turned -/
theorem kept_any (w : World) (base g : Nat) (no : Nat → Prop) (l : List UInt8) (n : Nat) (hn : l.length = n) (a : Option Addr) (cap : Nat) (hr : RoomyAt w base l g) (hb : Bytes w no a cap l) (hmost : n < 1152921504606) :
    Calls Tryd.prog 19 #[.slice (some ⟨g, 0, none⟩) n (n + 16), .slice a n cap] w fun e w' => e = .returned (.bool true) ∧ Drawn w w' := by
  have Hr := hid hr
  have Hb := hid hb
  have Hn := hid hn
  have Hrb : Hid (Bytes w (fun _ => False) (some ⟨g, 0, none⟩) (n + 16) l) := by
    have := roomy_bytes hr (fun _ => False) (fun _ _ h => h) (by omega)
    rwa [hn] at this
  obtain ⟨m, hm⟩ : ∃ m, m = n + 16 := ⟨_, rfl⟩
  have m1 : (n : Int) + 16 = (m : Int) := by omega
  have m2 : ¬ m < m := by omega
  have m3 : (n : Int) ≤ (m : Int) := by omega
  have m4 : m < 1152921504700 := by omega
  have m5 : ¬ m = n := by omega
  have m6 : m - n = 16 := by omega
  rw [← hm] at Hrb ⊢
  have Hm := hid hm
  clear hr hb hn hm
  go_enter Tryd.func19, Tryd.ntmps19
  go_wp2_with fail
  refine (eqbytes_same w _ _ l n Hn.out _ _ _ _ Hrb.out Hb.out).mono ?_
  rintro e w1 ⟨rfl, d1⟩
  have D1 := hid d1
  clear d1
  go_wp2_with fail
  go_loop [6] (fun i => ∃ k : Nat, k ≤ 16 ∧ i = .int .i64 (k : Int)) (fun i => 16 - (intOf i).toNat)
  case atStart => exact ⟨0, by omega, rfl⟩
  case round =>
    obtain ⟨k, hk, rfl⟩ := hrel
    by_cases h16 : k < 16
    · have c1 : w1.cell? ⟨g, n + k, none⟩ = some (.int .u8 90) := by
        rw [D1.out.cell, Hr.out.2.cell_any]
        rw [bv, List.getElem?_map, List.getElem?_append_right (by have := Hn.out; omega), show n + k - l.length = k by have := Hn.out; omega]
        rw [marks, List.getElem?_replicate, if_pos h16]
        rfl
      go_wp2
      go_round
      case rel => exact ⟨k + 1, by omega, by go_num⟩
      case measure => simp [intOf]; omega
    · go_wp2
      go_ret
      exact ⟨rfl, D1.out⟩

theorem info_u32 : (Tryd.prog.info? 37).map (fun i => (i.zero, i.size, i.bytes)) = some (some (.int .u32 0), 1, 4) := by kernel_rfl

set_option maxRecDepth 100000 in
theorem constants_any (w : World) : Calls Tryd.prog 29 #[] w fun e w' => e = .returned (.slice (some ⟨w.heap.size, 0, none⟩) 64 64) ∧ HasRow w' w.heap.size (wv Sha.kTab) 37 ∧ Below w.heap.size w w' ∧ w'.heap.size = w.heap.size + 1 := by
  go_enter Tryd.func29, Tryd.ntmps29
  go_wp2
  go_ret
  exact ⟨rfl, HasRow.new w (wv Sha.kTab) _, (Below.refl _ _).alloc (Nat.le_refl _) _, by simp⟩

/-- the words of the document: a number handed in by itself -/
theorem right_lit (x : W) (k : Int) (h0 : 0 < k) (h1 : k < 32) (w : World) :
    Calls Tryd.prog 32 #[.int .u32 (wd x), .int .i64 k] w fun e w' => e = .returned (.int .u32 (wd (Sha.ror x k.toNat))) ∧ w = w' := by
  have h := right_any x k.toNat (by omega) (by omega) w
  rwa [Int.toNat_of_nonneg (by omega)] at h

end Go.Proofs.YtadpcefdkifagaaDoor
