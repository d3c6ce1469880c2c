/- mac.Same, and the anchor of the laws of layer 7. -/
import Derived.Test.YtadpcefdkifagaaDoorMac
namespace Sha
def jefe : List UInt8 := [74, 101, 102, 101]
def what : List UInt8 := [119, 104, 97, 116, 32, 100, 111, 32, 121, 97, 32, 119, 97, 110, 116, 32, 102, 111, 114, 32, 110, 111, 116, 104, 105, 110, 103, 63]
def innerJ : List UInt8 := [162, 228, 133, 134, 61, 39, 249, 216, 100, 172, 141, 128, 36, 50, 161, 237, 71, 125, 140, 76, 111, 52, 157, 22, 212, 231, 233, 23, 198, 41, 202, 215]
def outerJ : List UInt8 := [91, 220, 193, 70, 191, 96, 117, 78, 106, 4, 36, 38, 8, 149, 117, 199, 90, 0, 63, 8, 157, 39, 57, 131, 157, 236, 88, 185, 100, 236, 56, 67]
theorem turned_jefe (c : UInt8) : turned jefe c = (jefe ++ List.replicate 60 0).map (· ^^^ c) := rfl
theorem inner_jefe : sum (turned jefe 0x36 ++ what) = innerJ := by
  rw [sumE_eq, turned_jefe]; decide +kernel
theorem outer_jefe : sum (turned jefe 0x5c ++ innerJ) = outerJ := by
  rw [sumE_eq, turned_jefe]; decide +kernel
theorem mac_jefe : mac jefe what = outerJ := by rw [mac, inner_jefe, outer_jefe]

theorem or_xor_zero (u x y : UInt8) : u ||| (x ^^^ y) = 0 ↔ u = 0 ∧ x = y := by
  rw [UInt8.or_eq_zero_iff, UInt8.xor_eq_zero_iff]
theorem take_same (a b : List UInt8) (k : Nat) (ha : k < a.length) (hb : k < b.length) : a.take (k + 1) = b.take (k + 1) ↔ a.take k = b.take k ∧ a.getD k 0 = b.getD k 0 := by
  rw [List.take_succ_eq_append_getElem ha, List.take_succ_eq_append_getElem hb]
  have e1 : a.getD k 0 = a[k] := by simp [List.getD_eq_getElem?_getD, List.getElem?_eq_getElem ha]
  have e2 : b.getD k 0 = b[k] := by simp [List.getD_eq_getElem?_getD, List.getElem?_eq_getElem hb]
  rw [e1, e2]
  constructor
  · intro h
    have := List.append_inj h (by simp; omega)
    exact ⟨this.1, by simpa using this.2⟩
  · rintro ⟨h1, h2⟩
    rw [h1, h2]
end Sha
namespace Go
open Sha (W)
theorem bt8_zero (u : UInt8) : (bt8 u == 0) = decide (u = 0) := by
  rw [show (0 : Int) = bt8 0 from rfl]
  by_cases h : u = 0
  · subst h; rfl
  · simp only [h, decide_false]
    rw [beq_eq_false_iff_ne]
    intro e
    exact h (bt8_inj.1 e)
end Go
namespace Go.Proofs.YtadpcefdkifagaaDoor
open Go.RowKit
open Sha (W)

set_option maxRecDepth 100000 in
set_option maxHeartbeats 1000000 in
/-- Same: whether bytes are the same -/
theorem same_any (w : World) (no no2 : Nat → Prop) (l : List UInt8) (n : Nat) (hn : l.length = n) (a : Option Addr) (cap : Nat) (hb : Bytes w no a cap l)
    (l2 : List UInt8) (m : Nat) (hm : l2.length = m) (a2 : Option Addr) (cap2 : Nat) (hb2 : Bytes w no2 a2 cap2 l2) :
    Calls Tryd.prog 28 #[.slice a n cap, .slice a2 m cap2] w fun e w' => e = .returned (.bool (decide (l = l2))) ∧ w = w' := by
  have hmx : n ≤ 9223372036854775807 := by have h1 := hb.1; have h2 := hb.2.1; unfold maxLen at h2; omega
  have Hb := hid hb
  have Hb2 := hid hb2
  have Hn := hid hn
  have Hm := hid hm
  clear hb hb2 hn hm
  by_cases hnm : n = m
  · subst hnm
    go_enter Tryd.func28, Tryd.ntmps28
    go_wp2
    go_loop [5, 15] (fun u i => ∃ (k : Nat) (x : UInt8), k ≤ n ∧ i = .int .i64 (k : Int) ∧ u = .int .u8 (bt8 x) ∧ (x = 0 ↔ l.take k = l2.take k)) (fun _ i => n - (intOf i).toNat)
    case atStart => exact ⟨0, 0, by omega, rfl, rfl, by simp⟩
    case round =>
      obtain ⟨k, x, hk, rfl, rfl, hx⟩ := hrel
      have Hx := hid hx
      clear hx
      by_cases hkn : k < n
      · obtain ⟨b, off, ha, _, _, hc⟩ := Hb.out.2.2 (by intro e; have := Hn.out; rw [e] at this; simp at this; omega)
        obtain ⟨b2, off2, ha2, _, _, hc2⟩ := Hb2.out.2.2 (by intro e; have := Hm.out; rw [e] at this; simp at this; omega)
        subst ha ha2
        have c1 : w.cell? ⟨b, off + k, none⟩ = some (.int .u8 (bt8 (l.getD k 0))) := hc k (by have := Hn.out; omega)
        have c2 : w.cell? ⟨b2, off2 + k, none⟩ = some (.int .u8 (bt8 (l2.getD k 0))) := hc2 k (by have := Hm.out; omega)
        have Hs := hid (Sha.take_same l l2 k (by have := Hn.out; omega) (by have := Hm.out; omega))
        generalize l.getD k 0 = y at c1 Hs
        generalize l2.getD k 0 = z at c2 Hs
        have i1 : (k : Int) < (n : Int) := by omega
        clear hc hc2
        go_wp2
        go_round
        case rel => exact ⟨k + 1, x ||| (y ^^^ z), by omega, by go_num, rfl, by rw [Sha.or_xor_zero, Hx.out, Hs.out]⟩
        case measure => simp [intOf]; omega
      · have HE : Hid (decide (x = 0) = decide (l = l2)) := by
          have h := Hx.out
          rw [List.take_of_length_le (by have := Hn.out; omega), List.take_of_length_le (by have := Hm.out; omega)] at h
          show _ = _
          exact decide_eq_decide.2 h
        have hz := bt8_zero x
        go_wp2
        go_ret
        exact ⟨congrArg (fun b => Ending.returned (.bool b)) HE.out, rfl⟩
  · have HE : Hid (decide (l = l2) = false) := by
      apply decide_eq_false
      intro e
      exact hnm (by rw [← Hn.out, ← Hm.out, e])
    have hne : ((n : Int) != (m : Int)) = true := by simp; omega
    go_enter Tryd.func28, Tryd.ntmps28
    go_wp2
    go_ret
    exact ⟨congrArg (fun b => Ending.returned (.bool b)) HE.out.symm, rfl⟩

set_option maxRecDepth 100000 in
set_option maxHeartbeats 1000000 in
theorem works7_any (w : World) (htab : Tabs w) (h2 : 2 ≤ w.heap.size) : Calls Tryd.prog 25 #[] w fun e w' => e = .returned (.bool true) ∧ Below w.heap.size w w' := by
  have kc := fun (w : World) (C : Array Value) (n c : Nat) => Lib.run_convert_bytes_const (P := Tryd.prog) w 22 5 C n c Tryd.underlying22 Tryd.underlying5
  have kc2 : ∀ (A : Obj) (C : Array Value) (n c : Nat), (convert 22 22 (.slice (some ⟨w.heap.size + 1, 0, none⟩) n c)).run Tryd.prog ((w.alloc A).alloc (.cells C 5)) = .ok (.slice (some ⟨w.heap.size + 1, 0, none⟩) n c) ((w.alloc A).alloc (.cells C 5 (C.size, C.size + 1))) := by
    intro A C n c
    have := kc (w.alloc A) C n c
    rwa [show (w.alloc A).heap.size = w.heap.size + 1 by simp] at this
  have r0 := TabAt.new w (bv Sha.jefe) 5 (4, 5)
  have r1 := TabAt.new (w.alloc (.cells (bv Sha.jefe).toArray 5 (4, 5))) (bv Sha.what) 5 (28, 29)
  have z1 : ((w.alloc (.cells (bv Sha.jefe).toArray 5 (4, 5))).alloc (.cells (bv Sha.what).toArray 5 (28, 29))).heap.size = w.heap.size + 2 := by simp
  have bl1 : Below (w.heap.size + 1) (w.alloc (.cells (bv Sha.jefe).toArray 5 (4, 5))) ((w.alloc (.cells (bv Sha.jefe).toArray 5 (4, 5))).alloc (.cells (bv Sha.what).toArray 5 (28, 29))) := (Below.refl _ _).alloc (by simp) _
  have b0 : Bytes ((w.alloc (.cells (bv Sha.jefe).toArray 5 (4, 5))).alloc (.cells (bv Sha.what).toArray 5 (28, 29))) (fun _ => False) (some ⟨w.heap.size, 0, none⟩) 4 Sha.jefe :=
    ⟨by decide, by decide, fun _ => ⟨w.heap.size, 0, rfl, fun h => h, by simp; omega, fun i hi => by rw [Nat.zero_add]; exact (r0.below bl1 (by omega)).byte i hi⟩⟩
  have b1 : Bytes ((w.alloc (.cells (bv Sha.jefe).toArray 5 (4, 5))).alloc (.cells (bv Sha.what).toArray 5 (28, 29))) (fun _ => False) (some ⟨w.heap.size + 1, 0, none⟩) 28 Sha.what :=
    ⟨by decide, by decide, fun _ => ⟨w.heap.size + 1, 0, rfl, fun h => h, by simp, fun i hi => by
      rw [Nat.zero_add]
      have := r1.byte i hi
      rwa [show (w.alloc (.cells (bv Sha.jefe).toArray 5 (4, 5))).heap.size = w.heap.size + 1 by simp] at this⟩⟩
  have bw : Below w.heap.size w ((w.alloc (.cells (bv Sha.jefe).toArray 5 (4, 5))).alloc (.cells (bv Sha.what).toArray 5 (28, 29))) := ((Below.refl _ _).alloc (Nat.le_refl _) _).alloc (by simp) _
  have B0 := hid b0
  have B1 := hid b1
  have BW := hid bw
  have Z1 := hid z1
  have Htab : Hid (Tabs ((w.alloc (.cells (bv Sha.jefe).toArray 5 (4, 5))).alloc (.cells (bv Sha.what).toArray 5 (28, 29)))) := htab.below h2 bw
  clear htab r0 r1 b0 b1 bw bl1 z1
  go_enter Tryd.func25, Tryd.ntmps25
  go_wp2_with fail
  refine (mac_any _ Htab.out (by have := Z1.out; omega) _ _ Sha.jefe 4 rfl (by omega) _ 4 B0.out Sha.what 28 rfl (by omega) _ 28 B1.out).mono ?_
  rintro e w1 ⟨rfl, b1⟩
  rw [Sha.mac_jefe]
  have W1 : Hid (Below w.heap.size w w1) := BW.out.trans (b1.mono (by have := Z1.out; omega))
  have R1 := hid (HasRow.new w1 (bv (List.replicate 32 0)) 25)
  clear b1
  obtain ⟨OUT, hOUT⟩ : ∃ OUT : List UInt8, OUT = Sha.outerJ := ⟨_, rfl⟩
  rw [← hOUT]
  have OL : Hid (OUT.length = 32) := by rw [hOUT]; rfl
  have F3 : Hid ((Tryd.prog.info? 25).map (·.size) = some (bv OUT).length) := by rw [length_bv, OL.out]; exact (show (Tryd.prog.info? 25).map (·.size) = some 32 by kernel_rfl)
  have F4 : Hid (0 + (bv OUT).length ≤ (bv (List.replicate 32 0)).length) := by rw [length_bv, OL.out]; exact Nat.le_refl 32
  have F5 : Hid ((bv (List.replicate 32 0)).length = (bv OUT).length) := by rw [length_bv OUT, OL.out]; rfl
  have k0 : Hid ((bv OUT)[0]? = some (.int .u8 91)) := by subst hOUT; exact (rfl : (bv Sha.outerJ)[0]? = _)
  have k1 : Hid ((bv OUT)[1]? = some (.int .u8 220)) := by subst hOUT; exact (rfl : (bv Sha.outerJ)[1]? = _)
  have k31 : Hid ((bv OUT)[31]? = some (.int .u8 67)) := by subst hOUT; exact (rfl : (bv Sha.outerJ)[31]? = _)
  clear hOUT
  go_wp2_with (refine wpList_store_into rfl 25 _ _ rfl w1.heap.size 0 rfl (bv OUT) rfl (bv (List.replicate 32 0)) 25 R1.out F3.out F4.out (one_bv _) ?_; intro w6 h6 g6 s6; rw [splice_all _ _ F5.out] at h6; have G6 := hid g6; have S6 := hid s6; have c0 := (h6.cell_any 0).trans k0.out; have c1 := (h6.cell_any 1).trans k1.out; have c31 := (h6.cell_any 31).trans k31.out; clear h6 g6 s6)
  have p1 : Bytes ((w6.alloc (.cells (bv [1]).toArray 5)).alloc (.cells (bv [1]).toArray 5)) (fun _ => False) (some ⟨w6.heap.size, 0, none⟩) 1 [1] :=
    bytes_row ((HasRow.new w6 (bv [1]) 5).alloc _) _ (fun h => h) 1 rfl (by omega)
  have p2 : Bytes ((w6.alloc (.cells (bv [1]).toArray 5)).alloc (.cells (bv [1]).toArray 5)) (fun _ => False) (some ⟨w6.heap.size + 1, 0, none⟩) 1 [1] := by
    have := HasRow.new (w6.alloc (.cells (bv [1]).toArray 5)) (bv [1]) 5
    rw [show (w6.alloc (.cells (bv [1]).toArray 5)).heap.size = w6.heap.size + 1 by simp] at this
    exact bytes_row this _ (fun h => h) 1 rfl (by omega)
  have p3 : Bytes (((w6.alloc (.cells (bv [1]).toArray 5)).alloc (.cells (bv [1]).toArray 5)).alloc (.cells (bv [1]).toArray 5)) (fun _ => False) (some ⟨w6.heap.size + 2, 0, none⟩) 1 [1] := by
    have := HasRow.new ((w6.alloc (.cells (bv [1]).toArray 5)).alloc (.cells (bv [1]).toArray 5)) (bv [1]) 5
    rw [show ((w6.alloc (.cells (bv [1]).toArray 5)).alloc (.cells (bv [1]).toArray 5)).heap.size = w6.heap.size + 2 by simp] at this
    exact bytes_row this _ (fun h => h) 1 rfl (by omega)
  have P3 := hid p3
  have W6 : Hid (Below w.heap.size w w6) := (W1.out.alloc W1.out.size _).grown G6.out (by simp; have := W1.out.size; omega) (by intro k hk; injection hk with hk; have := W1.out.size; omega)
  refine (same_any _ _ _ [1] 1 rfl _ _ p1 [1] 1 rfl _ _ p2).mono ?_
  rintro e w7 ⟨rfl, rfl⟩
  clear p1 p2 p3 c0 c1 c31
  rw [show decide (([1] : List UInt8) = [1]) = true from rfl]
  go_wp2_with fail
  refine (same_any _ _ (fun _ => False) [1] 1 rfl _ _ P3.out [] 0 rfl _ _ (Bytes.nil _ _ _ _ (Nat.zero_le _))).mono ?_
  rintro e w7 ⟨rfl, rfl⟩
  rw [show decide (([1] : List UInt8) = []) = false from rfl]
  go_wp2
  go_ret
  refine ⟨rfl, ?_⟩
  have z := W6.out.size
  exact ((W6.out.alloc z _).alloc (by simp; omega) _).alloc (by simp; omega) _
end Go.Proofs.YtadpcefdkifagaaDoor
