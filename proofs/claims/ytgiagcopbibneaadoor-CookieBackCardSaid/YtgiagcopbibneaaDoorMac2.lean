/- mac.Same, and the anchor of the laws of layer 7. -/
import Derived.Test.YtgiagcopbibneaaDoorMac
namespace Sha
def jefe : List UInt8 := [74, 101, 102, 101]
def what : List UInt8 := [119, 104, 97, 116, 32, 100, 111, 32, 121, 97, 32, 119, 97, 110, 116, 32, 102, 111, 114, 32, 110, 111, 116, 104, 105, 110, 103, 63]
def innerJ : List UInt8 := [162, 228, 133, 134, 61, 39, 249, 216, 100, 172, 141, 128, 36, 50, 161, 237, 71, 125, 140, 76, 111, 52, 157, 22, 212, 231, 233, 23, 198, 41, 202, 215]
def outerJ : List UInt8 := [91, 220, 193, 70, 191, 96, 117, 78, 106, 4, 36, 38, 8, 149, 117, 199, 90, 0, 63, 8, 157, 39, 57, 131, 157, 236, 88, 185, 100, 236, 56, 67]
theorem turned_jefe (c : UInt8) : turned jefe c = (jefe ++ List.replicate 60 0).map (· ^^^ c) := rfl
theorem inner_jefe : sum (turned jefe 0x36 ++ what) = innerJ := by
  rw [sumE_eq, turned_jefe]; decide +kernel
theorem outer_jefe : sum (turned jefe 0x5c ++ innerJ) = outerJ := by
  rw [sumE_eq, turned_jefe]; decide +kernel
theorem mac_jefe : mac jefe what = outerJ := by rw [mac, inner_jefe, outer_jefe]

theorem or_xor_zero (u x y : UInt8) : u ||| (x ^^^ y) = 0 ↔ u = 0 ∧ x = y := by
  rw [UInt8.or_eq_zero_iff, UInt8.xor_eq_zero_iff]
theorem take_same (a b : List UInt8) (k : Nat) (ha : k < a.length) (hb : k < b.length) : a.take (k + 1) = b.take (k + 1) ↔ a.take k = b.take k ∧ a.getD k 0 = b.getD k 0 := by
  rw [List.take_succ_eq_append_getElem ha, List.take_succ_eq_append_getElem hb]
  have e1 : a.getD k 0 = a[k] := by simp [List.getD_eq_getElem?_getD, List.getElem?_eq_getElem ha]
  have e2 : b.getD k 0 = b[k] := by simp [List.getD_eq_getElem?_getD, List.getElem?_eq_getElem hb]
  rw [e1, e2]
  constructor
  · intro h
    have := List.append_inj h (by simp; omega)
    exact ⟨this.1, by simpa using this.2⟩
  · rintro ⟨h1, h2⟩
    rw [h1, h2]
end Sha
namespace Go
open Sha (W)
theorem bt8_zero (u : UInt8) : (bt8 u == 0) = decide (u = 0) := by
  rw [show (0 : Int) = bt8 0 from rfl]
  by_cases h : u = 0
  · subst h; rfl
  · simp only [h, decide_false]
    rw [beq_eq_false_iff_ne]
    intro e
    exact h (bt8_inj.1 e)
end Go
namespace Go.Proofs.YtgiagcopbibneaaDoor
open Go.RowKit
open Sha (W)

set_option maxRecDepth 100000 in
set_option maxHeartbeats 1000000 in
/-- Same: whether bytes are the same -/
theorem same_any (w : World) (no no2 : Nat → Prop) (l : List UInt8) (n : Nat) (hn : l.length = n) (a : Option Addr) (cap : Nat) (hb : Bytes w no a cap l)
    (l2 : List UInt8) (m : Nat) (hm : l2.length = m) (a2 : Option Addr) (cap2 : Nat) (hb2 : Bytes w no2 a2 cap2 l2) :
    Calls Tryd.prog 62 #[.slice a n cap, .slice a2 m cap2] w fun e w' => e = .returned (.bool (decide (l = l2))) ∧ w = w' := by
  have hmx : n ≤ 9223372036854775807 := by have h1 := hb.1; have h2 := hb.2.1; unfold maxLen at h2; omega
  have Hb := hid hb
  have Hb2 := hid hb2
  have Hn := hid hn
  have Hm := hid hm
  clear hb hb2 hn hm
  by_cases hnm : n = m
  · subst hnm
    go_enter Tryd.func62, Tryd.ntmps62
    go_wp2
    go_loop [5, 15] (fun u i => ∃ (k : Nat) (x : UInt8), k ≤ n ∧ i = .int .i64 (k : Int) ∧ u = .int .u8 (bt8 x) ∧ (x = 0 ↔ l.take k = l2.take k)) (fun _ i => n - (intOf i).toNat)
    case atStart => exact ⟨0, 0, by omega, rfl, rfl, by simp⟩
    case round =>
      obtain ⟨k, x, hk, rfl, rfl, hx⟩ := hrel
      have Hx := hid hx
      clear hx
      by_cases hkn : k < n
      · obtain ⟨b, off, ha, _, _, hc⟩ := Hb.out.2.2 (by intro e; have := Hn.out; rw [e] at this; simp at this; omega)
        obtain ⟨b2, off2, ha2, _, _, hc2⟩ := Hb2.out.2.2 (by intro e; have := Hm.out; rw [e] at this; simp at this; omega)
        subst ha ha2
        have c1 : w.cell? ⟨b, off + k, none⟩ = some (.int .u8 (bt8 (l.getD k 0))) := hc k (by have := Hn.out; omega)
        have c2 : w.cell? ⟨b2, off2 + k, none⟩ = some (.int .u8 (bt8 (l2.getD k 0))) := hc2 k (by have := Hm.out; omega)
        have Hs := hid (Sha.take_same l l2 k (by have := Hn.out; omega) (by have := Hm.out; omega))
        generalize l.getD k 0 = y at c1 Hs
        generalize l2.getD k 0 = z at c2 Hs
        have i1 : (k : Int) < (n : Int) := by omega
        clear hc hc2
        go_wp2
        go_round
        case rel => exact ⟨k + 1, x ||| (y ^^^ z), by omega, by go_num, rfl, by rw [Sha.or_xor_zero, Hx.out, Hs.out]⟩
        case measure => simp [intOf]; omega
      · have HE : Hid (decide (x = 0) = decide (l = l2)) := by
          have h := Hx.out
          rw [List.take_of_length_le (by have := Hn.out; omega), List.take_of_length_le (by have := Hm.out; omega)] at h
          show _ = _
          exact decide_eq_decide.2 h
        have hz := bt8_zero x
        go_wp2
        go_ret
        exact ⟨congrArg (fun b => Ending.returned (.bool b)) HE.out, rfl⟩
  · have HE : Hid (decide (l = l2) = false) := by
      apply decide_eq_false
      intro e
      exact hnm (by rw [← Hn.out, ← Hm.out, e])
    have hne : ((n : Int) != (m : Int)) = true := by simp; omega
    go_enter Tryd.func62, Tryd.ntmps62
    go_wp2
    go_ret
    exact ⟨congrArg (fun b => Ending.returned (.bool b)) HE.out.symm, rfl⟩
end Go.Proofs.YtgiagcopbibneaaDoor
