/- The anchor of the laws of layer 6: the sum that everybody knows. -/
import Derived.Test.YtadpcefdkifagaaDoorStSum
import Derived.Test.YtadpcefdkifagaaDoorLaws3
import Derived.Test.YtadpcefdkifagaaDoorShaEval
namespace Go.Proofs.YtadpcefdkifagaaDoor
open Go.RowKit
open Sha (W)

theorem eq32 (l : List UInt8) (h : l.length = 32) (w : World) : (binOp .eql 25 (.agg (bv l).toArray) (.agg (bv l).toArray)).run Tryd.prog w = .ok (.bool true) w :=
  run_eql_arr 25 5 32 .u8 Tryd.underlying25 Tryd.underlying5 (by kernel_rfl) _ (bv_ints l 32 h) w
theorem ne32 (l : List UInt8) (h : l.length = 32) (w : World) : (binOp .neq 25 (.agg (bv l).toArray) (.agg (bv l).toArray)).run Tryd.prog w = .ok (.bool false) w :=
  run_neq_arr 25 5 32 .u8 Tryd.underlying25 Tryd.underlying5 (by kernel_rfl) _ (bv_ints l 32 h) w

set_option maxRecDepth 100000 in
set_option maxHeartbeats 1000000 in
theorem works6_any (w : World) (htab : Tabs w) (h2 : 2 ≤ w.heap.size) : Calls Tryd.prog 15 #[] w fun e w' => e = .returned (.bool true) ∧ Below w.heap.size w w' := by
  have kc := fun (w : World) (C : Array Value) (n c : Nat) => Lib.run_convert_bytes_const (P := Tryd.prog) w 22 5 C n c Tryd.underlying22 Tryd.underlying5
  have r0 := TabAt.new w (bv [97, 98, 99]) 5 (3, 4)
  have b0 : Bytes (w.alloc (.cells (bv [97, 98, 99]).toArray 5 (3, 4))) (fun _ => False) (some ⟨w.heap.size, 0, none⟩) 3 [97, 98, 99] :=
    ⟨by decide, by decide, fun _ => ⟨w.heap.size, 0, rfl, fun h => h, by simp, fun i hi => by rw [Nat.zero_add]; exact r0.byte i hi⟩⟩
  have B0 := hid b0
  have Htab : Hid (Tabs (w.alloc (.cells (bv [97, 98, 99]).toArray 5 (3, 4)))) := htab.below h2 ((Below.refl _ _).alloc (Nat.le_refl _) _)
  clear htab r0 b0
  go_enter Tryd.func15, Tryd.ntmps15
  go_wp2_with fail
  refine (sum_any [97, 98, 99] _ 3 _ _ B0.out Htab.out (by simp; omega) (by decide)).mono ?_
  rintro e w1 ⟨rfl, b1⟩
  rw [Sha.sum_abc]
  have B1 : Hid (Below (w.heap.size + 1) (w.alloc (.cells (bv [97, 98, 99]).toArray 5 (3, 4))) w1) := hid (b1.mono (by simp))
  have Z1 : Hid (w.heap.size + 1 ≤ w1.heap.size) := hid (by have := b1.size; simpa using this)
  have R1 := hid (HasRow.new w1 (bv (List.replicate 32 0)) 25)
  clear b1
  obtain ⟨OUT, hOUT⟩ : ∃ OUT : List UInt8, OUT = [0xba, 0x78, 0x16, 0xbf, 0x8f, 0x01, 0xcf, 0xea, 0x41, 0x41, 0x40, 0xde, 0x5d, 0xae, 0x22, 0x23, 0xb0, 0x03, 0x61, 0xa3, 0x96, 0x17, 0x7a, 0x9c, 0xb4, 0x10, 0xff, 0x61, 0xf2, 0x00, 0x15, 0xad] := ⟨_, rfl⟩
  rw [← hOUT]
  have OL : Hid (OUT.length = 32) := by rw [hOUT]; rfl
  have F3 : Hid ((Tryd.prog.info? 25).map (·.size) = some (bv OUT).length) := by rw [length_bv, OL.out]; exact (show (Tryd.prog.info? 25).map (·.size) = some 32 by kernel_rfl)
  have F4 : Hid (0 + (bv OUT).length ≤ (bv (List.replicate 32 0)).length) := by rw [length_bv, OL.out]; exact Nat.le_refl 32
  have F5 : Hid ((bv (List.replicate 32 0)).length = (bv OUT).length) := by rw [length_bv OUT, OL.out]; rfl
  have k0 : Hid ((bv OUT)[0]? = some (.int .u8 186)) := by subst hOUT; exact (rfl : (bv [0xba, 0x78, 0x16, 0xbf, 0x8f, 0x01, 0xcf, 0xea, 0x41, 0x41, 0x40, 0xde, 0x5d, 0xae, 0x22, 0x23, 0xb0, 0x03, 0x61, 0xa3, 0x96, 0x17, 0x7a, 0x9c, 0xb4, 0x10, 0xff, 0x61, 0xf2, 0x00, 0x15, 0xad])[0]? = _)
  have k1 : Hid ((bv OUT)[1]? = some (.int .u8 120)) := by subst hOUT; exact (rfl : (bv [0xba, 0x78, 0x16, 0xbf, 0x8f, 0x01, 0xcf, 0xea, 0x41, 0x41, 0x40, 0xde, 0x5d, 0xae, 0x22, 0x23, 0xb0, 0x03, 0x61, 0xa3, 0x96, 0x17, 0x7a, 0x9c, 0xb4, 0x10, 0xff, 0x61, 0xf2, 0x00, 0x15, 0xad])[1]? = _)
  have k31 : Hid ((bv OUT)[31]? = some (.int .u8 173)) := by subst hOUT; exact (rfl : (bv [0xba, 0x78, 0x16, 0xbf, 0x8f, 0x01, 0xcf, 0xea, 0x41, 0x41, 0x40, 0xde, 0x5d, 0xae, 0x22, 0x23, 0xb0, 0x03, 0x61, 0xa3, 0x96, 0x17, 0x7a, 0x9c, 0xb4, 0x10, 0xff, 0x61, 0xf2, 0x00, 0x15, 0xad])[31]? = _)
  clear hOUT
  go_wp2_with (refine wpList_store_into rfl 25 _ _ rfl w1.heap.size 0 rfl (bv OUT) rfl (bv (List.replicate 32 0)) 25 R1.out F3.out F4.out (one_bv _) ?_; intro w6 h6 g6 s6; rw [splice_all _ _ F5.out] at h6; have G6 := hid g6; have c0 := (h6.cell_any 0).trans k0.out; have c1 := (h6.cell_any 1).trans k1.out; have c31 := (h6.cell_any 31).trans k31.out; clear h6 g6 s6)
  go_ret
  refine ⟨rfl, ?_⟩
  have e1 : Below w.heap.size w w1 := ((Below.refl _ _).alloc (Nat.le_refl _) _).trans (B1.out.mono (by omega))
  exact (e1.alloc (by have := Z1.out; omega) _).grown G6.out (by simp; have := Z1.out; omega) (by intro k hk; injection hk with hk; have := Z1.out; omega)
end Go.Proofs.YtadpcefdkifagaaDoor
