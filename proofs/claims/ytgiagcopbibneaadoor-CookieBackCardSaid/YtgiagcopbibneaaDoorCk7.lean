/- Contracts of the reference's Derive and of the anchor of layer 11. -/
import Derived.Test.YtgiagcopbibneaaDoorCk6
namespace Num
theorem Ck.take_bytes (key : List UInt8) (c : Ck) : (c.bytes key).take 32 = c.body := by
  rw [Ck.bytes, List.take_append_of_le_length (by rw [Ck.length_body]; exact Nat.le_refl 32), List.take_of_length_le (by rw [Ck.length_body]; exact Nat.le_refl 32)]
theorem Ck.drop_bytes (key : List UInt8) (c : Ck) : (c.bytes key).drop 32 = Sha.mac key c.body := by
  rw [Ck.bytes, List.drop_append, List.drop_of_length_le (by rw [Ck.length_body]; exact Nat.le_refl 32), List.nil_append, Ck.length_body, Nat.sub_self, List.drop_zero]
theorem Ck.read_bytes (key : List UInt8) (c : Ck) (h : c.Ok) : Ck.read key (c.bytes key) = if c.may then (c, 0) else (Ck.none, 7) := by
  rw [Ck.read, if_pos (Ck.length_bytes key c), Ck.take_bytes, Ck.drop_bytes, if_pos rfl, Ck.parse_body c h]
def Ck.c0 : Ck := ⟨5, 1, 2, 3, 4, 6, 7, 8⟩
theorem Ck.c0_ok : Ck.c0.Ok := ⟨by decide, by decide, by decide, by decide, by decide, by decide, by decide, by decide, by decide⟩
theorem Ck.c0_read (key : List UInt8) : Ck.read key (Ck.c0.bytes key) = (Ck.c0, 0) := by rw [Ck.read_bytes key Ck.c0 Ck.c0_ok]; rfl
theorem Ck.c0_7 (key : List UInt8) : (Ck.c0.bytes key).getD 7 0 = 5 := by
  rw [Ck.bytes, List.getD_eq_getElem?_getD, List.getElem?_append_left (by rw [Ck.length_body]; omega)]; rfl
theorem Ck.c0_31 (key : List UInt8) : (Ck.c0.bytes key).getD 31 0 = 8 := by
  rw [Ck.bytes, List.getD_eq_getElem?_getD, List.getElem?_append_left (by rw [Ck.length_body]; omega)]; rfl
end Num
namespace Go.Proofs.YtgiagcopbibneaaDoor
open Go.RowKit
open Sha (W)
open Num (Ck)

set_option maxRecDepth 100000 in
set_option maxHeartbeats 2000000 in
theorem refderive_any (w : World) (no1 no2 : Nat → Prop) (l : List UInt8) (n : Nat) (hn : l.length = n) (hmost : n < 1000000) (a : Option Addr) (cap : Nat) (hb : Bytes w no1 a cap l)
    (t : List UInt8) (m : Nat) (hm : t.length = m) (hmost2 : m < 1000000) (a2 : Option Addr) (cap2 : Nat) (hb2 : Bytes w no2 a2 cap2 t) :
    Calls Tryd.prog 39 #[.slice a n cap, .slice a2 m cap2] w fun e w' => e = .returned (.tuple #[.int .u32 (Num.tag l t : Int), .int .u32 (Num.tsn l t : Int)]) ∧ Below w.heap.size w w' := by
  have K := hid (refmac_any w no1 no2 l n hn hmost a cap hb t m hm hmost2 a2 cap2 hb2)
  obtain ⟨S1, hS1⟩ : ∃ S1, S1 = Sha.mac l t := ⟨_, rfl⟩
  rw [← hS1] at K
  have L1 : Hid (S1.length = 32) := by rw [hS1]; exact Sha.length_mac _ _
  obtain ⟨x, hx⟩ : ∃ x, x = Num.number S1 0 4 := ⟨_, rfl⟩
  obtain ⟨y, hy⟩ : ∃ y, y = Num.number S1 4 4 := ⟨_, rfl⟩
  have xl : x < 4294967296 := by rw [hx]; exact Num.number_lt S1 0 4
  have yl : y < 4294967296 := by rw [hy]; exact Num.number_lt S1 4 4
  have T1 : Num.tag l t = max x 1 := by rw [hx, hS1]; rfl
  have T2 : Num.tsn l t = y := by rw [hy, hS1]; rfl
  rw [T1, T2]
  have Hx := hid hx
  have Hy := hid hy
  have e1 : IntKind.u32.wrap (x : Int) = (x : Int) := by rw [IntKind.wrap_u32']; omega
  have e2 : IntKind.u32.wrap (y : Int) = (y : Int) := by rw [IntKind.wrap_u32']; omega
  have F3 : Hid ((Tryd.prog.info? 106).map (·.size) = some (bv S1).length) := by rw [length_bv, L1.out]; exact (show (Tryd.prog.info? 106).map (·.size) = some 32 by kernel_rfl)
  have F4 : Hid (0 + (bv S1).length ≤ (bv (List.replicate 32 0)).length) := by rw [length_bv, L1.out]; exact Nat.le_refl 32
  have F5 : Hid ((bv (List.replicate 32 0)).length = (bv S1).length) := by rw [length_bv S1, L1.out]; rfl
  clear hb hb2 hn hm hS1 hx hy T1 T2
  by_cases h0 : x = 0
  · subst h0
    go_enter Tryd.func39, Tryd.ntmps39
    go_wp2_with fail
    refine K.out.mono ?_
    rintro e w10 ⟨rfl, b10⟩
    have B10 := hid b10
    have N3 := hid (HasRow.new w10 (bv (List.replicate 32 0)) 106)
    clear b10
    go_wp2_with (refine wpList_store_into rfl 106 _ _ rfl w10.heap.size 0 rfl (bv S1) rfl (bv (List.replicate 32 0)) 106 N3.out F3.out F4.out (one_bv _) ?_; intro w11 h4 g4 s4; rw [splice_all _ _ F5.out] at h4; have H11 := hid h4; have G11 := hid g4; clear h4 g4 s4)
    have B11 : Hid (Below w.heap.size w w11) := (B10.out.alloc B10.out.size _).grown G11.out (by simp; have := B10.out.size; omega) (by intro k hk; injection hk with hk; have := B10.out.size; omega)
    have BY := hid (bytes_row H11.out (fun _ => False) (fun h => h) 32 L1.out (by omega))
    refine (refnumber_any w11 (fun _ => False) S1 32 L1.out (by omega) (some ⟨w10.heap.size, 0, none⟩) 32 BY.out 0 4 0 4 rfl rfl (by omega) (by omega)).mono ?_
    rintro e w12 ⟨rfl, b12⟩
    rw [← Hx.out]
    have B12 := hid b12
    clear b12
    go_wp2_with fail
    refine (refnumber_any w12 (fun _ => False) S1 32 L1.out (by omega) (some ⟨w10.heap.size, 0, none⟩) 32 (BY.out.below_of B12.out) 4 4 4 4 rfl rfl (by omega) (by omega)).mono ?_
    rintro e w13 ⟨rfl, b13⟩
    rw [← Hy.out]
    have B13 := hid b13
    clear b13
    go_wp2
    go_ret2
    exact ⟨rfl, B11.out.trans ((B12.out.mono B11.out.size).trans (B13.out.mono (by have := B11.out.size; have := B12.out.size; omega)))⟩
  · have hne : ((x : Int) == 0) = false := by simp; omega
    have x1 : max x 1 = x := Nat.max_eq_left (by omega)
    rw [x1]
    clear h0 x1
    go_enter Tryd.func39, Tryd.ntmps39
    go_wp2_with fail
    refine K.out.mono ?_
    rintro e w10 ⟨rfl, b10⟩
    have B10 := hid b10
    have N3 := hid (HasRow.new w10 (bv (List.replicate 32 0)) 106)
    clear b10
    go_wp2_with (refine wpList_store_into rfl 106 _ _ rfl w10.heap.size 0 rfl (bv S1) rfl (bv (List.replicate 32 0)) 106 N3.out F3.out F4.out (one_bv _) ?_; intro w11 h4 g4 s4; rw [splice_all _ _ F5.out] at h4; have H11 := hid h4; have G11 := hid g4; clear h4 g4 s4)
    have B11 : Hid (Below w.heap.size w w11) := (B10.out.alloc B10.out.size _).grown G11.out (by simp; have := B10.out.size; omega) (by intro k hk; injection hk with hk; have := B10.out.size; omega)
    have BY := hid (bytes_row H11.out (fun _ => False) (fun h => h) 32 L1.out (by omega))
    refine (refnumber_any w11 (fun _ => False) S1 32 L1.out (by omega) (some ⟨w10.heap.size, 0, none⟩) 32 BY.out 0 4 0 4 rfl rfl (by omega) (by omega)).mono ?_
    rintro e w12 ⟨rfl, b12⟩
    rw [← Hx.out]
    have B12 := hid b12
    clear b12
    go_wp2_with fail
    refine (refnumber_any w12 (fun _ => False) S1 32 L1.out (by omega) (some ⟨w10.heap.size, 0, none⟩) 32 (BY.out.below_of B12.out) 4 4 4 4 rfl rfl (by omega) (by omega)).mono ?_
    rintro e w13 ⟨rfl, b13⟩
    rw [← Hy.out]
    have B13 := hid b13
    clear b13
    go_wp2
    go_ret2
    exact ⟨rfl, B11.out.trans ((B12.out.mono B11.out.size).trans (B13.out.mono (by have := B11.out.size; have := B12.out.size; omega)))⟩

theorem eql_ck (c : Ck) (w : World) : (binOp .eql 66 (.agg (ckCells c).toArray) (.agg (ckCells c).toArray)).run Tryd.prog w = .ok (.bool true) w := by
  simp only [ckCells]
  go_simp

theorem cell_of_bytes {w : World} {no : Nat → Prop} {b off cap : Nat} {l : List UInt8} (h : Bytes w no (some ⟨b, off, none⟩) cap l) (i : Nat) (x : UInt8) (hi : i < l.length) (hx : l.getD i 0 = x) : w.cell? ⟨b, off + i, none⟩ = some (.int .u8 (bt8 x)) := by
  obtain ⟨b', off', hab, _, _, hc⟩ := h.2.2 (by intro e; rw [e] at hi; simp at hi)
  injection hab with hab
  injection hab with h1 h2
  subst h1 h2
  rw [hc i hi, hx]
theorem cells8 {w : World} {g : Nat} {T : TypeId} (h : HasRow w g (ckCells Ck.c0) T) : w.cell? ⟨g, 0, none⟩ = some (.int .i64 5) ∧ w.cell? ⟨g, 1, none⟩ = some (.int .u32 1) ∧ w.cell? ⟨g, 2, none⟩ = some (.int .u32 2) ∧ w.cell? ⟨g, 3, none⟩ = some (.int .u32 3) ∧ w.cell? ⟨g, 4, none⟩ = some (.int .u32 4) ∧ w.cell? ⟨g, 5, none⟩ = some (.int .u32 6) ∧ w.cell? ⟨g, 6, none⟩ = some (.int .u16 7) ∧ w.cell? ⟨g, 7, none⟩ = some (.int .u16 8) :=
  ⟨h.cell_any 0, h.cell_any 1, h.cell_any 2, h.cell_any 3, h.cell_any 4, h.cell_any 5, h.cell_any 6, h.cell_any 7⟩
theorem kbytes (w : World) : Bytes (w.alloc (.cells (bv [107]).toArray 5 (1, 2))) (fun _ => False) (some ⟨w.heap.size, 0, none⟩) 1 [107] :=
  ⟨Nat.le_refl 1, by decide, fun _ => ⟨w.heap.size, 0, rfl, fun h => h, by simp, fun i hi => by rw [Nat.zero_add]; exact (TabAt.new w (bv [107]) 5 (1, 2)).byte i hi⟩⟩

set_option maxRecDepth 100000 in
set_option maxHeartbeats 2000000 in
theorem works11_any (w : World) (htab : Tabs w) (h2 : 2 ≤ w.heap.size) : Calls Tryd.prog 29 #[] w fun e w' => e = .returned (.bool true) ∧ Below w.heap.size w w' := by
  have kc := fun (w : World) (C : Array Value) (n c : Nat) => Lib.run_convert_bytes_const (P := Tryd.prog) w 29 5 C n c Tryd.underlying29 Tryd.underlying5
  obtain ⟨wa, hwa⟩ : ∃ wa, wa = w.alloc (.cells (ckCells Ck.c0).toArray 66) := ⟨_, rfl⟩
  have ba : Below w.heap.size w wa := by rw [hwa]; exact (Below.refl _ _).alloc (Nat.le_refl _) _
  have sa : wa.heap.size = w.heap.size + 1 := by rw [hwa]; simp
  have ra : HasRow wa w.heap.size (ckCells Ck.c0) 66 := by rw [hwa]; exact HasRow.new _ _ _
  have I1 : Hid (∀ c : Ck, (Tryd.prog.info? 66).map (·.size) = some (ckCells c).length) := fun c => (show (Tryd.prog.info? 66).map (·.size) = some 8 by kernel_rfl)
  have Htab := hid htab
  have Ba := hid ba
  have Sa := hid sa
  have Ra := hid ra
  have b0 : Below w.heap.size w (wa.alloc (.cells (bv [107]).toArray 5 (1, 2))) := ba.alloc ba.size _
  have B0 := hid b0
  have T0 : Hid (TabAt (wa.alloc (.cells (bv [107]).toArray 5 (1, 2))) w.heap.size (ckCells Ck.c0)) := (ra.alloc _).tab
  have hww : w.alloc (.cells #[.int .i64 5, .int .u32 1, .int .u32 2, .int .u32 3, .int .u32 4, .int .u32 6, .int .u16 7, .int .u16 8] 66) = wa := hwa.symm
  clear htab ba sa ra b0 hwa
  go_enter Tryd.func29, Tryd.ntmps29
  go_wp2_with (refine wpList_load_part rfl 66 _ rfl w.heap.size 0 8 rfl (ckCells Ck.c0) _ T0.out Tryd.underlying66 rfl (I1.out Ck.c0) (Nat.le_refl 8) (ckCells Ck.c0) rfl ?_)
  refine (write_ck_any (wa.alloc (.cells (bv [107]).toArray 5 (1, 2))) (Htab.out.below h2 B0.out) (by have := B0.out.size; omega) _ [107] 1 rfl (by omega) _ 1 (kbytes wa) Ck.c0 Ck.c0_ok).mono ?_
  rintro e w2 ⟨v2, rfl, ow2, b2⟩
  rw [Ck.length_bytes] at ow2
  obtain ⟨a2, c2, hv2, hb2, _⟩ := own_open ow2 (fun _ => False) (fun _ _ h => h)
  subst hv2
  obtain ⟨ba2, off2, hab2, _, _, hc2⟩ := hb2.2.2 (by intro e; have := Ck.length_bytes [107] Ck.c0; rw [e] at this; simp at this)
  subst hab2
  have c64 : 64 ≤ c2 ∧ c2 ≤ 9223372036854775807 := by have h1 := hb2.1; have h2 := hb2.2.1; rw [Ck.length_bytes] at h1; unfold maxLen at h2; omega
  have Hb2 := hid hb2
  have B2 : Hid (Below w.heap.size w w2) := B0.out.trans (b2.mono B0.out.size)
  have R2 : Hid (HasRow w2 w.heap.size (ckCells Ck.c0) 66) := (Ra.out.alloc (.cells (bv [107]).toArray 5 (1, 2))).below b2 (by simp; have := Sa.out; omega)
  have B3 : Hid (Below w.heap.size w (w2.alloc (.cells (bv [107]).toArray 5 (1, 2)))) := B2.out.alloc B2.out.size _
  clear ow2 b2 hb2 hc2 hww
  go_wp2_with fail
  refine (twin_any (w2.alloc (.cells (bv [107]).toArray 5 (1, 2))) _ (Ck.c0.bytes [107]) 64 (Ck.length_bytes _ _) (by omega) (some ⟨ba2, off2, none⟩) c2 (Hb2.out.below_of ((Below.refl _ _).alloc (Nat.le_refl _) _))).mono ?_
  rintro e w3 ⟨v3, rfl, ow3, b3⟩
  rw [Ck.length_bytes] at ow3
  obtain ⟨a3, c3, hv3, hb3, _⟩ := own_open ow3 (fun _ => False) (fun _ _ h => h)
  subst hv3
  have Hb3 := hid hb3
  have K3 : Hid (Bytes w3 (fun _ => False) (some ⟨w2.heap.size, 0, none⟩) 1 [107]) := (kbytes w2).below_of b3
  have B3' : Hid (Below w.heap.size w w3) := B3.out.trans (b3.mono B3.out.size)
  have R3 : Hid (HasRow w3 w.heap.size (ckCells Ck.c0) 66) := (R2.out.alloc (.cells (bv [107]).toArray 5 (1, 2))).below b3 (by have := R2.out.lt; simp; omega)
  have Hb23 : Hid (Bytes w3 (fun _ => False) (some ⟨ba2, off2, none⟩) c2 (Ck.c0.bytes [107])) := (Hb2.out.below_of ((Below.refl _ _).alloc (Nat.le_refl _) _)).below_of b3
  clear ow3 b3 hb3
  go_wp2_with fail
  have k4 := read_ck_any w3 (Htab.out.below h2 B3'.out) (by have := B3'.out.size; omega) _ [107] 1 rfl (by omega) _ 1 K3.out (Ck.c0.bytes [107]) 64 (Ck.length_bytes _ _) a3 c3 Hb3.out
  rw [Ck.c0_read] at k4
  refine k4.mono ?_
  clear k4
  rintro e w4 ⟨rfl, b4⟩
  have B4 : Hid (Below w.heap.size w w4) := B3'.out.trans (b4.mono B3'.out.size)
  have R4 : Hid (HasRow w4 w.heap.size (ckCells Ck.c0) 66) := R3.out.below b4 R3.out.lt
  have Hb24 : Hid (Bytes w4 (fun _ => False) (some ⟨ba2, off2, none⟩) c2 (Ck.c0.bytes [107])) := Hb23.out.below_of b4
  have N4 := hid (HasRow.new w4 (ckCells Ck.none) 66)
  clear b4
  go_wp2_with (refine wpList_store_into rfl 66 _ _ rfl w4.heap.size 0 rfl (ckCells Ck.c0) rfl (ckCells Ck.none) 66 N4.out (I1.out _) (Nat.le_refl 8) (one_ck _) ?_; intro w5 h6 g6 s6; rw [splice_all (ckCells Ck.none) (ckCells Ck.c0) rfl] at h6; have H5 := hid h6; have G5 := hid g6; clear h6 g6 s6)
  have B5 : Hid (Below w.heap.size w w5) := (B4.out.alloc B4.out.size _).grown G5.out (by simp; have := B4.out.size; omega) (by intro k hk; injection hk with hk; have := B4.out.size; omega)
  have B45 : Hid (Below w4.heap.size w4 w5) := ((Below.refl _ w4).alloc (Nat.le_refl _) _).grown G5.out (by simp) (by intro k hk; injection hk with hk; omega)
  have R5 : Hid (HasRow w5 w.heap.size (ckCells Ck.c0) 66) := R4.out.below B45.out R4.out.lt
  have B6 : Hid (Below w.heap.size w (w5.alloc (.cells (bv [107]).toArray 5 (1, 2)))) := B5.out.alloc B5.out.size _
  have k6 := read_ck_any (w5.alloc (.cells (bv [107]).toArray 5 (1, 2))) (Htab.out.below h2 B6.out) (by have := B6.out.size; omega) _ [107] 1 rfl (by omega) _ 1 (kbytes w5) [] 0 rfl none 0 (Bytes.nil _ _ _ _ (Nat.zero_le _))
  rw [show Ck.read [107] [] = (Ck.none, 7) from rfl] at k6
  refine k6.mono ?_
  clear k6
  rintro e w7 ⟨rfl, b7⟩
  have B57 : Hid (Below w5.heap.size w5 w7) := ((Below.refl _ w5).alloc (Nat.le_refl _) _).trans (b7.mono (by simp))
  have B7 : Hid (Below w.heap.size w w7) := B5.out.trans (B57.out.mono B5.out.size)
  have N7 := hid (HasRow.new w7 (ckCells Ck.none) 66)
  clear b7 kc
  go_wp2_with (refine wpList_store_into rfl 66 _ _ rfl w7.heap.size 0 rfl (ckCells Ck.none) rfl (ckCells Ck.none) 66 N7.out (I1.out _) (Nat.le_refl 8) (one_ck _) ?_; intro w8 h6 g6 s6; have G8 := hid g6; have B78 : Hid (Below w7.heap.size w7 w8) := ((Below.refl _ w7).alloc (Nat.le_refl _) _).grown g6 (by simp) (by intro k hk; injection hk with hk; omega); have B58 : Hid (Below w5.heap.size w5 w8) := B57.out.trans (B78.out.mono B57.out.size); have y8 := ((Hb24.out.below_of B45.out).below_of B58.out); have x7 : w8.cell? ⟨ba2, off2 + 7, none⟩ = some (.int .u8 5) := cell_of_bytes y8 7 5 (by rw [Ck.length_bytes]; omega) (Ck.c0_7 _); have x31 : w8.cell? ⟨ba2, off2 + 31, none⟩ = some (.int .u8 8) := cell_of_bytes y8 31 8 (by rw [Ck.length_bytes]; omega) (Ck.c0_31 _); have R38 : Hid (HasRow w8 w4.heap.size (ckCells Ck.c0) 66) := H5.out.below B58.out H5.out.lt; have R18 : Hid (HasRow w8 w.heap.size (ckCells Ck.c0) 66) := R5.out.below B58.out R5.out.lt; obtain ⟨a0, a1, a2, a3', a4, a5, a6, a7⟩ := cells8 R38.out; obtain ⟨b0, b1, b2, b3, b4, b5, b6, b7⟩ := cells8 R18.out; clear h6 g6 s6 y8)
  have B8 : Hid (Below w.heap.size w w8) := B7.out.trans (B78.out.mono B7.out.size)
  have f1 := fresh_any w8 Ck.c0 Ck.c0_ok 5 0 ⟨by decide, by decide⟩ ⟨by decide, by decide⟩
  rw [show Num.fresh Ck.c0.born 5 0 = true from rfl] at f1
  refine f1.mono ?_
  clear f1 a0 a1 a2 a3' a4 a5 a6 a7 b0 b1 b2 b3 b4 b5 b6 b7 x7 x31
  rintro e w9 ⟨rfl, b9⟩
  have B9 : Hid (Below w.heap.size w w9) := B8.out.trans (b9.mono B8.out.size)
  obtain ⟨b0, b1, b2, b3, b4, b5, b6, b7⟩ := cells8 (R18.out.below b9 R18.out.lt)
  clear b9
  go_wp2_with fail
  have f1 := fresh_any w9 Ck.c0 Ck.c0_ok 6 0 ⟨by decide, by decide⟩ ⟨by decide, by decide⟩
  rw [show Num.fresh Ck.c0.born 6 0 = false from rfl] at f1
  refine f1.mono ?_
  clear f1 b0 b1 b2 b3 b4 b5 b6 b7
  rintro e w10 ⟨rfl, b10⟩
  have B10 := hid b10
  clear b10
  go_wp2
  go_ret
  exact ⟨rfl, B9.out.trans (B10.out.mono B9.out.size)⟩
end Go.Proofs.YtgiagcopbibneaaDoor
