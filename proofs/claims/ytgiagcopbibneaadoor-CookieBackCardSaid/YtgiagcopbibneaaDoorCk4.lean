/- Contract of cookie.Read. -/
import Derived.Test.YtgiagcopbibneaaDoorCk3
import Derived.RegionTactic
namespace Num
/-- the cookie read so far: the k first of five numbers -/
def Ck.part (b : List UInt8) (k : Nat) : Ck :=
  ⟨i64 (number b 0 8), if 0 < k then number b 8 4 else 0, if 1 < k then number b 12 4 else 0, if 2 < k then number b 16 4 else 0, if 3 < k then number b 20 4 else 0, if 4 < k then number b 24 4 else 0, 0, 0⟩
end Num
namespace Go.Proofs.YtgiagcopbibneaaDoor
open Go.RowKit
open Sha (W)
open Num (Ck)

theorem part_next (b : List UInt8) (k : Nat) (hk : k < 5) : (ckCells (Ck.part b k)).set (1 + k) (.int .u32 ((Num.number b (8 + 4 * k) 4 : Nat) : Int)) = ckCells (Ck.part b (k + 1)) := by
  match k, hk with
  | 0, _ => rfl
  | 1, _ => rfl
  | 2, _ => rfl
  | 3, _ => rfl
  | 4, _ => rfl
theorem part_done (b : List UInt8) : ((ckCells (Ck.part b 5)).set 6 (.int .u16 ((Num.number b 28 2 : Nat) : Int))).set 7 (.int .u16 ((Num.number b 30 2 : Nat) : Int)) = ckCells (Ck.parse b) := rfl
theorem length_ck (c : Ck) : (ckCells c).length = 8 := rfl
theorem one_ck (c : Ck) : ∀ v ∈ ckCells c, v.oneCell' = true := by
  intro v hv
  simp only [ckCells, List.mem_cons, List.not_mem_nil, or_false] at hv
  rcases hv with rfl | rfl | rfl | rfl | rfl | rfl | rfl | rfl <;> rfl
theorem wrap_u16 (x : Nat) (h : x < 65536) : IntKind.u16.wrap (x : Int) = (x : Int) := by
  rw [IntKind.wrap_u16]; omega
theorem wrap_i64 (x : Nat) (h : x < 18446744073709551616) : IntKind.i64.wrap (x : Int) = Num.i64 x := by
  unfold Num.i64
  rw [IntKind.wrap_i64]
  split <;> omega

def ptrs (g : Nat) : List Value := [.pointer (some ⟨g, 1, none⟩), .pointer (some ⟨g, 2, none⟩), .pointer (some ⟨g, 3, none⟩), .pointer (some ⟨g, 4, none⟩), .pointer (some ⟨g, 5, none⟩)]
theorem ptrs_at (g k : Nat) (hk : k < 5) : (ptrs g)[k]? = some (.pointer (some ⟨g, 1 + k, none⟩)) := by
  match k, hk with
  | 0, _ => rfl
  | 1, _ => rfl
  | 2, _ => rfl
  | 3, _ => rfl
  | 4, _ => rfl

/-- what stands in memory while a cookie is read -/
structure Rd (w : World) (B : List UInt8) (ad : Option Addr) (cap2 g6 g9 g10 g11 : Nat) (i : Nat) (c : Ck) (w' : World) : Prop where
  o1 : w.heap.size < g6
  o2 : g6 < g9
  o3 : g9 < g11
  o4 : g11 < g10
  r4 : HasRow w' w.heap.size (ckCells Ck.none) 66
  r6 : HasRow w' g6 [.slice ad 32 cap2] 29
  r9 : HasRow w' g9 [.int .i64 (i : Int)] 3
  r10 : HasRow w' g10 (ptrs g11) 112
  r11 : HasRow w' g11 (ckCells c) 66
  bb : Bytes w' (fun b => w.heap.size ≤ b) ad cap2 B
  bel : Below w.heap.size w w'
theorem Rd.take {w w' w'' : World} {B : List UInt8} {ad : Option Addr} {cap2 g6 g9 g10 g11 i j : Nat} {c : Ck} (h : Rd w B ad cap2 g6 g9 g10 g11 i c w') (r : HasRow w'' g9 [.int .i64 (j : Int)] 3) (g : w'.grownBy w'' (some g9)) : Rd w B ad cap2 g6 g9 g10 g11 j c w'' := by
  have h1 := h.o1
  have h2 := h.o2
  have h3 := h.o3
  have h4 := h.o4
  exact ⟨h1, h2, h3, h4, h.r4.grown g (by intro e; injection e with e; omega), h.r6.grown g (by intro e; injection e with e; omega), r, h.r10.grown g (by intro e; injection e with e; omega),
    h.r11.grown g (by intro e; injection e with e; omega), h.bb.grown g (by intro b hb; injection hb with hb; omega), h.bel.grown g h.bel.size (by intro k hk; injection hk with hk; omega)⟩
theorem Rd.put {w w' : World} {B : List UInt8} {ad : Option Addr} {cap2 g6 g9 g10 g11 i : Nat} {c c' : Ck} (h : Rd w B ad cap2 g6 g9 g10 g11 i c w') (j : Nat) (v : Value) (he : (ckCells c).set j v = ckCells c') : Rd w B ad cap2 g6 g9 g10 g11 i c' (w'.setCell ⟨g11, j, none⟩ v) := by
  have h1 := h.o1
  have h2 := h.o2
  have h3 := h.o3
  have h4 := h.o4
  exact ⟨h1, h2, h3, h4, h.r4.other (a := ⟨g11, j, none⟩) (by show w.heap.size ≠ g11; omega) v, h.r6.other (a := ⟨g11, j, none⟩) (by show g6 ≠ g11; omega) v, h.r9.other (a := ⟨g11, j, none⟩) (by show g9 ≠ g11; omega) v, h.r10.other (a := ⟨g11, j, none⟩) (by show g10 ≠ g11; omega) v,
    by rw [← he]; exact h.r11.set j v, h.bb.grown (grownBy_setCell w' ⟨g11, j, none⟩ v) (by intro b hb; have hb2 : b = g11 := Option.some.inj hb; show w.heap.size ≤ b; omega), h.bel.setCell (p := ⟨g11, j, none⟩) (by show w.heap.size ≤ g11; omega) v⟩
theorem Rd.below {w w' w'' : World} {B : List UInt8} {ad : Option Addr} {cap2 g6 g9 g10 g11 i : Nat} {c : Ck} (h : Rd w B ad cap2 g6 g9 g10 g11 i c w') (b : Below w'.heap.size w' w'') : Rd w B ad cap2 g6 g9 g10 g11 i c w'' :=
  ⟨h.o1, h.o2, h.o3, h.o4, h.r4.below b h.r4.lt, h.r6.below b h.r6.lt, h.r9.below b h.r9.lt, h.r10.below b h.r10.lt, h.r11.below b h.r11.lt, h.bb.below_of b, h.bel.trans (b.mono h.bel.size)⟩
theorem Rd.call {w w' : World} {B : List UInt8} {ad : Option Addr} {cap2 g6 g9 g10 g11 i : Nat} {c : Ck} (h : Rd w B ad cap2 g6 g9 g10 g11 i c w') (hl : B.length = 32) (s : Nat) (S : Int) (hS : (s : Int) = S) (hs : s = 1 ∨ s = 2 ∨ s = 4 ∨ s = 8) (hi : i + s ≤ 32) :
    Calls Tryd.prog 63 #[.int .i64 S, .pointer (some ⟨g6, 0, none⟩), .pointer (some ⟨g9, 0, none⟩)] w'
      fun e w'' => e = .returned (.int .u64 ((Num.number B i s : Nat) : Int)) ∧ Rd w B ad cap2 g6 g9 g10 g11 (i + s) c w'' :=
  (read1_any w' B hl ad cap2 (h.bb.other (fun _ _ _ h => h)) g6 g9 h.r6 i h.r9 s S hS hs hi).mono fun _ _ ⟨he, hr, hg⟩ => ⟨he, h.take hr hg⟩

set_option maxRecDepth 100000 in
set_option maxHeartbeats 4000000 in
theorem read_ck_any (w : World) (htab : Tabs w) (h2 : 2 ≤ w.heap.size) (no1 : Nat → Prop) (l : List UInt8) (n : Nat) (hn : l.length = n) (hmost : n < 1000000) (a : Option Addr) (cap : Nat) (hb : Bytes w no1 a cap l)
    (t : List UInt8) (m : Nat) (hm : t.length = m) (a2 : Option Addr) (cap2 : Nat) (hb2 : Bytes w (fun _ => False) a2 cap2 t) :
    Calls Tryd.prog 34 #[.slice a n cap, .slice a2 m cap2] w fun e w' => e = .returned (.tuple #[.agg (ckCells (Ck.read l t).1).toArray, .int .i64 ((Ck.read l t).2 : Int)]) ∧ Below w.heap.size w w' := by
  have hcap2 : m ≤ cap2 ∧ cap2 ≤ 9223372036854775807 := by have h1 := hb2.1; have h2 := hb2.2.1; unfold maxLen at h2; omega
  have Htab := hid htab
  have Hb := hid hb
  have Hb2 := hid hb2
  have Hn := hid hn
  have Hm := hid hm
  have I1 : Hid (∀ c : Ck, (Tryd.prog.info? 66).map (·.size) = some (ckCells c).length) := fun c => (show (Tryd.prog.info? 66).map (·.size) = some 8 by kernel_rfl)
  clear hb hb2 hn hm htab
  by_cases h64 : m = 64
  · subst h64
    obtain ⟨r, hr⟩ : ∃ r, r = Ck.read l t := ⟨_, rfl⟩
    rw [← hr]
    have Hr := hid hr
    clear hr
    obtain ⟨b2, off2, hab, _, lt2, hc2⟩ := Hb2.out.2.2 (by intro e; have := Hm.out; rw [e] at this; simp at this)
    subst hab
    obtain ⟨w3, hw3⟩ : ∃ w3, w3 = ((w.alloc (.cells (ckCells Ck.none).toArray 66)).alloc (.cells #[.slice (some ⟨b2, off2, none⟩) 32 cap2] 29)).drew := ⟨_, rfl⟩
    have z3 : w3.heap.size = w.heap.size + 2 := by rw [hw3]; simp [World.drew]
    have b3 : Below w.heap.size w w3 := by rw [hw3]; exact (((Below.refl _ _).alloc (Nat.le_refl _) _).alloc (by simp) _).drew
    have r4 : HasRow w3 w.heap.size (ckCells Ck.none) 66 := by rw [hw3]; exact ((HasRow.new _ _ _).alloc _).drew
    have r6 : HasRow w3 (w.heap.size + 1) [.slice (some ⟨b2, off2, none⟩) 32 cap2] 29 := by
      rw [hw3]
      have := HasRow.new (w.alloc (.cells (ckCells Ck.none).toArray 66)) [.slice (some ⟨b2, off2, none⟩) 32 cap2] 29
      rw [show (w.alloc (.cells (ckCells Ck.none).toArray 66)).heap.size = w.heap.size + 1 by simp] at this
      exact this.drew
    obtain ⟨BD, hBD⟩ : ∃ BD, BD = t.take 32 := ⟨_, rfl⟩
    obtain ⟨SM, hSM⟩ : ∃ SM, SM = t.drop 32 := ⟨_, rfl⟩
    have L32 : Hid (BD.length = 32) := by show _ = _; rw [hBD, List.length_take, Hm.out]; rfl
    have S32 : Hid (SM.length = 32) := by show _ = _; rw [hSM, List.length_drop, Hm.out]
    have HbO : Hid (Bytes w (fun b => w.heap.size ≤ b) (some ⟨b2, off2, none⟩) cap2 t) := Hb2.out.other (fun b hb _ => by omega)
    have bb : Bytes w3 (fun b => w.heap.size ≤ b) (some ⟨b2, off2, none⟩) cap2 BD := by rw [hBD]; exact (HbO.out.below_of b3).take 32
    have bs : Bytes w3 (fun b => w.heap.size ≤ b) (some ⟨b2, off2 + 32, none⟩) (cap2 - 32) SM := by
      have := (HbO.out.below_of b3).drop 32 (by rw [Hm.out]; omega) (by omega)
      rw [hSM]
      simpa [addr_add] using this
    have Z3 := hid z3
    have B3 := hid b3
    have R4 := hid r4
    have R6 := hid r6
    have BB := hid bb
    have BS := hid bs
    have HBD := hid hBD
    have HSM := hid hSM
    have Hw3 := hid hw3
    have hmf : ∀ (fn : Fn) (first cap : Array Value) (w : World), (Instr.makeFunc fn first cap).run Tryd.prog w = .ok (.func fn first cap) w := fun _ _ _ _ => rfl
    clear hc2 z3 b3 r4 r6 bb bs hBD hSM hw3
    have hc32 : 32 ≤ cap2 := by omega
    go_enter Tryd.func34, Tryd.ntmps34
    go_wp2_with fail
    go_region
    go_wp2_with fail
    have k1 := mac_any w3 (Htab.out.below h2 B3.out) (by have := Z3.out; omega) _ _ l n Hn.out (by omega) a cap (Hb.out.below_of B3.out) BD 32 L32.out (by omega) (some ⟨b2, off2, none⟩) cap2 BB.out
    rw [Hw3.out] at k1
    refine k1.mono ?_
    clear k1
    rintro e w4 ⟨rfl, b4⟩
    rw [← Hw3.out] at b4
    obtain ⟨S1, hS1⟩ : ∃ S1, S1 = Sha.mac l BD := ⟨_, rfl⟩
    rw [← hS1]
    have L1 : Hid (S1.length = 32) := by rw [hS1]; exact Sha.length_mac _ _
    have HS1 := hid hS1
    have B4 := hid b4
    have N4 := hid (HasRow.new w4 (bv (List.replicate 32 0)) 106)
    have F3 : Hid ((Tryd.prog.info? 106).map (·.size) = some (bv S1).length) := by rw [length_bv, L1.out]; exact (show (Tryd.prog.info? 106).map (·.size) = some 32 by kernel_rfl)
    have F4 : Hid (0 + (bv S1).length ≤ (bv (List.replicate 32 0)).length) := by rw [length_bv, L1.out]; exact Nat.le_refl 32
    have F5 : Hid ((bv (List.replicate 32 0)).length = (bv S1).length) := by rw [length_bv S1, L1.out]; rfl
    clear b4 hS1
    go_wp2_with (refine wpList_store_into rfl 106 _ _ rfl w4.heap.size 0 rfl (bv S1) rfl (bv (List.replicate 32 0)) 106 N4.out F3.out F4.out (one_bv _) ?_; intro w5 h4 g4 s4; rw [splice_all _ _ F5.out] at h4; have H5 := hid h4; have G5 := hid g4; clear h4 g4 s4)
    have B35 : Hid (Below w3.heap.size w3 w5) := (B4.out.alloc B4.out.size _).grown G5.out (by simp; have := B4.out.size; omega) (by intro k hk; injection hk with hk; have := B4.out.size; omega)
    have BW5 : Hid (Below w.heap.size w w5) := B3.out.trans (B35.out.mono (by have := Z3.out; omega))
    have R45 : Hid (HasRow w5 w.heap.size (ckCells Ck.none) 66) := R4.out.below B35.out (by have := Z3.out; omega)
    have R65 : Hid (HasRow w5 (w.heap.size + 1) [.slice (some ⟨b2, off2, none⟩) 32 cap2] 29) := R6.out.below B35.out (by have := Z3.out; omega)
    have Z5 : Hid (w.heap.size + 2 ≤ w5.heap.size) := by show _ ≤ _; have := B35.out.size; have := Z3.out; omega
    refine (same_any w5 (fun _ => False) _ S1 32 L1.out (some ⟨w4.heap.size, 0, none⟩) 32 (bytes_row H5.out _ (fun h => h) 32 L1.out (by omega)) SM 32 S32.out (some ⟨b2, off2 + 32, none⟩) (cap2 - 32) (BS.out.below_of B35.out)).mono ?_
    rintro e w6 ⟨rfl, rfl⟩
    by_cases hss : S1 = SM
    · rw [decide_eq_true hss]
      have HR : Hid (r = if (Ck.parse BD).may then (Ck.parse BD, 0) else (Ck.none, 7)) := by
        show _ = _
        rw [Hr.out, Ck.read, if_pos Hm.out, if_pos (by rw [← HBD.out, ← HSM.out, ← HS1.out]; exact hss), HBD.out]
      obtain ⟨w6, hw6⟩ : ∃ w6, w6 = w5.alloc (.cells #[.int .i64 0] 3) := ⟨_, rfl⟩
      have b6 : Below w5.heap.size w5 w6 := by rw [hw6]; exact (Below.refl _ _).alloc (Nat.le_refl _) _
      have z6 : w6.heap.size = w5.heap.size + 1 := by rw [hw6]; simp
      have r9 : HasRow w6 w5.heap.size [.int .i64 ((0 : Nat) : Int)] 3 := by rw [hw6]; exact HasRow.new _ _ _
      have Z6 := hid z6
      have B6 := hid b6
      have R9 := hid r9
      have Hw6 := hid hw6
      have R46 : Hid (HasRow w6 w.heap.size (ckCells Ck.none) 66) := R45.out.below b6 R45.out.lt
      have R66 : Hid (HasRow w6 (w.heap.size + 1) [.slice (some ⟨b2, off2, none⟩) 32 cap2] 29) := R65.out.below b6 R65.out.lt
      have BB6 : Hid (Bytes w6 (fun b => w.heap.size ≤ b) (some ⟨b2, off2, none⟩) cap2 BD) := (BB.out.below_of B35.out).below_of b6
      have BW6 : Hid (Below w.heap.size w w6) := BW5.out.trans (b6.mono BW5.out.size)
      have e8 : IntKind.i64.wrap ((Num.number BD 0 8 : Nat) : Int) = Num.i64 (Num.number BD 0 8) := wrap_i64 _ (Num.number_lt BD 0 8)
      have K2 := hid (read1_any w6 BD L32.out (some ⟨b2, off2, none⟩) cap2 (BB6.out.other (fun _ _ _ h => h)) (w.heap.size + 1) w5.heap.size R66.out 0 R9.out 8 8 rfl (by omega) (by omega))
      clear hss z6 b6 r9 hw6
      go_wp2_with fail
      have k2 := K2.out
      rw [Hw6.out] at k2
      refine k2.mono ?_
      clear k2
      rintro e w7 ⟨rfl, r97, g7⟩
      rw [← Hw6.out] at g7
      have Z7 : Hid (w.heap.size + 3 ≤ w7.heap.size ∧ w5.heap.size < w7.heap.size) := by
        have h1 := g7.size
        have h2 := Z6.out
        have h3 := Z5.out
        exact ⟨by omega, by omega⟩
      have RdS : Hid (∀ wx, wx = (w7.alloc (.cells (ckCells (Ck.part BD 0)).toArray 66)).alloc (.cells (ptrs w7.heap.size).toArray 112) → Rd w BD (some ⟨b2, off2, none⟩) cap2 (w.heap.size + 1) w5.heap.size (w7.heap.size + 1) w7.heap.size 8 (Ck.part BD 0) wx) := by
        intro wx hx
        have z5 := Z5.out
        have z7 := Z7.out
        have b78 : Below w7.heap.size w7 wx := by rw [hx]; exact ((Below.refl _ _).alloc (Nat.le_refl _) _).alloc (by simp) _
        have r10 : HasRow wx (w7.heap.size + 1) (ptrs w7.heap.size) 112 := by
          rw [hx]
          have := HasRow.new (w7.alloc (.cells (ckCells (Ck.part BD 0)).toArray 66)) (ptrs w7.heap.size) 112
          rwa [show (w7.alloc (.cells (ckCells (Ck.part BD 0)).toArray 66)).heap.size = w7.heap.size + 1 by simp] at this
        have r11 : HasRow wx w7.heap.size (ckCells (Ck.part BD 0)) 66 := by rw [hx]; exact (HasRow.new _ _ _).alloc _
        exact ⟨by omega, by omega, by omega, by omega, (R46.out.grown g7 (by intro e; injection e with e; omega)).below b78 (by omega), (R66.out.grown g7 (by intro e; injection e with e; omega)).below b78 (by omega), r97.below b78 (by omega), r10, r11,
          (BB6.out.grown g7 (by intro b hb; have hb2 : b = w5.heap.size := Option.some.inj hb; show w.heap.size ≤ b; omega)).below_of b78,
          (BW6.out.grown g7 BW6.out.size (by intro k hk; injection hk with hk; omega)).trans (b78.mono (by omega))⟩
      clear r97 g7
      go_wp2_with fail
      go_loopw [13, 42] (fun v i wr => ∃ k : Nat, k ≤ 5 ∧ i = .int .i64 (k : Int) ∧ Rd w BD (some ⟨b2, off2, none⟩) cap2 (w.heap.size + 1) w5.heap.size (w7.heap.size + 1) w7.heap.size (8 + 4 * k) (Ck.part BD k) wr) (fun _ i _ => 5 - (intOf i).toNat)
      case atStart => exact ⟨0, by omega, rfl, RdS.out _ rfl⟩
      case round =>
        obtain ⟨k, hk, rfl, rd⟩ := hrel
        obtain ⟨wo, rfl⟩ : ∃ wo : World, wo = wr := ⟨_, rfl⟩
        have Rk := hid rd
        by_cases hk5 : k < 5
        · have c1 : wo.cell? ⟨w7.heap.size + 1, k, none⟩ = some (.pointer (some ⟨w7.heap.size, 1 + k, none⟩)) := (rd.r10.cell_any k).trans (ptrs_at _ k hk5)
          have i5 : (k : Int) < 5 := by omega
          obtain ⟨x, hx⟩ : ∃ x, x = Num.number BD (8 + 4 * k) 4 := ⟨_, rfl⟩
          have x32 : x < 4294967296 := by rw [hx]; exact Num.number_lt BD (8 + 4 * k) 4
          have e4 : IntKind.u32.wrap (x : Int) = (x : Int) := by rw [IntKind.wrap_u32']; omega
          have KC := hid (rd.call L32.out 4 4 rfl (by omega) (by omega))
          rw [← hx] at KC
          have Hx := hid hx
          clear rd hx
          go_wp2_with fail
          refine KC.out.mono ?_
          rintro e w9 ⟨rfl, rd9⟩
          have c2 := rd9.r11.cell_any (1 + k)
          obtain ⟨u, hu⟩ : ∃ u, (ckCells (Ck.part BD k))[1 + k]? = some u := ⟨_, List.getElem?_eq_getElem (by rw [length_ck]; omega)⟩
          rw [hu] at c2
          have f2 := rd9.r11.free (1 + k)
          have Rd9 := hid rd9
          clear rd9 hu c1
          go_wp2_with fail
          go_roundw
          case rel =>
            have := Rd9.out.put (1 + k) (.int .u32 (x : Int)) (by rw [Hx.out]; exact part_next BD k hk5)
            exact ⟨k + 1, by omega, by go_num, by rw [show 8 + 4 * (k + 1) = 8 + 4 * k + 4 by omega]; exact this⟩
          case measure => simp [intOf]; omega
        · have e5 : k = 5 := by omega
          subst e5
          obtain ⟨o, ho⟩ : ∃ o, o = Num.number BD 28 2 := ⟨_, rfl⟩
          obtain ⟨i, hi⟩ : ∃ i, i = Num.number BD 30 2 := ⟨_, rfl⟩
          have o16 : o < 65536 := by rw [ho]; exact Num.number_lt BD 28 2
          have i16 : i < 65536 := by rw [hi]; exact Num.number_lt BD 30 2
          have e6 : IntKind.u16.wrap (o : Int) = (o : Int) := wrap_u16 o o16
          have e7 : IntKind.u16.wrap (i : Int) = (i : Int) := wrap_u16 i i16
          have KC := hid (rd.call L32.out 2 2 rfl (by omega) (by omega))
          rw [show 8 + 4 * 5 = 28 from rfl, ← ho] at KC
          have Ho := hid ho
          have Hii := hid hi
          clear rd ho hi
          go_wp2_with fail
          refine KC.out.mono ?_
          rintro e w9 ⟨rfl, rd9⟩
          have KD := hid (rd9.call L32.out 2 2 rfl (by omega) (by omega))
          rw [show 28 + 2 = 30 from rfl, ← Hii.out] at KD
          clear rd9
          go_wp2_with fail
          refine KD.out.mono ?_
          rintro e w10 ⟨rfl, rd10⟩
          have c6 : w10.cell? ⟨w7.heap.size, 6, none⟩ = some (.int .u16 ((0 : Nat) : Int)) := rd10.r11.cell_any 6
          have c7 : w10.cell? ⟨w7.heap.size, 7, none⟩ = some (.int .u16 ((0 : Nat) : Int)) := rd10.r11.cell_any 7
          have f6 := rd10.r11.free 6
          have f7 := rd10.r11.free 7
          obtain ⟨C, hC⟩ : ∃ C, C = Ck.parse BD := ⟨_, rfl⟩
          obtain ⟨w11, hw11⟩ : ∃ w11, w11 = (w10.setCell ⟨w7.heap.size, 6, none⟩ (.int .u16 (o : Int))).setCell ⟨w7.heap.size, 7, none⟩ (.int .u16 (i : Int)) := ⟨_, rfl⟩
          have Rd11 : Hid (Rd w BD (some ⟨b2, off2, none⟩) cap2 (w.heap.size + 1) w5.heap.size (w7.heap.size + 1) w7.heap.size 32 C w11) := by
            have := (rd10.put (c' := { Ck.part BD 5 with out := o }) 6 (.int .u16 (o : Int)) rfl).put (c' := { Ck.part BD 5 with out := o, inn := i }) 7 (.int .u16 (i : Int)) rfl
            rw [hw11, hC]
            have e : Ck.parse BD = { Ck.part BD 5 with out := o, inn := i } := by rw [Ho.out, Hii.out]; rfl
            rw [e]
            exact this
          have hww := hw11.symm
          have CO : Hid C.Ok := by show Ck.Ok C; rw [hC]; exact Ck.parse_ok BD
          rw [← hC] at HR
          obtain ⟨M, hM⟩ : ∃ M, M = C.may := ⟨_, rfl⟩
          rw [← hM] at HR
          have MA : Hid (∀ w, Calls Tryd.prog 65 #[.agg (ckCells C).toArray] w fun e w' => e = .returned (.bool M) ∧ Below w.heap.size w w') := by
            intro w
            rw [hM]; exact may_any w C CO.out
          clear rd10 hw11 hC hM
          have T11 : Hid (TabAt w11 w7.heap.size (ckCells C)) := Rd11.out.r11.tab
          go_wp2_with (refine wpList_load_part rfl 66 _ rfl w7.heap.size 0 8 rfl (ckCells C) _ T11.out Tryd.underlying66 rfl (I1.out C) (Nat.le_refl 8) (ckCells C) rfl ?_)
          refine (MA.out _).mono ?_
          rintro e w12 ⟨rfl, b12⟩
          have Rd12 : Hid (Rd w BD (some ⟨b2, off2, none⟩) cap2 (w.heap.size + 1) w5.heap.size (w7.heap.size + 1) w7.heap.size 32 C w12) := Rd11.out.below b12
          have T12 : Hid (TabAt w12 w7.heap.size (ckCells C)) := Rd12.out.r11.tab
          have R12 : Hid (HasRow w12 w.heap.size (ckCells Ck.none) 66) := Rd12.out.r4
          clear b12 hww
          cases M with
          | false =>
            go_wp2_with (refine wpList_store_into rfl 66 _ _ rfl w.heap.size 0 rfl (ckCells Ck.none) rfl (ckCells Ck.none) 66 R12.out (I1.out _) (Nat.le_refl _) (one_ck _) ?_; intro w13 h6 g6 s6; rw [splice_all _ _ rfl] at h6; have H13 := hid h6; have G13 := hid g6; clear h6 g6 s6)
            refine bodyPost_ret (v := .tuple #[.agg (ckCells Ck.none).toArray, .int .i64 7]) (results_cell_tmp_row (ty := 66) (p := 4) (u := 5) rfl _ w13 w.heap.size _ _ _ _ rfl H13.out Tryd.underlying66 rfl (I1.out Ck.none) _ rfl) rfl ⟨by rw [HR.out]; rfl, ?_⟩
            exact Rd12.out.bel.grown G13.out Rd12.out.bel.size (by intro k hk; injection hk with hk; omega)
          | true =>
            go_wp2_with (first
              | (refine wpList_load_part rfl 66 _ rfl w7.heap.size 0 8 rfl (ckCells C) _ T12.out Tryd.underlying66 rfl (I1.out C) (Nat.le_refl 8) (ckCells C) rfl ?_)
              | (refine wpList_store_into rfl 66 _ _ rfl w.heap.size 0 rfl (ckCells C) rfl (ckCells Ck.none) 66 R12.out (I1.out _) (Nat.le_refl 8) (one_ck _) ?_; intro w13 h6 g6 s6; rw [splice_all (ckCells Ck.none) (ckCells C) rfl] at h6; have H13 := hid h6; have G13 := hid g6; clear h6 g6 s6))
            refine bodyPost_ret (v := .tuple #[.agg (ckCells C).toArray, .int .i64 0]) (results_cell_tmp_row (ty := 66) (p := 4) (u := 5) rfl _ w13 w.heap.size _ _ _ _ rfl H13.out Tryd.underlying66 rfl (I1.out C) _ rfl) rfl ⟨by rw [HR.out]; rfl, ?_⟩
            exact Rd12.out.bel.grown G13.out Rd12.out.bel.size (by intro k hk; injection hk with hk; omega)
    · rw [decide_eq_false hss]
      have HR : Hid (r = (Ck.none, 10)) := by show _ = _; rw [Hr.out, Ck.read, if_pos Hm.out, if_neg (by rw [← HBD.out, ← HSM.out, ← HS1.out]; exact hss)]
      clear hss
      go_wp2_with (refine wpList_store_into rfl 66 _ _ rfl w.heap.size 0 rfl (ckCells Ck.none) rfl (ckCells Ck.none) 66 R45.out (I1.out _) (Nat.le_refl _) (one_ck _) ?_; intro w7 h6 g6 s6; rw [splice_all _ _ rfl] at h6; have H7 := hid h6; have G7 := hid g6; clear h6 g6 s6)
      refine bodyPost_ret (v := .tuple #[.agg (ckCells Ck.none).toArray, .int .i64 10]) (results_cell_tmp_row (ty := 66) (p := 4) (u := 5) rfl _ w7 w.heap.size _ _ _ _ rfl H7.out Tryd.underlying66 rfl (I1.out Ck.none) _ rfl) rfl ⟨by rw [HR.out]; rfl, ?_⟩
      exact BW5.out.grown G7.out BW5.out.size (by intro k hk; injection hk with hk; omega)
  · have hr : Ck.read l t = (Ck.none, 7) := by rw [Ck.read, if_neg (by rw [Hm.out]; exact h64)]
    rw [hr]
    have hne : ((m : Int) != 64) = true := by simp; omega
    clear hr
    go_enter Tryd.func34, Tryd.ntmps34
    go_wp2_with fail
    refine bodyPost_ret (v := .tuple #[.agg (ckCells Ck.none).toArray, .int .i64 7]) (results_cell_tmp_row (ty := 66) (p := 4) (u := 5) rfl _ _ w.heap.size _ _ _ _ rfl (HasRow.new w (ckCells Ck.none) 66) Tryd.underlying66 rfl (I1.out Ck.none) _ rfl) rfl ⟨rfl, ?_⟩
    exact (Below.refl _ _).alloc (Nat.le_refl _) _
end Go.Proofs.YtgiagcopbibneaaDoor
