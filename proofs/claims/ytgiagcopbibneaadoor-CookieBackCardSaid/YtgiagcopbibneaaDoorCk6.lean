/- Contracts of the reference's cookie: Put, body, Write, Read, Derive, Fresh. -/
import Derived.Test.YtgiagcopbibneaaDoorCk5
namespace Num
theorem number_take (t : List UInt8) (i s m : Nat) (h : i + s ≤ m) : number (t.take m) i s = number t i s := by
  unfold number
  rw [List.drop_take, List.take_take, Nat.min_eq_left (by omega)]
end Num
namespace Go.Proofs.YtgiagcopbibneaaDoor
open Go.RowKit
open Sha (W)
open Num (Ck)

set_option maxRecDepth 100000 in
set_option maxHeartbeats 2000000 in
theorem refput_lit (w : World) (no : Nat → Prop) (l : List UInt8) (n : Nat) (hn : l.length = n) (hmost : n < 1000000000) (a : Option Addr) (cap : Nat) (hb : Bytes w no a cap l) (x : Nat) (s : Nat) (S : Int) (hS : (s : Int) = S) (hs : s = 1 ∨ s = 2 ∨ s = 4 ∨ s = 8) :
    Calls Tryd.prog 94 #[.slice a n cap, .int .u64 (x : Int), .int .i64 S] w (OwnBytes w (l ++ Num.be s x)) := by
  subst hS
  have Hb := hid hb
  have Hn := hid hn
  obtain ⟨i0, hi, hz0, hz1, hz2⟩ := info_parts info_u8
  have Hi := hid hi
  have Hz0 := hid hz0
  have Hz1 := hid hz1
  have Hz2 := hid hz2
  have s8 : s ≤ 8 := by omega
  have s1 : 1 ≤ s := by omega
  have HS : Hid (∀ w, Calls Tryd.prog 107 #[.int .i64 (s : Int)] w fun e w' => e = .returned (.bool true) ∧ w = w') := fun w => refsize_yes (s : Int) (by omega) w
  clear hb hn hi hz0 hz1 hz2 hs
  go_enter Tryd.func94, Tryd.ntmps94
  go_wp2_with fail
  refine (copy_len w no l n Hn.out a cap Hb.out (by omega)).mono ?_
  rintro e w1 ⟨v, rfl, ow, b1⟩
  rw [Hn.out] at ow
  have Ow := hid ow
  have B1 := hid b1
  clear ow b1
  go_wp2_with fail
  refine (HS.out _).mono ?_
  rintro e w2 ⟨rfl, rfl⟩
  go_wp2_with fail
  go_loopw [7, 8] (fun v i wr => ∃ (k : Nat) (I : Int), k ≤ s ∧ i = .int .i64 I ∧ I = (s : Int) - 1 - (k : Int) ∧ wr.ownsRow w.heap.size 5 1 v (n + k) (bv (l ++ (Num.be s x).take k)) ∧ Below w.heap.size w wr) (fun _ i _ => (intOf i + 1).toNat)
  case atStart => exact ⟨0, _, by omega, rfl, by omega, by simpa using Ow.out, B1.out⟩
  case round =>
    obtain ⟨k, I, hk, rfl, hI, ow, bb⟩ := hrel
    obtain ⟨wo, rfl⟩ : ∃ wo : World, wo = wr := ⟨_, rfl⟩
    have Oy := hid ow
    have Bb := hid bb
    clear ow bb
    have Zo := hid Bb.out.size
    by_cases hks : k < s
    · obtain ⟨E, hE⟩ : ∃ E : Nat, E = 8 * (s - 1 - k) := ⟨_, rfl⟩
      have I0 : 0 ≤ I := by omega
      have I7 : I ≤ 7 := by omega
      obtain ⟨D, hD⟩ : ∃ D : Int, D = 8 * I := ⟨_, rfl⟩
      have D0 : 0 ≤ D := by omega
      have D56 : D ≤ 56 := by omega
      have DE : D.toNat = E := by omega
      have hD2 : 8 * I = D := hD.symm
      have DW : IntKind.u64.wrap D = D := by rw [IntKind.wrap_u64]; omega
      obtain ⟨y, hy⟩ : ∃ y, y = UInt8.ofNat (x / 2 ^ E) := ⟨_, rfl⟩
      have hb2 : IntKind.u8.wrap ((x : Int) / 2 ^ E) = bt8 y := by rw [hy]; exact byte_of_u64 x E
      have HL : Hid ((l ++ (Num.be s x).take k) ++ [y] = l ++ (Num.be s x).take (k + 1)) := by
        show _ = _
        rw [List.append_assoc, hy, hE, Num.be_take s x k hks]
      have HI := hid hI
      clear hE hD hy hI
      go_wp2_with (refine wpList_append_any rfl (.tmp 21) (.tmp 28) 29 rfl w.heap.size 5 i0 Tryd.underlying29 Hi.out Hz0.out Hz1.out Hz2.out _ (n + k) _ rfl (Oy.out.alloc _) _ 1 1 [y] rfl rfl (newb wo y 5) (by omega) (by simp; exact Nat.le_trans Zo.out (Nat.le_succ _)) ?_; intro v4 w4 hown4 g4 hv4; rw [HL.out] at hown4; have Hown4 := hid hown4; have G4 := hid g4; clear hown4 g4 hv4)
      go_roundw
      case rel => exact ⟨k + 1, _, by omega, rfl, by have := HI.out; omega, Hown4.out, own_below_of (Oy.out.alloc _) G4.out (Bb.out.alloc Zo.out _) (Nat.le_refl _) (by simp; exact Nat.le_trans Zo.out (Nat.le_succ _))⟩
      case measure => simp [intOf]; omega
    · have e8 : k = s := by omega
      subst e8
      have I0 : I < 0 := by omega
      clear hI
      go_wp2_with fail
      go_ret
      have h := Oy.out
      rw [List.take_of_length_le (by rw [Num.length_be]; exact Nat.le_refl k)] at h
      exact ⟨_, rfl, by rw [List.length_append, Hn.out, Num.length_be]; exact h, Bb.out⟩

set_option maxRecDepth 100000 in
set_option maxHeartbeats 2000000 in
theorem refbody_any (w : World) (c : Ck) (hc : c.Ok) : Calls Tryd.prog 60 #[.agg (ckCells c).toArray] w (OwnBytes w c.body) := by
  obtain ⟨wa, hwa⟩ : ∃ wa, wa = w.alloc (.cells (ckCells c).toArray 66) := ⟨_, rfl⟩
  have k0 : Kc w w.heap.size c wa := by rw [hwa]; exact ⟨HasRow.new _ _ _, (Below.refl _ _).alloc (Nat.le_refl _) _⟩
  have K0 := hid k0
  have Hc := hid hc
  have hww := hwa.symm
  have u1 : IntKind.u64.wrap c.born = ((Num.u64 c.born : Nat) : Int) := by rw [IntKind.wrap_u64, Num.u64_cast]
  have u2 : IntKind.u64.wrap (c.out : Int) = (c.out : Int) := by have := hc.h6; rw [IntKind.wrap_u64]; omega
  have u3 : IntKind.u64.wrap (c.inn : Int) = (c.inn : Int) := by have := hc.h7; rw [IntKind.wrap_u64]; omega
  have x0 : wa.cell? ⟨w.heap.size, 0, none⟩ = some (.int .i64 c.born) := k0.row.cell_any 0
  have X5 : Hid (∀ k, [c.ownTag, c.peerTag, c.ownTsn, c.peerTsn, c.peerRwnd].getD k 0 < 4294967296) := fun k => by
    match k with
    | 0 => exact Hc.out.h1
    | 1 => exact Hc.out.h2
    | 2 => exact Hc.out.h3
    | 3 => exact Hc.out.h4
    | 4 => exact Hc.out.h5
    | k + 5 => exact Nat.zero_lt_succ _
  clear k0 hc hwa
  simp only [ckCells] at hww ⊢
  go_enter Tryd.func60, Tryd.ntmps60
  go_wp2_with fail
  refine (refput_lit wa (fun _ => False) [] 0 rfl (by omega) none 0 (Bytes.nil _ _ _ _ (by decide)) (Num.u64 c.born) 8 8 rfl (by omega)).mono ?_
  rintro e w5 ⟨v5, rfl, ow5, b5⟩
  have K5 : Hid (Kc w w.heap.size c w5) := K0.out.below b5
  have Ow5 : Hid (w5.ownsRow w.heap.size 5 1 v5 8 (bv (Num.be 8 (Num.u64 c.born)))) := own_base ow5 K0.out.bel.size
  have x1 : w5.cell? ⟨w.heap.size, 1, none⟩ = some (.int .u32 (c.ownTag : Int)) := K5.out.row.cell_any 1
  have x2 : w5.cell? ⟨w.heap.size, 2, none⟩ = some (.int .u32 (c.peerTag : Int)) := K5.out.row.cell_any 2
  have x3 : w5.cell? ⟨w.heap.size, 3, none⟩ = some (.int .u32 (c.ownTsn : Int)) := K5.out.row.cell_any 3
  have x4 : w5.cell? ⟨w.heap.size, 4, none⟩ = some (.int .u32 (c.peerTsn : Int)) := K5.out.row.cell_any 4
  have x5 : w5.cell? ⟨w.heap.size, 5, none⟩ = some (.int .u32 (c.peerRwnd : Int)) := K5.out.row.cell_any 5
  have R6 : Hid (HasRow (w5.alloc (.cells (uv [c.ownTag, c.peerTag, c.ownTsn, c.peerTsn, c.peerRwnd]).toArray 31)) w5.heap.size (uv [c.ownTag, c.peerTag, c.ownTsn, c.peerTsn, c.peerRwnd]) 31) := HasRow.new _ _ _
  have K6 : Hid (Kc w w.heap.size c (w5.alloc (.cells (uv [c.ownTag, c.peerTag, c.ownTsn, c.peerTsn, c.peerRwnd]).toArray 31))) := K5.out.alloc _
  have O6 : Hid ((w5.alloc (.cells (uv [c.ownTag, c.peerTag, c.ownTsn, c.peerTsn, c.peerRwnd]).toArray 31)).ownsRow w.heap.size 5 1 v5 8 (bv (Num.be 8 (Num.u64 c.born)))) := Ow5.out.alloc _
  obtain ⟨a5, c5, hv5, _, _⟩ := own_open Ow5.out (fun _ => False) (fun _ _ h => h)
  subst hv5
  clear ow5 b5 hww x0 Ow5
  go_wp2_with fail
  go_loopw [3, 5] (fun v i wr => ∃ k : Nat, k ≤ 5 ∧ i = .int .i64 (k : Int) ∧ wr.ownsRow w.heap.size 5 1 v (8 + 4 * k) (bv (Num.be 8 (Num.u64 c.born) ++ Num.flat ([c.ownTag, c.peerTag, c.ownTsn, c.peerTsn, c.peerRwnd].take k))) ∧ HasRow wr w5.heap.size (uv [c.ownTag, c.peerTag, c.ownTsn, c.peerTsn, c.peerRwnd]) 31 ∧ Kc w w.heap.size c wr) (fun _ i _ => 5 - (intOf i).toNat)
  case atStart => exact ⟨0, by omega, rfl, (by have h := O6.out; rw [← List.append_nil (Num.be 8 (Num.u64 c.born))] at h; exact h), R6.out, K6.out⟩
  case round =>
    obtain ⟨k, hk, rfl, ow, rr, kc⟩ := hrel
    obtain ⟨wo, rfl⟩ : ∃ wo : World, wo = wr := ⟨_, rfl⟩
    obtain ⟨aK, cK, hv, hby, _⟩ := own_open ow (fun _ => False) (fun _ _ h => h)
    subst hv
    have Hby := hid hby
    have Rr := hid rr
    have KC := hid kc
    clear ow hby
    by_cases hkm : k < 5
    · obtain ⟨x, hx⟩ : ∃ x, x = [c.ownTag, c.peerTag, c.ownTsn, c.peerTsn, c.peerRwnd].getD k 0 := ⟨_, rfl⟩
      have xl := X5.out k
      have c1 : wo.cell? ⟨w5.heap.size, k, none⟩ = some (.int .u32 (x : Int)) := by rw [hx]; exact row_num rr k hkm
      rw [← hx] at xl
      have e1 : IntKind.u64.wrap (x : Int) = (x : Int) := by rw [IntKind.wrap_u64]; omega
      have i5 : (k : Int) < 5 := by omega
      have HX := hid hx
      have L1 : Hid ((Num.be 8 (Num.u64 c.born) ++ Num.flat ([c.ownTag, c.peerTag, c.ownTsn, c.peerTsn, c.peerRwnd].take k)).length = 8 + 4 * k) := by show _ = _; rw [List.length_append, Num.length_be, Num.length_flat, List.length_take]; show 8 + 4 * min k 5 = _; omega
      clear hx rr kc
      go_wp2_with fail
      refine (refput_lit wo _ _ (8 + 4 * k) L1.out (by omega) aK cK Hby.out x 4 4 rfl (by omega)).mono ?_
      rintro e w7 ⟨v7, rfl, ow7, b7⟩
      rw [List.length_append, L1.out, Num.length_be, List.append_assoc, HX.out, Num.flat_next [c.ownTag, c.peerTag, c.ownTsn, c.peerTsn, c.peerRwnd] k (show k < [c.ownTag, c.peerTag, c.ownTsn, c.peerTsn, c.peerRwnd].length from hkm)] at ow7
      have Ow7 : Hid (w7.ownsRow w.heap.size 5 1 v7 (8 + 4 * (k + 1)) (bv (Num.be 8 (Num.u64 c.born) ++ Num.flat ([c.ownTag, c.peerTag, c.ownTsn, c.peerTsn, c.peerRwnd].take (k + 1))))) := own_base ow7 KC.out.bel.size
      have Rr7 : Hid (HasRow w7 w5.heap.size (uv [c.ownTag, c.peerTag, c.ownTsn, c.peerTsn, c.peerRwnd]) 31) := Rr.out.below b7 Rr.out.lt
      have K7 : Hid (Kc w w.heap.size c w7) := KC.out.below b7
      clear ow7 b7
      go_wp2_with fail
      go_roundw
      case rel => exact ⟨k + 1, by omega, by go_num, Ow7.out, Rr7.out, K7.out⟩
      case measure => simp [intOf]; omega
    · have e8 : k = 5 := by omega
      subst e8
      have y6 : wo.cell? ⟨w.heap.size, 6, none⟩ = some (.int .u16 (c.out : Int)) := kc.row.cell_any 6
      have L28 : Hid ((Num.be 8 (Num.u64 c.born) ++ Num.flat [c.ownTag, c.peerTag, c.ownTsn, c.peerTsn, c.peerRwnd]).length = 28) := by show _ = _; rw [List.length_append, Num.length_be, Num.length_flat]; rfl
      clear rr kc
      go_wp2_with fail
      refine (refput_lit wo _ (Num.be 8 (Num.u64 c.born) ++ Num.flat [c.ownTag, c.peerTag, c.ownTsn, c.peerTsn, c.peerRwnd]) 28 L28.out (by omega) aK cK Hby.out c.out 2 2 rfl (by omega)).mono ?_
      rintro e w8 ⟨v8, rfl, ow8, b8⟩
      have K8 : Hid (Kc w w.heap.size c w8) := KC.out.below b8
      have L30 : Hid (((Num.be 8 (Num.u64 c.born) ++ Num.flat [c.ownTag, c.peerTag, c.ownTsn, c.peerTsn, c.peerRwnd]) ++ Num.be 2 c.out).length = 30) := by show _ = _; rw [List.length_append, L28.out, Num.length_be]
      rw [L30.out] at ow8
      obtain ⟨a8, c8, hv8, hb8, _⟩ := own_open ow8 (fun _ => False) (fun _ _ h => h)
      subst hv8
      have Hb8 := hid hb8
      have y7 : w8.cell? ⟨w.heap.size, 7, none⟩ = some (.int .u16 (c.inn : Int)) := K8.out.row.cell_any 7
      clear ow8 b8 hb8 y6
      go_wp2_with fail
      refine (refput_lit w8 _ _ 30 L30.out (by omega) a8 c8 Hb8.out c.inn 2 2 rfl (by omega)).mono ?_
      rintro e w9 ⟨v9, rfl, ow9, b9⟩
      rw [ckbody_flat] at ow9
      have Ow9 := hid (own_base ow9 K8.out.bel.size)
      have B9 : Hid (Below w.heap.size w w9) := K8.out.bel.trans (b9.mono K8.out.bel.size)
      clear ow9 b9
      go_wp2_with fail
      go_ret
      exact ⟨_, rfl, Ow9.out, B9.out⟩

set_option maxRecDepth 100000 in
set_option maxHeartbeats 2000000 in
theorem refwrite_any (w : World) (no : Nat → Prop) (l : List UInt8) (n : Nat) (hn : l.length = n) (hmost : n < 1000000) (a : Option Addr) (cap : Nat) (hb : Bytes w no a cap l) (c : Ck) (hc : c.Ok) :
    Calls Tryd.prog 33 #[.slice a n cap, .agg (ckCells c).toArray] w (OwnBytes w (c.bytes l)) := by
  obtain ⟨i0, hi, hz0, hz1, hz2⟩ := info_parts info_u8
  have Hi := hid hi
  have Hz0 := hid hz0
  have Hz1 := hid hz1
  have Hz2 := hid hz2
  have b0 : Below w.heap.size w (w.alloc (.cells (ckCells c).toArray 66)) := (Below.refl _ _).alloc (Nat.le_refl _) _
  have B0 := hid b0
  have K := hid (refbody_any (w.alloc (.cells (ckCells c).toArray 66)) c hc)
  have Hb := hid hb
  have Hn := hid hn
  obtain ⟨bd, hbd⟩ : ∃ bd, bd = c.body := ⟨_, rfl⟩
  have L32 : Hid (bd.length = 32) := by rw [hbd]; exact c.length_body
  rw [← hbd] at K
  have Hbd := hid hbd
  clear hi hz0 hz1 hz2 hb hn hc hbd b0
  simp only [ckCells] at K ⊢
  go_enter Tryd.func33, Tryd.ntmps33
  go_wp2_with fail
  refine K.out.mono ?_
  rintro e w9 ⟨v9, rfl, ow9, b9⟩
  have B9 : Hid (Below w.heap.size w w9) := B0.out.trans (b9.mono (by simp))
  rw [L32.out] at ow9
  have Ow9 : Hid (w9.ownsRow w.heap.size 5 1 v9 32 (bv bd)) := own_base ow9 (by simp)
  obtain ⟨a9, c9, hv9, hb9, _⟩ := own_open Ow9.out (fun _ => False) (fun _ _ h => h)
  subst hv9
  have Hb9 := hid hb9
  clear ow9 b9 hb9
  go_wp2_with fail
  refine (refmac_any w9 no (fun _ => False) l n Hn.out (by omega) a cap (Hb.out.below_of B9.out) bd 32 L32.out (by omega) a9 c9 Hb9.out).mono ?_
  rintro e w10 ⟨rfl, b10⟩
  obtain ⟨S1, hS1⟩ : ∃ S1, S1 = Sha.mac l bd := ⟨_, rfl⟩
  rw [← hS1]
  have L1 : Hid (S1.length = 32) := by rw [hS1]; exact Sha.length_mac _ _
  have HS1 := hid hS1
  have B10 : Hid (Below w.heap.size w w10) := B9.out.trans (b10.mono B9.out.size)
  have Ow10 := hid (own_below Ow9.out b10 (Nat.le_refl _))
  have N3 := hid (HasRow.new w10 (bv (List.replicate 32 0)) 106)
  have F3 : Hid ((Tryd.prog.info? 106).map (·.size) = some (bv S1).length) := by rw [length_bv, L1.out]; exact (show (Tryd.prog.info? 106).map (·.size) = some 32 by kernel_rfl)
  have F4 : Hid (0 + (bv S1).length ≤ (bv (List.replicate 32 0)).length) := by rw [length_bv, L1.out]; exact Nat.le_refl 32
  have F5 : Hid ((bv (List.replicate 32 0)).length = (bv S1).length) := by rw [length_bv S1, L1.out]; rfl
  have KK : Hid (∀ w11 : World, HasRow w11 w10.heap.size (bv S1) 106 → (w10.alloc (.cells (bv (List.replicate 32 0)).toArray 106)).grownBy w11 (some w10.heap.size) → w11.ownsRow w.heap.size 5 1 (.slice a9 32 c9) 32 (bv bd) ∧ Below w.heap.size w w11 ∧ (0 < 32 → ∃ b off, (some ⟨w10.heap.size, 0, none⟩ : Option Addr) = some ⟨b, off, none⟩ ∧ ∀ j, j < 32 → w11.cell? ⟨b, off + j, none⟩ = some (.int .u8 (bt8 (S1.getD j 0))))) := by
    intro w11 h11 g11
    have bw : Below w10.heap.size w10 w11 := ((Below.refl _ w10).alloc (Nat.le_refl _) _).grown g11 (by simp) (by intro k hk; injection hk with hk; omega)
    exact ⟨own_below Ow10.out bw (Nat.le_refl _), B10.out.trans (bw.mono B10.out.size), fun _ => ⟨w10.heap.size, 0, rfl, fun j hj => by rw [Nat.zero_add]; exact h11.byte j (by rw [L1.out]; exact hj)⟩⟩
  clear b10 hS1
  go_wp2_with (first
    | (refine wpList_store_into rfl 106 _ _ rfl w10.heap.size 0 rfl (bv S1) rfl (bv (List.replicate 32 0)) 106 N3.out F3.out F4.out (one_bv _) ?_; intro w11 h4 g4 s4; rw [splice_all _ _ F5.out] at h4; have J11 := hid (KK.out w11 h4 g4); clear h4 g4 s4)
    | (refine wpList_append_any rfl (.tmp 12) (.tmp 13) 29 rfl w.heap.size 5 i0 Tryd.underlying29 Hi.out Hz0.out Hz1.out Hz2.out _ 32 _ rfl J11.out.1 _ 32 32 S1 rfl L1.out J11.out.2.2 (by omega) J11.out.2.1.size ?_; intro v12 w12 hown12 g12 hv12; have Ow12 := hid hown12; have G12 := hid g12; clear hown12 g12 hv12))
  go_ret
  have h := Ow12.out
  rw [Hbd.out, HS1.out, Hbd.out] at h
  exact ⟨_, rfl, by rw [Ck.length_bytes]; exact h, own_below_of J11.out.1 G12.out J11.out.2.1 (Nat.le_refl _) J11.out.2.1.size⟩

set_option maxRecDepth 100000 in
set_option maxHeartbeats 4000000 in
theorem refread_any (w : World) (no1 : Nat → Prop) (l : List UInt8) (n : Nat) (hn : l.length = n) (hmost : n < 1000000) (a : Option Addr) (cap : Nat) (hb : Bytes w no1 a cap l)
    (t : List UInt8) (m : Nat) (hm : t.length = m) (a2 : Option Addr) (cap2 : Nat) (hb2 : Bytes w (fun _ => False) a2 cap2 t) :
    Calls Tryd.prog 35 #[.slice a n cap, .slice a2 m cap2] w fun e w' => e = .returned (.tuple #[.agg (ckCells (Ck.read l t).1).toArray, .int .i64 ((Ck.read l t).2 : Int)]) ∧ Below w.heap.size w w' := by
  have hcap2 : m ≤ cap2 ∧ cap2 ≤ 9223372036854775807 := by have h1 := hb2.1; have h2 := hb2.2.1; unfold maxLen at h2; omega
  have Hb := hid hb
  have Hb2 := hid hb2
  have Hn := hid hn
  have Hm := hid hm
  have I1 : Hid (∀ c : Ck, (Tryd.prog.info? 66).map (·.size) = some (ckCells c).length) := fun c => (show (Tryd.prog.info? 66).map (·.size) = some 8 by kernel_rfl)
  clear hb hb2 hn hm
  obtain ⟨w3, hw3⟩ : ∃ w3, w3 = (w.alloc (.cells (ckCells Ck.none).toArray 66)).alloc (.cells (ckCells Ck.none).toArray 66) := ⟨_, rfl⟩
  have z3 : w3.heap.size = w.heap.size + 2 := by rw [hw3]; simp
  have b3 : Below w.heap.size w w3 := by rw [hw3]; exact ((Below.refl _ _).alloc (Nat.le_refl _) _).alloc (by simp) _
  have r4 : HasRow w3 w.heap.size (ckCells Ck.none) 66 := by rw [hw3]; exact (HasRow.new _ _ _).alloc _
  have r6 : HasRow w3 (w.heap.size + 1) (ckCells Ck.none) 66 := by
    rw [hw3]
    have := HasRow.new (w.alloc (.cells (ckCells Ck.none).toArray 66)) (ckCells Ck.none) 66
    rwa [show (w.alloc (.cells (ckCells Ck.none).toArray 66)).heap.size = w.heap.size + 1 by simp] at this
  have Z3 := hid z3
  have B3 := hid b3
  have R4 := hid r4
  have R6 := hid r6
  have T6 := hid r6.tab
  have Hw3 := hid hw3
  clear z3 b3 r4 r6 hw3
  by_cases h64 : m = 64
  · subst h64
    obtain ⟨r, hr⟩ : ∃ r, r = Ck.read l t := ⟨_, rfl⟩
    rw [← hr]
    have Hr := hid hr
    clear hr
    obtain ⟨b2, off2, hab, _, lt2, hc2⟩ := Hb2.out.2.2 (by intro e; have := Hm.out; rw [e] at this; simp at this)
    subst hab
    obtain ⟨BD, hBD⟩ : ∃ BD, BD = t.take 32 := ⟨_, rfl⟩
    obtain ⟨SM, hSM⟩ : ∃ SM, SM = t.drop 32 := ⟨_, rfl⟩
    have L32 : Hid (BD.length = 32) := by show _ = _; rw [hBD, List.length_take, Hm.out]; rfl
    have S32 : Hid (SM.length = 32) := by show _ = _; rw [hSM, List.length_drop, Hm.out]
    have BB : Hid (Bytes w3 (fun _ => False) (some ⟨b2, off2, none⟩) cap2 BD) := by rw [hBD]; exact (Hb2.out.below_of B3.out).take 32
    have BS : Hid (Bytes w3 (fun _ => False) (some ⟨b2, off2 + 32, none⟩) (cap2 - 32) SM) := by
      have := (Hb2.out.below_of B3.out).drop 32 (by rw [Hm.out]; omega) (by omega)
      show Bytes _ _ _ _ _
      rw [hSM]
      simpa [addr_add] using this
    have HBD := hid hBD
    have HSM := hid hSM
    clear hc2 hBD hSM
    have hc32 : 32 ≤ cap2 := by omega
    have hcne : ¬ cap2 = 32 := by omega
    go_enter Tryd.func35, Tryd.ntmps35
    go_wp2_with fail
    have k1 := refmac_any w3 _ _ l n Hn.out (by omega) a cap (Hb.out.below_of B3.out) BD 32 L32.out (by omega) (some ⟨b2, off2, none⟩) cap2 BB.out
    rw [Hw3.out] at k1
    refine k1.mono ?_
    clear k1
    rintro e w4 ⟨rfl, b4⟩
    rw [← Hw3.out] at b4
    obtain ⟨S1, hS1⟩ : ∃ S1, S1 = Sha.mac l BD := ⟨_, rfl⟩
    rw [← hS1]
    have L1 : Hid (S1.length = 32) := by rw [hS1]; exact Sha.length_mac _ _
    have HS1 := hid hS1
    have B4 := hid b4
    have N4 := hid (HasRow.new w4 (bv (List.replicate 32 0)) 106)
    have F3 : Hid ((Tryd.prog.info? 106).map (·.size) = some (bv S1).length) := by rw [length_bv, L1.out]; exact (show (Tryd.prog.info? 106).map (·.size) = some 32 by kernel_rfl)
    have F4 : Hid (0 + (bv S1).length ≤ (bv (List.replicate 32 0)).length) := by rw [length_bv, L1.out]; exact Nat.le_refl 32
    have F5 : Hid ((bv (List.replicate 32 0)).length = (bv S1).length) := by rw [length_bv S1, L1.out]; rfl
    clear b4 hS1
    go_wp2_with (refine wpList_store_into rfl 106 _ _ rfl w4.heap.size 0 rfl (bv S1) rfl (bv (List.replicate 32 0)) 106 N4.out F3.out F4.out (one_bv _) ?_; intro w5 h4 g4 s4; rw [splice_all _ _ F5.out] at h4; have H5 := hid h4; have G5 := hid g4; clear h4 g4 s4)
    have B35 : Hid (Below w3.heap.size w3 w5) := (B4.out.alloc B4.out.size _).grown G5.out (by simp; have := B4.out.size; omega) (by intro k hk; injection hk with hk; have := B4.out.size; omega)
    have BW5 : Hid (Below w.heap.size w w5) := B3.out.trans (B35.out.mono (by have := Z3.out; omega))
    have R45 : Hid (HasRow w5 w.heap.size (ckCells Ck.none) 66) := R4.out.below B35.out (by have := Z3.out; omega)
    have R65 : Hid (HasRow w5 (w.heap.size + 1) (ckCells Ck.none) 66) := R6.out.below B35.out (by have := Z3.out; omega)
    have cv1 := fun k => text_of (w5.drewN k) (fun _ => False) S1 32 L1.out (some ⟨w4.heap.size, 0, none⟩) 32 (bytes_row (H5.out.drewN k) _ (fun h => h) 32 L1.out (by omega))
    have cv2 := fun k => text_of (w5.drewN k) _ SM 32 S32.out (some ⟨b2, off2 + 32, none⟩) (cap2 - 32) ((BS.out.below_of B35.out).below_of (Drawn.below (show Drawn w5 (w5.drewN k) from ⟨k, rfl⟩) _))
    have te := text_eq S1 SM
    obtain ⟨Q, hQ⟩ : ∃ Q, Q = decide (S1 = SM) := ⟨_, rfl⟩
    rw [← hQ] at te
    have HQ := hid hQ
    clear hQ
    go_quiet (fail)
    obtain ⟨w5d, hw5d⟩ : ∃ wd, wd = w5.drewN nq := ⟨_, rfl⟩
    rw [← hw5d]
    have DD : Drawn w5 w5d := ⟨nq, hw5d⟩
    have R4d : Hid (HasRow w5d w.heap.size (ckCells Ck.none) 66) := DD.row R45.out
    have R6d : Hid (HasRow w5d (w.heap.size + 1) (ckCells Ck.none) 66) := DD.row R65.out
    have T6d : Hid (TabAt w5d (w.heap.size + 1) (ckCells Ck.none)) := R6d.out.tab
    have BW5d : Hid (Below w.heap.size w w5d) := BW5.out.trans ((DD.below _).mono BW5.out.size)
    clear hw5d DD
    clear cv1 cv2
    cases Q with
    | false =>
      have hss : ¬ S1 = SM := of_decide_eq_false HQ.out.symm
      have HR : Hid (r = (Ck.none, 10)) := by show _ = _; rw [Hr.out, Ck.read, if_pos Hm.out, if_neg (by rw [← HBD.out, ← HSM.out, ← HS1.out]; exact hss)]
      clear hss
      go_wp2_with (first
        | (refine wpList_load_part rfl 66 _ rfl (w.heap.size + 1) 0 8 rfl (ckCells Ck.none) _ T6d.out Tryd.underlying66 rfl (I1.out Ck.none) (Nat.le_refl 8) (ckCells Ck.none) rfl ?_)
        | (refine wpList_store_into rfl 66 _ _ rfl w.heap.size 0 rfl (ckCells Ck.none) rfl (ckCells Ck.none) 66 R4d.out (I1.out _) (Nat.le_refl _) (one_ck _) ?_; intro w7 h6 g6 s6; rw [splice_all (ckCells Ck.none) (ckCells Ck.none) rfl] at h6; have H7 := hid h6; have G7 := hid g6; clear h6 g6 s6))
      refine bodyPost_ret (v := .tuple #[.agg (ckCells Ck.none).toArray, .int .i64 10]) (results_cell_tmp_row (ty := 66) (p := 4) (u := 5) rfl _ w7 w.heap.size _ _ _ _ rfl H7.out Tryd.underlying66 rfl (I1.out Ck.none) _ rfl) rfl ⟨by rw [HR.out]; rfl, ?_⟩
      exact BW5d.out.grown G7.out BW5d.out.size (by intro k hk; injection hk with hk; omega)
    | true =>
      have hss : S1 = SM := of_decide_eq_true HQ.out.symm
      have HR : Hid (r = if (Ck.parse BD).may then (Ck.parse BD, 0) else (Ck.none, 7)) := by
        show _ = _
        rw [Hr.out, Ck.read, if_pos Hm.out, if_pos (by rw [← HBD.out, ← HSM.out, ← HS1.out]; exact hss), HBD.out]
      clear hss
      obtain ⟨x0, hx0⟩ : ∃ x, x = Num.number t 0 8 := ⟨_, rfl⟩
      have xl0 : x0 < 18446744073709551616 := by rw [hx0]; exact Num.number_lt t 0 8
      have e0 : IntKind.i64.wrap (x0 : Int) = Num.i64 x0 := wrap_i64 _ xl0
      obtain ⟨x1, hx1⟩ : ∃ x, x = Num.number t 8 4 := ⟨_, rfl⟩
      have xl1 : x1 < 4294967296 := by rw [hx1]; exact Num.number_lt t 8 4
      have e1 : IntKind.u32.wrap (x1 : Int) = (x1 : Int) := by rw [IntKind.wrap_u32']; omega
      obtain ⟨x2, hx2⟩ : ∃ x, x = Num.number t 12 4 := ⟨_, rfl⟩
      have xl2 : x2 < 4294967296 := by rw [hx2]; exact Num.number_lt t 12 4
      have e2 : IntKind.u32.wrap (x2 : Int) = (x2 : Int) := by rw [IntKind.wrap_u32']; omega
      obtain ⟨x3, hx3⟩ : ∃ x, x = Num.number t 16 4 := ⟨_, rfl⟩
      have xl3 : x3 < 4294967296 := by rw [hx3]; exact Num.number_lt t 16 4
      have e3 : IntKind.u32.wrap (x3 : Int) = (x3 : Int) := by rw [IntKind.wrap_u32']; omega
      obtain ⟨x4, hx4⟩ : ∃ x, x = Num.number t 20 4 := ⟨_, rfl⟩
      have xl4 : x4 < 4294967296 := by rw [hx4]; exact Num.number_lt t 20 4
      have e4 : IntKind.u32.wrap (x4 : Int) = (x4 : Int) := by rw [IntKind.wrap_u32']; omega
      obtain ⟨x5, hx5⟩ : ∃ x, x = Num.number t 24 4 := ⟨_, rfl⟩
      have xl5 : x5 < 4294967296 := by rw [hx5]; exact Num.number_lt t 24 4
      have e5 : IntKind.u32.wrap (x5 : Int) = (x5 : Int) := by rw [IntKind.wrap_u32']; omega
      obtain ⟨x6, hx6⟩ : ∃ x, x = Num.number t 28 2 := ⟨_, rfl⟩
      have xl6 : x6 < 65536 := by rw [hx6]; exact Num.number_lt t 28 2
      have e6 : IntKind.u16.wrap (x6 : Int) = (x6 : Int) := wrap_u16 x6 xl6
      obtain ⟨x7, hx7⟩ : ∃ x, x = Num.number t 30 2 := ⟨_, rfl⟩
      have xl7 : x7 < 65536 := by rw [hx7]; exact Num.number_lt t 30 2
      have e7 : IntKind.u16.wrap (x7 : Int) = (x7 : Int) := wrap_u16 x7 xl7
      obtain ⟨C, hC⟩ : ∃ C : Ck, C = ⟨Num.i64 x0, x1, x2, x3, x4, x5, x6, x7⟩ := ⟨_, rfl⟩
      have CP : Hid (Ck.parse BD = C) := by
        show _ = _
        rw [hC, HBD.out, Ck.parse, Num.number_take t 0 8 32 (by omega), Num.number_take t 8 4 32 (by omega), Num.number_take t 12 4 32 (by omega), Num.number_take t 16 4 32 (by omega), Num.number_take t 20 4 32 (by omega), Num.number_take t 24 4 32 (by omega), Num.number_take t 28 2 32 (by omega), Num.number_take t 30 2 32 (by omega), ← hx0, ← hx1, ← hx2, ← hx3, ← hx4, ← hx5, ← hx6, ← hx7]
      have CO : Hid C.Ok := by show Ck.Ok C; rw [← CP.out]; exact Ck.parse_ok BD
      rw [CP.out] at HR
      obtain ⟨M, hM⟩ : ∃ M, M = C.may := ⟨_, rfl⟩
      rw [← hM] at HR
      have MA : Hid (∀ w, Calls Tryd.prog 67 #[.agg (ckCells C).toArray] w fun e w' => e = .returned (.bool M) ∧ Below w.heap.size w w') := by
        intro w
        rw [hM]; exact refmay_any w C CO.out
      have Hx0 := hid hx0
      have Hx1 := hid hx1
      have Hx2 := hid hx2
      have Hx3 := hid hx3
      have Hx4 := hid hx4
      have Hx5 := hid hx5
      have Hx6 := hid hx6
      have Hx7 := hid hx7
      have HC := hid hC
      have Z5 : Hid (w.heap.size + 1 < w5d.heap.size) := R6d.out.lt
      clear hM hC hx0 hx1 hx2 hx3 hx4 hx5 hx6 hx7
      go_wp2_with fail
      refine (refnumber_any w5d (fun _ => False) t 64 Hm.out (by omega) (some ⟨b2, off2, none⟩) cap2 (Hb2.out.below_of BW5d.out) 0 8 0 8 rfl rfl (by omega) (by omega)).mono ?_
      rintro e y0 ⟨rfl, b⟩
      rw [← Hx0.out]
      have C0 : Hid (Below w.heap.size w y0) := BW5d.out.trans (b.mono BW5d.out.size)
      have E0 : Hid (Below w5d.heap.size w5d y0) := hid b
      clear b
      go_wp2_with fail
      refine (refnumber_any y0 (fun _ => False) t 64 Hm.out (by omega) (some ⟨b2, off2, none⟩) cap2 (Hb2.out.below_of C0.out) 8 4 8 4 rfl rfl (by omega) (by omega)).mono ?_
      rintro e y1 ⟨rfl, b⟩
      rw [← Hx1.out]
      have C1 : Hid (Below w.heap.size w y1) := C0.out.trans (b.mono C0.out.size)
      have E1 : Hid (Below w5d.heap.size w5d y1) := E0.out.trans (b.mono E0.out.size)
      clear b
      go_wp2_with fail
      refine (refnumber_any y1 (fun _ => False) t 64 Hm.out (by omega) (some ⟨b2, off2, none⟩) cap2 (Hb2.out.below_of C1.out) 12 4 12 4 rfl rfl (by omega) (by omega)).mono ?_
      rintro e y2 ⟨rfl, b⟩
      rw [← Hx2.out]
      have C2 : Hid (Below w.heap.size w y2) := C1.out.trans (b.mono C1.out.size)
      have E2 : Hid (Below w5d.heap.size w5d y2) := E1.out.trans (b.mono E1.out.size)
      clear b
      go_wp2_with fail
      refine (refnumber_any y2 (fun _ => False) t 64 Hm.out (by omega) (some ⟨b2, off2, none⟩) cap2 (Hb2.out.below_of C2.out) 16 4 16 4 rfl rfl (by omega) (by omega)).mono ?_
      rintro e y3 ⟨rfl, b⟩
      rw [← Hx3.out]
      have C3 : Hid (Below w.heap.size w y3) := C2.out.trans (b.mono C2.out.size)
      have E3 : Hid (Below w5d.heap.size w5d y3) := E2.out.trans (b.mono E2.out.size)
      clear b
      go_wp2_with fail
      refine (refnumber_any y3 (fun _ => False) t 64 Hm.out (by omega) (some ⟨b2, off2, none⟩) cap2 (Hb2.out.below_of C3.out) 20 4 20 4 rfl rfl (by omega) (by omega)).mono ?_
      rintro e y4 ⟨rfl, b⟩
      rw [← Hx4.out]
      have C4 : Hid (Below w.heap.size w y4) := C3.out.trans (b.mono C3.out.size)
      have E4 : Hid (Below w5d.heap.size w5d y4) := E3.out.trans (b.mono E3.out.size)
      clear b
      go_wp2_with fail
      refine (refnumber_any y4 (fun _ => False) t 64 Hm.out (by omega) (some ⟨b2, off2, none⟩) cap2 (Hb2.out.below_of C4.out) 24 4 24 4 rfl rfl (by omega) (by omega)).mono ?_
      rintro e y5 ⟨rfl, b⟩
      rw [← Hx5.out]
      have C5 : Hid (Below w.heap.size w y5) := C4.out.trans (b.mono C4.out.size)
      have E5 : Hid (Below w5d.heap.size w5d y5) := E4.out.trans (b.mono E4.out.size)
      clear b
      go_wp2_with fail
      refine (refnumber_any y5 (fun _ => False) t 64 Hm.out (by omega) (some ⟨b2, off2, none⟩) cap2 (Hb2.out.below_of C5.out) 28 2 28 2 rfl rfl (by omega) (by omega)).mono ?_
      rintro e y6 ⟨rfl, b⟩
      rw [← Hx6.out]
      have C6 : Hid (Below w.heap.size w y6) := C5.out.trans (b.mono C5.out.size)
      have E6 : Hid (Below w5d.heap.size w5d y6) := E5.out.trans (b.mono E5.out.size)
      clear b
      go_wp2_with fail
      refine (refnumber_any y6 (fun _ => False) t 64 Hm.out (by omega) (some ⟨b2, off2, none⟩) cap2 (Hb2.out.below_of C6.out) 30 2 30 2 rfl rfl (by omega) (by omega)).mono ?_
      rintro e y7 ⟨rfl, b⟩
      rw [← Hx7.out]
      have C7 : Hid (Below w.heap.size w y7) := C6.out.trans (b.mono C6.out.size)
      have E7 : Hid (Below w5d.heap.size w5d y7) := E6.out.trans (b.mono E6.out.size)
      clear b
      obtain ⟨w8, hw8⟩ : ∃ w8, w8 = y7.alloc (.cells (ckCells C).toArray 66) := ⟨_, rfl⟩
      have R8 : Hid (HasRow w8 y7.heap.size (ckCells C) 66) := by rw [hw8]; exact HasRow.new _ _ _
      have C8 : Hid (Below w.heap.size w w8) := by rw [hw8]; exact C7.out.alloc C7.out.size _
      have E8 : Hid (Below w5d.heap.size w5d w8) := by rw [hw8]; exact E7.out.alloc E7.out.size _
      have hww := hw8.symm
      rw [HC.out] at hww
      simp only [ckCells] at hww
      have T8 : Hid (TabAt w8 y7.heap.size (ckCells C)) := R8.out.tab
      clear hw8
      go_wp2_with (refine wpList_load_part rfl 66 _ rfl y7.heap.size 0 8 rfl (ckCells C) _ T8.out Tryd.underlying66 rfl (I1.out C) (Nat.le_refl 8) (ckCells C) rfl ?_)
      refine (MA.out _).mono ?_
      rintro e w12 ⟨rfl, b12⟩
      have B12 : Hid (Below w.heap.size w w12) := C8.out.trans (b12.mono C8.out.size)
      have E12 : Hid (Below w5d.heap.size w5d w12) := E8.out.trans (b12.mono E8.out.size)
      have T12 : Hid (TabAt w12 y7.heap.size (ckCells C)) := (R8.out.below b12 R8.out.lt).tab
      have U12 : Hid (TabAt w12 (w.heap.size + 1) (ckCells Ck.none)) := (R6d.out.below E12.out R6d.out.lt).tab
      have R12 : Hid (HasRow w12 w.heap.size (ckCells Ck.none) 66) := R4d.out.below E12.out R4d.out.lt
      clear b12 hww
      cases M with
      | false =>
        go_wp2_with (first
          | (refine wpList_load_part rfl 66 _ rfl (w.heap.size + 1) 0 8 rfl (ckCells Ck.none) _ U12.out Tryd.underlying66 rfl (I1.out Ck.none) (Nat.le_refl 8) (ckCells Ck.none) rfl ?_)
          | (refine wpList_store_into rfl 66 _ _ rfl w.heap.size 0 rfl (ckCells Ck.none) rfl (ckCells Ck.none) 66 R12.out (I1.out _) (Nat.le_refl _) (one_ck _) ?_; intro w13 h6 g6 s6; rw [splice_all (ckCells Ck.none) (ckCells Ck.none) rfl] at h6; have H13 := hid h6; have G13 := hid g6; clear h6 g6 s6))
        refine bodyPost_ret (v := .tuple #[.agg (ckCells Ck.none).toArray, .int .i64 7]) (results_cell_tmp_row (ty := 66) (p := 4) (u := 5) rfl _ w13 w.heap.size _ _ _ _ rfl H13.out Tryd.underlying66 rfl (I1.out Ck.none) _ rfl) rfl ⟨by rw [HR.out]; rfl, ?_⟩
        exact B12.out.grown G13.out B12.out.size (by intro k hk; injection hk with hk; omega)
      | true =>
        go_wp2_with (first
          | (refine wpList_load_part rfl 66 _ rfl y7.heap.size 0 8 rfl (ckCells C) _ T12.out Tryd.underlying66 rfl (I1.out C) (Nat.le_refl 8) (ckCells C) rfl ?_)
          | (refine wpList_store_into rfl 66 _ _ rfl w.heap.size 0 rfl (ckCells C) rfl (ckCells Ck.none) 66 R12.out (I1.out _) (Nat.le_refl 8) (one_ck _) ?_; intro w13 h6 g6 s6; rw [splice_all (ckCells Ck.none) (ckCells C) rfl] at h6; have H13 := hid h6; have G13 := hid g6; clear h6 g6 s6))
        refine bodyPost_ret (v := .tuple #[.agg (ckCells C).toArray, .int .i64 0]) (results_cell_tmp_row (ty := 66) (p := 4) (u := 5) rfl _ w13 w.heap.size _ _ _ _ rfl H13.out Tryd.underlying66 rfl (I1.out C) _ rfl) rfl ⟨by rw [HR.out]; rfl, ?_⟩
        exact B12.out.grown G13.out B12.out.size (by intro k hk; injection hk with hk; omega)
  · have hr : Ck.read l t = (Ck.none, 7) := by rw [Ck.read, if_neg (by rw [Hm.out]; exact h64)]
    rw [hr]
    have hne : ((m : Int) != 64) = true := by simp; omega
    have hww := Hw3.out.symm
    simp only [ckCells, Ck.none] at hww
    clear hr
    go_enter Tryd.func35, Tryd.ntmps35
    go_wp2_with fail
    refine bodyPost_ret (v := .tuple #[.agg (ckCells Ck.none).toArray, .int .i64 7]) (results_cell_tmp_row (ty := 66) (p := 4) (u := 5) rfl _ _ w.heap.size _ _ _ _ rfl ((HasRow.new w (ckCells Ck.none) 66).alloc (.cells (ckCells Ck.none).toArray 66)) Tryd.underlying66 rfl (I1.out Ck.none) _ rfl) rfl ⟨rfl, ?_⟩
    exact ((Below.refl _ _).alloc (Nat.le_refl _) _).alloc (by simp) _

set_option maxHeartbeats 1000000 in
theorem reffresh_any (w : World) (c : Ck) (hc : c.Ok) (now life : Int) (hn : -9223372036854775808 ≤ now ∧ now ≤ 9223372036854775807) (hl : -9223372036854775808 ≤ life ∧ life ≤ 9223372036854775807) :
    Calls Tryd.prog 37 #[.agg (ckCells c).toArray, .int .i64 now, .int .i64 life] w fun e w' => e = .returned (.bool (Num.fresh c.born now life)) ∧ Below w.heap.size w w' := by
  have b0 := hc.b0
  have b1 := hc.b1
  clear hc
  obtain ⟨b, t1, t2, t3, t4, t5, o, i⟩ := c
  simp only [ckCells, Num.fresh] at *
  by_cases h1 : 0 ≤ life
  · by_cases h2 : b ≤ now
    · have e1 : IntKind.u64.wrap (IntKind.u64.wrap now - IntKind.u64.wrap b) = now - b := by
        rw [IntKind.wrap_u64, IntKind.wrap_u64, IntKind.wrap_u64]; omega
      have e2 : IntKind.u64.wrap life = life := by rw [IntKind.wrap_u64]; omega
      by_cases h3 : now - b ≤ life
      · have hr : (decide (0 ≤ life) && decide (b ≤ now) && decide (now - b ≤ life)) = true := by simp [h1, h2, h3]
        rw [hr]
        clear hr
        go_enter Tryd.func37, Tryd.ntmps37
        go_wp2
        go_ret
        exact ⟨rfl, (Below.refl _ _).alloc (Nat.le_refl _) _⟩
      · have hr : (decide (0 ≤ life) && decide (b ≤ now) && decide (now - b ≤ life)) = false := by simp [h3]
        rw [hr]
        clear hr
        go_enter Tryd.func37, Tryd.ntmps37
        go_wp2
        go_ret
        exact ⟨rfl, (Below.refl _ _).alloc (Nat.le_refl _) _⟩
    · have hr : (decide (0 ≤ life) && decide (b ≤ now) && decide (now - b ≤ life)) = false := by simp [h2]
      rw [hr]
      clear hr
      go_enter Tryd.func37, Tryd.ntmps37
      go_wp2
      go_ret
      exact ⟨rfl, (Below.refl _ _).alloc (Nat.le_refl _) _⟩
  · have hr : (decide (0 ≤ life) && decide (b ≤ now) && decide (now - b ≤ life)) = false := by simp [h1]
    rw [hr]
    clear hr
    go_enter Tryd.func37, Tryd.ntmps37
    go_wp2
    go_ret
    exact ⟨rfl, (Below.refl _ _).alloc (Nat.le_refl _) _⟩

end Go.Proofs.YtgiagcopbibneaaDoor
