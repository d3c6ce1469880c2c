/- Contracts of cookie.words, cookie.Write, cookie.may, cookie.Derive. -/
import Derived.Test.YtgiagcopbibneaaDoorCk
import Derived.Deep.RegionHeld3
namespace Num
def flat (xs : List Nat) : List UInt8 := (xs.map (be 4)).flatten
theorem length_flat (xs : List Nat) : (flat xs).length = 4 * xs.length := by
  induction xs with
  | nil => rfl
  | cons x xs ih => simp [flat, length_be] at *; omega
theorem flat_next (xs : List Nat) (k : Nat) (h : k < xs.length) : flat (xs.take k) ++ be 4 (xs.getD k 0) = flat (xs.take (k + 1)) := by
  rw [List.take_succ_eq_append_getElem h]
  unfold flat
  rw [List.map_append, List.flatten_append]
  simp [List.getD_eq_getElem?_getD, h]
end Num
namespace Go.Proofs.YtgiagcopbibneaaDoor
open Go.RowKit
open Sha (W)
open Num (Ck)

/-- numbers of 32 bits as values -/
def uv (l : List Nat) : List Value := l.map fun x : Nat => Value.int .u32 (Int.ofNat x)
theorem length_uv (l : List Nat) : (uv l).length = l.length := by simp [uv]
theorem row_num {w : World} {B : Nat} {l : List Nat} {T : TypeId} (h : HasRow w B (uv l) T) (i : Nat) (hi : i < l.length) : w.cell? ⟨B, i, none⟩ = some (.int .u32 ((l.getD i 0 : Nat) : Int)) := by
  rw [h.cell_any]; simp [uv, List.getD_eq_getElem?_getD, List.getElem?_eq_getElem hi]

set_option maxRecDepth 100000 in
set_option maxHeartbeats 2000000 in
theorem ckwords_any (w : World) (no : Nat → Prop) (l : List UInt8) (n : Nat) (hn : l.length = n) (hmost : n < 1000000) (a : Option Addr) (cap : Nat) (hb : Bytes w no a cap l)
    (xs : List Nat) (m : Nat) (hm : xs.length = m) (h0 : 0 < m) (hmm : m < 1000) (g cm : Nat) (hr : HasRow w g (uv xs) 31) (hx : ∀ k, xs.getD k 0 < 4294967296) :
    Calls Tryd.prog 58 #[.slice a n cap, .slice (some ⟨g, 0, none⟩) m cm] w (OwnBytes w (l ++ Num.flat xs)) := by
  have glt := hr.lt
  have Hb : Hid (Bytes w (fun _ => False) a cap l) := hb.other (fun _ _ _ h => h)
  have Hn := hid hn
  have Hm := hid hm
  have Hr := hid hr
  have Hx := hid hx
  clear hb hn hm hr hx
  go_enter Tryd.func58, Tryd.ntmps58
  go_wp2_with fail
  go_loopw [0, 6, 9] (fun v u i wr => ∃ k : Nat, k ≤ m ∧ i = .int .i64 (k : Int) ∧ (∃ a' cap', v = .slice a' (n + 4 * k) cap' ∧ Bytes wr (fun _ => False) a' cap' (l ++ Num.flat (xs.take k))) ∧ (0 < k → wr.ownsRow w.heap.size 5 1 v (n + 4 * k) (bv (l ++ Num.flat (xs.take k)))) ∧ Below w.heap.size w wr) (fun _ _ i _ => m - (intOf i).toNat)
  case atStart => exact ⟨0, by omega, rfl, ⟨a, cap, rfl, by simpa [Num.flat] using Hb.out⟩, fun h => absurd h (Nat.lt_irrefl 0), Below.refl _ _⟩
  case round =>
    obtain ⟨k, hk, rfl, ⟨a', cap', hv, hby⟩, ow, bb⟩ := hrel
    subst hv
    obtain ⟨wo, rfl⟩ : ∃ wo : World, wo = wr := ⟨_, rfl⟩
    have Oy := hid ow
    have Bb := hid bb
    have Hby := hid hby
    clear ow bb hby
    have Zo := hid Bb.out.size
    by_cases hkm : k < m
    · obtain ⟨x, hx⟩ : ∃ x, x = xs.getD k 0 := ⟨_, rfl⟩
      have xl := Hx.out k
      have c1 : wo.cell? ⟨g, k, none⟩ = some (.int .u32 (x : Int)) := by rw [hx]; exact row_num (Hr.out.below Bb.out glt) k (by rw [Hm.out]; exact hkm)
      rw [← hx] at xl
      have e1 : IntKind.u64.wrap (x : Int) = (x : Int) := by rw [IntKind.wrap_u64]; omega
      have HX := hid hx
      have L1 : Hid ((l ++ Num.flat (xs.take k)).length = n + 4 * k) := by show _ = _; rw [List.length_append, Hn.out, Num.length_flat, List.length_take, Hm.out, Nat.min_eq_left hk]
      clear hx
      go_wp2_with fail
      refine (put_any wo _ (l ++ Num.flat (xs.take k)) (n + 4 * k) L1.out (by omega) a' cap' Hby.out x 4 (by omega)).mono ?_
      rintro e w4 ⟨v4, rfl, ow4, b4⟩
      rw [List.length_append, L1.out, Num.length_be, List.append_assoc, HX.out, Num.flat_next xs k (by rw [Hm.out]; exact hkm)] at ow4
      have Ow4 : Hid (w4.ownsRow w.heap.size 5 1 v4 (n + 4 * (k + 1)) (bv (l ++ Num.flat (xs.take (k + 1))))) := own_base ow4 Zo.out
      obtain ⟨a5, c5, hv5, hb5, _⟩ := own_open Ow4.out (fun _ => False) (fun _ _ h => h)
      have Hv5 := hid hv5
      have Hb5 := hid hb5
      have Bb4 : Hid (Below w.heap.size w w4) := Bb.out.trans (b4.mono Zo.out)
      clear ow4 b4 hv5 hb5
      go_wp2_with fail
      go_roundw
      case rel => exact ⟨k + 1, by omega, by go_num, ⟨a5, c5, Hv5.out, Hb5.out⟩, fun _ => Ow4.out, Bb4.out⟩
      case measure => simp [intOf]; omega
    · have e8 : k = m := by omega
      subst e8
      have h := Oy.out h0
      rw [List.take_of_length_le (by rw [Hm.out]; exact Nat.le_refl k)] at h
      have H := hid h
      clear h
      go_wp2_with fail
      go_ret
      exact ⟨_, rfl, by rw [List.length_append, Hn.out, Num.length_flat, Hm.out]; exact H.out, Bb.out⟩

theorem put_lit (w : World) (no : Nat → Prop) (l : List UInt8) (n : Nat) (hn : l.length = n) (hmost : n < 1000000000) (a : Option Addr) (cap : Nat) (hb : Bytes w no a cap l) (x : Nat) (s : Nat) (S : Int) (hS : (s : Int) = S) (hs : s = 1 ∨ s = 2 ∨ s = 4 ∨ s = 8) :
    Calls Tryd.prog 57 #[.slice a n cap, .int .u64 (x : Int), .int .i64 S] w (OwnBytes w (l ++ Num.be s x)) := by subst hS; exact put_any w no l n hn hmost a cap hb x s hs

/-- what stays while a cookie's fields are read -/
structure Kc (w : World) (B : Nat) (c : Ck) (w' : World) : Prop where
  row : HasRow w' B (ckCells c) 66
  bel : Below w.heap.size w w'
theorem Kc.drew {w w' : World} {B : Nat} {c : Ck} (h : Kc w B c w') : Kc w B c w'.drew := ⟨h.row, h.bel.drew⟩
theorem Kc.alloc {w w' : World} {B : Nat} {c : Ck} (h : Kc w B c w') (o : Obj) : Kc w B c (w'.alloc o) := ⟨h.row.alloc o, h.bel.alloc h.bel.size o⟩
theorem Kc.below {w w' w'' : World} {B : Nat} {c : Ck} (h : Kc w B c w') (b : Below w'.heap.size w' w'') : Kc w B c w'' := ⟨h.row.below b h.row.lt, h.bel.trans (b.mono h.bel.size)⟩

theorem Kc.held {w w' : World} {B : Nat} {c : Ck} (h : Kc w B c w') : w'.cell? ⟨B, 0, none⟩ = some (.int .i64 c.born) ∧ w'.cell? ⟨B, 6, none⟩ = some (.int .u16 (c.out : Int)) ∧ w'.cell? ⟨B, 7, none⟩ = some (.int .u16 (c.inn : Int)) ∧ Kc w B c w' := ⟨h.row.cell_any 0, h.row.cell_any 6, h.row.cell_any 7, h⟩

theorem ckbody_flat (c : Ck) : ((Num.be 8 (Num.u64 c.born) ++ Num.flat [c.ownTag, c.peerTag, c.ownTsn, c.peerTsn, c.peerRwnd]) ++ Num.be 2 c.out) ++ Num.be 2 c.inn = c.body := by
  simp [Num.flat, Ck.body]

set_option maxRecDepth 100000 in
set_option maxHeartbeats 2000000 in
theorem write_ck_any (w : World) (htab : Tabs w) (h2 : 2 ≤ w.heap.size) (no : Nat → Prop) (l : List UInt8) (n : Nat) (hn : l.length = n) (hmost : n < 1000000) (a : Option Addr) (cap : Nat) (hb : Bytes w no a cap l) (c : Ck) (hc : c.Ok) :
    Calls Tryd.prog 32 #[.slice a n cap, .agg (ckCells c).toArray] w (OwnBytes w (c.bytes l)) := by
  obtain ⟨i0, hi, hz0, hz1, hz2⟩ := info_parts info_u8
  have Hi := hid hi
  have Hz0 := hid hz0
  have Hz1 := hid hz1
  have Hz2 := hid hz2
  obtain ⟨wa, hwa⟩ : ∃ wa, wa = w.alloc (.cells (ckCells c).toArray 66) := ⟨_, rfl⟩
  have k0 : Kc w w.heap.size c wa := by rw [hwa]; exact ⟨HasRow.new _ _ _, (Below.refl _ _).alloc (Nat.le_refl _) _⟩
  have K0 := hid k0
  have Hb := hid hb
  have Hn := hid hn
  have Hc := hid hc
  have Htab := hid htab
  have hww := hwa.symm
  have u1 : IntKind.u64.wrap c.born = ((Num.u64 c.born : Nat) : Int) := by rw [IntKind.wrap_u64, Num.u64_cast]
  have u2 : IntKind.u64.wrap (c.out : Int) = (c.out : Int) := by have := hc.h6; rw [IntKind.wrap_u64]; omega
  have u3 : IntKind.u64.wrap (c.inn : Int) = (c.inn : Int) := by have := hc.h7; rw [IntKind.wrap_u64]; omega
  clear hi hz0 hz1 hz2 k0 hb hn hc htab hwa
  simp only [ckCells] at hww ⊢
  go_enter Tryd.func32, Tryd.ntmps32
  go_wp2_with fail
  obtain ⟨B, hB⟩ : ∃ B, B = w.heap.size := ⟨_, rfl⟩
  rw [← hB] at K0 ⊢
  have HB := hid hB
  have hmk : ∀ w, (Instr.makeSlice 29 (.int .i64 0) (.int .i64 64)).run Tryd.prog w = .ok (.slice (some ⟨w.heap.size, 0, none⟩) 0 64) (w.alloc (.cells (bv (List.replicate 64 0)).toArray 5)) := fun _ => by kernel_rfl
  clear hww hB
  go_region_held3 (fun w' => w'.cell? ⟨B, 0, none⟩ = some (.int .i64 c.born) ∧ w'.cell? ⟨B, 6, none⟩ = some (.int .u16 (c.out : Int)) ∧ w'.cell? ⟨B, 7, none⟩ = some (.int .u16 (c.inn : Int)) ∧ Kc w B c w')
    (first | exact K0.out.drew.held | exact (K0.out.drew.alloc _).held | exact (K0.out.alloc _).drew.held | exact K5.out.held | fail)
    (first
      | (go_at_call 57; refine (put_any _ (fun _ => False) [] 0 rfl (by omega) _ 64 (Bytes.nil _ _ _ _ (by decide)) (Num.u64 c.born) 8 (by omega)).mono ?_; rintro e w5 ⟨v5, rfl, ow5, b5⟩; have K5 : Hid (Kc w B c w5) := (by first | exact (K0.out.drew.alloc _).below b5 | exact (K0.out.alloc _).drew.below b5); have Ow5 := hid ow5; have B5 := hid b5; clear ow5 b5))
  obtain ⟨a5, c5, hv5, hb5, _⟩ := own_open Ow5.out (fun _ => False) (fun _ _ h => h)
  subst hv5
  have Hb5 : Hid (Bytes w5 (fun _ => False) a5 c5 (Num.be 8 (Num.u64 c.born))) := hb5
  have x1 : w5.cell? ⟨B, 1, none⟩ = some (.int .u32 (c.ownTag : Int)) := K5.out.row.cell_any 1
  have x2 : w5.cell? ⟨B, 2, none⟩ = some (.int .u32 (c.peerTag : Int)) := K5.out.row.cell_any 2
  have x3 : w5.cell? ⟨B, 3, none⟩ = some (.int .u32 (c.ownTsn : Int)) := K5.out.row.cell_any 3
  have x4 : w5.cell? ⟨B, 4, none⟩ = some (.int .u32 (c.peerTsn : Int)) := K5.out.row.cell_any 4
  have x5 : w5.cell? ⟨B, 5, none⟩ = some (.int .u32 (c.peerRwnd : Int)) := K5.out.row.cell_any 5
  have R6 : Hid (HasRow (w5.alloc (.cells (uv [c.ownTag, c.peerTag, c.ownTsn, c.peerTsn, c.peerRwnd]).toArray 31)) w5.heap.size (uv [c.ownTag, c.peerTag, c.ownTsn, c.peerTsn, c.peerRwnd]) 31) := HasRow.new _ _ _
  have K6 : Hid (Kc w B c (w5.alloc (.cells (uv [c.ownTag, c.peerTag, c.ownTsn, c.peerTsn, c.peerRwnd]).toArray 31))) := K5.out.alloc _
  have L8 : Hid ((Num.be 8 (Num.u64 c.born)).length = 8) := Num.length_be _ _
  have X5 : Hid (∀ k, [c.ownTag, c.peerTag, c.ownTsn, c.peerTsn, c.peerRwnd].getD k 0 < 4294967296) := fun k => by
    match k with
    | 0 => exact Hc.out.h1
    | 1 => exact Hc.out.h2
    | 2 => exact Hc.out.h3
    | 3 => exact Hc.out.h4
    | 4 => exact Hc.out.h5
    | k + 5 => exact Nat.zero_lt_succ _
  clear hb5 hmk Ow5
  go_wp2_with fail
  refine (ckwords_any _ (fun _ => False) (Num.be 8 (Num.u64 c.born)) 8 L8.out (by omega) a5 c5 (Hb5.out.below_of ((Below.refl _ _).alloc (Nat.le_refl _) _)) [c.ownTag, c.peerTag, c.ownTsn, c.peerTsn, c.peerRwnd] 5 rfl (by omega) (by omega) w5.heap.size 5 R6.out X5.out).mono ?_
  rintro e w7 ⟨v7, rfl, ow7, b7⟩
  have K7 : Hid (Kc w B c w7) := K6.out.below b7
  have L28 : Hid ((Num.be 8 (Num.u64 c.born) ++ Num.flat [c.ownTag, c.peerTag, c.ownTsn, c.peerTsn, c.peerRwnd]).length = 28) := by show _ = _; rw [List.length_append, Num.length_be, Num.length_flat]; rfl
  rw [L28.out] at ow7
  obtain ⟨a7, c7, hv7, hb7, _⟩ := own_open ow7 (fun _ => False) (fun _ _ h => h)
  subst hv7
  have Hb7 : Hid (∀ w', Below w7.heap.size w7 w' → Bytes w' (fun _ => False) a7 c7 (Num.be 8 (Num.u64 c.born) ++ Num.flat [c.ownTag, c.peerTag, c.ownTsn, c.peerTsn, c.peerRwnd])) := fun w' h => hb7.below_of h
  have D7 : Hid (Below w7.heap.size w7 w7.drew) := (Below.refl _ _).drew
  clear ow7 b7 hb7 x1 x2 x3 x4 x5
  go_wp2_with fail
  go_region_held3 (fun w' => w'.cell? ⟨B, 0, none⟩ = some (.int .i64 c.born) ∧ w'.cell? ⟨B, 6, none⟩ = some (.int .u16 (c.out : Int)) ∧ w'.cell? ⟨B, 7, none⟩ = some (.int .u16 (c.inn : Int)) ∧ Kc w B c w')
    (first | exact K7.out.drew.held | exact K8.out.held | exact K9.out.held | fail)
    (first
      | (go_at_call 57; ((with_reducible refine (put_lit w7.drew (fun _ => False) _ 28 L28.out (by omega) a7 c7 (Hb7.out _ D7.out) c.out 2 2 rfl (by omega)).mono ?_); rintro e w8 ⟨v8, rfl, ow8, b8⟩; have K8 : Hid (Kc w B c w8) := K7.out.drew.below b8; have L30 : Hid (((Num.be 8 (Num.u64 c.born) ++ Num.flat [c.ownTag, c.peerTag, c.ownTsn, c.peerTsn, c.peerRwnd]) ++ Num.be 2 c.out).length = 30) := (by rw [List.length_append, L28.out, Num.length_be]; exact rfl); rw [L30.out] at ow8; obtain ⟨a8, c8, hv8, hb8, _⟩ := own_open ow8 (fun _ => False) (fun _ _ h => h); subst hv8; have Hb8 := hid hb8; clear ow8 b8 hb8))
      | (go_at_call 57; ((with_reducible refine (put_lit w8 (fun _ => False) _ 30 L30.out (by omega) a8 c8 Hb8.out c.inn 2 2 rfl (by omega)).mono ?_); rintro e w9 ⟨v9, rfl, ow9, b9⟩; have K9 : Hid (Kc w B c w9) := K8.out.below b9; have Ow9 := hid (own_base ow9 K8.out.bel.size); clear ow9 b9))
      | fail)
  go_wp2_with fail
  rw [ckbody_flat] at Ow9
  obtain ⟨bd, hbd⟩ : ∃ bd, bd = c.body := ⟨_, rfl⟩
  rw [← hbd] at Ow9
  have L32 : Hid (bd.length = 32) := by rw [hbd]; exact c.length_body
  rw [L32.out] at Ow9
  have Hbd := hid hbd
  obtain ⟨a9, c9, hv9, hb9, _⟩ := own_open Ow9.out (fun _ => False) (fun _ _ h => h)
  subst hv9
  have Hb9 := hid hb9
  clear hb9 hbd
  refine (mac_any w9 (Htab.out.below h2 K9.out.bel) (by have := K9.out.bel.size; omega) no (fun _ => False) l n Hn.out (by omega) a cap (Hb.out.below_of K9.out.bel) bd 32 L32.out (by omega) a9 c9 Hb9.out).mono ?_
  rintro e w10 ⟨rfl, b10⟩
  obtain ⟨S1, hS1⟩ : ∃ S1, S1 = Sha.mac l bd := ⟨_, rfl⟩
  rw [← hS1]
  have L1 : Hid (S1.length = 32) := by rw [hS1]; exact Sha.length_mac _ _
  have HS1 := hid hS1
  have B10 : Hid (Below w.heap.size w w10) := K9.out.bel.trans (b10.mono K9.out.bel.size)
  have Ow10 := hid (own_below Ow9.out b10 (Nat.le_refl _))
  have N3 := hid (HasRow.new w10 (bv (List.replicate 32 0)) 106)
  have F3 : Hid ((Tryd.prog.info? 106).map (·.size) = some (bv S1).length) := by rw [length_bv, L1.out]; exact (show (Tryd.prog.info? 106).map (·.size) = some 32 by kernel_rfl)
  have F4 : Hid (0 + (bv S1).length ≤ (bv (List.replicate 32 0)).length) := by rw [length_bv, L1.out]; exact Nat.le_refl 32
  have F5 : Hid ((bv (List.replicate 32 0)).length = (bv S1).length) := by rw [length_bv S1, L1.out]; rfl
  have KK : Hid (∀ w11 : World, HasRow w11 w10.heap.size (bv S1) 106 → (w10.alloc (.cells (bv (List.replicate 32 0)).toArray 106)).grownBy w11 (some w10.heap.size) → w11.ownsRow w.heap.size 5 1 (.slice a9 32 c9) 32 (bv bd) ∧ Below w.heap.size w w11 ∧ (0 < 32 → ∃ b off, (some ⟨w10.heap.size, 0, none⟩ : Option Addr) = some ⟨b, off, none⟩ ∧ ∀ j, j < 32 → w11.cell? ⟨b, off + j, none⟩ = some (.int .u8 (bt8 (S1.getD j 0))))) := by
    intro w11 h11 g11
    have bw : Below w10.heap.size w10 w11 := ((Below.refl _ w10).alloc (Nat.le_refl _) _).grown g11 (by simp) (by intro k hk; injection hk with hk; omega)
    exact ⟨own_below Ow10.out bw (Nat.le_refl _), B10.out.trans (bw.mono B10.out.size), fun _ => ⟨w10.heap.size, 0, rfl, fun j hj => by rw [Nat.zero_add]; exact h11.byte j (by rw [L1.out]; exact hj)⟩⟩
  clear b10 hS1
  go_wp2_with (first
    | (refine wpList_store_into rfl 106 _ _ rfl w10.heap.size 0 rfl (bv S1) rfl (bv (List.replicate 32 0)) 106 N3.out F3.out F4.out (one_bv _) ?_; intro w11 h4 g4 s4; rw [splice_all _ _ F5.out] at h4; have J11 := hid (KK.out w11 h4 g4); clear h4 g4 s4)
    | (refine wpList_append_any rfl (.tmp 37) (.tmp 38) 29 rfl w.heap.size 5 i0 Tryd.underlying29 Hi.out Hz0.out Hz1.out Hz2.out _ 32 _ rfl J11.out.1 _ 32 32 S1 rfl L1.out J11.out.2.2 (by omega) J11.out.2.1.size ?_; intro v12 w12 hown12 g12 hv12; have Ow12 := hid hown12; have G12 := hid g12; clear hown12 g12 hv12))
  go_ret
  have h := Ow12.out
  rw [Hbd.out, HS1.out, Hbd.out] at h
  exact ⟨_, rfl, by rw [Ck.length_bytes]; exact h, own_below_of J11.out.1 G12.out J11.out.2.1 (Nat.le_refl _) J11.out.2.1.size⟩
end Go.Proofs.YtgiagcopbibneaaDoor
