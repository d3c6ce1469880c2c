/- CookieBack: for every input the law returns true and the input reads as it did. Conditions: the row's own (the tables are laid as the program's text lays them). -/
import Derived.Test.YtgiagcopbibneaaDoorCkFrame
namespace Num
theorem set_read (key : List UInt8) (c : Ck) (q : Nat) (hq : q < 32) (y : UInt8) (hy : y ≠ 0) : Ck.read key ((c.bytes key).set (32 + q) ((c.bytes key).getD (32 + q) 0 ^^^ y)) = (Ck.none, 10) := by
  have hl : ((c.bytes key).set (32 + q) ((c.bytes key).getD (32 + q) 0 ^^^ y)).length = 64 := by rw [List.length_set, Ck.length_bytes]
  have ht : ((c.bytes key).set (32 + q) ((c.bytes key).getD (32 + q) 0 ^^^ y)).take 32 = c.body := by
    rw [List.take_set_of_le (by omega), Ck.take_bytes]
  have hd : ((c.bytes key).set (32 + q) ((c.bytes key).getD (32 + q) 0 ^^^ y)).drop 32 ≠ Sha.mac key c.body := by
    rw [List.drop_set, if_neg (by omega), Ck.drop_bytes, Nat.add_sub_cancel_left]
    intro e
    have h1 := congrArg (fun l => l.getD q 0) e
    have hm : q < (Sha.mac key c.body).length := by rw [Sha.length_mac]; exact hq
    simp only [List.getD_eq_getElem?_getD, List.getElem?_set_self hm, Option.getD_some] at h1
    have h2 : (c.bytes key)[32 + q]? = (Sha.mac key c.body)[q]? := by rw [← Ck.drop_bytes key c, List.getElem?_drop]
    rw [h2] at h1
    have h3 : ∀ x : UInt8, x ^^^ y = x → False := fun x h => by
      apply hy
      have : x ^^^ (x ^^^ y) = x ^^^ x := by rw [h]
      rwa [← UInt8.xor_assoc, UInt8.xor_self, UInt8.zero_xor] at this
    exact h3 _ h1
  rw [Ck.read, if_pos hl, ht, if_neg (fun h => hd h.symm)]
theorem long_read (key l : List UInt8) (h : l.length ≠ 64) : Ck.read key l = (Ck.none, 7) := by rw [Ck.read, if_neg h]
end Num
namespace Go.Proofs.YtgiagcopbibneaaDoor.cookieBackDone
open Go.ChangeShapes Go.WideShapes Go.ChangeAt Go.RowKit
open Sha (W)
open Num (Ck)

set_option maxRecDepth 100000 in
set_option maxHeartbeats 4000000 in
theorem walk (w : World) (htab : Tabs w) (l : List UInt8) (a : Option Addr) (cap : Nat) (hb : Bytes w (Old w) a cap l) (c : Ck) (hc : c.Ok) (z : Int) (wz : (Lit.int .u8 z).wf = true) (z2 : Int) (wz2 : (Lit.int .u8 z2).wf = true)
    (t : List UInt8) (a2 : Option Addr) (cap2 : Nat) (hb2 : Bytes w (Old w) a2 cap2 t) :
    Calls Tryd.prog 7 #[.slice a l.length cap, .agg (ckCells c).toArray, .int .u8 z, .int .u8 z2, .slice a2 t.length cap2] w fun e w' => e = .returned (.bool true) ∧ Below w.heap.size w w' := by
  have h2 := size_of_tabs htab
  obtain ⟨z0, z255⟩ := bounds_u8 wz
  obtain ⟨p, hp⟩ : ∃ p : Nat, z = (p : Int) := ⟨z.toNat, by omega⟩
  subst hp
  have p256 : p < 256 := by omega
  obtain ⟨y0, y255⟩ := bounds_u8 wz2
  obtain ⟨y, hy⟩ : ∃ y : UInt8, z2 = bt8 y := ⟨UInt8.ofNat z2.toNat, by unfold bt8; rw [UInt8.toNat_ofNat']; omega⟩
  subst hy
  obtain ⟨wa, hwa⟩ : ∃ wa, wa = w.alloc (.cells (ckCells c).toArray 66) := ⟨_, rfl⟩
  have K0 : Hid (Kc w w.heap.size c wa) := by rw [hwa]; exact ⟨HasRow.new _ _ _, (Below.refl _ _).alloc (Nat.le_refl _) _⟩
  have I1 : Hid (∀ c : Ck, (Tryd.prog.info? 66).map (·.size) = some (ckCells c).length) := fun c => (show (Tryd.prog.info? 66).map (·.size) = some 8 by kernel_rfl)
  have Htab := hid htab
  have Hb := hid hb
  have Hb2 := hid hb2
  have Hc := hid hc
  have Hww := hid hwa
  have hww : w.alloc (.cells (ckCells c).toArray 66) = wa := hwa.symm
  obtain ⟨i0, hi, hz0, hz1, hz2⟩ := info_parts info_u8
  have Hi := hid hi
  have Hz0 := hid hz0
  have Hz1 := hid hz1
  have Hz2 := hid hz2
  clear hb hb2 htab hc hwa wz wz2 z0 z255 y0 y255 hi hz0 hz1 hz2
  obtain ⟨n, hn⟩ : ∃ n, n = l.length := ⟨_, rfl⟩
  have Hn := hid hn
  obtain ⟨m, hm⟩ : ∃ m, m = t.length := ⟨_, rfl⟩
  have Hm := hid hm
  rw [← hn, ← hm]
  clear hn hm
  simp only [ckCells] at hww
  simp only [ckCells]
  by_cases hbad : 4096 < n ∨ 4096 < m
  · by_cases hl : 4096 < n
    all_goals
      have hbad2 : 4096 < n ∨ 4096 < m := hbad
      clear hbad
      go_enter Tryd.func7, Tryd.ntmps7
      go_wp2_with fail
      refine (works11_any wa (Htab.out.below h2 K0.out.bel) (by have := K0.out.bel.size; omega)).mono ?_
      rintro e w1 ⟨rfl, b1⟩
      have B1 := hid b1
      clear b1
      go_wp2
      go_ret
      exact ⟨rfl, K0.out.bel.trans (B1.out.mono K0.out.bel.size)⟩
  · have hn4 : ¬ 4096 < n := by omega
    have hm4 : ¬ 4096 < m := by omega
    clear hbad
    obtain ⟨M, hM⟩ : ∃ M, M = c.may := ⟨_, rfl⟩
    have HM := hid hM
    clear hM
    go_enter Tryd.func7, Tryd.ntmps7
    go_wp2_with fail
    have D0 : Hid (Kc w w.heap.size c wa.drew) := K0.out.drew
    clear hww
    go_region_held3 (fun w' => w'.cell? ⟨w.heap.size, 0, none⟩ = some (.int .i64 c.born) ∧ w'.cell? ⟨w.heap.size, 1, none⟩ = some (.int .u32 (c.ownTag : Int)) ∧ w'.cell? ⟨w.heap.size, 2, none⟩ = some (.int .u32 (c.peerTag : Int)) ∧ w'.cell? ⟨w.heap.size, 3, none⟩ = some (.int .u32 (c.ownTsn : Int)) ∧ w'.cell? ⟨w.heap.size, 4, none⟩ = some (.int .u32 (c.peerTsn : Int)) ∧ w'.cell? ⟨w.heap.size, 5, none⟩ = some (.int .u32 (c.peerRwnd : Int)) ∧ w'.cell? ⟨w.heap.size, 6, none⟩ = some (.int .u16 (c.out : Int)) ∧ w'.cell? ⟨w.heap.size, 7, none⟩ = some (.int .u16 (c.inn : Int)) ∧ Kc w w.heap.size c w') (first | exact D0.out.held8 | exact K1.out.held8 | exact K5.out.held8 | fail)
      (first
        | (go_at_call 30; refine (twin_any wa.drew _ l n Hn.out.symm (by omega) a cap (Hb.out.below_of D0.out.bel)).mono ?_; rintro e w1 ⟨v1, rfl, ow1, b1⟩; have K1 : Hid (Kc w w.heap.size c w1) := D0.out.below b1; rw [← Hn.out] at ow1; obtain ⟨a3, c3, hv3, hb3, _⟩ := own_open ow1 (fun _ => False) (fun _ _ h => h); subst hv3; have Hb3 := hid hb3; clear ow1 b1 hb3)
        | (go_at_call 32; refine (write_ck_any w1 (Htab.out.below h2 K1.out.bel) (by have := K1.out.bel.size; omega) _ l n Hn.out.symm (by omega) a3 c3 Hb3.out c Hc.out).mono ?_; rintro e w5 ⟨v5, rfl, ow5, b5⟩; have K5 : Hid (Kc w w.heap.size c w5) := K1.out.below b5; have Ow5 := hid ow5; clear b5 ow5)
        | fail)
    obtain ⟨bs, hbs⟩ : ∃ bs, bs = c.bytes l := ⟨_, rfl⟩
    have L64 : Hid (bs.length = 64) := by rw [hbs]; exact Ck.length_bytes _ _
    have HBS := hid hbs
    have O5 : Hid (w5.ownsRow w1.heap.size 5 1 v5 64 (bv bs)) := by
      have := Ow5.out
      rw [Ck.length_bytes] at this
      rw [hbs]; exact this
    obtain ⟨a5, c5, hv5, hb5, _⟩ := own_open O5.out (fun _ => False) (fun _ _ h => h)
    subst hv5
    have c64 : 64 ≤ c5 ∧ c5 ≤ 9223372036854775807 := by have h1 := hb5.1; have h2 := hb5.2.1; have := L64.out; unfold maxLen at h2; omega
    have Hb5 := hid hb5
    obtain ⟨r, hr⟩ : ∃ r, r = if M then (c, 0) else (Ck.none, 7) := ⟨_, rfl⟩
    have HR : Hid (Ck.read l bs = r) := by show _ = _; rw [hbs, hr, HM.out, Ck.read_bytes l c Hc.out]
    have Hr := hid hr
    clear hb5 hbs hr Ow5
    go_wp2_with fail
    have k6 := read_ck_any w5 (Htab.out.below h2 K5.out.bel) (by have := K5.out.bel.size; omega) _ l n Hn.out.symm (by omega) a cap (Hb.out.below_of K5.out.bel) bs 64 L64.out a5 c5 Hb5.out
    rw [HR.out] at k6
    refine k6.mono ?_
    clear k6
    rintro e w6 ⟨rfl, b6⟩
    have K6 : Hid (Kc w w.heap.size c w6) := K5.out.below b6
    have Hb56 : Hid (Bytes w6 (fun _ => False) a5 c5 bs) := Hb5.out.below_of b6
    have N6 := hid (HasRow.new w6 (ckCells Ck.none) 66)
    clear b6
    go_upto_region 7 with (refine wpList_store_into rfl 66 _ _ rfl w6.heap.size 0 rfl (ckCells r.1) rfl (ckCells Ck.none) 66 N6.out (I1.out _) (Nat.le_refl 8) (one_ck _) ?_; intro w7 h6 g6 s6; rw [splice_all (ckCells Ck.none) (ckCells r.1) rfl] at h6; have H7 := hid h6; have G7 := hid g6; clear h6 g6 s6)
    have B67 : Hid (Below w6.heap.size w6 w7) := ((Below.refl _ w6).alloc (Nat.le_refl _) _).grown G7.out (by simp) (by intro k hk; injection hk with hk; omega)
    have K7 : Hid (Kc w w.heap.size c w7) := K6.out.below B67.out
    have Hb57 : Hid (Bytes w7 (fun _ => False) a5 c5 bs) := Hb56.out.below_of B67.out
    go_cut [14] (fun v wx => v = .bool M ∧ w7 = wx)
    case first =>
      obtain ⟨x0, x1, x2, x3, x4, x5, x6, x7, _⟩ := K7.out.held8
      by_cases h0 : c.born < 0
      · have e : M = false := by rw [HM.out]; simp [Ck.may]; omega
        subst e
        have g0 : ¬ 0 ≤ c.born := by omega
        go_wp2_with fail
        go_meet
        exact ⟨rfl, rfl⟩
      have h00 : 0 ≤ c.born := by omega
      by_cases h1 : c.ownTag = 0
      · have e : M = false := by rw [HM.out]; simp [Ck.may, h1]
        subst e
        have g1 : ((c.ownTag : Int) != 0) = false := by simp [h1]
        have g1' : ((c.ownTag : Int) == 0) = true := by simp [h1]
        have H1 := hid h1
        clear h1
        go_wp2_with fail
        go_meet
        exact ⟨rfl, rfl⟩
      have g1 : ((c.ownTag : Int) != 0) = true := by simp; omega
      have g1' : ((c.ownTag : Int) == 0) = false := by simp; omega
      by_cases h2 : c.peerTag = 0
      · have e : M = false := by rw [HM.out]; simp [Ck.may, h2]
        subst e
        have g2 : ((c.peerTag : Int) != 0) = false := by simp [h2]
        have g2' : ((c.peerTag : Int) == 0) = true := by simp [h2]
        have H2 := hid h2
        clear h2
        go_wp2_with fail
        go_meet
        exact ⟨rfl, rfl⟩
      have g2 : ((c.peerTag : Int) != 0) = true := by simp; omega
      have g2' : ((c.peerTag : Int) == 0) = false := by simp; omega
      by_cases h6 : c.out = 0
      · have e : M = false := by rw [HM.out]; simp [Ck.may, h6]
        subst e
        have g6 : ((c.out : Int) != 0) = false := by simp [h6]
        have g6' : ((c.out : Int) == 0) = true := by simp [h6]
        have H6 := hid h6
        clear h6
        go_wp2_with fail
        go_meet
        exact ⟨rfl, rfl⟩
      have g6 : ((c.out : Int) != 0) = true := by simp; omega
      have g6' : ((c.out : Int) == 0) = false := by simp; omega
      by_cases h7 : c.inn = 0
      · have e : M = false := by rw [HM.out]; simp [Ck.may, h7]
        subst e
        have g7 : ((c.inn : Int) != 0) = false := by simp [h7]
        have g7' : ((c.inn : Int) == 0) = true := by simp [h7]
        have H7 := hid h7
        clear h7
        go_wp2_with fail
        go_meet
        exact ⟨rfl, rfl⟩
      have g7 : ((c.inn : Int) != 0) = true := by simp; omega
      have g7' : ((c.inn : Int) == 0) = false := by simp; omega
      have e : M = true := by rw [HM.out]; simp [Ck.may, h00, h1, h2, h6, h7]
      subst e
      go_wp2_with fail
      go_meet
      exact ⟨rfl, rfl⟩
    case rest =>
    obtain ⟨rfl, hw7⟩ := hcut
    subst hw7
    go_upto_region 8 with (fail)
    go_cut [90] (fun v wx => v = .bool false ∧ w7 = wx)
    case first =>
      obtain ⟨x0, x1, x2, x3, x4, x5, x6, x7, _⟩ := K7.out.held8
      cases M with
      | true =>
        have r1 : r = (c, 0) := Hr.out
        subst r1
        have hh := H7.out
        have y0 := hh.cell_any 0
        have y1 := hh.cell_any 1
        have y2 := hh.cell_any 2
        have y3 := hh.cell_any 3
        have y4 := hh.cell_any 4
        have y5 := hh.cell_any 5
        have y6 := hh.cell_any 6
        have y7 := hh.cell_any 7
        simp only [ckCells, List.getElem?_cons_zero, List.getElem?_cons_succ] at y0 y1 y2 y3 y4 y5 y6 y7
        clear hh
        go_wp2_with fail
        go_meet
        exact ⟨rfl, rfl⟩
      | false =>
        have r1 : r = (Ck.none, 7) := Hr.out
        subst r1
        have hh := H7.out
        have y0 := hh.cell_any 0
        have y1 := hh.cell_any 1
        have y2 := hh.cell_any 2
        have y3 := hh.cell_any 3
        have y4 := hh.cell_any 4
        have y5 := hh.cell_any 5
        have y6 := hh.cell_any 6
        have y7 := hh.cell_any 7
        simp only [ckCells, Ck.none, List.getElem?_cons_zero, List.getElem?_cons_succ] at y0 y1 y2 y3 y4 y5 y6 y7
        clear hh
        go_wp2_with fail
        go_meet
        exact ⟨rfl, rfl⟩
    case rest =>
    obtain ⟨rfl, hw7⟩ := hcut
    subst hw7
    have B7 := hid K7.out.bel
    clear H7 G7 B67 N6
    obtain ⟨q, hq⟩ : ∃ q, q = p % 32 := ⟨_, rfl⟩
    obtain ⟨k, hk⟩ : ∃ k, k = 32 + q := ⟨_, rfl⟩
    obtain ⟨s, hs⟩ : ∃ s, s = p % 64 := ⟨_, rfl⟩
    have q32 : q < 32 := by omega
    have s64 : s < 64 := by omega
    have k64 : k < 64 := by omega
    have e1 : ((p : Nat) : Int).tmod 32 = (q : Int) := by rw [hq]; rfl
    have e2 : ((p : Nat) : Int) % 32 = (q : Int) := by rw [hq]; rfl
    have e3 : (32 : Int) + (q : Int) = (k : Int) := by omega
    have e4 : ((p : Nat) : Int).tmod 64 = (s : Int) := by rw [hs]; rfl
    have e5 : ((p : Nat) : Int) % 64 = (s : Int) := by rw [hs]; rfl
    have e6 : IntKind.i64.wrap ((p : Nat) : Int) = (p : Int) := IntWalk.i64_in _ (by omega)
    have e7 : IntKind.i64.wrap (q : Int) = (q : Int) := IntWalk.i64_in _ (by omega)
    have e8 : IntKind.i64.wrap (s : Int) = (s : Int) := IntWalk.i64_in _ (by omega)
    have e9 : IntKind.i64.wrap (k : Int) = (k : Int) := IntWalk.i64_in _ (by omega)
    have Hk := hid hk
    clear hq hk hs
    go_wp2_with fail
    refine (twin_any w7 _ bs 64 L64.out (by omega) a5 c5 Hb57.out).mono ?_
    rintro e w8 ⟨v8, rfl, ow8, b8⟩
    rw [L64.out] at ow8
    obtain ⟨g, rest, hv, hbg, hrow, hmx⟩ := own_open_all ow8 (by omega)
    subst hv
    obtain ⟨x, hx⟩ : ∃ x, x = bs.getD k 0 := ⟨_, rfl⟩
    have cd := row_front hrow k (by rw [L64.out]; exact k64)
    rw [← hx] at cd
    have fd := hrow.free k
    have B78 := hid b8
    have B8 : Hid (Below w.heap.size w w8) := B7.out.trans (b8.mono B7.out.size)
    have Hrow := hid hrow
    have Hx := hid hx
    have Z8 : Hid (w7.heap.size ≤ g) := hbg
    have i64' : (k : Int) < 64 := by omega
    obtain ⟨rl, hrl⟩ : ∃ rl, rl = rest.length := ⟨_, rfl⟩
    rw [← hrl] at hmx ⊢
    have Hmx := hid hmx
    clear ow8 b8 hrow hx hbg hrl hmx
    go_wp2_with fail
    obtain ⟨x2, hx2⟩ : ∃ x2, x2 = bs.set k (x ^^^ y) := ⟨_, rfl⟩
    obtain ⟨w9, hw9⟩ : ∃ w9, w9 = w8.setCell ⟨g, k, none⟩ (.int .u8 (bt8 (x ^^^ y))) := ⟨_, rfl⟩
    rw [← hw9]
    have X64 : Hid (x2.length = 64) := by show _ = _; rw [hx2, List.length_set]; exact L64.out
    have R9 : Hid (HasRow w9 g (bv x2 ++ rest) 5) := by
      have := row_front_set Hrow.out k (by rw [L64.out]; exact k64) (x ^^^ y)
      rw [hw9, hx2]; exact this
    have B79 : Hid (Below w7.heap.size w7 w9) := by rw [hw9]; exact B78.out.setCell (p := ⟨g, k, none⟩) Z8.out _
    have B9 : Hid (Below w.heap.size w w9) := B7.out.trans (B79.out.mono B7.out.size)
    have Hx9 : Hid (Bytes w9 (fun _ => False) (some ⟨g, 0, none⟩) (64 + rl) x2) :=
      ⟨by have := X64.out; omega, Hmx.out, fun _ => ⟨g, 0, rfl, fun h => h, R9.out.lt, fun i hi => by rw [Nat.zero_add]; exact row_front R9.out i hi⟩⟩
    have Hb59 : Hid (Bytes w9 (fun _ => False) a5 c5 bs) := Hb57.out.below_of B79.out
    obtain ⟨r1, hr1⟩ : ∃ r1, r1 = Ck.read l x2 := ⟨_, rfl⟩
    have HR1 : Hid (y ≠ 0 → r1 = (Ck.none, 10)) := fun hy => by
      rw [hr1, hx2, Hx.out, HBS.out, Hk.out]
      exact Num.set_read l c q q32 y hy
    have Hr1 := hid hr1
    clear hx2 hw9 hr1 cd fd
    have k9 := read_ck_any w9 (Htab.out.below h2 B9.out) (by have := B9.out.size; omega) _ l n Hn.out.symm (by omega) a cap (Hb.out.below_of B9.out) x2 64 X64.out _ _ Hx9.out
    rw [← Hr1.out] at k9
    refine k9.mono ?_
    clear k9
    rintro e w10 ⟨rfl, b10⟩
    have B910 := hid b10
    have N10 := hid (HasRow.new w10 (ckCells Ck.none) 66)
    clear b10
    go_wp2_with (refine wpList_store_into rfl 66 _ _ rfl w10.heap.size 0 rfl (ckCells r1.1) rfl (ckCells Ck.none) 66 N10.out (I1.out _) (Nat.le_refl 8) (one_ck _) ?_; intro w11 h6 g6 s6; have B1011 : Hid (Below w10.heap.size w10 w11) := ((Below.refl _ w10).alloc (Nat.le_refl _) _).grown g6 (by simp) (by intro k hk; injection hk with hk; omega); clear h6 g6 s6)
    have B11 : Hid (Below w.heap.size w w11) := B9.out.trans ((B910.out.trans (B1011.out.mono B910.out.size)).mono B9.out.size)
    have Hb511 : Hid (Bytes w11 (fun _ => False) a5 c5 bs) := (Hb59.out.below_of B910.out).below_of B1011.out
    refine (twin_any w11 _ bs 64 L64.out (by omega) a5 c5 Hb511.out).mono ?_
    rintro e w12 ⟨v12, rfl, ow12, b12⟩
    rw [L64.out] at ow12
    have Ow12 := hid ow12
    have B1112 := hid b12
    have B12 : Hid (Below w.heap.size w w12) := B11.out.trans (b12.mono B11.out.size)
    have Hb512 : Hid (Bytes w12 (fun _ => False) a5 c5 bs) := Hb511.out.below_of b12
    have Hnews : Hid (0 < m → ∃ b off, a2 = some ⟨b, off, none⟩ ∧ ∀ j, j < m → w12.cell? ⟨b, off + j, none⟩ = some (.int .u8 (bt8 (t.getD j 0)))) := fun h0 => by
      obtain ⟨b, off, hab, _, _, hcc⟩ := (Hb2.out.below_of B12.out).2.2 (by intro e; have := Hm.out; rw [e] at this; simp at this; omega)
      exact ⟨b, off, hab, fun j hj => hcc j (by have := Hm.out; omega)⟩
    clear ow12 b12
    go_wp2_with (refine wpList_append_any rfl (.tmp 115) (.tmp 116) 29 rfl w11.heap.size 5 i0 Tryd.underlying29 Hi.out Hz0.out Hz1.out Hz2.out _ 64 _ rfl Ow12.out _ m cap2 t rfl Hm.out.symm Hnews.out (by omega) B1112.out.size ?_; intro v13 w13 hown13 g13 hv13; have Ow13 := hid hown13; have B1113 : Hid (Below w11.heap.size w11 w13) := own_below_of Ow12.out g13 B1112.out (Nat.le_refl _) B1112.out.size; obtain ⟨a13, c13, hv, hb13, _⟩ := own_open hown13 (fun _ => False) (fun _ _ h => h); subst hv; have Hb13 := hid hb13; clear hown13 g13 hv13 hb13)
    have B13 : Hid (Below w.heap.size w w13) := B11.out.trans (B1113.out.mono B11.out.size)
    have Hb513 : Hid (Bytes w13 (fun _ => False) a5 c5 bs) := Hb511.out.below_of B1113.out
    have LT : Hid ((bs ++ t).length = 64 + m) := by show _ = _; rw [List.length_append, L64.out, ← Hm.out]
    obtain ⟨r2, hr2⟩ : ∃ r2, r2 = Ck.read l (bs ++ t) := ⟨_, rfl⟩
    have HR2 : Hid (0 < m → r2 = (Ck.none, 7)) := fun h0 => by rw [hr2]; exact Num.long_read l _ (by rw [LT.out]; omega)
    have Hr2 := hid hr2
    clear hr2
    have k13 := read_ck_any w13 (Htab.out.below h2 B13.out) (by have := B13.out.size; omega) _ l n Hn.out.symm (by omega) a cap (Hb.out.below_of B13.out) (bs ++ t) (64 + m) LT.out _ _ Hb13.out
    rw [← Hr2.out] at k13
    refine k13.mono ?_
    clear k13
    rintro e w14 ⟨rfl, b14⟩
    have B1314 := hid b14
    have N14 := hid (HasRow.new w14 (ckCells Ck.none) 66)
    have sc : s ≤ c5 := by omega
    clear b14
    go_wp2_with (refine wpList_store_into rfl 66 _ _ rfl w14.heap.size 0 rfl (ckCells r2.1) rfl (ckCells Ck.none) 66 N14.out (I1.out _) (Nat.le_refl 8) (one_ck _) ?_; intro w15 h6 g6 s6; have B1415 : Hid (Below w14.heap.size w14 w15) := ((Below.refl _ w14).alloc (Nat.le_refl _) _).grown g6 (by simp) (by intro k hk; injection hk with hk; omega); clear h6 g6 s6)
    have B15 : Hid (Below w.heap.size w w15) := B13.out.trans ((B1314.out.trans (B1415.out.mono B1314.out.size)).mono B13.out.size)
    have Hb515 : Hid (Bytes w15 (fun _ => False) a5 c5 (bs.take s)) := ((Hb513.out.below_of B1314.out).below_of B1415.out).take s
    have k15 := read_ck_any w15 (Htab.out.below h2 B15.out) (by have := B15.out.size; omega) _ l n Hn.out.symm (by omega) a cap (Hb.out.below_of B15.out) (bs.take s) s (by rw [List.length_take, L64.out]; omega) a5 c5 Hb515.out
    rw [Num.long_read l (bs.take s) (by rw [List.length_take, L64.out]; omega)] at k15
    refine k15.mono ?_
    clear k15
    rintro e w16 ⟨rfl, b16⟩
    have B1516 := hid b16
    have N16 := hid (HasRow.new w16 (ckCells Ck.none) 66)
    clear b16
    obtain ⟨E1, hE1⟩ : ∃ E1 : Nat, E1 = r1.2 := ⟨_, rfl⟩
    obtain ⟨E2, hE2⟩ : ∃ E2 : Nat, E2 = r2.2 := ⟨_, rfl⟩
    rw [← hE1, ← hE2]
    have HE1 : Hid (y ≠ 0 → E1 = 10) := fun h => by rw [hE1, HR1.out h]
    have HE2 : Hid (0 < m → E2 = 7) := fun h => by rw [hE2, HR2.out h]
    clear hE1 hE2
    go_upto_region 16 with (refine wpList_store_into rfl 66 _ _ rfl w16.heap.size 0 rfl (ckCells Ck.none) rfl (ckCells Ck.none) 66 N16.out (I1.out _) (Nat.le_refl 8) (one_ck _) ?_; intro w17 h6 g6 s6; have B1617 : Hid (Below w16.heap.size w16 w17) := ((Below.refl _ w16).alloc (Nat.le_refl _) _).grown g6 (by simp) (by intro k hk; injection hk with hk; omega); clear h6 g6 s6)
    have B17 : Hid (Below w.heap.size w w17) := B15.out.trans ((B1516.out.trans (B1617.out.mono B1516.out.size)).mono B15.out.size)
    go_cut [149] (fun v wx => v = .bool false ∧ w17 = wx)
    case first =>
      have yz := bt8_zero y
      by_cases hy : y = 0
      · have yz2 : (bt8 y != 0) = false := by rw [bne, yz]; simp [hy]
        have Hy := hid hy
        clear yz hy
        by_cases hm0 : m = 0
        · have m0 : ¬ 0 < m := by omega
          have m00 : ¬ (0 : Int) < (m : Int) := by omega
          have Hm0 := hid hm0
          clear hm0
          go_wp2_with fail
          go_meet
          exact ⟨rfl, rfl⟩
        · have m0 : 0 < m := by omega
          have m00 : (0 : Int) < (m : Int) := by omega
          have eE : E2 = 7 := HE2.out m0
          subst eE
          clear hm0
          go_wp2_with fail
          go_meet
          exact ⟨rfl, rfl⟩
      · have yz2 : (bt8 y != 0) = true := by rw [bne, yz]; simp [hy]
        have eE1 : E1 = 10 := HE1.out hy
        subst eE1
        have Hy := hid hy
        clear yz hy
        by_cases hm0 : m = 0
        · have m0 : ¬ 0 < m := by omega
          have m00 : ¬ (0 : Int) < (m : Int) := by omega
          have Hm0 := hid hm0
          clear hm0
          go_wp2_with fail
          go_meet
          exact ⟨rfl, rfl⟩
        · have m0 : 0 < m := by omega
          have m00 : (0 : Int) < (m : Int) := by omega
          have eE : E2 = 7 := HE2.out m0
          subst eE
          clear hm0
          go_wp2_with fail
          go_meet
          exact ⟨rfl, rfl⟩
    case rest =>
    obtain ⟨rfl, hw17⟩ := hcut
    subst hw17
    go_wp2_with fail
    refine (works11_any w17 (Htab.out.below h2 B17.out) (by have := B17.out.size; omega)).mono ?_
    rintro e w18 ⟨rfl, b18⟩
    have B18 := hid b18
    clear b18
    go_wp2
    go_ret
    exact ⟨rfl, B17.out.trans (B18.out.mono B17.out.size)⟩
theorem paramsAre : Tryd.f7.params = #[29, 66, 5, 5, 29] := by kernel_rfl

set_option maxRecDepth 100000 in
/-- WHAT THE WALK GIVES, FOR EVERY ARGUMENT AND EVERY WORLD THAT HOLDS THE TABLES. -/
theorem contract (H : Type) (enc : TypeId × Value → H) (W : World) (base : Nat) (args : Array Value) (ds gs : List (DataW H)) (before : List MemPlace)
    (hval : ∀ (j : Nat) t v, Tryd.f7.params[j]? = some t → args[j]? = some v → Value.okWide Tryd.prog W .any base t v)
    (hW : DataW.Whole enc Tryd.prog Tryd.f7.params.toList Rows.cookieBackSpec.vars false W args.toList ds gs before) (hL : laidMetH Tryd.prog Rows.cookieBackRow.laid W) :
    Calls Tryd.prog 7 args W fun e W' => ∃ v, e = .returned v ∧ Rows.cookieBackSpec.post enc Tryd.prog Tryd.f7 false true false false W args v W' := by
  have hW' := hW
  obtain ⟨p, q, hA0, hV, rfl, hfz, hnd⟩ := hW
  have hA : DataW.TrodAll enc Tryd.prog W 0 (fun _ => true) true Tryd.f7.params.toList args.toList ds p := hA0
  rw [paramsAre] at hA hval
  obtain ⟨v0, vs0, d0, ds0, p0, q0, hargs, rfl, rfl, h0, r0⟩ := trodAll_cons hA
  obtain ⟨v1, vs1, d1, ds1, p1, q1, rfl, rfl, rfl, h1, r1⟩ := trodAll_cons r0
  obtain ⟨v2, vs2, d2, ds2, p2, q2, rfl, rfl, rfl, h2, r2⟩ := trodAll_cons r1
  obtain ⟨v3, vs3, d3, ds3, p3, q3, rfl, rfl, rfl, h3, r3⟩ := trodAll_cons r2
  obtain ⟨v4, vs4, d4, ds4, p4, q4, rfl, rfl, rfl, h4, r4⟩ := trodAll_cons r3
  obtain ⟨rfl, rfl, rfl⟩ := trodAll_nil r4
  obtain rfl : args = #[v0, v1, v2, v3, v4] := by cases args; simp_all
  obtain ⟨rfl, rfl⟩ := trodVars_none hV
  clear hA0
  obtain ⟨b0, n0, c0, rfl⟩ := okWide_slice Tryd.underlying29 (hval 0 29 v0 rfl rfl)
  have k0 := h0
  have lt0 : ∀ x ∈ p0, x.block < W.heap.size := by obtain ⟨m, hm⟩ := k0; exact DataW.trod_lt m _ _ _ hm
  obtain ⟨a0, cap0, l0, e0, w0⟩ := open_bytes h0 cells_slice
  injection e0 with ea0 en0 ec0
  subst ea0 en0 ec0
  have k1 := h1
  have lt1 : ∀ x ∈ p1, x.block < W.heap.size := by obtain ⟨m, hm⟩ := k1; exact DataW.trod_lt m _ _ _ hm
  obtain ⟨c1, w1, rfl⟩ := open_ck (hval 1 66 v1 rfl rfl) h1
  obtain ⟨z2, rfl, rfl, rfl, w2⟩ := open_int Tryd.underlying5 (hval 2 5 v2 rfl rfl) h2
  obtain ⟨z3, rfl, rfl, rfl, w3⟩ := open_int Tryd.underlying5 (hval 3 5 v3 rfl rfl) h3
  obtain ⟨b4, n4, c4, rfl⟩ := okWide_slice Tryd.underlying29 (hval 4 29 v4 rfl rfl)
  have k4 := h4
  have lt4 : ∀ x ∈ p4, x.block < W.heap.size := by obtain ⟨m, hm⟩ := k4; exact DataW.trod_lt m _ _ _ hm
  obtain ⟨a4, cap4, l4, e4, w4⟩ := open_bytes h4 cells_slice
  injection e4 with ea4 en4 ec4
  subst ea4 en4 ec4
  simp only [List.append_nil] at hW'
  refine (walk W (tabs_of_laid hL) l0 b0 c0 w0 c1 w1 z2 w2 z3 w3 l4 b4 c4 w4).mono fun e W' ⟨he, bel⟩ => ?_
  subst he
  exact ⟨_, rfl, _, _, _, [], _, [], hW', trodAll_mk1 (shut_bool Tryd.underlying4 _), (trodAll_cons_mk (Below.trod laidOut (by kernel_rfl) (of_decide_eq_true (by kernel_rfl)) k0 bel lt0) (trodAll_cons_mk (Below.trod laidOut (by kernel_rfl) (of_decide_eq_true (by kernel_rfl)) k1 bel lt1) (trodAll_cons_mk (shut_int Tryd.underlying5 w2) (trodAll_cons_mk (shut_int Tryd.underlying5 w3) (trodAll_cons_mk (Below.trod laidOut (by kernel_rfl) (of_decide_eq_true (by kernel_rfl)) k4 bel lt4) trodAll_mk0))))), rfl, bel.frame _, fun h => by cases h⟩

/-- A WORLD FOR THE WITNESS: the settled one, the tables holding what their initialisers lay. -/
noncomputable def laidWorld (os : Os) : World :=
  { World.holding Tryd.prog os ⟨#[], #[], []⟩ with heap := ((World.holding Tryd.prog os ⟨#[], #[], []⟩).heap.modify 0 (layCells (wv Sha.hTab).toArray)).modify 1 (layCells (wv Sha.kTab).toArray) }
theorem laid_met (os : Os) : laidMet Tryd.prog Rows.cookieBackRow.laid ((laidWorld os).forCall (fun _ _ => 0) ⟨#[], #[.slice none 0 0, .agg #[.int .i64 0, .int .u32 0, .int .u32 0, .int .u32 0, .int .u32 0, .int .u32 0, .int .u16 0, .int .u16 0], .int .u8 0, .int .u8 0, .slice none 0 0], []⟩).memory :=
  laidMet_of_run' 8 (by kernel_rfl) (by kernel_rfl)
theorem reads (os : Os) {H : Type} (enc : TypeId × Value → H) : ∃ places, DataW.whole enc Tryd.prog ((laidWorld os).forCall (fun _ _ => 0) ⟨#[], #[.slice none 0 0, .agg #[.int .i64 0, .int .u32 0, .int .u32 0, .int .u32 0, .int .u32 0, .int .u32 0, .int .u16 0, .int .u16 0], .int .u8 0, .int .u8 0, .slice none 0 0], []⟩).memory Tryd.f7.params.toList Rows.cookieBackSpec.vars false (#[.slice none 0 0, .agg #[.int .i64 0, .int .u32 0, .int .u32 0, .int .u32 0, .int .u32 0, .int .u32 0, .int .u16 0, .int .u16 0], .int .u8 0, .int .u8 0, .slice none 0 0] : Array Value).toList 8 = some ([.nil, .agg [.lit (.int .i64 0), .lit (.int .u32 0), .lit (.int .u32 0), .lit (.int .u32 0), .lit (.int .u32 0), .lit (.int .u32 0), .lit (.int .u16 0), .lit (.int .u16 0)], .lit (.int .u8 0), .lit (.int .u8 0), .nil], [], places) :=
  ⟨[], by kernel_rfl⟩

set_option maxRecDepth 100000 in
theorem lifted (os : Os) (started : os.Started) (H : Type) (enc : TypeId × Value → H) (F : Stop.Interp) :
    ReturnsInHanded {} Tryd.checked os 7 .any ((OpenSpec.ofChange Rows.cookieBackSpec).preRow enc Tryd.prog Tryd.f7 Rows.cookieBackRow.domain false Rows.cookieBackRow.laid) (((OpenSpec.ofChange Rows.cookieBackSpec).at F).post enc Tryd.prog Tryd.f7 false true false false) := by
  obtain ⟨places, hx⟩ := reads os enc
  refine returnsInHanded_of_row (C := Tryd.checked) (s := OpenSpec.ofChange Rows.cookieBackSpec) own started (by kernel_rfl) Tryd.func7
    (witness_row_at (enc := enc) (C := Tryd.checked) false (laidWorld os) #[.slice none 0 0, .agg #[.int .i64 0, .int .u32 0, .int .u32 0, .int .u32 0, .int .u32 0, .int .u32 0, .int .u16 0, .int .u16 0], .int .u8 0, .int .u8 0, .slice none 0 0] rfl (by kernel_rfl) (by kernel_rfl) (by kernel_rfl)
      (OpenSpec.preRow_of_cond 8 hx (by kernel_rfl) (fun k hk => by cases hk) (by kernel_rfl) (laid_met os))) ?_
  intro W base args ds gs before hval hW _ _ _ hL _ _
  exact contract H enc W base args ds gs before hval hW hL

set_option maxRecDepth 100000 in
theorem said : Rows.CookieBackSaid :=
  OpenClaim.holds_of_cond 7 Tryd.f7 rfl rfl rfl rfl rfl rfl rfl ⟨rfl, rfl, rfl, rfl, rfl⟩ rfl rfl rfl rfl rfl (by kernel_rfl) Tryd.func7 (by kernel_rfl)
    (of_decide_eq_true (by kernel_rfl)) (by unfold Func.isWrapper; first | (rw [if_pos (by decide +kernel)]; kernel_rfl) | (rw [if_neg (by decide +kernel)]; exact ⟨rfl, rfl⟩))
    (fun os started H enc _ F => by rw [OpenClaim.pre_eq_preRow]; exact lifted os started H enc F)

set_option maxRecDepth 100000 in
theorem plain (f : FuncId) (fn : Func) (hf : Tryd.pinned.checked.prog.funcNamed "fairlead/fairleadlaw11.CookieBack" = some f) (hfn : Tryd.pinned.checked.prog.funcs[f]? = some fn) :
    false = Tryd.pinned.checked.prog.looks [] ∧ ∀ (j : Nat) t, fn.params[j]? = some t → Tryd.pinned.checked.prog.wantsStandIn t = false := by
  obtain rfl : f = 7 := Option.some.inj ((show Tryd.prog.funcNamed "fairlead/fairleadlaw11.CookieBack" = some 7 by kernel_rfl).symm.trans hf) |>.symm
  obtain rfl : fn = Tryd.f7 := (Option.some.inj (Tryd.func7.symm.trans hfn)).symm
  refine ⟨by kernel_rfl, fun j t ht => ?_⟩
  rw [paramsAre] at ht
  have hm : t = 29 ∨ t = 66 ∨ t = 5 ∨ t = 5 ∨ t = 29 := by have := Array.mem_of_getElem? ht; simpa using this
  rcases hm with rfl | rfl | rfl | rfl | rfl
  · exact (show Tryd.prog.wantsStandIn 29 = false by kernel_rfl)
  · exact (show Tryd.prog.wantsStandIn 66 = false by kernel_rfl)
  · exact (show Tryd.prog.wantsStandIn 5 = false by kernel_rfl)
  · exact (show Tryd.prog.wantsStandIn 5 = false by kernel_rfl)
  · exact (show Tryd.prog.wantsStandIn 29 = false by kernel_rfl)

set_option maxRecDepth 100000 in
/-- ████ THE CARD ████ -/
theorem card : Rows.CookieBackCardSaid :=
  Claim7.holds_tied_plain_at .later [] _ _ _ _ said (fun _ h => by cases h) (by kernel_rfl) (fun _ h => by cases h) cookieBack_row_tie rfl ⟨rfl, rfl⟩ (by kernel_rfl) rfl plain (by kernel_rfl)
#print axioms card
end Go.Proofs.YtgiagcopbibneaaDoor.cookieBackDone
