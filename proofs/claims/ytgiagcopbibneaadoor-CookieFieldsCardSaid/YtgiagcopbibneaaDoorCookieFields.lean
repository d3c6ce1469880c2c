/- CookieFields: for every input the law returns true and the input reads as it did. Conditions: the row's own (the tables are laid as the program's text lays them). -/
import Derived.Test.YtgiagcopbibneaaDoorCkFrame
namespace Num
/-- where the fields end -/
def ends (k : Nat) : Nat := [0, 8, 12, 16, 20, 24, 28, 30, 32].getD k 0
theorem ends_lt (k : Nat) (h : k < 8) : ends k < ends (k + 1) ∧ ends (k + 1) ≤ 32 := by
  match k, h with
  | 0, _ => decide
  | 1, _ => decide
  | 2, _ => decide
  | 3, _ => decide
  | 4, _ => decide
  | 5, _ => decide
  | 6, _ => decide
  | 7, _ => decide
def alike (c d : Ck) (k : Nat) : Bool := [c.born == d.born, (c.ownTag : Int) == (d.ownTag : Int), (c.peerTag : Int) == (d.peerTag : Int), (c.ownTsn : Int) == (d.ownTsn : Int), (c.peerTsn : Int) == (d.peerTsn : Int), (c.peerRwnd : Int) == (d.peerRwnd : Int), (c.out : Int) == (d.out : Int), (c.inn : Int) == (d.inn : Int)].getD k false
theorem mid (p q : List UInt8) (s x i : Nat) (hp : p.length = i) : ((p ++ (be s x ++ q)).drop i).take s = be s x := by
  rw [List.drop_append, List.drop_of_length_le (by omega), List.nil_append, hp, Nat.sub_self, List.drop_zero, List.take_append, List.take_of_length_le (by rw [length_be]; omega), length_be, Nat.sub_self, List.take_zero, List.append_nil]
theorem be_beq {s x y : Nat} (hx : x < 256 ^ s) (hy : y < 256 ^ s) : decide (be s x = be s y) = ((x : Int) == (y : Int)) := by
  rw [Bool.eq_iff_iff, decide_eq_true_eq, be_inj hx hy, beq_iff_eq]; omega
theorem u64_beq {x y : Int} (hx : -9223372036854775808 ≤ x ∧ x ≤ 9223372036854775807) (hy : -9223372036854775808 ≤ y ∧ y ≤ 9223372036854775807) : decide (be 8 (u64 x) = be 8 (u64 y)) = (x == y) := by
  rw [Bool.eq_iff_iff, decide_eq_true_eq, be_inj (u64_lt x) (u64_lt y), beq_iff_eq]
  constructor
  · intro h
    rw [← i64_u64 x hx.1 hx.2, h, i64_u64 y hy.1 hy.2]
  · intro h; rw [h]
def piece (key : List UInt8) (c : Ck) (k : Nat) : List UInt8 := ((c.bytes key).drop (ends k)).take (ends (k + 1) - ends k)
theorem pieces (key : List UInt8) (c d : Ck) (hc : c.Ok) (hd : d.Ok) (k : Nat) (h : k < 8) : decide (piece key c k = piece key d k) = alike c d k := by
  have p0 : ∀ c : Ck, piece key c 0 = be 8 (u64 c.born) := fun c => by
    have := mid [] (be 4 c.ownTag ++ be 4 c.peerTag ++ be 4 c.ownTsn ++ be 4 c.peerTsn ++ be 4 c.peerRwnd ++ be 2 c.out ++ be 2 c.inn ++ Sha.mac key c.body) 8 (u64 c.born) 0 rfl
    simpa [piece, ends, Ck.bytes, Ck.body, List.append_assoc] using this
  have p1 : ∀ c : Ck, piece key c 1 = be 4 c.ownTag := fun c => by
    have := mid (be 8 (u64 c.born)) (be 4 c.peerTag ++ be 4 c.ownTsn ++ be 4 c.peerTsn ++ be 4 c.peerRwnd ++ be 2 c.out ++ be 2 c.inn ++ Sha.mac key c.body) 4 c.ownTag 8 (by simp [length_be])
    simpa [piece, ends, Ck.bytes, Ck.body, List.append_assoc] using this
  have p2 : ∀ c : Ck, piece key c 2 = be 4 c.peerTag := fun c => by
    have := mid (be 8 (u64 c.born) ++ be 4 c.ownTag) (be 4 c.ownTsn ++ be 4 c.peerTsn ++ be 4 c.peerRwnd ++ be 2 c.out ++ be 2 c.inn ++ Sha.mac key c.body) 4 c.peerTag 12 (by simp [length_be])
    simpa [piece, ends, Ck.bytes, Ck.body, List.append_assoc] using this
  have p3 : ∀ c : Ck, piece key c 3 = be 4 c.ownTsn := fun c => by
    have := mid (be 8 (u64 c.born) ++ be 4 c.ownTag ++ be 4 c.peerTag) (be 4 c.peerTsn ++ be 4 c.peerRwnd ++ be 2 c.out ++ be 2 c.inn ++ Sha.mac key c.body) 4 c.ownTsn 16 (by simp [length_be])
    simpa [piece, ends, Ck.bytes, Ck.body, List.append_assoc] using this
  have p4 : ∀ c : Ck, piece key c 4 = be 4 c.peerTsn := fun c => by
    have := mid (be 8 (u64 c.born) ++ be 4 c.ownTag ++ be 4 c.peerTag ++ be 4 c.ownTsn) (be 4 c.peerRwnd ++ be 2 c.out ++ be 2 c.inn ++ Sha.mac key c.body) 4 c.peerTsn 20 (by simp [length_be])
    simpa [piece, ends, Ck.bytes, Ck.body, List.append_assoc] using this
  have p5 : ∀ c : Ck, piece key c 5 = be 4 c.peerRwnd := fun c => by
    have := mid (be 8 (u64 c.born) ++ be 4 c.ownTag ++ be 4 c.peerTag ++ be 4 c.ownTsn ++ be 4 c.peerTsn) (be 2 c.out ++ be 2 c.inn ++ Sha.mac key c.body) 4 c.peerRwnd 24 (by simp [length_be])
    simpa [piece, ends, Ck.bytes, Ck.body, List.append_assoc] using this
  have p6 : ∀ c : Ck, piece key c 6 = be 2 c.out := fun c => by
    have := mid (be 8 (u64 c.born) ++ be 4 c.ownTag ++ be 4 c.peerTag ++ be 4 c.ownTsn ++ be 4 c.peerTsn ++ be 4 c.peerRwnd) (be 2 c.inn ++ Sha.mac key c.body) 2 c.out 28 (by simp [length_be])
    simpa [piece, ends, Ck.bytes, Ck.body, List.append_assoc] using this
  have p7 : ∀ c : Ck, piece key c 7 = be 2 c.inn := fun c => by
    have := mid (be 8 (u64 c.born) ++ be 4 c.ownTag ++ be 4 c.peerTag ++ be 4 c.ownTsn ++ be 4 c.peerTsn ++ be 4 c.peerRwnd ++ be 2 c.out) (Sha.mac key c.body) 2 c.inn 30 (by simp [length_be])
    simpa [piece, ends, Ck.bytes, Ck.body, List.append_assoc] using this
  match k, h with
  | 0, _ => rw [p0, p0]; exact u64_beq ⟨hc.b0, hc.b1⟩ ⟨hd.b0, hd.b1⟩
  | 1, _ => rw [p1, p1]; exact be_beq hc.h1 hd.h1
  | 2, _ => rw [p2, p2]; exact be_beq hc.h2 hd.h2
  | 3, _ => rw [p3, p3]; exact be_beq hc.h3 hd.h3
  | 4, _ => rw [p4, p4]; exact be_beq hc.h4 hd.h4
  | 5, _ => rw [p5, p5]; exact be_beq hc.h5 hd.h5
  | 6, _ => rw [p6, p6]; exact be_beq hc.h6 hd.h6
  | 7, _ => rw [p7, p7]; exact be_beq hc.h7 hd.h7
end Num
namespace Go.Proofs.YtgiagcopbibneaaDoor.cookieFieldsDone
open Go.ChangeShapes Go.WideShapes Go.ChangeAt Go.RowKit
open Sha (W)
open Num (Ck)

def endCells : List Value := [.int .i64 8, .int .i64 12, .int .i64 16, .int .i64 20, .int .i64 24, .int .i64 28, .int .i64 30, .int .i64 32]
theorem end_at (k : Nat) (h : k < 8) : endCells[k]? = some (.int .i64 ((Num.ends (k + 1) : Nat) : Int)) := by
  match k, h with
  | 0, _ => rfl
  | 1, _ => rfl
  | 2, _ => rfl
  | 3, _ => rfl
  | 4, _ => rfl
  | 5, _ => rfl
  | 6, _ => rfl
  | 7, _ => rfl
def oneCells (c d : Ck) : List Value := [.bool (c.born == d.born), .bool ((c.ownTag : Int) == (d.ownTag : Int)), .bool ((c.peerTag : Int) == (d.peerTag : Int)), .bool ((c.ownTsn : Int) == (d.ownTsn : Int)), .bool ((c.peerTsn : Int) == (d.peerTsn : Int)), .bool ((c.peerRwnd : Int) == (d.peerRwnd : Int)), .bool ((c.out : Int) == (d.out : Int)), .bool ((c.inn : Int) == (d.inn : Int))]
theorem one_at (c d : Ck) (k : Nat) (h : k < 8) : (oneCells c d)[k]? = some (.bool (Num.alike c d k)) := by
  match k, h with
  | 0, _ => rfl
  | 1, _ => rfl
  | 2, _ => rfl
  | 3, _ => rfl
  | 4, _ => rfl
  | 5, _ => rfl
  | 6, _ => rfl
  | 7, _ => rfl

set_option maxRecDepth 100000 in
set_option maxHeartbeats 4000000 in
theorem walk (w : World) (htab : Tabs w) (l : List UInt8) (a : Option Addr) (cap : Nat) (hb : Bytes w (Old w) a cap l) (c : Ck) (hc : c.Ok) (d : Ck) (hd : d.Ok) :
    Calls Tryd.prog 8 #[.slice a l.length cap, .agg (ckCells c).toArray, .agg (ckCells d).toArray] w fun e w' => e = .returned (.bool true) ∧ Below w.heap.size w w' := by
  have h2 := size_of_tabs htab
  obtain ⟨wa, hwa⟩ : ∃ wa, wa = (w.alloc (.cells (ckCells c).toArray 66)).alloc (.cells (ckCells d).toArray 66) := ⟨_, rfl⟩
  have B0 : Hid (Below w.heap.size w wa) := by rw [hwa]; exact ((Below.refl _ _).alloc (Nat.le_refl _) _).alloc (by simp) _
  have Z0 : Hid (wa.heap.size = w.heap.size + 2) := by show _ = _; rw [hwa]; simp
  have RC : Hid (HasRow wa w.heap.size (ckCells c) 66) := by rw [hwa]; exact (HasRow.new _ _ _).alloc _
  have RD : Hid (HasRow wa (w.heap.size + 1) (ckCells d) 66) := by
    rw [hwa]
    have := HasRow.new (w.alloc (.cells (ckCells c).toArray 66)) (ckCells d) 66
    rwa [show (w.alloc (.cells (ckCells c).toArray 66)).heap.size = w.heap.size + 1 by simp] at this
  have I1 : Hid (∀ c : Ck, (Tryd.prog.info? 66).map (·.size) = some (ckCells c).length) := fun c => (show (Tryd.prog.info? 66).map (·.size) = some 8 by kernel_rfl)
  have TC : Hid (TabAt wa w.heap.size (ckCells c)) := RC.out.tab
  have Htab := hid htab
  have Hb := hid hb
  have Hc := hid hc
  have Hd := hid hd
  have Hww := hid hwa
  have hww : (w.alloc (.cells (ckCells c).toArray 66)).alloc (.cells (ckCells d).toArray 66) = wa := hwa.symm
  clear hb htab hc hd hwa
  obtain ⟨n, hn⟩ : ∃ n, n = l.length := ⟨_, rfl⟩
  have Hn := hid hn
  rw [← hn]
  clear hn
  simp only [ckCells] at hww
  simp only [ckCells]
  by_cases hl : 4096 < n
  · go_enter Tryd.func8, Tryd.ntmps8
    go_wp2_with fail
    refine (works11_any wa (Htab.out.below h2 B0.out) (by have := Z0.out; omega)).mono ?_
    rintro e w1 ⟨rfl, b1⟩
    have B1 := hid b1
    clear b1
    go_wp2
    go_ret
    exact ⟨rfl, B0.out.trans (B1.out.mono B0.out.size)⟩
  · go_enter Tryd.func8, Tryd.ntmps8
    go_wp2_with (refine wpList_load_part rfl 66 _ rfl w.heap.size 0 8 rfl (ckCells c) _ TC.out Tryd.underlying66 rfl (I1.out c) (Nat.le_refl 8) (ckCells c) rfl ?_)
    refine (write_ck_any wa (Htab.out.below h2 B0.out) (by have := Z0.out; omega) _ l n Hn.out.symm (by omega) a cap (Hb.out.below_of B0.out) c Hc.out).mono ?_
    rintro e w5 ⟨v5, rfl, ow5, b5⟩
    rw [Ck.length_bytes] at ow5
    obtain ⟨a5, c5, hv5, hb5, _⟩ := own_open ow5 (fun _ => False) (fun _ _ h => h)
    subst hv5
    obtain ⟨b5', o5, hab5, _, _, _⟩ := hb5.2.2 (by intro e; have := Ck.length_bytes l c; rw [e] at this; simp at this)
    subst hab5
    have c64 : 64 ≤ c5 ∧ c5 ≤ 9223372036854775807 := by have h1 := hb5.1; have h2 := hb5.2.1; rw [Ck.length_bytes] at h1; unfold maxLen at h2; omega
    have Hb5 := hid hb5
    have B5 : Hid (Below w.heap.size w w5) := B0.out.trans (b5.mono B0.out.size)
    have RC5 : Hid (HasRow w5 w.heap.size (ckCells c) 66) := RC.out.below b5 RC.out.lt
    have RD5 : Hid (HasRow w5 (w.heap.size + 1) (ckCells d) 66) := RD.out.below b5 RD.out.lt
    have TD : Hid (TabAt w5 (w.heap.size + 1) (ckCells d)) := RD5.out.tab
    clear ow5 b5 hb5 hww
    go_wp2_with (refine wpList_load_part rfl 66 _ rfl (w.heap.size + 1) 0 8 rfl (ckCells d) _ TD.out Tryd.underlying66 rfl (I1.out d) (Nat.le_refl 8) (ckCells d) rfl ?_)
    refine (write_ck_any w5 (Htab.out.below h2 B5.out) (by have := B5.out.size; omega) _ l n Hn.out.symm (by omega) a cap (Hb.out.below_of B5.out) d Hd.out).mono ?_
    rintro e w6 ⟨v6, rfl, ow6, b6⟩
    rw [Ck.length_bytes] at ow6
    obtain ⟨a6, c6, hv6, hb6, _⟩ := own_open ow6 (fun _ => False) (fun _ _ h => h)
    subst hv6
    obtain ⟨b6', o6, hab6, _, _, _⟩ := hb6.2.2 (by intro e; have := Ck.length_bytes l d; rw [e] at this; simp at this)
    subst hab6
    have d64 : 64 ≤ c6 ∧ c6 ≤ 9223372036854775807 := by have h1 := hb6.1; have h2 := hb6.2.1; rw [Ck.length_bytes] at h1; unfold maxLen at h2; omega
    have Hb6 := hid hb6
    have Hb56 : Hid (Bytes w6 (fun _ => False) (some ⟨b5', o5, none⟩) c5 (c.bytes l)) := Hb5.out.below_of b6
    have B6 : Hid (Below w.heap.size w w6) := B5.out.trans (b6.mono B5.out.size)
    have Z6 := hid b6.size
    obtain ⟨w7, hw7⟩ : ∃ w7, w7 = w6.alloc (.cells endCells.toArray 3) := ⟨_, rfl⟩
    have b67 : Below w6.heap.size w6 w7 := by rw [hw7]; exact (Below.refl _ _).alloc (Nat.le_refl _) _
    have RE7 : Hid (HasRow w7 w6.heap.size endCells 3) := by rw [hw7]; exact HasRow.new _ _ _
    have RC7 : Hid (HasRow w7 w.heap.size (ckCells c) 66) := (RC5.out.below b6 RC5.out.lt).below b67 (by have := RC5.out.lt; have := Z6.out; omega)
    have RD7 : Hid (HasRow w7 (w.heap.size + 1) (ckCells d) 66) := (RD5.out.below b6 RD5.out.lt).below b67 (by have := RD5.out.lt; have := Z6.out; omega)
    have hww : w6.alloc (.cells #[.int .i64 8, .int .i64 12, .int .i64 16, .int .i64 20, .int .i64 24, .int .i64 28, .int .i64 30, .int .i64 32] 3) = w7 := hw7.symm
    have x0 := RC7.out.cell_any 0
    have x1 := RC7.out.cell_any 1
    have x2 := RC7.out.cell_any 2
    have x3 := RC7.out.cell_any 3
    have x4 := RC7.out.cell_any 4
    have x5 := RC7.out.cell_any 5
    have x6 := RC7.out.cell_any 6
    have x7 := RC7.out.cell_any 7
    have y0 := RD7.out.cell_any 0
    have y1 := RD7.out.cell_any 1
    have y2 := RD7.out.cell_any 2
    have y3 := RD7.out.cell_any 3
    have y4 := RD7.out.cell_any 4
    have y5 := RD7.out.cell_any 5
    have y6 := RD7.out.cell_any 6
    have y7 := RD7.out.cell_any 7
    simp only [ckCells, List.getElem?_cons_zero, List.getElem?_cons_succ] at x0 x1 x2 x3 x4 x5 x6 x7 y0 y1 y2 y3 y4 y5 y6 y7
    have B67 := hid b67
    clear ow6 b6 hb6 hw7 b67
    go_wp2_with fail
    obtain ⟨w8, hw8⟩ : ∃ w8, w8 = w7.alloc (.cells (oneCells c d).toArray 4) := ⟨_, rfl⟩
    have B78 : Hid (Below w7.heap.size w7 w8) := by rw [hw8]; exact (Below.refl _ _).alloc (Nat.le_refl _) _
    have RO8 : Hid (HasRow w8 w7.heap.size (oneCells c d) 4) := by rw [hw8]; exact HasRow.new _ _ _
    have RE8 : Hid (HasRow w8 w6.heap.size endCells 3) := RE7.out.below B78.out RE7.out.lt
    have B68 : Hid (Below w6.heap.size w6 w8) := B67.out.trans (B78.out.mono B67.out.size)
    have B8 : Hid (Below w.heap.size w w8) := B6.out.trans (B68.out.mono B6.out.size)
    have HA : Hid (Bytes w8 (fun _ => False) (some ⟨b5', o5, none⟩) c5 (c.bytes l)) := Hb56.out.below_of B68.out
    have HB : Hid (Bytes w8 (fun _ => False) (some ⟨b6', o6, none⟩) c6 (d.bytes l)) := Hb6.out.below_of B68.out
    have hw8' : w7.alloc (.cells #[.bool (c.born == d.born), .bool ((c.ownTag : Int) == (d.ownTag : Int)), .bool ((c.peerTag : Int) == (d.peerTag : Int)), .bool ((c.ownTsn : Int) == (d.ownTsn : Int)), .bool ((c.peerTsn : Int) == (d.peerTsn : Int)), .bool ((c.peerRwnd : Int) == (d.peerRwnd : Int)), .bool ((c.out : Int) == (d.out : Int)), .bool ((c.inn : Int) == (d.inn : Int))] 4) = w8 := hw8.symm
    rw [hw8']
    clear hww hw8' hw8 x0 x1 x2 x3 x4 x5 x6 x7 y0 y1 y2 y3 y4 y5 y6 y7
    go_loopw [11, 12] (fun f i wr => ∃ k : Nat, k ≤ 8 ∧ i = .int .i64 (k : Int) ∧ f = .int .i64 ((Num.ends k : Nat) : Int) ∧ Drawn w8 wr) (fun _ i _ => 8 - (intOf i).toNat)
    case atStart => exact ⟨0, by omega, rfl, rfl, Drawn.refl _⟩
    case round =>
      obtain ⟨k, hk, rfl, rfl, dr⟩ := hrel
      obtain ⟨wo, rfl⟩ : ∃ wo : World, wo = wr := ⟨_, rfl⟩
      have Dr := hid dr
      by_cases hk8 : k < 8
      · obtain ⟨xy, y32⟩ := Num.ends_lt k hk8
        have c9 : wo.cell? ⟨w6.heap.size, k, none⟩ = some (.int .i64 ((Num.ends (k + 1) : Nat) : Int)) := ((dr.row RE8.out).cell_any k).trans (end_at k hk8)
        have c10 : wo.cell? ⟨w7.heap.size, k, none⟩ = some (.bool (Num.alike c d k)) := ((dr.row RO8.out).cell_any k).trans (one_at c d k hk8)
        obtain ⟨X, hX⟩ : ∃ X, X = Num.alike c d k := ⟨_, rfl⟩
        have PP : Hid (decide (Num.piece l c k = Num.piece l d k) = X) := by show _ = _; rw [hX]; exact Num.pieces l c d Hc.out Hd.out k hk8
        have hA := (HA.out.below_of (dr.below _)).piece (Num.ends k) (Num.ends (k + 1) - Num.ends k) (by rw [Ck.length_bytes]; omega) (by omega)
        have hB := (HB.out.below_of (dr.below _)).piece (Num.ends k) (Num.ends (k + 1) - Num.ends k) (by rw [Ck.length_bytes]; omega) (by omega)
        have lA : (((c.bytes l).drop (Num.ends k)).take (Num.ends (k + 1) - Num.ends k)).length = Num.ends (k + 1) - Num.ends k := by rw [List.length_take, List.length_drop, Ck.length_bytes]; omega
        have lB : (((d.bytes l).drop (Num.ends k)).take (Num.ends (k + 1) - Num.ends k)).length = Num.ends (k + 1) - Num.ends k := by rw [List.length_take, List.length_drop, Ck.length_bytes]; omega
        have SM : Hid (∀ q, Calls Tryd.prog 31 #[.slice (some ⟨b5', o5 + Num.ends k, none⟩) (Num.ends (k + 1) - Num.ends k) (c5 - Num.ends k), .slice (some ⟨b6', o6 + Num.ends k, none⟩) (Num.ends (k + 1) - Num.ends k) (c6 - Num.ends k)] (wo.drewN q) fun e w' => e = .returned (.bool X) ∧ wo.drewN q = w') := fun q => by
          have := same11_any (wo.drewN q) _ _ _ _ lA _ _ (hA.below_of (Drawn.below (show Drawn wo (wo.drewN q) from ⟨q, rfl⟩) _)) _ _ lB _ _ (hB.below_of (Drawn.below (show Drawn wo (wo.drewN q) from ⟨q, rfl⟩) _))
          have pp := PP.out
          unfold Num.piece at pp
          rwa [pp] at this
        rw [← hX] at c10
        obtain ⟨x, hx⟩ : ∃ x, x = Num.ends k := ⟨_, rfl⟩
        obtain ⟨y, hy⟩ : ∃ y, y = Num.ends (k + 1) := ⟨_, rfl⟩
        rw [← hx, ← hy] at SM xy
        rw [← hy] at c9 y32
        have ic5 : x < c5 := by omega
        have ic6 : x < c6 := by omega
        have nc5 : ¬ c5 = x := by omega
        have nc6 : ¬ c6 = x := by omega
        have xy2 : x ≤ y := by omega
        have i8 : (k : Int) < 8 := by omega
        have xx : (X != X) = false := by cases X <;> rfl
        have q1 : IntKind.i64.wrap (k : Int) = (k : Int) := IntWalk.i64_in _ (by omega)
        have Hy := hid hy
        have Hx := hid hx
        rw [← hx]
        clear dr hX hA hB lA lB hy hx
        go_wp2_with fail
        go_quiet ((go_at_call 31; exact quiet_same (SM.out _)))
        have c11 : (wo.drewN nq).cell? ⟨w6.heap.size, k, none⟩ = some (.int .i64 (y : Int)) := c9
        go_wp2_with fail
        go_roundw
        case rel => exact ⟨k + 1, by omega, by go_num, by rw [← Hy.out], Dr.out.drewN _⟩
        case measure => simp [intOf]; omega
      · have e8 : k = 8 := by omega
        clear dr
        go_wp2_with fail
        have B9 : Hid (Below w.heap.size w wo) := B8.out.trans (Dr.out.below _)
        refine (works11_any wo (Htab.out.below h2 B9.out) (by have := B9.out.size; omega)).mono ?_
        rintro e w10 ⟨rfl, b10⟩
        have B10 := hid b10
        clear b10
        go_wp2
        go_ret
        exact ⟨rfl, B9.out.trans (B10.out.mono B9.out.size)⟩
theorem paramsAre : Tryd.f8.params = #[29, 66, 66] := by kernel_rfl

set_option maxRecDepth 100000 in
/-- WHAT THE WALK GIVES, FOR EVERY ARGUMENT AND EVERY WORLD THAT HOLDS THE TABLES. -/
theorem contract (H : Type) (enc : TypeId × Value → H) (W : World) (base : Nat) (args : Array Value) (ds gs : List (DataW H)) (before : List MemPlace)
    (hval : ∀ (j : Nat) t v, Tryd.f8.params[j]? = some t → args[j]? = some v → Value.okWide Tryd.prog W .any base t v)
    (hW : DataW.Whole enc Tryd.prog Tryd.f8.params.toList Rows.cookieFieldsSpec.vars false W args.toList ds gs before) (hL : laidMetH Tryd.prog Rows.cookieFieldsRow.laid W) :
    Calls Tryd.prog 8 args W fun e W' => ∃ v, e = .returned v ∧ Rows.cookieFieldsSpec.post enc Tryd.prog Tryd.f8 false true false false W args v W' := by
  have hW' := hW
  obtain ⟨p, q, hA0, hV, rfl, hfz, hnd⟩ := hW
  have hA : DataW.TrodAll enc Tryd.prog W 0 (fun _ => true) true Tryd.f8.params.toList args.toList ds p := hA0
  rw [paramsAre] at hA hval
  obtain ⟨v0, vs0, d0, ds0, p0, q0, hargs, rfl, rfl, h0, r0⟩ := trodAll_cons hA
  obtain ⟨v1, vs1, d1, ds1, p1, q1, rfl, rfl, rfl, h1, r1⟩ := trodAll_cons r0
  obtain ⟨v2, vs2, d2, ds2, p2, q2, rfl, rfl, rfl, h2, r2⟩ := trodAll_cons r1
  obtain ⟨rfl, rfl, rfl⟩ := trodAll_nil r2
  obtain rfl : args = #[v0, v1, v2] := by cases args; simp_all
  obtain ⟨rfl, rfl⟩ := trodVars_none hV
  clear hA0
  obtain ⟨b0, n0, c0, rfl⟩ := okWide_slice Tryd.underlying29 (hval 0 29 v0 rfl rfl)
  have k0 := h0
  have lt0 : ∀ x ∈ p0, x.block < W.heap.size := by obtain ⟨m, hm⟩ := k0; exact DataW.trod_lt m _ _ _ hm
  obtain ⟨a0, cap0, l0, e0, w0⟩ := open_bytes h0 cells_slice
  injection e0 with ea0 en0 ec0
  subst ea0 en0 ec0
  have k1 := h1
  have lt1 : ∀ x ∈ p1, x.block < W.heap.size := by obtain ⟨m, hm⟩ := k1; exact DataW.trod_lt m _ _ _ hm
  obtain ⟨c1, w1, rfl⟩ := open_ck (hval 1 66 v1 rfl rfl) h1
  have k2 := h2
  have lt2 : ∀ x ∈ p2, x.block < W.heap.size := by obtain ⟨m, hm⟩ := k2; exact DataW.trod_lt m _ _ _ hm
  obtain ⟨c2, w2, rfl⟩ := open_ck (hval 2 66 v2 rfl rfl) h2
  simp only [List.append_nil] at hW'
  refine (walk W (tabs_of_laid hL) l0 b0 c0 w0 c1 w1 c2 w2).mono fun e W' ⟨he, bel⟩ => ?_
  subst he
  exact ⟨_, rfl, _, _, _, [], _, [], hW', trodAll_mk1 (shut_bool Tryd.underlying4 _), (trodAll_cons_mk (Below.trod laidOut (by kernel_rfl) (of_decide_eq_true (by kernel_rfl)) k0 bel lt0) (trodAll_cons_mk (Below.trod laidOut (by kernel_rfl) (of_decide_eq_true (by kernel_rfl)) k1 bel lt1) (trodAll_cons_mk (Below.trod laidOut (by kernel_rfl) (of_decide_eq_true (by kernel_rfl)) k2 bel lt2) trodAll_mk0))), rfl, bel.frame _, fun h => by cases h⟩

/-- A WORLD FOR THE WITNESS: the settled one, the tables holding what their initialisers lay. -/
noncomputable def laidWorld (os : Os) : World :=
  { World.holding Tryd.prog os ⟨#[], #[], []⟩ with heap := ((World.holding Tryd.prog os ⟨#[], #[], []⟩).heap.modify 0 (layCells (wv Sha.hTab).toArray)).modify 1 (layCells (wv Sha.kTab).toArray) }
theorem laid_met (os : Os) : laidMet Tryd.prog Rows.cookieFieldsRow.laid ((laidWorld os).forCall (fun _ _ => 0) ⟨#[], #[.slice none 0 0, .agg #[.int .i64 0, .int .u32 0, .int .u32 0, .int .u32 0, .int .u32 0, .int .u32 0, .int .u16 0, .int .u16 0], .agg #[.int .i64 0, .int .u32 0, .int .u32 0, .int .u32 0, .int .u32 0, .int .u32 0, .int .u16 0, .int .u16 0]], []⟩).memory :=
  laidMet_of_run' 8 (by kernel_rfl) (by kernel_rfl)
theorem reads (os : Os) {H : Type} (enc : TypeId × Value → H) : ∃ places, DataW.whole enc Tryd.prog ((laidWorld os).forCall (fun _ _ => 0) ⟨#[], #[.slice none 0 0, .agg #[.int .i64 0, .int .u32 0, .int .u32 0, .int .u32 0, .int .u32 0, .int .u32 0, .int .u16 0, .int .u16 0], .agg #[.int .i64 0, .int .u32 0, .int .u32 0, .int .u32 0, .int .u32 0, .int .u32 0, .int .u16 0, .int .u16 0]], []⟩).memory Tryd.f8.params.toList Rows.cookieFieldsSpec.vars false (#[.slice none 0 0, .agg #[.int .i64 0, .int .u32 0, .int .u32 0, .int .u32 0, .int .u32 0, .int .u32 0, .int .u16 0, .int .u16 0], .agg #[.int .i64 0, .int .u32 0, .int .u32 0, .int .u32 0, .int .u32 0, .int .u32 0, .int .u16 0, .int .u16 0]] : Array Value).toList 8 = some ([.nil, .agg [.lit (.int .i64 0), .lit (.int .u32 0), .lit (.int .u32 0), .lit (.int .u32 0), .lit (.int .u32 0), .lit (.int .u32 0), .lit (.int .u16 0), .lit (.int .u16 0)], .agg [.lit (.int .i64 0), .lit (.int .u32 0), .lit (.int .u32 0), .lit (.int .u32 0), .lit (.int .u32 0), .lit (.int .u32 0), .lit (.int .u16 0), .lit (.int .u16 0)]], [], places) :=
  ⟨[], by kernel_rfl⟩

set_option maxRecDepth 100000 in
theorem lifted (os : Os) (started : os.Started) (H : Type) (enc : TypeId × Value → H) (F : Stop.Interp) :
    ReturnsInHanded {} Tryd.checked os 8 .any ((OpenSpec.ofChange Rows.cookieFieldsSpec).preRow enc Tryd.prog Tryd.f8 Rows.cookieFieldsRow.domain false Rows.cookieFieldsRow.laid) (((OpenSpec.ofChange Rows.cookieFieldsSpec).at F).post enc Tryd.prog Tryd.f8 false true false false) := by
  obtain ⟨places, hx⟩ := reads os enc
  refine returnsInHanded_of_row (C := Tryd.checked) (s := OpenSpec.ofChange Rows.cookieFieldsSpec) own started (by kernel_rfl) Tryd.func8
    (witness_row_at (enc := enc) (C := Tryd.checked) false (laidWorld os) #[.slice none 0 0, .agg #[.int .i64 0, .int .u32 0, .int .u32 0, .int .u32 0, .int .u32 0, .int .u32 0, .int .u16 0, .int .u16 0], .agg #[.int .i64 0, .int .u32 0, .int .u32 0, .int .u32 0, .int .u32 0, .int .u32 0, .int .u16 0, .int .u16 0]] rfl (by kernel_rfl) (by kernel_rfl) (by kernel_rfl)
      (OpenSpec.preRow_of_cond 8 hx (by kernel_rfl) (fun k hk => by cases hk) (by kernel_rfl) (laid_met os))) ?_
  intro W base args ds gs before hval hW _ _ _ hL _ _
  exact contract H enc W base args ds gs before hval hW hL

set_option maxRecDepth 100000 in
theorem said : Rows.CookieFieldsSaid :=
  OpenClaim.holds_of_cond 8 Tryd.f8 rfl rfl rfl rfl rfl rfl rfl ⟨rfl, rfl, rfl, rfl, rfl⟩ rfl rfl rfl rfl rfl (by kernel_rfl) Tryd.func8 (by kernel_rfl)
    (of_decide_eq_true (by kernel_rfl)) (by unfold Func.isWrapper; first | (rw [if_pos (by decide +kernel)]; kernel_rfl) | (rw [if_neg (by decide +kernel)]; exact ⟨rfl, rfl⟩))
    (fun os started H enc _ F => by rw [OpenClaim.pre_eq_preRow]; exact lifted os started H enc F)

set_option maxRecDepth 100000 in
theorem plain (f : FuncId) (fn : Func) (hf : Tryd.pinned.checked.prog.funcNamed "fairlead/fairleadlaw11.CookieFields" = some f) (hfn : Tryd.pinned.checked.prog.funcs[f]? = some fn) :
    false = Tryd.pinned.checked.prog.looks [] ∧ ∀ (j : Nat) t, fn.params[j]? = some t → Tryd.pinned.checked.prog.wantsStandIn t = false := by
  obtain rfl : f = 8 := Option.some.inj ((show Tryd.prog.funcNamed "fairlead/fairleadlaw11.CookieFields" = some 8 by kernel_rfl).symm.trans hf) |>.symm
  obtain rfl : fn = Tryd.f8 := (Option.some.inj (Tryd.func8.symm.trans hfn)).symm
  refine ⟨by kernel_rfl, fun j t ht => ?_⟩
  rw [paramsAre] at ht
  have hm : t = 29 ∨ t = 66 ∨ t = 66 := by have := Array.mem_of_getElem? ht; simpa using this
  rcases hm with rfl | rfl | rfl
  · exact (show Tryd.prog.wantsStandIn 29 = false by kernel_rfl)
  · exact (show Tryd.prog.wantsStandIn 66 = false by kernel_rfl)
  · exact (show Tryd.prog.wantsStandIn 66 = false by kernel_rfl)

set_option maxRecDepth 100000 in
/-- ████ THE CARD ████ -/
theorem card : Rows.CookieFieldsCardSaid :=
  Claim7.holds_tied_plain_at .later [] _ _ _ _ said (fun _ h => by cases h) (by kernel_rfl) (fun _ h => by cases h) cookieFields_row_tie rfl ⟨rfl, rfl⟩ (by kernel_rfl) rfl plain (by kernel_rfl)
#print axioms card
end Go.Proofs.YtgiagcopbibneaaDoor.cookieFieldsDone
