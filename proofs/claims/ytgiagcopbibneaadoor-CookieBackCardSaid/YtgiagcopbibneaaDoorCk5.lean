/- Contracts of the law's same, of cookie.Derive, and of the reference's octets. -/
import Derived.Test.YtgiagcopbibneaaDoorCk4
import Derived.Laws.IdiomStrings
import Derived.Laws.BytesArg
namespace Num
def tag (key text : List UInt8) : Nat := max (number (Sha.mac key text) 0 4) 1
def tsn (key text : List UInt8) : Nat := number (Sha.mac key text) 4 4
end Num
namespace Go.Proofs.YtgiagcopbibneaaDoor
open Go.RowKit
open Sha (W)
open Num (Ck)

theorem text_eq (l t : List UInt8) : (l == t) = decide (l = t) := by
  rw [Bool.eq_iff_iff]; simp

theorem text_of (w : World) (no : Nat → Prop) (l : List UInt8) (n : Nat) (hn : l.length = n) (a : Option Addr) (cap : Nat) (hb : Bytes w no a cap l) :
    (convert 29 9 (.slice a n cap)).run Tryd.prog w = .ok (.string ⟨l.toArray⟩) w := by
  subst hn
  cases a with
  | none =>
    have hl : l = [] := by
      apply Classical.byContradiction
      intro h
      obtain ⟨b, off, hab, _⟩ := hb.2.2 h
      cases hab
    subst hl
    exact run_convert_bytes_nil w 29 5 Tryd.underlying29 Tryd.underlying5 _ _ 9 Tryd.underlying9
  | some a =>
    refine run_convert_bytes_back w 29 9 5 a cap l Tryd.underlying29 Tryd.underlying5 Tryd.underlying9 (fun j hj => ?_)
    obtain ⟨b, off, hab, _, _, hc⟩ := hb.2.2 (by intro e; rw [e] at hj; simp at hj)
    injection hab with hab
    subst hab
    rw [addr_add, hc j hj]
    simp [bt8, List.getD_eq_getElem?_getD, List.getElem?_eq_getElem hj]

theorem same11_any (w : World) (no no2 : Nat → Prop) (l : List UInt8) (n : Nat) (hn : l.length = n) (a : Option Addr) (cap : Nat) (hb : Bytes w no a cap l)
    (t : List UInt8) (m : Nat) (hm : t.length = m) (a2 : Option Addr) (cap2 : Nat) (hb2 : Bytes w no2 a2 cap2 t) :
    Calls Tryd.prog 31 #[.slice a n cap, .slice a2 m cap2] w fun e w' => e = .returned (.bool (decide (l = t))) ∧ w = w' := by
  have c1 := text_of w no l n hn a cap hb
  have c2 := text_of w no2 t m hm a2 cap2 hb2
  have TE := hid (text_eq l t)
  clear hb hb2 hn hm
  go_enter Tryd.func31, Tryd.ntmps31
  go_wp2
  go_ret
  exact ⟨congrArg (fun b => Ending.returned (.bool b)) TE.out, rfl⟩

set_option maxRecDepth 100000 in
set_option maxHeartbeats 2000000 in
theorem derive_any (w : World) (htab : Tabs w) (h2 : 2 ≤ w.heap.size) (no1 no2 : Nat → Prop) (l : List UInt8) (n : Nat) (hn : l.length = n) (hmost : n < 1000000) (a : Option Addr) (cap : Nat) (hb : Bytes w no1 a cap l)
    (t : List UInt8) (m : Nat) (hm : t.length = m) (hmost2 : m < 1000000) (a2 : Option Addr) (cap2 : Nat) (hb2 : Bytes w no2 a2 cap2 t) :
    Calls Tryd.prog 38 #[.slice a n cap, .slice a2 m cap2] w fun e w' => e = .returned (.tuple #[.int .u32 (Num.tag l t : Int), .int .u32 (Num.tsn l t : Int)]) ∧ Below w.heap.size w w' := by
  have K := hid (mac_any w htab h2 no1 no2 l n hn hmost a cap hb t m hm hmost2 a2 cap2 hb2)
  obtain ⟨S1, hS1⟩ : ∃ S1, S1 = Sha.mac l t := ⟨_, rfl⟩
  rw [← hS1] at K
  have L1 : Hid (S1.length = 32) := by rw [hS1]; exact Sha.length_mac _ _
  obtain ⟨x, hx⟩ : ∃ x, x = Num.number S1 0 4 := ⟨_, rfl⟩
  obtain ⟨y, hy⟩ : ∃ y, y = Num.number S1 4 4 := ⟨_, rfl⟩
  have xl : x < 4294967296 := by rw [hx]; exact Num.number_lt S1 0 4
  have yl : y < 4294967296 := by rw [hy]; exact Num.number_lt S1 4 4
  have T1 : Num.tag l t = max x 1 := by rw [hx, hS1]; rfl
  have T2 : Num.tsn l t = y := by rw [hy, hS1]; rfl
  rw [T1, T2]
  have Hx := hid hx
  have Hy := hid hy
  have e1 : IntKind.u32.wrap (x : Int) = (x : Int) := by rw [IntKind.wrap_u32']; omega
  have e2 : IntKind.u32.wrap (y : Int) = (y : Int) := by rw [IntKind.wrap_u32']; omega
  have F3 : Hid ((Tryd.prog.info? 106).map (·.size) = some (bv S1).length) := by rw [length_bv, L1.out]; exact (show (Tryd.prog.info? 106).map (·.size) = some 32 by kernel_rfl)
  have F4 : Hid (0 + (bv S1).length ≤ (bv (List.replicate 32 0)).length) := by rw [length_bv, L1.out]; exact Nat.le_refl 32
  have F5 : Hid ((bv (List.replicate 32 0)).length = (bv S1).length) := by rw [length_bv S1, L1.out]; rfl
  clear hb hb2 hn hm htab hS1 hx hy T1 T2
  go_enter Tryd.func38, Tryd.ntmps38
  go_wp2_with fail
  refine K.out.mono ?_
  rintro e w10 ⟨rfl, b10⟩
  have B10 := hid b10
  have N3 := hid (HasRow.new w10 (bv (List.replicate 32 0)) 106)
  clear b10
  go_wp2_with (refine wpList_store_into rfl 106 _ _ rfl w10.heap.size 0 rfl (bv S1) rfl (bv (List.replicate 32 0)) 106 N3.out F3.out F4.out (one_bv _) ?_; intro w11 h4 g4 s4; rw [splice_all _ _ F5.out] at h4; have H11 := hid h4; have G11 := hid g4; clear h4 g4 s4)
  have B11 : Hid (Below w.heap.size w w11) := (B10.out.alloc B10.out.size _).grown G11.out (by simp; have := B10.out.size; omega) (by intro k hk; injection hk with hk; have := B10.out.size; omega)
  have GA := hid (get_any w11 (fun _ => False) S1 32 L1.out (some ⟨w10.heap.size, 0, none⟩) 32 (bytes_row H11.out _ (fun h => h) 32 L1.out (by omega)) 0 4 (by omega) (by omega))
  have GB := hid (get_any w11 (fun _ => False) S1 32 L1.out (some ⟨w10.heap.size, 0, none⟩) 32 (bytes_row H11.out _ (fun h => h) 32 L1.out (by omega)) 4 4 (by omega) (by omega))
  refine GA.out.mono ?_
  rintro e w12 ⟨rfl, rfl⟩
  rw [show Num.nat ((S1.drop 0).take 4) = x from Hx.out.symm]
  go_wp2_with fail
  refine GB.out.mono ?_
  rintro e w12 ⟨rfl, rfl⟩
  rw [show Num.nat ((S1.drop 4).take 4) = y from Hy.out.symm]
  go_wp2_with fail
  all_goals
    go_ret2
    refine ⟨?_, B11.out⟩
    first
      | rw [Nat.max_eq_left (by omega)]; rfl
      | rw [Nat.max_eq_right (by omega)]; rfl

theorem refsize_yes (s : Int) (hs : s = 1 ∨ s = 2 ∨ s = 4 ∨ s = 8) (w : World) : Calls Tryd.prog 107 #[.int .i64 s] w fun e w' => e = .returned (.bool true) ∧ w = w' := by
  rcases hs with rfl | rfl | rfl | rfl
  all_goals
    go_enter Tryd.func107, Tryd.ntmps107
    go_wp2
    go_ret
    exact ⟨rfl, rfl⟩

/-- bytes of one's own, and that they are there -/
def CutBytes (w : World) (l : List UInt8) (e : Ending) (w' : World) : Prop := ∃ v, e = .returned (.tuple #[v, .bool true]) ∧ w'.ownsRow w.heap.size 5 1 v l.length (bv l) ∧ Below w.heap.size w w'

set_option maxHeartbeats 1000000 in
theorem refcut_any (w : World) (no : Nat → Prop) (l : List UInt8) (n : Nat) (hn : l.length = n) (hmost : n < 1000000) (a : Option Addr) (cap : Nat) (hb : Bytes w no a cap l) (i s : Nat) (h : i + s ≤ n) (h0 : 0 < s) :
    Calls Tryd.prog 112 #[.slice a n cap, .int .i64 (i : Int), .int .i64 (s : Int)] w (CutBytes w ((l.drop i).take s)) := by
  have hcap : n ≤ cap ∧ cap ≤ 9223372036854775807 := by have h1 := hb.1; have h2 := hb.2.1; unfold maxLen at h2; omega
  obtain ⟨b, off, hab, _, _, _⟩ := hb.2.2 (by intro e; rw [e] at hn; simp at hn; omega)
  subst hab
  have hp := hb.piece i s (by omega) (by omega)
  obtain ⟨M, hM⟩ : ∃ M, M = (l.drop i).take s := ⟨_, rfl⟩
  rw [← hM] at hp ⊢
  have ML : M.length = s := by rw [hM, List.length_take, List.length_drop]; omega
  have K := hid (copy_len w no M s ML (some ⟨b, off + i, none⟩) (cap - i) hp (by omega))
  have hx : (i : Int) + (s : Int) = ((i + s : Nat) : Int) := by omega
  obtain ⟨k, hk⟩ : ∃ k, k = i + s := ⟨_, rfl⟩
  have hks : k - i = s := by omega
  rw [← hk] at hx h
  have ik : i ≤ k := by omega
  have icap : i < cap := by omega
  have MLH := hid ML
  clear hb hn hp hM ML hk h0
  go_enter Tryd.func112, Tryd.ntmps112
  go_wp2_with fail
  refine K.out.mono ?_
  rintro e w1 ⟨v, rfl, ow, b1⟩
  have Ow := hid ow
  have B1 := hid b1
  clear ow b1
  go_wp2
  go_ret2
  exact ⟨v, rfl, Ow.out, B1.out⟩

set_option maxRecDepth 100000 in
set_option maxHeartbeats 2000000 in
theorem refget_any (w : World) (no : Nat → Prop) (l : List UInt8) (n : Nat) (hn : l.length = n) (hmost : n < 1000000) (a : Option Addr) (cap : Nat) (hb : Bytes w no a cap l) (i s : Nat) (hs : s = 1 ∨ s = 2 ∨ s = 4 ∨ s = 8) (h : i + s ≤ n) :
    Calls Tryd.prog 98 #[.slice a n cap, .int .i64 (i : Int), .int .i64 (s : Int)] w fun e w' => e = .returned (.tuple #[.int .u64 ((Num.nat ((l.drop i).take s) : Nat) : Int), .int .i64 0]) ∧ Below w.heap.size w w' := by
  have s8 : s ≤ 8 := by omega
  have s1 : 0 < s := by omega
  have K := hid (refcut_any w no l n hn hmost a cap hb i s h s1)
  obtain ⟨M, hM⟩ : ∃ M, M = (l.drop i).take s := ⟨_, rfl⟩
  rw [← hM] at K ⊢
  have ML : Hid (M.length = s) := by show _ = _; rw [hM, List.length_take, List.length_drop]; omega
  have HS : Hid (∀ w, Calls Tryd.prog 107 #[.int .i64 (s : Int)] w fun e w' => e = .returned (.bool true) ∧ w = w') := fun w => refsize_yes (s : Int) (by omega) w
  clear hn hb hs hM h
  go_enter Tryd.func98, Tryd.ntmps98
  go_wp2_with fail
  refine K.out.mono ?_
  rintro e w1 ⟨v, rfl, ow, b1⟩
  rw [ML.out] at ow
  obtain ⟨a1, c1, hv, hb1, _⟩ := own_open ow (fun _ => False) (fun _ _ h => h)
  subst hv
  obtain ⟨b, off, hab, _, _, hc⟩ := hb1.2.2 (by intro e; have := ML.out; rw [e] at this; simp at this; omega)
  subst hab
  have hc1 : s ≤ c1 ∧ c1 ≤ 9223372036854775807 := by have h1 := hb1.1; have h2 := hb1.2.1; have := ML.out; unfold maxLen at h2; omega
  have Hc := hid hc
  have B1 := hid b1
  clear ow hb1 b1 hc
  go_wp2_with fail
  refine (HS.out _).mono ?_
  rintro e w2 ⟨rfl, rfl⟩
  go_wp2_with fail
  go_loop [10, 11] (fun x j => ∃ k : Nat, k ≤ s ∧ j = .int .i64 (k : Int) ∧ x = .int .u64 ((Num.nat (M.take k) : Nat) : Int)) (fun _ j => s - (intOf j).toNat)
  case atStart => exact ⟨0, by omega, rfl, rfl⟩
  case round =>
    obtain ⟨k, hk, rfl, rfl⟩ := hrel
    by_cases hks : k < s
    · have hnx := Num.nat_take M k (by rw [ML.out]; exact hks)
      have hlt := Num.nat_lt (M.take k)
      have hpw : (256 : Nat) ^ (M.take k).length ≤ 256 ^ 7 := Num.pow_mono (by rw [List.length_take, ML.out]; omega)
      obtain ⟨X, hX⟩ : ∃ X, X = Num.nat (M.take k) := ⟨_, rfl⟩
      rw [← hX] at hnx hlt ⊢
      have X56 : X < 72057594037927936 := by omega
      obtain ⟨y, hy⟩ : ∃ y, y = M.getD k 0 := ⟨_, rfl⟩
      have c1' := Hc.out k (by rw [ML.out]; exact hks)
      rw [← hy] at hnx c1'
      have y256 := y.toNat_lt
      have b0 := bt8_nonneg y
      have b1 := bt8_lt y
      have o2 : IntKind.u64.wrap (bt8 y) = bt8 y := by rw [IntKind.wrap_u64]; omega
      have o3 : IntKind.u64.wrap (256 * (X : Int)) = 256 * (X : Int) := by rw [IntKind.wrap_u64]; omega
      have o4 : IntKind.u64.wrap (256 * (X : Int) + bt8 y) = 256 * (X : Int) + bt8 y := by rw [IntKind.wrap_u64]; omega
      have hnx2 : ((Num.nat (M.take (k + 1)) : Nat) : Int) = 256 * (X : Int) + bt8 y := by rw [hnx]; unfold bt8; omega
      have Hnx := hid hnx2
      clear hlt hpw hX hy hnx hnx2
      go_wp2
      go_round
      case rel => exact ⟨k + 1, by omega, by go_num, by rw [Hnx.out]; try rfl⟩
      case measure => simp [intOf]; omega
    · have e8 : k = s := by omega
      subst e8
      have HM : Hid (M.take k = M) := List.take_of_length_le (by rw [ML.out]; exact Nat.le_refl k)
      go_wp2
      go_ret2
      exact ⟨by rw [HM.out]; rfl, B1.out⟩

theorem refnumber_any (w : World) (no : Nat → Prop) (l : List UInt8) (n : Nat) (hn : l.length = n) (hmost : n < 1000000) (a : Option Addr) (cap : Nat) (hb : Bytes w no a cap l) (i s : Nat) (I S : Int) (hI : (i : Int) = I) (hS : (s : Int) = S) (hs : s = 1 ∨ s = 2 ∨ s = 4 ∨ s = 8) (h : i + s ≤ n) :
    Calls Tryd.prog 66 #[.slice a n cap, .int .i64 I, .int .i64 S] w fun e w' => e = .returned (.int .u64 ((Num.number l i s : Nat) : Int)) ∧ Below w.heap.size w w' := by
  subst hI hS
  have K := hid (refget_any w no l n hn hmost a cap hb i s hs h)
  clear hb hn
  go_enter Tryd.func66, Tryd.ntmps66
  go_wp2_with fail
  refine K.out.mono ?_
  rintro e w1 ⟨rfl, b1⟩
  have B1 := hid b1
  clear b1
  go_wp2
  go_ret
  exact ⟨rfl, B1.out⟩
end Go.Proofs.YtgiagcopbibneaaDoor
