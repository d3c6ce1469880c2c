/- Contracts of slices.Clone at bytes and of package octet. -/
import Derived.Test.YtgiagcopbibneaaDoorNum
import Derived.WalkSpells
namespace Go.Proofs.YtgiagcopbibneaaDoor
open Go.RowKit
open Sha (W)

theorem sized_yes (s : Int) (hs : s = 1 ∨ s = 2 ∨ s = 4 ∨ s = 8) (w : World) : Calls Tryd.prog 88 #[.int .i64 s] w fun e w' => e = .returned (.bool true) ∧ w = w' := by
  rcases hs with rfl | rfl | rfl | rfl
  all_goals
    go_enter Tryd.func88, Tryd.ntmps88
    go_wp2
    go_ret
    exact ⟨rfl, rfl⟩

theorem within_yes (w : World) (a : Option Addr) (n cap : Nat) (i s : Nat) (h : i + s ≤ n) (hn : n ≤ 9223372036854775807) : Calls Tryd.prog 97 #[.slice a n cap, .int .i64 (i : Int), .int .i64 (s : Int)] w fun e w' => e = .returned (.bool true) ∧ w = w' := by
  have h1 : (i : Int) ≤ (n : Int) := by omega
  have h2 : (s : Int) ≤ (n : Int) - (i : Int) := by omega
  have h3 : 0 ≤ (i : Int) := by omega
  have h4 : 0 ≤ (s : Int) := by omega
  go_enter Tryd.func97, Tryd.ntmps97
  go_wp2
  go_ret
  exact ⟨rfl, rfl⟩

set_option maxRecDepth 100000 in
set_option maxHeartbeats 1000000 in
theorem clone_any (w : World) (no : Nat → Prop) (l : List UInt8) (n : Nat) (hn : l.length = n) (hmost : n < 1152921504000) (a : Option Addr) (cap : Nat) (hb : Bytes w no a cap l) :
    Calls Tryd.prog 47 #[.slice a n cap] w (OwnBytes w l) := by
  have q := fun (w : World) (a : Option Addr) (n c n' c' : Nat) => Lib.run_eql_slice_nil (P := Tryd.prog) w _ _ a n c n' c' Tryd.underlying29
  have Hb := hid hb
  have Hn := hid hn
  obtain ⟨i0, hi, hz0, hz1, hz2⟩ := info_parts info_u8
  have Hi := hid hi
  have Hz0 := hid hz0
  have Hz1 := hid hz1
  have Hz2 := hid hz2
  clear hb hn hi hz0 hz1 hz2
  cases a with
  | none =>
    have hl : l = [] := by
      apply Classical.byContradiction
      intro h
      obtain ⟨b, off, hab, _⟩ := Hb.out.2.2 h
      cases hab
    go_enter Tryd.func47, Tryd.ntmps47
    go_wp2
    go_ret
    rw [hl]
    exact ⟨_, rfl, World.ownsRow_nil _ _ _ _, Below.refl _ _⟩
  | some a =>
    have O1 : Hid ((w.alloc (.cells #[] 5)).ownsRow w.heap.size 5 1 (.slice (some ⟨w.heap.size, 0, none⟩) 0 0) 0 (bv [])) :=
      ⟨rfl, .inr ⟨w.heap.size, 0, #[], rfl, Nat.le_refl _, HasRow.new w [] 5, Nat.le_refl _, by decide, rfl, rfl⟩⟩
    have Hnews : Hid (0 < n → ∃ b off, some a = some ⟨b, off, none⟩ ∧ ∀ j, j < n → (w.alloc (.cells #[] 5)).cell? ⟨b, off + j, none⟩ = some (.int .u8 (bt8 (l.getD j 0)))) := fun h0 => by
      obtain ⟨b, off, hab, _, _, hc⟩ := (Hb.out.below_of ((Below.refl _ _).alloc (Nat.le_refl _) (.cells #[] 5))).2.2 (by intro e; have := Hn.out; rw [e] at this; simp at this; omega)
      exact ⟨b, off, hab, fun j hj => hc j (by have := Hn.out; omega)⟩
    have B1 : Hid (Below w.heap.size w (w.alloc (.cells #[] 5))) := (Below.refl _ _).alloc (Nat.le_refl _) _
    go_enter Tryd.func47, Tryd.ntmps47
    go_wp2_with (refine wpList_append_any rfl (.tmp 5) (.tmp 6) 29 rfl w.heap.size 5 i0 Tryd.underlying29 Hi.out Hz0.out Hz1.out Hz2.out _ 0 _ rfl O1.out _ n cap l rfl Hn.out Hnews.out (by omega) (by simp) ?_; intro v3 w3 hown3 g3 hv3; have Hown3 := hid hown3; have G3 := hid g3; clear hown3 g3 hv3)
    go_ret
    have h := Hown3.out
    rw [Nat.zero_add, List.nil_append] at h
    exact ⟨_, rfl, by rw [Hn.out]; exact h, own_below_of O1.out G3.out B1.out (Nat.le_refl _) (by simp)⟩

set_option maxRecDepth 100000 in
set_option maxHeartbeats 1000000 in
/-- the law's twin: bytes in memory of their own -/
theorem twin_any (w : World) (no : Nat → Prop) (l : List UInt8) (n : Nat) (hn : l.length = n) (hmost : n < 1152921504000) (a : Option Addr) (cap : Nat) (hb : Bytes w no a cap l) :
    Calls Tryd.prog 30 #[.slice a n cap] w (OwnBytes w l) := by
  have Hb := hid hb
  have Hn := hid hn
  obtain ⟨i0, hi, hz0, hz1, hz2⟩ := info_parts info_u8
  have Hi := hid hi
  have Hz0 := hid hz0
  have Hz1 := hid hz1
  have Hz2 := hid hz2
  clear hb hn hi hz0 hz1 hz2
  have O1 : Hid ((w.alloc (.cells #[] 5)).ownsRow w.heap.size 5 1 (.slice (some ⟨w.heap.size, 0, none⟩) 0 0) 0 (bv [])) :=
    ⟨rfl, .inr ⟨w.heap.size, 0, #[], rfl, Nat.le_refl _, HasRow.new w [] 5, Nat.le_refl _, by decide, rfl, rfl⟩⟩
  have Hnews : Hid (0 < n → ∃ b off, a = some ⟨b, off, none⟩ ∧ ∀ j, j < n → (w.alloc (.cells #[] 5)).cell? ⟨b, off + j, none⟩ = some (.int .u8 (bt8 (l.getD j 0)))) := fun h0 => by
    obtain ⟨b, off, hab, _, _, hc⟩ := (Hb.out.below_of ((Below.refl _ _).alloc (Nat.le_refl _) (.cells #[] 5))).2.2 (by intro e; have := Hn.out; rw [e] at this; simp at this; omega)
    exact ⟨b, off, hab, fun j hj => hc j (by have := Hn.out; omega)⟩
  have B1 : Hid (Below w.heap.size w (w.alloc (.cells #[] 5))) := (Below.refl _ _).alloc (Nat.le_refl _) _
  go_enter Tryd.func30, Tryd.ntmps30
  go_wp2_with (refine wpList_append_any rfl (.tmp 3) (.tmp 4) 29 rfl w.heap.size 5 i0 Tryd.underlying29 Hi.out Hz0.out Hz1.out Hz2.out _ 0 _ rfl O1.out _ n cap l rfl Hn.out Hnews.out (by omega) (by simp) ?_; intro v3 w3 hown3 g3 hv3; have Hown3 := hid hown3; have G3 := hid g3; clear hown3 g3 hv3)
  go_ret
  have h := Hown3.out
  rw [Nat.zero_add, List.nil_append] at h
  exact ⟨_, rfl, by rw [Hn.out]; exact h, own_below_of O1.out G3.out B1.out (Nat.le_refl _) (by simp)⟩

/-- a byte out of a number of 64 bits -/
theorem byte_of_u64 (x e : Nat) : IntKind.u8.wrap ((x : Int) / 2 ^ e) = bt8 (UInt8.ofNat (x / 2 ^ e)) := by
  rw [IntKind.wrap_u8']
  unfold bt8
  rw [UInt8.toNat_ofNat', Int.natCast_emod, Int.natCast_ediv, Int.natCast_pow]; rfl

set_option maxRecDepth 100000 in
set_option maxHeartbeats 2000000 in
theorem put_any (w : World) (no : Nat → Prop) (l : List UInt8) (n : Nat) (hn : l.length = n) (hmost : n < 1000000000) (a : Option Addr) (cap : Nat) (hb : Bytes w no a cap l) (x : Nat) (s : Nat) (hs : s = 1 ∨ s = 2 ∨ s = 4 ∨ s = 8) :
    Calls Tryd.prog 57 #[.slice a n cap, .int .u64 (x : Int), .int .i64 (s : Int)] w (OwnBytes w (l ++ Num.be s x)) := by
  have Hb := hid hb
  have Hn := hid hn
  obtain ⟨i0, hi, hz0, hz1, hz2⟩ := info_parts info_u8
  have Hi := hid hi
  have Hz0 := hid hz0
  have Hz1 := hid hz1
  have Hz2 := hid hz2
  have s8 : s ≤ 8 := by omega
  have s1 : 1 ≤ s := by omega
  have HS : Hid (∀ w, Calls Tryd.prog 88 #[.int .i64 (s : Int)] w fun e w' => e = .returned (.bool true) ∧ w = w') := fun w => sized_yes (s : Int) (by omega) w
  clear hb hn hi hz0 hz1 hz2 hs
  go_enter Tryd.func57, Tryd.ntmps57
  go_wp2_with fail
  refine (clone_any w no l n Hn.out (by omega) a cap Hb.out).mono ?_
  rintro e w1 ⟨v, rfl, ow, b1⟩
  rw [Hn.out] at ow
  have Ow := hid ow
  have B1 := hid b1
  clear ow b1
  go_wp2_with fail
  refine (HS.out _).mono ?_
  rintro e w2 ⟨rfl, rfl⟩
  go_wp2_with fail
  go_loopw [7, 8, 16] (fun v u i wr => ∃ k : Nat, k ≤ s ∧ i = .int .i64 (k : Int) ∧ wr.ownsRow w.heap.size 5 1 v (n + k) (bv (l ++ (Num.be s x).take k)) ∧ Below w.heap.size w wr) (fun _ _ i _ => s - (intOf i).toNat)
  case atStart => exact ⟨0, by omega, rfl, by simpa using Ow.out, B1.out⟩
  case round =>
    obtain ⟨k, hk, rfl, ow, bb⟩ := hrel
    obtain ⟨wo, rfl⟩ : ∃ wo : World, wo = wr := ⟨_, rfl⟩
    have Oy := hid ow
    have Bb := hid bb
    clear ow bb
    have Zo := hid Bb.out.size
    by_cases hks : k < s
    · obtain ⟨E, hE⟩ : ∃ E : Nat, E = 8 * (s - 1 - k) := ⟨_, rfl⟩
      obtain ⟨D, hD⟩ : ∃ D : Int, D = 8 * ((s : Int) - 1 - (k : Int)) := ⟨_, rfl⟩
      have D0 : 0 ≤ D := by omega
      have D56 : D ≤ 56 := by omega
      have DE : D.toNat = E := by omega
      have hD2 : 8 * ((s : Int) - 1 - (k : Int)) = D := hD.symm
      obtain ⟨y, hy⟩ : ∃ y, y = UInt8.ofNat (x / 2 ^ E) := ⟨_, rfl⟩
      have hb2 : IntKind.u8.wrap ((x : Int) / 2 ^ E) = bt8 y := by rw [hy]; exact byte_of_u64 x E
      have HL : Hid ((l ++ (Num.be s x).take k) ++ [y] = l ++ (Num.be s x).take (k + 1)) := by
        show _ = _
        rw [List.append_assoc, hy, hE, Num.be_take s x k hks]
      clear hE hD hy
      go_wp2_with (refine wpList_append_any rfl (.tmp 19) (.tmp 28) 29 rfl w.heap.size 5 i0 Tryd.underlying29 Hi.out Hz0.out Hz1.out Hz2.out _ (n + k) _ rfl (Oy.out.alloc _) _ 1 1 [y] rfl rfl (newb wo y 5) (by omega) (by simp; exact Nat.le_trans Zo.out (Nat.le_succ _)) ?_; intro v4 w4 hown4 g4 hv4; rw [HL.out] at hown4; have Hown4 := hid hown4; have G4 := hid g4; clear hown4 g4 hv4)
      go_roundw
      case rel => exact ⟨k + 1, by omega, by go_num, Hown4.out, own_below_of (Oy.out.alloc _) G4.out (Bb.out.alloc Zo.out _) (Nat.le_refl _) (by simp; exact Nat.le_trans Zo.out (Nat.le_succ _))⟩
      case measure => simp [intOf]; omega
    · have e8 : k = s := by omega
      subst e8
      go_wp2_with fail
      go_ret
      have h := Oy.out
      rw [List.take_of_length_le (by rw [Num.length_be]; exact Nat.le_refl k)] at h
      exact ⟨_, rfl, by rw [List.length_append, Hn.out, Num.length_be]; exact h, Bb.out⟩

set_option maxRecDepth 100000 in
set_option maxHeartbeats 2000000 in
/-- Get, where the number is there -/
theorem get_any (w : World) (no : Nat → Prop) (l : List UInt8) (n : Nat) (hn : l.length = n) (a : Option Addr) (cap : Nat) (hb : Bytes w no a cap l) (i s : Nat) (hs : s = 1 ∨ s = 2 ∨ s = 4 ∨ s = 8) (h : i + s ≤ n) :
    Calls Tryd.prog 64 #[.slice a n cap, .int .i64 (i : Int), .int .i64 (s : Int)] w fun e w' => e = .returned (.tuple #[.int .u64 ((Num.nat ((l.drop i).take s) : Nat) : Int), .int .i64 0]) ∧ w = w' := by
  have hcap : n ≤ cap ∧ cap ≤ 9223372036854775807 := by have h1 := hb.1; have h2 := hb.2.1; unfold maxLen at h2; omega
  have Hn := hid hn
  have s8 : s ≤ 8 := by omega
  have s1 : 1 ≤ s := by omega
  obtain ⟨b, off, hab, _, _, hc⟩ := hb.2.2 (by intro e; have := Hn.out; rw [e] at this; simp at this; omega)
  subst hab
  obtain ⟨M, hM⟩ : ∃ M, M = (l.drop i).take s := ⟨_, rfl⟩
  have ML : Hid (M.length = s) := by show _ = _; rw [hM, List.length_take, List.length_drop, Hn.out]; omega
  have Hc : Hid (∀ k, k < s → w.cell? ⟨b, off + (i + k), none⟩ = some (.int .u8 (bt8 (M.getD k 0)))) := fun k hk => by
    have := hc (i + k) (by have := Hn.out; omega)
    rw [this, hM]
    simp [List.getD_eq_getElem?_getD, List.getElem?_drop, hk]
  rw [← hM]
  have HS : Hid (∀ w, Calls Tryd.prog 88 #[.int .i64 (s : Int)] w fun e w' => e = .returned (.bool true) ∧ w = w') := fun w => sized_yes (s : Int) (by omega) w
  have HW : Hid (∀ w, Calls Tryd.prog 97 #[.slice (some ⟨b, off, none⟩) n cap, .int .i64 (i : Int), .int .i64 (s : Int)] w fun e w' => e = .returned (.bool true) ∧ w = w') := fun w => within_yes w _ n cap i s h (by omega)
  clear hn hb hs hc hM
  go_enter Tryd.func64, Tryd.ntmps64
  go_wp2_with fail
  refine (HS.out _).mono ?_
  rintro e w1 ⟨rfl, rfl⟩
  go_wp2_with fail
  refine (HW.out _).mono ?_
  rintro e w1 ⟨rfl, rfl⟩
  go_wp2_with fail
  go_loop [6, 8, 20] (fun x u j => ∃ k : Nat, k ≤ s ∧ j = .int .i64 (k : Int) ∧ x = .int .u64 ((Num.nat (M.take k) : Nat) : Int)) (fun _ _ j => s - (intOf j).toNat)
  case atStart => exact ⟨0, by omega, rfl, rfl⟩
  case round =>
    obtain ⟨k, hk, rfl, rfl⟩ := hrel
    by_cases hks : k < s
    · have hnx := Num.nat_take M k (by rw [ML.out]; exact hks)
      have hlt := Num.nat_lt (M.take k)
      have hpw : (256 : Nat) ^ (M.take k).length ≤ 256 ^ 7 := Num.pow_mono (by rw [List.length_take, ML.out]; omega)
      obtain ⟨X, hX⟩ : ∃ X, X = Num.nat (M.take k) := ⟨_, rfl⟩
      rw [← hX] at hnx hlt ⊢
      have X56 : X < 72057594037927936 := by omega
      obtain ⟨y, hy⟩ : ∃ y, y = M.getD k 0 := ⟨_, rfl⟩
      have c1 := Hc.out k hks
      rw [← hy] at hnx c1
      have y256 := y.toNat_lt
      have o1 : bits .or .u64 ((X : Int) * 256) (bt8 y) = ((256 * X + y.toNat : Nat) : Int) := by
        have e1 : (X : Int) * 256 = ((256 * X : Nat) : Int) := by omega
        rw [e1]
        unfold bt8
        rw [u64_or_nat _ _ (by omega) (by omega), Num.or_add X y.toNat (by omega)]
      have b0 := bt8_nonneg y
      have b1 := bt8_lt y
      have o2 : IntKind.u64.wrap (bt8 y) = bt8 y := by rw [IntKind.wrap_u64]; omega
      have o3 : IntKind.u64.wrap ((X : Int) * 256) = (X : Int) * 256 := by rw [IntKind.wrap_u64]; omega
      have Hnx := hid hnx
      clear hlt hpw hX hy hnx
      go_wp2
      go_round
      case rel => exact ⟨k + 1, by omega, by go_num, by rw [Hnx.out]; try rfl⟩
      case measure => simp [intOf]; omega
    · have e8 : k = s := by omega
      subst e8
      have HM : Hid (M.take k = M) := List.take_of_length_le (by rw [ML.out]; exact Nat.le_refl k)
      go_wp2
      go_ret2
      exact ⟨by rw [HM.out]; rfl, rfl⟩
end Go.Proofs.YtgiagcopbibneaaDoor
