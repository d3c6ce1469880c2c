/- The contract of the reference's whole. -/
import Derived.Test.YtgiagcopbibneaaDoorRef
namespace Go.Proofs.YtgiagcopbibneaaDoor
open Go.RowKit
open Sha (W)

theorem own_open {w : World} {base : Nat} {T : TypeId} {v : Value} {n : Nat} {l : List UInt8} (h : w.ownsRow base T 1 v n (bv l)) (no : Nat → Prop) (hno : ∀ b, base ≤ b → ¬ no b) :
    ∃ a cap, v = .slice a n cap ∧ Bytes w no a cap l ∧ (0 < n → ∃ g cur, a = some ⟨g, 0, none⟩ ∧ base ≤ g ∧ HasRow w g cur T ∧ n ≤ cur.length ∧ cur.take n = bv l) := by
  have hl : l.length = n := by have := h.1; simpa using this
  rcases h.2 with ⟨rfl, h0⟩ | ⟨g, cap, cur, rfl, hb, hg, hn, hc, hs, ht⟩
  · obtain rfl : l = [] := List.eq_nil_of_length_eq_zero (by omega)
    subst h0
    exact ⟨none, 0, rfl, Bytes.nil _ _ _ _ (Nat.zero_le _), fun h => absurd h (Nat.lt_irrefl 0)⟩
  · obtain ⟨a, c, hv, hb2⟩ := bytes_of_owns h no hno
    rw [hl] at hv
    injection hv with h1 h2 h3
    subst h1 h3
    refine ⟨_, _, rfl, hb2, fun _ => ⟨g, cur.toList, rfl, hb, hg, by simp; omega, by simpa using ht⟩⟩

set_option maxRecDepth 100000 in
set_option maxHeartbeats 1000000 in
/-- whole: the bytes, padded, in a row of the call's own -/
theorem whole_any (w : World) (no : Nat → Prop) (l : List UInt8) (n : Nat) (hn : l.length = n) (a : Option Addr) (cap : Nat) (hb : Bytes w no a cap l) (hmost : n < 1152921504) :
    Calls Tryd.prog 109 #[.slice a n cap] w (OwnBytes w (l ++ Sha.tail l.length)) := by
  have Hb := hid hb
  have Hn := hid hn
  clear hb hn
  obtain ⟨i0, hi, hz0, hz1, hz2⟩ := info_parts info_u8
  have Hi := hid hi
  have Hz0 := hid hz0
  have Hz1 := hid hz1
  have Hz2 := hid hz2
  clear hi hz0 hz1 hz2
  go_enter Tryd.func109, Tryd.ntmps109
  go_wp2_with fail
  refine (copy_len w no l n Hn.out a cap Hb.out (by omega)).mono ?_
  rintro e w1 ⟨v, rfl, ow, b1⟩
  rw [Hn.out] at ow
  have Ow := hid ow
  have B1 := hid b1
  have Z1 := hid b1.size
  clear ow b1
  go_wp2_with (refine wpList_append_bytes rfl (.tmp 7) (.tmp 8) 29 rfl w.heap.size 5 i0 Tryd.underlying29 Hi.out Hz0.out Hz1.out Hz2.out _ n _ rfl (Ow.out.alloc _) ⟨w1.heap.size, 0, none⟩ 1 1 [0x80] rfl rfl (new_byte w1 0x80 _) (by omega) (by have := Z1.out; simp; omega) ?_; intro v2 w2 hown2 g2; have Hown2 := hid hown2; have G2 := hid g2; clear hown2 g2)
  obtain ⟨Z, hZ⟩ : ∃ Z, Z = (119 - n % 64) % 64 := ⟨_, rfl⟩
  have Z64 : Z < 64 := by omega
  have HZ := hid hZ
  have BW2 : Hid (Below w.heap.size w w2) := (((B1.out.alloc (by have := Z1.out; omega) _)).grown G2.out (by simp; have := Z1.out; omega) (fun k hk => (Ow.out.lt k hk).1))
  obtain ⟨a2, c2, hv2, _⟩ := own_open Hown2.out (fun _ => False) (fun _ _ h => h)
  subst hv2
  clear hZ G2 Ow B1 Z1
  go_loopw [3] (fun v wr => ∃ z N a c, z ≤ Z ∧ N = n + 1 + z ∧ v = .slice a N c ∧ wr.ownsRow w.heap.size 5 1 (.slice a N c) N (bv (l ++ 0x80 :: List.replicate z 0)) ∧ Below w.heap.size w wr) (fun v _ => n + 65 - lenOf v)
  case atStart => exact ⟨0, n + 1, a2, c2, by omega, by omega, rfl, Hown2.out, BW2.out⟩
  case round =>
    obtain ⟨z, N, a3, c3, hz, hN, rfl, hown, bb⟩ := hrel
    have Hown := hid hown
    have Bb := hid bb
    have HN := hid hN
    obtain ⟨q, hq⟩ : ∃ q, q = N % 64 := ⟨_, rfl⟩
    have hN2 : N ≤ n + 65 := by omega
    have f1 : ((N : Nat) : Int).tmod 64 = (q : Int) := by rw [hq]; rfl
    by_cases hzZ : z < Z
    · have hq56 : ((q : Int) == 56) = false := by have := HZ.out; simp; omega
      have hq56' : ((q : Int) != 56) = true := by have := HZ.out; simp; omega
      clear hown bb hN hq
      go_wp2_with (refine wpList_append_bytes rfl (.tmp 14) (.tmp 15) 29 rfl w.heap.size 5 i0 Tryd.underlying29 Hi.out Hz0.out Hz1.out Hz2.out _ N _ rfl (Hown.out.alloc _) ⟨wr.heap.size, 0, none⟩ 1 1 [0] rfl rfl (new_byte wr 0 _) (by omega) (by have := Bb.out.size; simp; omega) ?_; intro v3 w3 hown3 g3; have Hown3 := hid hown3; have G3 := hid g3; clear hown3 g3)
      obtain ⟨a4, c4, hv4, _⟩ := own_open Hown3.out (fun _ => False) (fun _ _ h => h)
      subst hv4
      go_roundw
      case rel =>
        refine ⟨z + 1, N + 1, a4, c4, by omega, by have := HN.out; omega, rfl, ?_, (Bb.out.alloc (by have := Bb.out.size; omega) _).grown G3.out (by simp; have := Bb.out.size; omega) (fun k hk => (Hown.out.lt k hk).1)⟩
        have := Hown3.out
        rw [List.append_assoc, List.cons_append, ← List.replicate_succ'] at this
        exact this
      case measure => simp [lenOf]; have := HN.out; omega
    · obtain rfl : z = Z := by omega
      have hq56 : q = 56 := by have := HZ.out; omega
      subst hq56
      clear hown bb hN hq
      obtain ⟨wo, rfl⟩ : ∃ wo : World, wo = wr := ⟨_, rfl⟩
      go_wp2
      obtain ⟨L, hL⟩ : ∃ L, L = l ++ 0x80 :: List.replicate z 0 := ⟨_, rfl⟩
      rw [← hL] at Hown
      have HL := hid hL
      have SB := hid Bb.out.size
      clear hL
      go_loopw [3, 4] (fun v i wr => ∃ j M a c, j ≤ 8 ∧ M = N + j ∧ i = .int .i64 (7 - (j : Int)) ∧ v = .slice a M c ∧ wr.ownsRow w.heap.size 5 1 (.slice a M c) M (bv (L ++ (Sha.be8 (8 * n)).take j)) ∧ Below w.heap.size w wr) (fun _ i _ => (intOf i + 1).toNat)
      case atStart => exact ⟨0, N, a3, c3, by omega, by omega, rfl, rfl, by simpa using Hown.out, Bb.out⟩
      case round =>
        obtain ⟨j, M, a5, c5, hj, hM, rfl, rfl, hown, b5⟩ := hrel
        have Hown5 := hid hown
        have B5 := hid b5
        have HM := hid hM
        have hM2 : M ≤ n + 80 := by omega
        have SB5 := hid b5.size
        clear hown b5 hM
        by_cases hj8 : j < 8
        · obtain ⟨S, hS⟩ : ∃ S : Int, S = 7 - (j : Int) := ⟨_, rfl⟩
          have s0 : 0 ≤ S := by omega
          have s7 : S ≤ 7 := by omega
          obtain ⟨e, he⟩ : ∃ e : Nat, e = 56 - 8 * j := ⟨_, rfl⟩
          have hSe : (8 * S).toNat = e := by omega
          obtain ⟨x, hx⟩ : ∃ x, x = (Sha.be8 (8 * n)).getD j 0 := ⟨_, rfl⟩
          have hb : IntKind.u8.wrap (8 * (n : Int) / 2 ^ e) = bt8 x := by
            rw [hx, Sha.be8_at _ _ hj8, ← he, IntKind.wrap_u8']
            unfold bt8
            rw [UInt8.toNat_ofNat', Int.natCast_emod, Int.natCast_ediv, Int.natCast_pow]; simp
          rw [← hS]
          have HS := hid hS
          have Hx := hid hx
          clear hS he hx
          go_wp2_with (refine wpList_append_bytes rfl (.tmp 21) (.tmp 31) 29 rfl w.heap.size 5 i0 Tryd.underlying29 Hi.out Hz0.out Hz1.out Hz2.out _ M _ rfl (Hown5.out.alloc _) ⟨wr.heap.size, 0, none⟩ 1 1 [x] rfl rfl (new_byte wr x _) (by omega) (by have := SB5.out; simp; omega) ?_; intro v3 w3 hown3 g3; have Hown3 := hid hown3; have G3 := hid g3; clear hown3 g3)
          obtain ⟨a6, c6, hv6, _⟩ := own_open Hown3.out (fun _ => False) (fun _ _ h => h)
          subst hv6
          go_roundw
          case rel =>
            refine ⟨j + 1, M + 1, a6, c6, by omega, by have := HM.out; omega, by rw [HS.out]; go_num, rfl, ?_, (B5.out.alloc (by have := SB5.out; omega) _).grown G3.out (by simp; have := SB5.out; omega) (fun k hk => (Hown5.out.lt k hk).1)⟩
            have := Hown3.out
            rw [Hx.out, List.append_assoc, Sha.be8_take _ _ hj8] at this
            exact this
          case measure => simp [intOf]; omega
        · obtain rfl : j = 8 := by omega
          go_wp2
          go_ret
          refine ⟨_, rfl, ?_, B5.out⟩
          have h := Hown5.out
          have e : L ++ (Sha.be8 (8 * n)).take 8 = l ++ Sha.tail l.length := by
            rw [List.take_of_length_le (by rw [Sha.length_be8]; exact Nat.le_refl 8), HL.out, Hn.out, Sha.tail_eq n (by omega), ← HZ.out]
            simp
          rw [e] at h
          have hlen : (l ++ Sha.tail l.length).length = M := by have := h.1; simpa using this
          rw [hlen]
          exact h
end Go.Proofs.YtgiagcopbibneaaDoor
