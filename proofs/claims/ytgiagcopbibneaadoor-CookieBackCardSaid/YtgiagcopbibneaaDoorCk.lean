/- Cookies: what their bytes are; contracts of package cookie. -/
import Derived.Test.YtgiagcopbibneaaDoorOct
namespace Num
/-- a cookie -/
structure Ck where
  born : Int
  ownTag : Nat
  peerTag : Nat
  ownTsn : Nat
  peerTsn : Nat
  peerRwnd : Nat
  out : Nat
  inn : Nat
/-- its fields fit -/
structure Ck.Ok (c : Ck) : Prop where
  b0 : -9223372036854775808 ≤ c.born
  b1 : c.born ≤ 9223372036854775807
  h1 : c.ownTag < 4294967296
  h2 : c.peerTag < 4294967296
  h3 : c.ownTsn < 4294967296
  h4 : c.peerTsn < 4294967296
  h5 : c.peerRwnd < 4294967296
  h6 : c.out < 65536
  h7 : c.inn < 65536
/-- a number with a sign as one of 64 bits without -/
def u64 (x : Int) : Nat := (x % 18446744073709551616).toNat
/-- and back -/
def i64 (x : Nat) : Int := if x < 9223372036854775808 then (x : Int) else (x : Int) - 18446744073709551616
theorem u64_lt (x : Int) : u64 x < 18446744073709551616 := by unfold u64; omega
theorem u64_cast (x : Int) : ((u64 x : Nat) : Int) = x % 18446744073709551616 := by unfold u64; omega
theorem i64_u64 (x : Int) (h0 : -9223372036854775808 ≤ x) (h1 : x ≤ 9223372036854775807) : i64 (u64 x) = x := by
  unfold i64 u64; split <;> omega
theorem i64_bounds (x : Nat) (h : x < 18446744073709551616) : -9223372036854775808 ≤ i64 x ∧ i64 x ≤ 9223372036854775807 := by
  unfold i64; split <;> omega
def Ck.none : Ck := ⟨0, 0, 0, 0, 0, 0, 0, 0⟩
def Ck.body (c : Ck) : List UInt8 := be 8 (u64 c.born) ++ be 4 c.ownTag ++ be 4 c.peerTag ++ be 4 c.ownTsn ++ be 4 c.peerTsn ++ be 4 c.peerRwnd ++ be 2 c.out ++ be 2 c.inn
theorem Ck.length_body (c : Ck) : c.body.length = 32 := by simp [Ck.body, length_be]
def Ck.bytes (key : List UInt8) (c : Ck) : List UInt8 := c.body ++ Sha.mac key c.body
theorem Ck.length_bytes (key : List UInt8) (c : Ck) : (c.bytes key).length = 64 := by rw [Ck.bytes, List.length_append, Ck.length_body, Sha.length_mac]
def number (b : List UInt8) (i s : Nat) : Nat := nat ((b.drop i).take s)
/-- the cookie of 32 bytes -/
def Ck.parse (b : List UInt8) : Ck := ⟨i64 (number b 0 8), number b 8 4, number b 12 4, number b 16 4, number b 20 4, number b 24 4, number b 28 2, number b 30 2⟩
def Ck.may (c : Ck) : Bool := decide (0 ≤ c.born) && !(c.ownTag == 0) && !(c.peerTag == 0) && !(c.out == 0) && !(c.inn == 0)
/-- which cookie bytes are, and the error -/
def Ck.read (key b : List UInt8) : Ck × Nat :=
  if b.length = 64 then if Sha.mac key (b.take 32) = b.drop 32 then if (Ck.parse (b.take 32)).may then (Ck.parse (b.take 32), 0) else (Ck.none, 7) else (Ck.none, 10) else (Ck.none, 7)
theorem number_lt (b : List UInt8) (i s : Nat) : number b i s < 256 ^ s := by
  have h1 := nat_lt ((b.drop i).take s)
  have h2 : 256 ^ ((b.drop i).take s).length ≤ 256 ^ s := pow_mono (by rw [List.length_take]; omega)
  unfold number
  omega
theorem Ck.parse_ok (b : List UInt8) : (Ck.parse b).Ok := by
  have h0 := i64_bounds (number b 0 8) (number_lt b 0 8)
  exact ⟨h0.1, h0.2, number_lt b 8 4, number_lt b 12 4, number_lt b 16 4, number_lt b 20 4, number_lt b 24 4, number_lt b 28 2, number_lt b 30 2⟩
theorem Ck.none_ok : Ck.none.Ok := ⟨by decide, by decide, by decide, by decide, by decide, by decide, by decide, by decide, by decide⟩
theorem number_mid (p q : List UInt8) (s x i : Nat) (hp : p.length = i) (hx : x < 256 ^ s) : number (p ++ (be s x ++ q)) i s = x := by
  unfold number
  rw [List.drop_append, List.drop_of_length_le (by omega), List.nil_append, hp, Nat.sub_self, List.drop_zero, List.take_append, List.take_of_length_le (by rw [length_be]; omega), length_be, Nat.sub_self, List.take_zero, List.append_nil, nat_be, Nat.mod_eq_of_lt hx]
theorem Ck.parse_body (c : Ck) (h : c.Ok) : Ck.parse c.body = c := by
  have e0 : number c.body 0 8 = u64 c.born := by
    have := number_mid [] (be 4 c.ownTag ++ be 4 c.peerTag ++ be 4 c.ownTsn ++ be 4 c.peerTsn ++ be 4 c.peerRwnd ++ be 2 c.out ++ be 2 c.inn) 8 (u64 c.born) 0 rfl (u64_lt _)
    simpa [Ck.body, List.append_assoc] using this
  have e1 : number c.body 8 4 = c.ownTag := by
    have := number_mid (be 8 (u64 c.born)) (be 4 c.peerTag ++ be 4 c.ownTsn ++ be 4 c.peerTsn ++ be 4 c.peerRwnd ++ be 2 c.out ++ be 2 c.inn) 4 c.ownTag 8 (by simp [length_be]) h.h1
    simpa [Ck.body, List.append_assoc] using this
  have e2 : number c.body 12 4 = c.peerTag := by
    have := number_mid (be 8 (u64 c.born) ++ be 4 c.ownTag) (be 4 c.ownTsn ++ be 4 c.peerTsn ++ be 4 c.peerRwnd ++ be 2 c.out ++ be 2 c.inn) 4 c.peerTag 12 (by simp [length_be]) h.h2
    simpa [Ck.body, List.append_assoc] using this
  have e3 : number c.body 16 4 = c.ownTsn := by
    have := number_mid (be 8 (u64 c.born) ++ be 4 c.ownTag ++ be 4 c.peerTag) (be 4 c.peerTsn ++ be 4 c.peerRwnd ++ be 2 c.out ++ be 2 c.inn) 4 c.ownTsn 16 (by simp [length_be]) h.h3
    simpa [Ck.body, List.append_assoc] using this
  have e4 : number c.body 20 4 = c.peerTsn := by
    have := number_mid (be 8 (u64 c.born) ++ be 4 c.ownTag ++ be 4 c.peerTag ++ be 4 c.ownTsn) (be 4 c.peerRwnd ++ be 2 c.out ++ be 2 c.inn) 4 c.peerTsn 20 (by simp [length_be]) h.h4
    simpa [Ck.body, List.append_assoc] using this
  have e5 : number c.body 24 4 = c.peerRwnd := by
    have := number_mid (be 8 (u64 c.born) ++ be 4 c.ownTag ++ be 4 c.peerTag ++ be 4 c.ownTsn ++ be 4 c.peerTsn) (be 2 c.out ++ be 2 c.inn) 4 c.peerRwnd 24 (by simp [length_be]) h.h5
    simpa [Ck.body, List.append_assoc] using this
  have e6 : number c.body 28 2 = c.out := by
    have := number_mid (be 8 (u64 c.born) ++ be 4 c.ownTag ++ be 4 c.peerTag ++ be 4 c.ownTsn ++ be 4 c.peerTsn ++ be 4 c.peerRwnd) (be 2 c.inn) 2 c.out 28 (by simp [length_be]) h.h6
    simpa [Ck.body, List.append_assoc] using this
  have e7 : number c.body 30 2 = c.inn := by
    have := number_mid (be 8 (u64 c.born) ++ be 4 c.ownTag ++ be 4 c.peerTag ++ be 4 c.ownTsn ++ be 4 c.peerTsn ++ be 4 c.peerRwnd ++ be 2 c.out) [] 2 c.inn 30 (by simp [length_be]) h.h7
    simpa [Ck.body, List.append_assoc] using this
  unfold Ck.parse
  rw [e0, e1, e2, e3, e4, e5, e6, e7, i64_u64 _ h.b0 h.b1]
def fresh (born now life : Int) : Bool := decide (0 ≤ life) && decide (born ≤ now) && decide (now - born ≤ life)
end Num
namespace Go.Proofs.YtgiagcopbibneaaDoor
open Go.RowKit
open Sha (W)
open Num (Ck)

/-- a cookie's cells -/
def ckCells (c : Ck) : List Value := [.int .i64 c.born, .int .u32 (c.ownTag : Int), .int .u32 (c.peerTag : Int), .int .u32 (c.ownTsn : Int), .int .u32 (c.peerTsn : Int), .int .u32 (c.peerRwnd : Int), .int .u16 (c.out : Int), .int .u16 (c.inn : Int)]

set_option maxHeartbeats 1000000 in
theorem fresh_any (w : World) (c : Ck) (hc : c.Ok) (now life : Int) (hn : -9223372036854775808 ≤ now ∧ now ≤ 9223372036854775807) (hl : -9223372036854775808 ≤ life ∧ life ≤ 9223372036854775807) :
    Calls Tryd.prog 36 #[.agg (ckCells c).toArray, .int .i64 now, .int .i64 life] w fun e w' => e = .returned (.bool (Num.fresh c.born now life)) ∧ Below w.heap.size w w' := by
  have b0 := hc.b0
  have b1 := hc.b1
  clear hc
  obtain ⟨b, t1, t2, t3, t4, t5, o, i⟩ := c
  simp only [ckCells, Num.fresh] at *
  by_cases h1 : 0 ≤ life
  · by_cases h2 : b ≤ now
    · have e1 : IntKind.u64.wrap (IntKind.u64.wrap now - IntKind.u64.wrap b) = now - b := by
        rw [IntKind.wrap_u64, IntKind.wrap_u64, IntKind.wrap_u64]; omega
      have e2 : IntKind.u64.wrap life = life := by rw [IntKind.wrap_u64]; omega
      by_cases h3 : now - b ≤ life
      · have hr : (decide (0 ≤ life) && decide (b ≤ now) && decide (now - b ≤ life)) = true := by simp [h1, h2, h3]
        rw [hr]
        clear hr
        go_enter Tryd.func36, Tryd.ntmps36
        go_wp2
        go_ret
        exact ⟨rfl, (Below.refl _ _).alloc (Nat.le_refl _) _⟩
      · have hr : (decide (0 ≤ life) && decide (b ≤ now) && decide (now - b ≤ life)) = false := by simp [h3]
        rw [hr]
        clear hr
        go_enter Tryd.func36, Tryd.ntmps36
        go_wp2
        go_ret
        exact ⟨rfl, (Below.refl _ _).alloc (Nat.le_refl _) _⟩
    · have hr : (decide (0 ≤ life) && decide (b ≤ now) && decide (now - b ≤ life)) = false := by simp [h2]
      rw [hr]
      clear hr
      go_enter Tryd.func36, Tryd.ntmps36
      go_wp2
      go_ret
      exact ⟨rfl, (Below.refl _ _).alloc (Nat.le_refl _) _⟩
  · have hr : (decide (0 ≤ life) && decide (b ≤ now) && decide (now - b ≤ life)) = false := by simp [h1]
    rw [hr]
    clear hr
    go_enter Tryd.func36, Tryd.ntmps36
    go_wp2
    go_ret
    exact ⟨rfl, (Below.refl _ _).alloc (Nat.le_refl _) _⟩
end Go.Proofs.YtgiagcopbibneaaDoor
