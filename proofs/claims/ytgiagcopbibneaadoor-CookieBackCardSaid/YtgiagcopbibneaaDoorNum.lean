/- Numbers as bytes, the highest first. -/
import Derived.Test.YtgiagcopbibneaaDoorRef7
namespace Num

/-- so many bytes of a number, the highest first -/
def be (n x : Nat) : List UInt8 := (List.range n).map fun i => UInt8.ofNat (x / 2 ^ (8 * (n - 1 - i)))
/-- the number of bytes, the highest first -/
def nat (l : List UInt8) : Nat := l.foldl (fun a b => 256 * a + b.toNat) 0

theorem length_be (n x : Nat) : (be n x).length = n := by simp [be]
theorem be_at (n x i : Nat) (h : i < n) : (be n x).getD i 0 = UInt8.ofNat (x / 2 ^ (8 * (n - 1 - i))) := by
  simp [be, List.getD_eq_getElem?_getD, h]
theorem be_take (n x i : Nat) (h : i < n) : (be n x).take i ++ [UInt8.ofNat (x / 2 ^ (8 * (n - 1 - i)))] = (be n x).take (i + 1) := by
  rw [List.take_succ_eq_append_getElem (by rw [length_be]; exact h)]
  simp [be]
theorem be_succ (n x : Nat) : be (n + 1) x = UInt8.ofNat (x / 2 ^ (8 * n)) :: be n x := by
  unfold be
  rw [List.range_succ_eq_map, List.map_cons, List.map_map]
  congr 1
  apply List.map_congr_left
  intro i _
  simp only [Function.comp]
  congr 4
  omega
theorem foldl_nat (l : List UInt8) : ∀ c : Nat, l.foldl (fun a b => 256 * a + b.toNat) c = c * 256 ^ l.length + nat l := by
  unfold nat
  induction l with
  | nil => intro c; simp
  | cons a l ih =>
    intro c
    simp only [List.foldl_cons, List.length_cons]
    rw [ih (256 * c + a.toNat), ih (256 * 0 + a.toNat), Nat.pow_succ, Nat.mul_zero, Nat.zero_add, Nat.add_mul, ← Nat.add_assoc]
    congr 2
    rw [Nat.mul_comm 256 c, Nat.mul_assoc, Nat.mul_comm 256]
theorem nat_cons (a : UInt8) (l : List UInt8) : nat (a :: l) = a.toNat * 256 ^ l.length + nat l := by
  rw [nat, List.foldl_cons, foldl_nat]; simp
theorem nat_nil : nat [] = 0 := rfl
theorem nat_take (l : List UInt8) (i : Nat) (h : i < l.length) : nat (l.take (i + 1)) = 256 * nat (l.take i) + (l.getD i 0).toNat := by
  rw [List.take_succ_eq_append_getElem h, nat, List.foldl_append]
  simp [nat, List.getD_eq_getElem?_getD, h]
theorem nat_lt (l : List UInt8) : nat l < 256 ^ l.length := by
  induction l with
  | nil => simp [nat]
  | cons a l ih =>
    rw [nat_cons, List.length_cons, Nat.pow_succ]
    have := a.toNat_lt
    have h2 : (a.toNat + 1) * 256 ^ l.length ≤ 256 * 256 ^ l.length := Nat.mul_le_mul_right _ (by omega)
    rw [Nat.add_mul] at h2
    omega
theorem nat_be (n x : Nat) : nat (be n x) = x % 256 ^ n := by
  induction n with
  | zero => simp [be, nat, Nat.mod_one]
  | succ n ih =>
    rw [be_succ, nat_cons, ih, length_be, UInt8.toNat_ofNat']
    have e : (2 : Nat) ^ (8 * n) = 256 ^ n := by rw [Nat.pow_mul]
    have h2 : x % (256 ^ n * 256) = x % 256 ^ n + 256 ^ n * (x / 256 ^ n % 256) := Nat.mod_mul
    rw [e, Nat.pow_succ 256 n, h2, Nat.mul_comm (256 ^ n), Nat.add_comm]
theorem be_inj {n x y : Nat} (hx : x < 256 ^ n) (hy : y < 256 ^ n) : be n x = be n y ↔ x = y := by
  constructor
  · intro h
    have := congrArg nat h
    rwa [nat_be, nat_be, Nat.mod_eq_of_lt hx, Nat.mod_eq_of_lt hy] at this
  · intro h; rw [h]
theorem or_add (a b : Nat) (h : b < 256) : 256 * a ||| b = 256 * a + b := by
  have := Nat.shiftLeft_add_eq_or_of_lt (show b < 2 ^ 8 from h) a
  rw [Nat.shiftLeft_eq, Nat.mul_comm] at this
  exact this.symm
theorem pow_mono {i j : Nat} (h : i ≤ j) : 256 ^ i ≤ 256 ^ j := Nat.pow_le_pow_right (by omega) h
end Num
