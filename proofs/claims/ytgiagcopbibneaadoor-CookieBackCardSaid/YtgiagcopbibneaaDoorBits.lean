/- Contracts of math/bits.RotateLeft32 and of the reference's right. -/
import Derived.Test.YtgiagcopbibneaaDoorChecked
import Derived.Test.YtgiagcopbibneaaDoorLaws
namespace Go.Proofs.YtgiagcopbibneaaDoor
open Go.RowKit
open Sha (W)

theorem rotl_any (x : W) (k : Int) (s : Nat) (h0 : 0 < s) (h32 : s < 32) (h : bits .and .u64 (IntKind.u64.wrap k) 31 = (s : Int)) (w : World) :
    Calls Tryd.prog 119 #[.int .u32 (wd x), .int .i64 k] w fun e w' => e = .returned (.int .u32 (wd (x <<< s ||| x >>> (32 - s)))) ∧ w = w' := by
  have e1 : IntKind.u64.wrap (32 - (s : Int)) = ((32 - s : Nat) : Int) := by
    rw [IntKind.wrap_u64]; omega
  have e2 := wd_shl x s
  have e3 := wd_shr x (32 - s)
  go_enter Tryd.func119, Tryd.ntmps119
  go_wp2
  go_ret
  exact ⟨rfl, rfl⟩

/-- bits go round to the left by -n: to the right by n -/
theorem rotl_ror (x : W) (n : Nat) (k : Int) (hk : k = -(n : Int)) (h0 : 0 < n) (h32 : n < 32) (w : World) :
    Calls Tryd.prog 119 #[.int .u32 (wd x), .int .i64 k] w fun e w' => e = .returned (.int .u32 (wd (Sha.ror x n))) ∧ w = w' := by
  have h : bits .and .u64 (IntKind.u64.wrap k) 31 = ((32 - n : Nat) : Int) := by
    subst hk
    have : ∀ n : Fin 32, 0 < n.val → bits .and .u64 (IntKind.u64.wrap (-(n.val : Int))) 31 = ((32 - n.val : Nat) : Int) := by decide
    exact this ⟨n, h32⟩ h0
  refine (rotl_any x k (32 - n) (by omega) (by omega) h w).mono fun e w' ⟨he, hw⟩ => ⟨?_, hw⟩
  rw [he, Sha.ror, BitVec.or_comm, show 32 - (32 - n) = n by omega]

/-- the same, told of the number itself -/
theorem rotl_neg (x : W) (k : Int) (h0 : k < 0) (h1 : -32 < k) (w : World) :
    Calls Tryd.prog 119 #[.int .u32 (wd x), .int .i64 k] w fun e w' => e = .returned (.int .u32 (wd (Sha.ror x (-k).toNat))) ∧ w = w' :=
  rotl_ror x (-k).toNat k (by omega) (by omega) (by omega) w

theorem right_any (x : W) (n : Nat) (h0 : 0 < n) (h32 : n < 32) (w : World) :
    Calls Tryd.prog 111 #[.int .u32 (wd x), .int .i64 (n : Int)] w fun e w' => e = .returned (.int .u32 (wd (Sha.ror x n))) ∧ w = w' := by
  have e1 : IntKind.i64.wrap (32 - (n : Int)) = ((32 - n : Nat) : Int) := by
    rw [IntWalk.i64_in _ (by omega)]; omega
  have e4 : IntKind.u64.wrap ((32 - n : Nat) : Int) = ((32 - n : Nat) : Int) := by rw [IntKind.wrap_u64]; omega
  have e5 : IntKind.u64.wrap (n : Int) = (n : Int) := by rw [IntKind.wrap_u64]; omega
  have e2 := wd_shl x (32 - n)
  have e3 := wd_shr x n
  go_enter Tryd.func111, Tryd.ntmps111
  go_wp2
  go_ret
  exact ⟨rfl, rfl⟩
end Go.Proofs.YtgiagcopbibneaaDoor
