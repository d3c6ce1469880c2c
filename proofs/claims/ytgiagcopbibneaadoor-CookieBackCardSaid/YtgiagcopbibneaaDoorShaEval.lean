/- The plain SHA-256 reckoned by the kernel: each number is reckoned before it is handed on. -/
import Derived.Test.YtgiagcopbibneaaDoorSha
namespace Sha

/-- the number is reckoned before it is handed on -/
def force {α : Type} (x : Nat) (k : Nat → α) : α := Nat.rec (k 0) (fun n _ => k (n + 1)) x
theorem force_eq {α : Type} (x : Nat) (k : Nat → α) : force x k = k x := by cases x <;> rfl

/-- all words of a list are reckoned before it is handed on -/
def forceL {α : Type} : List W → (List W → α) → α
  | [], k => k []
  | x :: l, k => force x.toNat fun n => forceL l fun m => k (BitVec.ofNat 32 n :: m)
theorem forceL_eq {α : Type} (l : List W) (k : List W → α) : forceL l k = k l := by
  induction l generalizing k with
  | nil => rfl
  | cons x l ih => simp [forceL, force_eq, ih]

def wsE (b : List UInt8) : Nat → List W → List W
  | 0, l => l
  | n + 1, l => force (next b l).toNat fun x => wsE b n (l ++ [BitVec.ofNat 32 x])
theorem wsE_eq (b : List UInt8) (n t : Nat) : wsE b n (ws b t) = ws b (t + n) := by
  induction n generalizing t with
  | zero => rfl
  | succ n ih =>
    rw [wsE, force_eq, show t + (n + 1) = (t + 1) + n by omega, ← ih (t + 1)]
    simp [ws]

def roundsE : List W → List W → St → St
  | k :: ks, w :: ws, s => force (round s k w).a.toNat fun x => force (round s k w).e.toNat fun y => roundsE ks ws ⟨BitVec.ofNat 32 x, s.a, s.b, s.c, BitVec.ofNat 32 y, s.e, s.f, s.g⟩
  | _, _, s => s
theorem roundsE_fold (ks ws : List W) (s : St) : roundsE ks ws s = (ks.zip ws).foldl (fun s p => round s p.1 p.2) s := by
  induction ks generalizing ws s with
  | nil => simp [roundsE]
  | cons k ks ih =>
    cases ws with
    | nil => simp [roundsE]
    | cons w ws =>
      simp only [roundsE, force_eq, List.zip_cons_cons, List.foldl_cons]
      rw [ih]
      simp only [BitVec.ofNat_toNat, BitVec.setWidth_eq]
      rfl
theorem rounds_fold (w : List W) (s : St) (hw : w.length = 64) (t : Nat) (ht : t ≤ 64) : rounds w s t = ((kTab.zip w).take t).foldl (fun s p => round s p.1 p.2) s := by
  have hk : kTab.length = 64 := rfl
  induction t with
  | zero => simp [rounds]
  | succ t ih =>
    have h1 : t < (kTab.zip w).length := by simp [hk, hw]; omega
    rw [rounds, ih (by omega), List.take_succ_eq_append_getElem h1, List.foldl_append]
    simp only [List.foldl_cons, List.foldl_nil, List.getElem_zip]
    congr 1
    · rw [List.getD_eq_getElem?_getD, List.getElem?_eq_getElem (by omega)]; rfl
    · rw [List.getD_eq_getElem?_getD, List.getElem?_eq_getElem (by omega)]; rfl
theorem roundsE_eq (w : List W) (s : St) (hw : w.length = 64) : roundsE kTab w s = rounds w s 64 := by
  have hk : kTab.length = 64 := rfl
  rw [roundsE_fold, rounds_fold w s hw 64 (Nat.le_refl _), List.take_of_length_le]
  simp [hw, hk]

def takeE (h : List W) (b : List UInt8) : List W := forceL (wsE b 64 []) fun w => forceL (List.zipWith (· + ·) h (roundsE kTab w (ofList h)).list) id
theorem takeE_eq (h : List W) (b : List UInt8) : takeE h b = take h b := by
  have e : wsE b 64 [] = ws b 64 := wsE_eq b 64 0
  rw [takeE, forceL_eq, forceL_eq, e, roundsE_eq _ _ (length_ws b 64)]
  rfl

def blocksE : Nat → List W → List UInt8 → List W
  | 0, h, _ => h
  | n + 1, h, l => forceL (takeE h (l.take 64)) fun h => blocksE n h (l.drop 64)
theorem blocksE_eq (l : List UInt8) (n t : Nat) : blocksE n (blocks l t) (l.drop (64 * t)) = blocks l (t + n) := by
  induction n generalizing t with
  | zero => rfl
  | succ n ih =>
    rw [blocksE, forceL_eq, takeE_eq, List.drop_drop, show 64 * t + 64 = 64 * (t + 1) by omega]
    rw [show t + (n + 1) = (t + 1) + n by omega, ← ih (t + 1)]
    rfl

def sumE (l : List UInt8) : List UInt8 := out (blocksE ((l.length + (tail l.length).length) / 64) hTab (l ++ tail l.length))
theorem sumE_eq (l : List UInt8) : sum l = sumE l := by
  have h := blocksE_eq (l ++ tail l.length) ((l.length + (tail l.length).length) / 64) 0
  simp only [Nat.mul_zero, List.drop_zero, Nat.zero_add, blocks] at h
  rw [sum, sumE, h]

theorem sum_abc : sum [97, 98, 99] = [0xba, 0x78, 0x16, 0xbf, 0x8f, 0x01, 0xcf, 0xea, 0x41, 0x41, 0x40, 0xde, 0x5d, 0xae, 0x22, 0x23, 0xb0, 0x03, 0x61, 0xa3, 0x96, 0x17, 0x7a, 0x9c, 0xb4, 0x10, 0xff, 0x61, 0xf2, 0x00, 0x15, 0xad] := by
  rw [sumE_eq]; decide +kernel
end Sha
