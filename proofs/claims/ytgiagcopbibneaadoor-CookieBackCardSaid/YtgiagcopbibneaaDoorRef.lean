/- The contracts of the reference: fairleadref00's Roomy, Kept, EqBytes; fairleadref06's constants, whole, words, Sum. -/
import Derived.Test.YtgiagcopbibneaaDoorCopy
import Derived.Test.YtgiagcopbibneaaDoorLaws4
namespace Go.Proofs.YtgiagcopbibneaaDoor
open Go.RowKit
open Sha (W)

/-- what Roomy makes: the bytes, marks behind them -/
def marks : List UInt8 := List.replicate 16 0x5a
def RoomyAt (w : World) (base : Nat) (l : List UInt8) (g : Nat) : Prop := base ≤ g ∧ HasRow w g (bv (l ++ marks)) 5

def RoomyMade (w : World) (l : List UInt8) (e : Ending) (w' : World) : Prop := ∃ g, e = .returned (.slice (some ⟨g, 0, none⟩) l.length (l.length + 16)) ∧ RoomyAt w' w.heap.size l g ∧ Below w.heap.size w w'

theorem roomy_bytes {w : World} {base g : Nat} {l : List UInt8} (h : RoomyAt w base l g) (no : Nat → Prop) (hno : ∀ b, base ≤ b → ¬ no b) (hl : l.length < 1152921504606) : Bytes w no (some ⟨g, 0, none⟩) (l.length + 16) l := by
  refine ⟨by omega, by unfold maxLen; omega, fun _ => ⟨g, 0, rfl, hno g h.1, h.2.lt, fun i hi => ?_⟩⟩
  rw [Nat.zero_add, h.2.byte i (by simp; omega)]
  rw [List.getD_eq_getElem?_getD, List.getElem?_append_left hi, ← List.getD_eq_getElem?_getD]
theorem RoomyAt.below {w w' : World} {base g : Nat} {l : List UInt8} (h : RoomyAt w base l g) {B : Nat} (hb : Below B w w') (hB : w.heap.size ≤ B) : RoomyAt w' base l g :=
  ⟨h.1, h.2.below hb (Nat.lt_of_lt_of_le h.2.lt hB)⟩

theorem info_u32 : (Tryd.prog.info? 31).map (fun i => (i.zero, i.size, i.bytes)) = some (some (.int .u32 0), 1, 4) := by kernel_rfl

set_option maxRecDepth 100000 in
theorem constants_any (w : World) : Calls Tryd.prog 108 #[] w fun e w' => e = .returned (.slice (some ⟨w.heap.size, 0, none⟩) 64 64) ∧ HasRow w' w.heap.size (wv Sha.kTab) 31 ∧ Below w.heap.size w w' ∧ w'.heap.size = w.heap.size + 1 := by
  go_enter Tryd.func108, Tryd.ntmps108
  go_wp2
  go_ret
  exact ⟨rfl, HasRow.new w (wv Sha.kTab) _, (Below.refl _ _).alloc (Nat.le_refl _) _, by simp⟩

/-- the words of the document: a number handed in by itself -/
theorem right_lit (x : W) (k : Int) (h0 : 0 < k) (h1 : k < 32) (w : World) :
    Calls Tryd.prog 111 #[.int .u32 (wd x), .int .i64 k] w fun e w' => e = .returned (.int .u32 (wd (Sha.ror x k.toNat))) ∧ w = w' := by
  have h := right_any x k.toNat (by omega) (by omega) w
  rwa [Int.toNat_of_nonneg (by omega)] at h

end Go.Proofs.YtgiagcopbibneaaDoor
