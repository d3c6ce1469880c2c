/- What a state is in memory, and rows of bytes that are read. -/
import Derived.Test.YtgiagcopbibneaaDoorTake
import Derived.Test.YtgiagcopbibneaaDoorLaws2
namespace Go.Proofs.YtgiagcopbibneaaDoor
open Go.RowKit
open Sha (W)

/-- 'l' can be read at a slice's address; no block of 'no' is met -/
def Bytes (w : World) (no : Nat → Prop) (a : Option Addr) (cap : Nat) (l : List UInt8) : Prop :=
  l.length ≤ cap ∧ cap ≤ maxLen ∧ (l ≠ [] → ∃ b off, a = some ⟨b, off, none⟩ ∧ ¬ no b ∧ b < w.heap.size ∧ ∀ i, i < l.length → w.cell? ⟨b, off + i, none⟩ = some (.int .u8 (bt8 (l.getD i 0))))

theorem Bytes.grown {w w' : World} {no : Nat → Prop} {a : Option Addr} {cap : Nat} {l : List UInt8} (h : Bytes w no a cap l) {r : Option Nat} (hg : w.grownBy w' r) (hr : ∀ b, some b = r → no b) : Bytes w' no a cap l := by
  refine ⟨h.1, h.2.1, fun hl => ?_⟩
  obtain ⟨b, off, ha, hb, hlt, hc⟩ := h.2.2 hl
  refine ⟨b, off, ha, hb, Nat.lt_of_lt_of_le hlt hg.size, fun i hi => ?_⟩
  rw [World.cell?_of_block (w := w) (hg.block b hlt (fun e => hb (hr b e)))]
  exact hc i hi
theorem Bytes.below {w w' : World} {no : Nat → Prop} {a : Option Addr} {cap : Nat} {l : List UInt8} (h : Bytes w no a cap l) {B : Nat} (hg : Below B w w') (hB : ∀ b, b < w.heap.size → ¬ no b → b < B) : Bytes w' no a cap l := by
  refine ⟨h.1, h.2.1, fun hl => ?_⟩
  obtain ⟨b, off, ha, hb, hlt, hc⟩ := h.2.2 hl
  refine ⟨b, off, ha, hb, Nat.lt_of_lt_of_le hlt hg.size, fun i hi => ?_⟩
  rw [World.cell?_of_block (w := w) (hg.block b (hB b hlt hb))]
  exact hc i hi
theorem Bytes.other {w : World} {no no' : Nat → Prop} {a : Option Addr} {cap : Nat} {l : List UInt8} (h : Bytes w no a cap l) (hn : ∀ b, b < w.heap.size → ¬ no b → ¬ no' b) : Bytes w no' a cap l := by
  refine ⟨h.1, h.2.1, fun hl => ?_⟩
  obtain ⟨b, off, ha, hb, hlt, hc⟩ := h.2.2 hl
  exact ⟨b, off, ha, hn b hlt hb, hlt, hc⟩
theorem Bytes.drop {w : World} {no : Nat → Prop} {a : Option Addr} {cap : Nat} {l : List UInt8} (h : Bytes w no a cap l) (k : Nat) (hk : k ≤ l.length) (hn : k < cap) :
    Bytes w no (a.map fun x => x.add k) (cap - k) (l.drop k) := by
  refine ⟨by simp; have := h.1; omega, by have := h.2.1; omega, fun hl => ?_⟩
  obtain ⟨b, off, ha, hb, hlt, hc⟩ := h.2.2 (by intro e; simp [e] at hl)
  refine ⟨b, off + k, by rw [ha]; simp [addr_add], hb, hlt, fun i hi => ?_⟩
  have := hc (k + i) (by simp at hi; omega)
  rw [← Nat.add_assoc] at this
  rw [this]
  simp [List.getD_eq_getElem?_getD, List.getElem?_drop]
theorem Bytes.nil (w : World) (no : Nat → Prop) (a : Option Addr) (cap : Nat) (h : cap ≤ maxLen) : Bytes w no a cap [] := ⟨Nat.zero_le _, h, fun h => absurd rfl h⟩
theorem Bytes.take {w : World} {no : Nat → Prop} {a : Option Addr} {cap : Nat} {l : List UInt8} (h : Bytes w no a cap l) (k : Nat) : Bytes w no a cap (l.take k) := by
  refine ⟨by simp; have := h.1; omega, h.2.1, fun hl => ?_⟩
  obtain ⟨b, off, ha, hb, hlt, hc⟩ := h.2.2 (by intro e; simp [e] at hl)
  refine ⟨b, off, ha, hb, hlt, fun i hi => ?_⟩
  rw [hc i (by simp at hi; omega)]
  have hik : i < k := by simp at hi; omega
  simp [List.getD_eq_getElem?_getD, hik]

/-- block s is a state that has taken the bytes l -/
def IsState (w : World) (s : Nat) (l : List UInt8) : Prop :=
  ∃ blk, Sha.Tail blk l ∧ HasRow w s (stCells (decide (64 ≤ l.length)) (Sha.sums l) blk (l.length : Int)) 146

theorem IsState.grown {w w' : World} {s : Nat} {l : List UInt8} (h : IsState w s l) {r : Option Nat} (hg : w.grownBy w' r) (hr : some s ≠ r) : IsState w' s l := by
  obtain ⟨blk, h1, h2⟩ := h
  exact ⟨blk, h1, h2.grown hg hr⟩
theorem IsState.below {w w' : World} {s : Nat} {l : List UInt8} (h : IsState w s l) {B : Nat} (hg : Below B w w') (hs : s < B) : IsState w' s l := by
  obtain ⟨blk, h1, h2⟩ := h
  exact ⟨blk, h1, h2.below hg hs⟩
theorem IsState.lt {w : World} {s : Nat} {l : List UInt8} (h : IsState w s l) : s < w.heap.size := by
  obtain ⟨blk, _, h2⟩ := h
  exact h2.lt

def lenOf : Value → Nat | .slice _ n _ => n | _ => 0

theorem Tabs.grown {w w' : World} (h : Tabs w) {s : Nat} (hs : 2 ≤ s) (hg : w.grownBy w' (some s)) : Tabs w' :=
  ⟨h.1.grown hg (by intro e; injection e with e; omega), h.2.grown hg (by intro e; injection e with e; omega)⟩
theorem Tabs.below {w w' : World} (h : Tabs w) {B : Nat} (hB : 2 ≤ B) (hg : Below B w w') : Tabs w' := ⟨h.1.below hg (by omega), h.2.below hg (by omega)⟩

theorem isState_full {w : World} {s : Nat} {L C blk : List UInt8} {N q k : Nat} (htl : Sha.Tail blk L) (hN : N = L.length) (hq : q = N % 64) (hC : C.length = k) (hk : q + k = 64)
    (h : HasRow w s (stCells true (Sha.take (Sha.start (decide (64 ≤ N)) (Sha.sums L)) (Sha.lay blk q C)) (Sha.lay blk q C) ((N : Int) + (k : Int))) 146) : IsState w s (L ++ C) := by
  subst hN hq hC
  have hb : (Sha.lay blk (L.length % 64) C).length = 64 := (Sha.length_lay _ _ _ (by have := htl.1; omega)).trans htl.1
  refine ⟨_, Sha.tail_full _ hb hk, ?_⟩
  rw [Sha.sums_full htl hk] at h
  have e1 : decide (64 ≤ (L ++ C).length) = true := by simp; omega
  rw [e1]
  simpa using h
theorem isState_part {w : World} {s : Nat} {L C blk : List UInt8} {N q k : Nat} (htl : Sha.Tail blk L) (hN : N = L.length) (hq : q = N % 64) (hC : C.length = k) (hk : q + k < 64)
    (h : HasRow w s (stCells (decide (64 ≤ N)) (Sha.sums L) (Sha.lay blk q C) ((N : Int) + (k : Int))) 146) : IsState w s (L ++ C) := by
  subst hN hq hC
  refine ⟨_, Sha.tail_part htl hk, ?_⟩
  rw [Sha.sums_part hk]
  have e1 : decide (64 ≤ (L ++ C).length) = decide (64 ≤ L.length) := by
    apply decide_eq_decide.2; simp; omega
  rw [e1]
  simpa using h
theorem take_more {b : List UInt8} (l : List UInt8) (j k : Nat) : (l ++ b.take j) ++ (b.drop j).take k = l ++ b.take (j + k) := by
  rw [List.append_assoc, List.take_add]
/-- what is left of a slice when k bytes of it are gone -/
theorem bytes_left {w w' : World} {s : Nat} {b : List UInt8} {j k m c bb off : Nat} (h : Bytes w (· = s) (some ⟨bb, off, none⟩) c (b.drop j)) (hg : w.grownBy w' (some s)) (hm : m = b.length - j) (hk : k ≤ m) (hc : k < c) :
    Bytes w' (· = s) (some ⟨bb, off + k, none⟩) (c - k) (b.drop (j + k)) := by
  have h1 := (h.grown hg (fun b hb => by injection hb)).drop k (by simp; omega) hc
  rw [List.drop_drop] at h1
  simpa [addr_add] using h1
end Go.Proofs.YtgiagcopbibneaaDoor
