/- Words of 32 bits and bytes as the program's memory has them, and what its operations make of them. -/
import Derived.Test.YtgiagcopbibneaaDoorSha
import Derived.WalkKit
import Derived.StillTailTactics
import Derived.Deep.QuietTactic
import Derived.BigQuiet
import Derived.Deep.LoopGhost
import Derived.WalkSpells
import Derived.WalkLawsBesides
namespace Go
open Sha (W)

/-- a word as a number -/
def wd (x : W) : Int := (x.toNat : Int)
/-- a byte as a number -/
def bt8 (x : UInt8) : Int := (x.toNat : Int)

theorem wd_nonneg (x : W) : 0 ≤ wd x := by simp [wd]
theorem wd_lt (x : W) : wd x < 4294967296 := by have := x.isLt; simp only [wd]; omega
theorem bt8_nonneg (x : UInt8) : 0 ≤ bt8 x := by simp [bt8]
theorem bt8_lt (x : UInt8) : bt8 x < 256 := by have := x.toNat_lt; simp only [bt8]; omega

theorem wd_inj {x y : W} : wd x = wd y ↔ x = y := by
  unfold wd
  rw [Int.ofNat_inj]
  exact ⟨BitVec.eq_of_toNat_eq, fun h => by rw [h]⟩
theorem bt8_inj {x y : UInt8} : bt8 x = bt8 y ↔ x = y := by
  unfold bt8
  rw [Int.ofNat_inj]
  exact ⟨UInt8.toNat_inj.1, fun h => by rw [h]⟩

@[go_sem] theorem wd_or (x y : W) : bits .or .u32 (wd x) (wd y) = wd (x ||| y) := by
  unfold wd; rw [u32_or_nat _ _ x.isLt y.isLt, BitVec.toNat_or]
@[go_sem] theorem wd_and (x y : W) : bits .and .u32 (wd x) (wd y) = wd (x &&& y) := by
  unfold wd; rw [u32_and_nat _ _ x.isLt y.isLt, BitVec.toNat_and]
@[go_sem] theorem wd_xor (x y : W) : bits .xor .u32 (wd x) (wd y) = wd (x ^^^ y) := by
  unfold wd; rw [u32_xor_nat _ _ x.isLt y.isLt, BitVec.toNat_xor]
@[go_sem] theorem wd_add (x y : W) : (wd x + wd y) % (4294967296 : Int) = wd (x + y) := by
  unfold wd; rw [BitVec.toNat_add]; omega
@[go_sem] theorem wd_wrap (x : W) : IntKind.u32.wrap (wd x) = wd x := by
  rw [IntKind.wrap_u32']; have := wd_lt x; have := wd_nonneg x; omega
theorem wd_shr (x : W) (n : Nat) : wd x / 2 ^ n = wd (x >>> n) := by
  unfold wd
  rw [BitVec.toNat_ushiftRight, Nat.shiftRight_eq_div_pow, Int.natCast_ediv, Int.natCast_pow]; rfl
theorem wd_shl (x : W) (n : Nat) : wd x * 2 ^ n % (4294967296 : Int) = wd (x <<< n) := by
  unfold wd
  rw [BitVec.toNat_shiftLeft, Nat.shiftLeft_eq, Int.natCast_emod, Int.natCast_mul, Int.natCast_pow]; rfl
@[go_sem] theorem wd_not (x : W) : bits .xor .u32 (4294967295 : Int) (wd x) = wd (~~~x) := by
  unfold wd
  rw [show (4294967295 : Int) = ((4294967295 : Nat) : Int) from rfl, u32_xor_nat _ _ (by omega) x.isLt, BitVec.toNat_not]
  congr 1
  have h : (4294967295 : Nat) = (BitVec.allOnes 32).toNat := by decide
  rw [h, ← BitVec.toNat_xor, BitVec.allOnes_xor, BitVec.toNat_not]
@[go_sem] theorem wd_not' (x : W) : bits .xor .u32 (if IntKind.u32.signed = true then -1 else IntKind.u32.max) (wd x) = wd (~~~x) := wd_not x
@[go_sem] theorem wd_of_byte (c : UInt8) : IntKind.u32.wrap (bt8 c) = wd (Sha.b2w c) := by
  rw [IntKind.wrap_u32']
  unfold bt8 wd Sha.b2w
  have := c.toNat_lt
  rw [BitVec.toNat_ofNat]
  omega
theorem byte_of_wd (x : W) (n : Nat) : (wd x / 2 ^ n) % 256 = bt8 (UInt8.ofNat (x.toNat / 2 ^ n)) := by
  unfold bt8 wd
  rw [UInt8.toNat_ofNat', Int.natCast_emod, Int.natCast_ediv, Int.natCast_pow]; rfl
@[go_sem] theorem bt8_xor (x y : UInt8) : bits .xor .u8 (bt8 x) (bt8 y) = bt8 (x ^^^ y) := by
  unfold bt8; rw [u8_xor_nat _ _ x.toNat_lt y.toNat_lt, UInt8.toNat_xor]
@[go_sem] theorem bt8_or (x y : UInt8) : bits .or .u8 (bt8 x) (bt8 y) = bt8 (x ||| y) := by
  unfold bt8; rw [u8_or_nat _ _ x.toNat_lt y.toNat_lt, UInt8.toNat_or]
@[go_sem] theorem wd_wrap_add (x y : W) : IntKind.u32.wrap (wd x + wd y) = wd (x + y) := by rw [IntKind.wrap_u32', wd_add]
@[go_sem] theorem wd_wrap_shl8 (x : W) : IntKind.u32.wrap (wd x * (256 : Int)) = wd (x <<< 8) := by rw [IntKind.wrap_u32']; exact wd_shl x 8
@[go_sem] theorem wd_shl8 (x : W) : wd x * (256 : Int) % (4294967296 : Int) = wd (x <<< 8) := wd_shl x 8
@[go_sem] theorem wd_shr3 (x : W) : wd x / (8 : Int) = wd (x >>> 3) := wd_shr x 3
@[go_sem] theorem wd_shr10 (x : W) : wd x / (1024 : Int) = wd (x >>> 10) := wd_shr x 10

/-- a region that reads but for its last operations -/
theorem region_tail {P : Program} {id : Nat} {Q : Exit → Act → World → Prop} {a : Act} {w : World} {l : List Oper} (n : Nat) (hm : P.follows .mixedOrders = true) (hB : Region.lexTailB .any l.toArray n = true)
    (h : wpStill P l.toArray w.drew (fun a' => wpList P l.toArray Q (l.drop n) a' w.drew) (l.take n) a) : (Code.region id l.toArray true).wp P Q a w := wp_region_still_tail n hm hB h

theorem hid {p : Prop} (h : p) : RowKit.Hid p := h

/-- words, bytes as values -/
def wv (l : List W) : List Value := l.map fun x => Value.int .u32 (wd x)
def bv (l : List UInt8) : List Value := l.map fun x => Value.int .u8 (bt8 x)
@[simp] theorem length_wv (l : List W) : (wv l).length = l.length := by simp [wv]
@[simp] theorem length_bv (l : List UInt8) : (bv l).length = l.length := by simp [bv]

/-- block B is a row of these cells -/
def HasRow (w : World) (B : Nat) (l : List Value) (T : TypeId) : Prop := w.heap[B]? = some (.cells l.toArray T (0, 0))
theorem HasRow.cell_any {w : World} {B : Nat} {l : List Value} {T : TypeId} (h : HasRow w B l T) (i : Nat) : w.cell? ⟨B, i, none⟩ = l[i]? := by
  rw [cell_of_row w B i _ T _ h]; simp
theorem HasRow.free {w : World} {B : Nat} {l : List Value} {T : TypeId} (h : HasRow w B l T) (i : Nat) : w.frozen? ⟨B, i, none⟩ = false := frozen_of_row w B i _ T h
theorem HasRow.lt {w : World} {B : Nat} {l : List Value} {T : TypeId} (h : HasRow w B l T) : B < w.heap.size := (Array.getElem?_eq_some_iff.1 h).1
theorem HasRow.word {w : World} {B : Nat} {l : List W} {T : TypeId} (h : HasRow w B (wv l) T) (i : Nat) (hi : i < l.length) : w.cell? ⟨B, i, none⟩ = some (.int .u32 (wd (l.getD i 0))) := by
  rw [h.cell_any]; simp [wv, List.getD_eq_getElem?_getD, List.getElem?_eq_getElem hi]
theorem HasRow.byte {w : World} {B : Nat} {l : List UInt8} {T : TypeId} (h : HasRow w B (bv l) T) (i : Nat) (hi : i < l.length) : w.cell? ⟨B, i, none⟩ = some (.int .u8 (bt8 (l.getD i 0))) := by
  rw [h.cell_any]; simp [bv, List.getD_eq_getElem?_getD, List.getElem?_eq_getElem hi]
theorem HasRow.set {w : World} {B : Nat} {l : List Value} {T : TypeId} (h : HasRow w B l T) (i : Nat) (v : Value) : HasRow (w.setCell ⟨B, i, none⟩ v) B (l.set i v) T := by
  unfold HasRow
  rw [heap_setCell_same w B i _ T v h]
  simp
theorem HasRow.setWord {w : World} {B : Nat} {l : List W} {T : TypeId} (h : HasRow w B (wv l) T) (i : Nat) (x : W) : HasRow (w.setCell ⟨B, i, none⟩ (.int .u32 (wd x))) B (wv (l.set i x)) T := by
  have := h.set i (.int .u32 (wd x)); simpa [wv, List.map_set] using this
theorem HasRow.setByte {w : World} {B : Nat} {l : List UInt8} {T : TypeId} (h : HasRow w B (bv l) T) (i : Nat) (x : UInt8) : HasRow (w.setCell ⟨B, i, none⟩ (.int .u8 (bt8 x))) B (bv (l.set i x)) T := by
  have := h.set i (.int .u8 (bt8 x)); simpa [bv, List.map_set] using this
theorem HasRow.other {w : World} {B : Nat} {l : List Value} {T : TypeId} (h : HasRow w B l T) {a : Addr} (ha : B ≠ a.block) (v : Value) : HasRow (w.setCell a v) B l T := by
  unfold HasRow; rw [heap_setCell_other w a B v ha]; exact h
theorem HasRow.drew {w : World} {B : Nat} {l : List Value} {T : TypeId} (h : HasRow w B l T) : HasRow w.drew B l T := h
theorem HasRow.drewN {w : World} {B : Nat} {l : List Value} {T : TypeId} (h : HasRow w B l T) (n : Nat) : HasRow (w.drewN n) B l T := h
theorem HasRow.alloc {w : World} {B : Nat} {l : List Value} {T : TypeId} (h : HasRow w B l T) (o : Obj) : HasRow (w.alloc o) B l T := by
  unfold HasRow; rw [RowKit.Below.heap_alloc w o B h.lt]; exact h
theorem HasRow.new (w : World) (l : List Value) (T : TypeId) : HasRow (w.alloc (.cells l.toArray T)) w.heap.size l T := heap_alloc_new w _
theorem HasRow.below {w w' : World} {B : Nat} {l : List Value} {T : TypeId} (h : HasRow w B l T) {C : Nat} (hb : RowKit.Below C w w') (hB : B < C) : HasRow w' B l T := by
  unfold HasRow; rw [hb.block B hB]; exact h
theorem HasRow.grown {w w' : World} {B : Nat} {l : List Value} {T : TypeId} (h : HasRow w B l T) {r : Option Nat} (hb : w.grownBy w' r) (hB : some B ≠ r) : HasRow w' B l T := by
  unfold HasRow; rw [hb.block B h.lt hB]; exact h
end Go
