/- From a row's conditions to what the walks ask. -/
import Derived.Test.YtgiagcopbibneaaDoorWorks6
import Derived.Test.YtgiagcopbibneaaDoorCards
import Derived.Test.YtgiagcopbibneaaDoorTie
import Derived.ProofKit
import Derived.OpenShut
import Derived.Deep.DeepHandedRow
import Derived.Lib.LaidTab
import Derived.Stop.LaidErr
import Derived.Deep.Slices
namespace Go.Proofs.YtgiagcopbibneaaDoor
open Go.ChangeShapes Go.WideShapes Go.ChangeAt Go.RowKit
open Sha (W)

theorem own : ownKnob Tryd.prog.godebug = none := by kernel_rfl
theorem laidOut : laidOutB Tryd.prog = true := by kernel_rfl
theorem gTable : Tryd.prog.globalNamed "fairlead/sha.table" = some 1 := by kernel_rfl
theorem gFirst : Tryd.prog.globalNamed "fairlead/sha.first" = some 0 := by kernel_rfl
theorem gTableType : (Tryd.prog.globals[1]?).map (·.type) = some 160 := by kernel_rfl
theorem gFirstType : (Tryd.prog.globals[0]?).map (·.type) = some 144 := by kernel_rfl
theorem cellsTable : Tryd.prog.cellsOf 160 = 64 := by kernel_rfl
theorem cellsFirst : Tryd.prog.cellsOf 144 = 8 := by kernel_rfl
theorem cellsU32 : Tryd.prog.cellsOf 31 = 1 := by kernel_rfl

/-- the list of the rows -/
def laidList : List (String × DataW Unit) := [("fairlead/sha.table", Rows.laid_fairlead_sha_table), ("fairlead/sha.first", Rows.laid_fairlead_sha_first)]

theorem tabAt_of_is {W : World} {name : String} {g : Nat} {zs : List Int} {l : List Sha.W} (hg : Tryd.prog.globalNamed name = some g) (h : Lib.TabIs Tryd.prog W name .u32 zs) (hz : zs = l.map wd) : TabAt W g (wv l) := by
  unfold Lib.TabIs at h
  simp only [World.var?, hg, Option.bind_some] at h
  split at h
  · rename_i cs t fr hb
    refine ⟨t, fr, ?_⟩
    rw [hb, Option.some.inj h, hz]
    simp [wv]
  · cases h

theorem tabs_of_laid {W : World} (h : laidMetH Tryd.prog laidList W) : Tabs W := by
  have h1 : Lib.TabIs Tryd.prog W "fairlead/sha.table" .u32 (Sha.kTab.map wd) :=
    Lib.tabIs_of_head (rest := [("fairlead/sha.first", Rows.laid_fairlead_sha_first)]) gTable gTableType Tryd.underlying160 Tryd.underlying31 cellsU32 cellsTable h
  have h2 : Lib.TabIs Tryd.prog W "fairlead/sha.first" .u32 (Sha.hTab.map wd) :=
    Lib.tabIs_of_head (rest := []) gFirst gFirstType Tryd.underlying144 Tryd.underlying31 cellsU32 cellsFirst (laidMet.tail (x := ("fairlead/sha.table", Rows.laid_fairlead_sha_table)) h)
  exact ⟨tabAt_of_is gFirst h2 rfl, tabAt_of_is gTable h1 rfl⟩

theorem size_of_tabs {W : World} (h : Tabs W) : 2 ≤ W.heap.size := by
  have h1 := h.1.lt
  have h2 := h.2.lt
  omega

/-- the blocks that were there -/
def Old (W : World) (b : Nat) : Prop := W.heap.size ≤ b

theorem byte_of_wf {z : Int} (h : (Lit.int .u8 z).wf = true) : z = bt8 (UInt8.ofNat z.toNat) := by
  have hb : 0 ≤ z ∧ z ≤ 255 := bounds_u8 h
  unfold bt8
  rw [UInt8.toNat_ofNat']
  omega

theorem bytes_of_ints {W : World} {x : Addr} {len cap : Nat} {zs : List Int} (hl : len ≤ cap) (hm : cap ≤ maxLen) (hz : len ≤ zs.length)
    (hcell : ∀ i, i < zs.length → W.cell? (x.add i) = some (.int .u8 (zs.getD i 0))) (hwz : ∀ n ∈ zs, (Lit.int .u8 n).wf = true) :
    ∃ l : List UInt8, l.length = len ∧ Bytes W (Old W) (some x) cap l := by
  refine ⟨(zs.take len).map fun z => UInt8.ofNat z.toNat, by simp; omega, by simp; omega, hm, fun hne => ?_⟩
  have hlen : 0 < len := by
    rcases Nat.eq_zero_or_pos len with h | h
    · subst h; simp at hne
    · exact h
  obtain ⟨b, off, spot⟩ := x
  have hspot : spot = none := World.cell?_spot (by have := hcell 0 (by omega); simpa [Addr.add] using this)
  subst hspot
  have hlt : b < W.heap.size := block_lt_of_cell (by have := hcell 0 (by omega); simpa [Addr.add] using this)
  refine ⟨b, off, rfl, by unfold Old; omega, hlt, fun i hi => ?_⟩
  have hi' : i < len := by simp at hi; omega
  have hc := hcell i (by omega)
  rw [addr_add] at hc
  rw [hc]
  have hzi : i < zs.length := by omega
  have hw := hwz (zs[i]) (List.getElem_mem hzi)
  have e := byte_of_wf hw
  simp [List.getD_eq_getElem?_getD, List.getElem?_eq_getElem hzi, hi']
  exact e

/-- a slice of bytes that came in -/
theorem open_bytes_cs {H : Type} {enc : TypeId × Value → H} {W : World} {sp : Nat → Bool} {held : Bool} {cs : List Value} {B fuel : Nat} {x : DataW H × List MemPlace}
    (h : DataW.trod enc Tryd.prog W B sp held fuel 29 cs = some x) : ∃ a cap l, cs = [.slice a (List.length l) cap] ∧ Bytes W (Old W) a cap l := by
  rcases open_ints Tryd.underlying29 Tryd.underlying5 (by kernel_rfl) h with ⟨hcs, _⟩ | ⟨x, len, c, zs, hcs, _, hl, hm, hz, _, hcell, hwz⟩
  · exact ⟨none, 0, [], hcs, Bytes.nil _ _ _ _ (Nat.zero_le _)⟩
  · obtain ⟨l, h1, h2⟩ := bytes_of_ints hl hm (by rw [hz]; split <;> omega) hcell hwz
    exact ⟨some x, c, l, by rw [hcs, h1], h2⟩
theorem open_bytes {H : Type} {enc : TypeId × Value → H} {W : World} {sp : Nat → Bool} {held : Bool} {v : Value} {d : DataW H} {p : List MemPlace} {B : Nat}
    (h : DataW.Trod enc Tryd.prog W B sp held 29 v d p) (hv : v.cells.toList = [v]) : ∃ a cap l, v = .slice a (List.length l) cap ∧ Bytes W (Old W) a cap l := by
  obtain ⟨fuel, hf⟩ := h
  obtain ⟨a, cap, l, hcs, hb⟩ := open_bytes_cs hf
  rw [hv] at hcs
  exact ⟨a, cap, l, by simpa using hcs, hb⟩

/-- 'ls' can be read at a slice of slices' address -/
def RowsAt (w : World) (no : Nat → Prop) (a : Option Addr) (cap : Nat) (ls : List (List UInt8)) : Prop :=
  ls.length ≤ cap ∧ cap ≤ maxLen ∧ (ls ≠ [] → ∃ b off, a = some ⟨b, off, none⟩ ∧ ¬ no b ∧ b < w.heap.size ∧
    ∀ i, i < ls.length → ∃ ai ci, w.cell? ⟨b, off + i, none⟩ = some (.slice ai (ls.getD i []).length ci) ∧ Bytes w no ai ci (ls.getD i []))

/-- 'ts' can be read at a slice of bools' address -/
def BoolsAt (w : World) (no : Nat → Prop) (a : Option Addr) (cap : Nat) (ts : List Bool) : Prop :=
  ts.length ≤ cap ∧ cap ≤ maxLen ∧ (ts ≠ [] → ∃ b off, a = some ⟨b, off, none⟩ ∧ ¬ no b ∧ b < w.heap.size ∧ ∀ i, i < ts.length → w.cell? ⟨b, off + i, none⟩ = some (.bool (ts.getD i false)))

theorem open_bools {H : Type} {enc : TypeId × Value → H} {W : World} {sp : Nat → Bool} {held : Bool} {v : Value} {d : DataW H} {p : List MemPlace} {B : Nat}
    (h : DataW.Trod enc Tryd.prog W B sp held 75 v d p) (hv : v.cells.toList = [v]) : ∃ a cap ts, v = .slice a (List.length ts) cap ∧ BoolsAt W (Old W) a cap ts := by
  obtain ⟨fuel, hf⟩ := h
  rw [hv] at hf
  rcases Go.Deep.open_slice1 Tryd.underlying75 (by kernel_rfl) hf with ⟨hcs, _⟩ | ⟨a, len, cap, m, n, V, D, Pl, hcs, _, hl, hm, hmm, _, hx⟩
  · exact ⟨none, 0, [], by simpa using hcs, by simp, Nat.zero_le _, fun h => absurd rfl h⟩
  · have hlm : len ≤ m := by rw [hmm]; split <;> omega
    have hrow : ∀ i, i < len → ∃ t : Bool, W.cell? (a.add i) = some (.bool t) := by
      intro i hi
      obtain ⟨h1, h2⟩ := hx i (by omega)
      obtain ⟨t, e, _⟩ := DataW.trod_bool Tryd.underlying4 h2
      exact ⟨t, by rw [h1]; congr 1; simpa using e⟩
    obtain ⟨f, hf2⟩ := Go.Deep.choose_lt (α := Bool) hrow
    have hlen : ((List.range len).map f).length = len := by simp
    refine ⟨some a, cap, (List.range len).map f, by rw [hlen]; simpa using hcs, by rw [hlen]; exact hl, hm, fun hne => ?_⟩
    have hlen0 : 0 < len := by
      rcases Nat.eq_zero_or_pos len with h | h
      · subst h; simp at hne
      · exact h
    obtain ⟨b, off, spot⟩ := a
    have hc0 := hf2 0 hlen0
    have hspot : spot = none := World.cell?_spot (by simpa [Addr.add] using hc0)
    subst hspot
    have hlt : b < W.heap.size := block_lt_of_cell (by simpa [Addr.add] using hc0)
    refine ⟨b, off, rfl, by unfold Old; omega, hlt, fun i hi => ?_⟩
    rw [hlen] at hi
    have hc := hf2 i hi
    rw [addr_add] at hc
    have e : ((List.range len).map f).getD i false = f i := by simp [List.getD_eq_getElem?_getD, hi]
    rw [e]; exact hc

theorem cells_slice {a : Option Addr} {n c : Nat} : (Value.slice a n c).cells.toList = [Value.slice a n c] := rfl
/-- a block's cells are laid anew -/
def layCells (cs : Array Value) : Obj → Obj
  | .cells _ t frozen => .cells cs t frozen
  | o => o
end Go.Proofs.YtgiagcopbibneaaDoor
