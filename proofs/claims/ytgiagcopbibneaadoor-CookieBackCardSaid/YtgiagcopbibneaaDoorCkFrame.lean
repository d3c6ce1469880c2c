/- Cookies as arguments: opened. -/
import Derived.Test.YtgiagcopbibneaaDoorCk7
namespace Go.Proofs.YtgiagcopbibneaaDoor
open Go.RowKit Go.ChangeShapes Go.WideShapes Go.ChangeAt
open Sha (W)
open Num (Ck)

theorem Kc.held8 {w w' : World} {B : Nat} {c : Ck} (h : Kc w B c w') : w'.cell? ⟨B, 0, none⟩ = some (.int .i64 c.born) ∧ w'.cell? ⟨B, 1, none⟩ = some (.int .u32 (c.ownTag : Int)) ∧ w'.cell? ⟨B, 2, none⟩ = some (.int .u32 (c.peerTag : Int)) ∧ w'.cell? ⟨B, 3, none⟩ = some (.int .u32 (c.ownTsn : Int)) ∧ w'.cell? ⟨B, 4, none⟩ = some (.int .u32 (c.peerTsn : Int)) ∧ w'.cell? ⟨B, 5, none⟩ = some (.int .u32 (c.peerRwnd : Int)) ∧ w'.cell? ⟨B, 6, none⟩ = some (.int .u16 (c.out : Int)) ∧ w'.cell? ⟨B, 7, none⟩ = some (.int .u16 (c.inn : Int)) ∧ Kc w B c w' :=
  ⟨h.row.cell_any 0, h.row.cell_any 1, h.row.cell_any 2, h.row.cell_any 3, h.row.cell_any 4, h.row.cell_any 5, h.row.cell_any 6, h.row.cell_any 7, h⟩
theorem cells_ck : Tryd.prog.cellsOf 66 = 8 := by kernel_rfl
theorem cells_i64 : Tryd.prog.cellsOf 2 = 1 := by kernel_rfl
theorem cells_u32 : Tryd.prog.cellsOf 31 = 1 := by kernel_rfl
theorem cells_u16 : Tryd.prog.cellsOf 38 = 1 := by kernel_rfl
theorem field_int {H : Type} {enc : TypeId × Value → H} {W : World} {sp : Nat → Bool} {held : Bool} {B n : Nat} {T : TypeId} {k : IntKind} (hu : Tryd.prog.underlying T = some (.int k)) (hc : Tryd.prog.cellsOf T = 1) {cs : List Value} {i : Nat} {v : Value} (hv : cs[i]? = some v)
    {xs : List (DataW H × List MemPlace)} (hx : i < xs.length) (h : DataW.trod enc Tryd.prog W B sp held n T (List.take (Tryd.prog.cellsOf T) (List.drop i cs)) = xs[i]?) : ∃ z, v = .int k z ∧ (Lit.int k z).wf = true := by
  rw [List.getElem?_eq_getElem hx, hc] at h
  obtain ⟨z, hz, _, wz⟩ := DataW.trod_int hu h
  have : (List.take 1 (List.drop i cs))[0]? = some v := by rw [List.getElem?_take]; simp [hv]
  rw [hz] at this
  simp at this
  exact ⟨z, this.symm, wz⟩

set_option maxRecDepth 100000 in
theorem open_ck {H : Type} {enc : TypeId × Value → H} {W : World} {sp : Nat → Bool} {held : Bool} {v : Value} {d : DataW H} {p : List MemPlace} {B b0 : Nat} {r : Reach}
    (hv : Value.okWide Tryd.prog W r b0 66 v) (h : DataW.Trod enc Tryd.prog W B sp held 66 v d p) : ∃ c : Ck, c.Ok ∧ v = .agg (ckCells c).toArray := by
  obtain ⟨cs, rfl, hsz⟩ := okWide_struct Tryd.underlying66 hv
  rw [cells_ck] at hsz
  obtain ⟨l⟩ := cs
  match l, hsz with
  | [c0, c1, c2, c3, c4, c5, c6, c7], _ =>
    obtain ⟨fuel, hf⟩ := h
    obtain ⟨xs, n, _, _, hl, hlen, hx⟩ := DataW.trod_struct Tryd.underlying66 hf
    have hlen8 : xs.length = 8 := hlen
    have e : (Value.agg (List.toArray [c0, c1, c2, c3, c4, c5, c6, c7])).cells.toList = [c0, c1, c2, c3, c4, c5, c6, c7] := by simp [Value.cells]
    rw [e] at hx
    obtain ⟨z0, rfl, w0⟩ := field_int Tryd.underlying2 cells_i64 rfl (show 0 < xs.length by rw [hlen8]; decide) (hx 0 _ rfl)
    obtain ⟨z1, rfl, w1⟩ := field_int Tryd.underlying31 cells_u32 rfl (show 1 < xs.length by rw [hlen8]; decide) (hx 1 _ rfl)
    obtain ⟨z2, rfl, w2⟩ := field_int Tryd.underlying31 cells_u32 rfl (show 2 < xs.length by rw [hlen8]; decide) (hx 2 _ rfl)
    obtain ⟨z3, rfl, w3⟩ := field_int Tryd.underlying31 cells_u32 rfl (show 3 < xs.length by rw [hlen8]; decide) (hx 3 _ rfl)
    obtain ⟨z4, rfl, w4⟩ := field_int Tryd.underlying31 cells_u32 rfl (show 4 < xs.length by rw [hlen8]; decide) (hx 4 _ rfl)
    obtain ⟨z5, rfl, w5⟩ := field_int Tryd.underlying31 cells_u32 rfl (show 5 < xs.length by rw [hlen8]; decide) (hx 5 _ rfl)
    obtain ⟨z6, rfl, w6⟩ := field_int Tryd.underlying38 cells_u16 rfl (show 6 < xs.length by rw [hlen8]; decide) (hx 6 _ rfl)
    obtain ⟨z7, rfl, w7⟩ := field_int Tryd.underlying38 cells_u16 rfl (show 7 < xs.length by rw [hlen8]; decide) (hx 7 _ rfl)
    have b0 := bounds_i64 w0
    have b1 := bounds_u32 w1
    have b2 := bounds_u32 w2
    have b3 := bounds_u32 w3
    have b4 := bounds_u32 w4
    have b5 := bounds_u32 w5
    have b6 := bounds_u16 w6
    have b7 := bounds_u16 w7
    refine ⟨⟨z0, z1.toNat, z2.toNat, z3.toNat, z4.toNat, z5.toNat, z6.toNat, z7.toNat⟩, ⟨by simp; omega, by simp; omega, by simp; omega, by simp; omega, by simp; omega, by simp; omega, by simp; omega, by simp; omega, by simp; omega⟩, ?_⟩
    have f : ∀ z : Int, 0 ≤ z → ((z.toNat : Nat) : Int) = z := fun z hz => by omega
    simp only [ckCells, f z1 b1.1, f z2 b2.1, f z3 b3.1, f z4 b4.1, f z5 b5.1, f z6 b6.1, f z7 b7.1]
end Go.Proofs.YtgiagcopbibneaaDoor
