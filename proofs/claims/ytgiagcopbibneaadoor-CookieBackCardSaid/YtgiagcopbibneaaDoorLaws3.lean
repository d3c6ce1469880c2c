/- Two arrays of numbers compared. -/
import Derived.Test.YtgiagcopbibneaaDoorLaws2
import Derived.Lib.SlBytesConst
namespace Go
open Sha (W)
section
variable {P : Program}
theorem run_equalIn_arr (d T E n : Nat) (k : IntKind) (hT : P.underlying T = some (.array n E)) (hE : P.underlying E = some (.int k)) (hs : (P.info? E).map (·.size) = some 1)
    (cs : Array Value) (hv : ∀ i, i < n → ∃ z, cs[i]? = some (.int k z)) (w : World) : (Op.equalIn (d + 2) T (.agg cs) (.agg cs)).run P w = .ok true w := by
  cases hq : P.info? E with
  | none => simp [hq] at hs
  | some j =>
    have hj : j.size = 1 := by simpa [hq] using hs
    have step : ∀ i, i < n → ∃ z, (part E cs (i * 1)).run P w = .ok (.int k z) w := by
      intro i hi
      obtain ⟨z, hz⟩ := hv i hi
      exact ⟨z, by simp [part, isAgg, run_underlying hE, hz]⟩
    unfold Op.equalIn
    simp only [Sem.run_bind, run_underlying hT, Result.andThen_ok, sizeOf, typeInfo, run_program, hq, Sem.run_pure, hj]
    simp only [Std.Legacy.Range.forIn_eq_forIn_range', Std.Legacy.Range.size, Nat.sub_zero, Nat.add_sub_cancel, Nat.div_one]
    have H : ∀ l : List Nat, (∀ i ∈ l, i < n) → (Sem.run P
          (forIn l ((none, ()) : Option Bool × Unit) fun i __s => do
            let a ← part E cs (i * 1)
            let b ← part E cs (i * 1)
            let r ← Op.equalIn (d + 1) E a b
            if (!r) = true then pure (ForInStep.done (some false, ())) else pure (ForInStep.yield (none, ()))) w) = .ok (none, ()) w := by
      intro l
      induction l with
      | nil => intro _; rfl
      | cons i l ih =>
        intro hl
        obtain ⟨z, hz⟩ := step i (hl i (by simp))
        simp only [List.forIn_cons, Sem.run_bind, hz, Result.andThen_ok]
        have he : (Op.equalIn (d + 1) E (.int k z) (.int k z)).run P w = .ok true w := by
          simp [Op.equalIn, run_underlying hE]
        simp only [he, Result.andThen_ok, Bool.not_true, Bool.false_eq_true, if_false, Sem.run_pure]
        exact ih (fun x hx => hl x (by simp [hx]))
    have h1 := H (List.range' 0 n) (by intro i hi; simp at hi; omega)
    rw [h1]
    rfl
theorem run_eql_arr (T E n : Nat) (k : IntKind) (hT : P.underlying T = some (.array n E)) (hE : P.underlying E = some (.int k)) (hs : (P.info? E).map (·.size) = some 1)
    (cs : Array Value) (hv : ∀ i, i < n → ∃ z, cs[i]? = some (.int k z)) (w : World) : (binOp .eql T (.agg cs) (.agg cs)).run P w = .ok (.bool true) w := by
  simp only [binOp]
  simp [Op.equal, Op.maxDepth, run_equalIn_arr 9998 T E n k hT hE hs cs hv w]
theorem run_neq_arr (T E n : Nat) (k : IntKind) (hT : P.underlying T = some (.array n E)) (hE : P.underlying E = some (.int k)) (hs : (P.info? E).map (·.size) = some 1)
    (cs : Array Value) (hv : ∀ i, i < n → ∃ z, cs[i]? = some (.int k z)) (w : World) : (binOp .neq T (.agg cs) (.agg cs)).run P w = .ok (.bool false) w := by
  simp only [binOp]
  simp [Op.equal, Op.maxDepth, run_equalIn_arr 9998 T E n k hT hE hs cs hv w]
theorem bv_ints (l : List UInt8) (n : Nat) (h : l.length = n) : ∀ i, i < n → ∃ z, (bv l).toArray[i]? = some (.int .u8 z) := by
  intro i hi
  exact ⟨bt8 (l[i]'(by omega)), by simp [bv, List.getElem?_eq_getElem (show i < l.length by omega)]⟩
end

theorem TabAt.new (w : World) (l : List Value) (T : TypeId) (fr : Nat × Nat) : TabAt (w.alloc (.cells l.toArray T fr)) w.heap.size l := ⟨T, fr, heap_alloc_new w _⟩
theorem TabAt.byte {w : World} {B : Nat} {l : List UInt8} (h : TabAt w B (bv l)) (i : Nat) (hi : i < l.length) : w.cell? ⟨B, i, none⟩ = some (.int .u8 (bt8 (l.getD i 0))) := by
  rw [h.cell_any]; simp [bv, List.getD_eq_getElem?_getD, List.getElem?_eq_getElem hi]
end Go
