/- Laws for the walk: a whole array or struct read out of a block's part, or laid into it; two arrays of numbers compared. -/
import Derived.Test.YtgiagcopbibneaaDoorWd
import Derived.Laws.CopyOwn
namespace Go
open Sha (W)

/-- block g is a row of these cells, whatever its marks -/
def TabAt (w : World) (g : Nat) (l : List Value) : Prop := ∃ T fr, w.heap[g]? = some (.cells l.toArray T fr)
theorem HasRow.tab {w : World} {g : Nat} {l : List Value} {T : TypeId} (h : HasRow w g l T) : TabAt w g l := ⟨T, _, h⟩
theorem TabAt.cell_any {w : World} {g : Nat} {l : List Value} (h : TabAt w g l) (i : Nat) : w.cell? ⟨g, i, none⟩ = l[i]? := by
  obtain ⟨T, fr, h⟩ := h
  rw [cell_of_row w g i _ T fr h]; simp
theorem TabAt.lt {w : World} {g : Nat} {l : List Value} (h : TabAt w g l) : g < w.heap.size := by
  obtain ⟨T, fr, h⟩ := h
  exact (Array.getElem?_eq_some_iff.1 h).1
theorem TabAt.below {w w' : World} {g : Nat} {l : List Value} (h : TabAt w g l) {C : Nat} (hb : RowKit.Below C w w') (hB : g < C) : TabAt w' g l := by
  obtain ⟨T, fr, h⟩ := h
  exact ⟨T, fr, by rw [hb.block g hB]; exact h⟩
theorem TabAt.grown {w w' : World} {g : Nat} {l : List Value} (h : TabAt w g l) {r : Option Nat} (hb : w.grownBy w' r) (hB : some g ≠ r) : TabAt w' g l := by
  have hl := h.lt
  obtain ⟨T, fr, h⟩ := h
  exact ⟨T, fr, by rw [hb.block g hl hB]; exact h⟩
theorem TabAt.word {w : World} {B : Nat} {l : List W} (h : TabAt w B (wv l)) (i : Nat) (hi : i < l.length) : w.cell? ⟨B, i, none⟩ = some (.int .u32 (wd (l.getD i 0))) := by
  rw [h.cell_any]; simp [wv, List.getD_eq_getElem?_getD, List.getElem?_eq_getElem hi]

theorem addr_add (g off i : Nat) : (⟨g, off, none⟩ : Addr).add i = ⟨g, off + i, none⟩ := by unfold Addr.add; split <;> simp_all

section
variable {P : Program}
theorem run_loadVar_part (w : World) (g off n : Nat) (ty : TypeId) (l : List Value) (d : TypeDesc) (hg : TabAt w g l)
    (hu : P.underlying ty = some d) (hd : (match d with | .struct _ | .array _ _ => true | _ => false) = true) (hi : (P.info? ty).map (·.size) = some n) (hfit : off + n ≤ l.length) :
    (loadVar ty ⟨g, off, none⟩).run P w = .ok (.agg ((l.drop off).take n).toArray) w := by
  have hlen : ((l.drop off).take n).length = n := by simp; omega
  have hl : (loadCells ⟨g, off, none⟩ ((l.drop off).take n).length).run P w = .ok ((l.drop off).take n).toArray w :=
    run_loadCells_list (P := P) w ⟨g, off, none⟩ ((l.drop off).take n) (fun j v hv => by
      rw [addr_add, hg.cell_any]
      rw [List.getElem?_take] at hv
      split at hv
      · simpa [List.getElem?_drop] using hv
      · cases hv)
  rw [hlen] at hl
  cases hq : P.info? ty with
  | none => simp [hq] at hi
  | some i =>
    have hs : i.size = n := by simpa [hq] using hi
    have hagg : (isAgg ty).run P w = .ok true w := by
      unfold isAgg
      rw [Sem.run_bind, run_underlying hu w]
      cases d <;> simp_all
    simp [loadVar, Sem.run_bind, hagg, sizeOf, typeInfo, hq, hs, hl]

/-- a whole array or struct is read out of a block's part -/
theorem wpList_load_part {ops : Array Oper} {rest : List Oper} {o : Oper} {a : Act} {w : World} {Q : Exit → Act → World → Prop} (hgd : o.guard = none) (ty : TypeId) (x : Operand) (ho : o.op = .load ty x)
    (g off n : Nat) (hx : a.eval x = .pointer (some ⟨g, off, none⟩)) (l : List Value) (d : TypeDesc) (hg : TabAt w g l)
    (hu : P.underlying ty = some d) (hd : (match d with | .struct _ | .array _ _ => true | _ => false) = true) (hi : (P.info? ty).map (·.size) = some n) (hfit : off + n ≤ l.length)
    (cs : List Value) (hcs : (l.drop off).take n = cs)
    (h : wpList P ops Q rest (a.put o.dst (.agg cs.toArray)) w) : wpList P ops Q (o :: rest) a w :=
  wpList_plain hgd fun _ hK => by
    subst hcs
    unfold Oper.wp execOp
    simp only [ho, hx, Instr.loadAt, Instr.sureAddr, Sem.run_bind, Sem.run_pure, Result.andThen_ok, run_loadVar_part w g off n ty l d hg hu hd hi hfit]
    exact hK _ _ h

/-- a whole array or struct is laid into a block's part -/
theorem wpList_store_part {ops : Array Oper} {rest : List Oper} {o : Oper} {a : Act} {w : World} {Q : Exit → Act → World → Prop} (hgd : o.guard = none) (ty : TypeId) (x y : Operand) (ho : o.op = .store ty x y)
    (g off : Nat) (hx : a.eval x = .pointer (some ⟨g, off, none⟩)) (cs : List Value) (hy : a.eval y = .agg cs.toArray) (l : List Value) (T : TypeId) (hg : HasRow w g l T)
    (hi : (P.info? ty).map (·.size) = some cs.length) (hfit : off + cs.length ≤ l.length) (h1 : ∀ v ∈ cs, v.oneCell' = true)
    (h : wpList P ops Q rest (a.put o.dst undef) (w.setRow g (splice l off cs).toArray)) : wpList P ops Q (o :: rest) a w :=
  wpList_plain hgd fun _ hK => by
    have hst := run_storeCells_at P g off T cs 0 l.toArray w hg (by simpa using hfit) h1
    simp only [Nat.add_zero] at hst
    cases hq : P.info? ty with
    | none => simp [hq] at hi
    | some i =>
      have hs : i.size = cs.length := by simpa [hq] using hi
      unfold Oper.wp execOp
      simp [ho, hx, hy, Instr.storeAt, Instr.sureAddr, storeVar, sizeOf, typeInfo, hq, Value.cells, hs, hst]
      exact hK _ _ h
end

theorem HasRow.setRow {w : World} {g : Nat} {l : List Value} {T : TypeId} (h : HasRow w g l T) (cs : List Value) : HasRow (w.setRow g cs.toArray) g cs T := setRow_heap w g _ _ T _ h
theorem HasRow.setRow_other {w : World} {g k : Nat} {l : List Value} {T : TypeId} (h : HasRow w k l T) (hk : k ≠ g) (cs : Array Value) : HasRow (w.setRow g cs) k l T := by
  unfold HasRow; rw [Go.setRow_other w g k cs hk]; exact h
theorem grownBy_refl (w : World) (r : Option Nat) : w.grownBy w r := ⟨rfl, rfl, rfl, Nat.le_refl _, fun _ _ _ => rfl⟩
theorem grownBy_setRow (w : World) (g : Nat) (cs : Array Value) : w.grownBy (w.setRow g cs) (some g) :=
  ⟨rfl, rfl, rfl, by simp, fun k _ hk => Go.setRow_other w g k cs (fun e => hk (by rw [e]))⟩
theorem grownBy_setCell (w : World) (a : Addr) (v : Value) : w.grownBy (w.setCell a v) (some a.block) :=
  ⟨rfl, rfl, rfl, by simp [World.setCell], fun k _ hk => heap_setCell_other w a k v (fun e => hk (by rw [e]))⟩
theorem grownBy_drewN (w : World) (n : Nat) (r : Option Nat) : w.grownBy (w.drewN n) r := ⟨rfl, rfl, rfl, Nat.le_refl _, fun _ _ _ => rfl⟩
theorem grownBy_trans {a b c : World} {r : Option Nat} (h : a.grownBy b r) (k : b.grownBy c r) : a.grownBy c r :=
  ⟨k.os.trans h.os, k.tape.trans h.tape, k.output.trans h.output, Nat.le_trans h.size k.size, fun i hi hr => (k.block i (Nat.lt_of_lt_of_le hi h.size) hr).trans (h.block i hi hr)⟩
theorem grownBy_new {a b c : World} {r : Option Nat} (h : a.grownBy b r) {g : Nat} (k : b.grownBy c (some g)) (hg : a.heap.size ≤ g) : a.grownBy c r :=
  ⟨k.os.trans h.os, k.tape.trans h.tape, k.output.trans h.output, Nat.le_trans h.size k.size,
   fun i hi hr => (k.block i (Nat.lt_of_lt_of_le hi h.size) (fun e => by cases e; omega)).trans (h.block i hi hr)⟩
theorem grownBy_below {a b : World} {r : Option Nat} (h : RowKit.Below a.heap.size a b) : a.grownBy b r := ⟨h.os, h.tape, h.output, h.size, fun k hk _ => h.block k hk⟩
theorem below_of_grownBy {a b : World} {B : Nat} {r : Option Nat} (h : a.grownBy b r) (hB : B ≤ a.heap.size) (hr : ∀ k, r = some k → B ≤ k) : RowKit.Below B a b :=
  ⟨h.os, h.tape, h.output, h.size, fun k hk => h.block k (Nat.lt_of_lt_of_le hk hB) (fun e => by have := hr k e.symm; omega)⟩
theorem one_wv (l : List W) : ∀ v ∈ wv l, v.oneCell' = true := by intro v hv; simp [wv] at hv; obtain ⟨x, _, rfl⟩ := hv; rfl
theorem one_bv (l : List UInt8) : ∀ v ∈ bv l, v.oneCell' = true := by intro v hv; simp [bv] at hv; obtain ⟨x, _, rfl⟩ := hv; rfl

theorem run_index_arr {P : Program} (T E n : Nat) (k : IntKind) (hT : P.underlying T = some (.array n E)) (hE : P.underlying E = some (.int k)) (hs : (P.info? E).map (·.size) = some 1)
    (cs : Array Value) (i : Nat) (hi : i < n) (v : Value) (hv : cs[i]? = some v) (w : World) : (Instr.index T (.agg cs) (.int .i64 (i : Int))).run P w = .ok v w := by
  cases hq : P.info? E with
  | none => simp [hq] at hs
  | some j =>
    have hj : j.size = 1 := by simpa [hq] using hs
    simp [Instr.index, asIntOf, run_underlying hT, hi, sizeOf, typeInfo, hq, hj, part, isAgg, run_underlying hE, hv]

/-- a callee that leaves the world alone, met inside a region that draws -/
theorem quiet_same {P : Program} {f : FuncId} {args : Array Value} {w : World} {n : Nat} {v : Value}
    (h : Calls P f args (w.drewN n) fun e w' => e = .returned v ∧ w.drewN n = w') : Calls P f args (w.drewN n) fun e w'' => e = .returned v ∧ ∃ m, w'' = w.drewN m :=
  h.mono fun _ _ ⟨he, hm⟩ => ⟨he, n, hm.symm⟩

/-- the cells of a state: begun, the sums, the block, how many bytes -/
def stCells (bg : Bool) (sums : List W) (blk : List UInt8) (n : Int) : List Value := .bool bg :: (wv sums ++ (bv blk ++ [.int .u64 n]))
section
variable {bg : Bool} {sums : List W} {blk : List UInt8} {n : Int}
theorem st_length (hs : sums.length = 8) (hb : blk.length = 64) : (stCells bg sums blk n).length = 74 := by simp [stCells, hs, hb]
theorem st_sum (hs : sums.length = 8) (i : Nat) (hi : i < 8) : (stCells bg sums blk n)[1 + i]? = some (.int .u32 (wd (sums.getD i 0#32))) := by
  rw [stCells, Nat.add_comm, List.getElem?_cons_succ, List.getElem?_append_left (by simp; omega)]
  simp [wv, List.getD_eq_getElem?_getD, List.getElem?_eq_getElem (show i < sums.length by omega)]
theorem st_byte (hs : sums.length = 8) (hb : blk.length = 64) (i : Nat) (hi : i < 64) : (stCells bg sums blk n)[9 + i]? = some (.int .u8 (bt8 (blk.getD i 0))) := by
  rw [stCells, show 9 + i = (8 + i) + 1 by omega, List.getElem?_cons_succ, List.getElem?_append_right (by simp; omega), List.getElem?_append_left (by simp; omega)]
  simp [bv, hs, List.getD_eq_getElem?_getD, List.getElem?_eq_getElem (show i < blk.length by omega)]
theorem st_n (hs : sums.length = 8) (hb : blk.length = 64) : (stCells bg sums blk n)[73]? = some (.int .u64 n) := by
  rw [stCells, show 73 = 72 + 1 by rfl, List.getElem?_cons_succ, List.getElem?_append_right (by simp; omega), List.getElem?_append_right (by simp; omega)]
  simp [hs, hb]
theorem st_set_begun (b : Bool) : (stCells bg sums blk n).set 0 (.bool b) = stCells b sums blk n := rfl
theorem st_set_sum (hs : sums.length = 8) (i : Nat) (hi : i < 8) (x : W) : (stCells bg sums blk n).set (1 + i) (.int .u32 (wd x)) = stCells bg (sums.set i x) blk n := by
  rw [stCells, Nat.add_comm, List.set_cons_succ, List.set_append_left (h := by simp; omega)]
  simp [stCells, wv, List.map_set]
theorem st_set_n (hs : sums.length = 8) (hb : blk.length = 64) (m : Int) : (stCells bg sums blk n).set 73 (.int .u64 m) = stCells bg sums blk m := by
  rw [stCells, show 73 = 72 + 1 by rfl, List.set_cons_succ, List.set_append_right (h := by simp; omega), List.set_append_right (h := by simp; omega)]
  simp [stCells, hs, hb]
theorem st_splice_sums (hs : sums.length = 8) (l : List W) (hl : l.length = 8) : splice (stCells bg sums blk n) 1 (wv l) = stCells bg l blk n := by
  simp only [splice, stCells, List.take_succ_cons, List.take_zero, length_wv, hl, List.singleton_append, List.cons.injEq, true_and]
  rw [show 1 + 8 = 8 + 1 by rfl, List.drop_succ_cons, List.drop_append_of_le_length (by simp [hs]), List.drop_of_length_le (by simp [hs]), List.nil_append]
theorem st_splice_blk (hs : sums.length = 8) (k : Nat) (l : List UInt8) (hl : k + l.length ≤ blk.length) : splice (stCells bg sums blk n) (9 + k) (bv l) = stCells bg sums (splice blk k l) n := by
  have e1 : (stCells bg sums blk n).take (9 + k) = .bool bg :: (wv sums ++ bv (blk.take k)) := by
    rw [stCells, show 9 + k = (8 + k) + 1 by omega, List.take_succ_cons, List.take_append, List.take_of_length_le (by simp; omega)]
    congr 2
    rw [List.take_append_of_le_length (by simp; omega)]
    simp [bv, hs, List.map_take]
  have e2 : (stCells bg sums blk n).drop (9 + k + l.length) = bv (blk.drop (k + l.length)) ++ [.int .u64 n] := by
    rw [stCells, show 9 + k + l.length = (8 + (k + l.length)) + 1 by omega, List.drop_succ_cons, List.drop_append, List.drop_of_length_le (by simp; omega), List.nil_append]
    rw [List.drop_append_of_le_length (by simp; omega)]
    simp [bv, hs, List.map_drop]
  rw [splice, length_bv, e1, e2]
  simp [stCells, splice, bv]
end

/-- some draws behind -/
def Drawn (w w' : World) : Prop := ∃ n, w' = w.drewN n
theorem Drawn.refl (w : World) : Drawn w w := ⟨0, rfl⟩
theorem Drawn.drewN {w w' : World} (h : Drawn w w') (n : Nat) : Drawn w (w'.drewN n) := by
  obtain ⟨m, rfl⟩ := h
  exact ⟨m + n, World.drewN_drewN ..⟩
theorem Drawn.drew {w w' : World} (h : Drawn w w') : Drawn w w'.drew := h.drewN 1
theorem Drawn.heap {w w' : World} (h : Drawn w w') : w'.heap = w.heap := by obtain ⟨n, rfl⟩ := h; rfl
theorem Drawn.cell {w w' : World} (h : Drawn w w') (a : Addr) : w'.cell? a = w.cell? a := by obtain ⟨n, rfl⟩ := h; rfl
theorem Drawn.row {w w' : World} (h : Drawn w w') {B : Nat} {l : List Value} {T : TypeId} (hr : HasRow w B l T) : HasRow w' B l T := by obtain ⟨n, rfl⟩ := h; exact hr
theorem Drawn.below {w w' : World} (h : Drawn w w') (B : Nat) : RowKit.Below B w w' := by obtain ⟨n, rfl⟩ := h; exact ⟨rfl, rfl, rfl, Nat.le_refl _, fun _ _ => rfl⟩
theorem Drawn.grown {w w' : World} (h : Drawn w w') (r : Option Nat) : w.grownBy w' r := by obtain ⟨n, rfl⟩ := h; exact grownBy_drewN w n r

/-- copy into a row that is known whole, from a slice that has an address -/
theorem wpList_copy_row {P : Program} {w : World} {ops : Array Oper} {rest : List Oper} {o : Oper} {a : Act} {Q : Exit → Act → World → Prop} (hgd : o.guard = none) (d s : Operand) (dT sT : TypeId)
    (ho : o.op = .call { callee := .builtin .copy, args := #[d, s], argTypes := #[dT, sT] }) (elem : TypeId) (hu : P.underlying dT = some (.slice elem)) (hsz : (P.info? elem).map (·.size) = some 1)
    (g off dLen dCap : Nat) (ad : Addr) (sLen sCap : Nat) (hd : a.eval d = .slice (some ⟨g, off, none⟩) dLen dCap) (hs : a.eval s = .slice (some ad) sLen sCap)
    (l : List Value) (T : TypeId) (hg : HasRow w g l T) (cs : List Value) (k : Nat) (hk : cs.length = k) (hn : k = Nat.min sLen dLen)
    (hsrc : ∀ j v, cs[j]? = some v → w.cell? (ad.add j) = some v) (hfit : off + k ≤ l.length) (h1 : ∀ v ∈ cs, v.oneCell' = true)
    (h : ∀ w', HasRow w' g (splice l off cs) T → w.grownBy w' (some g) → wpList P ops Q rest (a.put o.dst (.int .i64 (k : Int))) w') : wpList P ops Q (o :: rest) a w := by
  subst hk
  exact wpList_copy_own hgd d s dT sT ho elem hu hsz g off dLen dCap ad sLen sCap hd hs l.toArray T hg cs hn hsrc (by simpa using hfit) h1 (h _ (HasRow.setRow hg _) (grownBy_setRow _ _ _))
end Go
