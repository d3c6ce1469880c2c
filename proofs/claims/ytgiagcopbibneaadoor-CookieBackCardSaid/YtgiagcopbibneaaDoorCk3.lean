/- Contracts of cookie.may, cookie.Read's closure, cookie.Read. -/
import Derived.Test.YtgiagcopbibneaaDoorCk2
import Derived.Laws.ResultCell
namespace Go
theorem results_cell_tmp_row {P : Program} {fn : Func} {p u : Tmp} {ty : TypeId} (h : fn.results = #[.cell p ty, .tmp u]) (tmps : Array Value) (w : World) (g : Nat) (t : TypeId) (cs : Array Value) (fr : Nat × Nat) (d : TypeDesc)
    (hp : tmps.getD p undef = .pointer (some ⟨g, 0, none⟩)) (hg : w.heap[g]? = some (.cells cs t fr))
    (hu : P.underlying ty = some d) (hd : (match d with | .struct _ | .array _ _ => true | _ => false) = true) (hi : (P.info? ty).map (·.size) = some cs.size) (v : Value) (hv : tmps.getD u undef = v) :
    (results fn tmps).run P w = .ok (.tuple #[.agg cs, v]) w := by
  rw [results_cell_tmp h, hp, hv]
  simp [asAddr, run_loadVar_row w g t ty cs fr d hg hu hd hi]
end Go
namespace Go.Proofs.YtgiagcopbibneaaDoor
open Go.RowKit
open Sha (W)
open Num (Ck)

set_option maxHeartbeats 1000000 in
theorem may_any (w : World) (c : Ck) (hc : c.Ok) : Calls Tryd.prog 65 #[.agg (ckCells c).toArray] w fun e w' => e = .returned (.bool c.may) ∧ Below w.heap.size w w' := by
  have b0 := hc.b0
  have b1 := hc.b1
  have b2 := hc.h6
  have b3 := hc.h7
  clear hc
  obtain ⟨b, t1, t2, t3, t4, t5, o, i⟩ := c
  simp only [ckCells, Ck.may] at *
  by_cases h0 : b < 0
  · have hr : (decide (0 ≤ b) && !(t1 == 0) && !(t2 == 0) && !(o == 0) && !(i == 0)) = false := by simp; omega
    rw [hr]
    clear hr
    go_enter Tryd.func65, Tryd.ntmps65
    go_wp2
    go_ret
    exact ⟨rfl, (Below.refl _ _).alloc (Nat.le_refl _) _⟩
  have h00 : 0 ≤ b := by omega
  by_cases h1 : t1 = 0
  · subst h1
    have hr : (decide (0 ≤ b) && !(0 == 0) && !(t2 == 0) && !(o == 0) && !(i == 0)) = false := by simp
    rw [hr]
    clear hr
    go_enter Tryd.func65, Tryd.ntmps65
    go_wp2
    go_ret
    exact ⟨rfl, (Below.refl _ _).alloc (Nat.le_refl _) _⟩
  have g1 : ((t1 : Int) != 0) = true := by simp; omega
  have f1 : 0 < (t1 : Int) := by omega
  by_cases h2 : t2 = 0
  · subst h2
    have hr : (decide (0 ≤ b) && !(t1 == 0) && !(0 == 0) && !(o == 0) && !(i == 0)) = false := by simp
    rw [hr]
    clear hr
    go_enter Tryd.func65, Tryd.ntmps65
    go_wp2
    go_ret
    exact ⟨rfl, (Below.refl _ _).alloc (Nat.le_refl _) _⟩
  have g2 : ((t2 : Int) != 0) = true := by simp; omega
  have f2 : 0 < (t2 : Int) := by omega
  by_cases h3 : o = 0
  · subst h3
    have hr : (decide (0 ≤ b) && !(t1 == 0) && !(t2 == 0) && !(0 == 0) && !(i == 0)) = false := by simp
    rw [hr]
    clear hr
    go_enter Tryd.func65, Tryd.ntmps65
    go_wp2
    go_ret
    exact ⟨rfl, (Below.refl _ _).alloc (Nat.le_refl _) _⟩
  have g3 : ((o : Int) != 0) = true := by simp; omega
  have f3 : 0 < (o : Int) := by omega
  by_cases h4 : i = 0
  · subst h4
    have hr : (decide (0 ≤ b) && !(t1 == 0) && !(t2 == 0) && !(o == 0) && !(0 == 0)) = false := by simp
    rw [hr]
    clear hr
    go_enter Tryd.func65, Tryd.ntmps65
    go_wp2
    go_ret
    exact ⟨rfl, (Below.refl _ _).alloc (Nat.le_refl _) _⟩
  have g4 : ((i : Int) != 0) = true := by simp; omega
  have f4 : 0 < (i : Int) := by omega
  have hr : (decide (0 ≤ b) && !(t1 == 0) && !(t2 == 0) && !(o == 0) && !(i == 0)) = true := by simp [h00, h1, h2, h3, h4]
  rw [hr]
  clear hr h0 h1 h2 h3 h4
  go_enter Tryd.func65, Tryd.ntmps65
  go_wp2
  go_ret
  exact ⟨congrArg (fun x => Ending.returned (.bool x)) (decide_eq_true (by omega)), (Below.refl _ _).alloc (Nat.le_refl _) _⟩

set_option maxHeartbeats 1000000 in
theorem refmay_any (w : World) (c : Ck) (hc : c.Ok) : Calls Tryd.prog 67 #[.agg (ckCells c).toArray] w fun e w' => e = .returned (.bool c.may) ∧ Below w.heap.size w w' := by
  have b0 := hc.b0
  have b1 := hc.b1
  have b2 := hc.h6
  have b3 := hc.h7
  clear hc
  obtain ⟨b, t1, t2, t3, t4, t5, o, i⟩ := c
  simp only [ckCells, Ck.may] at *
  by_cases h0 : b < 0
  · have hr : (decide (0 ≤ b) && !(t1 == 0) && !(t2 == 0) && !(o == 0) && !(i == 0)) = false := by simp; omega
    rw [hr]
    clear hr
    go_enter Tryd.func67, Tryd.ntmps67
    go_wp2
    go_ret
    exact ⟨rfl, (Below.refl _ _).alloc (Nat.le_refl _) _⟩
  have h00 : 0 ≤ b := by omega
  by_cases h1 : t1 = 0
  · subst h1
    have hr : (decide (0 ≤ b) && !(0 == 0) && !(t2 == 0) && !(o == 0) && !(i == 0)) = false := by simp
    rw [hr]
    clear hr
    go_enter Tryd.func67, Tryd.ntmps67
    go_wp2
    go_ret
    exact ⟨rfl, (Below.refl _ _).alloc (Nat.le_refl _) _⟩
  have g1 : ((t1 : Int) != 0) = true := by simp; omega
  have f1 : 0 < (t1 : Int) := by omega
  by_cases h2 : t2 = 0
  · subst h2
    have hr : (decide (0 ≤ b) && !(t1 == 0) && !(0 == 0) && !(o == 0) && !(i == 0)) = false := by simp
    rw [hr]
    clear hr
    go_enter Tryd.func67, Tryd.ntmps67
    go_wp2
    go_ret
    exact ⟨rfl, (Below.refl _ _).alloc (Nat.le_refl _) _⟩
  have g2 : ((t2 : Int) != 0) = true := by simp; omega
  have f2 : 0 < (t2 : Int) := by omega
  by_cases h3 : o = 0
  · subst h3
    have hr : (decide (0 ≤ b) && !(t1 == 0) && !(t2 == 0) && !(0 == 0) && !(i == 0)) = false := by simp
    rw [hr]
    clear hr
    go_enter Tryd.func67, Tryd.ntmps67
    go_wp2
    go_ret
    exact ⟨rfl, (Below.refl _ _).alloc (Nat.le_refl _) _⟩
  have g3 : ((o : Int) != 0) = true := by simp; omega
  have f3 : 0 < (o : Int) := by omega
  by_cases h4 : i = 0
  · subst h4
    have hr : (decide (0 ≤ b) && !(t1 == 0) && !(t2 == 0) && !(o == 0) && !(0 == 0)) = false := by simp
    rw [hr]
    clear hr
    go_enter Tryd.func67, Tryd.ntmps67
    go_wp2
    go_ret
    exact ⟨rfl, (Below.refl _ _).alloc (Nat.le_refl _) _⟩
  have g4 : ((i : Int) != 0) = true := by simp; omega
  have f4 : 0 < (i : Int) := by omega
  have hr : (decide (0 ≤ b) && !(t1 == 0) && !(t2 == 0) && !(o == 0) && !(i == 0)) = true := by simp [h00, h1, h2, h3, h4]
  rw [hr]
  clear hr h0 h1 h2 h3 h4
  go_enter Tryd.func67, Tryd.ntmps67
  go_wp2
  go_ret
  exact ⟨congrArg (fun x => Ending.returned (.bool x)) (decide_eq_true (by omega)), (Below.refl _ _).alloc (Nat.le_refl _) _⟩

set_option maxHeartbeats 1000000 in
/-- Read's closure: a number is taken -/
theorem read1_any (w : World) (l : List UInt8) (hl : l.length = 32) (a : Option Addr) (cap : Nat) (hb : Bytes w (fun _ => False) a cap l) (g6 g9 : Nat) (r6 : HasRow w g6 [.slice a 32 cap] 29) (i : Nat) (r9 : HasRow w g9 [.int .i64 (i : Int)] 3)
    (s : Nat) (S : Int) (hS : (s : Int) = S) (hs : s = 1 ∨ s = 2 ∨ s = 4 ∨ s = 8) (h : i + s ≤ 32) :
    Calls Tryd.prog 63 #[.int .i64 S, .pointer (some ⟨g6, 0, none⟩), .pointer (some ⟨g9, 0, none⟩)] w
      fun e w' => e = .returned (.int .u64 ((Num.number l i s : Nat) : Int)) ∧ HasRow w' g9 [.int .i64 ((i + s : Nat) : Int)] 3 ∧ w.grownBy w' (some g9) := by
  subst hS
  have c6 : w.cell? ⟨g6, 0, none⟩ = some (.slice a 32 cap) := r6.cell_any 0
  have c9 : w.cell? ⟨g9, 0, none⟩ = some (.int .i64 (i : Int)) := r9.cell_any 0
  have f9 := r9.free 0
  have G := hid (get_any w _ l 32 hl a cap hb i s hs h)
  have R9 := hid r9
  have hi : i ≤ 32 := by omega
  have hs8 : s ≤ 8 := by omega
  clear hb r6 r9 hs hl
  go_enter Tryd.func63, Tryd.ntmps63
  go_wp2_with fail
  refine G.out.mono ?_
  rintro e w1 ⟨rfl, rfl⟩
  go_wp2
  go_ret
  refine ⟨rfl, ?_, grownBy_setCell _ ⟨g9, 0, none⟩ _⟩
  have := R9.out.set 0 (.int .i64 ((i + s : Nat) : Int))
  simpa using this
end Go.Proofs.YtgiagcopbibneaaDoor
