/- CookieReads: for every input the law returns true and the input reads as it did. Conditions: the row's own (the tables are laid as the program's text lays them). -/
import Derived.Test.YtgiagcopbibneaaDoorCkFrame
namespace Go.Proofs.YtgiagcopbibneaaDoor.cookieReadsDone
open Go.ChangeShapes Go.WideShapes Go.ChangeAt Go.RowKit
open Sha (W)
open Num (Ck)

set_option maxRecDepth 100000 in
set_option maxHeartbeats 4000000 in
theorem walk (w : World) (htab : Tabs w) (l : List UInt8) (a : Option Addr) (cap : Nat) (hb : Bytes w (Old w) a cap l) (t : List UInt8) (a2 : Option Addr) (cap2 : Nat) (hb2 : Bytes w (Old w) a2 cap2 t) :
    Calls Tryd.prog 6 #[.slice a l.length cap, .slice a2 t.length cap2] w fun e w' => e = .returned (.bool true) ∧ Below w.heap.size w w' := by
  have h2 := size_of_tabs htab
  have Htab := hid htab
  have Hb := hid hb
  have Hb2 := hid hb2
  have I1 : Hid (∀ c : Ck, (Tryd.prog.info? 66).map (·.size) = some (ckCells c).length) := fun c => (show (Tryd.prog.info? 66).map (·.size) = some 8 by kernel_rfl)
  clear hb hb2 htab
  obtain ⟨n, hn⟩ : ∃ n, n = l.length := ⟨_, rfl⟩
  have Hn := hid hn
  obtain ⟨m, hm⟩ : ∃ m, m = t.length := ⟨_, rfl⟩
  have Hm := hid hm
  rw [← hn, ← hm]
  clear hn hm
  by_cases hbad : 4096 < n ∨ 4096 < m
  · by_cases hl : 4096 < n
    all_goals
      have hbad2 : 4096 < n ∨ 4096 < m := hbad
      clear hbad
      go_enter Tryd.func6, Tryd.ntmps6
      go_wp2_with fail
      refine (works11_any _ Htab.out h2).mono ?_
      rintro e w1 ⟨rfl, b1⟩
      go_wp2
      go_ret
      exact ⟨rfl, b1⟩
  · have hn4 : ¬ 4096 < n := by omega
    have hm4 : ¬ 4096 < m := by omega
    clear hbad
    obtain ⟨r, hr⟩ : ∃ r, r = Ck.read l t := ⟨_, rfl⟩
    have Hr := hid hr
    obtain ⟨C, hC⟩ : ∃ C, C = r.1 := ⟨_, rfl⟩
    obtain ⟨E, hE⟩ : ∃ E, E = r.2 := ⟨_, rfl⟩
    have HC := hid hC
    have HE := hid hE
    clear hr hC hE
    go_enter Tryd.func6, Tryd.ntmps6
    go_wp2_with fail
    refine (twin_any w _ l n Hn.out.symm (by omega) a cap Hb.out).mono ?_
    rintro e w1 ⟨v1, rfl, ow1, b1⟩
    rw [← Hn.out] at ow1
    obtain ⟨a3, c3, hv3, hb3, _⟩ := own_open ow1 (fun _ => False) (fun _ _ h => h)
    subst hv3
    have Hb3 := hid hb3
    have B1 := hid b1
    clear ow1 b1 hb3
    go_wp2_with fail
    refine (twin_any w1 _ t m Hm.out.symm (by omega) a2 cap2 (Hb2.out.below_of B1.out)).mono ?_
    rintro e w2 ⟨v2, rfl, ow2, b2⟩
    rw [← Hm.out] at ow2
    obtain ⟨a4, c4, hv4, hb4, _⟩ := own_open ow2 (fun _ => False) (fun _ _ h => h)
    subst hv4
    have Hb4 := hid hb4
    have Hb32 : Hid (Bytes w2 (fun _ => False) a3 c3 l) := Hb3.out.below_of b2
    have B2 : Hid (Below w.heap.size w w2) := B1.out.trans (b2.mono B1.out.size)
    clear ow2 b2 hb4
    go_wp2_with fail
    have k3 := read_ck_any w2 (Htab.out.below h2 B2.out) (by have := B2.out.size; omega) _ l n Hn.out.symm (by omega) a3 c3 Hb32.out t m Hm.out.symm a4 c4 Hb4.out
    rw [← Hr.out, ← HC.out, ← HE.out] at k3
    refine k3.mono ?_
    clear k3
    rintro e w3 ⟨rfl, b3⟩
    have N3 := hid (HasRow.new w3 (ckCells Ck.none) 66)
    have B23 := hid b3
    clear b3
    go_wp2_with (refine wpList_store_into rfl 66 _ _ rfl w3.heap.size 0 rfl (ckCells C) rfl (ckCells Ck.none) 66 N3.out (I1.out _) (Nat.le_refl 8) (one_ck _) ?_; intro w4 h6 g6 s6; rw [splice_all (ckCells Ck.none) (ckCells C) rfl] at h6; have H4 := hid h6; have G4 := hid g6; clear h6 g6 s6)
    have B24 : Hid (Below w2.heap.size w2 w4) := (B23.out.alloc B23.out.size _).grown G4.out (by simp; have := B23.out.size; omega) (by intro k hk; injection hk with hk; have := B23.out.size; omega)
    have B4 : Hid (Below w.heap.size w w4) := B2.out.trans (B24.out.mono B2.out.size)
    have k5 := refread_any w4 _ l n Hn.out.symm (by omega) a cap (Hb.out.below_of B4.out) t m Hm.out.symm a2 cap2 ((Hb2.out.below_of B4.out).other (fun _ _ _ h => h))
    rw [← Hr.out, ← HC.out, ← HE.out] at k5
    refine k5.mono ?_
    clear k5
    rintro e w5 ⟨rfl, b5⟩
    have N5 := hid (HasRow.new w5 (ckCells Ck.none) 66)
    have B45 := hid b5
    clear b5
    go_wp2_with (refine wpList_store_into rfl 66 _ _ rfl w5.heap.size 0 rfl (ckCells C) rfl (ckCells Ck.none) 66 N5.out (I1.out _) (Nat.le_refl 8) (one_ck _) ?_; intro w6 h6 g6 s6; rw [splice_all (ckCells Ck.none) (ckCells C) rfl] at h6; have H6 := hid h6; have G6 := hid g6; have B46 : Hid (Below w4.heap.size w4 w6) := (B45.out.alloc B45.out.size _).grown g6 (by simp; have := B45.out.size; omega) (by intro k hk; injection hk with hk; have := B45.out.size; omega); have H46 : Hid (HasRow w6 w3.heap.size (ckCells C) 66) := H4.out.below B46.out H4.out.lt; have e0 := H46.out.cell_any 0; have e1 := H46.out.cell_any 1; have e2 := H46.out.cell_any 2; have e3 := H46.out.cell_any 3; have e4 := H46.out.cell_any 4; have e5 := H46.out.cell_any 5; have e6 := H46.out.cell_any 6; have e7 := H46.out.cell_any 7; have d0 := h6.cell_any 0; have d1 := h6.cell_any 1; have d2 := h6.cell_any 2; have d3 := h6.cell_any 3; have d4 := h6.cell_any 4; have d5 := h6.cell_any 5; have d6 := h6.cell_any 6; have d7 := h6.cell_any 7; simp only [ckCells, List.getElem?_cons_zero, List.getElem?_cons_succ] at e0 e1 e2 e3 e4 e5 e6 e7 d0 d1 d2 d3 d4 d5 d6 d7; clear h6 g6 s6)
    have B6 : Hid (Below w.heap.size w w6) := B4.out.trans (B46.out.mono B4.out.size)
    have k7 := same11_any w6 _ _ l n Hn.out.symm a3 c3 ((Hb32.out.below_of B24.out).below_of B46.out) l n Hn.out.symm a cap (Hb.out.below_of B6.out)
    rw [decide_eq_true (p := l = l) rfl] at k7
    refine k7.mono ?_
    clear k7 e0 e1 e2 e3 e4 e5 e6 e7 d0 d1 d2 d3 d4 d5 d6 d7
    rintro e w7 ⟨rfl, rfl⟩
    go_wp2_with fail
    have k8 := same11_any w6 _ _ t m Hm.out.symm a4 c4 ((Hb4.out.below_of B24.out).below_of B46.out) t m Hm.out.symm a2 cap2 (Hb2.out.below_of B6.out)
    rw [decide_eq_true (p := t = t) rfl] at k8
    refine k8.mono ?_
    clear k8
    rintro e w7 ⟨rfl, rfl⟩
    go_wp2_with fail
    refine (works11_any w6 (Htab.out.below h2 B6.out) (by have := B6.out.size; omega)).mono ?_
    rintro e w8 ⟨rfl, b8⟩
    have B8 := hid b8
    clear b8
    go_wp2
    go_ret
    exact ⟨rfl, B6.out.trans (B8.out.mono B6.out.size)⟩
theorem paramsAre : Tryd.f6.params = #[29, 29] := by kernel_rfl

set_option maxRecDepth 100000 in
/-- WHAT THE WALK GIVES, FOR EVERY ARGUMENT AND EVERY WORLD THAT HOLDS THE TABLES. -/
theorem contract (H : Type) (enc : TypeId × Value → H) (W : World) (base : Nat) (args : Array Value) (ds gs : List (DataW H)) (before : List MemPlace)
    (hval : ∀ (j : Nat) t v, Tryd.f6.params[j]? = some t → args[j]? = some v → Value.okWide Tryd.prog W .any base t v)
    (hW : DataW.Whole enc Tryd.prog Tryd.f6.params.toList Rows.cookieReadsSpec.vars false W args.toList ds gs before) (hL : laidMetH Tryd.prog Rows.cookieReadsRow.laid W) :
    Calls Tryd.prog 6 args W fun e W' => ∃ v, e = .returned v ∧ Rows.cookieReadsSpec.post enc Tryd.prog Tryd.f6 false true false false W args v W' := by
  have hW' := hW
  obtain ⟨p, q, hA0, hV, rfl, hfz, hnd⟩ := hW
  have hA : DataW.TrodAll enc Tryd.prog W 0 (fun _ => true) true Tryd.f6.params.toList args.toList ds p := hA0
  rw [paramsAre] at hA hval
  obtain ⟨v0, vs0, d0, ds0, p0, q0, hargs, rfl, rfl, h0, r0⟩ := trodAll_cons hA
  obtain ⟨v1, vs1, d1, ds1, p1, q1, rfl, rfl, rfl, h1, r1⟩ := trodAll_cons r0
  obtain ⟨rfl, rfl, rfl⟩ := trodAll_nil r1
  obtain rfl : args = #[v0, v1] := by cases args; simp_all
  obtain ⟨rfl, rfl⟩ := trodVars_none hV
  clear hA0
  obtain ⟨b0, n0, c0, rfl⟩ := okWide_slice Tryd.underlying29 (hval 0 29 v0 rfl rfl)
  have k0 := h0
  have lt0 : ∀ x ∈ p0, x.block < W.heap.size := by obtain ⟨m, hm⟩ := k0; exact DataW.trod_lt m _ _ _ hm
  obtain ⟨a0, cap0, l0, e0, w0⟩ := open_bytes h0 cells_slice
  injection e0 with ea0 en0 ec0
  subst ea0 en0 ec0
  obtain ⟨b1, n1, c1, rfl⟩ := okWide_slice Tryd.underlying29 (hval 1 29 v1 rfl rfl)
  have k1 := h1
  have lt1 : ∀ x ∈ p1, x.block < W.heap.size := by obtain ⟨m, hm⟩ := k1; exact DataW.trod_lt m _ _ _ hm
  obtain ⟨a1, cap1, l1, e1, w1⟩ := open_bytes h1 cells_slice
  injection e1 with ea1 en1 ec1
  subst ea1 en1 ec1
  simp only [List.append_nil] at hW'
  refine (walk W (tabs_of_laid hL) l0 b0 c0 w0 l1 b1 c1 w1).mono fun e W' ⟨he, bel⟩ => ?_
  subst he
  exact ⟨_, rfl, _, _, _, [], _, [], hW', trodAll_mk1 (shut_bool Tryd.underlying4 _), (trodAll_cons_mk (Below.trod laidOut (by kernel_rfl) (of_decide_eq_true (by kernel_rfl)) k0 bel lt0) (trodAll_cons_mk (Below.trod laidOut (by kernel_rfl) (of_decide_eq_true (by kernel_rfl)) k1 bel lt1) trodAll_mk0)), rfl, bel.frame _, fun h => by cases h⟩

/-- A WORLD FOR THE WITNESS: the settled one, the tables holding what their initialisers lay. -/
noncomputable def laidWorld (os : Os) : World :=
  { World.holding Tryd.prog os ⟨#[], #[], []⟩ with heap := ((World.holding Tryd.prog os ⟨#[], #[], []⟩).heap.modify 0 (layCells (wv Sha.hTab).toArray)).modify 1 (layCells (wv Sha.kTab).toArray) }
theorem laid_met (os : Os) : laidMet Tryd.prog Rows.cookieReadsRow.laid ((laidWorld os).forCall (fun _ _ => 0) ⟨#[], #[.slice none 0 0, .slice none 0 0], []⟩).memory :=
  laidMet_of_run' 8 (by kernel_rfl) (by kernel_rfl)
theorem reads (os : Os) {H : Type} (enc : TypeId × Value → H) : ∃ places, DataW.whole enc Tryd.prog ((laidWorld os).forCall (fun _ _ => 0) ⟨#[], #[.slice none 0 0, .slice none 0 0], []⟩).memory Tryd.f6.params.toList Rows.cookieReadsSpec.vars false (#[.slice none 0 0, .slice none 0 0] : Array Value).toList 8 = some ([.nil, .nil], [], places) :=
  ⟨[], by kernel_rfl⟩

set_option maxRecDepth 100000 in
theorem lifted (os : Os) (started : os.Started) (H : Type) (enc : TypeId × Value → H) (F : Stop.Interp) :
    ReturnsInHanded {} Tryd.checked os 6 .any ((OpenSpec.ofChange Rows.cookieReadsSpec).preRow enc Tryd.prog Tryd.f6 Rows.cookieReadsRow.domain false Rows.cookieReadsRow.laid) (((OpenSpec.ofChange Rows.cookieReadsSpec).at F).post enc Tryd.prog Tryd.f6 false true false false) := by
  obtain ⟨places, hx⟩ := reads os enc
  refine returnsInHanded_of_row (C := Tryd.checked) (s := OpenSpec.ofChange Rows.cookieReadsSpec) own started (by kernel_rfl) Tryd.func6
    (witness_row_at (enc := enc) (C := Tryd.checked) false (laidWorld os) #[.slice none 0 0, .slice none 0 0] rfl (by kernel_rfl) (by kernel_rfl) (by kernel_rfl)
      (OpenSpec.preRow_of_cond 8 hx (by kernel_rfl) (fun k hk => by cases hk) (by kernel_rfl) (laid_met os))) ?_
  intro W base args ds gs before hval hW _ _ _ hL _ _
  exact contract H enc W base args ds gs before hval hW hL

set_option maxRecDepth 100000 in
theorem said : Rows.CookieReadsSaid :=
  OpenClaim.holds_of_cond 6 Tryd.f6 rfl rfl rfl rfl rfl rfl rfl ⟨rfl, rfl, rfl, rfl, rfl⟩ rfl rfl rfl rfl rfl (by kernel_rfl) Tryd.func6 (by kernel_rfl)
    (of_decide_eq_true (by kernel_rfl)) (by unfold Func.isWrapper; first | (rw [if_pos (by decide +kernel)]; kernel_rfl) | (rw [if_neg (by decide +kernel)]; exact ⟨rfl, rfl⟩))
    (fun os started H enc _ F => by rw [OpenClaim.pre_eq_preRow]; exact lifted os started H enc F)

set_option maxRecDepth 100000 in
theorem plain (f : FuncId) (fn : Func) (hf : Tryd.pinned.checked.prog.funcNamed "fairlead/fairleadlaw11.CookieReads" = some f) (hfn : Tryd.pinned.checked.prog.funcs[f]? = some fn) :
    false = Tryd.pinned.checked.prog.looks [] ∧ ∀ (j : Nat) t, fn.params[j]? = some t → Tryd.pinned.checked.prog.wantsStandIn t = false := by
  obtain rfl : f = 6 := Option.some.inj ((show Tryd.prog.funcNamed "fairlead/fairleadlaw11.CookieReads" = some 6 by kernel_rfl).symm.trans hf) |>.symm
  obtain rfl : fn = Tryd.f6 := (Option.some.inj (Tryd.func6.symm.trans hfn)).symm
  refine ⟨by kernel_rfl, fun j t ht => ?_⟩
  rw [paramsAre] at ht
  obtain rfl : t = 29 := by have := Array.mem_of_getElem? ht; simpa using this
  exact (show Tryd.prog.wantsStandIn 29 = false by kernel_rfl)

set_option maxRecDepth 100000 in
/-- ████ THE CARD ████ -/
theorem card : Rows.CookieReadsCardSaid :=
  Claim7.holds_tied_plain_at .later [] _ _ _ _ said (fun _ h => by cases h) (by kernel_rfl) (fun _ h => by cases h) cookieReads_row_tie rfl ⟨rfl, rfl⟩ (by kernel_rfl) rfl plain (by kernel_rfl)
#print axioms card
end Go.Proofs.YtgiagcopbibneaaDoor.cookieReadsDone
