/- CookieFresh: for every input the law returns true and the input reads as it did. Conditions: the row's own (the tables are laid as the program's text lays them). -/
import Derived.Test.YtgiagcopbibneaaDoorCkFrame
namespace Go.Proofs.YtgiagcopbibneaaDoor.cookieFreshDone
open Go.ChangeShapes Go.WideShapes Go.ChangeAt Go.RowKit
open Sha (W)
open Num (Ck)

def born (b : Int) : Ck := ⟨b, 0, 0, 0, 0, 0, 0, 0⟩
theorem born_ok (b : Int) (h : -9223372036854775808 ≤ b ∧ b ≤ 9223372036854775807) : (born b).Ok := ⟨h.1, h.2, by show 0 < _; decide, by show 0 < _; decide, by show 0 < _; decide, by show 0 < _; decide, by show 0 < _; decide, by show 0 < _; decide, by show 0 < _; decide⟩
theorem held8 {w w' : World} {B : Nat} {b : Int} (h : Kc w B (born b) w') : w'.cell? ⟨B, 0, none⟩ = some (.int .i64 b) ∧ w'.cell? ⟨B, 1, none⟩ = some (.int .u32 0) ∧ w'.cell? ⟨B, 2, none⟩ = some (.int .u32 0) ∧ w'.cell? ⟨B, 3, none⟩ = some (.int .u32 0) ∧ w'.cell? ⟨B, 4, none⟩ = some (.int .u32 0) ∧ w'.cell? ⟨B, 5, none⟩ = some (.int .u32 0) ∧ w'.cell? ⟨B, 6, none⟩ = some (.int .u16 0) ∧ w'.cell? ⟨B, 7, none⟩ = some (.int .u16 0) ∧ Kc w B (born b) w' :=
  ⟨h.row.cell_any 0, h.row.cell_any 1, h.row.cell_any 2, h.row.cell_any 3, h.row.cell_any 4, h.row.cell_any 5, h.row.cell_any 6, h.row.cell_any 7, h⟩

set_option maxRecDepth 100000 in
set_option maxHeartbeats 4000000 in
theorem walk (w : World) (htab : Tabs w) (b : Int) (wb : (Lit.int .i64 b).wf = true) (n : Int) (wn : (Lit.int .i64 n).wf = true) (l : Int) (wl : (Lit.int .i64 l).wf = true) :
    Calls Tryd.prog 9 #[.int .i64 b, .int .i64 n, .int .i64 l] w fun e w' => e = .returned (.bool true) ∧ Below w.heap.size w w' := by
  have h2 := size_of_tabs htab
  have hb := bounds_i64 wb
  have hn := bounds_i64 wn
  have hl := bounds_i64 wl
  have Htab := hid htab
  obtain ⟨wa, hwa⟩ : ∃ wa, wa = w.alloc (.cells (ckCells (born b)).toArray 66) := ⟨_, rfl⟩
  have K0 : Hid (Kc w w.heap.size (born b) wa) := by rw [hwa]; exact ⟨HasRow.new _ _ _, (Below.refl _ _).alloc (Nat.le_refl _) _⟩
  have hww : Hid (w.alloc (.cells #[.int .i64 b, .int .u32 0, .int .u32 0, .int .u32 0, .int .u32 0, .int .u32 0, .int .u16 0, .int .u16 0] 66) = wa) := hwa.symm
  have F : Hid (∀ w' X now, Kc w w.heap.size (born b) w' → -9223372036854775808 ≤ now ∧ now ≤ 9223372036854775807 → Num.fresh b now l = X → Calls Tryd.prog 36 #[(.agg #[.int .i64 b, .int .u32 0, .int .u32 0, .int .u32 0, .int .u32 0, .int .u32 0, .int .u16 0, .int .u16 0]), .int .i64 now, .int .i64 l] w' fun e w'' => e = .returned (.bool X) ∧ Kc w w.heap.size (born b) w'') :=
    fun w' X now h hnow hX => (fresh_any w' (born b) (born_ok b hb) now l hnow hl).mono fun e w'' ⟨he, hbb⟩ => ⟨by rw [← hX]; exact he, h.below hbb⟩
  have G : Hid (∀ w' X now, Kc w w.heap.size (born b) w' → -9223372036854775808 ≤ now ∧ now ≤ 9223372036854775807 → Num.fresh b now l = X → Calls Tryd.prog 37 #[(.agg #[.int .i64 b, .int .u32 0, .int .u32 0, .int .u32 0, .int .u32 0, .int .u32 0, .int .u16 0, .int .u16 0]), .int .i64 now, .int .i64 l] w' fun e w'' => e = .returned (.bool X) ∧ Kc w w.heap.size (born b) w'') :=
    fun w' X now h hnow hX => (reffresh_any w' (born b) (born_ok b hb) now l hnow hl).mono fun e w'' ⟨he, hbb⟩ => ⟨by rw [← hX]; exact he, h.below hbb⟩
  have WK : Hid (∀ w', Kc w w.heap.size (born b) w' → Calls Tryd.prog 29 #[] w' fun e w'' => e = .returned (.bool true) ∧ Below w.heap.size w w'') :=
    fun w' h => (works11_any w' (Htab.out.below h2 h.bel) (by have := h.bel.size; omega)).mono fun e w'' ⟨he, hbb⟩ => ⟨he, h.bel.trans (hbb.mono h.bel.size)⟩
  obtain ⟨X, hX⟩ : ∃ X, Num.fresh b n l = X := ⟨_, rfl⟩
  have HX := hid hX
  have xx : (X != X) = false := by cases X <;> rfl
  have HN := hid hn
  clear htab wb wn wl hwa hX
  go_enter Tryd.func9, Tryd.ntmps9
  go_wp2_with fail
  rw [hww.out]
  go_region_held3 (fun w' => w'.cell? ⟨w.heap.size, 0, none⟩ = some (.int .i64 b) ∧ w'.cell? ⟨w.heap.size, 1, none⟩ = some (.int .u32 0) ∧ w'.cell? ⟨w.heap.size, 2, none⟩ = some (.int .u32 0) ∧ w'.cell? ⟨w.heap.size, 3, none⟩ = some (.int .u32 0) ∧ w'.cell? ⟨w.heap.size, 4, none⟩ = some (.int .u32 0) ∧ w'.cell? ⟨w.heap.size, 5, none⟩ = some (.int .u32 0) ∧ w'.cell? ⟨w.heap.size, 6, none⟩ = some (.int .u16 0) ∧ w'.cell? ⟨w.heap.size, 7, none⟩ = some (.int .u16 0) ∧ Kc w w.heap.size (born b) w') (first | exact held8 K0.out.drew | exact held8 K5.out | exact held8 K6.out | fail)
    (first
      | (go_at_call 36; refine (F.out _ X n K0.out.drew HN.out HX.out).mono ?_; rintro e w5 ⟨rfl, k5⟩; have K5 := hid k5; clear k5)
      | (go_at_call 37; refine (G.out _ X n K5.out HN.out HX.out).mono ?_; rintro e w6 ⟨rfl, k6⟩; have K6 := hid k6; clear k6)
      | fail)
  by_cases hc : l < 0 ∨ n < b
  · have hx : Num.fresh b n l = false := by
      simp only [Num.fresh, Bool.and_eq_false_iff, decide_eq_false_iff_not]
      omega
    have eX : X = false := by rw [← HX.out, hx]
    subst eX
    obtain ⟨c0, c1, c2, c3, c4, c5, c6, c7, _⟩ := held8 K6.out
    by_cases hl0 : l < 0
    all_goals
      have hl1 : ¬ l < 0 → n < b := by omega
      first
        | (have hl2 := hl1 hl0)
        | skip
      clear hl1 hc
      go_wp2_with fail
      clear c0 c1 c2 c3 c4 c5 c6 c7
      refine (F.out w6 false n K6.out HN.out hx).mono ?_
      rintro e w7 ⟨rfl, k7⟩
      go_wp2_with fail
      refine (WK.out w7 k7).mono ?_
      rintro e w8 ⟨rfl, b8⟩
      have B8 := hid b8
      clear b8
      go_wp2
      go_ret
      exact ⟨rfl, B8.out⟩
  · have l0 : 0 ≤ l := by omega
    have bn : b ≤ n := by omega
    have bn2 : ¬ n < b := by omega
    have l02 : ¬ l < 0 := by omega
    have f1 : Num.fresh b b l = true := by simp [Num.fresh, l0]
    have f2 : Num.fresh b (b - 1) l = false := by
      simp only [Num.fresh, Bool.and_eq_false_iff, decide_eq_false_iff_not]
      omega
    obtain ⟨c0, c1, c2, c3, c4, c5, c6, c7, _⟩ := held8 K6.out
    clear hc
    by_cases hm : b = -9223372036854775808
    · have hb0 : ¬ 0 ≤ b := by omega
      have hb1 : ¬ (-9223372036854775808 : Int) < b := by omega
      have hb2 : decide ((-9223372036854775808 : Int) < b) = false := by simpa using hb1
      have HM := hid hm
      clear hm
      go_wp2_with fail
      clear c0 c1 c2 c3 c4 c5 c6 c7
      refine (F.out w6 true b K6.out hb f1).mono ?_
      rintro e w7 ⟨rfl, k7⟩
      have K7 := hid k7
      clear k7
      go_wp2_with fail
      refine (WK.out w7 K7.out).mono ?_
      rintro e w8 ⟨rfl, b8⟩
      have B8 := hid b8
      clear b8
      go_wp2
      go_ret
      exact ⟨rfl, B8.out⟩
    · have hb1 : (-9223372036854775808 : Int) < b := by omega
      clear hm
      go_wp2_with fail
      clear c0 c1 c2 c3 c4 c5 c6 c7
      refine (F.out w6 true b K6.out hb f1).mono ?_
      rintro e w7 ⟨rfl, k7⟩
      have K7 := hid k7
      clear k7
      obtain ⟨c0, c1, c2, c3, c4, c5, c6, c7, _⟩ := held8 K7.out
      go_wp2_with fail
      clear c0 c1 c2 c3 c4 c5 c6 c7
      refine (F.out w7 false (b - 1) K7.out (by omega) f2).mono ?_
      rintro e w8 ⟨rfl, k8⟩
      have K8 := hid k8
      clear k8
      by_cases hall : 0 ≤ b ∧ b ≤ 4611686018427387904 ∧ l < 4611686018427387904
      · obtain ⟨b0, b62, l62⟩ := hall
        have f3 : Num.fresh b (b + l) l = true := by
          simp only [Num.fresh, Bool.and_eq_true, decide_eq_true_eq]
          omega
        by_cases hbig : b + l + 1 ≤ 9223372036854775807
        · have hbig2 : b + l + 1 ≤ 9223372036854775807 := hbig
          have f4 : Num.fresh b (b + l + 1) l = false := by
            simp only [Num.fresh, Bool.and_eq_false_iff, decide_eq_false_iff_not]
            omega
          obtain ⟨c0, c1, c2, c3, c4, c5, c6, c7, _⟩ := held8 K8.out
          go_wp2_with fail
          clear c0 c1 c2 c3 c4 c5 c6 c7
          refine (F.out w8 true (b + l) K8.out (by omega) f3).mono ?_
          rintro e w9 ⟨rfl, k9⟩
          have K9 := hid k9
          clear k9
          obtain ⟨c0, c1, c2, c3, c4, c5, c6, c7, _⟩ := held8 K9.out
          go_wp2_with fail
          clear c0 c1 c2 c3 c4 c5 c6 c7
          refine (F.out w9 false (b + l + 1) K9.out (by omega) f4).mono ?_
          rintro e w10 ⟨rfl, k10⟩
          have K10 := hid k10
          clear k10
          go_wp2_with fail
          refine (WK.out w10 K10.out).mono ?_
          rintro e w11 ⟨rfl, b11⟩
          have B11 := hid b11
          clear b11
          go_wp2
          go_ret
          exact ⟨rfl, B11.out⟩
        · have w1 : wrap64 (b + l + 1) = -9223372036854775808 := by unfold wrap64; omega
          have w2 : IntKind.i64.wrap (b + l + 1) = -9223372036854775808 := by rw [IntKind.wrap_i64]; omega
          have f4 : Num.fresh b (-9223372036854775808) l = false := by
            simp only [Num.fresh, Bool.and_eq_false_iff, decide_eq_false_iff_not]
            omega
          obtain ⟨c0, c1, c2, c3, c4, c5, c6, c7, _⟩ := held8 K8.out
          go_wp2_with fail
          clear c0 c1 c2 c3 c4 c5 c6 c7
          refine (F.out w8 true (b + l) K8.out (by omega) f3).mono ?_
          rintro e w9 ⟨rfl, k9⟩
          have K9 := hid k9
          clear k9
          obtain ⟨c0, c1, c2, c3, c4, c5, c6, c7, _⟩ := held8 K9.out
          go_wp2_with fail
          clear c0 c1 c2 c3 c4 c5 c6 c7
          refine (F.out w9 false (-9223372036854775808) K9.out (by omega) f4).mono ?_
          rintro e w10 ⟨rfl, k10⟩
          have K10 := hid k10
          clear k10
          go_wp2_with fail
          refine (WK.out w10 K10.out).mono ?_
          rintro e w11 ⟨rfl, b11⟩
          have B11 := hid b11
          clear b11
          go_wp2
          go_ret
          exact ⟨rfl, B11.out⟩
      · have h3 : (¬ 0 ≤ b) ∨ (0 ≤ b ∧ ¬ b ≤ 4611686018427387904) ∨ (0 ≤ b ∧ b ≤ 4611686018427387904 ∧ ¬ l < 4611686018427387904) := by omega
        clear hall
        rcases h3 with b0 | ⟨b0, b62⟩ | ⟨b0, b62, l62⟩
        all_goals
          go_wp2_with fail
          refine (WK.out w8 K8.out).mono ?_
          rintro e w9 ⟨rfl, b9⟩
          have B9 := hid b9
          clear b9
          go_wp2
          go_ret
          exact ⟨rfl, B9.out⟩
theorem paramsAre : Tryd.f9.params = #[2, 2, 2] := by kernel_rfl

set_option maxRecDepth 100000 in
/-- WHAT THE WALK GIVES, FOR EVERY ARGUMENT AND EVERY WORLD THAT HOLDS THE TABLES. -/
theorem contract (H : Type) (enc : TypeId × Value → H) (W : World) (base : Nat) (args : Array Value) (ds gs : List (DataW H)) (before : List MemPlace)
    (hval : ∀ (j : Nat) t v, Tryd.f9.params[j]? = some t → args[j]? = some v → Value.okWide Tryd.prog W .any base t v)
    (hW : DataW.Whole enc Tryd.prog Tryd.f9.params.toList Rows.cookieFreshSpec.vars false W args.toList ds gs before) (hL : laidMetH Tryd.prog Rows.cookieFreshRow.laid W) :
    Calls Tryd.prog 9 args W fun e W' => ∃ v, e = .returned v ∧ Rows.cookieFreshSpec.post enc Tryd.prog Tryd.f9 false true false false W args v W' := by
  have hW' := hW
  obtain ⟨p, q, hA0, hV, rfl, hfz, hnd⟩ := hW
  have hA : DataW.TrodAll enc Tryd.prog W 0 (fun _ => true) true Tryd.f9.params.toList args.toList ds p := hA0
  rw [paramsAre] at hA hval
  obtain ⟨v0, vs0, d0, ds0, p0, q0, hargs, rfl, rfl, h0, r0⟩ := trodAll_cons hA
  obtain ⟨v1, vs1, d1, ds1, p1, q1, rfl, rfl, rfl, h1, r1⟩ := trodAll_cons r0
  obtain ⟨v2, vs2, d2, ds2, p2, q2, rfl, rfl, rfl, h2, r2⟩ := trodAll_cons r1
  obtain ⟨rfl, rfl, rfl⟩ := trodAll_nil r2
  obtain rfl : args = #[v0, v1, v2] := by cases args; simp_all
  obtain ⟨rfl, rfl⟩ := trodVars_none hV
  clear hA0
  obtain ⟨z0, rfl, rfl, rfl, w0⟩ := open_int Tryd.underlying2 (hval 0 2 v0 rfl rfl) h0
  obtain ⟨z1, rfl, rfl, rfl, w1⟩ := open_int Tryd.underlying2 (hval 1 2 v1 rfl rfl) h1
  obtain ⟨z2, rfl, rfl, rfl, w2⟩ := open_int Tryd.underlying2 (hval 2 2 v2 rfl rfl) h2
  simp only [List.append_nil] at hW'
  refine (walk W (tabs_of_laid hL) z0 w0 z1 w1 z2 w2).mono fun e W' ⟨he, bel⟩ => ?_
  subst he
  exact ⟨_, rfl, _, _, _, [], _, [], hW', trodAll_mk1 (shut_bool Tryd.underlying4 _), (trodAll_cons_mk (shut_int Tryd.underlying2 w0) (trodAll_cons_mk (shut_int Tryd.underlying2 w1) (trodAll_cons_mk (shut_int Tryd.underlying2 w2) trodAll_mk0))), rfl, bel.frame _, fun h => by cases h⟩

/-- A WORLD FOR THE WITNESS: the settled one, the tables holding what their initialisers lay. -/
noncomputable def laidWorld (os : Os) : World :=
  { World.holding Tryd.prog os ⟨#[], #[], []⟩ with heap := ((World.holding Tryd.prog os ⟨#[], #[], []⟩).heap.modify 0 (layCells (wv Sha.hTab).toArray)).modify 1 (layCells (wv Sha.kTab).toArray) }
theorem laid_met (os : Os) : laidMet Tryd.prog Rows.cookieFreshRow.laid ((laidWorld os).forCall (fun _ _ => 0) ⟨#[], #[.int .i64 0, .int .i64 0, .int .i64 0], []⟩).memory :=
  laidMet_of_run' 8 (by kernel_rfl) (by kernel_rfl)
theorem reads (os : Os) {H : Type} (enc : TypeId × Value → H) : ∃ places, DataW.whole enc Tryd.prog ((laidWorld os).forCall (fun _ _ => 0) ⟨#[], #[.int .i64 0, .int .i64 0, .int .i64 0], []⟩).memory Tryd.f9.params.toList Rows.cookieFreshSpec.vars false (#[.int .i64 0, .int .i64 0, .int .i64 0] : Array Value).toList 8 = some ([.lit (.int .i64 0), .lit (.int .i64 0), .lit (.int .i64 0)], [], places) :=
  ⟨[], by kernel_rfl⟩

set_option maxRecDepth 100000 in
theorem lifted (os : Os) (started : os.Started) (H : Type) (enc : TypeId × Value → H) (F : Stop.Interp) :
    ReturnsInHanded {} Tryd.checked os 9 .any ((OpenSpec.ofChange Rows.cookieFreshSpec).preRow enc Tryd.prog Tryd.f9 Rows.cookieFreshRow.domain false Rows.cookieFreshRow.laid) (((OpenSpec.ofChange Rows.cookieFreshSpec).at F).post enc Tryd.prog Tryd.f9 false true false false) := by
  obtain ⟨places, hx⟩ := reads os enc
  refine returnsInHanded_of_row (C := Tryd.checked) (s := OpenSpec.ofChange Rows.cookieFreshSpec) own started (by kernel_rfl) Tryd.func9
    (witness_row_at (enc := enc) (C := Tryd.checked) false (laidWorld os) #[.int .i64 0, .int .i64 0, .int .i64 0] rfl (by kernel_rfl) (by kernel_rfl) (by kernel_rfl)
      (OpenSpec.preRow_of_cond 8 hx (by kernel_rfl) (fun k hk => by cases hk) (by kernel_rfl) (laid_met os))) ?_
  intro W base args ds gs before hval hW _ _ _ hL _ _
  exact contract H enc W base args ds gs before hval hW hL

set_option maxRecDepth 100000 in
theorem said : Rows.CookieFreshSaid :=
  OpenClaim.holds_of_cond 9 Tryd.f9 rfl rfl rfl rfl rfl rfl rfl ⟨rfl, rfl, rfl, rfl, rfl⟩ rfl rfl rfl rfl rfl (by kernel_rfl) Tryd.func9 (by kernel_rfl)
    (of_decide_eq_true (by kernel_rfl)) (by unfold Func.isWrapper; first | (rw [if_pos (by decide +kernel)]; kernel_rfl) | (rw [if_neg (by decide +kernel)]; exact ⟨rfl, rfl⟩))
    (fun os started H enc _ F => by rw [OpenClaim.pre_eq_preRow]; exact lifted os started H enc F)

set_option maxRecDepth 100000 in
theorem plain (f : FuncId) (fn : Func) (hf : Tryd.pinned.checked.prog.funcNamed "fairlead/fairleadlaw11.CookieFresh" = some f) (hfn : Tryd.pinned.checked.prog.funcs[f]? = some fn) :
    false = Tryd.pinned.checked.prog.looks [] ∧ ∀ (j : Nat) t, fn.params[j]? = some t → Tryd.pinned.checked.prog.wantsStandIn t = false := by
  obtain rfl : f = 9 := Option.some.inj ((show Tryd.prog.funcNamed "fairlead/fairleadlaw11.CookieFresh" = some 9 by kernel_rfl).symm.trans hf) |>.symm
  obtain rfl : fn = Tryd.f9 := (Option.some.inj (Tryd.func9.symm.trans hfn)).symm
  refine ⟨by kernel_rfl, fun j t ht => ?_⟩
  rw [paramsAre] at ht
  obtain rfl : t = 2 := by have := Array.mem_of_getElem? ht; simpa using this
  exact (show Tryd.prog.wantsStandIn 2 = false by kernel_rfl)

set_option maxRecDepth 100000 in
/-- ████ THE CARD ████ -/
theorem card : Rows.CookieFreshCardSaid :=
  Claim7.holds_tied_plain_at .later [] _ _ _ _ said (fun _ h => by cases h) (by kernel_rfl) (fun _ h => by cases h) cookieFresh_row_tie rfl ⟨rfl, rfl⟩ (by kernel_rfl) rfl plain (by kernel_rfl)
#print axioms card
end Go.Proofs.YtgiagcopbibneaaDoor.cookieFreshDone
