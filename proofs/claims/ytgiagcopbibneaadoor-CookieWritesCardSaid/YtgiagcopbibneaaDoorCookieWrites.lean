/- CookieWrites: for every input the law returns true and the input reads as it did. Conditions: the row's own (the tables are laid as the program's text lays them). -/
import Derived.Test.YtgiagcopbibneaaDoorCkFrame
namespace Go.Proofs.YtgiagcopbibneaaDoor.cookieWritesDone
open Go.ChangeShapes Go.WideShapes Go.ChangeAt Go.RowKit
open Sha (W)
open Num (Ck)

set_option maxRecDepth 100000 in
set_option maxHeartbeats 4000000 in
theorem walk (w : World) (htab : Tabs w) (l : List UInt8) (a : Option Addr) (cap : Nat) (hb : Bytes w (Old w) a cap l) (c : Ck) (hc : c.Ok) :
    Calls Tryd.prog 5 #[.slice a l.length cap, .agg (ckCells c).toArray] w fun e w' => e = .returned (.bool true) ∧ Below w.heap.size w w' := by
  have h2 := size_of_tabs htab
  obtain ⟨wa, hwa⟩ : ∃ wa, wa = w.alloc (.cells (ckCells c).toArray 66) := ⟨_, rfl⟩
  have K0 : Hid (Kc w w.heap.size c wa) := by rw [hwa]; exact ⟨HasRow.new _ _ _, (Below.refl _ _).alloc (Nat.le_refl _) _⟩
  have Htab := hid htab
  have Hb := hid hb
  have Hc := hid hc
  have Hww := hid hwa
  clear hb htab hc hwa
  obtain ⟨n, hn⟩ : ∃ n, n = l.length := ⟨_, rfl⟩
  have Hn := hid hn
  rw [← hn]
  clear hn
  simp only [ckCells]
  by_cases hl : 4096 < n
  · go_enter Tryd.func5, Tryd.ntmps5
    go_wp2_with fail
    have k1 := works11_any wa (Htab.out.below h2 K0.out.bel) (by have := K0.out.bel.size; omega)
    rw [Hww.out] at k1
    refine k1.mono ?_
    clear k1
    rintro e w1 ⟨rfl, b1⟩
    rw [← Hww.out] at b1
    have B1 := hid b1
    clear b1
    go_wp2
    go_ret
    exact ⟨rfl, K0.out.bel.trans (B1.out.mono K0.out.bel.size)⟩
  · go_enter Tryd.func5, Tryd.ntmps5
    go_wp2_with fail
    have k1 := twin_any wa _ l n Hn.out.symm (by omega) a cap (Hb.out.below_of K0.out.bel)
    rw [Hww.out] at k1
    refine k1.mono ?_
    clear k1
    rintro e w1 ⟨v1, rfl, ow1, b1⟩
    rw [← Hww.out] at ow1 b1
    rw [← Hn.out] at ow1
    obtain ⟨a3, c3, hv3, hb3, _⟩ := own_open ow1 (fun _ => False) (fun _ _ h => h)
    subst hv3
    have Hb3 := hid hb3
    have K1 : Hid (Kc w w.heap.size c w1) := K0.out.below b1
    have D1 : Hid (Below w1.heap.size w1 w1.drew) := (Below.refl _ _).drew
    have K1d : Hid (Kc w w.heap.size c w1.drew) := K1.out.drew
    clear ow1 b1 hb3
    go_wp2_with fail
    go_region_held3 (fun w' => w'.cell? ⟨w.heap.size, 0, none⟩ = some (.int .i64 c.born) ∧ w'.cell? ⟨w.heap.size, 1, none⟩ = some (.int .u32 (c.ownTag : Int)) ∧ w'.cell? ⟨w.heap.size, 2, none⟩ = some (.int .u32 (c.peerTag : Int)) ∧ w'.cell? ⟨w.heap.size, 3, none⟩ = some (.int .u32 (c.ownTsn : Int)) ∧ w'.cell? ⟨w.heap.size, 4, none⟩ = some (.int .u32 (c.peerTsn : Int)) ∧ w'.cell? ⟨w.heap.size, 5, none⟩ = some (.int .u32 (c.peerRwnd : Int)) ∧ w'.cell? ⟨w.heap.size, 6, none⟩ = some (.int .u16 (c.out : Int)) ∧ w'.cell? ⟨w.heap.size, 7, none⟩ = some (.int .u16 (c.inn : Int)) ∧ Kc w w.heap.size c w') (first | exact K1.out.drew.held8 | exact K5.out.held8 | exact K6.out.held8 | exact K7.out.held8 | fail)
      (first
        | (go_at_call 32; refine (write_ck_any w1.drew (Htab.out.below h2 K1d.out.bel) (by have := K1d.out.bel.size; omega) _ l n Hn.out.symm (by omega) a3 c3 (Hb3.out.below_of D1.out) c Hc.out).mono ?_; rintro e w5 ⟨v5, rfl, ow5, b5⟩; have K5 : Hid (Kc w w.heap.size c w5) := K1d.out.below b5; rw [Ck.length_bytes] at ow5; obtain ⟨a5, c5, hv5, hb5, _⟩ := own_open ow5 (fun _ => False) (fun _ _ h => h); subst hv5; have Hb5 := hid hb5; have Hb35 : Hid (Bytes w5 (fun _ => False) a3 c3 l) := (Hb3.out.below_of D1.out).below_of b5; clear ow5 b5 hb5)
        | (go_at_call 33; refine (refwrite_any w5 _ l n Hn.out.symm (by omega) a cap (Hb.out.below_of K5.out.bel) c Hc.out).mono ?_; rintro e w6 ⟨v6, rfl, ow6, b6⟩; have K6 : Hid (Kc w w.heap.size c w6) := K5.out.below b6; rw [Ck.length_bytes] at ow6; obtain ⟨a6, c6, hv6, hb6, _⟩ := own_open ow6 (fun _ => False) (fun _ _ h => h); subst hv6; have S1 := hid (same11_any w6 _ _ (c.bytes l) 64 (Ck.length_bytes _ _) a5 c5 (Hb5.out.below_of b6) (c.bytes l) 64 (Ck.length_bytes _ _) a6 c6 hb6); have S2 := hid (same11_any w6 _ _ l n Hn.out.symm a3 c3 (Hb35.out.below_of b6) l n Hn.out.symm a cap (Hb.out.below_of K6.out.bel)); rw [decide_eq_true (p := c.bytes l = c.bytes l) rfl] at S1; rw [decide_eq_true (p := l = l) rfl] at S2; clear ow6 b6 hb6)
        | (go_at_call 31; ((with_reducible refine S1.out.mono ?_); rintro e w7 ⟨rfl, rfl⟩))
        | (go_at_call 31; ((with_reducible refine S2.out.mono ?_); rintro e w7 ⟨rfl, rfl⟩))
        | (go_at_call 29; refine (works11_any w6 (Htab.out.below h2 K6.out.bel) (by have := K6.out.bel.size; omega)).mono ?_; rintro e w7 ⟨rfl, b7⟩; have K7 : Hid (Kc w w.heap.size c w7) := K6.out.below b7; clear b7)
        | fail)
    all_goals
      go_wp2
      go_ret
      exact ⟨rfl, K7.out.bel⟩
theorem paramsAre : Tryd.f5.params = #[29, 66] := by kernel_rfl

set_option maxRecDepth 100000 in
/-- WHAT THE WALK GIVES, FOR EVERY ARGUMENT AND EVERY WORLD THAT HOLDS THE TABLES. -/
theorem contract (H : Type) (enc : TypeId × Value → H) (W : World) (base : Nat) (args : Array Value) (ds gs : List (DataW H)) (before : List MemPlace)
    (hval : ∀ (j : Nat) t v, Tryd.f5.params[j]? = some t → args[j]? = some v → Value.okWide Tryd.prog W .any base t v)
    (hW : DataW.Whole enc Tryd.prog Tryd.f5.params.toList Rows.cookieWritesSpec.vars false W args.toList ds gs before) (hL : laidMetH Tryd.prog Rows.cookieWritesRow.laid W) :
    Calls Tryd.prog 5 args W fun e W' => ∃ v, e = .returned v ∧ Rows.cookieWritesSpec.post enc Tryd.prog Tryd.f5 false true false false W args v W' := by
  have hW' := hW
  obtain ⟨p, q, hA0, hV, rfl, hfz, hnd⟩ := hW
  have hA : DataW.TrodAll enc Tryd.prog W 0 (fun _ => true) true Tryd.f5.params.toList args.toList ds p := hA0
  rw [paramsAre] at hA hval
  obtain ⟨v0, vs0, d0, ds0, p0, q0, hargs, rfl, rfl, h0, r0⟩ := trodAll_cons hA
  obtain ⟨v1, vs1, d1, ds1, p1, q1, rfl, rfl, rfl, h1, r1⟩ := trodAll_cons r0
  obtain ⟨rfl, rfl, rfl⟩ := trodAll_nil r1
  obtain rfl : args = #[v0, v1] := by cases args; simp_all
  obtain ⟨rfl, rfl⟩ := trodVars_none hV
  clear hA0
  obtain ⟨b0, n0, c0, rfl⟩ := okWide_slice Tryd.underlying29 (hval 0 29 v0 rfl rfl)
  have k0 := h0
  have lt0 : ∀ x ∈ p0, x.block < W.heap.size := by obtain ⟨m, hm⟩ := k0; exact DataW.trod_lt m _ _ _ hm
  obtain ⟨a0, cap0, l0, e0, w0⟩ := open_bytes h0 cells_slice
  injection e0 with ea0 en0 ec0
  subst ea0 en0 ec0
  have k1 := h1
  have lt1 : ∀ x ∈ p1, x.block < W.heap.size := by obtain ⟨m, hm⟩ := k1; exact DataW.trod_lt m _ _ _ hm
  obtain ⟨c1, w1, rfl⟩ := open_ck (hval 1 66 v1 rfl rfl) h1
  simp only [List.append_nil] at hW'
  refine (walk W (tabs_of_laid hL) l0 b0 c0 w0 c1 w1).mono fun e W' ⟨he, bel⟩ => ?_
  subst he
  exact ⟨_, rfl, _, _, _, [], _, [], hW', trodAll_mk1 (shut_bool Tryd.underlying4 _), (trodAll_cons_mk (Below.trod laidOut (by kernel_rfl) (of_decide_eq_true (by kernel_rfl)) k0 bel lt0) (trodAll_cons_mk (Below.trod laidOut (by kernel_rfl) (of_decide_eq_true (by kernel_rfl)) k1 bel lt1) trodAll_mk0)), rfl, bel.frame _, fun h => by cases h⟩

/-- A WORLD FOR THE WITNESS: the settled one, the tables holding what their initialisers lay. -/
noncomputable def laidWorld (os : Os) : World :=
  { World.holding Tryd.prog os ⟨#[], #[], []⟩ with heap := ((World.holding Tryd.prog os ⟨#[], #[], []⟩).heap.modify 0 (layCells (wv Sha.hTab).toArray)).modify 1 (layCells (wv Sha.kTab).toArray) }
theorem laid_met (os : Os) : laidMet Tryd.prog Rows.cookieWritesRow.laid ((laidWorld os).forCall (fun _ _ => 0) ⟨#[], #[.slice none 0 0, .agg #[.int .i64 0, .int .u32 0, .int .u32 0, .int .u32 0, .int .u32 0, .int .u32 0, .int .u16 0, .int .u16 0]], []⟩).memory :=
  laidMet_of_run' 8 (by kernel_rfl) (by kernel_rfl)
theorem reads (os : Os) {H : Type} (enc : TypeId × Value → H) : ∃ places, DataW.whole enc Tryd.prog ((laidWorld os).forCall (fun _ _ => 0) ⟨#[], #[.slice none 0 0, .agg #[.int .i64 0, .int .u32 0, .int .u32 0, .int .u32 0, .int .u32 0, .int .u32 0, .int .u16 0, .int .u16 0]], []⟩).memory Tryd.f5.params.toList Rows.cookieWritesSpec.vars false (#[.slice none 0 0, .agg #[.int .i64 0, .int .u32 0, .int .u32 0, .int .u32 0, .int .u32 0, .int .u32 0, .int .u16 0, .int .u16 0]] : Array Value).toList 8 = some ([.nil, .agg [.lit (.int .i64 0), .lit (.int .u32 0), .lit (.int .u32 0), .lit (.int .u32 0), .lit (.int .u32 0), .lit (.int .u32 0), .lit (.int .u16 0), .lit (.int .u16 0)]], [], places) :=
  ⟨[], by kernel_rfl⟩

set_option maxRecDepth 100000 in
theorem lifted (os : Os) (started : os.Started) (H : Type) (enc : TypeId × Value → H) (F : Stop.Interp) :
    ReturnsInHanded {} Tryd.checked os 5 .any ((OpenSpec.ofChange Rows.cookieWritesSpec).preRow enc Tryd.prog Tryd.f5 Rows.cookieWritesRow.domain false Rows.cookieWritesRow.laid) (((OpenSpec.ofChange Rows.cookieWritesSpec).at F).post enc Tryd.prog Tryd.f5 false true false false) := by
  obtain ⟨places, hx⟩ := reads os enc
  refine returnsInHanded_of_row (C := Tryd.checked) (s := OpenSpec.ofChange Rows.cookieWritesSpec) own started (by kernel_rfl) Tryd.func5
    (witness_row_at (enc := enc) (C := Tryd.checked) false (laidWorld os) #[.slice none 0 0, .agg #[.int .i64 0, .int .u32 0, .int .u32 0, .int .u32 0, .int .u32 0, .int .u32 0, .int .u16 0, .int .u16 0]] rfl (by kernel_rfl) (by kernel_rfl) (by kernel_rfl)
      (OpenSpec.preRow_of_cond 8 hx (by kernel_rfl) (fun k hk => by cases hk) (by kernel_rfl) (laid_met os))) ?_
  intro W base args ds gs before hval hW _ _ _ hL _ _
  exact contract H enc W base args ds gs before hval hW hL

set_option maxRecDepth 100000 in
theorem said : Rows.CookieWritesSaid :=
  OpenClaim.holds_of_cond 5 Tryd.f5 rfl rfl rfl rfl rfl rfl rfl ⟨rfl, rfl, rfl, rfl, rfl⟩ rfl rfl rfl rfl rfl (by kernel_rfl) Tryd.func5 (by kernel_rfl)
    (of_decide_eq_true (by kernel_rfl)) (by unfold Func.isWrapper; first | (rw [if_pos (by decide +kernel)]; kernel_rfl) | (rw [if_neg (by decide +kernel)]; exact ⟨rfl, rfl⟩))
    (fun os started H enc _ F => by rw [OpenClaim.pre_eq_preRow]; exact lifted os started H enc F)

set_option maxRecDepth 100000 in
theorem plain (f : FuncId) (fn : Func) (hf : Tryd.pinned.checked.prog.funcNamed "fairlead/fairleadlaw11.CookieWrites" = some f) (hfn : Tryd.pinned.checked.prog.funcs[f]? = some fn) :
    false = Tryd.pinned.checked.prog.looks [] ∧ ∀ (j : Nat) t, fn.params[j]? = some t → Tryd.pinned.checked.prog.wantsStandIn t = false := by
  obtain rfl : f = 5 := Option.some.inj ((show Tryd.prog.funcNamed "fairlead/fairleadlaw11.CookieWrites" = some 5 by kernel_rfl).symm.trans hf) |>.symm
  obtain rfl : fn = Tryd.f5 := (Option.some.inj (Tryd.func5.symm.trans hfn)).symm
  refine ⟨by kernel_rfl, fun j t ht => ?_⟩
  rw [paramsAre] at ht
  have hm : t = 29 ∨ t = 66 := by have := Array.mem_of_getElem? ht; simpa using this
  rcases hm with rfl | rfl
  · exact (show Tryd.prog.wantsStandIn 29 = false by kernel_rfl)
  · exact (show Tryd.prog.wantsStandIn 66 = false by kernel_rfl)

set_option maxRecDepth 100000 in
/-- ████ THE CARD ████ -/
theorem card : Rows.CookieWritesCardSaid :=
  Claim7.holds_tied_plain_at .later [] _ _ _ _ said (fun _ h => by cases h) (by kernel_rfl) (fun _ h => by cases h) cookieWrites_row_tie rfl ⟨rfl, rfl⟩ (by kernel_rfl) rfl plain (by kernel_rfl)
#print axioms card
end Go.Proofs.YtgiagcopbibneaaDoor.cookieWritesDone
