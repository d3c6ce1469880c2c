/- MacSums: for every input the law returns true and the input reads as it did. Conditions: the row's own (the tables are laid as the program's text lays them). -/
import Derived.Test.YtadpcefdkifagaaDoorRef7
namespace Go.Proofs.YtadpcefdkifagaaDoor.macSumsDone
open Go.ChangeShapes Go.WideShapes Go.ChangeAt Go.RowKit
open Sha (W)

set_option maxRecDepth 100000 in
set_option maxHeartbeats 4000000 in
theorem walk (w : World) (htab : Tabs w) (l : List UInt8) (a : Option Addr) (cap : Nat) (hb : Bytes w (Old w) a cap l) (t : List UInt8) (a2 : Option Addr) (cap2 : Nat) (hb2 : Bytes w (Old w) a2 cap2 t) :
    Calls Tryd.prog 10 #[.slice a l.length cap, .slice a2 t.length cap2] w fun e w' => e = .returned (.bool true) ∧ Below w.heap.size w w' := by
  have h2 := size_of_tabs htab
  have Htab := hid htab
  have Hb := hid hb
  have Hb2 := hid hb2
  have hcap : l.length ≤ cap ∧ cap ≤ 9223372036854775807 := by have h1 := hb.1; have h2 := hb.2.1; unfold maxLen at h2; omega
  have hcap2 : t.length ≤ cap2 ∧ cap2 ≤ 9223372036854775807 := by have h1 := hb2.1; have h2 := hb2.2.1; unfold maxLen at h2; omega
  clear hb hb2 htab
  obtain ⟨n, hn⟩ : ∃ n, n = l.length := ⟨_, rfl⟩
  have Hn := hid hn
  obtain ⟨m, hm⟩ : ∃ m, m = t.length := ⟨_, rfl⟩
  have Hm := hid hm
  rw [← hn] at hcap ⊢
  rw [← hm] at hcap2 ⊢
  clear hn hm
  by_cases hbad : 4096 < n ∨ 8192 < m
  · by_cases hl : 4096 < n
    all_goals
      have hbad2 : 4096 < n ∨ 8192 < m := hbad
      clear hbad
      go_enter Tryd.func10, Tryd.ntmps10
      go_wp2_with fail
      refine (works7_any _ Htab.out h2).mono ?_
      rintro e w1 ⟨rfl, b1⟩
      go_wp2
      go_ret
      exact ⟨rfl, b1⟩
  · have hn4 : ¬ 4096 < n := by omega
    have hm4 : ¬ 8192 < m := by omega
    have hn5 : n ≤ 4096 := by omega
    have hm5 : m ≤ 8192 := by omega
    clear hbad
    go_enter Tryd.func10, Tryd.ntmps10
    go_wp2_with fail
    refine (roomy_any w _ l n Hn.out.symm a cap Hb.out (by omega)).mono ?_
    rintro e w1 ⟨g, rfl, r1, b1⟩
    rw [← Hn.out]
    have R1 := hid r1
    have B1 := hid b1
    have Hr1 : Hid (∀ w', Below w1.heap.size w1 w' → Bytes w' (fun _ => False) (some ⟨g, 0, none⟩) (n + 16) l) := fun w' h => by
      rw [Hn.out]; exact (roomy_bytes r1 (fun _ => False) (fun _ _ h => h) (by have := Hn.out; omega)).below_of h
    clear r1 b1
    go_wp2_with fail
    refine (roomy_any w1 _ t m Hm.out.symm a2 cap2 (Hb2.out.below_of B1.out) (by omega)).mono ?_
    rintro e w2 ⟨g2, rfl, r2, b2⟩
    rw [← Hm.out]
    have R2 := hid r2
    have B2 := hid b2
    have R12 : Hid (RoomyAt w2 w.heap.size l g) := R1.out.below b2 (Nat.le_refl _)
    have BW2 : Hid (Below w.heap.size w w2) := B1.out.trans (b2.mono B1.out.size)
    have Hr2 : Hid (Bytes w2 (fun _ => False) (some ⟨g2, 0, none⟩) (m + 16) t) := by
      show Bytes _ _ _ _ _
      rw [Hm.out]; exact roomy_bytes r2 (fun _ => False) (fun _ _ h => h) (by have := Hm.out; omega)
    clear r2 b2
    go_wp2_with fail
    refine (mac_any w2 (Htab.out.below h2 BW2.out) (by have := BW2.out.size; omega) _ _ l n Hn.out.symm (by omega) _ _ (Hr1.out w2 B2.out) t m Hm.out.symm (by omega) _ _ Hr2.out).mono ?_
    rintro e w3 ⟨rfl, b3⟩
    obtain ⟨R, hR⟩ : ∃ R, R = Sha.mac l t := ⟨_, rfl⟩
    have RL : Hid (R.length = 32) := by rw [hR]; exact Sha.length_mac _ _
    have HR := hid hR
    rw [← hR]
    have eq1 := eq32 R RL.out
    have BW3 : Hid (Below w.heap.size w w3) := BW2.out.trans (b3.mono BW2.out.size)
    have R13 : Hid (RoomyAt w3 w.heap.size l g) := R12.out.below b3 (Nat.le_refl _)
    have R23 : Hid (RoomyAt w3 w1.heap.size t g2) := R2.out.below b3 (Nat.le_refl _)
    clear b3 hR
    go_wp2_with fail
    refine (refmac_any w3 _ _ l n Hn.out.symm (by omega) a cap (Hb.out.below_of BW3.out) t m Hm.out.symm (by omega) a2 cap2 (Hb2.out.below_of BW3.out)).mono ?_
    rintro e w4 ⟨rfl, b4⟩
    rw [← HR.out]
    have BW4 : Hid (Below w.heap.size w w4) := BW3.out.trans (b4.mono BW3.out.size)
    have R14 : Hid (RoomyAt w4 w.heap.size l g) := R13.out.below b4 (Nat.le_refl _)
    have R24 : Hid (RoomyAt w4 w1.heap.size t g2) := R23.out.below b4 (Nat.le_refl _)
    clear b4
    go_wp2_with fail
    refine (kept_any w4 w.heap.size g (Old w) l n Hn.out.symm a cap R14.out (Hb.out.below_of BW4.out) (by omega)).mono ?_
    rintro e w5 ⟨rfl, d5⟩
    have BW5 : Hid (Below w.heap.size w w5) := BW4.out.trans (d5.below _)
    have R25 : Hid (RoomyAt w5 w1.heap.size t g2) := R24.out.below (d5.below _) (Nat.le_refl _)
    clear d5
    go_wp2_with fail
    refine (kept_any w5 w1.heap.size g2 (Old w) t m Hm.out.symm a2 cap2 R25.out (Hb2.out.below_of BW5.out) (by omega)).mono ?_
    rintro e w6 ⟨rfl, d6⟩
    have BW6 : Hid (Below w.heap.size w w6) := BW5.out.trans (d6.below _)
    clear d6
    go_wp2_with fail
    refine (works7_any w6 (Htab.out.below h2 BW6.out) (by have := BW6.out.size; omega)).mono ?_
    rintro e w7 ⟨rfl, b7⟩
    have B7 := hid b7
    clear b7
    go_wp2
    go_ret
    exact ⟨rfl, BW6.out.trans (B7.out.mono BW6.out.size)⟩
theorem paramsAre : Tryd.f10.params = #[22, 22] := by kernel_rfl

/-- WHAT THE WALK GIVES, FOR EVERY ARGUMENT AND EVERY WORLD THAT HOLDS THE TABLES. -/
theorem contract (H : Type) (enc : TypeId × Value → H) (W : World) (base : Nat) (args : Array Value) (ds gs : List (DataW H)) (before : List MemPlace)
    (hval : ∀ (j : Nat) t v, Tryd.f10.params[j]? = some t → args[j]? = some v → Value.okWide Tryd.prog W .any base t v)
    (hW : DataW.Whole enc Tryd.prog Tryd.f10.params.toList Rows.macSumsSpec.vars false W args.toList ds gs before) (hL : laidMetH Tryd.prog Rows.macSumsRow.laid W) :
    Calls Tryd.prog 10 args W fun e W' => ∃ v, e = .returned v ∧ Rows.macSumsSpec.post enc Tryd.prog Tryd.f10 false true false false W args v W' := by
  have hW' := hW
  obtain ⟨p, q, hA0, hV, rfl, hfz, hnd⟩ := hW
  have hA : DataW.TrodAll enc Tryd.prog W 0 (fun _ => true) true Tryd.f10.params.toList args.toList ds p := hA0
  rw [paramsAre] at hA hval
  obtain ⟨v0, vs0, d0, ds0, p0, q0, hargs, rfl, rfl, h0, r0⟩ := trodAll_cons hA
  obtain ⟨v1, vs1, d1, ds1, p1, q1, rfl, rfl, rfl, h1, r1⟩ := trodAll_cons r0
  obtain ⟨rfl, rfl, rfl⟩ := trodAll_nil r1
  obtain rfl : args = #[v0, v1] := by cases args; simp_all
  obtain ⟨rfl, rfl⟩ := trodVars_none hV
  clear hA0
  obtain ⟨b0, n0, c0, rfl⟩ := okWide_slice Tryd.underlying22 (hval 0 22 v0 rfl rfl)
  have k0 := h0
  have lt0 : ∀ x ∈ p0, x.block < W.heap.size := by obtain ⟨m, hm⟩ := k0; exact DataW.trod_lt m _ _ _ hm
  obtain ⟨a0, cap0, l0, e0, w0⟩ := open_bytes h0 cells_slice
  injection e0 with ea0 en0 ec0
  subst ea0 en0 ec0
  obtain ⟨b1, n1, c1, rfl⟩ := okWide_slice Tryd.underlying22 (hval 1 22 v1 rfl rfl)
  have k1 := h1
  have lt1 : ∀ x ∈ p1, x.block < W.heap.size := by obtain ⟨m, hm⟩ := k1; exact DataW.trod_lt m _ _ _ hm
  obtain ⟨a1, cap1, l1, e1, w1⟩ := open_bytes h1 cells_slice
  injection e1 with ea1 en1 ec1
  subst ea1 en1 ec1
  simp only [List.append_nil] at hW'
  refine (walk W (tabs_of_laid hL) l0 b0 c0 w0 l1 b1 c1 w1).mono fun e W' ⟨he, bel⟩ => ?_
  subst he
  exact ⟨_, rfl, _, _, _, [], _, [], hW', trodAll_mk1 (shut_bool Tryd.underlying4 _), (trodAll_cons_mk (Below.trod laidOut (by kernel_rfl) (of_decide_eq_true (by kernel_rfl)) k0 bel lt0) (trodAll_cons_mk (Below.trod laidOut (by kernel_rfl) (of_decide_eq_true (by kernel_rfl)) k1 bel lt1) trodAll_mk0)), rfl, bel.frame _, fun h => by cases h⟩

/-- A WORLD FOR THE WITNESS: the settled one, the tables holding what their initialisers lay. -/
noncomputable def laidWorld (os : Os) : World :=
  { World.holding Tryd.prog os ⟨#[], #[], []⟩ with heap := ((World.holding Tryd.prog os ⟨#[], #[], []⟩).heap.modify 0 (layCells (wv Sha.hTab).toArray)).modify 1 (layCells (wv Sha.kTab).toArray) }
theorem laid_met (os : Os) : laidMet Tryd.prog Rows.macSumsRow.laid ((laidWorld os).forCall (fun _ _ => 0) ⟨#[], #[.slice none 0 0, .slice none 0 0], []⟩).memory :=
  laidMet_of_run' 8 (by kernel_rfl) (by kernel_rfl)
theorem reads (os : Os) {H : Type} (enc : TypeId × Value → H) : ∃ places, DataW.whole enc Tryd.prog ((laidWorld os).forCall (fun _ _ => 0) ⟨#[], #[.slice none 0 0, .slice none 0 0], []⟩).memory Tryd.f10.params.toList Rows.macSumsSpec.vars false (#[.slice none 0 0, .slice none 0 0] : Array Value).toList 8 = some ([.nil, .nil], [], places) :=
  ⟨[], by kernel_rfl⟩

set_option maxRecDepth 100000 in
theorem lifted (os : Os) (started : os.Started) (H : Type) (enc : TypeId × Value → H) (F : Stop.Interp) :
    ReturnsInHanded {} Tryd.checked os 10 .any ((OpenSpec.ofChange Rows.macSumsSpec).preRow enc Tryd.prog Tryd.f10 Rows.macSumsRow.domain false Rows.macSumsRow.laid) (((OpenSpec.ofChange Rows.macSumsSpec).at F).post enc Tryd.prog Tryd.f10 false true false false) := by
  obtain ⟨places, hx⟩ := reads os enc
  refine returnsInHanded_of_row (C := Tryd.checked) (s := OpenSpec.ofChange Rows.macSumsSpec) own started (by kernel_rfl) Tryd.func10
    (witness_row_at (enc := enc) (C := Tryd.checked) false (laidWorld os) #[.slice none 0 0, .slice none 0 0] rfl (by kernel_rfl) (by kernel_rfl) (by kernel_rfl)
      (OpenSpec.preRow_of_cond 8 hx (by kernel_rfl) (fun k hk => by cases hk) (by kernel_rfl) (laid_met os))) ?_
  intro W base args ds gs before hval hW _ _ _ hL _ _
  exact contract H enc W base args ds gs before hval hW hL

theorem said : Rows.MacSumsSaid :=
  OpenClaim.holds_of_cond 10 Tryd.f10 rfl rfl rfl rfl rfl rfl rfl ⟨rfl, rfl, rfl, rfl, rfl⟩ rfl rfl rfl rfl rfl (by kernel_rfl) Tryd.func10 (by kernel_rfl)
    (of_decide_eq_true (by kernel_rfl)) (by unfold Func.isWrapper; first | (rw [if_pos (by decide +kernel)]; kernel_rfl) | (rw [if_neg (by decide +kernel)]; exact ⟨rfl, rfl⟩))
    (fun os started H enc _ F => by rw [OpenClaim.pre_eq_preRow]; exact lifted os started H enc F)

theorem plain (f : FuncId) (fn : Func) (hf : Tryd.pinned.checked.prog.funcNamed "fairlead/fairleadlaw07.MacSums" = some f) (hfn : Tryd.pinned.checked.prog.funcs[f]? = some fn) :
    false = Tryd.pinned.checked.prog.looks [] ∧ ∀ (j : Nat) t, fn.params[j]? = some t → Tryd.pinned.checked.prog.wantsStandIn t = false := by
  obtain rfl : f = 10 := Option.some.inj ((show Tryd.prog.funcNamed "fairlead/fairleadlaw07.MacSums" = some 10 by kernel_rfl).symm.trans hf) |>.symm
  obtain rfl : fn = Tryd.f10 := (Option.some.inj (Tryd.func10.symm.trans hfn)).symm
  refine ⟨by kernel_rfl, fun j t ht => ?_⟩
  rw [paramsAre] at ht
  obtain rfl : t = 22 := by have := Array.mem_of_getElem? ht; simpa using this
  exact (show Tryd.prog.wantsStandIn 22 = false by kernel_rfl)

/-- ████ THE CARD ████ -/
theorem card : Rows.MacSumsCardSaid :=
  Claim7.holds_tied_plain_at .later [] _ _ _ _ said (fun _ h => by cases h) (by kernel_rfl) (fun _ h => by cases h) macSums_row_tie rfl ⟨rfl, rfl⟩ (by kernel_rfl) rfl plain (by kernel_rfl)
#print axioms card
end Go.Proofs.YtadpcefdkifagaaDoor.macSumsDone
