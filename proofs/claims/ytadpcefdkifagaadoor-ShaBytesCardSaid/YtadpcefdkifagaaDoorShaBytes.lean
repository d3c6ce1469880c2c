/- ShaBytes: for every input the law returns true and the input reads as it did. Conditions: the row's own (the tables are laid as the program's text lays them). -/
import Derived.Test.YtadpcefdkifagaaDoorCopy
import Derived.Deep.RegionWith
namespace Go.Proofs.YtadpcefdkifagaaDoor.shaBytesDone
open Go.ChangeShapes Go.WideShapes Go.ChangeAt Go.RowKit
open Sha (W)

set_option maxRecDepth 100000 in
set_option maxHeartbeats 2000000 in
theorem walk (w : World) (htab : Tabs w) (l : List UInt8) (a : Option Addr) (cap : Nat) (hb : Bytes w (Old w) a cap l) :
    Calls Tryd.prog 6 #[.slice a l.length cap] w fun e w' => e = .returned (.bool true) ∧ Below w.heap.size w w' := by
  have h2 := size_of_tabs htab
  have Htab := hid htab
  have Hb := hid hb
  have hcap : l.length ≤ cap ∧ cap ≤ 9223372036854775807 := by have h1 := hb.1; have h2 := hb.2.1; unfold maxLen at h2; omega
  obtain ⟨n, hn⟩ : ∃ n, n = l.length := ⟨_, rfl⟩
  rw [← hn] at hcap ⊢
  have Hn := hid hn
  clear hb htab hn
  by_cases h : 300 < n
  · go_enter Tryd.func6, Tryd.ntmps6
    go_wp2_with fail
    refine (works6_any _ Htab.out h2).mono ?_
    rintro e w1 ⟨rfl, b1⟩
    go_wp2
    go_ret
    exact ⟨rfl, b1⟩
  · go_enter Tryd.func6, Tryd.ntmps6
    go_wp2_with fail
    refine (new_any _).mono ?_
    rintro e w1 ⟨rfl, st1, b1, z1⟩
    have St1 := hid st1
    have B1 := hid b1
    have Z1 := hid z1
    clear st1 b1 z1
    go_wp2_with fail
    go_loopw [4] (fun i wr => ∃ k : Nat, k ≤ n ∧ i = .int .i64 (k : Int) ∧ IsState wr w.heap.size (l.take k) ∧ Below w.heap.size w wr) (fun i _ => n - (intOf i).toNat)
    case atStart => exact ⟨0, by omega, rfl, by simpa using St1.out, B1.out⟩
    case round =>
      obtain ⟨k, hk, rfl, st, bb⟩ := hrel
      have St := hid st
      have Bb := hid bb
      have TabR : Hid (Tabs wr) := Htab.out.below h2 bb
      have Lt := hid st.lt
      clear st bb
      by_cases hkn : k < n
      · obtain ⟨b, off, ha, _, hlt, _⟩ := Hb.out.2.2 (by intro e; have := Hn.out; rw [e] at this; simp at this; omega)
        subst ha
        have i1 : (k : Int) ≤ (k : Int) + 1 := by omega
        have i2 : (k : Int) + 1 ≤ (cap : Int) := by omega
        have i3 : ((k : Int) + 1).toNat = k + 1 := by omega
        have i4 : ¬ cap = k := by omega
        obtain ⟨T, hT⟩ : ∃ T, T = l.take (k + 1) := ⟨_, rfl⟩
        have hTl : T.length = k + 1 := by rw [hT]; simp; have := Hn.out; omega
        have HT := hid hT
        have HTl := hid hTl
        have Hp : Hid (Bytes wr (· = w.heap.size) (some ⟨b, off + k, none⟩) (cap - k) ((l.drop k).take 1)) :=
          (((Hb.out.below Bb.out (fun b hb _ => hb)).other (fun x _ hx e => hx (by unfold Old; omega))).piece k 1 (by have := Hn.out; omega) (by omega))
        have Hpl : Hid (((l.drop k).take 1).length = 1) := by show _ = _; simp; have := Hn.out; omega
        clear hT hTl
        go_wp2_with fail
        refine (write_len w.heap.size (l.take k) ((l.drop k).take 1) 1 Hpl.out _ _ _ St.out Hp.out TabR.out h2 (by simp; omega)).mono ?_
        rintro e w2 ⟨rfl, st2, g2⟩
        rw [show l.take k ++ (l.drop k).take 1 = T by rw [HT.out, List.take_add]] at st2
        have St2 := hid st2
        have B2 : Hid (Below w.heap.size w w2) := Bb.out.trans (below_of_grownBy g2 (by have := Bb.out.size; omega) (by intro k hk; injection hk with hk; omega))
        have Tab2 : Hid (Tabs w2) := Htab.out.below h2 B2.out
        have HbT : Hid (Bytes w2 (fun _ => False) (some ⟨b, off, none⟩) cap T) := by
          have := (Hb.out.below B2.out (fun b hb _ => hb)).take (k + 1)
          rw [← HT.out] at this
          exact this.other (fun _ _ _ h => h)
        have ne := ne32 (Sha.sum T) (Sha.length_sum T)
        clear st2 g2
        go_upto_region 10 with (fail)
        go_cut [32] (fun v wx => v = .bool false ∧ IsState wx w.heap.size T ∧ Below w.heap.size w wx)
        case first =>
          have j1 : IntKind.i64.wrap ((k : Int) + 1) = (k : Int) + 1 := IntWalk.i64_in _ (by omega)
          have j2 : 0 ≤ (k : Int) + 1 := by omega
          go_region_with (first
            | (go_at_call 23; refine (stsum_any w2.drew w.heap.size T St2.out Tab2.out h2 (by have := HTl.out; omega)).mono ?_; rintro e w3 ⟨rfl, b3⟩; have B3 : Hid (Below w2.heap.size w2 w3) := ((Below.refl _ w2).drew).trans b3; have Z3 := hid B3.out.size; clear b3)
            | (go_at_call 17; refine (sum_len T (k + 1) HTl.out _ _ w3 (fun _ => False) (HbT.out.below B3.out (fun b hb _ => hb)) (Tab2.out.below (by have := St2.out.lt; omega) B3.out) (by have := St2.out.lt; have := Z3.out; omega) (by omega)).mono ?_; rintro e w4 ⟨rfl, b4⟩; have B4 := hid b4; clear b4))
          all_goals
            go_wp2_with fail
            go_meet
            exact ⟨rfl, (St2.out.below B3.out St2.out.lt).below B4.out (by have := St2.out.lt; have := Z3.out; omega), (B2.out.trans (B3.out.mono B2.out.size)).trans (B4.out.mono (by have := B2.out.size; have := Z3.out; omega))⟩
        case rest =>
          obtain ⟨rfl, st5, b5⟩ := hcut
          have St5 := hid st5
          have B5 := hid b5
          clear st5 b5 ne
          go_wp2
          go_roundw
          case rel => exact ⟨k + 1, by omega, by go_num, by rw [← HT.out]; exact St5.out, B5.out⟩
          case measure => simp [intOf]; omega
      · obtain rfl : k = n := by omega
        have e1 : l.take k = l := List.take_of_length_le (by have := Hn.out; omega)
        have St6 : Hid (IsState wr w.heap.size l) := by rw [← e1]; exact St.out
        clear e1 St
        have eq := eq32 (Sha.sum l) (Sha.length_sum l)
        go_wp2_with fail
        refine (stsum_any _ w.heap.size l St6.out TabR.out h2 (by have := Hn.out; omega)).mono ?_
        rintro e w3 ⟨rfl, b3⟩
        have B3 := hid b3
        have Z3 := hid b3.size
        clear b3
        go_wp2_with fail
        refine (sum_len l k Hn.out.symm a cap _ (Old w) ((Hb.out.below Bb.out (fun b hb _ => hb)).below B3.out (fun b hb _ => hb)) (TabR.out.below (by have := Lt.out; omega) B3.out) (by have := Lt.out; have := Z3.out; omega) (by omega)).mono ?_
        rintro e w4 ⟨rfl, b4⟩
        have B4 : Hid (Below w.heap.size w w4) := (Bb.out.trans (B3.out.mono Bb.out.size)).trans (b4.mono (by have := Bb.out.size; have := Z3.out; omega))
        clear b4
        go_wp2_with fail
        refine (works6_any _ (Htab.out.below h2 B4.out) (by have := B4.out.size; omega)).mono ?_
        rintro e w5 ⟨rfl, b5⟩
        have B5 := hid b5
        clear b5
        go_wp2
        go_ret
        exact ⟨rfl, B4.out.trans (B5.out.mono B4.out.size)⟩

theorem paramsAre : Tryd.f6.params = #[22] := by kernel_rfl

/-- WHAT THE WALK GIVES, FOR EVERY ARGUMENT AND EVERY WORLD THAT HOLDS THE TABLES. -/
theorem contract (H : Type) (enc : TypeId × Value → H) (W : World) (base : Nat) (args : Array Value) (ds gs : List (DataW H)) (before : List MemPlace)
    (hval : ∀ (j : Nat) t v, Tryd.f6.params[j]? = some t → args[j]? = some v → Value.okWide Tryd.prog W .any base t v)
    (hW : DataW.Whole enc Tryd.prog Tryd.f6.params.toList Rows.shaBytesSpec.vars false W args.toList ds gs before) (hL : laidMetH Tryd.prog Rows.shaBytesRow.laid W) :
    Calls Tryd.prog 6 args W fun e W' => ∃ v, e = .returned v ∧ Rows.shaBytesSpec.post enc Tryd.prog Tryd.f6 false true false false W args v W' := by
  have hW' := hW
  obtain ⟨p, q, hA0, hV, rfl, hfz, hnd⟩ := hW
  have hA : DataW.TrodAll enc Tryd.prog W 0 (fun _ => true) true Tryd.f6.params.toList args.toList ds p := hA0
  rw [paramsAre] at hA hval
  obtain ⟨v0, vs0, d0, ds0, p0, q0, hargs, rfl, rfl, h0, r0⟩ := trodAll_cons hA
  obtain ⟨rfl, rfl, rfl⟩ := trodAll_nil r0
  obtain rfl : args = #[v0] := by cases args; simp_all
  obtain ⟨rfl, rfl⟩ := trodVars_none hV
  clear hA0
  obtain ⟨b0, n0, c0, rfl⟩ := okWide_slice Tryd.underlying22 (hval 0 22 v0 rfl rfl)
  have k0 := h0
  have lt0 : ∀ x ∈ p0, x.block < W.heap.size := by obtain ⟨m, hm⟩ := k0; exact DataW.trod_lt m _ _ _ hm
  obtain ⟨a0, cap0, l0, e0, w0⟩ := open_bytes h0 cells_slice
  injection e0 with ea0 en0 ec0
  subst ea0 en0 ec0
  simp only [List.append_nil] at hW'
  refine (walk W (tabs_of_laid hL) l0 b0 c0 w0).mono fun e W' ⟨he, bel⟩ => ?_
  subst he
  exact ⟨_, rfl, _, _, _, [], _, [], hW', trodAll_mk1 (shut_bool Tryd.underlying4 _), (trodAll_cons_mk (Below.trod laidOut (by kernel_rfl) (of_decide_eq_true (by kernel_rfl)) k0 bel lt0) trodAll_mk0), rfl, bel.frame _, fun h => by cases h⟩

/-- A WORLD FOR THE WITNESS: the settled one, the tables holding what their initialisers lay. -/
noncomputable def laidWorld (os : Os) : World :=
  { World.holding Tryd.prog os ⟨#[], #[], []⟩ with heap := ((World.holding Tryd.prog os ⟨#[], #[], []⟩).heap.modify 0 (layCells (wv Sha.hTab).toArray)).modify 1 (layCells (wv Sha.kTab).toArray) }
theorem laid_met (os : Os) : laidMet Tryd.prog Rows.shaBytesRow.laid ((laidWorld os).forCall (fun _ _ => 0) ⟨#[], #[.slice none 0 0], []⟩).memory :=
  laidMet_of_run' 8 (by kernel_rfl) (by kernel_rfl)
theorem reads (os : Os) {H : Type} (enc : TypeId × Value → H) : ∃ places, DataW.whole enc Tryd.prog ((laidWorld os).forCall (fun _ _ => 0) ⟨#[], #[.slice none 0 0], []⟩).memory Tryd.f6.params.toList Rows.shaBytesSpec.vars false (#[.slice none 0 0] : Array Value).toList 8 = some ([.nil], [], places) :=
  ⟨[], by kernel_rfl⟩

set_option maxRecDepth 100000 in
theorem lifted (os : Os) (started : os.Started) (H : Type) (enc : TypeId × Value → H) (F : Stop.Interp) :
    ReturnsInHanded {} Tryd.checked os 6 .any ((OpenSpec.ofChange Rows.shaBytesSpec).preRow enc Tryd.prog Tryd.f6 Rows.shaBytesRow.domain false Rows.shaBytesRow.laid) (((OpenSpec.ofChange Rows.shaBytesSpec).at F).post enc Tryd.prog Tryd.f6 false true false false) := by
  obtain ⟨places, hx⟩ := reads os enc
  refine returnsInHanded_of_row (C := Tryd.checked) (s := OpenSpec.ofChange Rows.shaBytesSpec) own started (by kernel_rfl) Tryd.func6
    (witness_row_at (enc := enc) (C := Tryd.checked) false (laidWorld os) #[.slice none 0 0] rfl (by kernel_rfl) (by kernel_rfl) (by kernel_rfl)
      (OpenSpec.preRow_of_cond 8 hx (by kernel_rfl) (fun k hk => by cases hk) (by kernel_rfl) (laid_met os))) ?_
  intro W base args ds gs before hval hW _ _ _ hL _ _
  exact contract H enc W base args ds gs before hval hW hL

theorem said : Rows.ShaBytesSaid :=
  OpenClaim.holds_of_cond 6 Tryd.f6 rfl rfl rfl rfl rfl rfl rfl ⟨rfl, rfl, rfl, rfl, rfl⟩ rfl rfl rfl rfl rfl (by kernel_rfl) Tryd.func6 (by kernel_rfl)
    (of_decide_eq_true (by kernel_rfl)) (by unfold Func.isWrapper; first | (rw [if_pos (by decide +kernel)]; kernel_rfl) | (rw [if_neg (by decide +kernel)]; exact ⟨rfl, rfl⟩))
    (fun os started H enc _ F => by rw [OpenClaim.pre_eq_preRow]; exact lifted os started H enc F)

theorem plain (f : FuncId) (fn : Func) (hf : Tryd.pinned.checked.prog.funcNamed "fairlead/fairleadlaw06.ShaBytes" = some f) (hfn : Tryd.pinned.checked.prog.funcs[f]? = some fn) :
    false = Tryd.pinned.checked.prog.looks [] ∧ ∀ (j : Nat) t, fn.params[j]? = some t → Tryd.pinned.checked.prog.wantsStandIn t = false := by
  obtain rfl : f = 6 := Option.some.inj ((show Tryd.prog.funcNamed "fairlead/fairleadlaw06.ShaBytes" = some 6 by kernel_rfl).symm.trans hf) |>.symm
  obtain rfl : fn = Tryd.f6 := (Option.some.inj (Tryd.func6.symm.trans hfn)).symm
  refine ⟨by kernel_rfl, fun j t ht => ?_⟩
  rw [paramsAre] at ht
  obtain rfl : t = 22 := by have := Array.mem_of_getElem? ht; simpa using this
  exact (show Tryd.prog.wantsStandIn 22 = false by kernel_rfl)

/-- ████ THE CARD ████ -/
theorem card : Rows.ShaBytesCardSaid :=
  Claim7.holds_tied_plain_at .later [] _ _ _ _ said (fun _ h => by cases h) (by kernel_rfl) (fun _ h => by cases h) shaBytes_row_tie rfl ⟨rfl, rfl⟩ (by kernel_rfl) rfl plain (by kernel_rfl)
#print axioms card
end Go.Proofs.YtadpcefdkifagaaDoor.shaBytesDone
