/- ShaZero: for every input the law returns true and the input reads as it did. Conditions: the row's own (the tables are laid as the program's text lays them). -/
import Derived.Test.YtadpcefdkifagaaDoorCopy
namespace Go.Proofs.YtadpcefdkifagaaDoor.shaZeroDone
open Go.ChangeShapes Go.WideShapes Go.ChangeAt Go.RowKit
open Sha (W)

theorem flat_next (ls : List (List UInt8)) (k : Nat) (h : k < ls.length) : (ls.take k).flatten ++ ls.getD k [] = (ls.take (k + 1)).flatten := by
  rw [List.take_succ_eq_append_getElem h, List.flatten_append]
  simp [List.getD_eq_getElem?_getD, List.getElem?_eq_getElem h]
theorem flat_len (ls : List (List UInt8)) (h : ∀ k, (ls.getD k []).length ≤ 1024) (k : Nat) (hk : k ≤ ls.length) : ((ls.take k).flatten).length ≤ 1024 * k := by
  induction k with
  | zero => simp
  | succ k ih =>
    have := h k
    rw [← flat_next ls k (by omega), List.length_append]
    have := ih (by omega)
    omega

set_option maxRecDepth 100000 in
set_option maxHeartbeats 2000000 in
theorem walk (w : World) (htab : Tabs w) (ls : List (List UInt8)) (a : Option Addr) (cap : Nat) (hb : RowsAt w (Old w) a cap ls) :
    Calls Tryd.prog 8 #[.slice a ls.length cap] w fun e w' => e = .returned (.bool true) ∧ Below w.heap.size w w' := by
  have h2 := size_of_tabs htab
  have Htab := hid htab
  have Hb := hid hb
  have hcap : ls.length ≤ cap ∧ cap ≤ 9223372036854775807 := by have h1 := hb.1; have h2 := hb.2.1; unfold maxLen at h2; omega
  clear hb htab
  cases hl : longB ls
  · obtain ⟨h50, hk1024⟩ := longB_false hl
    have Hl := hid hl
    have H1024 := hid hk1024
    clear hl hk1024
    obtain ⟨n, hn⟩ : ∃ n, n = ls.length := ⟨_, rfl⟩
    have Hn := hid hn
    have Hlong : Hid (∀ w1, RowsAt w1 (Old w) a cap ls → Calls Tryd.prog 20 #[.slice a n cap] w1 fun e w' => e = .returned (.bool false) ∧ w1 = w') := by intro w1 h1; rw [hn, ← Hl.out]; exact long_any _ _ ls a cap h1
    rw [← hn] at hcap h50 ⊢
    clear hn
    go_enter Tryd.func8, Tryd.ntmps8
    go_wp2_with fail
    refine (Hlong.out _ Hb.out).mono ?_
    rintro e w1 ⟨rfl, rfl⟩
    have hz := zero_state
    have z0 := HasRow.new w zeros 42
    have Z0 := hid z0
    clear z0
    go_wp2_with fail
    refine (new_any _).mono ?_
    rintro e w1 ⟨rfl, st1, b1, z1⟩
    have St1 : Hid (IsState w1 (w.heap.size + 1) []) := hid (by simpa using st1)
    have B1 : Hid (Below (w.heap.size + 1) (w.alloc (.cells zeros.toArray 42)) w1) := hid (by simpa using b1)
    have Z1 : Hid (w1.heap.size = w.heap.size + 2) := hid (by rw [z1]; simp)
    have S1 : Hid (IsState w1 w.heap.size []) := (isState_zeros Z0.out).below B1.out (by omega)
    have BW1 : Hid (Below w.heap.size w w1) := ((Below.refl _ _).alloc (Nat.le_refl _) _).trans (B1.out.mono (by omega))
    have ne0 := ne32 (Sha.sum []) (Sha.length_sum [])
    clear st1 b1 z1 hz
    go_wp2_with fail
    refine (stsum_any _ w.heap.size [] S1.out (Htab.out.below h2 BW1.out) h2 (by simp)).mono ?_
    rintro e w2 ⟨rfl, b2⟩
    have B2 : Hid (Below (w.heap.size + 2) w1 w2) := hid (by rw [← Z1.out]; exact b2)
    have Z2 := hid B2.out.size
    have BW2 : Hid (Below w.heap.size w w2) := BW1.out.trans (B2.out.mono (by omega))
    clear b2
    go_wp2_with fail
    refine (sum_len [] 0 rfl none 0 _ (Old w) (Bytes.nil _ _ _ _ (Nat.zero_le _)) (Htab.out.below h2 BW2.out) (by have := BW2.out.size; omega) (by omega)).mono ?_
    rintro e w3 ⟨rfl, b3⟩
    have B3 : Hid (Below (w.heap.size + 2) w2 w3) := hid (b3.mono (by have := Z1.out; have := Z2.out; omega))
    have BW3 : Hid (Below w.heap.size w w3) := BW2.out.trans (B3.out.mono (by omega))
    clear b3
    go_wp2_with fail
    refine (stsum_any _ (w.heap.size + 1) [] ((St1.out.below B2.out (by omega)).below B3.out (by omega)) (Htab.out.below h2 BW3.out) (by omega) (by simp)).mono ?_
    rintro e w4 ⟨rfl, b4⟩
    have B4 : Hid (Below (w.heap.size + 2) w3 w4) := hid (b4.mono (by have := Z1.out; have := Z2.out; have := B3.out.size; omega))
    have BW4 : Hid (Below w.heap.size w w4) := BW3.out.trans (B4.out.mono (by omega))
    clear b4
    go_wp2_with fail
    refine (sum_len [] 0 rfl none 0 _ (Old w) (Bytes.nil _ _ _ _ (Nat.zero_le _)) (Htab.out.below h2 BW4.out) (by have := BW4.out.size; omega) (by omega)).mono ?_
    rintro e w5 ⟨rfl, b5⟩
    have B5 : Hid (Below (w.heap.size + 2) w1 w5) := ((B2.out.trans B3.out).trans B4.out).trans (b5.mono (by have := Z1.out; have := Z2.out; have := B3.out.size; have := B4.out.size; omega))
    have BW5 : Hid (Below w.heap.size w w5) := BW1.out.trans (B5.out.mono (by omega))
    clear b5
    go_wp2_with fail
    clear ne0
    go_loopw [5] (fun i wr => ∃ k : Nat, k ≤ n ∧ i = .int .i64 (k : Int) ∧ IsState wr w.heap.size (ls.take k).flatten ∧ IsState wr (w.heap.size + 1) (ls.take k).flatten ∧ Below w.heap.size w wr) (fun i _ => n - (intOf i).toNat)
    case atStart => exact ⟨0, by omega, rfl, by simpa using S1.out.below B5.out (by omega), by simpa using St1.out.below B5.out (by omega), BW5.out⟩
    case round =>
      obtain ⟨k, hk, rfl, st, tt, bb⟩ := hrel
      have St := hid st
      have Tt := hid tt
      have Bb := hid bb
      have TabR : Hid (Tabs wr) := Htab.out.below h2 bb
      have LtT := hid tt.lt
      clear st tt bb
      by_cases hkn : k < n
      · obtain ⟨b, off, ha, _, hlt, hc⟩ := Hb.out.2.2 (by intro e; have := Hn.out; rw [e] at this; simp at this; omega)
        subst ha
        obtain ⟨ai, ci, hck, hbi⟩ := hc k (by have := Hn.out; omega)
        obtain ⟨x, hx⟩ : ∃ x, x = ls.getD k [] := ⟨_, rfl⟩
        rw [← hx] at hck hbi
        obtain ⟨m, hm⟩ : ∃ m, m = x.length := ⟨_, rfl⟩
        rw [← hm] at hck
        have hm1024 : m ≤ 1024 := by rw [hm, hx]; exact H1024.out k
        have fl : Hid (((ls.take k).flatten).length ≤ 1024 * k) := flat_len ls H1024.out k (by have := Hn.out; omega)
        have fn : Hid ((ls.take k).flatten ++ x = (ls.take (k + 1)).flatten) := by rw [hx]; exact flat_next ls k (by have := Hn.out; omega)
        have Hx : Hid (∀ w', Below w.heap.size w w' → Bytes w' (fun b => w.heap.size ≤ b) ai ci x) := fun w' h => hbi.below h (fun b hb hn => by unfold Old at hn; omega)
        have Hm := hid hm
        have cr : wr.cell? ⟨b, off + k, none⟩ = some (.slice ai m ci) := (Bb.out.cell (by exact hlt)).trans hck
        have hlt2 := hid hlt
        have Hck := hid hck
        clear hc hck hbi hx hm hlt
        go_wp2_with fail
        refine (write_len w.heap.size _ x m Hm.out.symm _ _ _ St.out ((Hx.out _ Bb.out).other (fun b _ h e => h (by omega))) TabR.out h2 (by have := fl.out; omega)).mono ?_
        rintro e w2 ⟨rfl, st2, g2⟩
        have St2 := hid st2
        have B2 : Hid (Below w.heap.size w w2) := Bb.out.trans (below_of_grownBy g2 Bb.out.size (by intro k hk; injection hk with hk; omega))
        have Tt2 : Hid (IsState w2 (w.heap.size + 1) (ls.take k).flatten) := Tt.out.grown g2 (by intro e; injection e with e; omega)
        have c2 : w2.cell? ⟨b, off + k, none⟩ = some (.slice ai m ci) := (B2.out.cell (by exact hlt2.out)).trans Hck.out
        clear st2 g2
        go_wp2_with fail
        refine (write_len (w.heap.size + 1) _ x m Hm.out.symm _ _ _ Tt2.out ((Hx.out _ B2.out).other (fun b _ h e => h (by omega))) (Htab.out.below h2 B2.out) (by omega) (by have := fl.out; omega)).mono ?_
        rintro e w3 ⟨rfl, st3, g3⟩
        have B3 : Hid (Below w.heap.size w w3) := B2.out.trans (below_of_grownBy g3 B2.out.size (by intro k hk; injection hk with hk; omega))
        have St3 : Hid (IsState w3 w.heap.size (ls.take (k + 1)).flatten) := by rw [← fn.out]; exact St2.out.grown g3 (by intro e; injection e with e; omega)
        have Tt3 : Hid (IsState w3 (w.heap.size + 1) (ls.take (k + 1)).flatten) := by rw [← fn.out]; exact st3
        have f2 : Hid (((ls.take (k + 1)).flatten).length ≤ 1024 * (k + 1)) := flat_len ls H1024.out (k + 1) (by have := Hn.out; omega)
        clear st3 g3 cr c2
        obtain ⟨L, hL⟩ : ∃ L, L = (ls.take (k + 1)).flatten := ⟨_, rfl⟩
        rw [← hL] at St3 Tt3 f2
        have HL := hid hL
        have ne := ne32 (Sha.sum L) (Sha.length_sum L)
        clear hL
        go_wp2_with fail
        refine (stsum_any _ w.heap.size L St3.out (Htab.out.below h2 B3.out) h2 (by have := f2.out; omega)).mono ?_
        rintro e w4 ⟨rfl, b4⟩
        have B4 : Hid (Below w.heap.size w w4) := B3.out.trans (b4.mono B3.out.size)
        have Tt4 : Hid (IsState w4 (w.heap.size + 1) L) := Tt3.out.below b4 Tt3.out.lt
        have St4 : Hid (IsState w4 w.heap.size L) := St3.out.below b4 St3.out.lt
        clear b4
        go_wp2_with fail
        refine (stsum_any _ (w.heap.size + 1) L Tt4.out (Htab.out.below h2 B4.out) (by omega) (by have := f2.out; omega)).mono ?_
        rintro e w5 ⟨rfl, b5⟩
        have B5 : Hid (Below w.heap.size w w5) := B4.out.trans (b5.mono B4.out.size)
        have Tt5 : Hid (IsState w5 (w.heap.size + 1) L) := Tt4.out.below b5 Tt4.out.lt
        have St5 : Hid (IsState w5 w.heap.size L) := St4.out.below b5 St4.out.lt
        clear b5
        go_wp2
        go_roundw
        case rel => exact ⟨k + 1, by omega, by go_num, by rw [← HL.out]; exact St5.out, by rw [← HL.out]; exact Tt5.out, B5.out⟩
        case measure => simp [intOf]; omega
      · go_wp2_with fail
        refine (works6_any _ TabR.out (by have := Bb.out.size; omega)).mono ?_
        rintro e w6 ⟨rfl, b6⟩
        have B6 := hid b6
        clear b6
        go_wp2
        go_ret
        exact ⟨rfl, Bb.out.trans (B6.out.mono Bb.out.size)⟩
  · have Hl := hid hl
    clear hl
    go_enter Tryd.func8, Tryd.ntmps8
    go_wp2_with fail
    refine (long_any _ _ ls a cap Hb.out).mono ?_
    rintro e w1 ⟨rfl, rfl⟩
    rw [Hl.out]
    go_wp2_with fail
    refine (works6_any _ Htab.out h2).mono ?_
    rintro e w1 ⟨rfl, b1⟩
    go_wp2
    go_ret
    exact ⟨rfl, b1⟩

theorem paramsAre : Tryd.f8.params = #[29] := by kernel_rfl

/-- WHAT THE WALK GIVES, FOR EVERY ARGUMENT AND EVERY WORLD THAT HOLDS THE TABLES. -/
theorem contract (H : Type) (enc : TypeId × Value → H) (W : World) (base : Nat) (args : Array Value) (ds gs : List (DataW H)) (before : List MemPlace)
    (hval : ∀ (j : Nat) t v, Tryd.f8.params[j]? = some t → args[j]? = some v → Value.okWide Tryd.prog W .any base t v)
    (hW : DataW.Whole enc Tryd.prog Tryd.f8.params.toList Rows.shaZeroSpec.vars false W args.toList ds gs before) (hL : laidMetH Tryd.prog Rows.shaZeroRow.laid W) :
    Calls Tryd.prog 8 args W fun e W' => ∃ v, e = .returned v ∧ Rows.shaZeroSpec.post enc Tryd.prog Tryd.f8 false true false false W args v W' := by
  have hW' := hW
  obtain ⟨p, q, hA0, hV, rfl, hfz, hnd⟩ := hW
  have hA : DataW.TrodAll enc Tryd.prog W 0 (fun _ => true) true Tryd.f8.params.toList args.toList ds p := hA0
  rw [paramsAre] at hA hval
  obtain ⟨v0, vs0, d0, ds0, p0, q0, hargs, rfl, rfl, h0, r0⟩ := trodAll_cons hA
  obtain ⟨rfl, rfl, rfl⟩ := trodAll_nil r0
  obtain rfl : args = #[v0] := by cases args; simp_all
  obtain ⟨rfl, rfl⟩ := trodVars_none hV
  clear hA0
  obtain ⟨b0, n0, c0, rfl⟩ := okWide_slice Tryd.underlying29 (hval 0 29 v0 rfl rfl)
  have k0 := h0
  have lt0 : ∀ x ∈ p0, x.block < W.heap.size := by obtain ⟨m, hm⟩ := k0; exact DataW.trod_lt m _ _ _ hm
  obtain ⟨a0, cap0, l0, e0, w0⟩ := open_rows h0 cells_slice
  injection e0 with ea0 en0 ec0
  subst ea0 en0 ec0
  simp only [List.append_nil] at hW'
  refine (walk W (tabs_of_laid hL) l0 b0 c0 w0).mono fun e W' ⟨he, bel⟩ => ?_
  subst he
  exact ⟨_, rfl, _, _, _, [], _, [], hW', trodAll_mk1 (shut_bool Tryd.underlying4 _), (trodAll_cons_mk (Below.trod laidOut (by kernel_rfl) (of_decide_eq_true (by kernel_rfl)) k0 bel lt0) trodAll_mk0), rfl, bel.frame _, fun h => by cases h⟩

/-- A WORLD FOR THE WITNESS: the settled one, the tables holding what their initialisers lay. -/
noncomputable def laidWorld (os : Os) : World :=
  { World.holding Tryd.prog os ⟨#[], #[], []⟩ with heap := ((World.holding Tryd.prog os ⟨#[], #[], []⟩).heap.modify 0 (layCells (wv Sha.hTab).toArray)).modify 1 (layCells (wv Sha.kTab).toArray) }
theorem laid_met (os : Os) : laidMet Tryd.prog Rows.shaZeroRow.laid ((laidWorld os).forCall (fun _ _ => 0) ⟨#[], #[.slice none 0 0], []⟩).memory :=
  laidMet_of_run' 8 (by kernel_rfl) (by kernel_rfl)
theorem reads (os : Os) {H : Type} (enc : TypeId × Value → H) : ∃ places, DataW.whole enc Tryd.prog ((laidWorld os).forCall (fun _ _ => 0) ⟨#[], #[.slice none 0 0], []⟩).memory Tryd.f8.params.toList Rows.shaZeroSpec.vars false (#[.slice none 0 0] : Array Value).toList 8 = some ([.nil], [], places) :=
  ⟨[], by kernel_rfl⟩

set_option maxRecDepth 100000 in
theorem lifted (os : Os) (started : os.Started) (H : Type) (enc : TypeId × Value → H) (F : Stop.Interp) :
    ReturnsInHanded {} Tryd.checked os 8 .any ((OpenSpec.ofChange Rows.shaZeroSpec).preRow enc Tryd.prog Tryd.f8 Rows.shaZeroRow.domain false Rows.shaZeroRow.laid) (((OpenSpec.ofChange Rows.shaZeroSpec).at F).post enc Tryd.prog Tryd.f8 false true false false) := by
  obtain ⟨places, hx⟩ := reads os enc
  refine returnsInHanded_of_row (C := Tryd.checked) (s := OpenSpec.ofChange Rows.shaZeroSpec) own started (by kernel_rfl) Tryd.func8
    (witness_row_at (enc := enc) (C := Tryd.checked) false (laidWorld os) #[.slice none 0 0] rfl (by kernel_rfl) (by kernel_rfl) (by kernel_rfl)
      (OpenSpec.preRow_of_cond 8 hx (by kernel_rfl) (fun k hk => by cases hk) (by kernel_rfl) (laid_met os))) ?_
  intro W base args ds gs before hval hW _ _ _ hL _ _
  exact contract H enc W base args ds gs before hval hW hL

theorem said : Rows.ShaZeroSaid :=
  OpenClaim.holds_of_cond 8 Tryd.f8 rfl rfl rfl rfl rfl rfl rfl ⟨rfl, rfl, rfl, rfl, rfl⟩ rfl rfl rfl rfl rfl (by kernel_rfl) Tryd.func8 (by kernel_rfl)
    (of_decide_eq_true (by kernel_rfl)) (by unfold Func.isWrapper; first | (rw [if_pos (by decide +kernel)]; kernel_rfl) | (rw [if_neg (by decide +kernel)]; exact ⟨rfl, rfl⟩))
    (fun os started H enc _ F => by rw [OpenClaim.pre_eq_preRow]; exact lifted os started H enc F)

theorem plain (f : FuncId) (fn : Func) (hf : Tryd.pinned.checked.prog.funcNamed "fairlead/fairleadlaw06.ShaZero" = some f) (hfn : Tryd.pinned.checked.prog.funcs[f]? = some fn) :
    false = Tryd.pinned.checked.prog.looks [] ∧ ∀ (j : Nat) t, fn.params[j]? = some t → Tryd.pinned.checked.prog.wantsStandIn t = false := by
  obtain rfl : f = 8 := Option.some.inj ((show Tryd.prog.funcNamed "fairlead/fairleadlaw06.ShaZero" = some 8 by kernel_rfl).symm.trans hf) |>.symm
  obtain rfl : fn = Tryd.f8 := (Option.some.inj (Tryd.func8.symm.trans hfn)).symm
  refine ⟨by kernel_rfl, fun j t ht => ?_⟩
  rw [paramsAre] at ht
  obtain rfl : t = 29 := by have := Array.mem_of_getElem? ht; simpa using this
  exact (show Tryd.prog.wantsStandIn 29 = false by kernel_rfl)

/-- ████ THE CARD ████ -/
theorem card : Rows.ShaZeroCardSaid :=
  Claim7.holds_tied_plain_at .later [] _ _ _ _ said (fun _ h => by cases h) (by kernel_rfl) (fun _ h => by cases h) shaZero_row_tie rfl ⟨rfl, rfl⟩ (by kernel_rfl) rfl plain (by kernel_rfl)
#print axioms card
end Go.Proofs.YtadpcefdkifagaaDoor.shaZeroDone
