/- ShaStates: for every input the law returns true and the input reads as it did. Conditions: the row's own (the tables are laid as the program's text lays them). -/
import Derived.Test.YtadpcefdkifagaaDoorRef4
namespace Go.Proofs.YtadpcefdkifagaaDoor.shaStatesDone
open Go.ChangeShapes Go.WideShapes Go.ChangeAt Go.RowKit
open Sha (W)

/-- the first k pieces, joined -/
def part (ls : List (List UInt8)) : Nat → List UInt8
  | 0 => []
  | k + 1 => part ls k ++ ls.getD k []
theorem part_len (ls : List (List UInt8)) (h : ∀ k, (ls.getD k []).length ≤ 1024) (k : Nat) : (part ls k).length ≤ 1024 * k := by
  induction k with
  | zero => simp [part]
  | succ k ih =>
    rw [part, List.length_append]
    have := h k
    omega

set_option maxRecDepth 100000 in
set_option maxHeartbeats 2000000 in
theorem walk (w : World) (htab : Tabs w) (ls : List (List UInt8)) (a : Option Addr) (cap : Nat) (hb : RowsAt w (Old w) a cap ls) :
    Calls Tryd.prog 4 #[.slice a ls.length cap] w fun e w' => e = .returned (.bool true) ∧ Below w.heap.size w w' := by
  have h2 := size_of_tabs htab
  have Htab := hid htab
  have Hb := hid hb
  have hcap : ls.length ≤ cap ∧ cap ≤ 9223372036854775807 := by have h1 := hb.1; have h2 := hb.2.1; unfold maxLen at h2; omega
  clear hb htab
  obtain ⟨n, hn⟩ : ∃ n, n = ls.length := ⟨_, rfl⟩
  have Hn := hid hn
  have Hlong : Hid (∀ w1, RowsAt w1 (Old w) a cap ls → Calls Tryd.prog 20 #[.slice a n cap] w1 fun e w' => e = .returned (.bool (longB ls)) ∧ w1 = w') := by intro w1 h1; rw [hn]; exact long_any _ _ ls a cap h1
  rw [← hn] at hcap ⊢
  clear hn
  cases hl : longB ls
  case true =>
    have Hl := hid hl
    clear hl
    go_enter Tryd.func4, Tryd.ntmps4
    go_wp2_with fail
    refine (Hlong.out _ Hb.out).mono ?_
    rintro e w1 ⟨rfl, rfl⟩
    rw [Hl.out]
    go_wp2_with fail
    refine (works6_any _ Htab.out h2).mono ?_
    rintro e w1 ⟨rfl, b1⟩
    go_wp2
    go_ret
    exact ⟨rfl, b1⟩
  case false =>
    obtain ⟨h50, hk1024⟩ := longB_false hl
    rw [← Hn.out] at h50
    have Hl := hid hl
    have H1024 := hid hk1024
    obtain ⟨i0, hi, hz0, hz1, hz2⟩ := info_parts info_u8
    have Hi := hid hi
    have Hz0 := hid hz0
    have Hz1 := hid hz1
    have Hz2 := hid hz2
    clear hl hk1024 hi hz0 hz1 hz2
    go_enter Tryd.func4, Tryd.ntmps4
    go_wp2_with fail
    refine (Hlong.out _ Hb.out).mono ?_
    rintro e w1 ⟨rfl, rfl⟩
    rw [Hl.out]
    go_wp2_with fail
    refine (new_any _).mono ?_
    rintro e w1 ⟨rfl, st1, b1, z1⟩
    have St1 := hid st1
    have B1 := hid b1
    have Z1 := hid z1
    clear st1 b1 z1
    go_wp2_with fail
    go_loopw [4, 5] (fun va i wr => ∃ (k N : Nat) (aa : Option Addr) (ca : Nat), k ≤ n ∧ i = .int .i64 (k : Int) ∧ N = (part ls k).length ∧ va = .slice aa N ca ∧ IsState wr w.heap.size (part ls k) ∧
        wr.ownsRow (w.heap.size + 1) 5 1 (.slice aa N ca) N (bv (part ls k)) ∧ Below w.heap.size w wr) (fun _ i _ => n - (intOf i).toNat)
    case atStart => exact ⟨0, 0, none, 0, by omega, rfl, rfl, rfl, St1.out, World.ownsRow_nil _ _ _ _, B1.out⟩
    case round =>
      obtain ⟨k, N, aa, ca, hk, rfl, hN, rfl, st, oa, bb⟩ := hrel
      have St := hid st
      have Oa := hid oa
      have Bb := hid bb
      have TabR : Hid (Tabs wr) := Htab.out.below h2 bb
      have LtT := hid st.lt
      have HN := hid hN
      have hN2 : N ≤ 1024 * k := by rw [hN]; exact part_len ls H1024.out k
      clear st oa bb hN
      by_cases hkn : k < n
      · obtain ⟨b, off, ha, _, hlt, hc⟩ := Hb.out.2.2 (by intro e; have := Hn.out; rw [e] at this; simp at this; omega)
        subst ha
        obtain ⟨ai, ci, hck, hbi⟩ := hc k (by have := Hn.out; omega)
        obtain ⟨x, hx⟩ : ∃ x, x = ls.getD k [] := ⟨_, rfl⟩
        rw [← hx] at hck hbi
        obtain ⟨m, hm⟩ : ∃ m, m = x.length := ⟨_, rfl⟩
        rw [← hm] at hck
        have hm1024 : m ≤ 1024 := by rw [hm, hx]; exact H1024.out k
        have Hx : Hid (∀ w', Below w.heap.size w w' → Bytes w' (fun b => w.heap.size ≤ b) ai ci x) := fun w' h => hbi.below h (fun b hb hn => by unfold Old at hn; omega)
        have Hm := hid hm
        have HX := hid hx
        have cr : wr.cell? ⟨b, off + k, none⟩ = some (.slice ai m ci) := (Bb.out.cell (by exact hlt)).trans hck
        have Hlt := hid hlt
        have Hck := hid hck
        obtain ⟨J, hJ⟩ : ∃ J, J = part ls (k + 1) := ⟨_, rfl⟩
        have hJ1 : part ls k ++ x = J := by rw [hJ, hx]; rfl
        obtain ⟨N1, hN1⟩ : ∃ N1, N1 = N + m := ⟨_, rfl⟩
        have hJl : J.length = N1 := by rw [← hJ1, List.length_append, ← HN.out, ← hm, hN1]
        have hN12 : N1 ≤ 1024 * 51 := by omega
        have HJ := hid hJ
        have HJ1 := hid hJ1
        have HJl := hid hJl
        have HN1 := hid hN1
        have eqJ := ne32 (Sha.sum J) (Sha.length_sum J)
        clear hc hck hbi hx hm hlt hJ hJ1 hJl hN1
        go_wp2_with fail
        refine (write_len w.heap.size _ x m Hm.out.symm _ _ _ St.out ((Hx.out _ Bb.out).other (fun b _ h e => h (by omega))) TabR.out (by omega) (by have := HN.out; omega)).mono ?_
        rintro e w2 ⟨rfl, st2, g2⟩
        rw [HJ1.out] at st2
        have St2 := hid st2
        have Bb2 : Hid (Below w.heap.size w w2) := Bb.out.trans (below_of_grownBy g2 Bb.out.size (by intro k hk; injection hk with hk; omega))
        have Mi2 := hid (own_keep Oa.out g2 (by omega))
        have Lt2 := hid g2.size
        have c2 : w2.cell? ⟨b, off + k, none⟩ = some (.slice ai m ci) := (Bb2.out.cell (by exact Hlt.out)).trans Hck.out
        have hnews : Hid (0 < m → ∃ b off, ai = some ⟨b, off, none⟩ ∧ ∀ j, j < m → w2.cell? ⟨b, off + j, none⟩ = some (.int .u8 (bt8 (x.getD j 0)))) := fun h0 => by
          obtain ⟨b, off, hab, _, _, hc⟩ := (Hx.out _ Bb2.out).2.2 (by intro e; have := Hm.out; rw [e] at this; simp at this; omega)
          exact ⟨b, off, hab, fun j hj => hc j (by have := Hm.out; omega)⟩
        clear st2 g2 cr
        go_wp2_with (first
          | (go_at_call 23; fail)
          | (refine wpList_append_any rfl (.tmp 24) (.tmp 28) 22 rfl (w.heap.size + 1) 5 i0 Tryd.underlying22 Hi.out Hz0.out Hz1.out Hz2.out _ _ _ rfl Mi2.out _ m ci x rfl Hm.out.symm hnews.out (by omega) (by have := LtT.out; have := Lt2.out; omega) ?_; intro v' w4 hown4 g4 hv4; rw [HJ1.out, ← HN1.out] at hown4; have Hown4 := hid hown4; have G4 := hid g4; clear hown4 g4 hv4))
        obtain ⟨a4, c4, hv4, hb4, _⟩ := own_open Hown4.out (fun _ => False) (fun _ _ h => h)
        subst hv4
        have Hb4 := hid hb4
        have St4 : Hid (IsState w4 w.heap.size J) := St2.out.grown G4.out (own_other Mi2.out (by omega))
        have BW4 : Hid (Below w.heap.size w w4) := own_below_of Mi2.out G4.out Bb2.out (by omega) (by have := LtT.out; have := Lt2.out; omega)
        clear hb4
        refine (stsum_any _ w.heap.size J St4.out (Htab.out.below h2 BW4.out) h2 (by have := HJl.out; omega)).mono ?_
        rintro e w5 ⟨rfl, b5⟩
        have B5 := hid b5
        have Z5 := hid b5.size
        have BW5 : Hid (Below w.heap.size w w5) := BW4.out.trans (b5.mono BW4.out.size)
        clear b5
        go_wp2_with fail
        refine (refsum_any w5 (fun _ => False) J N1 HJl.out _ _ (Hb4.out.below B5.out (fun b hb _ => hb)) (by omega)).mono ?_
        rintro e w6 ⟨rfl, b6⟩
        have B6 : Hid (Below w4.heap.size w4 w6) := B5.out.trans (b6.mono Z5.out)
        have BW6 : Hid (Below w.heap.size w w6) := BW5.out.trans (b6.mono BW5.out.size)
        clear b6
        go_wp2_with fail
        go_roundw
        case rel =>
          refine ⟨k + 1, N1, _, _, by omega, by go_num, by rw [← HJ.out]; exact HJl.out.symm, rfl, ?_, ?_, BW6.out⟩
          · rw [← HJ.out]; exact St4.out.below B6.out St4.out.lt
          · rw [← HJ.out]; exact own_below Hown4.out B6.out (Nat.le_refl _)
        case measure => simp [intOf]; omega
      · generalize part ls k = J at *
        obtain ⟨aL, cL, hvL, hbL⟩ := bytes_of_owns Oa.out (fun _ => False) (fun _ _ h => h)
        rw [← HN.out] at hvL
        injection hvL with e1 _ e2
        subst e1 e2
        have HbL := hid hbL
        have eqJ := eq32 (Sha.sum J) (Sha.length_sum J)
        clear hbL
        go_wp2_with fail
        refine (stsum_any _ w.heap.size J St.out TabR.out h2 (by have := HN.out; omega)).mono ?_
        rintro e w5 ⟨rfl, b5⟩
        have B5 := hid b5
        have BW5 : Hid (Below w.heap.size w w5) := Bb.out.trans (b5.mono Bb.out.size)
        clear b5
        go_wp2_with fail
        refine (refsum_any w5 (fun _ => False) J N HN.out.symm _ _ (HbL.out.below B5.out (fun b hb _ => hb)) (by omega)).mono ?_
        rintro e w6 ⟨rfl, b6⟩
        have BW6 : Hid (Below w.heap.size w w6) := BW5.out.trans (b6.mono BW5.out.size)
        clear b6
        go_wp2_with fail
        refine (works6_any _ (Htab.out.below h2 BW6.out) (by have := BW6.out.size; omega)).mono ?_
        rintro e w7 ⟨rfl, b7⟩
        have B7 := hid b7
        clear b7
        go_wp2
        go_ret
        exact ⟨rfl, BW6.out.trans (B7.out.mono BW6.out.size)⟩
theorem paramsAre : Tryd.f4.params = #[29] := by kernel_rfl

/-- WHAT THE WALK GIVES, FOR EVERY ARGUMENT AND EVERY WORLD THAT HOLDS THE TABLES. -/
theorem contract (H : Type) (enc : TypeId × Value → H) (W : World) (base : Nat) (args : Array Value) (ds gs : List (DataW H)) (before : List MemPlace)
    (hval : ∀ (j : Nat) t v, Tryd.f4.params[j]? = some t → args[j]? = some v → Value.okWide Tryd.prog W .any base t v)
    (hW : DataW.Whole enc Tryd.prog Tryd.f4.params.toList Rows.shaStatesSpec.vars false W args.toList ds gs before) (hL : laidMetH Tryd.prog Rows.shaStatesRow.laid W) :
    Calls Tryd.prog 4 args W fun e W' => ∃ v, e = .returned v ∧ Rows.shaStatesSpec.post enc Tryd.prog Tryd.f4 false true false false W args v W' := by
  have hW' := hW
  obtain ⟨p, q, hA0, hV, rfl, hfz, hnd⟩ := hW
  have hA : DataW.TrodAll enc Tryd.prog W 0 (fun _ => true) true Tryd.f4.params.toList args.toList ds p := hA0
  rw [paramsAre] at hA hval
  obtain ⟨v0, vs0, d0, ds0, p0, q0, hargs, rfl, rfl, h0, r0⟩ := trodAll_cons hA
  obtain ⟨rfl, rfl, rfl⟩ := trodAll_nil r0
  obtain rfl : args = #[v0] := by cases args; simp_all
  obtain ⟨rfl, rfl⟩ := trodVars_none hV
  clear hA0
  obtain ⟨b0, n0, c0, rfl⟩ := okWide_slice Tryd.underlying29 (hval 0 29 v0 rfl rfl)
  have k0 := h0
  have lt0 : ∀ x ∈ p0, x.block < W.heap.size := by obtain ⟨m, hm⟩ := k0; exact DataW.trod_lt m _ _ _ hm
  obtain ⟨a0, cap0, l0, e0, w0⟩ := open_rows h0 cells_slice
  injection e0 with ea0 en0 ec0
  subst ea0 en0 ec0
  simp only [List.append_nil] at hW'
  refine (walk W (tabs_of_laid hL) l0 b0 c0 w0).mono fun e W' ⟨he, bel⟩ => ?_
  subst he
  exact ⟨_, rfl, _, _, _, [], _, [], hW', trodAll_mk1 (shut_bool Tryd.underlying4 _), (trodAll_cons_mk (Below.trod laidOut (by kernel_rfl) (of_decide_eq_true (by kernel_rfl)) k0 bel lt0) trodAll_mk0), rfl, bel.frame _, fun h => by cases h⟩

/-- A WORLD FOR THE WITNESS: the settled one, the tables holding what their initialisers lay. -/
noncomputable def laidWorld (os : Os) : World :=
  { World.holding Tryd.prog os ⟨#[], #[], []⟩ with heap := ((World.holding Tryd.prog os ⟨#[], #[], []⟩).heap.modify 0 (layCells (wv Sha.hTab).toArray)).modify 1 (layCells (wv Sha.kTab).toArray) }
theorem laid_met (os : Os) : laidMet Tryd.prog Rows.shaStatesRow.laid ((laidWorld os).forCall (fun _ _ => 0) ⟨#[], #[.slice none 0 0], []⟩).memory :=
  laidMet_of_run' 8 (by kernel_rfl) (by kernel_rfl)
theorem reads (os : Os) {H : Type} (enc : TypeId × Value → H) : ∃ places, DataW.whole enc Tryd.prog ((laidWorld os).forCall (fun _ _ => 0) ⟨#[], #[.slice none 0 0], []⟩).memory Tryd.f4.params.toList Rows.shaStatesSpec.vars false (#[.slice none 0 0] : Array Value).toList 8 = some ([.nil], [], places) :=
  ⟨[], by kernel_rfl⟩

set_option maxRecDepth 100000 in
theorem lifted (os : Os) (started : os.Started) (H : Type) (enc : TypeId × Value → H) (F : Stop.Interp) :
    ReturnsInHanded {} Tryd.checked os 4 .any ((OpenSpec.ofChange Rows.shaStatesSpec).preRow enc Tryd.prog Tryd.f4 Rows.shaStatesRow.domain false Rows.shaStatesRow.laid) (((OpenSpec.ofChange Rows.shaStatesSpec).at F).post enc Tryd.prog Tryd.f4 false true false false) := by
  obtain ⟨places, hx⟩ := reads os enc
  refine returnsInHanded_of_row (C := Tryd.checked) (s := OpenSpec.ofChange Rows.shaStatesSpec) own started (by kernel_rfl) Tryd.func4
    (witness_row_at (enc := enc) (C := Tryd.checked) false (laidWorld os) #[.slice none 0 0] rfl (by kernel_rfl) (by kernel_rfl) (by kernel_rfl)
      (OpenSpec.preRow_of_cond 8 hx (by kernel_rfl) (fun k hk => by cases hk) (by kernel_rfl) (laid_met os))) ?_
  intro W base args ds gs before hval hW _ _ _ hL _ _
  exact contract H enc W base args ds gs before hval hW hL

theorem said : Rows.ShaStatesSaid :=
  OpenClaim.holds_of_cond 4 Tryd.f4 rfl rfl rfl rfl rfl rfl rfl ⟨rfl, rfl, rfl, rfl, rfl⟩ rfl rfl rfl rfl rfl (by kernel_rfl) Tryd.func4 (by kernel_rfl)
    (of_decide_eq_true (by kernel_rfl)) (by unfold Func.isWrapper; first | (rw [if_pos (by decide +kernel)]; kernel_rfl) | (rw [if_neg (by decide +kernel)]; exact ⟨rfl, rfl⟩))
    (fun os started H enc _ F => by rw [OpenClaim.pre_eq_preRow]; exact lifted os started H enc F)

theorem plain (f : FuncId) (fn : Func) (hf : Tryd.pinned.checked.prog.funcNamed "fairlead/fairleadlaw06.ShaStates" = some f) (hfn : Tryd.pinned.checked.prog.funcs[f]? = some fn) :
    false = Tryd.pinned.checked.prog.looks [] ∧ ∀ (j : Nat) t, fn.params[j]? = some t → Tryd.pinned.checked.prog.wantsStandIn t = false := by
  obtain rfl : f = 4 := Option.some.inj ((show Tryd.prog.funcNamed "fairlead/fairleadlaw06.ShaStates" = some 4 by kernel_rfl).symm.trans hf) |>.symm
  obtain rfl : fn = Tryd.f4 := (Option.some.inj (Tryd.func4.symm.trans hfn)).symm
  refine ⟨by kernel_rfl, fun j t ht => ?_⟩
  rw [paramsAre] at ht
  obtain rfl : t = 29 := by have := Array.mem_of_getElem? ht; simpa using this
  exact (show Tryd.prog.wantsStandIn 29 = false by kernel_rfl)

/-- ████ THE CARD ████ -/
theorem card : Rows.ShaStatesCardSaid :=
  Claim7.holds_tied_plain_at .later [] _ _ _ _ said (fun _ h => by cases h) (by kernel_rfl) (fun _ h => by cases h) shaStates_row_tie rfl ⟨rfl, rfl⟩ (by kernel_rfl) rfl plain (by kernel_rfl)
#print axioms card
end Go.Proofs.YtadpcefdkifagaaDoor.shaStatesDone
