/- ShaPieces: for every input the law returns true and the inputs read as they did. Conditions: the row's own (the tables are laid as the program's text lays them). -/
import Derived.Test.YtadpcefdkifagaaDoorCopy
import Derived.Test.YtadpcefdkifagaaDoorLaws4
namespace Go.Proofs.YtadpcefdkifagaaDoor.shaPiecesDone
open Go.ChangeShapes Go.WideShapes Go.ChangeAt Go.RowKit
open Sha (W)

theorem own_open {w : World} {base : Nat} {T : TypeId} {v : Value} {n : Nat} {l : List UInt8} (h : w.ownsRow base T 1 v n (bv l)) (no : Nat → Prop) (hno : ∀ b, base ≤ b → ¬ no b) :
    ∃ a cap, v = .slice a n cap ∧ Bytes w no a cap l ∧ (0 < n → ∃ g cur, a = some ⟨g, 0, none⟩ ∧ base ≤ g ∧ HasRow w g cur T ∧ n ≤ cur.length ∧ cur.take n = bv l) := by
  have hl : l.length = n := by have := h.1; simpa using this
  rcases h.2 with ⟨rfl, h0⟩ | ⟨g, cap, cur, rfl, hb, hg, hn, hc, hs, ht⟩
  · obtain rfl : l = [] := List.eq_nil_of_length_eq_zero (by omega)
    subst h0
    exact ⟨none, 0, rfl, Bytes.nil _ _ _ _ (Nat.zero_le _), fun h => absurd h (Nat.lt_irrefl 0)⟩
  · obtain ⟨a, c, hv, hb2⟩ := bytes_of_owns h no hno
    rw [hl] at hv
    injection hv with h1 h2 h3
    subst h1 h3
    refine ⟨_, _, rfl, hb2, fun _ => ⟨g, cur.toList, rfl, hb, hg, by simp; omega, by simpa using ht⟩⟩

set_option maxRecDepth 100000 in
set_option maxHeartbeats 2000000 in
theorem walk (w : World) (htab : Tabs w) (l : List UInt8) (a : Option Addr) (cap : Nat) (hb : Bytes w (Old w) a cap l) (zs : List UInt8) (a2 : Option Addr) (cap2 : Nat) (hb2 : Bytes w (Old w) a2 cap2 zs) :
    Calls Tryd.prog 5 #[.slice a l.length cap, .slice a2 zs.length cap2] w fun e w' => e = .returned (.bool true) ∧ Below w.heap.size w w' := by
  have h2 := size_of_tabs htab
  have Htab := hid htab
  have Hb := hid hb
  have Hb2 := hid hb2
  have hcap : l.length ≤ cap ∧ cap ≤ 9223372036854775807 := by have h1 := hb.1; have h2 := hb.2.1; unfold maxLen at h2; omega
  have hcap2 : zs.length ≤ cap2 ∧ cap2 ≤ 9223372036854775807 := by have h1 := hb2.1; have h2 := hb2.2.1; unfold maxLen at h2; omega
  clear hb hb2 htab
  obtain ⟨n, hn⟩ : ∃ n, n = l.length := ⟨_, rfl⟩
  have Hn := hid hn
  rw [← hn] at hcap ⊢
  obtain ⟨q, hq⟩ : ∃ q, q = zs.length := ⟨_, rfl⟩
  have Hq := hid hq
  rw [← hq] at hcap2 ⊢
  clear hn hq
  by_cases hbad : 4096 < n ∨ 200 < q
  · by_cases hl : 4096 < n
    all_goals
      have hq200 : 4096 < n ∨ 200 < q := hbad
      clear hbad
      go_enter Tryd.func5, Tryd.ntmps5
      go_wp2_with fail
      refine (works6_any _ Htab.out h2).mono ?_
      rintro e w1 ⟨rfl, b1⟩
      go_wp2
      go_ret
      exact ⟨rfl, b1⟩
  · have hn4 : n ≤ 4096 := by omega
    have hq4 : q ≤ 200 := by omega
    clear hbad
    go_enter Tryd.func5, Tryd.ntmps5
    go_wp2_with fail
    refine (new_any _).mono ?_
    rintro e w1 ⟨rfl, st1, b1, z1⟩
    have St1 := hid st1
    have B1 := hid b1
    have Z1 := hid z1
    clear st1 b1 z1
    go_wp2_with fail
    go_loopw [6, 7] (fun c i wr => ∃ k j : Nat, k ≤ q ∧ i = .int .i64 (k : Int) ∧ j ≤ n ∧ c = .int .i64 (j : Int) ∧ IsState wr w.heap.size (l.take j) ∧ Below w.heap.size w wr) (fun _ i _ => q - (intOf i).toNat)
    case atStart => exact ⟨0, 0, by omega, rfl, by omega, rfl, St1.out, B1.out⟩
    case round =>
      obtain ⟨k, j, hk, rfl, hj, rfl, st, bb⟩ := hrel
      obtain ⟨wo, rfl⟩ : ∃ wo : World, wo = wr := ⟨_, rfl⟩
      have St := hid st
      have Bb := hid bb
      have TabR : Hid (Tabs wo) := Htab.out.below h2 bb
      have Lt := hid st.lt
      clear st bb
      by_cases hkq : k < q
      · obtain ⟨b2, off2, ha2, _, hlt2, hc2⟩ := Hb2.out.2.2 (by intro e; have := Hq.out; rw [e] at this; simp at this; omega)
        subst ha2
        obtain ⟨z, hz⟩ : ∃ z : Nat, z = (zs.getD k 0).toNat := ⟨_, rfl⟩
        have z256 : z < 256 := by rw [hz]; exact (zs.getD k 0).toNat_lt
        have cz : wo.cell? ⟨b2, off2 + k, none⟩ = some (.int .u8 (z : Int)) := by
          rw [Bb.out.cell (by exact hlt2), hc2 k (by have := Hq.out; omega), hz]; rfl
        clear hc2 hz
        have HP : Hid (∀ p, j + p ≤ n → j < cap → Bytes wo (fun _ => False) (a.map fun x => x.add j) (cap - j) ((l.drop j).take p)) := fun p hp hc =>
          (((Hb.out.below Bb.out (fun b hb _ => hb)).other (no' := fun _ => False) (fun _ _ _ h => h)).drop j (by have := Hn.out; omega) hc).take p
        have HPl : Hid (∀ p, j + p ≤ n → ((l.drop j).take p).length = p) := fun p hp => by simp; have := Hn.out; omega
        go_upto_region 10 with (fail)
        go_cut [8] (fun v wx => ∃ p : Nat, j + p ≤ n ∧ wx.ownsRow wo.heap.size 5 1 v p (bv ((l.drop j).take p)) ∧ Below wo.heap.size wo wx)
        case first =>
          by_cases hm : j + z ≤ n
          · have m1 : ((j : Int) + (z : Int)) ≤ (n : Int) := by omega
            by_cases hc : cap = j
            · subst hc
              have z0 : (n : Int) ≤ (cap : Int) := by omega
              go_wp2_with fail
              all_goals
                refine (copy_len wo (fun _ => False) [] _ (by simp <;> omega) _ _ (Bytes.nil _ _ _ _ (by unfold maxLen; omega)) (by omega)).mono ?_
                rintro e w3 ⟨v, rfl, ow, b3⟩
                have Ow := hid ow
                have B3 := hid b3
                clear ow b3
                go_wp2_with fail
                go_meet
                exact ⟨0, by omega, by simpa using Ow.out, B3.out⟩
            · go_wp2_with fail
              all_goals
                refine (copy_len wo (fun _ => False) _ z (HPl.out z hm) _ _ (HP.out z hm (by omega)) (by omega)).mono ?_
                rintro e w3 ⟨v, rfl, ow, b3⟩
                rw [HPl.out z hm] at ow
                have Ow := hid ow
                have B3 := hid b3
                clear ow b3
                go_wp2_with fail
                go_meet
                exact ⟨z, hm, Ow.out, B3.out⟩
          · have m1 : (n : Int) < ((j : Int) + (z : Int)) := by omega
            by_cases hc : cap = j
            · subst hc
              have z0 : (n : Int) ≤ (cap : Int) := by omega
              go_wp2_with fail
              all_goals
                refine (copy_len wo (fun _ => False) [] _ (by simp <;> omega) _ _ (Bytes.nil _ _ _ _ (by unfold maxLen; omega)) (by omega)).mono ?_
                rintro e w3 ⟨v, rfl, ow, b3⟩
                have Ow := hid ow
                have B3 := hid b3
                clear ow b3
                go_wp2_with fail
                go_meet
                exact ⟨0, by omega, by simpa using Ow.out, B3.out⟩
            · go_wp2_with fail
              all_goals
                refine (copy_len wo (fun _ => False) _ (n - j) (HPl.out (n - j) (by omega)) _ _ (HP.out (n - j) (by omega) (by omega)) (by omega)).mono ?_
                rintro e w3 ⟨v, rfl, ow, b3⟩
                rw [HPl.out (n - j) (by omega)] at ow
                have Ow := hid ow
                have B3 := hid b3
                clear ow b3
                go_wp2_with fail
                go_meet
                exact ⟨n - j, by omega, Ow.out, B3.out⟩
        case rest =>
          obtain ⟨p, hp, ow, b3⟩ := hcut
          obtain ⟨a3, cap3, hv, hby, hrow⟩ := own_open ow (· = w.heap.size) (by intro b hb e; have := Lt.out; omega)
          subst hv
          have B3 := hid b3
          have Z3 := hid b3.size
          have BW3 : Hid (Below w.heap.size w wc) := Bb.out.trans (b3.mono Bb.out.size)
          have Hby := hid hby
          have Hrow := hid hrow
          have St3 : Hid (IsState wc w.heap.size (l.take j)) := St.out.below b3 Lt.out
          have hp4 : p ≤ 4096 := by omega
          clear ow b3 hby hrow cz
          go_wp2_with fail
          refine (write_len w.heap.size _ _ p (HPl.out p hp) _ _ _ St3.out Hby.out (Htab.out.below h2 BW3.out) h2 (by simp; omega)).mono ?_
          rintro e w4 ⟨rfl, st4, g4⟩
          rw [← List.take_add] at st4
          have St4 := hid st4
          have G4 := hid g4
          have BW4 : Hid (Below w.heap.size w w4) := BW3.out.trans (below_of_grownBy g4 BW3.out.size (by intro k hk; injection hk with hk; omega))
          clear st4 g4
          rcases Nat.eq_zero_or_pos p with hp0 | hp0
          · subst hp0
            go_wp2_with fail
            go_loop [9] (fun c => c = .int .i64 0) (fun _ => 0)
            case atStart => rfl
            case round =>
              subst hrel
              go_wp2
              go_roundw
              case rel => exact ⟨k + 1, j, by omega, by go_num, by omega, rfl, St4.out, BW4.out⟩
              case measure => simp [intOf]; omega
          · obtain ⟨g, cur, ha3, hgb, hr, hlen, htake⟩ := Hrow.out hp0
            subst ha3
            have hgS : w.heap.size < g := by have := Lt.out; omega
            have Hr4 : Hid (HasRow w4 g cur 5) := hr.grown G4.out (by intro e; injection e with e; omega)
            have Hc4 : Hid (∀ i, i < p → ∃ u : Int, cur[i]? = some (.int .u8 u)) := fun i hi => by
              have e : (cur.take p)[i]? = (bv ((l.drop j).take p))[i]? := by rw [htake]
              rw [List.getElem?_take, if_pos hi] at e
              rw [e]
              exact ⟨bt8 (((l.drop j).take p)[i]'(by rw [HPl.out p hp]; exact hi)), by simp only [bv, List.getElem?_map, List.getElem?_eq_getElem (show i < ((l.drop j).take p).length by rw [HPl.out p hp]; exact hi), Option.map_some]⟩
            have Hlen := hid hlen
            clear hr hlen htake
            go_wp2_with fail
            go_loopw [9] (fun c wr => ∃ i : Nat, i ≤ p ∧ c = .int .i64 (i : Int) ∧ (∃ cu : List Value, HasRow wr g cu 5 ∧ ∀ x, x < p → ∃ u : Int, cu[x]? = some (.int .u8 u)) ∧ IsState wr w.heap.size (l.take (j + p)) ∧ Below w.heap.size w wr) (fun c _ => p - (intOf c).toNat)
            case atStart => exact ⟨0, by omega, rfl, ⟨cur, Hr4.out, Hc4.out⟩, St4.out, BW4.out⟩
            case round =>
              obtain ⟨i, hi, rfl, ⟨cu, hcu, hcells⟩, st5, b5⟩ := hrel
              have Hcu := hid hcu
              have Hcells := hid hcells
              have St5 := hid st5
              have B5 := hid b5
              clear st5 b5
              by_cases hip : i < p
              · obtain ⟨u, hu⟩ := hcells i hip
                have c1 : wr.cell? ⟨g, i, none⟩ = some (.int .u8 u) := by rw [hcu.cell_any]; exact hu
                have c2 := hcu.free i
                clear hcu hcells hu
                go_wp2
                go_roundw
                case rel =>
                  refine ⟨i + 1, by omega, by go_num, ⟨_, Hcu.out.set i _, fun x hx => ?_⟩, St5.out.grown (grownBy_setCell _ ⟨g, i, none⟩ _) (by intro e; injection e with e; simp at e; omega), B5.out.setCell (p := ⟨g, i, none⟩) (by simp; omega) _⟩
                  obtain ⟨u2, hu2⟩ := Hcells.out x hx
                  by_cases e : i = x
                  · subst e
                    rw [List.getElem?_set_self (by rw [List.getElem?_eq_some_iff] at hu2; exact hu2.1)]
                    exact ⟨_, rfl⟩
                  · rw [List.getElem?_set_ne e]; exact ⟨u2, hu2⟩
                case measure => simp [intOf]; omega
              · clear hcu hcells
                go_wp2
                go_roundw
                case rel => exact ⟨k + 1, j + p, by omega, by go_num, by omega, by go_num, St5.out, B5.out⟩
                case measure => simp [intOf]; omega
      · by_cases hc : cap = j
        · subst hc
          have z0 : (n : Int) ≤ (cap : Int) := by omega
          go_wp2_with fail
          refine (write_len w.heap.size _ [] _ (by simp <;> omega) _ _ _ St.out (Bytes.nil _ _ _ _ (by unfold maxLen; omega)) TabR.out h2 (by simp; omega)).mono ?_
          rintro e w4 ⟨rfl, st4, g4⟩
          have St4 : Hid (IsState w4 w.heap.size l) := by
            rw [List.append_nil, List.take_of_length_le (by have := Hn.out; omega)] at st4; exact st4
          have BW4 : Hid (Below w.heap.size w w4) := Bb.out.trans (below_of_grownBy g4 Bb.out.size (by intro k hk; injection hk with hk; omega))
          clear st4 g4
          have eq := eq32 (Sha.sum l) (Sha.length_sum l)
          go_wp2_with fail
          refine (stsum_any _ w.heap.size l St4.out (Htab.out.below h2 BW4.out) h2 (by have := Hn.out; omega)).mono ?_
          rintro e w5 ⟨rfl, b5⟩
          have BW5 : Hid (Below w.heap.size w w5) := BW4.out.trans (b5.mono BW4.out.size)
          have St5 : Hid (IsState w5 w.heap.size l) := St4.out.below b5 St4.out.lt
          clear b5
          go_wp2_with fail
          refine (sum_len l n Hn.out.symm _ _ _ (Old w) (Hb.out.below BW5.out (fun b hb _ => hb)) (Htab.out.below h2 BW5.out) (by have := BW5.out.size; omega) (by omega)).mono ?_
          rintro e w6 ⟨rfl, b6⟩
          have BW6 : Hid (Below w.heap.size w w6) := BW5.out.trans (b6.mono BW5.out.size)
          have St6 : Hid (IsState w6 w.heap.size l) := St5.out.below b6 St5.out.lt
          clear b6
          go_wp2_with fail
          refine (stsum_any _ w.heap.size l St6.out (Htab.out.below h2 BW6.out) h2 (by have := Hn.out; omega)).mono ?_
          rintro e w7 ⟨rfl, b7⟩
          have BW7 : Hid (Below w.heap.size w w7) := BW6.out.trans (b7.mono BW6.out.size)
          clear b7
          go_wp2_with fail
          refine (sum_len l n Hn.out.symm _ _ _ (Old w) (Hb.out.below BW7.out (fun b hb _ => hb)) (Htab.out.below h2 BW7.out) (by have := BW7.out.size; omega) (by omega)).mono ?_
          rintro e w8 ⟨rfl, b8⟩
          have BW8 : Hid (Below w.heap.size w w8) := BW7.out.trans (b8.mono BW7.out.size)
          clear b8
          go_wp2_with fail
          refine (works6_any _ (Htab.out.below h2 BW8.out) (by have := BW8.out.size; omega)).mono ?_
          rintro e w9 ⟨rfl, b9⟩
          have B9 := hid b9
          clear b9
          go_wp2
          go_ret
          exact ⟨rfl, BW8.out.trans (B9.out.mono BW8.out.size)⟩
        · have HD : Hid (Bytes wo (· = w.heap.size) (a.map fun x => x.add j) (cap - j) (l.drop j)) :=
            (((Hb.out.below Bb.out (fun b hb _ => hb)).other (no' := (· = w.heap.size)) (fun x _ hx e => hx (by unfold Old; omega))).drop j (by have := Hn.out; omega) (by omega))
          go_wp2_with fail
          refine (write_len w.heap.size _ (l.drop j) _ (by simp; have := Hn.out; omega) _ _ _ St.out HD.out TabR.out h2 (by simp; omega)).mono ?_
          rintro e w4 ⟨rfl, st4, g4⟩
          have St4 : Hid (IsState w4 w.heap.size l) := by
            rw [List.take_append_drop] at st4; exact st4
          have BW4 : Hid (Below w.heap.size w w4) := Bb.out.trans (below_of_grownBy g4 Bb.out.size (by intro k hk; injection hk with hk; omega))
          clear st4 g4
          have eq := eq32 (Sha.sum l) (Sha.length_sum l)
          go_wp2_with fail
          refine (stsum_any _ w.heap.size l St4.out (Htab.out.below h2 BW4.out) h2 (by have := Hn.out; omega)).mono ?_
          rintro e w5 ⟨rfl, b5⟩
          have BW5 : Hid (Below w.heap.size w w5) := BW4.out.trans (b5.mono BW4.out.size)
          have St5 : Hid (IsState w5 w.heap.size l) := St4.out.below b5 St4.out.lt
          clear b5
          go_wp2_with fail
          refine (sum_len l n Hn.out.symm _ _ _ (Old w) (Hb.out.below BW5.out (fun b hb _ => hb)) (Htab.out.below h2 BW5.out) (by have := BW5.out.size; omega) (by omega)).mono ?_
          rintro e w6 ⟨rfl, b6⟩
          have BW6 : Hid (Below w.heap.size w w6) := BW5.out.trans (b6.mono BW5.out.size)
          have St6 : Hid (IsState w6 w.heap.size l) := St5.out.below b6 St5.out.lt
          clear b6
          go_wp2_with fail
          refine (stsum_any _ w.heap.size l St6.out (Htab.out.below h2 BW6.out) h2 (by have := Hn.out; omega)).mono ?_
          rintro e w7 ⟨rfl, b7⟩
          have BW7 : Hid (Below w.heap.size w w7) := BW6.out.trans (b7.mono BW6.out.size)
          clear b7
          go_wp2_with fail
          refine (sum_len l n Hn.out.symm _ _ _ (Old w) (Hb.out.below BW7.out (fun b hb _ => hb)) (Htab.out.below h2 BW7.out) (by have := BW7.out.size; omega) (by omega)).mono ?_
          rintro e w8 ⟨rfl, b8⟩
          have BW8 : Hid (Below w.heap.size w w8) := BW7.out.trans (b8.mono BW7.out.size)
          clear b8
          go_wp2_with fail
          refine (works6_any _ (Htab.out.below h2 BW8.out) (by have := BW8.out.size; omega)).mono ?_
          rintro e w9 ⟨rfl, b9⟩
          have B9 := hid b9
          clear b9
          go_wp2
          go_ret
          exact ⟨rfl, BW8.out.trans (B9.out.mono BW8.out.size)⟩

theorem paramsAre : Tryd.f5.params = #[22, 22] := by kernel_rfl

/-- WHAT THE WALK GIVES, FOR EVERY ARGUMENT AND EVERY WORLD THAT HOLDS THE TABLES. -/
theorem contract (H : Type) (enc : TypeId × Value → H) (W : World) (base : Nat) (args : Array Value) (ds gs : List (DataW H)) (before : List MemPlace)
    (hval : ∀ (j : Nat) t v, Tryd.f5.params[j]? = some t → args[j]? = some v → Value.okWide Tryd.prog W .any base t v)
    (hW : DataW.Whole enc Tryd.prog Tryd.f5.params.toList Rows.shaPiecesSpec.vars false W args.toList ds gs before) (hL : laidMetH Tryd.prog Rows.shaPiecesRow.laid W) :
    Calls Tryd.prog 5 args W fun e W' => ∃ v, e = .returned v ∧ Rows.shaPiecesSpec.post enc Tryd.prog Tryd.f5 false true false false W args v W' := by
  have hW' := hW
  obtain ⟨p, q, hA0, hV, rfl, hfz, hnd⟩ := hW
  have hA : DataW.TrodAll enc Tryd.prog W 0 (fun _ => true) true Tryd.f5.params.toList args.toList ds p := hA0
  rw [paramsAre] at hA hval
  obtain ⟨v0, vs0, d0, ds0, p0, q0, hargs, rfl, rfl, h0, r0⟩ := trodAll_cons hA
  obtain ⟨v1, vs1, d1, ds1, p1, q1, rfl, rfl, rfl, h1, r1⟩ := trodAll_cons r0
  obtain ⟨rfl, rfl, rfl⟩ := trodAll_nil r1
  obtain rfl : args = #[v0, v1] := by cases args; simp_all
  obtain ⟨rfl, rfl⟩ := trodVars_none hV
  clear hA0
  obtain ⟨b0, n0, c0, rfl⟩ := okWide_slice Tryd.underlying22 (hval 0 22 v0 rfl rfl)
  have k0 := h0
  have lt0 : ∀ x ∈ p0, x.block < W.heap.size := by obtain ⟨m, hm⟩ := k0; exact DataW.trod_lt m _ _ _ hm
  obtain ⟨a0, cap0, l0, e0, w0⟩ := open_bytes h0 cells_slice
  injection e0 with ea0 en0 ec0
  subst ea0 en0 ec0
  obtain ⟨b1, n1, c1, rfl⟩ := okWide_slice Tryd.underlying22 (hval 1 22 v1 rfl rfl)
  have k1 := h1
  have lt1 : ∀ x ∈ p1, x.block < W.heap.size := by obtain ⟨m, hm⟩ := k1; exact DataW.trod_lt m _ _ _ hm
  obtain ⟨a1, cap1, l1, e1, w1⟩ := open_bytes h1 cells_slice
  injection e1 with ea1 en1 ec1
  subst ea1 en1 ec1
  simp only [List.append_nil] at hW'
  refine (walk W (tabs_of_laid hL) l0 b0 c0 w0 l1 b1 c1 w1).mono fun e W' ⟨he, bel⟩ => ?_
  subst he
  exact ⟨_, rfl, _, _, _, [], _, [], hW', trodAll_mk1 (shut_bool Tryd.underlying4 _), (trodAll_cons_mk (Below.trod laidOut (by kernel_rfl) (of_decide_eq_true (by kernel_rfl)) k0 bel lt0) (trodAll_cons_mk (Below.trod laidOut (by kernel_rfl) (of_decide_eq_true (by kernel_rfl)) k1 bel lt1) trodAll_mk0)), rfl, bel.frame _, fun h => by cases h⟩

/-- A WORLD FOR THE WITNESS: the settled one, the tables holding what their initialisers lay. -/
noncomputable def laidWorld (os : Os) : World :=
  { World.holding Tryd.prog os ⟨#[], #[], []⟩ with heap := ((World.holding Tryd.prog os ⟨#[], #[], []⟩).heap.modify 0 (layCells (wv Sha.hTab).toArray)).modify 1 (layCells (wv Sha.kTab).toArray) }
theorem laid_met (os : Os) : laidMet Tryd.prog Rows.shaPiecesRow.laid ((laidWorld os).forCall (fun _ _ => 0) ⟨#[], #[.slice none 0 0, .slice none 0 0], []⟩).memory :=
  laidMet_of_run' 8 (by kernel_rfl) (by kernel_rfl)
theorem reads (os : Os) {H : Type} (enc : TypeId × Value → H) : ∃ places, DataW.whole enc Tryd.prog ((laidWorld os).forCall (fun _ _ => 0) ⟨#[], #[.slice none 0 0, .slice none 0 0], []⟩).memory Tryd.f5.params.toList Rows.shaPiecesSpec.vars false (#[.slice none 0 0, .slice none 0 0] : Array Value).toList 8 = some ([.nil, .nil], [], places) :=
  ⟨[], by kernel_rfl⟩

set_option maxRecDepth 100000 in
theorem lifted (os : Os) (started : os.Started) (H : Type) (enc : TypeId × Value → H) (F : Stop.Interp) :
    ReturnsInHanded {} Tryd.checked os 5 .any ((OpenSpec.ofChange Rows.shaPiecesSpec).preRow enc Tryd.prog Tryd.f5 Rows.shaPiecesRow.domain false Rows.shaPiecesRow.laid) (((OpenSpec.ofChange Rows.shaPiecesSpec).at F).post enc Tryd.prog Tryd.f5 false true false false) := by
  obtain ⟨places, hx⟩ := reads os enc
  refine returnsInHanded_of_row (C := Tryd.checked) (s := OpenSpec.ofChange Rows.shaPiecesSpec) own started (by kernel_rfl) Tryd.func5
    (witness_row_at (enc := enc) (C := Tryd.checked) false (laidWorld os) #[.slice none 0 0, .slice none 0 0] rfl (by kernel_rfl) (by kernel_rfl) (by kernel_rfl)
      (OpenSpec.preRow_of_cond 8 hx (by kernel_rfl) (fun k hk => by cases hk) (by kernel_rfl) (laid_met os))) ?_
  intro W base args ds gs before hval hW _ _ _ hL _ _
  exact contract H enc W base args ds gs before hval hW hL

theorem said : Rows.ShaPiecesSaid :=
  OpenClaim.holds_of_cond 5 Tryd.f5 rfl rfl rfl rfl rfl rfl rfl ⟨rfl, rfl, rfl, rfl, rfl⟩ rfl rfl rfl rfl rfl (by kernel_rfl) Tryd.func5 (by kernel_rfl)
    (of_decide_eq_true (by kernel_rfl)) (by unfold Func.isWrapper; first | (rw [if_pos (by decide +kernel)]; kernel_rfl) | (rw [if_neg (by decide +kernel)]; exact ⟨rfl, rfl⟩))
    (fun os started H enc _ F => by rw [OpenClaim.pre_eq_preRow]; exact lifted os started H enc F)

theorem plain (f : FuncId) (fn : Func) (hf : Tryd.pinned.checked.prog.funcNamed "fairlead/fairleadlaw06.ShaPieces" = some f) (hfn : Tryd.pinned.checked.prog.funcs[f]? = some fn) :
    false = Tryd.pinned.checked.prog.looks [] ∧ ∀ (j : Nat) t, fn.params[j]? = some t → Tryd.pinned.checked.prog.wantsStandIn t = false := by
  obtain rfl : f = 5 := Option.some.inj ((show Tryd.prog.funcNamed "fairlead/fairleadlaw06.ShaPieces" = some 5 by kernel_rfl).symm.trans hf) |>.symm
  obtain rfl : fn = Tryd.f5 := (Option.some.inj (Tryd.func5.symm.trans hfn)).symm
  refine ⟨by kernel_rfl, fun j t ht => ?_⟩
  rw [paramsAre] at ht
  obtain rfl : t = 22 := by have := Array.mem_of_getElem? ht; simpa using this
  exact (show Tryd.prog.wantsStandIn 22 = false by kernel_rfl)

/-- ████ THE CARD ████ -/
theorem card : Rows.ShaPiecesCardSaid :=
  Claim7.holds_tied_plain_at .later [] _ _ _ _ said (fun _ h => by cases h) (by kernel_rfl) (fun _ h => by cases h) shaPieces_row_tie rfl ⟨rfl, rfl⟩ (by kernel_rfl) rfl plain (by kernel_rfl)
#print axioms card
end Go.Proofs.YtadpcefdkifagaaDoor.shaPiecesDone
