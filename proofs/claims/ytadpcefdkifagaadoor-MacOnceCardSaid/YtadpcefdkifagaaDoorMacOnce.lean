/- MacOnce: for every input the law returns true and the input reads as it did. Conditions: the row's own (the tables are laid as the program's text lays them). -/
import Derived.Test.YtadpcefdkifagaaDoorMac2
import Derived.Deep.RegionHeld3
namespace Go.Proofs.YtadpcefdkifagaaDoor.macOnceDone
open Go.ChangeShapes Go.WideShapes Go.ChangeAt Go.RowKit
open Sha (W)

/-- what stays while it is asked again -/
structure Inv (w : World) (b1 b2 b3 : Nat) (R1 R2 R3 : List UInt8) (w' : World) : Prop where
  r1 : HasRow w' b1 (bv R1) 25
  r2 : HasRow w' b2 (bv R2) 25
  r3 : HasRow w' b3 (bv R3) 25
  bel : Below w.heap.size w w'
theorem Inv.drew {w w' : World} {b1 b2 b3 : Nat} {R1 R2 R3 : List UInt8} (h : Inv w b1 b2 b3 R1 R2 R3 w') : Inv w b1 b2 b3 R1 R2 R3 w'.drew := ⟨h.r1, h.r2, h.r3, h.bel.drew⟩
theorem Inv.below {w w' w'' : World} {b1 b2 b3 : Nat} {R1 R2 R3 : List UInt8} (h : Inv w b1 b2 b3 R1 R2 R3 w') (b : Below w'.heap.size w' w'') : Inv w b1 b2 b3 R1 R2 R3 w'' :=
  ⟨h.r1.below b h.r1.lt, h.r2.below b h.r2.lt, h.r3.below b h.r3.lt, h.bel.trans (b.mono h.bel.size)⟩
abbrev Held (w : World) (b1 b2 b3 : Nat) (R1 R2 R3 : List UInt8) (w' : World) : Prop :=
  w'.rangeAt b1 0 (bv R1) ∧ w'.rangeAt b2 0 (bv R2) ∧ w'.rangeAt b3 0 (bv R3) ∧ Inv w b1 b2 b3 R1 R2 R3 w'
theorem row_range {w : World} {g : Nat} {l : List Value} {T : TypeId} (h : HasRow w g l T) : w.rangeAt g 0 l := fun j v hv => by rw [Nat.zero_add, h.cell_any]; exact hv
theorem Inv.held {w w' : World} {b1 b2 b3 : Nat} {R1 R2 R3 : List UInt8} (h : Inv w b1 b2 b3 R1 R2 R3 w') : Held w b1 b2 b3 R1 R2 R3 w' := ⟨row_range h.r1, row_range h.r2, row_range h.r3, h⟩

set_option maxRecDepth 100000 in
set_option maxHeartbeats 4000000 in
theorem walk (w : World) (htab : Tabs w) (l : List UInt8) (a : Option Addr) (cap : Nat) (hb : Bytes w (Old w) a cap l) (t : List UInt8) (a2 : Option Addr) (cap2 : Nat) (hb2 : Bytes w (Old w) a2 cap2 t)
    (o : List UInt8) (a3 : Option Addr) (cap3 : Nat) (hb3 : Bytes w (Old w) a3 cap3 o) :
    Calls Tryd.prog 14 #[.slice a l.length cap, .slice a2 t.length cap2, .slice a3 o.length cap3] w fun e w' => e = .returned (.bool true) ∧ Below w.heap.size w w' := by
  have h2 := size_of_tabs htab
  have Htab := hid htab
  have Hb := hid hb
  have Hb2 := hid hb2
  have Hb3 := hid hb3
  clear hb hb2 hb3 htab
  obtain ⟨n, hn⟩ : ∃ n, n = l.length := ⟨_, rfl⟩
  have Hn := hid hn
  obtain ⟨m, hm⟩ : ∃ m, m = t.length := ⟨_, rfl⟩
  have Hm := hid hm
  obtain ⟨r, hr⟩ : ∃ r, r = o.length := ⟨_, rfl⟩
  have Hr := hid hr
  rw [← hn, ← hm, ← hr]
  clear hn hm hr
  by_cases hbad : 4096 < n ∨ 4096 < m ∨ 4096 < r
  · by_cases hl : 4096 < n <;> by_cases hl2 : 4096 < m
    all_goals
      have hbad2 : 4096 < n ∨ 4096 < m ∨ 4096 < r := hbad
      have hl3 : ¬ 4096 < n → ¬ 4096 < m → 4096 < r := by omega
      clear hbad
      first
        | (have hl4 := hl3 hl hl2)
        | skip
      clear hl3 hbad2
      go_enter Tryd.func14, Tryd.ntmps14
      go_wp2_with fail
      refine (works7_any _ Htab.out h2).mono ?_
      rintro e w1 ⟨rfl, b1⟩
      go_wp2
      go_ret
      exact ⟨rfl, b1⟩
  · have hn4 : ¬ 4096 < n := by omega
    have hm4 : ¬ 4096 < m := by omega
    have hr4 : ¬ 4096 < r := by omega
    clear hbad
    go_enter Tryd.func14, Tryd.ntmps14
    go_wp2_with fail
    obtain ⟨R1, hR1⟩ : ∃ R1, R1 = Sha.mac l t := ⟨_, rfl⟩
    obtain ⟨R2, hR2⟩ : ∃ R2, R2 = Sha.mac o t := ⟨_, rfl⟩
    obtain ⟨R3, hR3⟩ : ∃ R3, R3 = Sha.mac l o := ⟨_, rfl⟩
    have L1 : Hid (R1.length = 32) := by rw [hR1]; exact Sha.length_mac _ _
    have L2 : Hid (R2.length = 32) := by rw [hR2]; exact Sha.length_mac _ _
    have L3 : Hid (R3.length = 32) := by rw [hR3]; exact Sha.length_mac _ _
    have M1 : Hid (∀ w', Below w.heap.size w w' → Calls Tryd.prog 26 #[.slice a n cap, .slice a2 m cap2] w' fun e w'' => e = .returned (.agg (bv R1).toArray) ∧ Below w'.heap.size w' w'') := fun w' h => by
      rw [hR1]; exact mac_any w' (Htab.out.below h2 h) (by have := h.size; omega) (Old w) (Old w) l n Hn.out.symm (by omega) a cap (Hb.out.below h (fun b hb _ => hb)) t m Hm.out.symm (by omega) a2 cap2 (Hb2.out.below h (fun b hb _ => hb))
    have M2 : Hid (∀ w', Below w.heap.size w w' → Calls Tryd.prog 26 #[.slice a3 r cap3, .slice a2 m cap2] w' fun e w'' => e = .returned (.agg (bv R2).toArray) ∧ Below w'.heap.size w' w'') := fun w' h => by
      rw [hR2]; exact mac_any w' (Htab.out.below h2 h) (by have := h.size; omega) (Old w) (Old w) o r Hr.out.symm (by omega) a3 cap3 (Hb3.out.below h (fun b hb _ => hb)) t m Hm.out.symm (by omega) a2 cap2 (Hb2.out.below h (fun b hb _ => hb))
    have M3 : Hid (∀ w', Below w.heap.size w w' → Calls Tryd.prog 26 #[.slice a n cap, .slice a3 r cap3] w' fun e w'' => e = .returned (.agg (bv R3).toArray) ∧ Below w'.heap.size w' w'') := fun w' h => by
      rw [hR3]; exact mac_any w' (Htab.out.below h2 h) (by have := h.size; omega) (Old w) (Old w) l n Hn.out.symm (by omega) a cap (Hb.out.below h (fun b hb _ => hb)) o r Hr.out.symm (by omega) a3 cap3 (Hb3.out.below h (fun b hb _ => hb))
    have ST : Hid (∀ R : List UInt8, R.length = 32 → (Tryd.prog.info? 25).map (·.size) = some (bv R).length ∧ 0 + (bv R).length ≤ (bv (List.replicate 32 0)).length ∧ (bv (List.replicate 32 0)).length = (bv R).length) := fun R h => by
      rw [length_bv R, h]; exact ⟨(show (Tryd.prog.info? 25).map (·.size) = some 32 by kernel_rfl), Nat.le_refl 32, rfl⟩
    clear hR1 hR2 hR3
    refine (M1.out w (Below.refl _ _)).mono ?_
    rintro e w1 ⟨rfl, b1⟩
    have N1 := hid (HasRow.new w1 (bv (List.replicate 32 0)) 25)
    have B1 := hid b1
    clear b1
    go_wp2_with (refine wpList_store_into rfl 25 _ _ rfl w1.heap.size 0 rfl (bv R1) rfl (bv (List.replicate 32 0)) 25 N1.out (ST.out R1 L1.out).1 (ST.out R1 L1.out).2.1 (one_bv _) ?_; intro w2 h6 g6 s6; rw [splice_all _ _ (ST.out R1 L1.out).2.2] at h6; have H2 := hid h6; have G2 := hid g6; clear h6 g6 s6)
    have B2 : Hid (Below w.heap.size w w2) := (B1.out.alloc B1.out.size _).grown G2.out (by simp; have := B1.out.size; omega) (by intro k hk; injection hk with hk; have := B1.out.size; omega)
    have Z1 : Hid (w.heap.size ≤ w1.heap.size) := B1.out.size
    refine (M2.out w2 B2.out).mono ?_
    rintro e w3 ⟨rfl, b3⟩
    have B3 : Hid (Below w.heap.size w w3) := B2.out.trans (b3.mono B2.out.size)
    have H3 : Hid (HasRow w3 w1.heap.size (bv R1) 25) := H2.out.below b3 H2.out.lt
    have N3 := hid (HasRow.new w3 (bv (List.replicate 32 0)) 25)
    clear b3
    go_wp2_with (refine wpList_store_into rfl 25 _ _ rfl w3.heap.size 0 rfl (bv R2) rfl (bv (List.replicate 32 0)) 25 N3.out (ST.out R2 L2.out).1 (ST.out R2 L2.out).2.1 (one_bv _) ?_; intro w4 h6 g6 s6; rw [splice_all _ _ (ST.out R2 L2.out).2.2] at h6; have H4 := hid h6; have G4 := hid g6; clear h6 g6 s6)
    have B4 : Hid (Below w.heap.size w w4) := (B3.out.alloc B3.out.size _).grown G4.out (by simp; have := B3.out.size; omega) (by intro k hk; injection hk with hk; have := B3.out.size; omega)
    have K4 : Hid (HasRow w4 w1.heap.size (bv R1) 25) := (H3.out.alloc _).grown G4.out (by intro e; injection e with e; have := H3.out.lt; omega)
    refine (M3.out w4 B4.out).mono ?_
    rintro e w5 ⟨rfl, b5⟩
    have B5 : Hid (Below w.heap.size w w5) := B4.out.trans (b5.mono B4.out.size)
    have H5 : Hid (HasRow w5 w1.heap.size (bv R1) 25) := K4.out.below b5 K4.out.lt
    have I5 : Hid (HasRow w5 w3.heap.size (bv R2) 25) := H4.out.below b5 H4.out.lt
    have N5 := hid (HasRow.new w5 (bv (List.replicate 32 0)) 25)
    clear b5
    go_wp2_with (refine wpList_store_into rfl 25 _ _ rfl w5.heap.size 0 rfl (bv R3) rfl (bv (List.replicate 32 0)) 25 N5.out (ST.out R3 L3.out).1 (ST.out R3 L3.out).2.1 (one_bv _) ?_; intro w6 h6 g6 s6; rw [splice_all _ _ (ST.out R3 L3.out).2.2] at h6; have H6 := hid h6; have G6 := hid g6; clear h6 g6 s6)
    have B6 : Hid (Below w.heap.size w w6) := (B5.out.alloc B5.out.size _).grown G6.out (by simp; have := B5.out.size; omega) (by intro k hk; injection hk with hk; have := B5.out.size; omega)
    have J6 : Hid (HasRow w6 w1.heap.size (bv R1) 25) := (H5.out.alloc _).grown G6.out (by intro e; injection e with e; have := H5.out.lt; omega)
    have K6 : Hid (HasRow w6 w3.heap.size (bv R2) 25) := (I5.out.alloc _).grown G6.out (by intro e; injection e with e; have := I5.out.lt; omega)
    obtain ⟨b1, hb1⟩ : ∃ b1, b1 = w1.heap.size := ⟨_, rfl⟩
    obtain ⟨b2, hb2⟩ : ∃ b2, b2 = w3.heap.size := ⟨_, rfl⟩
    obtain ⟨b3, hb3⟩ : ∃ b3, b3 = w5.heap.size := ⟨_, rfl⟩
    rw [← hb1] at J6
    rw [← hb2] at K6
    rw [← hb3] at H6
    rw [← hb1, ← hb2, ← hb3]
    have I6 : Inv w b1 b2 b3 R1 R2 R3 w6 := ⟨J6.out, K6.out, H6.out, B6.out⟩
    have I6d := I6.drew
    have C1 : Hid (∀ w', Inv w b1 b2 b3 R1 R2 R3 w' → Calls Tryd.prog 26 #[.slice a n cap, .slice a2 m cap2] w' fun e w'' => e = .returned (.agg (bv R1).toArray) ∧ Inv w b1 b2 b3 R1 R2 R3 w'') := fun w' h => (M1.out w' h.bel).mono fun e w'' ⟨he, hb⟩ => ⟨he, h.below hb⟩
    have C2 : Hid (∀ w', Inv w b1 b2 b3 R1 R2 R3 w' → Calls Tryd.prog 26 #[.slice a3 r cap3, .slice a2 m cap2] w' fun e w'' => e = .returned (.agg (bv R2).toArray) ∧ Inv w b1 b2 b3 R1 R2 R3 w'') := fun w' h => (M2.out w' h.bel).mono fun e w'' ⟨he, hb⟩ => ⟨he, h.below hb⟩
    have C3 : Hid (∀ w', Inv w b1 b2 b3 R1 R2 R3 w' → Calls Tryd.prog 26 #[.slice a n cap, .slice a3 r cap3] w' fun e w'' => e = .returned (.agg (bv R3).toArray) ∧ Inv w b1 b2 b3 R1 R2 R3 w'') := fun w' h => (M3.out w' h.bel).mono fun e w'' ⟨he, hb⟩ => ⟨he, h.below hb⟩
    have C4 : Hid (∀ w', Inv w b1 b2 b3 R1 R2 R3 w' → Calls Tryd.prog 25 #[] w' fun e w'' => e = .returned (.bool true) ∧ Inv w b1 b2 b3 R1 R2 R3 w'') := fun w' h => (works7_any w' (Htab.out.below h2 h.bel) (by have := h.bel.size; omega)).mono fun e w'' ⟨he, hb⟩ => ⟨he, h.below hb⟩
    have hu := Tryd.underlying25
    have hi1 : (Tryd.prog.info? 25).map (·.size) = some (bv R1).length := (ST.out R1 L1.out).1
    have hi2 : (Tryd.prog.info? 25).map (·.size) = some (bv R2).length := (ST.out R2 L2.out).1
    have hi3 : (Tryd.prog.info? 25).map (·.size) = some (bv R3).length := (ST.out R3 L3.out).1
    have eq1 := eq32 R1 L1.out
    have eq2 := eq32 R2 L2.out
    have eq3 := eq32 R3 L3.out
    clear J6 K6 H6 B6 hb1 hb2 hb3
    refine wp_region_held_drew (S := Inv w b1 b2 b3 R1 R2 R3) (by kernel_rfl) I6d (fun hHeld => ?_)
    refine wpAnyH_take (i := 0) (v := .agg (bv R1).toArray) rfl (by kernel_rfl) (by kernel_rfl) (by kernel_rfl) (fun _ _ _ h => h) (yieldsIf_load_mid (by rfl) _ _ rfl b1 0 rfl (bv R1) _ (fun w h => row_range h.r1) hu rfl hi1) (by assumption) ?_
    refine wpAnyH_take (i := 1) (v := Value.slice a n cap) rfl (by kernel_rfl) (by kernel_rfl) (by kernel_rfl) (fun _ _ _ h => h) (Or.inl ⟨by rfl, fun w _ => by go_simp⟩) (by assumption) ?_
    refine wpAnyH_take (i := 2) (v := Value.slice a2 m cap2) rfl (by kernel_rfl) (by kernel_rfl) (by kernel_rfl) (fun _ _ _ h => h) (Or.inl ⟨by rfl, fun w _ => by go_simp⟩) (by assumption) ?_
    refine wpAnyH_ready (rs := [3]) (by kernel_rfl) (by simp) ?_
    refine AllReadyH.cons rfl (fun K hK => ?_) AllReadyH.nil
    go_simp
    refine (C1.out _ (by assumption)).mono ?_
    rintro e w' ⟨rfl, I'⟩
    go_wp2_with fail
    refine hK.out _ _ I' (fun hHeld => ?_)
    clear hK K hHeld
    refine wpAnyH_take (i := 4) (v := Value.bool true) rfl (by kernel_rfl) (by kernel_rfl) (by kernel_rfl) (fun _ _ _ h => h) (Or.inl ⟨by rfl, fun w _ => by go_simp⟩) (by assumption) ?_
    refine wpAnyH_take (i := 5) (v := Value.bool true) rfl (by kernel_rfl) (by kernel_rfl) (by kernel_rfl) (fun _ _ _ h => h) (Or.inl ⟨by rfl, fun w _ => by go_simp⟩) (by assumption) ?_
    refine wpAnyH_take (i := 6) (v := .agg (bv R2).toArray) rfl (by kernel_rfl) (by kernel_rfl) (by kernel_rfl) (fun _ _ _ h => h) (yieldsIf_load_mid (by rfl) _ _ rfl b2 0 rfl (bv R2) _ (fun w h => row_range h.r2) hu rfl hi2) (by assumption) ?_
    refine wpAnyH_take (i := 7) (v := Value.slice a3 r cap3) rfl (by kernel_rfl) (by kernel_rfl) (by kernel_rfl) (fun _ _ _ h => h) (Or.inl ⟨by rfl, fun w _ => by go_simp⟩) (by assumption) ?_
    refine wpAnyH_take (i := 8) (v := Value.slice a2 m cap2) rfl (by kernel_rfl) (by kernel_rfl) (by kernel_rfl) (fun _ _ _ h => h) (Or.inl ⟨by rfl, fun w _ => by go_simp⟩) (by assumption) ?_
    refine wpAnyH_ready (rs := [9]) (by kernel_rfl) (by simp) ?_
    refine AllReadyH.cons rfl (fun K hK => ?_) AllReadyH.nil
    go_simp
    refine (C2.out _ (by assumption)).mono ?_
    rintro e w' ⟨rfl, I'⟩
    go_wp2_with fail
    refine hK.out _ _ I' (fun hHeld => ?_)
    clear hK K hHeld
    refine wpAnyH_take (i := 10) (v := Value.bool true) rfl (by kernel_rfl) (by kernel_rfl) (by kernel_rfl) (fun _ _ _ h => h) (Or.inl ⟨by rfl, fun w _ => by go_simp⟩) (by assumption) ?_
    refine wpAnyH_take (i := 11) (v := Value.bool true) rfl (by kernel_rfl) (by kernel_rfl) (by kernel_rfl) (fun _ _ _ h => h) (Or.inl ⟨by rfl, fun w _ => by go_simp⟩) (by assumption) ?_
    refine wpAnyH_take (i := 12) (v := Value.bool true) rfl (by kernel_rfl) (by kernel_rfl) (by kernel_rfl) (fun _ _ _ h => h) (Or.inl ⟨by rfl, fun w _ => by go_simp⟩) (by assumption) ?_
    refine wpAnyH_take (i := 13) (v := .agg (bv R3).toArray) rfl (by kernel_rfl) (by kernel_rfl) (by kernel_rfl) (fun _ _ _ h => h) (yieldsIf_load_mid (by rfl) _ _ rfl b3 0 rfl (bv R3) _ (fun w h => row_range h.r3) hu rfl hi3) (by assumption) ?_
    refine wpAnyH_take (i := 14) (v := Value.slice a n cap) rfl (by kernel_rfl) (by kernel_rfl) (by kernel_rfl) (fun _ _ _ h => h) (Or.inl ⟨by rfl, fun w _ => by go_simp⟩) (by assumption) ?_
    refine wpAnyH_take (i := 15) (v := Value.slice a3 r cap3) rfl (by kernel_rfl) (by kernel_rfl) (by kernel_rfl) (fun _ _ _ h => h) (Or.inl ⟨by rfl, fun w _ => by go_simp⟩) (by assumption) ?_
    refine wpAnyH_ready (rs := [16]) (by kernel_rfl) (by simp) ?_
    refine AllReadyH.cons rfl (fun K hK => ?_) AllReadyH.nil
    go_simp
    refine (C3.out _ (by assumption)).mono ?_
    rintro e w' ⟨rfl, I'⟩
    go_wp2_with fail
    refine hK.out _ _ I' (fun hHeld => ?_)
    clear hK K hHeld
    refine wpAnyH_take (i := 17) (v := Value.bool true) rfl (by kernel_rfl) (by kernel_rfl) (by kernel_rfl) (fun _ _ _ h => h) (Or.inl ⟨by rfl, fun w _ => by go_simp⟩) (by assumption) ?_
    refine wpAnyH_take (i := 18) (v := Value.bool true) rfl (by kernel_rfl) (by kernel_rfl) (by kernel_rfl) (fun _ _ _ h => h) (Or.inl ⟨by rfl, fun w _ => by go_simp⟩) (by assumption) ?_
    refine wpAnyH_take (i := 19) (v := Value.bool true) rfl (by kernel_rfl) (by kernel_rfl) (by kernel_rfl) (fun _ _ _ h => h) (Or.inl ⟨by rfl, fun w _ => by go_simp⟩) (by assumption) ?_
    refine wpAnyH_ready (rs := [20]) (by kernel_rfl) (by simp) ?_
    refine AllReadyH.cons rfl (fun K hK => ?_) AllReadyH.nil
    go_simp
    refine (C4.out _ (by assumption)).mono ?_
    rintro e w' ⟨rfl, I'⟩
    go_wp2_with fail
    refine hK.out _ _ I' (fun hHeld => ?_)
    clear hK K hHeld
    refine wpAnyH_take (i := 21) (v := Value.bool true) rfl (by kernel_rfl) (by kernel_rfl) (by kernel_rfl) (fun _ _ _ h => h) (Or.inl ⟨by rfl, fun w _ => by go_simp⟩) (by assumption) ?_
    refine wpAnyH_ready (rs := [22]) (by kernel_rfl) (by simp) ?_
    refine AllReadyH.cons rfl (fun K hK => ?_) AllReadyH.nil
    go_simp
    refine hK.out _ _ I' (fun hHeld => ?_)
    clear hK K hHeld
    refine wpAnyH_done (by kernel_rfl) ?_ _
    go_wp2
    go_ret
    exact ⟨rfl, I'.bel⟩
theorem paramsAre : Tryd.f14.params = #[22, 22, 22] := by kernel_rfl

/-- WHAT THE WALK GIVES, FOR EVERY ARGUMENT AND EVERY WORLD THAT HOLDS THE TABLES. -/
theorem contract (H : Type) (enc : TypeId × Value → H) (W : World) (base : Nat) (args : Array Value) (ds gs : List (DataW H)) (before : List MemPlace)
    (hval : ∀ (j : Nat) t v, Tryd.f14.params[j]? = some t → args[j]? = some v → Value.okWide Tryd.prog W .any base t v)
    (hW : DataW.Whole enc Tryd.prog Tryd.f14.params.toList Rows.macOnceSpec.vars false W args.toList ds gs before) (hL : laidMetH Tryd.prog Rows.macOnceRow.laid W) :
    Calls Tryd.prog 14 args W fun e W' => ∃ v, e = .returned v ∧ Rows.macOnceSpec.post enc Tryd.prog Tryd.f14 false true false false W args v W' := by
  have hW' := hW
  obtain ⟨p, q, hA0, hV, rfl, hfz, hnd⟩ := hW
  have hA : DataW.TrodAll enc Tryd.prog W 0 (fun _ => true) true Tryd.f14.params.toList args.toList ds p := hA0
  rw [paramsAre] at hA hval
  obtain ⟨v0, vs0, d0, ds0, p0, q0, hargs, rfl, rfl, h0, r0⟩ := trodAll_cons hA
  obtain ⟨v1, vs1, d1, ds1, p1, q1, rfl, rfl, rfl, h1, r1⟩ := trodAll_cons r0
  obtain ⟨v2, vs2, d2, ds2, p2, q2, rfl, rfl, rfl, h2, r2⟩ := trodAll_cons r1
  obtain ⟨rfl, rfl, rfl⟩ := trodAll_nil r2
  obtain rfl : args = #[v0, v1, v2] := by cases args; simp_all
  obtain ⟨rfl, rfl⟩ := trodVars_none hV
  clear hA0
  obtain ⟨b0, n0, c0, rfl⟩ := okWide_slice Tryd.underlying22 (hval 0 22 v0 rfl rfl)
  have k0 := h0
  have lt0 : ∀ x ∈ p0, x.block < W.heap.size := by obtain ⟨m, hm⟩ := k0; exact DataW.trod_lt m _ _ _ hm
  obtain ⟨a0, cap0, l0, e0, w0⟩ := open_bytes h0 cells_slice
  injection e0 with ea0 en0 ec0
  subst ea0 en0 ec0
  obtain ⟨b1, n1, c1, rfl⟩ := okWide_slice Tryd.underlying22 (hval 1 22 v1 rfl rfl)
  have k1 := h1
  have lt1 : ∀ x ∈ p1, x.block < W.heap.size := by obtain ⟨m, hm⟩ := k1; exact DataW.trod_lt m _ _ _ hm
  obtain ⟨a1, cap1, l1, e1, w1⟩ := open_bytes h1 cells_slice
  injection e1 with ea1 en1 ec1
  subst ea1 en1 ec1
  obtain ⟨b2, n2, c2, rfl⟩ := okWide_slice Tryd.underlying22 (hval 2 22 v2 rfl rfl)
  have k2 := h2
  have lt2 : ∀ x ∈ p2, x.block < W.heap.size := by obtain ⟨m, hm⟩ := k2; exact DataW.trod_lt m _ _ _ hm
  obtain ⟨a2, cap2, l2, e2, w2⟩ := open_bytes h2 cells_slice
  injection e2 with ea2 en2 ec2
  subst ea2 en2 ec2
  simp only [List.append_nil] at hW'
  refine (walk W (tabs_of_laid hL) l0 b0 c0 w0 l1 b1 c1 w1 l2 b2 c2 w2).mono fun e W' ⟨he, bel⟩ => ?_
  subst he
  exact ⟨_, rfl, _, _, _, [], _, [], hW', trodAll_mk1 (shut_bool Tryd.underlying4 _), (trodAll_cons_mk (Below.trod laidOut (by kernel_rfl) (of_decide_eq_true (by kernel_rfl)) k0 bel lt0) (trodAll_cons_mk (Below.trod laidOut (by kernel_rfl) (of_decide_eq_true (by kernel_rfl)) k1 bel lt1) (trodAll_cons_mk (Below.trod laidOut (by kernel_rfl) (of_decide_eq_true (by kernel_rfl)) k2 bel lt2) trodAll_mk0))), rfl, bel.frame _, fun h => by cases h⟩

/-- A WORLD FOR THE WITNESS: the settled one, the tables holding what their initialisers lay. -/
noncomputable def laidWorld (os : Os) : World :=
  { World.holding Tryd.prog os ⟨#[], #[], []⟩ with heap := ((World.holding Tryd.prog os ⟨#[], #[], []⟩).heap.modify 0 (layCells (wv Sha.hTab).toArray)).modify 1 (layCells (wv Sha.kTab).toArray) }
theorem laid_met (os : Os) : laidMet Tryd.prog Rows.macOnceRow.laid ((laidWorld os).forCall (fun _ _ => 0) ⟨#[], #[.slice none 0 0, .slice none 0 0, .slice none 0 0], []⟩).memory :=
  laidMet_of_run' 8 (by kernel_rfl) (by kernel_rfl)
theorem reads (os : Os) {H : Type} (enc : TypeId × Value → H) : ∃ places, DataW.whole enc Tryd.prog ((laidWorld os).forCall (fun _ _ => 0) ⟨#[], #[.slice none 0 0, .slice none 0 0, .slice none 0 0], []⟩).memory Tryd.f14.params.toList Rows.macOnceSpec.vars false (#[.slice none 0 0, .slice none 0 0, .slice none 0 0] : Array Value).toList 8 = some ([.nil, .nil, .nil], [], places) :=
  ⟨[], by kernel_rfl⟩

set_option maxRecDepth 100000 in
theorem lifted (os : Os) (started : os.Started) (H : Type) (enc : TypeId × Value → H) (F : Stop.Interp) :
    ReturnsInHanded {} Tryd.checked os 14 .any ((OpenSpec.ofChange Rows.macOnceSpec).preRow enc Tryd.prog Tryd.f14 Rows.macOnceRow.domain false Rows.macOnceRow.laid) (((OpenSpec.ofChange Rows.macOnceSpec).at F).post enc Tryd.prog Tryd.f14 false true false false) := by
  obtain ⟨places, hx⟩ := reads os enc
  refine returnsInHanded_of_row (C := Tryd.checked) (s := OpenSpec.ofChange Rows.macOnceSpec) own started (by kernel_rfl) Tryd.func14
    (witness_row_at (enc := enc) (C := Tryd.checked) false (laidWorld os) #[.slice none 0 0, .slice none 0 0, .slice none 0 0] rfl (by kernel_rfl) (by kernel_rfl) (by kernel_rfl)
      (OpenSpec.preRow_of_cond 8 hx (by kernel_rfl) (fun k hk => by cases hk) (by kernel_rfl) (laid_met os))) ?_
  intro W base args ds gs before hval hW _ _ _ hL _ _
  exact contract H enc W base args ds gs before hval hW hL

theorem said : Rows.MacOnceSaid :=
  OpenClaim.holds_of_cond 14 Tryd.f14 rfl rfl rfl rfl rfl rfl rfl ⟨rfl, rfl, rfl, rfl, rfl⟩ rfl rfl rfl rfl rfl (by kernel_rfl) Tryd.func14 (by kernel_rfl)
    (of_decide_eq_true (by kernel_rfl)) (by unfold Func.isWrapper; first | (rw [if_pos (by decide +kernel)]; kernel_rfl) | (rw [if_neg (by decide +kernel)]; exact ⟨rfl, rfl⟩))
    (fun os started H enc _ F => by rw [OpenClaim.pre_eq_preRow]; exact lifted os started H enc F)

theorem plain (f : FuncId) (fn : Func) (hf : Tryd.pinned.checked.prog.funcNamed "fairlead/fairleadlaw07.MacOnce" = some f) (hfn : Tryd.pinned.checked.prog.funcs[f]? = some fn) :
    false = Tryd.pinned.checked.prog.looks [] ∧ ∀ (j : Nat) t, fn.params[j]? = some t → Tryd.pinned.checked.prog.wantsStandIn t = false := by
  obtain rfl : f = 14 := Option.some.inj ((show Tryd.prog.funcNamed "fairlead/fairleadlaw07.MacOnce" = some 14 by kernel_rfl).symm.trans hf) |>.symm
  obtain rfl : fn = Tryd.f14 := (Option.some.inj (Tryd.func14.symm.trans hfn)).symm
  refine ⟨by kernel_rfl, fun j t ht => ?_⟩
  rw [paramsAre] at ht
  obtain rfl : t = 22 := by have := Array.mem_of_getElem? ht; simpa using this
  exact (show Tryd.prog.wantsStandIn 22 = false by kernel_rfl)

/-- ████ THE CARD ████ -/
theorem card : Rows.MacOnceCardSaid :=
  Claim7.holds_tied_plain_at .later [] _ _ _ _ said (fun _ h => by cases h) (by kernel_rfl) (fun _ h => by cases h) macOnce_row_tie rfl ⟨rfl, rfl⟩ (by kernel_rfl) rfl plain (by kernel_rfl)
#print axioms card
end Go.Proofs.YtadpcefdkifagaaDoor.macOnceDone
