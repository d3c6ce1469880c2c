/- MacKeys: for every input the law returns true and the input reads as it did. Conditions: the row's own (the tables are laid as the program's text lays them). -/
import Derived.Test.YtadpcefdkifagaaDoorRef7
import Derived.Deep.RegionHeld3
namespace Go.Proofs.YtadpcefdkifagaaDoor.macKeysDone
open Go.ChangeShapes Go.WideShapes Go.ChangeAt Go.RowKit
open Sha (W)

/-- what stays while it is asked again -/
structure Inv (w : World) (b1 : Nat) (R : List UInt8) (aK : Option Addr) (cK : Nat) (K : List UInt8) (w' : World) : Prop where
  r1 : HasRow w' b1 (bv R) 25
  bk : Bytes w' (fun _ => False) aK cK K
  bel : Below w.heap.size w w'
theorem Inv.drew {w w' : World} {b1 cK : Nat} {R K : List UInt8} {aK : Option Addr} (h : Inv w b1 R aK cK K w') : Inv w b1 R aK cK K w'.drew := ⟨h.r1, h.bk, h.bel.drew⟩
theorem Inv.below {w w' w'' : World} {b1 cK : Nat} {R K : List UInt8} {aK : Option Addr} (h : Inv w b1 R aK cK K w') (b : Below w'.heap.size w' w'') : Inv w b1 R aK cK K w'' :=
  ⟨h.r1.below b h.r1.lt, h.bk.below b (fun _ hb _ => hb), h.bel.trans (b.mono h.bel.size)⟩
theorem row_range {w : World} {g : Nat} {l : List Value} {T : TypeId} (h : HasRow w g l T) : w.rangeAt g 0 l := fun j v hv => by rw [Nat.zero_add, h.cell_any]; exact hv
theorem Inv.held {w w' : World} {b1 cK : Nat} {R K : List UInt8} {aK : Option Addr} (h : Inv w b1 R aK cK K w') : w'.rangeAt b1 0 (bv R) ∧ Inv w b1 R aK cK K w' := ⟨row_range h.r1, h⟩

theorem mac_pad {k k' : List UInt8} (t : List UInt8) (h : Sha.pad64 (Sha.short k) = Sha.pad64 (Sha.short k')) : Sha.mac k t = Sha.mac k' t := by
  simp only [Sha.mac, Sha.turned, h]
theorem mac_sum {l : List UInt8} (t : List UInt8) (h : 64 < l.length) : Sha.mac (Sha.sum l) t = Sha.mac l t := by
  apply mac_pad
  rw [Sha.short, if_neg (by rw [Sha.length_sum]; omega), Sha.short, if_pos h]
theorem mac_zeros {l : List UInt8} (t : List UInt8) (k : Nat) (h : l.length + k ≤ 64) : Sha.mac (l ++ List.replicate k 0) t = Sha.mac l t := by
  apply mac_pad
  rw [Sha.short, if_neg (by simp; omega), Sha.short, if_neg (by omega)]
  simp only [Sha.pad64, List.append_assoc, List.length_append, List.length_replicate, List.replicate_append_replicate]
  congr 2
  omega

set_option maxRecDepth 100000 in
set_option maxHeartbeats 4000000 in
theorem walk (w : World) (htab : Tabs w) (l : List UInt8) (a : Option Addr) (cap : Nat) (hb : Bytes w (Old w) a cap l) (t : List UInt8) (a2 : Option Addr) (cap2 : Nat) (hb2 : Bytes w (Old w) a2 cap2 t)
    (z : Int) (wz : (Lit.int .u8 z).wf = true) :
    Calls Tryd.prog 12 #[.slice a l.length cap, .slice a2 t.length cap2, .int .u8 z] w fun e w' => e = .returned (.bool true) ∧ Below w.heap.size w w' := by
  have h2 := size_of_tabs htab
  obtain ⟨z0, z255⟩ := bounds_u8 wz
  have zw : IntKind.i64.wrap z = z := IntWalk.i64_in _ (by omega)
  have Htab := hid htab
  have Hb := hid hb
  have Hb2 := hid hb2
  have hcap : l.length ≤ cap ∧ cap ≤ 9223372036854775807 := by have h1 := hb.1; have h2 := hb.2.1; unfold maxLen at h2; omega
  have hcap2 : t.length ≤ cap2 ∧ cap2 ≤ 9223372036854775807 := by have h1 := hb2.1; have h2 := hb2.2.1; unfold maxLen at h2; omega
  clear hb hb2 htab wz
  obtain ⟨n, hn⟩ : ∃ n, n = l.length := ⟨_, rfl⟩
  have Hn := hid hn
  obtain ⟨m, hm⟩ : ∃ m, m = t.length := ⟨_, rfl⟩
  have Hm := hid hm
  rw [← hn] at hcap ⊢
  rw [← hm] at hcap2 ⊢
  clear hn hm
  by_cases hbad : 4096 < n ∨ 4096 < m
  · by_cases hl : 4096 < n
    all_goals
      have hbad2 : 4096 < n ∨ 4096 < m := hbad
      clear hbad
      go_enter Tryd.func12, Tryd.ntmps12
      go_wp2_with fail
      refine (works7_any _ Htab.out h2).mono ?_
      rintro e w1 ⟨rfl, b1⟩
      go_wp2
      go_ret
      exact ⟨rfl, b1⟩
  · have hn4 : ¬ 4096 < n := by omega
    have hm4 : ¬ 4096 < m := by omega
    have hn5 : n ≤ 4096 := by omega
    clear hbad
    obtain ⟨R, hR⟩ : ∃ R, R = Sha.mac l t := ⟨_, rfl⟩
    have RL : Hid (R.length = 32) := by rw [hR]; exact Sha.length_mac _ _
    have HR := hid hR
    have eq1 := eq32 R RL.out
    have F3 : Hid ((Tryd.prog.info? 25).map (·.size) = some (bv R).length) := by rw [length_bv, RL.out]; exact (show (Tryd.prog.info? 25).map (·.size) = some 32 by kernel_rfl)
    have F4 : Hid (0 + (bv R).length ≤ (bv (List.replicate 32 0)).length) := by rw [length_bv, RL.out]; exact Nat.le_refl 32
    have F5 : Hid ((bv (List.replicate 32 0)).length = (bv R).length) := by rw [length_bv R, RL.out]; rfl
    have C1 : Hid (∀ (K : List UInt8) (q : Nat), K.length = q → q ≤ 64 → ∀ b1 aK cK w', Inv w b1 R aK cK K w' → Calls Tryd.prog 26 #[.slice aK q cK, .slice a2 m cap2] w' fun e w'' => e = .returned (.agg (bv (Sha.mac K t)).toArray) ∧ Inv w b1 R aK cK K w'') :=
      fun K q hq h64 b1 aK cK w' h => (mac_any w' (Htab.out.below h2 h.bel) (by have := h.bel.size; omega) _ (Old w) K q hq (by omega) aK cK h.bk t m Hm.out.symm (by omega) a2 cap2 (Hb2.out.below h.bel (fun b hb _ => hb))).mono fun e w'' ⟨he, hb⟩ => ⟨he, h.below hb⟩
    have C4 : Hid (∀ (K : List UInt8) b1 aK cK w', Inv w b1 R aK cK K w' → Calls Tryd.prog 25 #[] w' fun e w'' => e = .returned (.bool true) ∧ Inv w b1 R aK cK K w'') := fun K b1 aK cK w' h => (works7_any w' (Htab.out.below h2 h.bel) (by have := h.bel.size; omega)).mono fun e w'' ⟨he, hb⟩ => ⟨he, h.below hb⟩
    clear hR
    by_cases h64 : 64 < n
    · go_enter Tryd.func12, Tryd.ntmps12
      go_wp2_with fail
      refine (mac_any w Htab.out (by omega) (Old w) (Old w) l n Hn.out.symm (by omega) a cap Hb.out t m Hm.out.symm (by omega) a2 cap2 Hb2.out).mono ?_
      rintro e w1 ⟨rfl, b1⟩
      rw [← HR.out]
      have N1 := hid (HasRow.new w1 (bv (List.replicate 32 0)) 25)
      have B1 := hid b1
      clear b1
      go_wp2_with (refine wpList_store_into rfl 25 _ _ rfl w1.heap.size 0 rfl (bv R) rfl (bv (List.replicate 32 0)) 25 N1.out F3.out F4.out (one_bv _) ?_; intro w2 h6 g6 s6; rw [splice_all _ _ F5.out] at h6; have H2 := hid h6; have G2 := hid g6; clear h6 g6 s6)
      have B2 : Hid (Below w.heap.size w w2) := (B1.out.alloc B1.out.size _).grown G2.out (by simp; have := B1.out.size; omega) (by intro k hk; injection hk with hk; have := B1.out.size; omega)
      refine (sum_len l n Hn.out.symm a cap w2 (Old w) (Hb.out.below B2.out (fun b hb _ => hb)) (Htab.out.below h2 B2.out) (by have := B2.out.size; omega) (by omega)).mono ?_
      rintro e w3 ⟨rfl, b3⟩
      obtain ⟨K, hK⟩ : ∃ K, K = Sha.sum l := ⟨_, rfl⟩
      rw [← hK]
      have KL : Hid (K.length = 32) := by rw [hK]; exact Sha.length_sum _
      have K3 : Hid ((Tryd.prog.info? 25).map (·.size) = some (bv K).length) := by rw [length_bv, KL.out]; exact (show (Tryd.prog.info? 25).map (·.size) = some 32 by kernel_rfl)
      have K4 : Hid (0 + (bv K).length ≤ (bv (List.replicate 32 0)).length) := by rw [length_bv, KL.out]; exact Nat.le_refl 32
      have K5 : Hid ((bv (List.replicate 32 0)).length = (bv K).length) := by rw [length_bv K, KL.out]; rfl
      have MK : Hid (Sha.mac K t = R) := by rw [hK, HR.out]; exact mac_sum t (by rw [← Hn.out]; exact h64)
      have B3 : Hid (Below w.heap.size w w3) := B2.out.trans (b3.mono B2.out.size)
      have H3 : Hid (HasRow w3 w1.heap.size (bv R) 25) := H2.out.below b3 H2.out.lt
      have N3 := hid (HasRow.new w3 (bv (List.replicate 32 0)) 25)
      clear b3 hK
      go_wp2_with (refine wpList_store_into rfl 25 _ _ rfl w3.heap.size 0 rfl (bv K) rfl (bv (List.replicate 32 0)) 25 N3.out K3.out K4.out (one_bv _) ?_; intro w4 h6 g6 s6; rw [splice_all _ _ K5.out] at h6; have H4 := hid h6; have G4 := hid g6; clear h6 g6 s6)
      have B4 : Hid (Below w.heap.size w w4) := (B3.out.alloc B3.out.size _).grown G4.out (by simp; have := B3.out.size; omega) (by intro k hk; injection hk with hk; have := B3.out.size; omega)
      have R4 : Hid (HasRow w4 w1.heap.size (bv R) 25) := (H3.out.alloc _).grown G4.out (by intro e; injection e with e; have := H3.out.lt; omega)
      obtain ⟨g1, hg1⟩ : ∃ g1, g1 = w1.heap.size := ⟨_, rfl⟩
      obtain ⟨g3, hg3⟩ : ∃ g3, g3 = w3.heap.size := ⟨_, rfl⟩
      rw [← hg1] at R4
      rw [← hg3] at H4
      rw [← hg1, ← hg3]
      have I4 : Inv w g1 R (some ⟨g3, 0, none⟩) 32 K w4 := ⟨R4.out, bytes_row H4.out _ (fun h => h) 32 KL.out (by omega), B4.out⟩
      have I4d := I4.drew
      have D1 : Hid (∀ w', Inv w g1 R (some ⟨g3, 0, none⟩) 32 K w' → Calls Tryd.prog 26 #[.slice (some ⟨g3, 0, none⟩) 32 32, .slice a2 m cap2] w' fun e w'' => e = .returned (.agg (bv R).toArray) ∧ Inv w g1 R (some ⟨g3, 0, none⟩) 32 K w'') := fun w' h => by
        have := C1.out K 32 KL.out (by omega) g1 _ 32 w' h
        rwa [MK.out] at this
      have hu := Tryd.underlying25
      have hi1 : (Tryd.prog.info? 25).map (·.size) = some (bv R).length := F3.out
      clear R4 H4 B4 hg1 hg3 C1
      go_region_held3 (fun w' => w'.rangeAt g1 0 (bv R) ∧ Inv w g1 R (some ⟨g3, 0, none⟩) 32 K w') ((apply Inv.held; assumption)) (first
        | (go_at_call 26; refine (D1.out _ (by assumption)).mono ?_; rintro e w' ⟨rfl, I'⟩)
        | (go_at_call 25; refine (C4.out _ _ _ _ _ (by assumption)).mono ?_; rintro e w' ⟨rfl, I'⟩))
      all_goals
        go_wp2
        go_ret
        exact ⟨rfl, I'.bel⟩
    · obtain ⟨i0, hi, hz0, hz1, hz2⟩ := info_parts info_u8
      have Hi := hid hi
      have Hz0 := hid hz0
      have Hz1 := hid hz1
      have Hz2 := hid hz2
      clear hi hz0 hz1 hz2
      go_enter Tryd.func12, Tryd.ntmps12
      go_wp2_with fail
      refine (mac_any w Htab.out (by omega) (Old w) (Old w) l n Hn.out.symm (by omega) a cap Hb.out t m Hm.out.symm (by omega) a2 cap2 Hb2.out).mono ?_
      rintro e w1 ⟨rfl, b1⟩
      rw [← HR.out]
      have N1 := hid (HasRow.new w1 (bv (List.replicate 32 0)) 25)
      have B1 := hid b1
      clear b1
      go_wp2_with (refine wpList_store_into rfl 25 _ _ rfl w1.heap.size 0 rfl (bv R) rfl (bv (List.replicate 32 0)) 25 N1.out F3.out F4.out (one_bv _) ?_; intro w2 h6 g6 s6; rw [splice_all _ _ F5.out] at h6; have H2 := hid h6; have G2 := hid g6; clear h6 g6 s6)
      have B2 : Hid (Below w.heap.size w w2) := (B1.out.alloc B1.out.size _).grown G2.out (by simp; have := B1.out.size; omega) (by intro k hk; injection hk with hk; have := B1.out.size; omega)
      refine (copy_len w2 (Old w) l n Hn.out.symm a cap (Hb.out.below B2.out (fun b hb _ => hb)) (by omega)).mono ?_
      rintro e w3 ⟨v, rfl, ow, b3⟩
      rw [← Hn.out] at ow
      have Ow := hid ow
      have B3 := hid b3
      clear ow b3
      go_wp2_with fail
      go_loopw [9, 10] (fun v i wr => ∃ k : Nat, n + k ≤ 64 ∧ i = .int .i64 (k : Int) ∧ wr.ownsRow w2.heap.size 5 1 v (n + k) (bv (l ++ List.replicate k 0)) ∧ Below w2.heap.size w2 wr) (fun _ i _ => 64 - (intOf i).toNat)
      case atStart => exact ⟨0, by omega, rfl, by simpa using Ow.out, B3.out⟩
      case round =>
        obtain ⟨k, hk, rfl, ow, bb⟩ := hrel
        obtain ⟨wo, rfl⟩ : ∃ wo : World, wo = wr := ⟨_, rfl⟩
        obtain ⟨aK, cK, hv, hby, _⟩ := own_open ow (fun _ => False) (fun _ _ h => h)
        subst hv
        have hcK : n + k ≤ cK ∧ cK ≤ 9223372036854775807 := by have h1 := hby.1; have h2 := hby.2.1; have := Hn.out; unfold maxLen at h2; simp at h1; omega
        have Ow := hid ow
        have Hby := hid hby
        have Bb := hid bb
        clear ow hby bb
        have Zo := hid Bb.out.size
        by_cases hgo : (k : Int) < z ∧ n + k < 64
        · obtain ⟨hg1, hg2⟩ := hgo
          have HL : Hid ((l ++ List.replicate k 0) ++ [0] = l ++ List.replicate (k + 1) (0 : UInt8)) := by rw [List.append_assoc, List.replicate_succ']; rfl
          go_wp2_with (refine wpList_append_any rfl (.tmp 49) (.tmp 50) 22 rfl w2.heap.size 5 i0 Tryd.underlying22 Hi.out Hz0.out Hz1.out Hz2.out _ (n + k) _ rfl (Ow.out.alloc _) _ 1 1 [0] rfl rfl (newb wo 0 5) (by omega) (by simp; exact Nat.le_trans Zo.out (Nat.le_succ _)) ?_; intro v4 w4 hown4 g4 hv4; rw [HL.out] at hown4; have Hown4 := hid hown4; have G4 := hid g4; clear hown4 g4 hv4)
          go_roundw
          case rel =>
            exact ⟨k + 1, by omega, by go_num, Hown4.out, own_below_of (Ow.out.alloc _) G4.out (Bb.out.alloc Zo.out _) (Nat.le_refl _) (by simp; exact Nat.le_trans Zo.out (Nat.le_succ _))⟩
          case measure => simp [intOf]; omega
        · have hstop : Hid (¬ ((k : Int) < z ∧ n + k < 64)) := hgo
          clear hgo
          obtain ⟨K, hK⟩ : ∃ K, K = l ++ List.replicate k 0 := ⟨_, rfl⟩
          have MK : Hid (Sha.mac K t = R) := by rw [hK, HR.out]; exact mac_zeros t k (by have := Hn.out; omega)
          have KL : Hid (K.length = n + k) := by rw [hK]; simp; exact Hn.out.symm
          rw [← hK] at Hby
          obtain ⟨g1, hg1⟩ : ∃ g1, g1 = w1.heap.size := ⟨_, rfl⟩
          have R4 : Hid (HasRow wo g1 (bv R) 25) := by rw [hg1]; exact H2.out.below Bb.out H2.out.lt
          have BT : Hid (Below w.heap.size w wo) := B2.out.trans (Bb.out.mono B2.out.size)
          rw [← hg1]
          have I4 : Inv w g1 R aK cK K wo := ⟨R4.out, Hby.out, BT.out⟩
          have I4d := I4.drew
          have D1 : Hid (∀ w', Inv w g1 R aK cK K w' → Calls Tryd.prog 26 #[.slice aK (n + k) cK, .slice a2 m cap2] w' fun e w'' => e = .returned (.agg (bv R).toArray) ∧ Inv w g1 R aK cK K w'') := fun w' h => by
            have := C1.out K (n + k) KL.out (by omega) g1 aK cK w' h
            rwa [MK.out] at this
          have hu := Tryd.underlying25
          have hi1 : (Tryd.prog.info? 25).map (·.size) = some (bv R).length := F3.out
          clear R4 hg1 C1 hK Ow
          by_cases hkz : (k : Int) < z
          all_goals
            have hk64 : (k : Int) < z → ¬ n + k < 64 := fun h1 h2 => hstop.out ⟨h1, h2⟩
            first
              | (have hk65 := hk64 hkz)
              | (have hkd : decide ((k : Int) < z) = false := by simpa using hkz)
            clear hk64
            go_wp2_with fail
            go_region_held3 (fun w' => w'.rangeAt g1 0 (bv R) ∧ Inv w g1 R aK cK K w') ((apply Inv.held; assumption)) (first
              | (go_at_call 26; refine (D1.out _ (by assumption)).mono ?_; rintro e w' ⟨rfl, I'⟩)
              | (go_at_call 25; refine (C4.out _ _ _ _ _ (by assumption)).mono ?_; rintro e w' ⟨rfl, I'⟩))
            all_goals
              go_wp2
              go_ret
              exact ⟨rfl, I'.bel⟩
theorem paramsAre : Tryd.f12.params = #[22, 22, 5] := by kernel_rfl

/-- WHAT THE WALK GIVES, FOR EVERY ARGUMENT AND EVERY WORLD THAT HOLDS THE TABLES. -/
theorem contract (H : Type) (enc : TypeId × Value → H) (W : World) (base : Nat) (args : Array Value) (ds gs : List (DataW H)) (before : List MemPlace)
    (hval : ∀ (j : Nat) t v, Tryd.f12.params[j]? = some t → args[j]? = some v → Value.okWide Tryd.prog W .any base t v)
    (hW : DataW.Whole enc Tryd.prog Tryd.f12.params.toList Rows.macKeysSpec.vars false W args.toList ds gs before) (hL : laidMetH Tryd.prog Rows.macKeysRow.laid W) :
    Calls Tryd.prog 12 args W fun e W' => ∃ v, e = .returned v ∧ Rows.macKeysSpec.post enc Tryd.prog Tryd.f12 false true false false W args v W' := by
  have hW' := hW
  obtain ⟨p, q, hA0, hV, rfl, hfz, hnd⟩ := hW
  have hA : DataW.TrodAll enc Tryd.prog W 0 (fun _ => true) true Tryd.f12.params.toList args.toList ds p := hA0
  rw [paramsAre] at hA hval
  obtain ⟨v0, vs0, d0, ds0, p0, q0, hargs, rfl, rfl, h0, r0⟩ := trodAll_cons hA
  obtain ⟨v1, vs1, d1, ds1, p1, q1, rfl, rfl, rfl, h1, r1⟩ := trodAll_cons r0
  obtain ⟨v2, vs2, d2, ds2, p2, q2, rfl, rfl, rfl, h2, r2⟩ := trodAll_cons r1
  obtain ⟨rfl, rfl, rfl⟩ := trodAll_nil r2
  obtain rfl : args = #[v0, v1, v2] := by cases args; simp_all
  obtain ⟨rfl, rfl⟩ := trodVars_none hV
  clear hA0
  obtain ⟨b0, n0, c0, rfl⟩ := okWide_slice Tryd.underlying22 (hval 0 22 v0 rfl rfl)
  have k0 := h0
  have lt0 : ∀ x ∈ p0, x.block < W.heap.size := by obtain ⟨m, hm⟩ := k0; exact DataW.trod_lt m _ _ _ hm
  obtain ⟨a0, cap0, l0, e0, w0⟩ := open_bytes h0 cells_slice
  injection e0 with ea0 en0 ec0
  subst ea0 en0 ec0
  obtain ⟨b1, n1, c1, rfl⟩ := okWide_slice Tryd.underlying22 (hval 1 22 v1 rfl rfl)
  have k1 := h1
  have lt1 : ∀ x ∈ p1, x.block < W.heap.size := by obtain ⟨m, hm⟩ := k1; exact DataW.trod_lt m _ _ _ hm
  obtain ⟨a1, cap1, l1, e1, w1⟩ := open_bytes h1 cells_slice
  injection e1 with ea1 en1 ec1
  subst ea1 en1 ec1
  obtain ⟨z2, rfl, rfl, rfl, w2⟩ := open_int Tryd.underlying5 (hval 2 5 v2 rfl rfl) h2
  simp only [List.append_nil] at hW'
  refine (walk W (tabs_of_laid hL) l0 b0 c0 w0 l1 b1 c1 w1 z2 w2).mono fun e W' ⟨he, bel⟩ => ?_
  subst he
  exact ⟨_, rfl, _, _, _, [], _, [], hW', trodAll_mk1 (shut_bool Tryd.underlying4 _), (trodAll_cons_mk (Below.trod laidOut (by kernel_rfl) (of_decide_eq_true (by kernel_rfl)) k0 bel lt0) (trodAll_cons_mk (Below.trod laidOut (by kernel_rfl) (of_decide_eq_true (by kernel_rfl)) k1 bel lt1) (trodAll_cons_mk (shut_int Tryd.underlying5 w2) trodAll_mk0))), rfl, bel.frame _, fun h => by cases h⟩

/-- A WORLD FOR THE WITNESS: the settled one, the tables holding what their initialisers lay. -/
noncomputable def laidWorld (os : Os) : World :=
  { World.holding Tryd.prog os ⟨#[], #[], []⟩ with heap := ((World.holding Tryd.prog os ⟨#[], #[], []⟩).heap.modify 0 (layCells (wv Sha.hTab).toArray)).modify 1 (layCells (wv Sha.kTab).toArray) }
theorem laid_met (os : Os) : laidMet Tryd.prog Rows.macKeysRow.laid ((laidWorld os).forCall (fun _ _ => 0) ⟨#[], #[.slice none 0 0, .slice none 0 0, .int .u8 0], []⟩).memory :=
  laidMet_of_run' 8 (by kernel_rfl) (by kernel_rfl)
theorem reads (os : Os) {H : Type} (enc : TypeId × Value → H) : ∃ places, DataW.whole enc Tryd.prog ((laidWorld os).forCall (fun _ _ => 0) ⟨#[], #[.slice none 0 0, .slice none 0 0, .int .u8 0], []⟩).memory Tryd.f12.params.toList Rows.macKeysSpec.vars false (#[.slice none 0 0, .slice none 0 0, .int .u8 0] : Array Value).toList 8 = some ([.nil, .nil, .lit (.int .u8 0)], [], places) :=
  ⟨[], by kernel_rfl⟩

set_option maxRecDepth 100000 in
theorem lifted (os : Os) (started : os.Started) (H : Type) (enc : TypeId × Value → H) (F : Stop.Interp) :
    ReturnsInHanded {} Tryd.checked os 12 .any ((OpenSpec.ofChange Rows.macKeysSpec).preRow enc Tryd.prog Tryd.f12 Rows.macKeysRow.domain false Rows.macKeysRow.laid) (((OpenSpec.ofChange Rows.macKeysSpec).at F).post enc Tryd.prog Tryd.f12 false true false false) := by
  obtain ⟨places, hx⟩ := reads os enc
  refine returnsInHanded_of_row (C := Tryd.checked) (s := OpenSpec.ofChange Rows.macKeysSpec) own started (by kernel_rfl) Tryd.func12
    (witness_row_at (enc := enc) (C := Tryd.checked) false (laidWorld os) #[.slice none 0 0, .slice none 0 0, .int .u8 0] rfl (by kernel_rfl) (by kernel_rfl) (by kernel_rfl)
      (OpenSpec.preRow_of_cond 8 hx (by kernel_rfl) (fun k hk => by cases hk) (by kernel_rfl) (laid_met os))) ?_
  intro W base args ds gs before hval hW _ _ _ hL _ _
  exact contract H enc W base args ds gs before hval hW hL

theorem said : Rows.MacKeysSaid :=
  OpenClaim.holds_of_cond 12 Tryd.f12 rfl rfl rfl rfl rfl rfl rfl ⟨rfl, rfl, rfl, rfl, rfl⟩ rfl rfl rfl rfl rfl (by kernel_rfl) Tryd.func12 (by kernel_rfl)
    (of_decide_eq_true (by kernel_rfl)) (by unfold Func.isWrapper; first | (rw [if_pos (by decide +kernel)]; kernel_rfl) | (rw [if_neg (by decide +kernel)]; exact ⟨rfl, rfl⟩))
    (fun os started H enc _ F => by rw [OpenClaim.pre_eq_preRow]; exact lifted os started H enc F)

theorem plain (f : FuncId) (fn : Func) (hf : Tryd.pinned.checked.prog.funcNamed "fairlead/fairleadlaw07.MacKeys" = some f) (hfn : Tryd.pinned.checked.prog.funcs[f]? = some fn) :
    false = Tryd.pinned.checked.prog.looks [] ∧ ∀ (j : Nat) t, fn.params[j]? = some t → Tryd.pinned.checked.prog.wantsStandIn t = false := by
  obtain rfl : f = 12 := Option.some.inj ((show Tryd.prog.funcNamed "fairlead/fairleadlaw07.MacKeys" = some 12 by kernel_rfl).symm.trans hf) |>.symm
  obtain rfl : fn = Tryd.f12 := (Option.some.inj (Tryd.func12.symm.trans hfn)).symm
  refine ⟨by kernel_rfl, fun j t ht => ?_⟩
  rw [paramsAre] at ht
  have hm : t = 22 ∨ t = 22 ∨ t = 5 := by have := Array.mem_of_getElem? ht; simpa using this
  rcases hm with rfl | rfl | rfl
  · exact (show Tryd.prog.wantsStandIn 22 = false by kernel_rfl)
  · exact (show Tryd.prog.wantsStandIn 22 = false by kernel_rfl)
  · exact (show Tryd.prog.wantsStandIn 5 = false by kernel_rfl)

/-- ████ THE CARD ████ -/
theorem card : Rows.MacKeysCardSaid :=
  Claim7.holds_tied_plain_at .later [] _ _ _ _ said (fun _ h => by cases h) (by kernel_rfl) (fun _ h => by cases h) macKeys_row_tie rfl ⟨rfl, rfl⟩ (by kernel_rfl) rfl plain (by kernel_rfl)
#print axioms card
end Go.Proofs.YtadpcefdkifagaaDoor.macKeysDone
