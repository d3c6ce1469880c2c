/- MacWhole: for every input the law returns true and the input reads as it did. Conditions: the row's own (the tables are laid as the program's text lays them). -/
import Derived.Test.YtadpcefdkifagaaDoorMac2
namespace Go.Proofs.YtadpcefdkifagaaDoor.macWholeDone
open Go.ChangeShapes Go.WideShapes Go.ChangeAt Go.RowKit
open Sha (W)

theorem new_byte0 (w : World) (x : UInt8) (T : TypeId) : 0 < 1 → ∃ b off, (some ⟨w.heap.size, 0, none⟩ : Option Addr) = some ⟨b, off, none⟩ ∧ ∀ j, j < 1 → (w.alloc (.cells #[.int .u8 (bt8 x)] T)).cell? ⟨b, off + j, none⟩ = some (.int .u8 (bt8 ([x].getD j 0))) := fun _ =>
  ⟨w.heap.size, 0, rfl, fun j hj => by
    obtain rfl : j = 0 := by omega
    exact (HasRow.new w [.int .u8 (bt8 x)] T).cell_any 0⟩

set_option maxRecDepth 100000 in
set_option maxHeartbeats 4000000 in
theorem walk (w : World) (htab : Tabs w) (l : List UInt8) (a : Option Addr) (cap : Nat) (hb : Bytes w (Old w) a cap l) (t : List UInt8) (a2 : Option Addr) (cap2 : Nat) (hb2 : Bytes w (Old w) a2 cap2 t) :
    Calls Tryd.prog 11 #[.slice a l.length cap, .slice a2 t.length cap2] w fun e w' => e = .returned (.bool true) ∧ Below w.heap.size w w' := by
  have h2 := size_of_tabs htab
  have Htab := hid htab
  have Hb := hid hb
  have Hb2 := hid hb2
  have hcap : l.length ≤ cap ∧ cap ≤ 9223372036854775807 := by have h1 := hb.1; have h2 := hb.2.1; unfold maxLen at h2; omega
  have hcap2 : t.length ≤ cap2 ∧ cap2 ≤ 9223372036854775807 := by have h1 := hb2.1; have h2 := hb2.2.1; unfold maxLen at h2; omega
  clear hb hb2 htab
  obtain ⟨n, hn⟩ : ∃ n, n = l.length := ⟨_, rfl⟩
  have Hn := hid hn
  rw [← hn] at hcap ⊢
  obtain ⟨m, hm⟩ : ∃ m, m = t.length := ⟨_, rfl⟩
  have Hm := hid hm
  rw [← hm] at hcap2 ⊢
  clear hn hm
  by_cases hbad : 4096 < n ∨ 4096 < m
  · by_cases hl : 4096 < n
    all_goals
      have hbad2 : 4096 < n ∨ 4096 < m := hbad
      clear hbad
      go_enter Tryd.func11, Tryd.ntmps11
      go_wp2_with fail
      refine (works7_any _ Htab.out h2).mono ?_
      rintro e w1 ⟨rfl, b1⟩
      go_wp2
      go_ret
      exact ⟨rfl, b1⟩
  · have hn4 : n ≤ 4096 := by omega
    have hm4 : m ≤ 4096 := by omega
    have hn4' : ¬ 4096 < n := by omega
    have hm4' : ¬ 4096 < m := by omega
    clear hbad
    obtain ⟨i0, hi, hz0, hz1, hz2⟩ := info_parts info_u8
    have Hi := hid hi
    have Hz0 := hid hz0
    have Hz1 := hid hz1
    have Hz2 := hid hz2
    obtain ⟨K, hK⟩ : ∃ K, K = Sha.short l := ⟨_, rfl⟩
    obtain ⟨q, hq⟩ : ∃ q, q = K.length := ⟨_, rfl⟩
    have q64 : q ≤ 64 := by rw [hq, hK]; exact Sha.length_short l
    have HK := hid hK
    have Hq := hid hq
    clear hi hz0 hz1 hz2 hK hq
    go_enter Tryd.func11, Tryd.ntmps11
    go_wp2_with fail
    refine (copy_len w (Old w) l n Hn.out.symm a cap Hb.out (by omega)).mono ?_
    rintro e w1 ⟨v, rfl, ow, b1⟩
    rw [← Hn.out] at ow
    obtain ⟨a1, c1, hv, hby1, _⟩ := own_open ow (fun _ => False) (fun _ _ h => h)
    subst hv
    have hc1 : n ≤ c1 ∧ c1 ≤ 9223372036854775807 := by have h1 := hby1.1; have h2 := hby1.2.1; have := Hn.out; unfold maxLen at h2; omega
    have Hby1 := hid hby1
    have B1 := hid b1
    clear ow hby1 b1
    go_upto_if 25 with (fail)
    go_cut [5] (fun v wx => ∃ aK cK, v = .slice aK q cK ∧ Bytes wx (fun _ => False) aK cK K ∧ Below w.heap.size w wx)
    case first =>
      by_cases h64 : 64 < n
      · have hKs : K = Sha.sum l := by rw [HK.out, Sha.short, if_pos (by rw [← Hn.out]; exact h64)]
        have OL : Hid (K.length = 32) := by rw [hKs]; exact Sha.length_sum l
        have q32 : q = 32 := by rw [Hq.out]; exact OL.out
        subst q32
        have HKs := hid hKs
        clear hKs
        go_wp2_with fail
        refine (sum_len l n Hn.out.symm a cap w1 (Old w) (Hb.out.below B1.out (fun b hb _ => hb)) (Htab.out.below h2 B1.out) (by have := B1.out.size; omega) (by omega)).mono ?_
        rintro e w2 ⟨rfl, b2⟩
        rw [← HKs.out]
        have BW2 : Hid (Below w.heap.size w w2) := B1.out.trans (b2.mono B1.out.size)
        have R1 := hid (HasRow.new w2 (bv (List.replicate 32 0)) 25)
        have F3 : Hid ((Tryd.prog.info? 25).map (·.size) = some (bv K).length) := by rw [length_bv, OL.out]; exact (show (Tryd.prog.info? 25).map (·.size) = some 32 by kernel_rfl)
        have F4 : Hid (0 + (bv K).length ≤ (bv (List.replicate 32 0)).length) := by rw [length_bv, OL.out]; exact Nat.le_refl 32
        have F5 : Hid ((bv (List.replicate 32 0)).length = (bv K).length) := by rw [length_bv K, OL.out]; rfl
        clear b2
        go_wp2_with (refine wpList_store_into rfl 25 _ _ rfl w2.heap.size 0 rfl (bv K) rfl (bv (List.replicate 32 0)) 25 R1.out F3.out F4.out (one_bv _) ?_; intro w6 h6 g6 s6; rw [splice_all _ _ F5.out] at h6; have H6 := hid h6; have G6 := hid g6; clear h6 g6 s6)
        go_meet
        have z1 := BW2.out.size
        exact ⟨some ⟨w2.heap.size, 0, none⟩, 32, rfl, bytes_row H6.out _ (fun h => h) 32 OL.out (by omega), (BW2.out.alloc z1 _).grown G6.out (by simp; omega) (by intro k hk; injection hk with hk; omega)⟩
      · have hKs : K = l := by rw [HK.out, Sha.short, if_neg (by rw [← Hn.out]; exact h64)]
        have hqn : q = n := by rw [Hq.out, hKs]; exact Hn.out.symm
        subst hqn
        go_wp2_with fail
        go_meet
        exact ⟨a1, c1, rfl, by rw [hKs]; exact Hby1.out, B1.out⟩
    case rest =>
      obtain ⟨aK, cK, hv, hby, bel⟩ := hcut
      subst hv
      obtain ⟨wk, rfl⟩ : ∃ wk : World, wk = wc := ⟨_, rfl⟩
      have hcK : q ≤ cK ∧ cK ≤ 9223372036854775807 := by have h1 := hby.1; have h2 := hby.2.1; have := Hq.out; unfold maxLen at h2; omega
      have Hby := hid hby
      have BW := hid bel
      obtain ⟨P, hP⟩ : ∃ P, P = Sha.pad64 K := ⟨_, rfl⟩
      have PL : Hid (P.length = 64) := by rw [hP]; exact Sha.length_pad K (by rw [← Hq.out]; exact q64)
      obtain ⟨I, hI⟩ : ∃ I, I = P.map (fun x => x ^^^ 0x36) := ⟨_, rfl⟩
      obtain ⟨O, hO⟩ : ∃ O, O = P.map (fun x => x ^^^ 0x5c) := ⟨_, rfl⟩
      have IL : Hid (I.length = 64) := by rw [hI, List.length_map]; exact PL.out
      have OL : Hid (O.length = 64) := by rw [hO, List.length_map]; exact PL.out
      have HPk : Hid (∀ k, k < 64 → P.getD k 0 = if k < q then K.getD k 0 else 0) := by
        intro k hk
        rw [hP, Sha.pad64, List.getD_eq_getElem?_getD]
        split
        · rename_i h
          rw [List.getElem?_append_left (by rw [← Hq.out]; exact h), ← List.getD_eq_getElem?_getD]
        · rename_i h
          rw [List.getElem?_append_right (by rw [← Hq.out]; omega), List.getElem?_replicate]
          split <;> rfl
      have HP := hid hP
      have HI := hid hI
      have HO := hid hO
      clear hby bel hP hI hO
      go_wp2_with fail
      go_loopw [7, 8, 9] (fun vi vo i wr => ∃ k : Nat, k ≤ 64 ∧ i = .int .i64 (k : Int) ∧ wr.ownsRow wk.heap.size 5 1 vi k (bv (I.take k)) ∧ wr.ownsRow wk.heap.size 5 1 vo k (bv (O.take k)) ∧ Apart vi vo ∧ Below wk.heap.size wk wr) (fun _ _ i _ => 64 - (intOf i).toNat)
      case atStart => exact ⟨0, by omega, rfl, World.ownsRow_nil _ _ _ _, World.ownsRow_nil _ _ _ _, (by intro k hk; cases hk), Below.refl _ _⟩
      case round =>
        obtain ⟨k, hk, rfl, oi, oo, hap, bb⟩ := hrel
        obtain ⟨wo, rfl⟩ : ∃ wo : World, wo = wr := ⟨_, rfl⟩
        have Oi := hid oi
        have Oo := hid oo
        have Ap := hid hap
        have Bb := hid bb
        clear oi oo hap bb
        by_cases h64 : k < 64
        · obtain ⟨x, hx⟩ : ∃ x, x = P.getD k 0 := ⟨_, rfl⟩
          have Hxi : Hid (I.take k ++ [x ^^^ 0x36] = I.take (k + 1)) := by rw [HI.out, hx]; exact Sha.take_map (· ^^^ 0x36) k (by rw [PL.out]; exact h64)
          have Hxo : Hid (O.take k ++ [x ^^^ 0x5c] = O.take (k + 1)) := by rw [HO.out, hx]; exact Sha.take_map (· ^^^ 0x5c) k (by rw [PL.out]; exact h64)
          have hxk := HPk.out k h64
          rw [← hx] at hxk
          have Hxk := hid hxk
          clear hx hxk
          go_upto_if 36 with (fail)
          go_cut [10] (fun v wx => v = .int .u8 (bt8 x) ∧ wx = wo)
          case first =>
            by_cases hkq : k < q
            · obtain ⟨b, off, hab, _, hlt, hc⟩ := Hby.out.2.2 (by intro e; have := Hq.out; rw [e] at this; simp at this; omega)
              subst hab
              have cx : wo.cell? ⟨b, off + k, none⟩ = some (.int .u8 (bt8 x)) := by
                rw [Bb.out.cell (by exact hlt), hc k (by rw [← Hq.out]; exact hkq), Hxk.out, if_pos hkq]
              clear hc
              go_wp2_with fail
              go_meet
              exact ⟨rfl, rfl⟩
            · have hx0 : x = 0 := by rw [Hxk.out, if_neg hkq]
              go_wp2_with fail
              go_meet
              exact ⟨by rw [hx0]; rfl, rfl⟩
          case rest =>
            obtain ⟨rfl, rfl⟩ := hcut
            have Zo := hid Bb.out.size
            have x1 : bits .xor .u8 (bt8 x) (54 : Int) = bt8 (x ^^^ 0x36) := bt8_xor x 0x36
            have x2 : bits .xor .u8 (bt8 x) (92 : Int) = bt8 (x ^^^ 0x5c) := bt8_xor x 0x5c
            clear HPk Hxk
            go_wp2_with (first
              | (refine wpList_append_any rfl (.tmp 41) (.tmp 44) 22 rfl wk.heap.size 5 i0 Tryd.underlying22 Hi.out Hz0.out Hz1.out Hz2.out _ k _ rfl (Oi.out.alloc _) _ 1 1 [x ^^^ 0x36] rfl rfl (new_byte0 _ _ _) (by omega) (by simp; exact Nat.le_trans Zo.out (Nat.le_succ _)) ?_; intro v3 w3 hown3 g3 hv3; rw [Hxi.out] at hown3; have Hown3 := hid hown3; have G3 := hid g3; have Hv3 := hid hv3; clear hown3 g3 hv3)
              | (refine wpList_append_any rfl (.tmp 46) (.tmp 49) 22 rfl wk.heap.size 5 i0 Tryd.underlying22 Hi.out Hz0.out Hz1.out Hz2.out _ k _ rfl ((own_apart (Oo.out.alloc _) G3.out Ap.out).alloc _) _ 1 1 [x ^^^ 0x5c] rfl rfl (new_byte0 _ _ _) (by omega) (by simp; exact Nat.le_trans Zo.out (Nat.le_trans (by simp) (Nat.le_succ_of_le G3.out.size))) ?_; intro v4 w4 hown4 g4 hv4; rw [Hxo.out] at hown4; have Hown4 := hid hown4; have G4 := hid g4; have Hv4 := hid hv4; clear hown4 g4 hv4))
            go_roundw
            case rel =>
              have oi1 := Oi.out.alloc (.cells #[.int .u8 (bt8 (x ^^^ 0x36))] 5)
              have oo1 := Oo.out.alloc (.cells #[.int .u8 (bt8 (x ^^^ 0x36))] 5)
              have z1 := Zo.out
              have b1 := Bb.out.alloc z1 (.cells #[.int .u8 (bt8 (x ^^^ 0x36))] 5)
              have b3 := own_below_of oi1 G3.out b1 (Nat.le_refl _) (by simp; omega)
              have z3 := b3.size
              have a3 := Apart.step Ap.out oo1 Hv3.out
              have o3 := own_apart oo1 G3.out Ap.out
              have oi3 := Hown3.out.alloc (.cells #[.int .u8 (bt8 (x ^^^ 0x5c))] 5)
              have oo3 := o3.alloc (.cells #[.int .u8 (bt8 (x ^^^ 0x5c))] 5)
              have b4 := own_below_of oo3 G4.out (b3.alloc z3 (.cells #[.int .u8 (bt8 (x ^^^ 0x5c))] 5)) (Nat.le_refl _) (by simp; omega)
              have a4 := Apart.step a3.symm oi3 Hv4.out
              exact ⟨k + 1, by omega, by go_num, own_apart oi3 G4.out a3.symm, Hown4.out, a4.symm, b4⟩
            case measure => simp [intOf]; omega
        · have e64 : k = 64 := by omega
          have Oi2 : Hid (wo.ownsRow wk.heap.size 5 1 u7 64 (bv I)) := by have := Oi.out; rw [e64, List.take_of_length_le (by rw [IL.out]; exact Nat.le_refl 64)] at this; exact this
          have Oo2 : Hid (wo.ownsRow wk.heap.size 5 1 u8 64 (bv O)) := by have := Oo.out; rw [e64, List.take_of_length_le (by rw [OL.out]; exact Nat.le_refl 64)] at this; exact this
          have Bt : Hid (Below w.heap.size w wo) := BW.out.trans (Bb.out.mono BW.out.size)
          have hnews : Hid (0 < m → ∃ b off, a2 = some ⟨b, off, none⟩ ∧ ∀ j, j < m → wo.cell? ⟨b, off + j, none⟩ = some (.int .u8 (bt8 (t.getD j 0)))) := fun h0 => by
            obtain ⟨b, off, hab, _, _, hc⟩ := (Hb2.out.below Bt.out (fun b hb _ => hb)).2.2 (by intro e; have := Hm.out; rw [e] at this; simp at this; omega)
            exact ⟨b, off, hab, fun j hj => hc j (by have := Hm.out; omega)⟩
          have Zo := hid Bb.out.size
          clear Oi Oo HPk e64
          go_wp2_with (refine wpList_append_any rfl (.tmp 51) (.tmp 52) 22 rfl wk.heap.size 5 i0 Tryd.underlying22 Hi.out Hz0.out Hz1.out Hz2.out _ 64 _ rfl Oi2.out _ m cap2 t rfl Hm.out.symm hnews.out (by omega) Zo.out ?_; intro v3 w3 hown3 g3 hv3; have Hown3 := hid hown3; have G3 := hid g3; have Hv3 := hid hv3; clear hown3 g3 hv3)
          have Oo3 := hid (own_apart Oo2.out G3.out Ap.out)
          have B3 : Hid (Below wk.heap.size wk w3) := own_below_of Oi2.out G3.out Bb.out (Nat.le_refl _) Zo.out
          have BT3 : Hid (Below w.heap.size w w3) := BW.out.trans (B3.out.mono BW.out.size)
          obtain ⟨a3, c3, hv3, hb3⟩ := bytes_of_owns Hown3.out (fun _ => False) (fun _ _ h => h)
          obtain ⟨IT, hIT⟩ : ∃ IT, IT = I ++ t := ⟨_, rfl⟩
          have hITl : IT.length = 64 + m := by rw [hIT, List.length_append, IL.out, ← Hm.out]
          rw [← hIT] at hv3 hb3
          rw [hITl] at hv3
          subst hv3
          have Hb3 := hid hb3
          have HIT := hid hIT
          have HITl := hid hITl
          clear hb3 hIT hITl
          refine (sum_len IT _ HITl.out a3 c3 w3 (fun _ => False) Hb3.out (Htab.out.below h2 BT3.out) (by have := BT3.out.size; omega) (by omega)).mono ?_
          rintro e w4 ⟨rfl, b4⟩
          obtain ⟨S1, hS1⟩ : ∃ S1, S1 = Sha.sum IT := ⟨_, rfl⟩
          rw [← hS1]
          have L1 : Hid (S1.length = 32) := by rw [hS1]; exact Sha.length_sum _
          have HS1 := hid hS1
          have B4 : Hid (Below wk.heap.size wk w4) := B3.out.trans (b4.mono B3.out.size)
          have Oo4 := hid (own_below Oo3.out b4 (Nat.le_refl _))
          have N4 := hid (HasRow.new w4 (bv (List.replicate 32 0)) 25)
          have F3 : Hid ((Tryd.prog.info? 25).map (·.size) = some (bv S1).length) := by rw [length_bv, L1.out]; exact (show (Tryd.prog.info? 25).map (·.size) = some 32 by kernel_rfl)
          have F4 : Hid (0 + (bv S1).length ≤ (bv (List.replicate 32 0)).length) := by rw [length_bv, L1.out]; exact Nat.le_refl 32
          have F5 : Hid ((bv (List.replicate 32 0)).length = (bv S1).length) := by rw [length_bv S1, L1.out]; rfl
          clear b4 hS1
          have K5 : Hid (∀ w5 : World, HasRow w5 w4.heap.size (bv S1) 25 → (w4.alloc (.cells (bv (List.replicate 32 0)).toArray 25)).grownBy w5 (some w4.heap.size) → w5.ownsRow wk.heap.size 5 1 u8 64 (bv O) ∧ Below wk.heap.size wk w5 ∧ (0 < 32 → ∃ b off, (some ⟨w4.heap.size, 0, none⟩ : Option Addr) = some ⟨b, off, none⟩ ∧ ∀ j, j < 32 → w5.cell? ⟨b, off + j, none⟩ = some (.int .u8 (bt8 (S1.getD j 0))))) := by
            intro w5 h5 g5
            have bw : Below w4.heap.size w4 w5 := ((Below.refl _ w4).alloc (Nat.le_refl _) _).grown g5 (by simp) (by intro k hk; injection hk with hk; omega)
            exact ⟨own_below Oo4.out bw (Nat.le_refl _), B4.out.trans (bw.mono B4.out.size), fun _ => ⟨w4.heap.size, 0, rfl, fun j hj => by rw [Nat.zero_add]; exact h5.byte j (by rw [L1.out]; exact hj)⟩⟩
          go_wp2_with (first
            | (refine wpList_store_into rfl 25 _ _ rfl w4.heap.size 0 rfl (bv S1) rfl (bv (List.replicate 32 0)) 25 N4.out F3.out F4.out (one_bv _) ?_; intro w5 h5 g5 s5; rw [splice_all _ _ F5.out] at h5; have J5 := hid (K5.out w5 h5 g5); clear h5 g5 s5)
            | (refine wpList_append_any rfl (.tmp 56) (.tmp 57) 22 rfl wk.heap.size 5 i0 Tryd.underlying22 Hi.out Hz0.out Hz1.out Hz2.out _ 64 _ rfl J5.out.1 _ 32 32 S1 rfl L1.out J5.out.2.2 (by omega) J5.out.2.1.size ?_; intro v6 w6 hown6 g6 hv6; have Hown6 := hid hown6; have G6 := hid g6; clear hown6 g6 hv6))
          have B6 : Hid (Below wk.heap.size wk w6) := own_below_of J5.out.1 G6.out J5.out.2.1 (Nat.le_refl _) J5.out.2.1.size
          have BT6 : Hid (Below w.heap.size w w6) := BW.out.trans (B6.out.mono BW.out.size)
          obtain ⟨a6, c6, hv6, hb6⟩ := bytes_of_owns Hown6.out (fun _ => False) (fun _ _ h => h)
          obtain ⟨OT, hOT⟩ : ∃ OT, OT = O ++ S1 := ⟨_, rfl⟩
          have hOTl : OT.length = 96 := by rw [hOT, List.length_append, OL.out, L1.out]
          rw [← hOT] at hv6 hb6
          rw [hOTl] at hv6
          subst hv6
          have Hb6 := hid hb6
          have HOT := hid hOT
          have HOTl := hid hOTl
          obtain ⟨R, hR⟩ : ∃ R, R = Sha.mac l t := ⟨_, rfl⟩
          have HR : Hid (Sha.sum OT = R) := by
            rw [hOT, HS1.out, HIT.out, HI.out, HO.out, HP.out, HK.out, hR]; rfl
          have HR2 := hid hR
          have eq := eq32 R (by rw [hR]; exact Sha.length_mac l t)
          clear hb6 hOT hOTl hR
          refine (mac_any w6 (Htab.out.below h2 BT6.out) (by have := BT6.out.size; omega) (Old w) (Old w) l n Hn.out.symm (by omega) a cap (Hb.out.below BT6.out (fun b hb _ => hb)) t m Hm.out.symm (by omega) a2 cap2 (Hb2.out.below BT6.out (fun b hb _ => hb))).mono ?_
          rintro e w7 ⟨rfl, b7⟩
          rw [← HR2.out]
          have BT7 : Hid (Below w.heap.size w w7) := BT6.out.trans (b7.mono BT6.out.size)
          have Hb7 : Hid (Bytes w7 (fun _ => False) a6 c6 OT) := Hb6.out.below b7 (fun b hb _ => hb)
          clear b7
          go_wp2_with fail
          refine (sum_len OT 96 HOTl.out a6 c6 w7 (fun _ => False) Hb7.out (Htab.out.below h2 BT7.out) (by have := BT7.out.size; omega) (by omega)).mono ?_
          rintro e w8 ⟨rfl, b8⟩
          rw [HR.out]
          have BT8 : Hid (Below w.heap.size w w8) := BT7.out.trans (b8.mono BT7.out.size)
          clear b8
          go_wp2_with fail
          refine (works7_any w8 (Htab.out.below h2 BT8.out) (by have := BT8.out.size; omega)).mono ?_
          rintro e w9 ⟨rfl, b9⟩
          have B9 := hid b9
          clear b9
          go_wp2
          go_ret
          exact ⟨rfl, BT8.out.trans (B9.out.mono BT8.out.size)⟩
theorem paramsAre : Tryd.f11.params = #[22, 22] := by kernel_rfl

/-- WHAT THE WALK GIVES, FOR EVERY ARGUMENT AND EVERY WORLD THAT HOLDS THE TABLES. -/
theorem contract (H : Type) (enc : TypeId × Value → H) (W : World) (base : Nat) (args : Array Value) (ds gs : List (DataW H)) (before : List MemPlace)
    (hval : ∀ (j : Nat) t v, Tryd.f11.params[j]? = some t → args[j]? = some v → Value.okWide Tryd.prog W .any base t v)
    (hW : DataW.Whole enc Tryd.prog Tryd.f11.params.toList Rows.macWholeSpec.vars false W args.toList ds gs before) (hL : laidMetH Tryd.prog Rows.macWholeRow.laid W) :
    Calls Tryd.prog 11 args W fun e W' => ∃ v, e = .returned v ∧ Rows.macWholeSpec.post enc Tryd.prog Tryd.f11 false true false false W args v W' := by
  have hW' := hW
  obtain ⟨p, q, hA0, hV, rfl, hfz, hnd⟩ := hW
  have hA : DataW.TrodAll enc Tryd.prog W 0 (fun _ => true) true Tryd.f11.params.toList args.toList ds p := hA0
  rw [paramsAre] at hA hval
  obtain ⟨v0, vs0, d0, ds0, p0, q0, hargs, rfl, rfl, h0, r0⟩ := trodAll_cons hA
  obtain ⟨v1, vs1, d1, ds1, p1, q1, rfl, rfl, rfl, h1, r1⟩ := trodAll_cons r0
  obtain ⟨rfl, rfl, rfl⟩ := trodAll_nil r1
  obtain rfl : args = #[v0, v1] := by cases args; simp_all
  obtain ⟨rfl, rfl⟩ := trodVars_none hV
  clear hA0
  obtain ⟨b0, n0, c0, rfl⟩ := okWide_slice Tryd.underlying22 (hval 0 22 v0 rfl rfl)
  have k0 := h0
  have lt0 : ∀ x ∈ p0, x.block < W.heap.size := by obtain ⟨m, hm⟩ := k0; exact DataW.trod_lt m _ _ _ hm
  obtain ⟨a0, cap0, l0, e0, w0⟩ := open_bytes h0 cells_slice
  injection e0 with ea0 en0 ec0
  subst ea0 en0 ec0
  obtain ⟨b1, n1, c1, rfl⟩ := okWide_slice Tryd.underlying22 (hval 1 22 v1 rfl rfl)
  have k1 := h1
  have lt1 : ∀ x ∈ p1, x.block < W.heap.size := by obtain ⟨m, hm⟩ := k1; exact DataW.trod_lt m _ _ _ hm
  obtain ⟨a1, cap1, l1, e1, w1⟩ := open_bytes h1 cells_slice
  injection e1 with ea1 en1 ec1
  subst ea1 en1 ec1
  simp only [List.append_nil] at hW'
  refine (walk W (tabs_of_laid hL) l0 b0 c0 w0 l1 b1 c1 w1).mono fun e W' ⟨he, bel⟩ => ?_
  subst he
  exact ⟨_, rfl, _, _, _, [], _, [], hW', trodAll_mk1 (shut_bool Tryd.underlying4 _), (trodAll_cons_mk (Below.trod laidOut (by kernel_rfl) (of_decide_eq_true (by kernel_rfl)) k0 bel lt0) (trodAll_cons_mk (Below.trod laidOut (by kernel_rfl) (of_decide_eq_true (by kernel_rfl)) k1 bel lt1) trodAll_mk0)), rfl, bel.frame _, fun h => by cases h⟩

/-- A WORLD FOR THE WITNESS: the settled one, the tables holding what their initialisers lay. -/
noncomputable def laidWorld (os : Os) : World :=
  { World.holding Tryd.prog os ⟨#[], #[], []⟩ with heap := ((World.holding Tryd.prog os ⟨#[], #[], []⟩).heap.modify 0 (layCells (wv Sha.hTab).toArray)).modify 1 (layCells (wv Sha.kTab).toArray) }
theorem laid_met (os : Os) : laidMet Tryd.prog Rows.macWholeRow.laid ((laidWorld os).forCall (fun _ _ => 0) ⟨#[], #[.slice none 0 0, .slice none 0 0], []⟩).memory :=
  laidMet_of_run' 8 (by kernel_rfl) (by kernel_rfl)
theorem reads (os : Os) {H : Type} (enc : TypeId × Value → H) : ∃ places, DataW.whole enc Tryd.prog ((laidWorld os).forCall (fun _ _ => 0) ⟨#[], #[.slice none 0 0, .slice none 0 0], []⟩).memory Tryd.f11.params.toList Rows.macWholeSpec.vars false (#[.slice none 0 0, .slice none 0 0] : Array Value).toList 8 = some ([.nil, .nil], [], places) :=
  ⟨[], by kernel_rfl⟩

set_option maxRecDepth 100000 in
theorem lifted (os : Os) (started : os.Started) (H : Type) (enc : TypeId × Value → H) (F : Stop.Interp) :
    ReturnsInHanded {} Tryd.checked os 11 .any ((OpenSpec.ofChange Rows.macWholeSpec).preRow enc Tryd.prog Tryd.f11 Rows.macWholeRow.domain false Rows.macWholeRow.laid) (((OpenSpec.ofChange Rows.macWholeSpec).at F).post enc Tryd.prog Tryd.f11 false true false false) := by
  obtain ⟨places, hx⟩ := reads os enc
  refine returnsInHanded_of_row (C := Tryd.checked) (s := OpenSpec.ofChange Rows.macWholeSpec) own started (by kernel_rfl) Tryd.func11
    (witness_row_at (enc := enc) (C := Tryd.checked) false (laidWorld os) #[.slice none 0 0, .slice none 0 0] rfl (by kernel_rfl) (by kernel_rfl) (by kernel_rfl)
      (OpenSpec.preRow_of_cond 8 hx (by kernel_rfl) (fun k hk => by cases hk) (by kernel_rfl) (laid_met os))) ?_
  intro W base args ds gs before hval hW _ _ _ hL _ _
  exact contract H enc W base args ds gs before hval hW hL

theorem said : Rows.MacWholeSaid :=
  OpenClaim.holds_of_cond 11 Tryd.f11 rfl rfl rfl rfl rfl rfl rfl ⟨rfl, rfl, rfl, rfl, rfl⟩ rfl rfl rfl rfl rfl (by kernel_rfl) Tryd.func11 (by kernel_rfl)
    (of_decide_eq_true (by kernel_rfl)) (by unfold Func.isWrapper; first | (rw [if_pos (by decide +kernel)]; kernel_rfl) | (rw [if_neg (by decide +kernel)]; exact ⟨rfl, rfl⟩))
    (fun os started H enc _ F => by rw [OpenClaim.pre_eq_preRow]; exact lifted os started H enc F)

theorem plain (f : FuncId) (fn : Func) (hf : Tryd.pinned.checked.prog.funcNamed "fairlead/fairleadlaw07.MacWhole" = some f) (hfn : Tryd.pinned.checked.prog.funcs[f]? = some fn) :
    false = Tryd.pinned.checked.prog.looks [] ∧ ∀ (j : Nat) t, fn.params[j]? = some t → Tryd.pinned.checked.prog.wantsStandIn t = false := by
  obtain rfl : f = 11 := Option.some.inj ((show Tryd.prog.funcNamed "fairlead/fairleadlaw07.MacWhole" = some 11 by kernel_rfl).symm.trans hf) |>.symm
  obtain rfl : fn = Tryd.f11 := (Option.some.inj (Tryd.func11.symm.trans hfn)).symm
  refine ⟨by kernel_rfl, fun j t ht => ?_⟩
  rw [paramsAre] at ht
  obtain rfl : t = 22 := by have := Array.mem_of_getElem? ht; simpa using this
  exact (show Tryd.prog.wantsStandIn 22 = false by kernel_rfl)

/-- ████ THE CARD ████ -/
theorem card : Rows.MacWholeCardSaid :=
  Claim7.holds_tied_plain_at .later [] _ _ _ _ said (fun _ h => by cases h) (by kernel_rfl) (fun _ h => by cases h) macWhole_row_tie rfl ⟨rfl, rfl⟩ (by kernel_rfl) rfl plain (by kernel_rfl)
#print axioms card
end Go.Proofs.YtadpcefdkifagaaDoor.macWholeDone
