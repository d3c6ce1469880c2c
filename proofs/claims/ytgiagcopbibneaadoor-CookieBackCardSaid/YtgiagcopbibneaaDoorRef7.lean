/- The contracts of fairleadref07.under and fairleadref07.Sum. -/
import Derived.Test.YtgiagcopbibneaaDoorMac2
namespace Sha
/-- the first j of a row turned -/
def mix (P : List UInt8) (c : UInt8) (j : Nat) : List UInt8 := (P.map (· ^^^ c)).take j ++ P.drop j
theorem length_mix (P : List UInt8) (c : UInt8) (j : Nat) (h : j ≤ P.length) : (mix P c j).length = P.length := by simp [mix]; omega
theorem mix_zero (P : List UInt8) (c : UInt8) : mix P c 0 = P := by simp [mix]
theorem mix_all (P : List UInt8) (c : UInt8) (j : Nat) (h : P.length ≤ j) : mix P c j = P.map (· ^^^ c) := by
  rw [mix, List.take_of_length_le (by simpa using h), List.drop_of_length_le h, List.append_nil]
theorem mix_at (P : List UInt8) (c : UInt8) (j : Nat) (h : j < P.length) : (mix P c j).getD j 0 = P.getD j 0 := by
  have hl : ((P.map (· ^^^ c)).take j).length = j := by simp; omega
  rw [mix, List.getD_eq_getElem?_getD, List.getElem?_append_right (by omega), hl, Nat.sub_self, List.getElem?_drop, Nat.add_zero, ← List.getD_eq_getElem?_getD]
theorem mix_next (P : List UInt8) (c : UInt8) (j : Nat) (h : j < P.length) : (mix P c j).set j (P.getD j 0 ^^^ c) = mix P c (j + 1) := by
  have hl : ((P.map (· ^^^ c)).take j).length = j := by simp; omega
  rw [mix, List.set_append_right (h := by omega), hl, Nat.sub_self, List.drop_eq_getElem_cons h, List.set_cons_zero, mix, List.take_succ_eq_append_getElem (by simpa using h), List.append_assoc]
  simp [List.getD_eq_getElem?_getD, List.getElem?_eq_getElem h]
end Sha
namespace Go.Proofs.YtgiagcopbibneaaDoor
open Go.RowKit
open Sha (W)

theorem own_open_all {w : World} {base : Nat} {T : TypeId} {v : Value} {n : Nat} {l : List UInt8} (h : w.ownsRow base T 1 v n (bv l)) (h0 : 0 < n) :
    ∃ g rest, v = .slice (some ⟨g, 0, none⟩) n (n + List.length rest) ∧ base ≤ g ∧ HasRow w g (bv l ++ rest) T ∧ n + rest.length ≤ maxLen := by
  have hl : l.length = n := by have := h.1; simpa using this
  rcases h.2 with ⟨rfl, h1⟩ | ⟨g, cap, cur, rfl, hb, hg, hn, hc, hs, ht⟩
  · omega
  · have e : cur.toList = bv l ++ cur.toList.drop n := by
      rw [← ht, Nat.mul_one, List.take_append_drop]
    have hd : (cur.toList.drop n).length = cap - n := by simp; omega
    refine ⟨g, cur.toList.drop n, ?_, hb, ?_, by rw [hd]; omega⟩
    · rw [hd, Nat.add_sub_cancel' hn]
    · unfold HasRow
      rw [← e]
      simpa using hg

theorem Bytes.below_of {w w' : World} {no : Nat → Prop} {a : Option Addr} {cap : Nat} {l : List UInt8} (h : Bytes w no a cap l) (b : Below w.heap.size w w') : Bytes w' no a cap l := h.below b (fun _ hb _ => hb)
theorem own_base {w : World} {base base' e sz n : Nat} {v : Value} {xs : List Value} (h : w.ownsRow base e sz v n xs) (hb : base' ≤ base) : w.ownsRow base' e sz v n xs := by
  refine ⟨h.1, h.2.imp id fun ⟨g, cap, cur, h1, h2, h3⟩ => ⟨g, cap, cur, h1, Nat.le_trans hb h2, h3⟩⟩
theorem lenOf_own {w : World} {base e sz n : Nat} {v : Value} {xs : List Value} (h : w.ownsRow base e sz v n xs) : lenOf v = n := by
  rcases h.2 with ⟨rfl, h1⟩ | ⟨g, cap, cur, rfl, _⟩
  · exact h1.symm
  · rfl

theorem newb (w : World) (x : UInt8) (T : TypeId) : 0 < 1 → ∃ b off, (some ⟨w.heap.size, 0, none⟩ : Option Addr) = some ⟨b, off, none⟩ ∧ ∀ j, j < 1 → (w.alloc (.cells #[.int .u8 (bt8 x)] T)).cell? ⟨b, off + j, none⟩ = some (.int .u8 (bt8 ([x].getD j 0))) := fun _ =>
  ⟨w.heap.size, 0, rfl, fun j hj => by
    obtain rfl : j = 0 := by omega
    exact (HasRow.new w [.int .u8 (bt8 x)] T).cell_any 0⟩

theorem row_front {w : World} {g : Nat} {P : List UInt8} {rest : List Value} {T : TypeId} (h : HasRow w g (bv P ++ rest) T) (j : Nat) (hj : j < P.length) : w.cell? ⟨g, j, none⟩ = some (.int .u8 (bt8 (P.getD j 0))) := by
  rw [h.cell_any, List.getElem?_append_left (by simpa using hj)]
  simp [bv, List.getD_eq_getElem?_getD, List.getElem?_eq_getElem hj]
theorem row_front_set {w : World} {g : Nat} {P : List UInt8} {rest : List Value} {T : TypeId} (h : HasRow w g (bv P ++ rest) T) (j : Nat) (hj : j < P.length) (x : UInt8) :
    HasRow (w.setCell ⟨g, j, none⟩ (.int .u8 (bt8 x))) g (bv (P.set j x) ++ rest) T := by
  have := h.set j (.int .u8 (bt8 x))
  rw [List.set_append_left (h := by simpa using hj)] at this
  simpa [bv, List.map_set] using this

set_option maxRecDepth 100000 in
set_option maxHeartbeats 4000000 in
theorem under_any (w : World) (c : UInt8) (no : Nat → Prop) (l : List UInt8) (n : Nat) (hn : l.length = n) (hmost : n < 1000000) (a : Option Addr) (cap : Nat) (hb : Bytes w no a cap l) :
    Calls Tryd.prog 95 #[.slice a n cap, .int .u8 (bt8 c)] w (OwnBytes w (Sha.turned l c)) := by
  have Hb := hid hb
  have Hn := hid hn
  have hcap : n ≤ cap ∧ cap ≤ 9223372036854775807 := by have h1 := hb.1; have h2 := hb.2.1; unfold maxLen at h2; omega
  clear hb hn
  obtain ⟨i0, hi, hz0, hz1, hz2⟩ := info_parts info_u8
  have Hi := hid hi
  have Hz0 := hid hz0
  have Hz1 := hid hz1
  have Hz2 := hid hz2
  obtain ⟨K, hK⟩ : ∃ K, K = Sha.short l := ⟨_, rfl⟩
  obtain ⟨q, hq⟩ : ∃ q, q = K.length := ⟨_, rfl⟩
  have q64 : q ≤ 64 := by rw [hq, hK]; exact Sha.length_short l
  have HK := hid hK
  have Hq := hid hq
  clear hi hz0 hz1 hz2 hK hq
  go_enter Tryd.func95, Tryd.ntmps95
  go_wp2_with fail
  refine (copy_len w no l n Hn.out a cap Hb.out (by omega)).mono ?_
  rintro e w1 ⟨v1, rfl, ow, b1⟩
  rw [Hn.out] at ow
  obtain ⟨a1, c1, hv, hby1, _⟩ := own_open ow (fun _ => False) (fun _ _ h => h)
  subst hv
  have hc1 : n ≤ c1 ∧ c1 ≤ 9223372036854775807 := by have h1 := hby1.1; have h2 := hby1.2.1; have := Hn.out; unfold maxLen at h2; omega
  have Ow := hid ow
  have B1 := hid b1
  clear ow hby1 b1
  go_upto_if 12 with (fail)
  go_cut [5] (fun v wx => wx.ownsRow w.heap.size 5 1 v q (bv K) ∧ Below w.heap.size w wx)
  case first =>
    by_cases h64 : 64 < n
    · have hKs : K = Sha.sum l := by rw [HK.out, Sha.short, if_pos (by rw [Hn.out]; exact h64)]
      have KL : Hid (K.length = 32) := by rw [hKs]; exact Sha.length_sum l
      have q32 : q = 32 := by rw [Hq.out]; exact KL.out
      subst q32
      have HKs := hid hKs
      clear hKs
      go_wp2_with fail
      refine (refsum_any w1 no l n Hn.out a cap (Hb.out.below_of B1.out) (by omega)).mono ?_
      rintro e w2 ⟨rfl, b2⟩
      rw [← HKs.out]
      have B2 : Hid (Below w.heap.size w w2) := B1.out.trans (b2.mono B1.out.size)
      have N2 := hid (HasRow.new w2 (bv (List.replicate 32 0)) 106)
      have F3 : Hid ((Tryd.prog.info? 106).map (·.size) = some (bv K).length) := by rw [length_bv, KL.out]; exact (show (Tryd.prog.info? 106).map (·.size) = some 32 by kernel_rfl)
      have F4 : Hid (0 + (bv K).length ≤ (bv (List.replicate 32 0)).length) := by rw [length_bv, KL.out]; exact Nat.le_refl 32
      have F5 : Hid ((bv (List.replicate 32 0)).length = (bv K).length) := by rw [length_bv K, KL.out]; rfl
      clear b2
      go_wp2_with (refine wpList_store_into rfl 106 _ _ rfl w2.heap.size 0 rfl (bv K) rfl (bv (List.replicate 32 0)) 106 N2.out F3.out F4.out (one_bv _) ?_; intro w6 h6 g6 s6; rw [splice_all _ _ F5.out] at h6; have H6 := hid h6; have G6 := hid g6; clear h6 g6 s6)
      have B6 : Hid (Below w.heap.size w w6) := (B2.out.alloc B2.out.size _).grown G6.out (by simp; have := B2.out.size; omega) (by intro k hk; injection hk with hk; have := B2.out.size; omega)
      refine (copy_len w6 (fun _ => False) K 32 KL.out _ 32 (bytes_row H6.out _ (fun h => h) 32 KL.out (by omega)) (by omega)).mono ?_
      rintro e w7 ⟨v7, rfl, ow7, b7⟩
      rw [KL.out] at ow7
      have Ow7 := hid ow7
      have B7 : Hid (Below w.heap.size w w7) := B6.out.trans (b7.mono B6.out.size)
      clear ow7 b7
      go_wp2_with fail
      go_meet
      exact ⟨own_base Ow7.out B6.out.size, B7.out⟩
    · have hKs : K = l := by rw [HK.out, Sha.short, if_neg (by rw [Hn.out]; exact h64)]
      have hqn : q = n := by rw [Hq.out, hKs]; exact Hn.out
      subst hqn
      go_wp2_with fail
      go_meet
      exact ⟨by rw [hKs]; exact Ow.out, B1.out⟩
  case rest =>
    obtain ⟨ow2, b2⟩ := hcut
    have Ow2 := hid ow2
    have B2 := hid b2
    clear ow2 b2
    go_wp2_with fail
    go_loopw [5] (fun v wr => ∃ k : Nat, q + k ≤ 64 ∧ wr.ownsRow w.heap.size 5 1 v (q + k) (bv (K ++ List.replicate k 0)) ∧ Below w.heap.size w wr) (fun v _ => 64 - lenOf v)
    case atStart => exact ⟨0, by omega, by simpa using Ow2.out, B2.out⟩
    case round =>
      obtain ⟨k, hk, ow, bb⟩ := hrel
      obtain ⟨wo, rfl⟩ : ∃ wo : World, wo = wr := ⟨_, rfl⟩
      obtain ⟨aK, cK, hv, hby, _⟩ := own_open ow (fun _ => False) (fun _ _ h => h)
      subst hv
      have hcK : q + k ≤ cK ∧ cK ≤ 9223372036854775807 := by have h1 := hby.1; have h2 := hby.2.1; have := Hq.out; unfold maxLen at h2; simp at h1; omega
      have Oy := hid ow
      have Bb := hid bb
      clear ow hby bb
      have Zo := hid Bb.out.size
      by_cases hgo : q + k < 64
      · have HL : Hid ((K ++ List.replicate k 0) ++ [0] = K ++ List.replicate (k + 1) (0 : UInt8)) := by rw [List.append_assoc, List.replicate_succ']; rfl
        go_wp2_with (refine wpList_append_any rfl (.tmp 20) (.tmp 21) 29 rfl w.heap.size 5 i0 Tryd.underlying29 Hi.out Hz0.out Hz1.out Hz2.out _ (q + k) _ rfl (Oy.out.alloc _) _ 1 1 [0] rfl rfl (newb wo 0 5) (by omega) (by simp; exact Nat.le_trans Zo.out (Nat.le_succ _)) ?_; intro v4 w4 hown4 g4 hv4; rw [HL.out] at hown4; have Hown4 := hid hown4; have G4 := hid g4; have LV : Hid (lenOf v4 = q + k + 1) := lenOf_own Hown4.out; clear hown4 g4 hv4)
        go_roundw
        case rel =>
          exact ⟨k + 1, by omega, Hown4.out, own_below_of (Oy.out.alloc _) G4.out (Bb.out.alloc Zo.out _) (Nat.le_refl _) (by simp; exact Nat.le_trans Zo.out (Nat.le_succ _))⟩
        case measure => rw [LV.out]; simp [lenOf]; omega
      · have e64 : q + k = 64 := by omega
        obtain ⟨P, hP⟩ : ∃ P, P = Sha.pad64 K := ⟨_, rfl⟩
        have HP : Hid (K ++ List.replicate k 0 = P) := by rw [hP, Sha.pad64, ← Hq.out]; congr 2; omega
        have PL : Hid (P.length = 64) := by rw [hP]; exact Sha.length_pad K (by rw [← Hq.out]; exact q64)
        have HT : Hid (P.map (· ^^^ c) = Sha.turned l c) := by rw [hP, HK.out]; rfl
        have Op : Hid (wo.ownsRow w.heap.size 5 1 (.slice aK 64 cK) 64 (bv P)) := by have := Oy.out; rw [HP.out, e64] at this; exact this
        rw [e64] at hcK ⊢
        obtain ⟨g, rest, hv, hbg, hrow, hmx⟩ := own_open_all Op.out (by omega)
        injection hv with ha hn2 hc2
        obtain ⟨r, hr⟩ : ∃ r, r = rest.length := ⟨_, rfl⟩
        rw [← hr] at hc2 hmx
        subst ha hc2
        have Hrow := hid hrow
        have Hr := hid hr
        clear hP hrow hr Oy Op HP hn2
        go_wp2_with fail
        go_loopw [7] (fun i wr => ∃ j : Nat, j ≤ 64 ∧ i = .int .i64 (j : Int) ∧ HasRow wr g (bv (Sha.mix P c j) ++ rest) 5 ∧ Below w.heap.size w wr) (fun i _ => 64 - (intOf i).toNat)
        case atStart => exact ⟨0, by omega, rfl, by rw [Sha.mix_zero]; exact Hrow.out, Bb.out⟩
        case round =>
          obtain ⟨j, hj, rfl, ro, bb⟩ := hrel
          have Ro := hid ro
          have Bw := hid bb
          by_cases h64 : j < 64
          · have ML : Hid ((Sha.mix P c j).length = 64) := by rw [Sha.length_mix P c j (by rw [PL.out]; exact hj)]; exact PL.out
            have c1 := row_front ro j (by rw [ML.out]; exact h64)
            have c3 := ro.free j
            rw [Sha.mix_at P c j (by rw [PL.out]; exact h64)] at c1
            obtain ⟨x, hx⟩ : ∃ x, x = P.getD j 0 := ⟨_, rfl⟩
            rw [← hx] at c1
            have Hx := hid hx
            have i1 : (j : Int) < 64 := by omega
            clear ro bb hx
            go_wp2
            go_roundw
            case rel =>
              refine ⟨j + 1, by omega, by go_num, ?_, Bw.out.setCell (p := ⟨g, j, none⟩) hbg _⟩
              have := row_front_set Ro.out j (by rw [ML.out]; exact h64) (x ^^^ c)
              rw [Hx.out, Sha.mix_next P c j (by rw [PL.out]; exact h64)] at this
              rw [Hx.out]
              exact this
            case measure => simp [intOf]; omega
          · have e64 : j = 64 := by omega
            have Rf : Hid (HasRow wr g (bv (Sha.turned l c) ++ rest) 5) := by
              have := ro; rw [e64, Sha.mix_all P c 64 (by rw [PL.out]; exact Nat.le_refl 64), HT.out] at this; exact this
            clear ro bb Ro
            go_wp2
            go_ret
            refine ⟨_, rfl, ?_, Bw.out⟩
            rw [Sha.length_turned]
            exact owns_of_row Rf.out hbg (Nat.le_add_right 64 r) hmx (by rw [List.length_append, length_bv, Sha.length_turned, Hr.out]) (by rw [List.take_append_of_le_length (by rw [length_bv, Sha.length_turned]; exact Nat.le_refl 64), List.take_of_length_le (by rw [length_bv, Sha.length_turned]; exact Nat.le_refl 64)])

set_option maxRecDepth 100000 in
set_option maxHeartbeats 4000000 in
theorem refmac_any (w : World) (no1 no2 : Nat → Prop) (l : List UInt8) (n : Nat) (hn : l.length = n) (hmost : n < 1000000) (a : Option Addr) (cap : Nat) (hb : Bytes w no1 a cap l)
    (t : List UInt8) (m : Nat) (hm : t.length = m) (hmost2 : m < 1000000) (a2 : Option Addr) (cap2 : Nat) (hb2 : Bytes w no2 a2 cap2 t) :
    Calls Tryd.prog 61 #[.slice a n cap, .slice a2 m cap2] w fun e w' => e = .returned (.agg (bv (Sha.mac l t)).toArray) ∧ Below w.heap.size w w' := by
  obtain ⟨wa, hwa⟩ : ∃ wa, wa = w.alloc (.cells (bv (List.replicate 32 0)).toArray 106) := ⟨_, rfl⟩
  have bwa : Below w.heap.size w wa := by rw [hwa]; exact (Below.refl _ _).alloc (Nat.le_refl _) _
  have sa : wa.heap.size = w.heap.size + 1 := by rw [hwa]; simp
  have ra : HasRow wa w.heap.size (bv (List.replicate 32 0)) 106 := by rw [hwa]; exact HasRow.new _ _ _
  have Hb := hid hb
  have Hb2 := hid hb2
  have Hn := hid hn
  have Hm := hid hm
  have Bwa := hid bwa
  have Ra := hid ra
  have Sa := hid sa
  have Hwa := hid hwa
  have hcap : n ≤ cap ∧ cap ≤ 9223372036854775807 := by have h1 := hb.1; have h2 := hb.2.1; unfold maxLen at h2; omega
  have hcap2 : m ≤ cap2 ∧ cap2 ≤ 9223372036854775807 := by have h1 := hb2.1; have h2 := hb2.2.1; unfold maxLen at h2; omega
  obtain ⟨i0, hi, hz0, hz1, hz2⟩ := info_parts info_u8
  have Hi := hid hi
  have Hz0 := hid hz0
  have Hz1 := hid hz1
  have Hz2 := hid hz2
  clear hb hb2 hn hm bwa ra sa hwa hi hz0 hz1 hz2
  go_enter Tryd.func61, Tryd.ntmps61
  go_wp2_with fail
  have k1 := under_any wa 0x36 no1 l n Hn.out hmost a cap (Hb.out.below_of Bwa.out)
  rw [show bt8 0x36 = 54 from rfl] at k1
  rw [Hwa.out] at k1
  refine k1.mono ?_
  clear k1
  rintro e w1 ⟨v1, rfl, ow1, b1⟩
  rw [← Hwa.out] at ow1 b1
  obtain ⟨I, hI⟩ : ∃ I, I = Sha.turned l 0x36 := ⟨_, rfl⟩
  rw [← hI] at ow1
  have IL : Hid (I.length = 64) := by rw [hI]; exact Sha.length_turned _ _
  rw [IL.out] at ow1
  have HI := hid hI
  have Ow1 := hid ow1
  have B1 : Hid (Below wa.heap.size wa w1) := hid b1
  have BW1 : Hid (Below w.heap.size w w1) := Bwa.out.trans (b1.mono (by have := Sa.out; omega))
  have Z1 : Hid (wa.heap.size ≤ w1.heap.size) := b1.size
  have Hnews : Hid (0 < m → ∃ b off, a2 = some ⟨b, off, none⟩ ∧ ∀ j, j < m → w1.cell? ⟨b, off + j, none⟩ = some (.int .u8 (bt8 (t.getD j 0)))) := fun h0 => by
    obtain ⟨b, off, hab, _, _, hc⟩ := (Hb2.out.below_of BW1.out).2.2 (by intro e; have := Hm.out; rw [e] at this; simp at this; omega)
    exact ⟨b, off, hab, fun j hj => hc j (by have := Hm.out; omega)⟩
  clear hI ow1 b1
  go_wp2_with (refine wpList_append_any rfl (.tmp 10) (.tmp 11) 29 rfl wa.heap.size 5 i0 Tryd.underlying29 Hi.out Hz0.out Hz1.out Hz2.out _ 64 _ rfl Ow1.out _ m cap2 t rfl Hm.out Hnews.out (by omega) Z1.out ?_; intro v2 w2 hown2 g2 hv2; have Ow2 := hid hown2; have G2 := hid g2; clear hown2 g2 hv2)
  obtain ⟨IT, hIT⟩ : ∃ IT, IT = I ++ t := ⟨_, rfl⟩
  have ITL : Hid (IT.length = 64 + m) := by show _ = _; rw [hIT, List.length_append, IL.out, Hm.out]
  rw [← hIT] at Ow2
  have HIT := hid hIT
  have B2 : Hid (Below wa.heap.size wa w2) := own_below_of Ow1.out G2.out B1.out (Nat.le_refl _) Z1.out
  have BW2 : Hid (Below w.heap.size w w2) := Bwa.out.trans (B2.out.mono (by have := Sa.out; omega))
  obtain ⟨a3, c3, hv3, hb3, _⟩ := own_open Ow2.out (fun _ => False) (fun _ _ h => h)
  subst hv3
  have Hb3 := hid hb3
  clear hb3 hIT Ow2
  refine (refsum_any w2 (fun _ => False) IT (64 + m) ITL.out a3 c3 Hb3.out (by omega)).mono ?_
  rintro e w3 ⟨rfl, b3⟩
  obtain ⟨S1, hS1⟩ : ∃ S1, S1 = Sha.sum IT := ⟨_, rfl⟩
  rw [← hS1]
  have L1 : Hid (S1.length = 32) := by rw [hS1]; exact Sha.length_sum _
  have HS1 := hid hS1
  have B3 : Hid (Below wa.heap.size wa w3) := B2.out.trans (b3.mono B2.out.size)
  have BW3 : Hid (Below w.heap.size w w3) := Bwa.out.trans (B3.out.mono (by have := Sa.out; omega))
  have N3 := hid (HasRow.new w3 (bv (List.replicate 32 0)) 106)
  have F3 : Hid ((Tryd.prog.info? 106).map (·.size) = some (bv S1).length) := by rw [length_bv, L1.out]; exact (show (Tryd.prog.info? 106).map (·.size) = some 32 by kernel_rfl)
  have F4 : Hid (0 + (bv S1).length ≤ (bv (List.replicate 32 0)).length) := by rw [length_bv, L1.out]; exact Nat.le_refl 32
  have F5 : Hid ((bv (List.replicate 32 0)).length = (bv S1).length) := by rw [length_bv S1, L1.out]; rfl
  clear b3 hS1
  go_wp2_with (refine wpList_store_into rfl 106 _ _ rfl w3.heap.size 0 rfl (bv S1) rfl (bv (List.replicate 32 0)) 106 N3.out F3.out F4.out (one_bv _) ?_; intro w4 h4 g4 s4; rw [splice_all _ _ F5.out] at h4; have H4 := hid h4; have G4 := hid g4; clear h4 g4 s4)
  have B4 : Hid (Below w3.heap.size w3 w4) := ((Below.refl _ w3).alloc (Nat.le_refl _) _).grown G4.out (by simp) (by intro k hk; injection hk with hk; omega)
  have BA4 : Hid (Below wa.heap.size wa w4) := B3.out.trans (B4.out.mono B3.out.size)
  have BW4 : Hid (Below w.heap.size w w4) := Bwa.out.trans (BA4.out.mono (by have := Sa.out; omega))
  have k2 := under_any w4 0x5c no1 l n Hn.out hmost a cap (Hb.out.below_of BW4.out)
  rw [show bt8 0x5c = 92 from rfl] at k2
  refine k2.mono ?_
  clear k2
  rintro e w5 ⟨v5, rfl, ow5, b5⟩
  obtain ⟨O, hO⟩ : ∃ O, O = Sha.turned l 0x5c := ⟨_, rfl⟩
  rw [← hO] at ow5
  have OL : Hid (O.length = 64) := by rw [hO]; exact Sha.length_turned _ _
  rw [OL.out] at ow5
  have HO := hid hO
  have Ow5 := hid ow5
  have B5 : Hid (Below w4.heap.size w4 w5) := hid b5
  have Z5 : Hid (w4.heap.size ≤ w5.heap.size) := b5.size
  have H5 : Hid (HasRow w5 w3.heap.size (bv S1) 106) := H4.out.below b5 H4.out.lt
  have Hnews2 : Hid (0 < 32 → ∃ b off, (some ⟨w3.heap.size, 0, none⟩ : Option Addr) = some ⟨b, off, none⟩ ∧ ∀ j, j < 32 → w5.cell? ⟨b, off + j, none⟩ = some (.int .u8 (bt8 (S1.getD j 0)))) :=
    fun _ => ⟨w3.heap.size, 0, rfl, fun j hj => by rw [Nat.zero_add]; exact H5.out.byte j (by rw [L1.out]; exact hj)⟩
  clear hO ow5 b5
  go_wp2_with (refine wpList_append_any rfl (.tmp 17) (.tmp 18) 29 rfl w4.heap.size 5 i0 Tryd.underlying29 Hi.out Hz0.out Hz1.out Hz2.out _ 64 _ rfl Ow5.out _ 32 32 S1 rfl L1.out Hnews2.out (by omega) Z5.out ?_; intro v6 w6 hown6 g6 hv6; have Ow6 := hid hown6; have G6 := hid g6; clear hown6 g6 hv6)
  obtain ⟨OT, hOT⟩ : ∃ OT, OT = O ++ S1 := ⟨_, rfl⟩
  have OTL : Hid (OT.length = 96) := by show _ = _; rw [hOT, List.length_append, OL.out, L1.out]
  rw [← hOT] at Ow6
  have B6 : Hid (Below w4.heap.size w4 w6) := own_below_of Ow5.out G6.out B5.out (Nat.le_refl _) Z5.out
  have BW6 : Hid (Below w.heap.size w w6) := BW4.out.trans (B6.out.mono BW4.out.size)
  have R6 : Hid (HasRow w6 w.heap.size (bv (List.replicate 32 0)) 106) := (Ra.out.below (BA4.out) (by have := Sa.out; omega)).below B6.out (by have := BA4.out.size; have := Sa.out; omega)
  obtain ⟨a7, c7, hv7, hb7, _⟩ := own_open Ow6.out (fun _ => False) (fun _ _ h => h)
  subst hv7
  have Hb7 := hid hb7
  obtain ⟨OUT, hOUT⟩ : ∃ OUT, OUT = Sha.sum OT := ⟨_, rfl⟩
  have UL : Hid (OUT.length = 32) := by rw [hOUT]; exact Sha.length_sum _
  have HOUT : Hid (Sha.mac l t = OUT) := by
    rw [hOUT, hOT, HO.out, HS1.out, HIT.out, HI.out]; rfl
  have HOUT2 := hid hOUT
  clear hb7 hOT Ow6 hOUT
  refine (refsum_any w6 (fun _ => False) OT 96 OTL.out a7 c7 Hb7.out (by omega)).mono ?_
  rintro e w7 ⟨rfl, b7⟩
  rw [← HOUT2.out]
  have BW7 : Hid (Below w.heap.size w w7) := BW6.out.trans (b7.mono BW6.out.size)
  have R7 : Hid (HasRow w7 w.heap.size (bv (List.replicate 32 0)) 106) := R6.out.below b7 R6.out.lt
  have E3 : Hid ((Tryd.prog.info? 106).map (·.size) = some (bv OUT).length) := by rw [length_bv, UL.out]; exact (show (Tryd.prog.info? 106).map (·.size) = some 32 by kernel_rfl)
  have E4 : Hid (0 + (bv OUT).length ≤ (bv (List.replicate 32 0)).length) := by rw [length_bv, UL.out]; exact Nat.le_refl 32
  have E5 : Hid ((bv (List.replicate 32 0)).length = (bv OUT).length) := by rw [length_bv OUT, UL.out]; rfl
  clear b7
  go_wp2_with (refine wpList_store_into rfl 106 _ _ rfl w.heap.size 0 rfl (bv OUT) rfl (bv (List.replicate 32 0)) 106 R7.out E3.out E4.out (one_bv _) ?_; intro w8 h8 g8 s8; rw [splice_all _ _ E5.out] at h8; have H8 := hid h8; have G8 := hid g8; clear h8 g8 s8)
  refine bodyPost_ret (v := .agg (bv OUT).toArray) (results_cell_row (ty := 106) (p := 4) rfl _ w8 w.heap.size _ _ _ _ rfl H8.out Tryd.underlying106 rfl (by simpa using E3.out)) rfl ⟨by rw [HOUT.out], ?_⟩
  exact BW7.out.grown G8.out BW7.out.size (by intro k hk; injection hk with hk; omega)
end Go.Proofs.YtgiagcopbibneaaDoor
