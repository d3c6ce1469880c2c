/- MacAlike: for every input the law returns true and the input reads as it did. Conditions: the row's own (the tables are laid as the program's text lays them). -/
import Derived.Test.YtadpcefdkifagaaDoorRef7
import Derived.Lib.SmallJoins
namespace Go.Proofs.YtadpcefdkifagaaDoor.macAlikeDone
open Go.ChangeShapes Go.WideShapes Go.ChangeAt Go.RowKit
open Sha (W)

theorem bytes_front {w : World} {g : Nat} {P : List UInt8} {rest : List Value} {T : TypeId} (h : HasRow w g (bv P ++ rest) T) (no : Nat → Prop) (hno : ¬ no g) (c : Nat) (hc : P.length ≤ c) (hm : c ≤ maxLen) : Bytes w no (some ⟨g, 0, none⟩) c P :=
  ⟨hc, hm, fun _ => ⟨g, 0, rfl, hno, h.lt, fun i hi => by rw [Nat.zero_add]; exact row_front h i hi⟩⟩
theorem pow_byte (b : Nat) (h : b < 8) : (2 : Int) ^ b % 256 = bt8 (UInt8.ofNat (2 ^ b)) ∧ UInt8.ofNat (2 ^ b) ≠ 0 := by
  have : ∀ b : Fin 8, (2 : Int) ^ b.val % 256 = bt8 (UInt8.ofNat (2 ^ b.val)) ∧ UInt8.ofNat (2 ^ b.val) ≠ 0 := by decide
  exact this ⟨b, h⟩
theorem xor_ne (x y : UInt8) (h : y ≠ 0) : x ≠ x ^^^ y := by
  intro e
  apply h
  have : x ^^^ x = x ^^^ (x ^^^ y) := by rw [← e]
  rw [← UInt8.xor_assoc, UInt8.xor_self, UInt8.zero_xor] at this
  exact this.symm
theorem xor_back (x y : UInt8) : x ^^^ y ^^^ y = x := by rw [UInt8.xor_assoc, UInt8.xor_self, UInt8.xor_zero]
theorem set_ne (l : List UInt8) (d : Nat) (h : d < l.length) (x : UInt8) (hx : l.getD d 0 ≠ x) : l ≠ l.set d x := by
  intro e
  apply hx
  conv => lhs; rw [e]
  simp [List.getD_eq_getElem?_getD, h]
theorem set_back (l : List UInt8) (d : Nat) (h : d < l.length) (y z : UInt8) (hz : z = l.getD d 0) : (l.set d y).set d z = l := by
  rw [List.set_set, hz, List.getD_eq_getElem?_getD, List.getElem?_eq_getElem h]
  simp

set_option maxRecDepth 100000 in
set_option maxHeartbeats 4000000 in
theorem walk (w : World) (htab : Tabs w) (l : List UInt8) (a : Option Addr) (cap : Nat) (hb : Bytes w (Old w) a cap l) (t : List UInt8) (a2 : Option Addr) (cap2 : Nat) (hb2 : Bytes w (Old w) a2 cap2 t)
    (o : List UInt8) (a3 : Option Addr) (cap3 : Nat) (hb3 : Bytes w (Old w) a3 cap3 o) (z : Int) (wz : (Lit.int .i64 z).wf = true) :
    Calls Tryd.prog 13 #[.agg #[.slice a l.length cap, .slice a2 t.length cap2, .slice a3 o.length cap3, .int .i64 z]] w fun e w' => e = .returned (.bool true) ∧ Below w.heap.size w w' := by
  have h2 := size_of_tabs htab
  obtain ⟨zl, zh⟩ := bounds_i64 wz
  have hcap : l.length ≤ cap ∧ cap ≤ 9223372036854775807 := by have h1 := hb.1; have h2 := hb.2.1; unfold maxLen at h2; omega
  have hcap2 : t.length ≤ cap2 ∧ cap2 ≤ 9223372036854775807 := by have h1 := hb2.1; have h2 := hb2.2.1; unfold maxLen at h2; omega
  have hcap3 : o.length ≤ cap3 ∧ cap3 ≤ 9223372036854775807 := by have h1 := hb3.1; have h2 := hb3.2.1; unfold maxLen at h2; omega
  obtain ⟨n, hn⟩ : ∃ n, n = l.length := ⟨_, rfl⟩
  have Hn := hid hn
  obtain ⟨m, hm⟩ : ∃ m, m = t.length := ⟨_, rfl⟩
  have Hm := hid hm
  obtain ⟨r, hr⟩ : ∃ r, r = o.length := ⟨_, rfl⟩
  have Hr := hid hr
  rw [← hn] at hcap ⊢
  rw [← hm] at hcap2 ⊢
  rw [← hr] at hcap3 ⊢
  obtain ⟨wa, hwa⟩ : ∃ wa, wa = w.alloc (.cells #[.slice a n cap, .slice a2 m cap2, .slice a3 r cap3, .int .i64 z] 46) := ⟨_, rfl⟩
  have row : HasRow wa w.heap.size [.slice a n cap, .slice a2 m cap2, .slice a3 r cap3, .int .i64 z] 46 := by rw [hwa]; exact HasRow.new _ _ _
  have ba : Below w.heap.size w wa := by rw [hwa]; exact (Below.refl _ _).alloc (Nat.le_refl _) _
  have sa : wa.heap.size = w.heap.size + 1 := by rw [hwa]; simp
  have x0 := row.cell_any 0
  have x1 := row.cell_any 1
  have x2 := row.cell_any 2
  have x3 := row.cell_any 3
  have hww := hwa.symm
  have Row := hid row
  have Ba := hid ba
  have Sa := hid sa
  have Htab := hid (htab.below h2 ba)
  have Hb := hid (hb.below_of ba)
  have Hb2 := hid (hb2.below_of ba)
  have Hb3 := hid (hb3.below_of ba)
  clear hb hb2 hb3 htab wz hn hm hr hwa row ba sa
  by_cases hbad : 4096 < n ∨ 4096 < m ∨ 4096 < r
  · by_cases hl : 4096 < n <;> by_cases hl2 : 4096 < m
    all_goals
      have hbad2 : 4096 < n ∨ 4096 < m ∨ 4096 < r := hbad
      have hl3 : ¬ 4096 < n → ¬ 4096 < m → 4096 < r := by omega
      clear hbad
      first
        | (have hl4 := hl3 hl hl2)
        | skip
      clear hl3 hbad2
      go_enter Tryd.func13, Tryd.ntmps13
      go_wp2_with fail
      refine (works7_any wa Htab.out (by have := Sa.out; omega)).mono ?_
      rintro e w1 ⟨rfl, b1⟩
      go_wp2
      go_ret
      exact ⟨rfl, Ba.out.trans (b1.mono Ba.out.size)⟩
  · have hbad2 : ¬ 4096 < n ∧ ¬ 4096 < m ∧ ¬ 4096 < r := by omega
    obtain ⟨hn4, hm4, hr4⟩ := hbad2
    clear hbad
    have n5 : n ≤ 4096 := by omega
    have SB : Hid (∀ w', Below wa.heap.size wa w' → Calls Tryd.prog 28 #[.slice a n cap, .slice a2 m cap2] w' fun e w'' => e = .returned (.bool (decide (l = t))) ∧ w' = w'') := fun w' h => same_any w' _ _ l n Hn.out.symm a cap (Hb.out.below_of h) t m Hm.out.symm a2 cap2 (Hb2.out.below_of h)
    have SA : Hid (∀ w', Below wa.heap.size wa w' → Calls Tryd.prog 28 #[.slice a2 m cap2, .slice a n cap] w' fun e w'' => e = .returned (.bool (decide (l = t))) ∧ w' = w'') := fun w' h => (same_any w' _ _ t m Hm.out.symm a2 cap2 (Hb2.out.below_of h) l n Hn.out.symm a cap (Hb.out.below_of h)).mono fun e w'' ⟨he, hw⟩ => ⟨by rw [he, decide_eq_decide.2 eq_comm], hw⟩
    have SS : Hid (∀ w', Below wa.heap.size wa w' → Calls Tryd.prog 28 #[.slice a n cap, .slice a n cap] w' fun e w'' => e = .returned (.bool true) ∧ w' = w'') := fun w' h => (same_any w' _ _ l n Hn.out.symm a cap (Hb.out.below_of h) l n Hn.out.symm a cap (Hb.out.below_of h)).mono fun e w'' ⟨he, hw⟩ => ⟨by rw [he, decide_eq_true rfl], hw⟩
    have SC : Hid (∀ w', Below wa.heap.size wa w' → Calls Tryd.prog 28 #[.slice a2 m cap2, .slice a3 r cap3] w' fun e w'' => e = .returned (.bool (decide (t = o))) ∧ w' = w'') := fun w' h => same_any w' _ _ t m Hm.out.symm a2 cap2 (Hb2.out.below_of h) o r Hr.out.symm a3 cap3 (Hb3.out.below_of h)
    have SD : Hid (∀ w', Below wa.heap.size wa w' → Calls Tryd.prog 28 #[.slice a n cap, .slice a3 r cap3] w' fun e w'' => e = .returned (.bool (decide (l = o))) ∧ w' = w'') := fun w' h => same_any w' _ _ l n Hn.out.symm a cap (Hb.out.below_of h) o r Hr.out.symm a3 cap3 (Hb3.out.below_of h)
    have LT : Hid (l = t → t = o → l = o) := fun h1 h2 => h1.trans h2
    have LL : Hid (l = t → n = m) := fun h => by rw [Hn.out, Hm.out, h]
    have Bw := hid (Below.refl wa.heap.size wa)
    obtain ⟨p, hp⟩ : ∃ p, p = decide (l = t) := ⟨_, rfl⟩
    obtain ⟨q, hq⟩ : ∃ q, q = decide (t = o) := ⟨_, rfl⟩
    obtain ⟨s, hs⟩ : ∃ s, s = decide (l = o) := ⟨_, rfl⟩
    have Hp := hid hp
    have Hq := hid hq
    have Hs := hid hs
    rw [← hp] at SB SA
    rw [← hq] at SC
    rw [← hs] at SD
    clear hp hq hs
    go_enter Tryd.func13, Tryd.ntmps13
    go_upto_region 5 with (go_at_call 28; first
      | ((with_reducible refine (SB.out _ Bw.out).mono ?_); rintro e w' ⟨rfl, rfl⟩)
      | ((with_reducible refine (SA.out _ Bw.out).mono ?_); rintro e w' ⟨rfl, rfl⟩))
    go_cut [67] (fun v wx => v = .bool false ∧ wa = wx)
    case first =>
      have hpp : p = false ∨ (p = true ∧ n = m ∧ (q = false ∨ (q = true ∧ s = true))) := by
        cases p
        · exact .inl rfl
        · refine .inr ⟨rfl, LL.out (of_decide_eq_true Hp.out.symm), ?_⟩
          cases q
          · exact .inl rfl
          · refine .inr ⟨rfl, ?_⟩
            rw [Hs.out]
            exact decide_eq_true (LT.out (of_decide_eq_true Hp.out.symm) (of_decide_eq_true Hq.out.symm))
      rcases hpp with h | ⟨h, hnm, h2 | ⟨h2, h3⟩⟩
      all_goals
        subst h
        try subst hnm
        try subst h2
        try subst h3
        go_wp2_with (go_at_call 28; first
          | ((with_reducible refine (SB.out _ Bw.out).mono ?_); rintro e w' ⟨rfl, rfl⟩)
          | ((with_reducible refine (SA.out _ Bw.out).mono ?_); rintro e w' ⟨rfl, rfl⟩)
          | ((with_reducible refine (SS.out _ Bw.out).mono ?_); rintro e w' ⟨rfl, rfl⟩)
          | ((with_reducible refine (SC.out _ Bw.out).mono ?_); rintro e w' ⟨rfl, rfl⟩)
          | ((with_reducible refine (SD.out _ Bw.out).mono ?_); rintro e w' ⟨rfl, rfl⟩))
        go_meet
        exact ⟨rfl, rfl⟩
    case rest =>
      obtain ⟨rfl, rfl⟩ := hcut
      clear SC SD
      obtain ⟨i0, hi, hz0, hz1, hz2⟩ := info_parts info_u8
      have Hi := hid hi
      have Hz0 := hid hz0
      have Hz1 := hid hz1
      have Hz2 := hid hz2
      clear hi hz0 hz1 hz2
      go_wp2_with fail
      refine (copy_len wa _ l n Hn.out.symm a cap Hb.out (by omega)).mono ?_
      rintro e w1 ⟨v1, rfl, ow, b1⟩
      rw [← Hn.out] at ow
      obtain ⟨a1, c1, hv, hby, _⟩ := own_open ow (fun _ => False) (fun _ _ h => h)
      subst hv
      have hc1 : n ≤ c1 ∧ c1 ≤ 9223372036854775807 := by have h1 := hby.1; have h2 := hby.2.1; have := Hn.out; unfold maxLen at h2; omega
      have y3 : w1.cell? ⟨w.heap.size, 3, none⟩ = some (.int .i64 z) := (b1.cell (by show w.heap.size < _; rw [Sa.out]; omega)).trans x3
      have Y3 := hid y3
      have Ow := hid ow
      have B1 := hid b1
      clear ow hby b1 x0 x1 x2 x3 y3
      obtain ⟨B, hB⟩ : ∃ B : Bool, B = decide (0 ≤ z ∧ z < 8 * (n : Int)) := ⟨_, rfl⟩
      have HB := hid hB
      clear hB
      go_upto_region 8 with (fail)
      go_cut [80] (fun v wx => v = .bool B ∧ w1 = wx)
      case first =>
        have cz := Y3.out
        by_cases hz : 0 ≤ z
        · by_cases hz2 : z < 8 * (n : Int)
          · have e : B = true := by rw [HB.out]; exact decide_eq_true ⟨hz, hz2⟩
            subst e
            go_wp2_with fail
            go_meet
            exact ⟨rfl, rfl⟩
          · have e : B = false := by rw [HB.out]; exact decide_eq_false (fun h => hz2 h.2)
            subst e
            go_wp2_with fail
            go_meet
            exact ⟨rfl, rfl⟩
        · have e : B = false := by rw [HB.out]; exact decide_eq_false (fun h => hz h.1)
          subst e
          go_wp2_with fail
          go_meet
          exact ⟨rfl, rfl⟩
      case rest =>
      obtain ⟨rfl, hw1⟩ := hcut
      subst hw1
      go_upto_if 80 with (fail)
      go_cut [5] (fun v wx => wx.ownsRow wa.heap.size 5 1 v n (bv l) ∧ Below wa.heap.size wa wx)
      case first =>
        by_cases hin : 0 ≤ z ∧ z < 8 * (n : Int)
        · have e : B = true := by rw [HB.out]; exact decide_eq_true hin
          subst e
          obtain ⟨k, hk⟩ : ∃ k : Nat, z = (k : Int) := ⟨z.toNat, by omega⟩
          subst hk
          have k8 : k < 8 * n := by omega
          obtain ⟨d, hd⟩ : ∃ d, d = k / 8 := ⟨_, rfl⟩
          obtain ⟨b, hb⟩ : ∃ b, b = k % 8 := ⟨_, rfl⟩
          have dn : d < n := by omega
          have b8 : b < 8 := by omega
          have d1 : ((k : Nat) : Int).tdiv 8 = (d : Int) := by rw [hd]; rfl
          have d2 : ((k : Nat) : Int) / 8 = (d : Int) := by rw [hd]; rfl
          have d3 : ((k : Nat) : Int).tmod 8 = (b : Int) := by rw [hb]; rfl
          have d4 : ((k : Nat) : Int) % 8 = (b : Int) := by rw [hb]; rfl
          have d6 : IntKind.i64.wrap (d : Int) = (d : Int) := IntWalk.i64_in _ (by omega)
          have d7 : IntKind.i64.wrap (b : Int) = (b : Int) := IntWalk.i64_in _ (by omega)
          have d5 : IntKind.u64.wrap (b : Int) = (b : Int) := by rw [IntKind.wrap_u64]; omega
          obtain ⟨g, rest, hv, hbg, hrow, hmx⟩ := own_open_all Ow.out (by omega)
          injection hv with ha hn2 hc2
          obtain ⟨rr, hrr⟩ : ∃ rr, rr = rest.length := ⟨_, rfl⟩
          rw [← hrr] at hc2 hmx
          subst ha hc2
          obtain ⟨yb, y0⟩ := pow_byte b b8
          obtain ⟨y, hy⟩ : ∃ y, y = UInt8.ofNat (2 ^ b) := ⟨_, rfl⟩
          rw [← hy] at yb y0
          obtain ⟨ba, offa, hab, _, _, _⟩ := Hb.out.2.2 (by intro e; have := Hn.out; rw [e] at this; simp at this; omega)
          subst hab
          have cz := Y3.out
          obtain ⟨x, hx⟩ : ∃ x, x = l.getD d 0 := ⟨_, rfl⟩
          have cd := row_front hrow d (by rw [← Hn.out]; exact dn)
          rw [← hx] at cd
          have fd := hrow.free d
          have i1 : (d : Int) < (n : Int) := by omega
          have gne : Hid (w.heap.size ≠ g) := by have := Sa.out; show w.heap.size ≠ g; omega
          have Y0 := hid y0
          have XB : Hid (bits .xor .u8 (bt8 (x ^^^ y)) (2 ^ b % 256) = bt8 (x ^^^ y ^^^ y)) := by show _ = _; rw [yb]; exact bt8_xor _ _
          have Hx := hid hx
          have Hrow := hid hrow
          have Hrr := hid hrr
          clear hd hb hrow hrr hx hn2 Ow y0 hy
          go_wp2_with fail
          refine region_tail 17 (by kernel_rfl) (by kernel_rfl) ?_
          simp only [List.take_succ_cons, List.take_zero, List.drop_succ_cons, List.drop_zero]
          repeat still_step
          refine wpStill_nil ?_
          go_wp2_with fail
          obtain ⟨w2, hw2⟩ : ∃ w2, w2 = (w1.setCell ⟨g, d, none⟩ (.int .u8 (bt8 (x ^^^ y)))).drew := ⟨_, rfl⟩
          rw [← hw2]
          obtain ⟨l2, hl2⟩ : ∃ l2, l2 = l.set d (x ^^^ y) := ⟨_, rfl⟩
          have R2 : Hid (HasRow w2 g (bv l2 ++ rest) 5) := by
            have := row_front_set Hrow.out d (by rw [← Hn.out]; exact dn) (x ^^^ y)
            rw [hw2, hl2]; exact this
          have BW2 : Hid (Below wa.heap.size wa w2) := by rw [hw2]; exact (B1.out.setCell (p := ⟨g, d, none⟩) hbg _).drew
          have L2 : Hid (l2.length = n) := by show _ = _; rw [hl2, List.length_set]; exact Hn.out.symm
          have N2 : Hid (decide (l = l2) = false) := decide_eq_false (by rw [hl2]; exact set_ne l d (by rw [← Hn.out]; exact dn) _ (by rw [← Hx.out]; exact xor_ne x y Y0.out))
          have N3 : Hid (decide (l = l.take d) = false) := decide_eq_false (fun e => by have := congrArg List.length e; rw [List.length_take, ← Hn.out] at this; omega)
          have cz2 : w2.cell? ⟨w.heap.size, 3, none⟩ = some (.int .i64 (k : Int)) := by
            have h3 : HasRow w1 w.heap.size _ _ := Row.out.below B1.out (by rw [Sa.out]; omega)
            have h4 := (h3.other (a := ⟨g, d, none⟩) gne.out (.int .u8 (bt8 (x ^^^ y)))).drew
            rw [hw2]; exact h4.cell_any 3
          have cd2 := row_front R2.out d (by rw [L2.out]; exact dn)
          rw [show l2.getD d 0 = x ^^^ y by rw [hl2]; simp [List.getD_eq_getElem?_getD, show d < l.length by rw [← Hn.out]; exact dn]] at cd2
          have fd2 := R2.out.free d
          have S2 := same_any w2 _ (fun _ => False) l n Hn.out.symm (some ⟨ba, offa, none⟩) cap (Hb.out.below_of BW2.out) l2 n L2.out (some ⟨g, 0, none⟩) (n + rr) (bytes_front R2.out _ (fun h => h) (n + rr) (by rw [L2.out]; omega) hmx)
          have S3 := same_any w2 _ _ l n Hn.out.symm (some ⟨ba, offa, none⟩) cap (Hb.out.below_of BW2.out) (l.take d) d (by rw [List.length_take, ← Hn.out]; omega) (some ⟨ba, offa, none⟩) cap ((Hb.out.below_of BW2.out).take d)
          rw [N2.out] at S2
          rw [N3.out] at S3
          have HS2 := hid S2
          have HS3 := hid S3
          have Hl2 := hid hl2
          clear S2 S3 hw2 hl2 cz cd fd
          refine HS2.out.mono ?_
          rintro e w3 ⟨rfl, rfl⟩
          go_wp2_with fail
          refine HS3.out.mono ?_
          rintro e w3 ⟨rfl, rfl⟩
          go_wp2_with fail
          refine region_tail 17 (by kernel_rfl) (by kernel_rfl) ?_
          simp only [List.take_succ_cons, List.take_zero, List.drop_succ_cons, List.drop_zero]
          repeat still_step
          refine wpStill_nil ?_
          go_wp2_with fail
          go_meet
          have R3 := row_front_set R2.out d (by rw [L2.out]; exact dn) (x ^^^ y ^^^ y)
          rw [Hl2.out, set_back l d (by rw [← Hn.out]; exact dn) _ _ (by rw [xor_back]; exact Hx.out), ← XB.out] at R3
          exact ⟨owns_of_row R3.drew hbg (Nat.le_add_right n rr) hmx (by rw [List.length_append, length_bv, ← Hn.out, Hrr.out]) (by rw [List.take_append_of_le_length (by rw [length_bv, ← Hn.out]; exact Nat.le_refl n), List.take_of_length_le (by rw [length_bv, ← Hn.out]; exact Nat.le_refl n)]), (BW2.out.setCell (p := ⟨g, d, none⟩) hbg _).drew⟩
        · have e : B = false := by rw [HB.out]; exact decide_eq_false hin
          subst e
          clear hin
          go_wp2_with fail
          go_meet
          exact ⟨Ow.out, B1.out⟩
      case rest =>
        obtain ⟨ow2, b2⟩ := hcut
        have Ow2 := hid ow2
        have B2 := hid b2
        have Zo := hid b2.size
        clear ow2 b2
        go_wp2_with (refine wpList_append_any rfl (.tmp 127) (.tmp 128) 22 rfl wa.heap.size 5 i0 Tryd.underlying22 Hi.out Hz0.out Hz1.out Hz2.out _ n _ rfl (Ow2.out.alloc _) _ 1 1 [0] rfl rfl (newb wc 0 5) (by omega) (by simp; exact Nat.le_trans Zo.out (Nat.le_succ _)) ?_; intro v4 w4 hown4 g4 hv4; have Hown4 := hid hown4; have G4 := hid g4; clear hown4 g4 hv4)
        have B4 : Hid (Below wa.heap.size wa w4) := own_below_of (Ow2.out.alloc _) G4.out (B2.out.alloc Zo.out _) (Nat.le_refl _) (by simp; exact Nat.le_trans Zo.out (Nat.le_succ _))
        have L1 : Hid ((l ++ [0]).length = n + 1) := by show _ = _; rw [List.length_append, ← Hn.out]; rfl
        obtain ⟨a4, c4, hv4, hb4, _⟩ := own_open Hown4.out (fun _ => False) (fun _ _ h => h)
        subst hv4
        have Hb4 := hid hb4
        have NE : Hid (decide (l = l ++ [0]) = false) := by
          apply decide_eq_false
          intro e
          have := congrArg List.length e
          simp at this
        clear hb4
        refine (same_any w4 _ _ l n Hn.out.symm a cap (Hb.out.below_of B4.out) (l ++ [0]) (n + 1) L1.out a4 c4 Hb4.out).mono ?_
        rintro e w5 ⟨rfl, rfl⟩
        rw [NE.out]
        go_wp2_with fail
        refine (works7_any w4 (Htab.out.below (by have := Sa.out; omega) B4.out) (by have := B4.out.size; have := Sa.out; omega)).mono ?_
        rintro e w6 ⟨rfl, b6⟩
        have B6 := hid b6
        clear b6
        go_wp2
        go_ret
        exact ⟨rfl, Ba.out.trans ((B4.out.trans (B6.out.mono B4.out.size)).mono Ba.out.size)⟩

theorem open_three {H : Type} {enc : TypeId × Value → H} {W : World} {sp : Nat → Bool} {held : Bool} {v : Value} {d : DataW H} {p : List MemPlace} {B b0 : Nat} {r : Reach}
    (hv : Value.okWide Tryd.prog W r b0 46 v) (h : DataW.Trod enc Tryd.prog W B sp held 46 v d p) :
    ∃ a cap l a2 cap2 t a3 cap3 o z, v = .agg #[.slice a (List.length l) cap, .slice a2 (List.length t) cap2, .slice a3 (List.length o) cap3, .int .i64 z] ∧ Bytes W (Old W) a cap l ∧ Bytes W (Old W) a2 cap2 t ∧ Bytes W (Old W) a3 cap3 o ∧ (Lit.int .i64 z).wf = true := by
  obtain ⟨c0, c1, c2, c3, y0, y1, y2, y3, m, rfl, _, _, f0, f1, f2, f3⟩ := Joins.open_agg4 Tryd.underlying46 (by kernel_rfl) (by kernel_rfl) hv h
  obtain ⟨a, cap, l, e0, b0⟩ := open_bytes_cs f0
  obtain ⟨a2, cap2, t, e1, b1⟩ := open_bytes_cs f1
  obtain ⟨a3, cap3, o, e2, b2⟩ := open_bytes_cs f2
  obtain ⟨z, e3, _, wz⟩ := DataW.trod_int Tryd.underlying3 f3
  simp only [List.cons.injEq, and_true] at e0 e1 e2 e3
  subst e0 e1 e2 e3
  exact ⟨a, cap, l, a2, cap2, t, a3, cap3, o, z, rfl, b0, b1, b2, wz⟩
theorem paramsAre : Tryd.f13.params = #[46] := by kernel_rfl

/-- WHAT THE WALK GIVES, FOR EVERY ARGUMENT AND EVERY WORLD THAT HOLDS THE TABLES. -/
theorem contract (H : Type) (enc : TypeId × Value → H) (W : World) (base : Nat) (args : Array Value) (ds gs : List (DataW H)) (before : List MemPlace)
    (hval : ∀ (j : Nat) t v, Tryd.f13.params[j]? = some t → args[j]? = some v → Value.okWide Tryd.prog W .any base t v)
    (hW : DataW.Whole enc Tryd.prog Tryd.f13.params.toList Rows.macAlikeSpec.vars false W args.toList ds gs before) (hL : laidMetH Tryd.prog Rows.macAlikeRow.laid W) :
    Calls Tryd.prog 13 args W fun e W' => ∃ v, e = .returned v ∧ Rows.macAlikeSpec.post enc Tryd.prog Tryd.f13 false true false false W args v W' := by
  have hW' := hW
  obtain ⟨p, q, hA0, hV, rfl, hfz, hnd⟩ := hW
  have hA : DataW.TrodAll enc Tryd.prog W 0 (fun _ => true) true Tryd.f13.params.toList args.toList ds p := hA0
  rw [paramsAre] at hA hval
  obtain ⟨v0, vs0, d0, ds0, p0, q0, hargs, rfl, rfl, h0, r0⟩ := trodAll_cons hA
  obtain ⟨rfl, rfl, rfl⟩ := trodAll_nil r0
  obtain rfl : args = #[v0] := by cases args; simp_all
  obtain ⟨rfl, rfl⟩ := trodVars_none hV
  clear hA0
  have k0 := h0
  have lt0 : ∀ x ∈ p0, x.block < W.heap.size := by obtain ⟨m, hm⟩ := k0; exact DataW.trod_lt m _ _ _ hm
  obtain ⟨a0a, cap0a, l0a, a0b, cap0b, l0b, a0c, cap0c, l0c, z0, rfl, w0a, w0b, w0c, w0z⟩ := open_three (hval 0 46 v0 rfl rfl) h0
  simp only [List.append_nil] at hW'
  refine (walk W (tabs_of_laid hL) l0a a0a cap0a w0a l0b a0b cap0b w0b l0c a0c cap0c w0c z0 w0z).mono fun e W' ⟨he, bel⟩ => ?_
  subst he
  exact ⟨_, rfl, _, _, _, [], _, [], hW', trodAll_mk1 (shut_bool Tryd.underlying4 _), (trodAll_cons_mk (Below.trod laidOut (by kernel_rfl) (of_decide_eq_true (by kernel_rfl)) k0 bel lt0) trodAll_mk0), rfl, bel.frame _, fun h => by cases h⟩

/-- A WORLD FOR THE WITNESS: the settled one, the tables holding what their initialisers lay. -/
noncomputable def laidWorld (os : Os) : World :=
  { World.holding Tryd.prog os ⟨#[], #[], []⟩ with heap := ((World.holding Tryd.prog os ⟨#[], #[], []⟩).heap.modify 0 (layCells (wv Sha.hTab).toArray)).modify 1 (layCells (wv Sha.kTab).toArray) }
theorem laid_met (os : Os) : laidMet Tryd.prog Rows.macAlikeRow.laid ((laidWorld os).forCall (fun _ _ => 0) ⟨#[], #[.agg #[.slice none 0 0, .slice none 0 0, .slice none 0 0, .int .i64 0]], []⟩).memory :=
  laidMet_of_run' 8 (by kernel_rfl) (by kernel_rfl)
theorem reads (os : Os) {H : Type} (enc : TypeId × Value → H) : ∃ places, DataW.whole enc Tryd.prog ((laidWorld os).forCall (fun _ _ => 0) ⟨#[], #[.agg #[.slice none 0 0, .slice none 0 0, .slice none 0 0, .int .i64 0]], []⟩).memory Tryd.f13.params.toList Rows.macAlikeSpec.vars false (#[.agg #[.slice none 0 0, .slice none 0 0, .slice none 0 0, .int .i64 0]] : Array Value).toList 8 = some ([.agg [.nil, .nil, .nil, .lit (.int .i64 0)]], [], places) :=
  ⟨[], by kernel_rfl⟩

set_option maxRecDepth 100000 in
theorem lifted (os : Os) (started : os.Started) (H : Type) (enc : TypeId × Value → H) (F : Stop.Interp) :
    ReturnsInHanded {} Tryd.checked os 13 .any ((OpenSpec.ofChange Rows.macAlikeSpec).preRow enc Tryd.prog Tryd.f13 Rows.macAlikeRow.domain false Rows.macAlikeRow.laid) (((OpenSpec.ofChange Rows.macAlikeSpec).at F).post enc Tryd.prog Tryd.f13 false true false false) := by
  obtain ⟨places, hx⟩ := reads os enc
  refine returnsInHanded_of_row (C := Tryd.checked) (s := OpenSpec.ofChange Rows.macAlikeSpec) own started (by kernel_rfl) Tryd.func13
    (witness_row_at (enc := enc) (C := Tryd.checked) false (laidWorld os) #[.agg #[.slice none 0 0, .slice none 0 0, .slice none 0 0, .int .i64 0]] rfl (by kernel_rfl) (by kernel_rfl) (by kernel_rfl)
      (OpenSpec.preRow_of_cond 8 hx (by kernel_rfl) (fun k hk => by cases hk) (by kernel_rfl) (laid_met os))) ?_
  intro W base args ds gs before hval hW _ _ _ hL _ _
  exact contract H enc W base args ds gs before hval hW hL

theorem said : Rows.MacAlikeSaid :=
  OpenClaim.holds_of_cond 13 Tryd.f13 rfl rfl rfl rfl rfl rfl rfl ⟨rfl, rfl, rfl, rfl, rfl⟩ rfl rfl rfl rfl rfl (by kernel_rfl) Tryd.func13 (by kernel_rfl)
    (of_decide_eq_true (by kernel_rfl)) (by unfold Func.isWrapper; first | (rw [if_pos (by decide +kernel)]; kernel_rfl) | (rw [if_neg (by decide +kernel)]; exact ⟨rfl, rfl⟩))
    (fun os started H enc _ F => by rw [OpenClaim.pre_eq_preRow]; exact lifted os started H enc F)

theorem plain (f : FuncId) (fn : Func) (hf : Tryd.pinned.checked.prog.funcNamed "fairlead/fairleadlaw07.MacAlike" = some f) (hfn : Tryd.pinned.checked.prog.funcs[f]? = some fn) :
    false = Tryd.pinned.checked.prog.looks [] ∧ ∀ (j : Nat) t, fn.params[j]? = some t → Tryd.pinned.checked.prog.wantsStandIn t = false := by
  obtain rfl : f = 13 := Option.some.inj ((show Tryd.prog.funcNamed "fairlead/fairleadlaw07.MacAlike" = some 13 by kernel_rfl).symm.trans hf) |>.symm
  obtain rfl : fn = Tryd.f13 := (Option.some.inj (Tryd.func13.symm.trans hfn)).symm
  refine ⟨by kernel_rfl, fun j t ht => ?_⟩
  rw [paramsAre] at ht
  obtain rfl : t = 46 := by have := Array.mem_of_getElem? ht; simpa using this
  exact (show Tryd.prog.wantsStandIn 46 = false by kernel_rfl)

/-- ████ THE CARD ████ -/
theorem card : Rows.MacAlikeCardSaid :=
  Claim7.holds_tied_plain_at .later [] _ _ _ _ said (fun _ h => by cases h) (by kernel_rfl) (fun _ h => by cases h) macAlike_row_tie rfl ⟨rfl, rfl⟩ (by kernel_rfl) rfl plain (by kernel_rfl)
#print axioms card
end Go.Proofs.YtadpcefdkifagaaDoor.macAlikeDone
