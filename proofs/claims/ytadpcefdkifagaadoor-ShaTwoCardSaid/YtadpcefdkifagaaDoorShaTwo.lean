/- ShaTwo: for every input the law returns true and the input reads as it did. Conditions: the row's own (the tables are laid as the program's text lays them). -/
import Derived.Test.YtadpcefdkifagaaDoorCopy
import Derived.Test.YtadpcefdkifagaaDoorLaws4
namespace Go.Proofs.YtadpcefdkifagaaDoor.shaTwoDone
open Go.ChangeShapes Go.WideShapes Go.ChangeAt Go.RowKit
open Sha (W)

/-- what the first k pieces give the one, and the other -/
def part (ls : List (List UInt8)) (ts : List Bool) (which : Bool) : Nat → List UInt8
  | 0 => []
  | k + 1 => if ts.getD k false = which then part ls ts which k ++ ls.getD k [] else part ls ts which k
theorem part_len (ls : List (List UInt8)) (ts : List Bool) (which : Bool) (h : ∀ k, (ls.getD k []).length ≤ 1024) (k : Nat) : (part ls ts which k).length ≤ 1024 * k := by
  induction k with
  | zero => simp [part]
  | succ k ih =>
    rw [part]
    have := h k
    split
    · rw [List.length_append]; omega
    · omega
theorem part_yes (ls : List (List UInt8)) (ts : List Bool) (which : Bool) (k : Nat) (h : ts.getD k false = which) : part ls ts which k ++ ls.getD k [] = part ls ts which (k + 1) := by rw [part, if_pos h]
theorem part_no (ls : List (List UInt8)) (ts : List Bool) (which : Bool) (k : Nat) (h : ¬ ts.getD k false = which) : part ls ts which k = part ls ts which (k + 1) := by rw [part, if_neg h]

set_option maxRecDepth 100000 in
set_option maxHeartbeats 2000000 in
theorem walk (w : World) (htab : Tabs w) (ls : List (List UInt8)) (a : Option Addr) (cap : Nat) (hb : RowsAt w (Old w) a cap ls) (ts : List Bool) (a2 : Option Addr) (cap2 : Nat) (hb2 : BoolsAt w (Old w) a2 cap2 ts) :
    Calls Tryd.prog 7 #[.slice a ls.length cap, .slice a2 ts.length cap2] w fun e w' => e = .returned (.bool true) ∧ Below w.heap.size w w' := by
  have h2 := size_of_tabs htab
  have Htab := hid htab
  have Hb := hid hb
  have Hb2 := hid hb2
  have hcap : ls.length ≤ cap ∧ cap ≤ 9223372036854775807 := by have h1 := hb.1; have h2 := hb.2.1; unfold maxLen at h2; omega
  have hcap2 : ts.length ≤ cap2 ∧ cap2 ≤ 9223372036854775807 := by have h1 := hb2.1; have h2 := hb2.2.1; unfold maxLen at h2; omega
  clear hb hb2 htab
  obtain ⟨n, hn⟩ : ∃ n, n = ls.length := ⟨_, rfl⟩
  have Hn := hid hn
  have Hlong : Hid (∀ w1, RowsAt w1 (Old w) a cap ls → Calls Tryd.prog 20 #[.slice a n cap] w1 fun e w' => e = .returned (.bool (longB ls)) ∧ w1 = w') := by intro w1 h1; rw [hn]; exact long_any _ _ ls a cap h1
  rw [← hn] at hcap ⊢
  obtain ⟨q, hq⟩ : ∃ q, q = ts.length := ⟨_, rfl⟩
  have Hq := hid hq
  rw [← hq] at hcap2 ⊢
  clear hn hq
  by_cases hbad : longB ls = true ∨ 50 < q
  · cases hl : longB ls
    · have hq50 : 50 < q := by rcases hbad with h | h; (rw [hl] at h; cases h); exact h
      have Hl := hid hl
      clear hl hbad
      go_enter Tryd.func7, Tryd.ntmps7
      go_wp2_with fail
      refine (Hlong.out _ Hb.out).mono ?_
      rintro e w1 ⟨rfl, rfl⟩
      rw [Hl.out]
      go_wp2_with fail
      refine (works6_any _ Htab.out h2).mono ?_
      rintro e w1 ⟨rfl, b1⟩
      go_wp2
      go_ret
      exact ⟨rfl, b1⟩
    · have Hl := hid hl
      clear hl hbad
      go_enter Tryd.func7, Tryd.ntmps7
      go_wp2_with fail
      refine (Hlong.out _ Hb.out).mono ?_
      rintro e w1 ⟨rfl, rfl⟩
      rw [Hl.out]
      go_wp2_with fail
      refine (works6_any _ Htab.out h2).mono ?_
      rintro e w1 ⟨rfl, b1⟩
      go_wp2
      go_ret
      exact ⟨rfl, b1⟩
  · have hl : longB ls = false := by cases h : longB ls; rfl; exact absurd (Or.inl h) hbad
    have hq50 : ¬ 50 < q := fun h => hbad (Or.inr h)
    obtain ⟨h50, hk1024⟩ := longB_false hl
    rw [← Hn.out] at h50
    have Hl := hid hl
    have H1024 := hid hk1024
    obtain ⟨i0, hi, hz0, hz1, hz2⟩ := info_parts info_u8
    have Hi := hid hi
    have Hz0 := hid hz0
    have Hz1 := hid hz1
    have Hz2 := hid hz2
    clear hl hk1024 hbad hi hz0 hz1 hz2
    go_enter Tryd.func7, Tryd.ntmps7
    go_wp2_with fail
    refine (Hlong.out _ Hb.out).mono ?_
    rintro e w1 ⟨rfl, rfl⟩
    rw [Hl.out]
    go_wp2_with fail
    refine (new_any _).mono ?_
    rintro e w1 ⟨rfl, st1, b1, z1⟩
    have St1 := hid st1
    have B1 := hid b1
    have Z1 := hid z1
    clear st1 b1 z1
    go_wp2_with fail
    refine (new_any _).mono ?_
    rintro e w2 ⟨rfl, st2, b2, z2⟩
    rw [Z1.out] at *
    have Tt2 : Hid (IsState w2 (w.heap.size + 1) []) := st2
    have St2 : Hid (IsState w2 w.heap.size []) := St1.out.below b2 (by omega)
    have B2 : Hid (Below w.heap.size w w2) := B1.out.trans (b2.mono (by omega))
    have Z2 : Hid (w2.heap.size = w.heap.size + 2) := z2
    clear st2 b2 z2
    go_wp2_with fail
    go_loopw [7, 8, 9] (fun va vb i wr => ∃ k : Nat, k ≤ n ∧ i = .int .i64 (k : Int) ∧ IsState wr w.heap.size (part ls ts true k) ∧ IsState wr (w.heap.size + 1) (part ls ts false k) ∧
        wr.ownsRow (w.heap.size + 2) 5 1 va (part ls ts true k).length (bv (part ls ts true k)) ∧ wr.ownsRow (w.heap.size + 2) 5 1 vb (part ls ts false k).length (bv (part ls ts false k)) ∧
        Apart va vb ∧ Below w.heap.size w wr) (fun _ _ i _ => n - (intOf i).toNat)
    case atStart => exact ⟨0, by omega, rfl, St2.out, Tt2.out, World.ownsRow_nil _ _ _ _, World.ownsRow_nil _ _ _ _, (by intro k hk; cases hk), B2.out⟩
    case round =>
      obtain ⟨k, hk, rfl, st, tt, oa, ob, hne, bb⟩ := hrel
      have St := hid st
      have Tt := hid tt
      have Oa := hid oa
      have Ob := hid ob
      have Hne := hid hne
      have Bb := hid bb
      have TabR : Hid (Tabs wr) := Htab.out.below h2 bb
      have LtT := hid tt.lt
      clear st tt oa ob hne bb
      by_cases hkn : k < n
      · obtain ⟨b, off, ha, _, hlt, hc⟩ := Hb.out.2.2 (by intro e; have := Hn.out; rw [e] at this; simp at this; omega)
        subst ha
        obtain ⟨ai, ci, hck, hbi⟩ := hc k (by have := Hn.out; omega)
        obtain ⟨x, hx⟩ : ∃ x, x = ls.getD k [] := ⟨_, rfl⟩
        rw [← hx] at hck hbi
        obtain ⟨m, hm⟩ : ∃ m, m = x.length := ⟨_, rfl⟩
        rw [← hm] at hck
        have hm1024 : m ≤ 1024 := by rw [hm, hx]; exact H1024.out k
        have Hx : Hid (∀ w', Below w.heap.size w w' → Bytes w' (fun b => w.heap.size ≤ b) ai ci x) := fun w' h => hbi.below h (fun b hb hn => by unfold Old at hn; omega)
        have Hm := hid hm
        have HX := hid hx
        have cr : wr.cell? ⟨b, off + k, none⟩ = some (.slice ai m ci) := (Bb.out.cell (by exact hlt)).trans hck
        have Hlt := hid hlt
        have Hck := hid hck
        have pl1 := hid (part_len ls ts true H1024.out k)
        have pl2 := hid (part_len ls ts false H1024.out k)
        clear hc hck hbi hx hm hlt
        by_cases hturn : k < q ∧ ts.getD k false = true
        · obtain ⟨hkq, hT⟩ := hturn
          obtain ⟨b2, off2, ha2, _, hlt2, hc2⟩ := Hb2.out.2.2 (by intro e; have := Hq.out; rw [e] at this; simp at this; omega)
          subst ha2
          have ct : wr.cell? ⟨b2, off2 + k, none⟩ = some (.bool true) := by rw [← hT]; exact (Bb.out.cell (by exact hlt2)).trans (hc2 k (by have := Hq.out; omega))
          have HT := hid hT
          clear hc2 hT
          go_wp2_with fail
          refine (write_len w.heap.size _ x m Hm.out.symm _ _ _ St.out ((Hx.out _ Bb.out).other (fun b _ h e => h (by omega))) TabR.out (by omega) (by have := pl1.out; omega)).mono ?_
          rintro e w2 ⟨rfl, st2, g2⟩
          have St2 : Hid (IsState w2 w.heap.size (part ls ts true k ++ x)) := st2
          have Tt2 := hid (Tt.out.grown g2 (by intro e; injection e with e; omega))
          have Bb2 : Hid (Below w.heap.size w w2) := Bb.out.trans (below_of_grownBy g2 Bb.out.size (by intro k hk; injection hk with hk; omega))
          have Mi2 := hid (own_keep Oa.out g2 (by omega))
          have Ot2 := hid (own_keep Ob.out g2 (by omega))
          have Lt2 := hid g2.size
          have c2 : w2.cell? ⟨b, off + k, none⟩ = some (.slice ai m ci) := (Bb2.out.cell (by exact Hlt.out)).trans Hck.out
          have hnews : Hid (0 < m → ∃ b off, ai = some ⟨b, off, none⟩ ∧ ∀ j, j < m → w2.cell? ⟨b, off + j, none⟩ = some (.int .u8 (bt8 (x.getD j 0)))) := fun h0 => by
            obtain ⟨b, off, hab, _, _, hc⟩ := (Hx.out _ Bb2.out).2.2 (by intro e; have := Hm.out; rw [e] at this; simp at this; omega)
            exact ⟨b, off, hab, fun j hj => hc j (by have := Hm.out; omega)⟩
          clear st2 g2
          go_wp2_with (refine wpList_append_any rfl (.tmp 48) (.tmp 52) 22 rfl (w.heap.size + 2) 5 i0 Tryd.underlying22 Hi.out Hz0.out Hz1.out Hz2.out _ _ _ rfl Mi2.out _ m ci x rfl Hm.out.symm hnews.out (by have := pl1.out; omega) (by have := LtT.out; have := Lt2.out; omega) ?_; intro v' w4 hown4 g4 hv4; have Hown4 := hid hown4; have G4 := hid g4; have Hv4 := hid hv4; clear hown4 g4 hv4)
          go_roundw
          case rel =>
            have hp : part ls ts true k ++ x = part ls ts true (k + 1) := by rw [HX.out]; exact part_yes ls ts true k HT.out
            have ho : part ls ts false k = part ls ts false (k + 1) := part_no ls ts false k (by rw [HT.out]; decide)
            have St4 := St2.out.grown G4.out (own_other Mi2.out (by omega))
            have Tt4 := Tt2.out.grown G4.out (own_other Mi2.out (by omega))
            have Ot4 := own_apart Ot2.out G4.out Hne.out
            have Ap4 := Apart.step Hne.out Ot2.out Hv4.out
            have Mi4 := Hown4.out
            have Bb4 := own_below_of Mi2.out G4.out Bb2.out (by omega) (by have := LtT.out; have := Lt2.out; omega)
            rw [hp] at St4 Mi4
            rw [ho] at Tt4 Ot4
            have hlen : (part ls ts true k).length + m = (part ls ts true (k + 1)).length := by rw [← hp, List.length_append, Hm.out]
            rw [hlen] at Mi4
            exact ⟨k + 1, by omega, by go_num, St4, Tt4, Mi4, Ot4, Ap4, Bb4⟩
          case measure => simp [intOf]; omega
        · have HT : Hid (ts.getD k false = false) := by
            cases h : ts.getD k false
            · rfl
            · exfalso
              apply hturn
              refine ⟨?_, h⟩
              by_cases hkq : k < q
              · exact hkq
              · rw [List.getD_eq_getElem?_getD, List.getElem?_eq_none (by have := Hq.out; omega)] at h
                cases h
          by_cases hkq : k < q
          · obtain ⟨b2, off2, ha2, _, hlt2, hc2⟩ := Hb2.out.2.2 (by intro e; have := Hq.out; rw [e] at this; simp at this; omega)
            subst ha2
            have ct : wr.cell? ⟨b2, off2 + k, none⟩ = some (.bool false) := by rw [← HT.out]; exact (Bb.out.cell (by exact hlt2)).trans (hc2 k (by have := Hq.out; omega))
            clear hc2 hturn
            go_wp2_with fail
            refine (write_len (w.heap.size + 1) _ x m Hm.out.symm _ _ _ Tt.out ((Hx.out _ Bb.out).other (fun b _ h e => h (by omega))) TabR.out (by omega) (by have := pl2.out; omega)).mono ?_
            rintro e w2 ⟨rfl, st2, g2⟩
            have St2 : Hid (IsState w2 (w.heap.size + 1) (part ls ts false k ++ x)) := st2
            have Tt2 := hid (St.out.grown g2 (by intro e; injection e with e; omega))
            have Bb2 : Hid (Below w.heap.size w w2) := Bb.out.trans (below_of_grownBy g2 Bb.out.size (by intro k hk; injection hk with hk; omega))
            have Mi2 := hid (own_keep Ob.out g2 (by omega))
            have Ot2 := hid (own_keep Oa.out g2 (by omega))
            have Lt2 := hid g2.size
            have c2 : w2.cell? ⟨b, off + k, none⟩ = some (.slice ai m ci) := (Bb2.out.cell (by exact Hlt.out)).trans Hck.out
            have hnews : Hid (0 < m → ∃ b off, ai = some ⟨b, off, none⟩ ∧ ∀ j, j < m → w2.cell? ⟨b, off + j, none⟩ = some (.int .u8 (bt8 (x.getD j 0)))) := fun h0 => by
              obtain ⟨b, off, hab, _, _, hc⟩ := (Hx.out _ Bb2.out).2.2 (by intro e; have := Hm.out; rw [e] at this; simp at this; omega)
              exact ⟨b, off, hab, fun j hj => hc j (by have := Hm.out; omega)⟩
            clear st2 g2
            go_wp2_with (refine wpList_append_any rfl (.tmp 60) (.tmp 64) 22 rfl (w.heap.size + 2) 5 i0 Tryd.underlying22 Hi.out Hz0.out Hz1.out Hz2.out _ _ _ rfl Mi2.out _ m ci x rfl Hm.out.symm hnews.out (by have := pl2.out; omega) (by have := LtT.out; have := Lt2.out; omega) ?_; intro v' w4 hown4 g4 hv4; have Hown4 := hid hown4; have G4 := hid g4; have Hv4 := hid hv4; clear hown4 g4 hv4)
            go_roundw
            case rel =>
              have hp : part ls ts false k ++ x = part ls ts false (k + 1) := by rw [HX.out]; exact part_yes ls ts false k HT.out
              have ho : part ls ts true k = part ls ts true (k + 1) := part_no ls ts true k (by rw [HT.out]; decide)
              have St4 := St2.out.grown G4.out (own_other Mi2.out (by omega))
              have Tt4 := Tt2.out.grown G4.out (own_other Mi2.out (by omega))
              have Ot4 := own_apart Ot2.out G4.out Hne.out.symm
              have Ap4 := Apart.step Hne.out.symm Ot2.out Hv4.out
              have Mi4 := Hown4.out
              have Bb4 := own_below_of Mi2.out G4.out Bb2.out (by omega) (by have := LtT.out; have := Lt2.out; omega)
              rw [hp] at St4 Mi4
              rw [ho] at Tt4 Ot4
              have hlen : (part ls ts false k).length + m = (part ls ts false (k + 1)).length := by rw [← hp, List.length_append, Hm.out]
              rw [hlen] at Mi4
              exact ⟨k + 1, by omega, by go_num, Tt4, St4, Ot4, Mi4, Ap4.symm, Bb4⟩
            case measure => simp [intOf]; omega
          · clear hturn
            go_wp2_with fail
            refine (write_len (w.heap.size + 1) _ x m Hm.out.symm _ _ _ Tt.out ((Hx.out _ Bb.out).other (fun b _ h e => h (by omega))) TabR.out (by omega) (by have := pl2.out; omega)).mono ?_
            rintro e w2 ⟨rfl, st2, g2⟩
            have St2 : Hid (IsState w2 (w.heap.size + 1) (part ls ts false k ++ x)) := st2
            have Tt2 := hid (St.out.grown g2 (by intro e; injection e with e; omega))
            have Bb2 : Hid (Below w.heap.size w w2) := Bb.out.trans (below_of_grownBy g2 Bb.out.size (by intro k hk; injection hk with hk; omega))
            have Mi2 := hid (own_keep Ob.out g2 (by omega))
            have Ot2 := hid (own_keep Oa.out g2 (by omega))
            have Lt2 := hid g2.size
            have c2 : w2.cell? ⟨b, off + k, none⟩ = some (.slice ai m ci) := (Bb2.out.cell (by exact Hlt.out)).trans Hck.out
            have hnews : Hid (0 < m → ∃ b off, ai = some ⟨b, off, none⟩ ∧ ∀ j, j < m → w2.cell? ⟨b, off + j, none⟩ = some (.int .u8 (bt8 (x.getD j 0)))) := fun h0 => by
              obtain ⟨b, off, hab, _, _, hc⟩ := (Hx.out _ Bb2.out).2.2 (by intro e; have := Hm.out; rw [e] at this; simp at this; omega)
              exact ⟨b, off, hab, fun j hj => hc j (by have := Hm.out; omega)⟩
            clear st2 g2
            go_wp2_with (refine wpList_append_any rfl (.tmp 60) (.tmp 64) 22 rfl (w.heap.size + 2) 5 i0 Tryd.underlying22 Hi.out Hz0.out Hz1.out Hz2.out _ _ _ rfl Mi2.out _ m ci x rfl Hm.out.symm hnews.out (by have := pl2.out; omega) (by have := LtT.out; have := Lt2.out; omega) ?_; intro v' w4 hown4 g4 hv4; have Hown4 := hid hown4; have G4 := hid g4; have Hv4 := hid hv4; clear hown4 g4 hv4)
            go_roundw
            case rel =>
              have hp : part ls ts false k ++ x = part ls ts false (k + 1) := by rw [HX.out]; exact part_yes ls ts false k HT.out
              have ho : part ls ts true k = part ls ts true (k + 1) := part_no ls ts true k (by rw [HT.out]; decide)
              have St4 := St2.out.grown G4.out (own_other Mi2.out (by omega))
              have Tt4 := Tt2.out.grown G4.out (own_other Mi2.out (by omega))
              have Ot4 := own_apart Ot2.out G4.out Hne.out.symm
              have Ap4 := Apart.step Hne.out.symm Ot2.out Hv4.out
              have Mi4 := Hown4.out
              have Bb4 := own_below_of Mi2.out G4.out Bb2.out (by omega) (by have := LtT.out; have := Lt2.out; omega)
              rw [hp] at St4 Mi4
              rw [ho] at Tt4 Ot4
              have hlen : (part ls ts false k).length + m = (part ls ts false (k + 1)).length := by rw [← hp, List.length_append, Hm.out]
              rw [hlen] at Mi4
              exact ⟨k + 1, by omega, by go_num, Tt4, St4, Ot4, Mi4, Ap4.symm, Bb4⟩
            case measure => simp [intOf]; omega
      · obtain rfl : k = n := by omega
        have pl1 := hid (part_len ls ts true H1024.out k)
        have pl2 := hid (part_len ls ts false H1024.out k)
        generalize part ls ts true k = A at *
        generalize part ls ts false k = B at *
        obtain ⟨aa, ca, hva, hba⟩ := bytes_of_owns Oa.out (· < w.heap.size + 2) (by intro b hb e; omega)
        obtain ⟨ab, cb, hvb, hbb⟩ := bytes_of_owns Ob.out (· < w.heap.size + 2) (by intro b hb e; omega)
        subst hva hvb
        have Ba := hid hba
        have Bb1 := hid hbb
        have eqA := eq32 (Sha.sum A) (Sha.length_sum A)
        have eqB := eq32 (Sha.sum B) (Sha.length_sum B)
        clear hba hbb Oa Ob Hne
        go_wp2_with fail
        refine (stsum_any _ w.heap.size A St.out TabR.out h2 (by have := pl1.out; omega)).mono ?_
        rintro e w3 ⟨rfl, b3⟩
        have B3 := hid b3
        have Z3 := hid b3.size
        have BW3 : Hid (Below w.heap.size w w3) := Bb.out.trans (b3.mono Bb.out.size)
        clear b3
        go_wp2_with fail
        refine (sum_any A _ _ _ _ (Ba.out.below B3.out (fun b hb _ => hb)) (Htab.out.below h2 BW3.out) (by have := BW3.out.size; omega) (by have := pl1.out; omega)).mono ?_
        rintro e w4 ⟨rfl, b4⟩
        have B4 : Hid (Below wr.heap.size wr w4) := B3.out.trans (b4.mono Z3.out)
        have Z4 := hid B4.out.size
        have BW4 : Hid (Below w.heap.size w w4) := Bb.out.trans (B4.out.mono Bb.out.size)
        clear b4
        go_wp2_with fail
        refine (stsum_any _ (w.heap.size + 1) B (Tt.out.below B4.out LtT.out) (Htab.out.below h2 BW4.out) (by omega) (by have := pl2.out; omega)).mono ?_
        rintro e w5 ⟨rfl, b5⟩
        have B5 : Hid (Below wr.heap.size wr w5) := B4.out.trans (b5.mono Z4.out)
        have Z5 := hid B5.out.size
        have BW5 : Hid (Below w.heap.size w w5) := Bb.out.trans (B5.out.mono Bb.out.size)
        clear b5
        go_wp2_with fail
        refine (sum_any B _ _ _ _ (Bb1.out.below B5.out (fun b hb _ => hb)) (Htab.out.below h2 BW5.out) (by have := BW5.out.size; omega) (by have := pl2.out; omega)).mono ?_
        rintro e w6 ⟨rfl, b6⟩
        have B6 : Hid (Below wr.heap.size wr w6) := B5.out.trans (b6.mono Z5.out)
        have BW6 : Hid (Below w.heap.size w w6) := Bb.out.trans (B6.out.mono Bb.out.size)
        clear b6
        go_wp2_with fail
        refine (works6_any _ (Htab.out.below h2 BW6.out) (by have := BW6.out.size; omega)).mono ?_
        rintro e w7 ⟨rfl, b7⟩
        have B7 := hid b7
        clear b7
        go_wp2
        go_ret
        exact ⟨rfl, BW6.out.trans (B7.out.mono BW6.out.size)⟩

theorem paramsAre : Tryd.f7.params = #[29, 35] := by kernel_rfl

/-- WHAT THE WALK GIVES, FOR EVERY ARGUMENT AND EVERY WORLD THAT HOLDS THE TABLES. -/
theorem contract (H : Type) (enc : TypeId × Value → H) (W : World) (base : Nat) (args : Array Value) (ds gs : List (DataW H)) (before : List MemPlace)
    (hval : ∀ (j : Nat) t v, Tryd.f7.params[j]? = some t → args[j]? = some v → Value.okWide Tryd.prog W .any base t v)
    (hW : DataW.Whole enc Tryd.prog Tryd.f7.params.toList Rows.shaTwoSpec.vars false W args.toList ds gs before) (hL : laidMetH Tryd.prog Rows.shaTwoRow.laid W) :
    Calls Tryd.prog 7 args W fun e W' => ∃ v, e = .returned v ∧ Rows.shaTwoSpec.post enc Tryd.prog Tryd.f7 false true false false W args v W' := by
  have hW' := hW
  obtain ⟨p, q, hA0, hV, rfl, hfz, hnd⟩ := hW
  have hA : DataW.TrodAll enc Tryd.prog W 0 (fun _ => true) true Tryd.f7.params.toList args.toList ds p := hA0
  rw [paramsAre] at hA hval
  obtain ⟨v0, vs0, d0, ds0, p0, q0, hargs, rfl, rfl, h0, r0⟩ := trodAll_cons hA
  obtain ⟨v1, vs1, d1, ds1, p1, q1, rfl, rfl, rfl, h1, r1⟩ := trodAll_cons r0
  obtain ⟨rfl, rfl, rfl⟩ := trodAll_nil r1
  obtain rfl : args = #[v0, v1] := by cases args; simp_all
  obtain ⟨rfl, rfl⟩ := trodVars_none hV
  clear hA0
  obtain ⟨b0, n0, c0, rfl⟩ := okWide_slice Tryd.underlying29 (hval 0 29 v0 rfl rfl)
  have k0 := h0
  have lt0 : ∀ x ∈ p0, x.block < W.heap.size := by obtain ⟨m, hm⟩ := k0; exact DataW.trod_lt m _ _ _ hm
  obtain ⟨a0, cap0, l0, e0, w0⟩ := open_rows h0 cells_slice
  injection e0 with ea0 en0 ec0
  subst ea0 en0 ec0
  obtain ⟨b1, n1, c1, rfl⟩ := okWide_slice Tryd.underlying35 (hval 1 35 v1 rfl rfl)
  have k1 := h1
  have lt1 : ∀ x ∈ p1, x.block < W.heap.size := by obtain ⟨m, hm⟩ := k1; exact DataW.trod_lt m _ _ _ hm
  obtain ⟨a1, cap1, l1, e1, w1⟩ := open_bools h1 cells_slice
  injection e1 with ea1 en1 ec1
  subst ea1 en1 ec1
  simp only [List.append_nil] at hW'
  refine (walk W (tabs_of_laid hL) l0 b0 c0 w0 l1 b1 c1 w1).mono fun e W' ⟨he, bel⟩ => ?_
  subst he
  exact ⟨_, rfl, _, _, _, [], _, [], hW', trodAll_mk1 (shut_bool Tryd.underlying4 _), (trodAll_cons_mk (Below.trod laidOut (by kernel_rfl) (of_decide_eq_true (by kernel_rfl)) k0 bel lt0) (trodAll_cons_mk (Below.trod laidOut (by kernel_rfl) (of_decide_eq_true (by kernel_rfl)) k1 bel lt1) trodAll_mk0)), rfl, bel.frame _, fun h => by cases h⟩

/-- A WORLD FOR THE WITNESS: the settled one, the tables holding what their initialisers lay. -/
noncomputable def laidWorld (os : Os) : World :=
  { World.holding Tryd.prog os ⟨#[], #[], []⟩ with heap := ((World.holding Tryd.prog os ⟨#[], #[], []⟩).heap.modify 0 (layCells (wv Sha.hTab).toArray)).modify 1 (layCells (wv Sha.kTab).toArray) }
theorem laid_met (os : Os) : laidMet Tryd.prog Rows.shaTwoRow.laid ((laidWorld os).forCall (fun _ _ => 0) ⟨#[], #[.slice none 0 0, .slice none 0 0], []⟩).memory :=
  laidMet_of_run' 8 (by kernel_rfl) (by kernel_rfl)
theorem reads (os : Os) {H : Type} (enc : TypeId × Value → H) : ∃ places, DataW.whole enc Tryd.prog ((laidWorld os).forCall (fun _ _ => 0) ⟨#[], #[.slice none 0 0, .slice none 0 0], []⟩).memory Tryd.f7.params.toList Rows.shaTwoSpec.vars false (#[.slice none 0 0, .slice none 0 0] : Array Value).toList 8 = some ([.nil, .nil], [], places) :=
  ⟨[], by kernel_rfl⟩

set_option maxRecDepth 100000 in
theorem lifted (os : Os) (started : os.Started) (H : Type) (enc : TypeId × Value → H) (F : Stop.Interp) :
    ReturnsInHanded {} Tryd.checked os 7 .any ((OpenSpec.ofChange Rows.shaTwoSpec).preRow enc Tryd.prog Tryd.f7 Rows.shaTwoRow.domain false Rows.shaTwoRow.laid) (((OpenSpec.ofChange Rows.shaTwoSpec).at F).post enc Tryd.prog Tryd.f7 false true false false) := by
  obtain ⟨places, hx⟩ := reads os enc
  refine returnsInHanded_of_row (C := Tryd.checked) (s := OpenSpec.ofChange Rows.shaTwoSpec) own started (by kernel_rfl) Tryd.func7
    (witness_row_at (enc := enc) (C := Tryd.checked) false (laidWorld os) #[.slice none 0 0, .slice none 0 0] rfl (by kernel_rfl) (by kernel_rfl) (by kernel_rfl)
      (OpenSpec.preRow_of_cond 8 hx (by kernel_rfl) (fun k hk => by cases hk) (by kernel_rfl) (laid_met os))) ?_
  intro W base args ds gs before hval hW _ _ _ hL _ _
  exact contract H enc W base args ds gs before hval hW hL

theorem said : Rows.ShaTwoSaid :=
  OpenClaim.holds_of_cond 7 Tryd.f7 rfl rfl rfl rfl rfl rfl rfl ⟨rfl, rfl, rfl, rfl, rfl⟩ rfl rfl rfl rfl rfl (by kernel_rfl) Tryd.func7 (by kernel_rfl)
    (of_decide_eq_true (by kernel_rfl)) (by unfold Func.isWrapper; first | (rw [if_pos (by decide +kernel)]; kernel_rfl) | (rw [if_neg (by decide +kernel)]; exact ⟨rfl, rfl⟩))
    (fun os started H enc _ F => by rw [OpenClaim.pre_eq_preRow]; exact lifted os started H enc F)

theorem plain (f : FuncId) (fn : Func) (hf : Tryd.pinned.checked.prog.funcNamed "fairlead/fairleadlaw06.ShaTwo" = some f) (hfn : Tryd.pinned.checked.prog.funcs[f]? = some fn) :
    false = Tryd.pinned.checked.prog.looks [] ∧ ∀ (j : Nat) t, fn.params[j]? = some t → Tryd.pinned.checked.prog.wantsStandIn t = false := by
  obtain rfl : f = 7 := Option.some.inj ((show Tryd.prog.funcNamed "fairlead/fairleadlaw06.ShaTwo" = some 7 by kernel_rfl).symm.trans hf) |>.symm
  obtain rfl : fn = Tryd.f7 := (Option.some.inj (Tryd.func7.symm.trans hfn)).symm
  refine ⟨by kernel_rfl, fun j t ht => ?_⟩
  rw [paramsAre] at ht
  have hm : t = 29 ∨ t = 35 := by have := Array.mem_of_getElem? ht; simpa using this
  rcases hm with rfl | rfl
  · exact (show Tryd.prog.wantsStandIn 29 = false by kernel_rfl)
  · exact (show Tryd.prog.wantsStandIn 35 = false by kernel_rfl)

/-- ████ THE CARD ████ -/
theorem card : Rows.ShaTwoCardSaid :=
  Claim7.holds_tied_plain_at .later [] _ _ _ _ said (fun _ h => by cases h) (by kernel_rfl) (fun _ h => by cases h) shaTwo_row_tie rfl ⟨rfl, rfl⟩ (by kernel_rfl) rfl plain (by kernel_rfl)
#print axioms card
end Go.Proofs.YtadpcefdkifagaaDoor.shaTwoDone
