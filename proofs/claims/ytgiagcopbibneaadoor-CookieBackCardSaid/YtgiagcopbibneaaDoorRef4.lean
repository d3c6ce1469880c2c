/- The contract of fairleadref06.Sum. -/
import Derived.Test.YtgiagcopbibneaaDoorRef3
namespace Sha
/-- a list while its first elements move up by one -/
def shl (l : List W) (i : Nat) : List W := l.take (i + 1) ++ (l.drop i).take (7 - i)
theorem list_ofList (h : List W) (hh : h.length = 8) : (ofList h).list = h := by
  match h, hh with
  | [a, b, c, d, e, f, g, i], _ => rfl
theorem shl_get (R : St) (i : Nat) (hi : i < 7) : (shl R.list (i + 1)).getD i 0#32 = R.list.getD i 0#32 := by
  match i, hi with
  | 0, _ => rfl | 1, _ => rfl | 2, _ => rfl | 3, _ => rfl | 4, _ => rfl | 5, _ => rfl | 6, _ => rfl
theorem shl_set (R : St) (i : Nat) (hi : i < 7) : (shl R.list (i + 1)).set (i + 1) (R.list.getD i 0#32) = shl R.list i := by
  match i, hi with
  | 0, _ => rfl | 1, _ => rfl | 2, _ => rfl | 3, _ => rfl | 4, _ => rfl | 5, _ => rfl | 6, _ => rfl
theorem length_shl (R : St) (i : Nat) (hi : i < 8) : (shl R.list i).length = 8 := by
  match i, hi with
  | 0, _ => rfl | 1, _ => rfl | 2, _ => rfl | 3, _ => rfl | 4, _ => rfl | 5, _ => rfl | 6, _ => rfl | 7, _ => rfl
theorem shl_7 (R : St) : shl R.list 7 = R.list := rfl
theorem shl_0 (R : St) : shl R.list 0 = [R.a, R.a, R.b, R.c, R.d, R.e, R.f, R.g] := rfl
theorem sum_blocks (l : List UInt8) (M : Nat) (h : (l ++ tail l.length).length = 64 * M) : sum l = out (blocks (l ++ tail l.length) M) := by
  rw [sum, ← List.length_append, h, Nat.mul_div_cancel_left _ (by decide)]
theorem padded (l : List UInt8) : ∃ M, (l ++ tail l.length).length = 64 * M := by
  have h := whole_tail l.length
  refine ⟨(l.length + (tail l.length).length) / 64, ?_⟩
  rw [List.length_append]
  omega
theorem blocks_next (l : List UInt8) (j : Nat) : blocks l (j + 1) = List.zipWith (· + ·) (blocks l j) (rounds (ws ((l.drop (64 * j)).take 64) 64) (ofList (blocks l j)) 64).list := rfl
end Sha
namespace Go.Proofs.YtgiagcopbibneaaDoor
open Go.RowKit
open Sha (W)

set_option maxRecDepth 100000 in
set_option maxHeartbeats 4000000 in
theorem refsum_any (w : World) (no : Nat → Prop) (l : List UInt8) (n : Nat) (hn : l.length = n) (a : Option Addr) (cap : Nat) (hb : Bytes w no a cap l) (hmost : n < 1000000000) :
    Calls Tryd.prog 96 #[.slice a n cap] w fun e w' => e = .returned (.agg (bv (Sha.sum l)).toArray) ∧ Below w.heap.size w w' := by
  obtain ⟨wa, hwa⟩ : ∃ wa, wa = w.alloc (.cells (bv (List.replicate 32 0)).toArray 106) := ⟨_, rfl⟩
  have bwa : Below w.heap.size w wa := by rw [hwa]; exact (Below.refl _ _).alloc (Nat.le_refl _) _
  have sa : wa.heap.size = w.heap.size + 1 := by rw [hwa]; simp
  have ra : HasRow wa w.heap.size (bv (List.replicate 32 0)) 106 := by rw [hwa]; exact HasRow.new _ _ _
  obtain ⟨wb, hwb⟩ : ∃ wb, wb = wa.alloc (.cells (wv Sha.hTab).toArray 31) := ⟨_, rfl⟩
  have bwb : Below (w.heap.size + 1) wa wb := by rw [hwb]; exact (Below.refl _ _).alloc (by omega) _
  have sb : wb.heap.size = w.heap.size + 2 := by rw [hwb]; simp [sa]
  have rb : HasRow wb (w.heap.size + 1) (wv Sha.hTab) 31 := by rw [hwb, ← sa]; exact HasRow.new _ _ _
  have Hb := hid ((hb.other (no' := fun x => w.heap.size ≤ x) (fun b hb _ => by omega)).below (bwa.trans (bwb.mono (by omega))) (fun b hb _ => hb))
  have Hn := hid hn
  have Ra := hid (ra.below bwb (by omega))
  have Rb := hid rb
  have Bb := hid (bwa.trans (bwb.mono (by omega)))
  have Sb := hid sb
  have Hww := hid (show (w.alloc (.cells (bv (List.replicate 32 0)).toArray 106)).alloc (.cells (wv Sha.hTab).toArray 31) = wb by rw [hwb, hwa])
  obtain ⟨i0, hi, hz0, hz1, hz2⟩ := info_parts info_u32
  have Hi := hid hi
  have Hz0 := hid hz0
  have Hz1 := hid hz1
  have Hz2 := hid hz2
  clear hb hn bwa sa ra hwa bwb sb rb hwb hi hz0 hz1 hz2
  go_enter Tryd.func96, Tryd.ntmps96
  go_wp2_with fail
  refine (constants_any _).mono ?_
  rintro e w1 ⟨rfl, hk, bk, sk⟩
  have Hk : Hid (HasRow w1 (w.heap.size + 2) (wv Sha.kTab) 31) := hid (by simpa using hk)
  have Bk : Hid (Below (w.heap.size + 2) wb w1) := by rw [← Hww.out]; exact bk.mono (by simp)
  have Sk : Hid (w1.heap.size = w.heap.size + 3) := hid (by rw [sk]; simp)
  clear hk bk sk
  go_wp2_with fail
  refine (whole_any w1 _ l n Hn.out a cap (Hb.out.below Bk.out (fun b hb _ => by have := Sb.out; omega)) (by omega)).mono ?_
  rintro e w2 ⟨v, rfl, ow, b2⟩
  obtain ⟨L, hL⟩ : ∃ L, L = l ++ Sha.tail l.length := ⟨_, rfl⟩
  rw [← hL] at ow
  obtain ⟨M, hM⟩ := Sha.padded l
  rw [← hL] at hM
  obtain ⟨N, hN⟩ : ∃ N, N = L.length := ⟨_, rfl⟩
  rw [← hN] at ow hM
  have hN2 : N < 1000000200 := by have := Hn.out; rw [hN, hL, List.length_append, Sha.length_tail]; omega
  have hN0 : 0 < N := by rw [hN, hL, List.length_append, Sha.length_tail]; omega
  have HM := hid hM
  have HN := hid hN
  have HL := hid hL
  obtain ⟨aL, capL, hv, hby, hro⟩ := own_open ow (· = w.heap.size + 1) (by intro b hb e; have := Sk.out; omega)
  subst hv
  obtain ⟨gL, cuL, ha, _⟩ := hro hN0
  subst ha
  have Hby := hid hby
  have capL1 : N ≤ capL := by have := hby.1; omega
  have capL2 : capL ≤ 9223372036854775807 := by have := hby.2.1; unfold maxLen at this; omega
  have Ra2 : Hid (HasRow w2 w.heap.size (bv (List.replicate 32 0)) 106) := (Ra.out.below Bk.out (by omega)).below b2 (by have := Sk.out; omega)
  have Rb2 : Hid (HasRow w2 (w.heap.size + 1) (wv Sha.hTab) 31) := (Rb.out.below Bk.out (by omega)).below b2 (by have := Sk.out; omega)
  have Rk2 : Hid (HasRow w2 (w.heap.size + 2) (wv Sha.kTab) 31) := Hk.out.below b2 (by have := Sk.out; omega)
  have BW2 : Hid (Below w.heap.size w w2) := Bb.out.trans ((Bk.out.mono (by omega)).trans (b2.mono (by have := Sk.out; omega)))
  have Z2 : Hid (w.heap.size + 3 ≤ w2.heap.size) := by have := b2.size; have := Sk.out; exact hid (by omega)
  clear ow b2 hM hN hL hby hro Hk Bk Bb Ra Rb Hb
  go_wp2_with fail
  go_loopw [6] (fun v wr => ∃ j A : Nat, j ≤ M ∧ A = 64 * j ∧ v = .int .i64 (A : Int) ∧ HasRow wr (w.heap.size + 1) (wv (Sha.blocks L j)) 31 ∧ w2.grownBy wr (some (w.heap.size + 1))) (fun v _ => N - (intOf v).toNat)
  case atStart => exact ⟨0, 0, by omega, rfl, rfl, Rb2.out, grownBy_refl _ _⟩
  case round =>
    obtain ⟨j, A, hj, hA, rfl, hrow, hgr⟩ := hrel
    obtain ⟨wo, rfl⟩ : ∃ wo : World, wo = wr := ⟨_, rfl⟩
    have Hrow := hid hrow
    have Hgr := hid hgr
    have HA := hid hA
    obtain ⟨H, hH⟩ : ∃ H, H = Sha.blocks L j := ⟨_, rfl⟩
    rw [← hH] at Hrow
    have HH := hid hH
    have HHl : Hid (H.length = 8) := by rw [hH]; exact Sha.length_blocks _ _
    have Zo : Hid (w.heap.size + 3 ≤ wo.heap.size) := by have := hgr.size; have := Z2.out; exact hid (by omega)
    by_cases hlt : j < M
    · have hAN : A + 64 ≤ N := by have := HM.out; omega
      have Hpc : Hid (Bytes wo (· = w.heap.size + 1) (some ⟨gL, 0 + A, none⟩) (capL - A) ((L.drop A).take 64)) :=
        (Hby.out.grown hgr (by intro b e; injection e)).piece A 64 (by have := HN.out; omega) (by omega)
      have Hpl : Hid (((L.drop A).take 64).length = 64) := by have := HN.out; exact hid (by simp; omega)
      have q1 : IntKind.i64.wrap ((A : Int) + 64) = (A : Int) + 64 := IntWalk.i64_in _ (by omega)
      obtain ⟨BLK, hBLK⟩ : ∃ BLK, BLK = (L.drop A).take 64 := ⟨_, rfl⟩
      rw [← hBLK, Nat.zero_add] at Hpc
      rw [← hBLK] at Hpl
      have HB := hid hBLK
      clear hrow hgr hA hH hBLK
      go_wp2_with fail
      refine (words_any wo _ BLK Hpl.out _ _ Hpc.out).mono ?_
      rintro e w3 ⟨rfl, hw3, b3⟩
      obtain ⟨LW, hLW⟩ : ∃ LW, LW = Sha.ws BLK 64 := ⟨_, rfl⟩
      rw [← hLW] at hw3
      have HLW := hid hLW
      have HW : Hid (LW.length = 64) := by rw [hLW]; exact Sha.length_ws BLK 64
      have Hw3 := hid hw3
      have B3 := hid b3
      have Z3 : Hid (wo.heap.size < w3.heap.size) := hw3.lt
      have Hrow3 : Hid (HasRow w3 (w.heap.size + 1) (wv H) 31) := Hrow.out.below b3 (by have := Zo.out; omega)
      have Hk3 : Hid (HasRow w3 (w.heap.size + 2) (wv Sha.kTab) 31) := (Rk2.out.grown Hgr.out (by intro e; injection e with e; omega)).below b3 (by have := Zo.out; omega)
      have Hgr3 : Hid (w2.grownBy w3 (some (w.heap.size + 1))) := grownBy_trans Hgr.out (grownBy_below b3)
      clear hLW hw3 b3
      go_wp2_with (refine wpList_make_row rfl 126 _ _ rfl 31 i0 (.int .u32 0) Tryd.underlying126 Hi.out Hz0.out Hz1.out rfl .i64 .i64 8 8 rfl rfl (Nat.le_refl _) (by rw [Hz2.out]; decide) (by decide) ?_; intro w4 h4 b4 s4; have H4 := hid h4; have B4 := hid b4; have S4 := hid s4; clear h4 b4 s4)
      obtain ⟨GA, hGA⟩ : ∃ GA, GA = w3.heap.size := ⟨_, rfl⟩
      obtain ⟨GW, hGW⟩ : ∃ GW, GW = wo.heap.size := ⟨_, rfl⟩
      rw [← hGA]
      rw [← hGA] at H4 B4 S4 Z3
      rw [← hGW]
      rw [← hGW] at Hw3 Z3 Zo
      have GAW : Hid (GW < GA ∧ w.heap.size + 3 ≤ GW) := ⟨Z3.out, Zo.out⟩
      have Hrow4 : Hid (HasRow w4 (w.heap.size + 1) (wv H) 31) := Hrow3.out.below B4.out (by have := GAW.out; omega)
      have Hk4 : Hid (HasRow w4 (w.heap.size + 2) (wv Sha.kTab) 31) := Hk3.out.below B4.out (by have := GAW.out; omega)
      have Hw4 : Hid (HasRow w4 GW (wv LW) 31) := Hw3.out.below B4.out (by have := GAW.out; omega)
      have Hgr4 : Hid (w2.grownBy w4 (some (w.heap.size + 1))) := grownBy_trans Hgr3.out (grownBy_below (hGA ▸ B4.out))
      have Z4 : Hid (w2.heap.size ≤ GA) := by rw [hGA]; exact Hgr3.out.size
      clear hGA hGW Hrow3 Hk3 Hw3 Hgr3
      go_loopw [9] (fun i wr => ∃ k : Nat, k ≤ 8 ∧ i = .int .i64 (k : Int) ∧ HasRow wr GA (wv (H.take k ++ List.replicate (8 - k) 0#32)) 31 ∧ w4.grownBy wr (some GA)) (fun i _ => 8 - (intOf i).toNat)
      case atStart => exact ⟨0, by omega, rfl, H4.out, grownBy_refl _ _⟩
      case round =>
        obtain ⟨k, hk, rfl, ra, gr⟩ := hrel
        have Ra := hid ra
        have Gr := hid gr
        by_cases h8 : k < 8
        · have c1 : wr.cell? ⟨w.heap.size + 1, k, none⟩ = some (.int .u32 (wd (H.getD k 0#32))) := (Hrow4.out.grown gr (by intro e; injection e with e; have := GAW.out; omega)).word k (by rw [HHl.out]; exact h8)
          obtain ⟨u, c2⟩ : ∃ u, wr.cell? ⟨GA, k, none⟩ = some (.int .u32 (wd u)) := ⟨_, ra.word k (by have := HHl.out; simp; omega)⟩
          have c3 := ra.free k
          obtain ⟨x, hx⟩ : ∃ x, x = H.getD k 0#32 := ⟨_, rfl⟩
          rw [← hx] at c1
          have Hx := hid hx
          clear ra gr hx
          go_wp2
          go_roundw
          case rel =>
            refine ⟨k + 1, by omega, by go_num, ?_, grownBy_trans Gr.out (grownBy_setCell _ ⟨GA, k, none⟩ _)⟩
            have := Ra.out.setWord k x
            rw [Hx.out, fill_step H 0#32 0#32 k 8 HHl.out h8] at this
            rw [Hx.out]
            exact this
          case measure => simp [intOf]; omega
        · have K8 : Hid (k = 8) := by have : k = 8 := by omega
                                      exact this
          obtain ⟨wp, rfl⟩ : ∃ wp : World, wp = wr := ⟨_, rfl⟩
          clear ra gr
          rw [K8.out, Nat.sub_self, List.replicate_zero, List.append_nil, List.take_of_length_le (by have := HHl.out; omega)] at Ra
          obtain ⟨S0, hS0⟩ : ∃ S0, S0 = Sha.ofList H := ⟨_, rfl⟩
          have hS0l : S0.list = H := by rw [hS0]; exact Sha.list_ofList H HHl.out
          have HS0 := hid hS0
          have HS0l := hid hS0l
          clear hS0 hS0l
          go_wp2_with fail
          go_loopw [10] (fun i wr => ∃ t : Nat, t ≤ 64 ∧ i = .int .i64 (t : Int) ∧ HasRow wr GA (wv (Sha.rounds LW S0 t).list) 31 ∧ w4.grownBy wr (some GA)) (fun i _ => 64 - (intOf i).toNat)
          case atStart => exact ⟨0, by omega, rfl, by show HasRow wp GA (wv S0.list) 31; rw [HS0l.out]; exact Ra.out, Gr.out⟩
          case round =>
            obtain ⟨t, ht, rfl, rs, gs⟩ := hrel
            have Rs := hid rs
            have Gs := hid gs
            by_cases h64 : t < 64
            · have hR : Sha.rounds LW S0 (t + 1) = Sha.round (Sha.rounds LW S0 t) (Sha.kTab.getD t 0#32) (LW.getD t 0#32) := rfl
              have HR := hid hR
              have ck : wr.cell? ⟨w.heap.size + 2, t, none⟩ = some (.int .u32 (wd (Sha.kTab.getD t 0#32))) := (Hk4.out.grown gs (by intro e; injection e with e; have := GAW.out; omega)).word t h64
              have cw : wr.cell? ⟨GW, t, none⟩ = some (.int .u32 (wd (LW.getD t 0#32))) := (Hw4.out.grown gs (by intro e; injection e with e; have := GAW.out; omega)).word t (by rw [HW.out]; exact h64)
              clear hR
              generalize Sha.rounds LW S0 t = R at *
              generalize Sha.kTab.getD t 0#32 = kt at *
              generalize LW.getD t 0#32 = wt at *
              have s0 : wr.cell? ⟨GA, 0, none⟩ = some (.int .u32 (wd R.a)) := rs.word 0 (show 0 < 8 by decide)
              have s1 : wr.cell? ⟨GA, 1, none⟩ = some (.int .u32 (wd R.b)) := rs.word 1 (show 1 < 8 by decide)
              have s2 : wr.cell? ⟨GA, 2, none⟩ = some (.int .u32 (wd R.c)) := rs.word 2 (show 2 < 8 by decide)
              have s4 : wr.cell? ⟨GA, 4, none⟩ = some (.int .u32 (wd R.e)) := rs.word 4 (show 4 < 8 by decide)
              have s5 : wr.cell? ⟨GA, 5, none⟩ = some (.int .u32 (wd R.f)) := rs.word 5 (show 5 < 8 by decide)
              have s6 : wr.cell? ⟨GA, 6, none⟩ = some (.int .u32 (wd R.g)) := rs.word 6 (show 6 < 8 by decide)
              have s7 : wr.cell? ⟨GA, 7, none⟩ = some (.int .u32 (wd R.h)) := rs.word 7 (show 7 < 8 by decide)
              have p0 : ((t : Nat) : Int) < 64 := by omega
              clear rs gs
              go_wp2_with fail
              go_quiet ((go_at_call 111; exact quiet_same (right_lit _ _ (by omega) (by omega) _)))
              obtain ⟨wq, hwq⟩ : ∃ wq, wq = wr.drewN nq := ⟨_, rfl⟩
              rw [← hwq]
              have r0 : wq.cell? ⟨GA, 0, none⟩ = some (.int .u32 (wd R.a)) := by rw [hwq]; exact s0
              have r1 : wq.cell? ⟨GA, 1, none⟩ = some (.int .u32 (wd R.b)) := by rw [hwq]; exact s1
              have r2 : wq.cell? ⟨GA, 2, none⟩ = some (.int .u32 (wd R.c)) := by rw [hwq]; exact s2
              have Rq : Hid (HasRow wq GA (wv R.list) 31) := by rw [hwq]; exact Rs.out
              have Gq : Hid (w4.grownBy wq (some GA)) := by rw [hwq]; exact grownBy_trans Gs.out (grownBy_drewN _ _ _)
              clear hwq s0 s1 s2 s4 s5 s6 s7 ck cw Rs Gs
              go_wp2_with fail
              go_quiet ((go_at_call 111; exact quiet_same (right_lit _ _ (by omega) (by omega) _)))
              obtain ⟨wz, hwz⟩ : ∃ wz, wz = wq.drewN nq := ⟨_, rfl⟩
              rw [← hwz]
              have Rz : Hid (HasRow wz GA (wv R.list) 31) := by rw [hwz]; exact Rq.out
              have Gz : Hid (w4.grownBy wz (some GA)) := by rw [hwz]; exact grownBy_trans Gq.out (grownBy_drewN _ _ _)
              clear hwz r0 r1 r2 Rq Gq
              rw [Sha.ch_eq, Sha.maj_eq]
              have hone : R.h + (Sha.ror R.e 6 ^^^ Sha.ror R.e 11 ^^^ Sha.ror R.e 25) + (R.e &&& R.f ||| ~~~R.e &&& R.g) + kt + wt = Sha.pOf R kt wt := rfl
              have htwo : (Sha.ror R.a 2 ^^^ Sha.ror R.a 13 ^^^ Sha.ror R.a 22) + (R.a &&& R.b ||| R.c &&& (R.a ||| R.b)) = Sha.qOf R := rfl
              rw [hone, htwo]
              have hRl : (Sha.round R kt wt).list = [Sha.pOf R kt wt + Sha.qOf R, R.a, R.b, R.c, R.d + Sha.pOf R kt wt, R.e, R.f, R.g] := rfl
              have HRl := hid hRl
              generalize Sha.pOf R kt wt = one at *
              generalize Sha.qOf R = two at *
              clear hone htwo hRl
              go_wp2_with fail
              go_loopw [13] (fun i wr => ∃ q : Nat, q ≤ 7 ∧ i = .int .i64 (q : Int) ∧ HasRow wr GA (wv (Sha.shl R.list q)) 31 ∧ w4.grownBy wr (some GA)) (fun i _ => (intOf i).toNat)
              case atStart => exact ⟨7, by omega, rfl, Rz.out, Gz.out⟩
              case round =>
                obtain ⟨q, hq, rfl, rx, gx⟩ := hrel
                have Rx := hid rx
                have Gx := hid gx
                rcases q with _ | q
                · have x4 : wr.cell? ⟨GA, 4, none⟩ = some (.int .u32 (wd R.d)) := rx.word 4 (show 4 < 8 by decide)
                  have x0 : wr.cell? ⟨GA, 0, none⟩ = some (.int .u32 (wd R.a)) := rx.word 0 (show 0 < 8 by decide)
                  have f4 := rx.free 4
                  have f0 := rx.free 0
                  clear rx gx
                  go_wp2_with fail
                  go_roundw
                  case rel =>
                    refine ⟨t + 1, by omega, by go_num, ?_, ?_⟩
                    · have := (Rx.out.setWord 4 (R.d + one)).setWord 0 (one + two)
                      rw [HR.out, HRl.out]
                      exact this
                    · exact grownBy_trans Gx.out (grownBy_trans (grownBy_setCell _ ⟨GA, 4, none⟩ _) (grownBy_setCell _ ⟨GA, 0, none⟩ _))
                  case measure => simp [intOf]; omega
                · have x1 : wr.cell? ⟨GA, q, none⟩ = some (.int .u32 (wd (R.list.getD q 0#32))) := by rw [rx.word q (by rw [Sha.length_shl R _ (by omega)]; omega)]; exact congrArg (fun z => some (Value.int .u32 (wd z))) (Sha.shl_get R q (by omega))
                  obtain ⟨u, x2⟩ : ∃ u, wr.cell? ⟨GA, q + 1, none⟩ = some (.int .u32 (wd u)) := ⟨_, rx.word (q + 1) (by rw [Sha.length_shl R _ (by omega)]; omega)⟩
                  have f2 := rx.free (q + 1)
                  obtain ⟨x, hx⟩ : ∃ x, x = R.list.getD q 0#32 := ⟨_, rfl⟩
                  rw [← hx] at x1
                  have Hx := hid hx
                  clear rx gx hx
                  go_wp2
                  go_roundw
                  case rel =>
                    refine ⟨q, by omega, by go_num, ?_, grownBy_trans Gx.out (grownBy_setCell _ ⟨GA, q + 1, none⟩ _)⟩
                    have := Rx.out.setWord (q + 1) x
                    rw [Hx.out, Sha.shl_set R q (by omega)] at this
                    rw [Hx.out]
                    exact this
                  case measure => simp [intOf]
            · have T64 : Hid (t = 64) := by have : t = 64 := by omega
                                            exact this
              obtain ⟨wr0, rfl⟩ : ∃ wr0 : World, wr0 = wr := ⟨_, rfl⟩
              obtain ⟨R, hR⟩ : ∃ R, R = Sha.rounds LW S0 t := ⟨_, rfl⟩
              rw [← hR] at Rs
              have HR := hid hR
              have Rh0 : Hid (HasRow wr0 (w.heap.size + 1) (wv H) 31) := Hrow4.out.grown gs (by intro e; injection e with e; have := GAW.out; omega)
              have Gh0 : Hid (w2.grownBy wr0 (some (w.heap.size + 1))) := grownBy_new Hgr4.out gs Z4.out
              clear rs gs hR
              go_wp2_with fail
              go_loopw [14] (fun i wr => ∃ k : Nat, k ≤ 8 ∧ i = .int .i64 (k : Int) ∧ HasRow wr (w.heap.size + 1) (wv (Sha.upd H R.list k)) 31 ∧ HasRow wr GA (wv R.list) 31 ∧ w2.grownBy wr (some (w.heap.size + 1))) (fun i _ => 8 - (intOf i).toNat)
              case atStart => exact ⟨0, by omega, rfl, by rw [Sha.upd_zero]; exact Rh0.out, Rs.out, Gh0.out⟩
              case round =>
                obtain ⟨k, hk, rfl, rh, rx, gx⟩ := hrel
                have Rh := hid rh
                have Rx := hid rx
                have Gx := hid gx
                by_cases h8 : k < 8
                · have HU := hid (Sha.length_upd H R.list HHl.out rfl k (by omega))
                  have c1 : wr.cell? ⟨w.heap.size + 1, k, none⟩ = some (.int .u32 (wd (H.getD k 0#32))) := by
                    rw [rh.word k (by rw [HU.out]; exact h8)]
                    exact congrArg (fun z => some (Value.int .u32 (wd z))) (Sha.upd_at H R.list HHl.out rfl k h8)
                  have c2 : wr.cell? ⟨GA, k, none⟩ = some (.int .u32 (wd (R.list.getD k 0#32))) := rx.word k h8
                  have c3 := rh.free k
                  generalize hy : R.list.getD k 0#32 = y at *
                  generalize hx : H.getD k 0#32 = x at *
                  have Hy := hid hy
                  have Hx := hid hx
                  have p0 : ((k : Nat) : Int) < 8 := by omega
                  clear rh rx gx hx hy
                  go_wp2
                  refine region_tail 12 (by kernel_rfl) (by kernel_rfl) ?_
                  simp only [List.take_succ_cons, List.take_zero, List.drop_succ_cons, List.drop_zero]
                  repeat still_step
                  refine wpStill_nil ?_
                  go_wp2
                  go_roundw
                  case rel =>
                    refine ⟨k + 1, by omega, by go_num, ?_, ?_, ?_⟩
                    · have := Rh.out.drew.setWord k (x + y)
                      rw [← Hx.out, ← Hy.out, Sha.upd_set H R.list HHl.out rfl k h8] at this
                      rw [← Hx.out, ← Hy.out]
                      exact this
                    · exact (Rx.out.drew).other (a := ⟨w.heap.size + 1, k, none⟩) (by have := GAW.out; show GA ≠ w.heap.size + 1; omega) _
                    · exact grownBy_trans (grownBy_trans Gx.out (grownBy_drewN _ 1 _)) (grownBy_setCell _ ⟨w.heap.size + 1, k, none⟩ _)
                  case measure => simp [intOf]; omega
                · obtain rfl : k = 8 := by omega
                  clear rh rx gx
                  go_wp2
                  go_roundw
                  case rel =>
                    refine ⟨j + 1, A + 64, by omega, by have := HA.out; omega, by go_num, ?_, Gx.out⟩
                    rw [Sha.blocks_next, ← HA.out, ← HB.out, ← HH.out, ← HLW.out, ← HS0.out, ← T64.out, ← HR.out, ← Sha.upd_8 H R.list HHl.out rfl]
                    exact Rh.out
                  case measure => simp [intOf]; omega
    · obtain rfl : j = M := by omega
      have hAN : A = N := by have := HM.out; omega
      obtain ⟨OUT, hOUT⟩ : ∃ OUT, OUT = Sha.sum l := ⟨_, rfl⟩
      have hO : OUT = Sha.out H := by rw [hOUT, Sha.sum_blocks l j (by rw [← HL.out, ← HN.out]; exact HM.out), HH.out, ← HL.out]
      have OL : Hid (OUT.length = 32) := by rw [hOUT]; exact Sha.length_sum l
      have HO := hid hO
      have HO1 := hid hOUT
      subst hAN
      have BW3 : Hid (Below w.heap.size w wo) := BW2.out.trans (below_of_grownBy hgr (by have := Z2.out; omega) (by intro k hk; injection hk with hk; omega))
      have Rr3 : Hid (HasRow wo w.heap.size (bv (List.replicate 32 0)) 106) := Ra2.out.grown hgr (by intro e; injection e with e; omega)
      have HO0 := hid (HasRow.new wo (bv (List.replicate 32 0)) 106)
      clear hrow hgr hA hH hOUT hO
      go_wp2_with fail
      go_loopw [16] (fun c wr => ∃ k : Nat, k ≤ 32 ∧ c = .int .i64 (k : Int) ∧ HasRow wr wo.heap.size (bv ((Sha.out H).take k ++ List.replicate (32 - k) 0)) 106 ∧ Below wo.heap.size wo wr) (fun c _ => 32 - (intOf c).toNat)
      case atStart => exact ⟨0, by omega, rfl, HO0.out, (Below.refl _ _).alloc (Nat.le_refl _) _⟩
      case round =>
        obtain ⟨k, hk, rfl, ro, bb⟩ := hrel
        have Ro := hid ro
        have Bb := hid bb
        by_cases h32 : k < 32
        · obtain ⟨d, hd⟩ : ∃ d, d = k / 4 := ⟨_, rfl⟩
          obtain ⟨r, hr⟩ : ∃ r, r = k % 4 := ⟨_, rfl⟩
          have d8 : d < 8 := by omega
          have r4 : r < 4 := by omega
          have d1 : ((k : Nat) : Int).tdiv 4 = (d : Int) := by rw [hd]; rfl
          have d2 : ((k : Nat) : Int) / 4 = (d : Int) := by rw [hd]; rfl
          have d3 : ((k : Nat) : Int).tmod 4 = (r : Int) := by rw [hr]; rfl
          have d4 : ((k : Nat) : Int) % 4 = (r : Int) := by rw [hr]; rfl
          obtain ⟨S, hS⟩ : ∃ S : Int, S = 24 - 8 * (r : Int) := ⟨_, rfl⟩
          have s0 : 0 ≤ S := by omega
          have s24 : S ≤ 24 := by omega
          obtain ⟨e, he⟩ : ∃ e : Nat, e = 24 - 8 * r := ⟨_, rfl⟩
          have hSe : S.toNat = e := by omega
          have hS' : 24 - 8 * (r : Int) = S := hS.symm
          have lc : wr.cell? ⟨w.heap.size + 1, d, none⟩ = some (.int .u32 (wd (H.getD d 0#32))) := (Hrow.out.below bb (by have := Zo.out; omega)).word d (by rw [HHl.out]; exact d8)
          obtain ⟨x, hx⟩ : ∃ x, x = H.getD d 0#32 := ⟨_, rfl⟩
          rw [← hx] at lc
          obtain ⟨z8, hz8⟩ : ∃ z8, z8 = UInt8.ofNat (x.toNat / 2 ^ e) := ⟨_, rfl⟩
          have hb : IntKind.u8.wrap (wd x / 2 ^ e) = bt8 z8 := by rw [hz8, IntKind.wrap_u8']; exact byte_of_wd x e
          obtain ⟨u, oc⟩ : ∃ u, wr.cell? ⟨wo.heap.size, k, none⟩ = some (.int .u8 (bt8 u)) := ⟨_, ro.byte k (by simp [Sha.out]; omega)⟩
          have of := ro.free k
          have Hd := hid hd
          have Hr := hid hr
          have He := hid he
          have Hx := hid hx
          have Hz8 := hid hz8
          clear ro bb hd hr hS he hx hz8
          go_wp2
          go_roundw
          case rel =>
            refine ⟨k + 1, by omega, by go_num, ?_, Bb.out.setCell (p := ⟨wo.heap.size, k, none⟩) (Nat.le_refl _) _⟩
            have := Ro.out.setByte k z8
            rw [Hz8.out, He.out, Hx.out, Hd.out, Hr.out, Sha.out_step H k h32] at this
            rw [Hz8.out, He.out, Hx.out, Hd.out, Hr.out]
            exact this
          case measure => simp [intOf]; omega
        · have ro2 : HasRow wr wo.heap.size (bv OUT) 106 := by
            obtain rfl : k = 32 := by omega
            rw [List.take_of_length_le (by simp [Sha.out]), Nat.sub_self, List.replicate_zero, List.append_nil] at ro
            rw [HO.out]
            exact ro
          have Ro2 := hid ro2
          have Rr : Hid (HasRow wr w.heap.size (bv (List.replicate 32 0)) 106) := Rr3.out.below bb (by have := Zo.out; omega)
          have BW4 : Hid (Below w.heap.size w wr) := BW3.out.trans (bb.mono (by have := Zo.out; omega))
          have F1 : Hid (0 + 32 ≤ (bv OUT).length) := by rw [length_bv, OL.out]; exact Nat.le_refl 32
          have F2 : Hid (List.take 32 (List.drop 0 (bv OUT)) = bv OUT) := List.take_of_length_le (by rw [List.drop_zero, length_bv, OL.out]; exact Nat.le_refl 32)
          have F3 : Hid ((Tryd.prog.info? 106).map (·.size) = some (bv OUT).length) := by rw [length_bv, OL.out]; exact (show (Tryd.prog.info? 106).map (·.size) = some 32 by kernel_rfl)
          have F4 : Hid (0 + (bv OUT).length ≤ (bv (List.replicate 32 0)).length) := by rw [length_bv, OL.out]; exact Nat.le_refl 32
          have F5 : Hid ((bv (List.replicate 32 0)).length = (bv OUT).length) := by rw [length_bv OUT, OL.out]; rfl
          clear ro ro2 bb
          go_wp2_with (first
            | (refine wpList_load_part rfl 106 _ rfl wo.heap.size 0 32 rfl (bv OUT) _ Ro2.out.tab Tryd.underlying106 rfl (by kernel_rfl) F1.out (bv OUT) F2.out ?_)
            | (refine wpList_store_into rfl 106 _ _ rfl w.heap.size 0 rfl (bv OUT) rfl (bv (List.replicate 32 0)) 106 Rr.out F3.out F4.out (one_bv _) ?_; intro w6 h6 g6 s6; rw [splice_all _ _ F5.out] at h6; have H6 := hid h6; have G6 := hid g6; clear h6 g6 s6))
          refine bodyPost_ret (v := .agg (bv OUT).toArray) (results_cell_row (ty := 106) (p := 2) rfl _ w6 w.heap.size _ _ _ _ rfl H6.out Tryd.underlying106 rfl (by simpa using F3.out)) rfl ⟨by rw [HO1.out], ?_⟩
          exact BW4.out.grown G6.out BW4.out.size (by intro k hk; injection hk with hk; omega)
end Go.Proofs.YtgiagcopbibneaaDoor
