/- The contract of sha.State.Write. -/
import Derived.Test.YtgiagcopbibneaaDoorState
namespace Go.Proofs.YtgiagcopbibneaaDoor
open Go.RowKit
open Sha (W)

theorem write_nil (a : Option Addr) (n c : Nat) (w : World) :
    Calls Tryd.prog 92 #[.pointer none, .slice a n c] w fun e w' => e = .returned (.tuple #[]) ∧ w = w' := by
  go_enter Tryd.func92, Tryd.ntmps92
  go_wp2
  exact bodyPost_ret (v := .tuple #[]) (by simp [results, Tryd.results92, go_sem]) rfl ⟨rfl, rfl⟩

set_option maxRecDepth 100000 in
set_option maxHeartbeats 2000000 in
theorem write_any (s : Nat) (l b : List UInt8) (a : Option Addr) (cap : Nat) (w : World) (hst : IsState w s l) (hb : Bytes w (· = s) a cap b) (htab : Tabs w) (hs : 2 ≤ s) (hn : l.length + b.length < 1152921504606846976) :
    Calls Tryd.prog 92 #[.pointer (some ⟨s, 0, none⟩), .slice a b.length cap] w fun e w' => e = .returned (.tuple #[]) ∧ IsState w' s (l ++ b) ∧ w.grownBy w' (some s) := by
  have Hst := hid hst
  have Hb := hid hb
  have Htab := hid htab
  clear hst hb htab
  go_enter Tryd.func92, Tryd.ntmps92
  go_wp2
  go_loopw [1] (fun v wr => ∃ j a c, v = .slice a (b.length - j) c ∧ j ≤ b.length ∧ Bytes wr (· = s) a c (b.drop j) ∧ IsState wr s (l ++ b.take j) ∧ w.grownBy wr (some s)) (fun v _ => lenOf v)
  case atStart => exact ⟨0, a, cap, by simp, by omega, by simpa using Hb.out, by simpa using Hst.out, grownBy_refl _ _⟩
  case round =>
    obtain ⟨j, a, c, rfl, hj, hb, hst, hgr⟩ := hrel
    obtain ⟨wo, rfl⟩ : ∃ wo : World, wo = wr := ⟨_, rfl⟩
    have Hb1 := hid hb
    have Hgr := hid hgr
    have Htab1 := hid (Htab.out.grown hs hgr)
    by_cases hlt : j < b.length
    · obtain ⟨blk, htl, hrow⟩ := hst
      have Hrow := hid hrow
      have Htl := hid htl
      obtain ⟨L, hL⟩ : ∃ L, L = l ++ b.take j := ⟨_, rfl⟩
      rw [← hL] at Hrow Htl hrow
      obtain ⟨N, hN⟩ : ∃ N, N = L.length := ⟨_, rfl⟩
      rw [← hN] at Hrow hrow
      have Hlen := hid (Sha.length_sums L)
      have Hblk := hid htl.1
      have nn : N < 1152921504606846976 := by rw [hN, hL]; simp; omega
      have cn : wo.cell? ⟨s, 73, none⟩ = some (.int .u64 (N : Int)) := by rw [hrow.cell_any]; exact st_n Hlen.out Hblk.out
      have cf := hrow.free 73
      have HL := hid hL
      have HN := hid hN
      obtain ⟨m, hm⟩ : ∃ m, m = b.length - j := ⟨_, rfl⟩
      have hm0 : 0 < m := by omega
      rw [← hm]
      have Hm := hid hm
      have hml : m ≤ c ∧ c ≤ maxLen := ⟨by have := hb.1; simp at this; omega, hb.2.1⟩
      unfold maxLen at hml
      clear hb hgr htl hrow hL hN hm
      obtain ⟨q, hq⟩ : ∃ q, q = N % 64 := ⟨_, rfl⟩
      have q64 : q < 64 := by omega
      have r1 : ((N : Nat) : Int).tmod 64 = ((q : Nat) : Int) := by rw [hq]; rfl
      have r2 : ((q : Nat) : Int) ≤ 64 := by omega
      have r3 : ¬ 64 = q := by omega
      have Hq := hid hq
      clear hq
      go_wp2
      refine region_tail 10 (by kernel_rfl) (by kernel_rfl) ?_
      simp only [List.take_succ_cons, List.take_zero, List.drop_succ_cons, List.drop_zero]
      repeat still_step
      refine wpStill_nil ?_
      obtain ⟨bb, off2, ha, hbs, hbl, hbc⟩ := Hb1.out.2.2 (by intro e; have := congrArg List.length e; simp at this; omega)
      subst ha
      obtain ⟨k, hk⟩ : ∃ k, k = min m (64 - q) := ⟨_, rfl⟩
      obtain ⟨C, hC⟩ : ∃ C, C = (b.drop j).take k := ⟨_, rfl⟩
      have hCl : C.length = k := by rw [hC]; simp; have := Hm.out; omega
      have Hk := hid hk
      have HC := hid hC
      have HCl := hid hCl
      have hsrc : ∀ i v, (bv C)[i]? = some v → wo.cell? ((⟨bb, off2, none⟩ : Addr).add i) = some v := by
        intro i v hv
        have hi : i < C.length := by have := (List.getElem?_eq_some_iff.1 hv).1; simpa using this
        rw [addr_add, hbc i (by rw [hC] at hi; simp at hi ⊢; omega)]
        rw [← hv, hC]
        have hik : i < k := by omega
        have hib : j + i < b.length := by rw [hC] at hi; simp at hi; omega
        simp [bv, List.getD_eq_getElem?_getD, List.getElem?_drop, hik, List.getElem?_eq_getElem hib]
      have Hsrc := hid hsrc
      have k1 : k ≤ m := by omega
      have k2 : k ≤ 64 - q := by omega
      have k3 : 0 < k := by omega
      clear hk hC hCl hsrc hbc
      have hqk : q + k ≤ 64 := by omega
      by_cases hfull : q + k = 64
      · have f1 : ((N : Nat) : Int) + (k : Int) = ((64 * (N / 64 + 1) : Nat) : Int) := by have := Hq.out; omega
        have f2 : (((N : Nat) : Int) + (k : Int)).tmod 64 = 0 := by rw [f1]; rw [Int.tmod_eq_emod_of_nonneg (by omega)]; omega
        clear f1
        have hst2 : ∀ w2, HasRow w2 s (splice (stCells (decide (64 ≤ N)) (Sha.sums L) blk (N : Int)) (9 + q) (bv C)) 146 →
            HasRow (w2.setCell ⟨s, 73, none⟩ (.int .u64 ((N : Int) + (k : Int)))) s (stCells (decide (64 ≤ N)) (Sha.sums L) (Sha.lay blk q C) ((N : Int) + (k : Int))) 146 := by
          intro w2 h2
          rw [st_splice_blk Hlen.out q C (by rw [HCl.out, Hblk.out]; exact hqk)] at h2
          have := h2.set 73 (.int .u64 ((N : Int) + (k : Int)))
          rwa [st_set_n Hlen.out (by exact (Sha.length_lay blk q C (by rw [HCl.out, Hblk.out]; exact hqk)).trans Hblk.out)] at this
        have hn2 : ∀ w2, HasRow w2 s (splice (stCells (decide (64 ≤ N)) (Sha.sums L) blk (N : Int)) (9 + q) (bv C)) 146 → w2.cell? ⟨s, 73, none⟩ = some (.int .u64 (N : Int)) := by
          intro w2 h2
          rw [st_splice_blk Hlen.out q C (by rw [HCl.out, Hblk.out]; exact hqk)] at h2
          rw [h2.cell_any]
          exact st_n Hlen.out ((Sha.length_lay blk q C (by rw [HCl.out, Hblk.out]; exact hqk)).trans Hblk.out)
        have Hst2 := hid hst2
        have Hn2 := hid hn2
        clear hst2 hn2
        by_cases hck : c = k
        · go_wp2_with (first
            | (refine wpList_copy_row rfl (.tmp 18) (.tmp 19) 29 29 rfl 5 Tryd.underlying29 (by kernel_rfl) s (9 + q) (64 - q) (64 - q) ⟨bb, off2, none⟩ m c rfl rfl (stCells (decide (64 ≤ N)) (Sha.sums L) blk (N : Int)) 146 Hrow.out (bv C) k (by simp [HCl.out]) Hk.out Hsrc.out (by rw [st_length Hlen.out Hblk.out]; omega) (one_bv C) ?_; intro w2 h2 g2; have cn2 := Hn2.out w2 h2; have cf2 := h2.free 73; have H2 := hid (Hst2.out w2 h2); have G2 := hid g2; clear h2 g2)
            | (go_at_call 105; refine (take_any _ _ _ _ Hlen.out ((Sha.length_lay blk q C (by rw [HCl.out, Hblk.out]; exact hqk)).trans Hblk.out) _ s H2.out ((Htab1.out.grown hs (grownBy_trans (grownBy_drewN _ 1 _) G2.out)).grown hs (grownBy_setCell _ ⟨s, 73, none⟩ _)) hs).mono ?_; rintro e w3 ⟨rfl, hst3, hgr3⟩; have Hst3 := hid hst3; have Hgr3 := hid hgr3; clear hst3 hgr3))
          go_roundw
          case rel =>
            have G3 : wo.grownBy w3 (some s) := grownBy_trans (grownBy_trans (grownBy_trans (grownBy_drewN _ 1 _) G2.out) (grownBy_setCell _ ⟨s, 73, none⟩ _)) Hgr3.out
            have S3 := isState_full Htl.out HN.out Hq.out HCl.out hfull Hst3.out
            rw [HL.out, HC.out, take_more] at S3
            refine ⟨j + k, some ⟨bb, off2, none⟩, 0, ?_, by have := Hm.out; omega, ?_, S3, grownBy_trans Hgr.out G3⟩
            · rw [show b.length - (j + k) = m - k by have := Hm.out; omega]
            · rw [List.drop_of_length_le (by have := Hm.out; omega)]
              exact Bytes.nil _ _ _ _ (by unfold maxLen; omega)
          case measure => simp [lenOf]; omega
        · go_wp2_with (first
            | (refine wpList_copy_row rfl (.tmp 18) (.tmp 19) 29 29 rfl 5 Tryd.underlying29 (by kernel_rfl) s (9 + q) (64 - q) (64 - q) ⟨bb, off2, none⟩ m c rfl rfl (stCells (decide (64 ≤ N)) (Sha.sums L) blk (N : Int)) 146 Hrow.out (bv C) k (by simp [HCl.out]) Hk.out Hsrc.out (by rw [st_length Hlen.out Hblk.out]; omega) (one_bv C) ?_; intro w2 h2 g2; have cn2 := Hn2.out w2 h2; have cf2 := h2.free 73; have H2 := hid (Hst2.out w2 h2); have G2 := hid g2; clear h2 g2)
            | (go_at_call 105; refine (take_any _ _ _ _ Hlen.out ((Sha.length_lay blk q C (by rw [HCl.out, Hblk.out]; exact hqk)).trans Hblk.out) _ s H2.out ((Htab1.out.grown hs (grownBy_trans (grownBy_drewN _ 1 _) G2.out)).grown hs (grownBy_setCell _ ⟨s, 73, none⟩ _)) hs).mono ?_; rintro e w3 ⟨rfl, hst3, hgr3⟩; have Hst3 := hid hst3; have Hgr3 := hid hgr3; clear hst3 hgr3))
          go_roundw
          case rel =>
            have G3 : wo.grownBy w3 (some s) := grownBy_trans (grownBy_trans (grownBy_trans (grownBy_drewN _ 1 _) G2.out) (grownBy_setCell _ ⟨s, 73, none⟩ _)) Hgr3.out
            have S3 := isState_full Htl.out HN.out Hq.out HCl.out hfull Hst3.out
            rw [HL.out, HC.out, take_more] at S3
            refine ⟨j + k, some ⟨bb, off2 + k, none⟩, c - k, ?_, by have := Hm.out; omega, ?_, S3, grownBy_trans Hgr.out G3⟩
            · rw [show b.length - (j + k) = m - k by have := Hm.out; omega]
            · exact bytes_left Hb1.out G3 Hm.out k1 (by omega)
          case measure => simp [lenOf]; omega
      · have hlt64 : q + k < 64 := by omega
        have hkm : k = m := by have := Hk.out; omega
        subst hkm
        have f1 : (((N : Nat) : Int) + (k : Int)).tmod 64 = ((q + k : Nat) : Int) := by have := Hq.out; rw [Int.tmod_eq_emod_of_nonneg (by omega)]; omega
        obtain ⟨q2, hq2⟩ : ∃ q2, q2 = q + k := ⟨_, rfl⟩
        rw [← hq2] at f1
        have q0 : ((q2 : Int) == 0) = false := by simp; omega
        have Hq2 := hid hq2
        clear hq2
        have hst2 : ∀ w2, HasRow w2 s (splice (stCells (decide (64 ≤ N)) (Sha.sums L) blk (N : Int)) (9 + q) (bv C)) 146 →
            HasRow (w2.setCell ⟨s, 73, none⟩ (.int .u64 ((N : Int) + (k : Int)))) s (stCells (decide (64 ≤ N)) (Sha.sums L) (Sha.lay blk q C) ((N : Int) + (k : Int))) 146 := by
          intro w2 h2
          rw [st_splice_blk Hlen.out q C (by rw [HCl.out, Hblk.out]; exact hqk)] at h2
          have := h2.set 73 (.int .u64 ((N : Int) + (k : Int)))
          rwa [st_set_n Hlen.out (by exact (Sha.length_lay blk q C (by rw [HCl.out, Hblk.out]; exact hqk)).trans Hblk.out)] at this
        have hn2 : ∀ w2, HasRow w2 s (splice (stCells (decide (64 ≤ N)) (Sha.sums L) blk (N : Int)) (9 + q) (bv C)) 146 → w2.cell? ⟨s, 73, none⟩ = some (.int .u64 (N : Int)) := by
          intro w2 h2
          rw [st_splice_blk Hlen.out q C (by rw [HCl.out, Hblk.out]; exact hqk)] at h2
          rw [h2.cell_any]
          exact st_n Hlen.out ((Sha.length_lay blk q C (by rw [HCl.out, Hblk.out]; exact hqk)).trans Hblk.out)
        have Hst2 := hid hst2
        have Hn2 := hid hn2
        clear hst2 hn2
        by_cases hck : c = k
        · go_wp2_with ((refine wpList_copy_row rfl (.tmp 18) (.tmp 19) 29 29 rfl 5 Tryd.underlying29 (by kernel_rfl) s (9 + q) (64 - q) (64 - q) ⟨bb, off2, none⟩ k c rfl rfl (stCells (decide (64 ≤ N)) (Sha.sums L) blk (N : Int)) 146 Hrow.out (bv C) k (by simp [HCl.out]) Hk.out Hsrc.out (by rw [st_length Hlen.out Hblk.out]; omega) (one_bv C) ?_; intro w2 h2 g2; have cn2 := Hn2.out w2 h2; have cf2 := h2.free 73; have H2 := hid (Hst2.out w2 h2); have G2 := hid g2; clear h2 g2))
          go_roundw
          case rel =>
            have G3 : wo.grownBy _ (some s) := grownBy_trans (grownBy_trans (grownBy_drewN _ 1 _) G2.out) (grownBy_setCell _ ⟨s, 73, none⟩ (.int .u64 ((N : Int) + (k : Int))))
            have S3 := isState_part Htl.out HN.out Hq.out HCl.out hlt64 H2.out
            rw [HL.out, HC.out, take_more] at S3
            refine ⟨j + k, some ⟨bb, off2, none⟩, 0, ?_, by have := Hm.out; omega, ?_, S3, grownBy_trans Hgr.out G3⟩
            · rw [show b.length - (j + k) = 0 by have := Hm.out; omega]
            · rw [List.drop_of_length_le (by have := Hm.out; omega)]
              exact Bytes.nil _ _ _ _ (by unfold maxLen; omega)
          case measure => simp [lenOf]; omega
        · go_wp2_with ((refine wpList_copy_row rfl (.tmp 18) (.tmp 19) 29 29 rfl 5 Tryd.underlying29 (by kernel_rfl) s (9 + q) (64 - q) (64 - q) ⟨bb, off2, none⟩ k c rfl rfl (stCells (decide (64 ≤ N)) (Sha.sums L) blk (N : Int)) 146 Hrow.out (bv C) k (by simp [HCl.out]) Hk.out Hsrc.out (by rw [st_length Hlen.out Hblk.out]; omega) (one_bv C) ?_; intro w2 h2 g2; have cn2 := Hn2.out w2 h2; have cf2 := h2.free 73; have H2 := hid (Hst2.out w2 h2); have G2 := hid g2; clear h2 g2))
          go_roundw
          case rel =>
            have G3 : wo.grownBy _ (some s) := grownBy_trans (grownBy_trans (grownBy_drewN _ 1 _) G2.out) (grownBy_setCell _ ⟨s, 73, none⟩ (.int .u64 ((N : Int) + (k : Int))))
            have S3 := isState_part Htl.out HN.out Hq.out HCl.out hlt64 H2.out
            rw [HL.out, HC.out, take_more] at S3
            refine ⟨j + k, some ⟨bb, off2 + k, none⟩, c - k, ?_, by have := Hm.out; omega, ?_, S3, grownBy_trans Hgr.out G3⟩
            · rw [show b.length - (j + k) = 0 by have := Hm.out; omega]
            · exact bytes_left Hb1.out G3 Hm.out k1 (by omega)
          case measure => simp [lenOf]; omega
    · obtain rfl : j = b.length := by omega
      have Hst9 := hid hst
      clear hst hb hgr
      go_wp2
      go_end0
      refine ⟨rfl, ?_, Hgr.out⟩
      have := Hst9.out
      rwa [List.take_length] at this
end Go.Proofs.YtgiagcopbibneaaDoor
