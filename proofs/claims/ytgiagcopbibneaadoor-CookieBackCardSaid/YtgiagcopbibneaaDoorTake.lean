/- The contract of sha.State.take: a whole block is summed. -/
import Derived.Test.YtgiagcopbibneaaDoorBits
import Derived.Deep.Cut
import Derived.Deep.CutBlock
import Derived.Deep.DeepCutAuto
namespace Go.Proofs.YtgiagcopbibneaaDoor
open Go.RowKit
open Sha (W)

/-- the tables lie where the program's variables are -/
def Tabs (w : World) : Prop := TabAt w 0 (wv Sha.hTab) ∧ TabAt w 1 (wv Sha.kTab)

set_option maxRecDepth 100000 in
set_option maxHeartbeats 4000000 in
theorem take_any (bg : Bool) (sums : List W) (blk : List UInt8) (n : Int) (hsums : sums.length = 8) (hblk : blk.length = 64) (w : World) (s : Nat)
    (hst : HasRow w s (stCells bg sums blk n) 146) (htab : Tabs w) (hs : 2 ≤ s) :
    Calls Tryd.prog 105 #[.pointer (some ⟨s, 0, none⟩)] w fun e w' => e = .returned (.tuple #[]) ∧
      HasRow w' s (stCells true (Sha.take (Sha.start bg sums) blk) blk n) 146 ∧ w.grownBy w' (some s) := by
  have Hst := hid hst
  have Htab := hid htab
  have Hsums := hid hsums
  have Hblk := hid hblk
  have h0 : w.cell? ⟨s, 0, none⟩ = some (.bool bg) := by rw [hst.cell_any]; rfl
  have f0 := hst.free 0
  clear hst htab hsums hblk
  go_enter Tryd.func105, Tryd.ntmps105
  go_upto_if 28 with (fail)
  go_cut [] (fun wx => HasRow wx s (stCells true (Sha.start bg sums) blk n) 146 ∧ w.grownBy wx (some s))
  case first =>
    cases bg
    · have hst1 := Hst.out.set 0 (.bool true)
      have Hst1 : Hid (HasRow _ s (stCells true sums blk n) 146) := hid hst1
      clear hst1
      go_wp2_with (first | (refine wpList_load_part rfl 144 _ rfl 0 0 8 rfl (wv Sha.hTab) _ Htab.out.1 Tryd.underlying144 rfl (by kernel_rfl) (by decide) (wv Sha.hTab) rfl ?_) | (refine wpList_store_part rfl 144 _ _ rfl s 1 rfl (wv Sha.hTab) rfl (stCells true sums blk n) 146 Hst1.out (by kernel_rfl) (by simp [Hsums.out, Hblk.out, stCells, Sha.hTab]) (one_wv _) ?_))
      go_meet
      refine ⟨?_, ?_⟩
      · rw [st_splice_sums Hsums.out _ rfl]
        exact Hst1.out.setRow _
      · exact grownBy_trans (grownBy_setCell _ _ _) (grownBy_setRow _ _ _)
    · go_wp2
      go_meet
      exact ⟨Hst.out, grownBy_refl _ _⟩
  case rest =>
    obtain ⟨hst, hgr⟩ := hcut
    obtain ⟨wx, rfl⟩ : ∃ wx : World, wx = wc := ⟨_, rfl⟩
    obtain ⟨S, hS⟩ : ∃ S, S = (Sha.start bg sums) := ⟨_, rfl⟩
    have HS := hid hS
    have hSl : S.length = 8 := by rw [hS]; exact Sha.length_start bg sums Hsums.out
    rw [← hS] at hst
    have Hst2 := hid hst
    have Hgr := hid hgr
    have HSl := hid hSl
    have Htab2 : Hid (Tabs wx) := ⟨Htab.out.1.grown hgr (by intro e; injection e with e; omega), Htab.out.2.grown hgr (by intro e; injection e with e; omega)⟩
    have hlt := hst.lt
    clear hst hgr hS hSl h0 f0 Hst Htab Hsums
    go_wp2
    go_loopw [36] (fun i wr => ∃ t : Nat, t ≤ 64 ∧ i = .int .i64 t ∧ HasRow wr wx.heap.size (wv (Sha.wrow blk t)) 160 ∧ Below wx.heap.size wx wr) (fun i _ => 64 - (intOf i).toNat)
    case atStart => exact ⟨0, by omega, rfl, HasRow.new _ (wv (Sha.wrow blk 0)) _, (Below.refl _ _).alloc (Nat.le_refl _) _⟩
    case round =>
      obtain ⟨t, ht, rfl, hrow, hbel⟩ := hrel
      obtain ⟨wo, rfl⟩ : ∃ wo : World, wo = wr := ⟨_, rfl⟩
      have Hrow := hid hrow
      have Hbel := hid hbel
      have HL := hid (Sha.length_wrow blk t ht)
      by_cases h64 : t < 64
      · by_cases h16 : t < 16
        · have b1 : (0 : Int) ≤ 4 * (t : Int) := by omega
          have b2 : 4 * (t : Int) + 4 ≤ 64 := by omega
          have b3 : (4 * (t : Int)).toNat = 4 * t := by omega
          have b4 : (4 * (t : Int) + 4).toNat = 4 * t + 4 := by omega
          have b5 : 4 * (t : Int) ≤ 4 * (t : Int) + 4 := by omega
          clear hrow hbel
          go_wp2
          clear b1 b2 b3 b4 b5
          go_loopw [51] (fun j wr => ∃ k : Nat, k ≤ 4 ∧ j = .int .i64 k ∧ HasRow wr wx.heap.size (wv ((Sha.wrow blk t).set t (Sha.acc blk (4 * t) k))) 160 ∧ Below wx.heap.size wx wr) (fun j _ => 4 - (intOf j).toNat)
          case atStart =>
            refine ⟨0, by omega, rfl, ?_, Hbel.out⟩
            rw [Sha.acc, Sha.wrow_same blk t h64]; exact Hrow.out
          case round =>
            obtain ⟨k, hk, rfl, hrow2, hbel2⟩ := hrel
            have Hrow2 := hid hrow2
            have Hbel2 := hid hbel2
            by_cases hk4 : k < 4
            · have c1 : wr.cell? ⟨wx.heap.size, t, none⟩ = some (.int .u32 (wd (Sha.acc blk (4 * t) k))) := by
                have := hrow2.word t (by simp [HL.out, h64])
                rw [this]; simp [List.getD_eq_getElem?_getD, HL.out, h64]
              have c2 := hrow2.free t
              have c3 : wr.cell? ⟨s, 9 + 4 * t + k, none⟩ = some (.int .u8 (bt8 (blk.getD (4 * t + k) 0))) := by
                rw [hbel2.cell (by exact hlt), show 9 + 4 * t + k = 9 + (4 * t + k) by omega, Hst2.out.cell_any]
                exact st_byte HSl.out Hblk.out _ (by omega)
              clear hrow2 hbel2
              go_wp2
              go_roundw
              case rel =>
                refine ⟨k + 1, by omega, by go_num, ?_, ?_⟩
                · have := Hrow2.out.setWord t (Sha.acc blk (4 * t) (k + 1))
                  rw [List.set_set] at this
                  simpa [Sha.acc] using this
                · exact Hbel2.out.setCell (Nat.le_refl _) _
              case measure => simp [intOf]; omega
            · obtain rfl : k = 4 := by omega
              clear hrow2 hbel2
              go_wp2
              go_roundw
              case rel =>
                refine ⟨t + 1, by omega, by go_num, ?_, Hbel2.out⟩
                have := Hrow2.out
                rw [Sha.acc4, ← Sha.next_lt blk t h16, Sha.wrow_next blk t h64] at this
                exact this
              case measure => simp [intOf]; omega
        · have a2 : wo.cell? ⟨wx.heap.size, t - 2, none⟩ = some (.int .u32 (wd ((Sha.wrow blk t).getD (t - 2) 0#32))) := hrow.word _ (by rw [HL.out]; omega)
          have a7 : wo.cell? ⟨wx.heap.size, t - 7, none⟩ = some (.int .u32 (wd ((Sha.wrow blk t).getD (t - 7) 0#32))) := hrow.word _ (by rw [HL.out]; omega)
          have a15 : wo.cell? ⟨wx.heap.size, t - 15, none⟩ = some (.int .u32 (wd ((Sha.wrow blk t).getD (t - 15) 0#32))) := hrow.word _ (by rw [HL.out]; omega)
          have a16 : wo.cell? ⟨wx.heap.size, t - 16, none⟩ = some (.int .u32 (wd ((Sha.wrow blk t).getD (t - 16) 0#32))) := hrow.word _ (by rw [HL.out]; omega)
          have at_ : wo.cell? ⟨wx.heap.size, t, none⟩ = some (.int .u32 (wd ((Sha.wrow blk t).getD t 0#32))) := hrow.word _ (by rw [HL.out]; omega)
          have af := hrow.free t
          clear hrow hbel
          have i2 : (t : Int) - 2 = ((t - 2 : Nat) : Int) := by omega
          have i7 : (t : Int) - 7 = ((t - 7 : Nat) : Int) := by omega
          have i15 : (t : Int) - 15 = ((t - 15 : Nat) : Int) := by omega
          have i16 : (t : Int) - 16 = ((t - 16 : Nat) : Int) := by omega
          go_wp2
          go_quiet (fail)
          go_wp2_with (go_at_call 119; refine (rotl_neg _ _ (by omega) (by omega) _).mono ?_; rintro e w' ⟨rfl, rfl⟩)
          have q16 : IntKind.i64.wrap ((t - 16 : Nat) : Int) = ((t - 16 : Nat) : Int) := IntWalk.i64_in _ (by omega)
          have q7 : IntKind.i64.wrap ((t - 7 : Nat) : Int) = ((t - 7 : Nat) : Int) := IntWalk.i64_in _ (by omega)
          have p16 : ((t - 16 : Nat) : Int) < 64 := by omega
          have p7 : ((t - 7 : Nat) : Int) < 64 := by omega
          have p0 : ((t : Nat) : Int) < 64 := by omega
          refine region_tail 15 (by kernel_rfl) (by kernel_rfl) ?_
          simp only [List.take_succ_cons, List.take_zero, List.drop_succ_cons, List.drop_zero]
          repeat still_step
          refine wpStill_nil ?_
          go_wp2
          go_roundw
          case rel =>
            refine ⟨t + 1, by omega, by go_num, ?_, ?_⟩
            · have := (Hrow.out.drewN (nq + 1)).setWord t (Sha.next blk (Sha.ws blk t))
              rw [Sha.wrow_next blk t h64, Sha.next_ge blk t (by omega)] at this
              simpa [Sha.low, Sha.high] using this
            · have h1 : Below wx.heap.size wx (wo.drewN (nq + 1)) := Hbel.out.trans ⟨rfl, rfl, rfl, Nat.le_refl _, fun _ _ => rfl⟩
              exact h1.setCell (p := ⟨wx.heap.size, t, none⟩) (Nat.le_refl _) _
          case measure => simp [intOf]; omega
      · obtain rfl : t = 64 := by omega
        rw [Sha.wrow_64] at Hrow
        obtain ⟨LW, hLW⟩ : ∃ LW, LW = Sha.ws blk 64 := ⟨_, rfl⟩
        rw [← hLW] at Hrow
        have HW : Hid (LW.length = 64) := by rw [hLW]; exact Sha.length_ws blk 64
        have HLW := hid hLW
        clear hLW HL
        have s0 : wo.cell? ⟨s, 1, none⟩ = some (.int .u32 (wd (Sha.ofList S).a)) := by rw [hbel.cell (by exact hlt), Hst2.out.cell_any]; exact st_sum HSl.out 0 (by omega)
        have s1 : wo.cell? ⟨s, 2, none⟩ = some (.int .u32 (wd (Sha.ofList S).b)) := by rw [hbel.cell (by exact hlt), Hst2.out.cell_any]; exact st_sum HSl.out 1 (by omega)
        have s2 : wo.cell? ⟨s, 3, none⟩ = some (.int .u32 (wd (Sha.ofList S).c)) := by rw [hbel.cell (by exact hlt), Hst2.out.cell_any]; exact st_sum HSl.out 2 (by omega)
        have s3 : wo.cell? ⟨s, 4, none⟩ = some (.int .u32 (wd (Sha.ofList S).d)) := by rw [hbel.cell (by exact hlt), Hst2.out.cell_any]; exact st_sum HSl.out 3 (by omega)
        have s4 : wo.cell? ⟨s, 5, none⟩ = some (.int .u32 (wd (Sha.ofList S).e)) := by rw [hbel.cell (by exact hlt), Hst2.out.cell_any]; exact st_sum HSl.out 4 (by omega)
        have s5 : wo.cell? ⟨s, 6, none⟩ = some (.int .u32 (wd (Sha.ofList S).f)) := by rw [hbel.cell (by exact hlt), Hst2.out.cell_any]; exact st_sum HSl.out 5 (by omega)
        have s6 : wo.cell? ⟨s, 7, none⟩ = some (.int .u32 (wd (Sha.ofList S).g)) := by rw [hbel.cell (by exact hlt), Hst2.out.cell_any]; exact st_sum HSl.out 6 (by omega)
        have s7 : wo.cell? ⟨s, 8, none⟩ = some (.int .u32 (wd (Sha.ofList S).h)) := by rw [hbel.cell (by exact hlt), Hst2.out.cell_any]; exact st_sum HSl.out 7 (by omega)
        clear hrow hbel
        go_wp2
        go_quiet (fail)
        clear s0 s1 s2 s3 s4 s5 s6 s7
        go_wp2_with (refine wpList_load_part rfl 160 _ rfl wx.heap.size 0 64 rfl (wv LW) _ (HasRow.tab (Hrow.out.drewN nq)) Tryd.underlying160 rfl (by kernel_rfl) (by simp [HW.out]) (wv LW) (List.take_of_length_le (by simp [HW.out])) ?_)
        obtain ⟨S0, hS0⟩ : ∃ S0, S0 = Sha.ofList S := ⟨_, rfl⟩
        rw [← hS0]
        have HS0 := hid hS0
        clear hS0
        go_loopw [10, 11, 12, 13, 14, 15, 16, 17, 146] (fun va vb vc vd ve vf vg vh i wr => ∃ t : Nat, t ≤ 64 ∧ i = .int .i64 t ∧ va = .int .u32 (wd (Sha.rounds LW S0 t).a) ∧ vb = .int .u32 (wd (Sha.rounds LW S0 t).b) ∧
            vc = .int .u32 (wd (Sha.rounds LW S0 t).c) ∧ vd = .int .u32 (wd (Sha.rounds LW S0 t).d) ∧ ve = .int .u32 (wd (Sha.rounds LW S0 t).e) ∧ vf = .int .u32 (wd (Sha.rounds LW S0 t).f) ∧
            vg = .int .u32 (wd (Sha.rounds LW S0 t).g) ∧ vh = .int .u32 (wd (Sha.rounds LW S0 t).h) ∧ Drawn wo wr) (fun _ _ _ _ _ _ _ _ i _ => 64 - (intOf i).toNat)
        case atStart => exact ⟨0, by omega, rfl, rfl, rfl, rfl, rfl, rfl, rfl, rfl, rfl, (Drawn.refl _).drewN nq⟩
        case round =>
          obtain ⟨t, ht, rfl, rfl, rfl, rfl, rfl, rfl, rfl, rfl, rfl, hdr⟩ := hrel
          by_cases h64 : t < 64
          · have ix : ∀ w, (Instr.index 160 (.agg (wv LW).toArray) (.int .i64 (t : Int))).run Tryd.prog w = .ok (.int .u32 (wd (LW.getD t 0#32))) w := fun w =>
              run_index_arr 160 31 64 .u32 Tryd.underlying160 Tryd.underlying31 (by kernel_rfl) _ t h64 _ (by
                simp [wv, List.getD_eq_getElem?_getD, List.getElem?_eq_getElem (show t < LW.length by rw [HW.out]; exact h64)]) w
            have tc : wr.cell? ⟨1, t, none⟩ = some (.int .u32 (wd (Sha.kTab.getD t 0#32))) :=
              (hdr.cell _).trans ((Htab2.out.2.below Hbel.out (by omega)).word t h64)
            have hR : Sha.rounds LW S0 (t + 1) = Sha.round (Sha.rounds LW S0 t) (Sha.kTab.getD t 0#32) (LW.getD t 0#32) := rfl
            have HR := hid hR
            clear hR
            generalize Sha.rounds LW S0 t = R at *
            generalize Sha.kTab.getD t 0#32 = kt at *
            generalize LW.getD t 0#32 = wt at *
            go_wp2
            go_quiet ((go_at_call 119; exact quiet_same (rotl_neg _ _ (by omega) (by omega) _)))
            go_wp2_with (go_at_call 119; refine (rotl_neg _ _ (by omega) (by omega) _).mono ?_; rintro e w' ⟨rfl, rfl⟩)
            go_roundw
            case rel =>
              refine ⟨t + 1, by omega, by go_num, ?_, ?_, ?_, ?_, ?_, ?_, ?_, ?_, ?_⟩
              all_goals first | exact (hdr.drewN _) | (rw [HR.out]; rfl)
            case measure => simp [intOf]; omega
          · have ht64 : Hid (t = 64) := by have : t = 64 := by omega
                                           exact this
            clear Hrow
            have hst3 := hdr.row (Hst2.out.below Hbel.out hlt)
            have Hst3 := hid hst3
            have hb3 := Hbel.out.trans (hdr.below _)
            have Hb3 := hid hb3
            clear hst3 hb3
            obtain ⟨R, hR⟩ : ∃ R, R = Sha.rounds LW S0 t := ⟨_, rfl⟩
            rw [← hR]
            have HR := hid hR
            clear hR
            go_wp2
            go_loopw [215] (fun i wr => ∃ k : Nat, k ≤ 8 ∧ i = .int .i64 k ∧ HasRow wr s (stCells true (Sha.upd S R.list k) blk n) 146 ∧ wx.grownBy wr (some s)) (fun i _ => 8 - (intOf i).toNat)
            case atStart => exact ⟨0, by omega, rfl, by rw [Sha.upd_zero]; exact Hst3.out, grownBy_below Hb3.out⟩
            case round =>
              obtain ⟨k, hk, rfl, hst4, hgr4⟩ := hrel
              by_cases h8 : k < 8
              · have Hst4 := hid hst4
                have Hgr4 := hid hgr4
                have HU := hid (Sha.length_upd S R.list HSl.out rfl k (by omega))
                have ix : ∀ w, (Instr.index 144 (.agg #[.int .u32 (wd R.a), .int .u32 (wd R.b), .int .u32 (wd R.c), .int .u32 (wd R.d), .int .u32 (wd R.e), .int .u32 (wd R.f), .int .u32 (wd R.g), .int .u32 (wd R.h)]) (.int .i64 (k : Int))).run Tryd.prog w = .ok (.int .u32 (wd (R.list.getD k 0#32))) w := fun w =>
                  run_index_arr 144 31 8 .u32 Tryd.underlying144 Tryd.underlying31 (by kernel_rfl) (wv R.list).toArray k h8 _ (by
                    simp [wv, List.getD_eq_getElem?_getD, List.getElem?_eq_getElem (show k < R.list.length by exact h8)]) w
                have sc : wr.cell? ⟨s, 1 + k, none⟩ = some (.int .u32 (wd (S.getD k 0#32))) := by
                  rw [hst4.cell_any, st_sum HU.out k h8, Sha.upd_at S R.list HSl.out rfl k h8]
                have sf := hst4.free (1 + k)
                generalize hy : R.list.getD k 0#32 = y at *
                generalize hx : S.getD k 0#32 = x at *
                have Hy := hid hy
                have Hx := hid hx
                clear hst4 hgr4 hx hy
                go_wp2
                have p0 : ((k : Nat) : Int) < 8 := by omega
                refine region_tail 11 (by kernel_rfl) (by kernel_rfl) ?_
                simp only [List.take_succ_cons, List.take_zero, List.drop_succ_cons, List.drop_zero]
                repeat still_step
                refine wpStill_nil ?_
                go_wp2
                go_roundw
                case rel =>
                  refine ⟨k + 1, by omega, by go_num, ?_, ?_⟩
                  · have := (HasRow.drewN Hst4.out 1).set (1 + k) (.int .u32 (wd (x + y)))
                    rw [st_set_sum HU.out k h8, ← Hx.out, ← Hy.out, Sha.upd_set S R.list HSl.out rfl k h8] at this
                    rw [← Hx.out, ← Hy.out]
                    exact this
                  · exact grownBy_trans (grownBy_trans Hgr4.out (grownBy_drewN _ 1 _)) (grownBy_setCell _ ⟨s, 1 + k, none⟩ _)
                case measure => simp [intOf]; omega
              · obtain rfl : k = 8 := by omega
                have Hst4 := hid hst4
                have Hgr4 := hid hgr4
                clear hst4 hgr4
                go_wp2
                go_end0
                refine ⟨rfl, ?_, grownBy_trans Hgr.out Hgr4.out⟩
                have := Hst4.out
                rw [Sha.upd_8 S R.list HSl.out rfl, HR.out, ht64.out, HS0.out, HLW.out, HS.out] at this
                exact this
end Go.Proofs.YtgiagcopbibneaaDoor
