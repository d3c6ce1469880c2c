/- The contract of the reference's words; plain laws on words. -/
import Derived.Test.YtgiagcopbibneaaDoorRef2
namespace Sha
theorem or_add (x : W) (c : UInt8) : x <<< 8 ||| b2w c = x <<< 8 + b2w c := by
  rw [BitVec.add_eq_or_of_and_eq_zero]
  apply BitVec.eq_of_getLsbD_eq
  intro i hi
  simp only [BitVec.getLsbD_and, BitVec.getLsbD_shiftLeft, b2w, BitVec.getLsbD_ofNat]
  by_cases h : i < 8
  · simp [h]
  · have : c.toNat.testBit i = false := Nat.testBit_lt_two_pow (Nat.lt_of_lt_of_le c.toNat_lt (Nat.pow_le_pow_right (by decide) (by omega)))
    simp [this]
theorem word_add (b : List UInt8) (i : Nat) :
    word b i = b2w (b.getD i 0) <<< 24 + b2w (b.getD (i + 1) 0) <<< 16 + b2w (b.getD (i + 2) 0) <<< 8 + b2w (b.getD (i + 3) 0) := by
  unfold word
  rw [or_add, or_add, or_add]
  simp only [BitVec.shiftLeft_add_distrib, ← BitVec.shiftLeft_add]
theorem ch_eq (e f g : W) : e &&& f ^^^ ~~~e &&& g = e &&& f ||| ~~~e &&& g := by
  apply BitVec.eq_of_getLsbD_eq
  intro i hi
  simp only [BitVec.getLsbD_xor, BitVec.getLsbD_or, BitVec.getLsbD_and, BitVec.getLsbD_not, hi, decide_true, Bool.true_and]
  cases e.getLsbD i <;> cases f.getLsbD i <;> cases g.getLsbD i <;> rfl
theorem maj_eq (a b c : W) : a &&& b ^^^ a &&& c ^^^ b &&& c = a &&& b ||| c &&& (a ||| b) := by
  apply BitVec.eq_of_getLsbD_eq
  intro i hi
  simp only [BitVec.getLsbD_xor, BitVec.getLsbD_or, BitVec.getLsbD_and]
  cases a.getLsbD i <;> cases b.getLsbD i <;> cases c.getLsbD i <;> rfl
end Sha
namespace Go
open Sha (W)
@[go_sem] theorem wd_wrap_shl16 (x : W) : IntKind.u32.wrap (wd x * (65536 : Int)) = wd (x <<< 16) := by rw [IntKind.wrap_u32']; exact wd_shl x 16
@[go_sem] theorem wd_wrap_shl24 (x : W) : IntKind.u32.wrap (wd x * (16777216 : Int)) = wd (x <<< 24) := by rw [IntKind.wrap_u32']; exact wd_shl x 24
@[go_sem] theorem wd_xor_ones (x : W) : bits .xor .u32 (wd x) (4294967295 : Int) = wd (~~~x) := by
  have h : (4294967295 : Int) = wd (BitVec.allOnes 32) := by decide
  rw [h, wd_xor, BitVec.xor_allOnes]
end Go
namespace Go.Proofs.YtgiagcopbibneaaDoor
open Go.RowKit
open Sha (W)

def HasWords (w : World) (B : Nat) (l : List W) : Prop := HasRow w B (wv l) 31

set_option maxRecDepth 100000 in
set_option maxHeartbeats 4000000 in
theorem words_any (w : World) (no : Nat → Prop) (blk : List UInt8) (hblk : blk.length = 64) (a : Option Addr) (cap : Nat) (hb : Bytes w no a cap blk) :
    Calls Tryd.prog 110 #[.slice a 64 cap] w fun e w' => e = .returned (.slice (some ⟨w.heap.size, 0, none⟩) 64 64) ∧ HasRow w' w.heap.size (wv (Sha.ws blk 64)) 31 ∧ Below w.heap.size w w' := by
  obtain ⟨b, off, ha, _, hlt, hc⟩ := hb.2.2 (by intro e; rw [e] at hblk; simp at hblk)
  subst ha
  have Hc := hid hc
  have Hl := hid hblk
  clear hb hc hblk
  obtain ⟨i0, hi, hz0, hz1, hz2⟩ := info_parts info_u32
  have Hi := hid hi
  have Hz0 := hid hz0
  have Hz1 := hid hz1
  have Hz2 := hid hz2
  clear hi hz0 hz1 hz2
  go_enter Tryd.func110, Tryd.ntmps110
  go_wp2_with (refine wpList_make_row rfl 126 _ _ rfl 31 i0 (.int .u32 0) Tryd.underlying126 Hi.out Hz0.out Hz1.out rfl .i64 .i64 64 64 rfl rfl (Nat.le_refl _) (by rw [Hz2.out]; omega) (by omega) ?_; intro w3 h3 b3 s3; have H3 := hid h3; have B3 := hid b3; have S3 := hid s3; clear h3 b3 s3)
  go_loopw [4] (fun i wr => ∃ t : Nat, t ≤ 64 ∧ i = .int .i64 t ∧ HasRow wr w.heap.size (wv (Sha.wrow blk t)) 31 ∧ Below w.heap.size w wr) (fun i _ => 64 - (intOf i).toNat)
  case atStart => exact ⟨0, by omega, rfl, H3.out, B3.out⟩
  case round =>
    obtain ⟨t, ht, rfl, hrow, hbel⟩ := hrel
    have Hrow := hid hrow
    have Hbel := hid hbel
    have HL := hid (Sha.length_wrow blk t ht)
    by_cases h64 : t < 64
    · have at_ : wr.cell? ⟨w.heap.size, t, none⟩ = some (.int .u32 (wd ((Sha.wrow blk t).getD t 0#32))) := hrow.word _ (by rw [HL.out]; omega)
      have af := hrow.free t
      by_cases h16 : t < 16
      · obtain ⟨T, hT⟩ : ∃ T : Nat, T = 4 * t := ⟨_, rfl⟩
        have t1 : 4 * (t : Int) = (T : Int) := by omega
        have c0 : wr.cell? ⟨b, off + T, none⟩ = some (.int .u8 (bt8 (blk.getD T 0))) := (hbel.cell (by exact hlt)).trans (Hc.out T (by rw [Hl.out]; omega))
        have c1 : wr.cell? ⟨b, off + (T + 1), none⟩ = some (.int .u8 (bt8 (blk.getD (T + 1) 0))) := (hbel.cell (by exact hlt)).trans (Hc.out (T + 1) (by rw [Hl.out]; omega))
        have c2 : wr.cell? ⟨b, off + (T + 2), none⟩ = some (.int .u8 (bt8 (blk.getD (T + 2) 0))) := (hbel.cell (by exact hlt)).trans (Hc.out (T + 2) (by rw [Hl.out]; omega))
        have c3 : wr.cell? ⟨b, off + (T + 3), none⟩ = some (.int .u8 (bt8 (blk.getD (T + 3) 0))) := (hbel.cell (by exact hlt)).trans (Hc.out (T + 3) (by rw [Hl.out]; omega))
        generalize hx0 : blk.getD T 0 = x0 at c0
        generalize hx1 : blk.getD (T + 1) 0 = x1 at c1
        generalize hx2 : blk.getD (T + 2) 0 = x2 at c2
        generalize hx3 : blk.getD (T + 3) 0 = x3 at c3
        have HX := hid (Sha.word_add blk T)
        rw [hx0, hx1, hx2, hx3] at HX
        have HT := hid hT
        have T60 : (T : Int) < 64 := by omega
        have T61 : (T : Int) + 1 < 64 := by omega
        have T62 : (T : Int) + 2 < 64 := by omega
        have T63 : (T : Int) + 3 < 64 := by omega
        have q0 : IntKind.i64.wrap (T : Int) = (T : Int) := IntWalk.i64_in _ (by omega)
        have q1 : IntKind.i64.wrap ((T : Int) + 1) = (T : Int) + 1 := IntWalk.i64_in _ (by omega)
        have q2 : IntKind.i64.wrap ((T : Int) + 2) = (T : Int) + 2 := IntWalk.i64_in _ (by omega)
        have q3 : IntKind.i64.wrap ((T : Int) + 3) = (T : Int) + 3 := IntWalk.i64_in _ (by omega)
        have n1 : ((T : Int) + 1).toNat = T + 1 := by omega
        have n2 : ((T : Int) + 2).toNat = T + 2 := by omega
        have n3 : ((T : Int) + 3).toNat = T + 3 := by omega
        have g1 : 0 ≤ (T : Int) + 1 := by omega
        have g2 : 0 ≤ (T : Int) + 2 := by omega
        have g3 : 0 ≤ (T : Int) + 3 := by omega
        have p0 : ((t : Nat) : Int) < 64 := by omega
        clear hrow hbel hx0 hx1 hx2 hx3 hT
        go_wp2
        refine region_tail 36 (by kernel_rfl) (by kernel_rfl) ?_
        simp only [List.take_succ_cons, List.take_zero, List.drop_succ_cons, List.drop_zero]
        repeat still_step
        refine wpStill_nil ?_
        clear q0 q1 q2 q3 n1 n2 n3 g1 g2 g3
        go_wp2
        go_roundw
        case rel =>
          refine ⟨t + 1, by omega, by go_num, ?_, ?_⟩
          · have := Hrow.out.drew.setWord t (Sha.next blk (Sha.ws blk t))
            rw [Sha.wrow_next blk t h64, Sha.next_lt blk t h16, ← HT.out, HX.out] at this
            exact this
          · have h1 : Below w.heap.size w wr.drew := Hbel.out.trans ⟨rfl, rfl, rfl, Nat.le_refl _, fun _ _ => rfl⟩
            exact h1.setCell (p := ⟨w.heap.size, t, none⟩) (Nat.le_refl _) _
        case measure => simp [intOf]; omega
      · have a2 : wr.cell? ⟨w.heap.size, t - 2, none⟩ = some (.int .u32 (wd ((Sha.wrow blk t).getD (t - 2) 0#32))) := hrow.word _ (by rw [HL.out]; omega)
        have a7 : wr.cell? ⟨w.heap.size, t - 7, none⟩ = some (.int .u32 (wd ((Sha.wrow blk t).getD (t - 7) 0#32))) := hrow.word _ (by rw [HL.out]; omega)
        have a15 : wr.cell? ⟨w.heap.size, t - 15, none⟩ = some (.int .u32 (wd ((Sha.wrow blk t).getD (t - 15) 0#32))) := hrow.word _ (by rw [HL.out]; omega)
        have a16 : wr.cell? ⟨w.heap.size, t - 16, none⟩ = some (.int .u32 (wd ((Sha.wrow blk t).getD (t - 16) 0#32))) := hrow.word _ (by rw [HL.out]; omega)
        clear hrow hbel
        have HN := hid (Sha.next_ge blk t (by omega))
        generalize (Sha.wrow blk t).getD (t - 2) 0#32 = y2 at a2 HN
        generalize (Sha.wrow blk t).getD (t - 7) 0#32 = y7 at a7 HN
        generalize (Sha.wrow blk t).getD (t - 15) 0#32 = y15 at a15 HN
        generalize (Sha.wrow blk t).getD (t - 16) 0#32 = y16 at a16 HN
        have i2 : (t : Int) - 2 = ((t - 2 : Nat) : Int) := by omega
        have i7 : (t : Int) - 7 = ((t - 7 : Nat) : Int) := by omega
        have i15 : (t : Int) - 15 = ((t - 15 : Nat) : Int) := by omega
        have i16 : (t : Int) - 16 = ((t - 16 : Nat) : Int) := by omega
        have q16 : IntKind.i64.wrap ((t - 16 : Nat) : Int) = ((t - 16 : Nat) : Int) := IntWalk.i64_in _ (by omega)
        have q7 : IntKind.i64.wrap ((t - 7 : Nat) : Int) = ((t - 7 : Nat) : Int) := IntWalk.i64_in _ (by omega)
        have q2 : IntKind.i64.wrap ((t - 2 : Nat) : Int) = ((t - 2 : Nat) : Int) := IntWalk.i64_in _ (by omega)
        have q15 : IntKind.i64.wrap ((t - 15 : Nat) : Int) = ((t - 15 : Nat) : Int) := IntWalk.i64_in _ (by omega)
        have p16 : ((t - 16 : Nat) : Int) < 64 := by omega
        have p7 : ((t - 7 : Nat) : Int) < 64 := by omega
        have p2 : ((t - 2 : Nat) : Int) < 64 := by omega
        have p15 : ((t - 15 : Nat) : Int) < 64 := by omega
        have p0 : ((t : Nat) : Int) < 64 := by omega
        go_wp2
        refine region_tail 32 (by kernel_rfl) (by kernel_rfl) ?_
        simp only [List.take_succ_cons, List.take_zero, List.drop_succ_cons, List.drop_zero]
        repeat (first | still_step | still_call ((right_lit _ _ (by omega) (by omega) _).mono fun _ _ h => ⟨h.1, h.2.symm⟩))
        refine wpStill_nil ?_
        clear q16 q7 q2 q15 i2 i7 i15 i16
        go_wp2
        go_roundw
        case rel =>
          refine ⟨t + 1, by omega, by go_num, ?_, ?_⟩
          · have := Hrow.out.drew.setWord t (Sha.next blk (Sha.ws blk t))
            rw [Sha.wrow_next blk t h64, HN.out] at this
            have e : y16 + Sha.low y15 + y7 + Sha.high y2 = y16 + y7 + Sha.low y15 + Sha.high y2 := by
              rw [BitVec.add_assoc y16, BitVec.add_comm (Sha.low y15), ← BitVec.add_assoc]
            rw [e] at this
            exact this
          · have h1 : Below w.heap.size w wr.drew := Hbel.out.trans ⟨rfl, rfl, rfl, Nat.le_refl _, fun _ _ => rfl⟩
            exact h1.setCell (p := ⟨w.heap.size, t, none⟩) (Nat.le_refl _) _
        case measure => simp [intOf]; omega
    · obtain rfl : t = 64 := by omega
      rw [Sha.wrow_64] at Hrow
      obtain ⟨LW, hLW⟩ : ∃ LW, LW = Sha.ws blk 64 := ⟨_, rfl⟩
      rw [← hLW] at Hrow
      have HLW := hid hLW
      clear hrow hbel hLW HL
      go_wp2
      go_ret
      exact ⟨rfl, HLW.out ▸ Hrow.out, Hbel.out⟩
end Go.Proofs.YtgiagcopbibneaaDoor
