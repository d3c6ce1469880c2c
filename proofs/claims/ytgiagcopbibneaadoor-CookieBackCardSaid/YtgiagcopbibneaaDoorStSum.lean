/- The contracts of sha.New, sha.State.Sum and sha.Sum. -/
import Derived.Test.YtgiagcopbibneaaDoorWrite
namespace Go.Proofs.YtgiagcopbibneaaDoor
open Go.RowKit
open Sha (W)

/-- the cells of a state that nothing was written to -/
def zeros : List Value := stCells false (List.replicate 8 0#32) (List.replicate 64 0) 0
theorem zero_state (w : World) : (zeroValue 146).run Tryd.prog w = .ok (.agg zeros.toArray) w := by kernel_rfl
theorem isState_zeros {w : World} {s : Nat} (h : HasRow w s zeros 146) : IsState w s [] := ⟨List.replicate 64 0, ⟨by simp, by simp⟩, h⟩

theorem new_any (w : World) : Calls Tryd.prog 91 #[] w fun e w' => e = .returned (.pointer (some ⟨w.heap.size, 0, none⟩)) ∧ IsState w' w.heap.size [] ∧ Below w.heap.size w w' ∧ w'.heap.size = w.heap.size + 1 := by
  have hz := zero_state
  go_enter Tryd.func91, Tryd.ntmps91
  go_wp2
  go_ret
  exact ⟨rfl, isState_zeros (HasRow.new w zeros _), (Below.refl _ _).alloc (Nat.le_refl _) _, by simp⟩

/-- 32 noughts -/
def z32 : List UInt8 := List.replicate 32 0

set_option maxRecDepth 100000 in
theorem stsum_nil (w : World) : Calls Tryd.prog 93 #[.pointer none] w fun e w' => e = .returned (.agg (bv z32).toArray) ∧ Below w.heap.size w w' := by
  have h0 : HasRow (w.alloc (.cells (bv (List.replicate 32 0)).toArray 106)) w.heap.size (bv (List.replicate 32 0)) 106 := HasRow.new _ _ _
  have H0 := hid h0
  clear h0
  go_enter Tryd.func93, Tryd.ntmps93
  go_wp2_with (first
    | (refine wpList_load_part rfl 106 _ rfl w.heap.size 0 32 rfl (bv (List.replicate 32 0)) _ H0.out.tab Tryd.underlying106 rfl (by kernel_rfl) (by decide) (bv (List.replicate 32 0)) rfl ?_)
    | (refine wpList_store_into rfl 106 _ _ rfl w.heap.size 0 rfl (bv (List.replicate 32 0)) rfl (bv (List.replicate 32 0)) 106 H0.out (by kernel_rfl) (by decide) (one_bv _) ?_; intro w2 h2 g2 s2; rw [splice_all _ _ rfl] at h2; have H2 := hid h2; have G2 := hid g2; clear h2 g2 s2))
  refine bodyPost_ret (v := .agg (bv (List.replicate 32 0)).toArray) (results_cell_row (ty := 106) (p := 2) rfl _ w2 w.heap.size _ _ _ _ rfl H2.out Tryd.underlying106 rfl (by kernel_rfl)) rfl ⟨rfl, ?_⟩
  exact ((Below.refl _ _).alloc (Nat.le_refl _) _).grown G2.out (by simp) (by intro k hk; injection hk with hk; omega)

theorem bytes_of_owns {w : World} {base : Nat} {T : TypeId} {v : Value} {n : Nat} {l : List UInt8} (h : w.ownsRow base T 1 v n (bv l)) (no : Nat → Prop) (hno : ∀ b, base ≤ b → ¬ no b) :
    ∃ a cap, v = .slice a l.length cap ∧ Bytes w no a cap l := by
  have hl : l.length = n := by have := h.1; simpa using this
  rcases h.2 with ⟨rfl, h0⟩ | ⟨g, cap, cur, rfl, hb, hg, hn, hc, hs, ht⟩
  · obtain rfl : l = [] := List.eq_nil_of_length_eq_zero (by omega)
    exact ⟨none, 0, rfl, Bytes.nil _ _ _ _ (Nat.zero_le _)⟩
  · refine ⟨_, cap, by rw [hl], by omega, hc, fun _ => ⟨g, 0, rfl, hno g hb, (Array.getElem?_eq_some_iff.1 hg).1, fun i hi => ?_⟩⟩
    rw [Nat.zero_add, cell_of_row w g i cur T _ hg]
    have e : (cur.toList.take (n * 1))[i]? = (bv l)[i]? := by rw [ht]
    rw [List.getElem?_take, if_pos (by omega)] at e
    rw [← Array.getElem?_toList, e]
    simp [bv, List.getD_eq_getElem?_getD, List.getElem?_eq_getElem hi]

theorem info_u8 : (Tryd.prog.info? 5).map (fun i => (i.zero, i.size, i.bytes)) = some (some (.int .u8 0), 1, 1) := by kernel_rfl

set_option maxRecDepth 100000 in
set_option maxHeartbeats 2000000 in
theorem stsum_any (w : World) (s : Nat) (l : List UInt8) (hst : IsState w s l) (htab : Tabs w) (hs : 2 ≤ s) (hn : l.length < 1152921504606846000) :
    Calls Tryd.prog 93 #[.pointer (some ⟨s, 0, none⟩)] w fun e w' => e = .returned (.agg (bv (Sha.sum l)).toArray) ∧ Below w.heap.size w w' := by
  have hlt := hst.lt
  have Htab := hid htab
  have Hst := hid hst
  obtain ⟨blk, htl, hrow⟩ := hst
  have Htl := hid htl
  have Hblk := hid htl.1
  have Hlen := hid (Sha.length_sums l)
  have h0 : HasRow (w.alloc (.cells (bv (List.replicate 32 0)).toArray 106)) w.heap.size (bv (List.replicate 32 0)) 106 := HasRow.new _ _ _
  have H0 := hid h0
  have h1 := HasRow.new (w.alloc (.cells (bv (List.replicate 32 0)).toArray 106)) zeros 146
  rw [show (w.alloc (.cells (bv (List.replicate 32 0)).toArray 106)).heap.size = w.heap.size + 1 by simp] at h1
  have H1 := hid h1
  have Hs1 := hid (hrow.alloc (.cells (bv (List.replicate 32 0)).toArray 106))
  obtain ⟨N, hN⟩ : ∃ N, N = l.length := ⟨_, rfl⟩
  rw [← hN] at Hs1 hn
  have HN := hid hN
  obtain ⟨i0, hi, hz0, hz1, hz2⟩ := info_parts info_u8
  have cn : w.cell? ⟨s, 73, none⟩ = some (.int .u64 (N : Int)) := by rw [hrow.cell_any, hN]; exact st_n Hlen.out Hblk.out
  have Hcn := hid cn
  obtain ⟨q, hq⟩ : ∃ q, q = N % 64 := ⟨_, rfl⟩
  have q64 : q < 64 := by omega
  have r1 : ((N : Nat) : Int).tmod 64 = ((q : Nat) : Int) := by rw [hq]; rfl
  obtain ⟨z, hzz⟩ : ∃ z, z = (119 - q) % 64 := ⟨_, rfl⟩
  have z64 : z < 64 := by omega
  have r2 : (119 - (q : Int)).tmod 64 = (z : Int) := by rw [Int.tmod_eq_emod_of_nonneg (by omega)]; omega
  obtain ⟨y, hy⟩ : ∃ y, y = 1 + z := ⟨_, rfl⟩
  have y64 : y ≤ 64 := by omega
  have y0 : 0 < y := by omega
  have r3 : (1 : Int) + (z : Int) = (y : Int) := by omega
  have Hq := hid hq
  have Hz := hid hzz
  have Hy := hid hy
  have Hi := hid hi
  have Hz0 := hid hz0
  have Hz1 := hid hz1
  have Hz2 := hid hz2
  have hz := zero_state
  obtain ⟨CS, hCS⟩ : ∃ CS, CS = stCells (decide (64 ≤ N)) (Sha.sums l) blk (N : Int) := ⟨_, rfl⟩
  have L74 : CS.length = 74 := by rw [hCS, st_length Hlen.out Hblk.out]
  rw [← hCS] at Hs1
  have E0 : Hid (0 + 74 ≤ CS.length) := by rw [L74]; exact Nat.le_refl 74
  have E1 : Hid (List.take 74 (List.drop 0 CS) = CS) := List.take_of_length_le (by rw [List.drop_zero, L74]; exact Nat.le_refl 74)
  have E2 : Hid ((Tryd.prog.info? 146).map (·.size) = some CS.length) := by rw [L74]; exact (show (Tryd.prog.info? 146).map (·.size) = some 74 by kernel_rfl)
  have E3 : Hid (0 + CS.length ≤ zeros.length) := by rw [L74]; exact Nat.le_refl 74
  have E4 : Hid (∀ v ∈ CS, v.oneCell' = true) := by rw [hCS]; exact one_st _ _ _ _
  have E5 : Hid (zeros.length = CS.length) := by rw [L74]; rfl
  have Cn2 : Hid (∀ w2, ((w.alloc (.cells (bv (List.replicate 32 0)).toArray 106)).alloc (.cells zeros.toArray 146)).grownBy w2 (some (w.heap.size + 1)) → w2.cell? ⟨s, 73, none⟩ = some (.int .u64 (N : Int))) := fun w2 g2 =>
    (World.cell?_of_block (g2.block s (by simp; omega) (by intro e; injection e with e; omega))).trans (((Hs1.out.alloc (.cells zeros.toArray 146)).cell_any 73).trans (by rw [hCS]; exact st_n Hlen.out Hblk.out))
  have S2F : Hid (∀ w2 : World, w2.heap.size = ((w.alloc (.cells (bv (List.replicate 32 0)).toArray 106)).alloc (.cells zeros.toArray 146)).heap.size → w2.heap.size = w.heap.size + 2) := by intro w2 h; rw [h]; simp
  have HCS := hid hCS
  clear L74 hCS h0 h1 htab htl hrow hN cn hi hz0 hz1 hz2 hq hzz hy
  go_enter Tryd.func93, Tryd.ntmps93
  go_wp2_with (first
    | (refine wpList_load_part rfl 146 _ rfl s 0 74 rfl CS _ Hs1.out.tab Tryd.underlying146 rfl (by kernel_rfl) E0.out CS E1.out ?_)
    | (refine wpList_store_into rfl 146 _ _ rfl (w.heap.size + 1) 0 rfl CS rfl zeros 146 H1.out E2.out E3.out E4.out ?_; intro w2 h2 g2 s2; rw [splice_all _ _ E5.out] at h2; have H2 := hid h2; have G2 := hid g2; have cn2 := Cn2.out w2 g2; have S2 := S2F.out w2 s2; clear h2 g2 s2)
    | (refine wpList_make_row rfl 29 _ _ rfl 5 i0 (.int .u8 0) Tryd.underlying29 Hi.out Hz0.out Hz1.out rfl .u64 .i64 y 72 rfl rfl (by omega) (by rw [Hz2.out]; decide) (by decide) ?_; intro w3 h3 b3 s3; rw [S2] at h3; have c3 : w3.cell? ⟨w.heap.size + 2, 0, none⟩ = some (.int .u8 0) := h3.cell_any 0; have f3 := h3.free 0; have H3 := hid h3; have B3 := hid b3; have S3 : Hid (w3.heap.size = w.heap.size + 3) := s3.trans (by rw [S2]); clear h3 b3 s3))
  obtain ⟨wL, hwL⟩ : ∃ wL, wL = w3.setCell ⟨w.heap.size + 2, 0, none⟩ (.int .u8 128) := ⟨_, rfl⟩
  rw [← hwL]
  have SL : wL.heap.size = w.heap.size + 3 := by rw [hwL]; simpa [World.setCell] using S3.out
  have own0 : wL.ownsRow (w.heap.size + 2) 5 1 (.slice (some ⟨w.heap.size + 2, 0, none⟩) y 72) y (bv (0x80 :: List.replicate z 0)) := by
    rw [hwL]
    refine owns_of_row (H3.out.set 0 (.int .u8 128)) (Nat.le_refl _) (by omega) (by decide) rfl ?_
    have e : (List.replicate 72 (Value.int .u8 0)).set 0 (.int .u8 128) = .int .u8 128 :: List.replicate 71 (.int .u8 0) := rfl
    rw [e, Hy.out, Nat.add_comm, List.take_succ_cons, List.take_replicate, Nat.min_eq_left (by omega)]
    simp [bv]; exact ⟨rfl, Or.inr rfl⟩
  have bw2 : Below (w.heap.size + 1) ((w.alloc (.cells (bv (List.replicate 32 0)).toArray 106)).alloc (.cells zeros.toArray 146)) w2 := below_of_grownBy G2.out (by simp) (by intro k hk; injection hk with hk; omega)
  have b23 : Below (w.heap.size + 2) w2 wL := by rw [hwL]; exact (B3.out.mono (Nat.le_of_eq S2.symm)).setCell (p := ⟨w.heap.size + 2, 0, none⟩) (Nat.le_refl _) _
  have bw0 : Below w.heap.size w wL := (((Below.refl _ _).alloc (Nat.le_refl _) _).alloc (by simp) _).trans ((bw2.mono (by omega)).trans (b23.mono (by omega)))
  have rowT : HasRow wL (w.heap.size + 1) CS 146 := H2.out.below b23 (by omega)
  have rowO : HasRow wL w.heap.size (bv (List.replicate 32 0)) 106 := (H0.out.alloc _).below (bw2.trans (b23.mono (by omega))) (by omega)
  have cnL : wL.cell? ⟨s, 73, none⟩ = some (.int .u64 (N : Int)) := (b23.cell (by show s < _; omega)).trans cn2
  have Own0 := hid own0
  have Bw0 := hid bw0
  have RowT := hid rowT
  have RowO := hid rowO
  have CnL := hid cnL
  have HwL := hid hwL
  have TabL : Hid (Tabs wL) := Htab.out.below (by omega) bw0
  clear own0 bw2 b23 bw0 rowT rowO cnL hwL c3 f3 cn2 H3 B3 G2 H2
  go_loopw [4, 5] (fun v sh wr => ∃ i : Nat, i ≤ 8 ∧ sh = .int .i64 (56 - 8 * (i : Int)) ∧ wr.ownsRow (w.heap.size + 2) 5 1 v (y + i) (bv ((0x80 :: List.replicate z 0) ++ (Sha.be8 (8 * N)).take i)) ∧ Below (w.heap.size + 2) wL wr) (fun _ sh _ => (intOf sh + 8).toNat)
  case atStart => exact ⟨0, by omega, rfl, by simpa using Own0.out, Below.refl _ _⟩
  case round =>
    obtain ⟨i, hi8, rfl, hown, hbel⟩ := hrel
    obtain ⟨wo, rfl⟩ : ∃ wo : World, wo = wr := ⟨_, rfl⟩
    rename_i v4 _ _
    have Hown := hid hown
    have Hbel := hid hbel
    have sz : w.heap.size + 3 ≤ wo.heap.size := by have := hbel.size; omega
    have cn : wo.cell? ⟨s, 73, none⟩ = some (.int .u64 (N : Int)) := (hbel.cell (by show s < _; omega)).trans CnL.out
    clear hown hbel
    by_cases h8 : i < 8
    · obtain ⟨S, hS⟩ : ∃ S : Int, S = 56 - 8 * (i : Int) := ⟨_, rfl⟩
      have s0 : 0 ≤ S := by omega
      have s56 : S ≤ 56 := by omega
      obtain ⟨e, he⟩ : ∃ e : Nat, e = 56 - 8 * i := ⟨_, rfl⟩
      have hSe : S.toNat = e := by omega
      obtain ⟨x, hx⟩ : ∃ x, x = (Sha.be8 (8 * N)).getD i 0 := ⟨_, rfl⟩
      have hb : IntKind.u8.wrap (8 * (N : Int) / 2 ^ e) = bt8 x := by
        rw [hx, Sha.be8_at _ _ h8, ← he, IntKind.wrap_u8']
        unfold bt8
        rw [UInt8.toNat_ofNat', Int.natCast_emod, Int.natCast_ediv, Int.natCast_pow]; simp
      rw [← hS]
      have HS := hid hS
      have Hx := hid hx
      clear hS he hx
      go_wp2_with (refine wpList_append_bytes rfl (.tmp 28) (.tmp 37) 29 rfl (w.heap.size + 2) 5 i0 Tryd.underlying29 Hi.out Hz0.out Hz1.out Hz2.out _ (y + i) _ rfl (Hown.out.alloc _) ⟨wo.heap.size, 0, none⟩ 1 1 [x] rfl rfl (new_byte _ _ _) (by omega) (by simp; omega) ?_; intro v' w4 hown4 g4; have Hown4 := hid hown4; have G4 := hid g4; clear hown4 g4)
      go_roundw
      case rel =>
        have hv : ∀ k, Value.ownBlock u4 = some k → w.heap.size + 2 ≤ k := fun k hk => (Hown.out.lt k hk).1
        refine ⟨i + 1, by omega, ?_, ?_, ?_⟩
        · rw [HS.out]; go_num
        · have := Hown4.out
          rw [Hx.out, List.append_assoc, Sha.be8_take _ _ h8] at this
          exact this
        · exact (Hbel.out.alloc (by omega) _).grown G4.out (by simp; omega) hv
      case measure => simp [intOf]; omega
    · have e8 : i = 8 := by omega
      obtain ⟨T, hT⟩ : ∃ T, T = Sha.tail N := ⟨_, rfl⟩
      have own8 := Hown.out
      rw [e8, List.take_of_length_le (by rw [Sha.length_be8]; exact Nat.le_refl 8), Hz.out, Hq.out, ← Sha.tail_eq N (by omega), ← hT] at own8
      obtain ⟨a, cap, hv, hby⟩ := bytes_of_owns own8 (· = w.heap.size + 1) (by intro b hb e; omega)
      subst hv
      have Hby := hid hby
      have HTl : Hid (T.length ≤ 100) := by rw [hT, Sha.length_tail]; show _ ≤ _; omega
      have HT := hid hT
      have stT : IsState wo (w.heap.size + 1) l := ⟨blk, Htl.out, by rw [← HN.out, ← HCS.out]; exact RowT.out.below Hbel.out (by omega)⟩
      have StT := hid stT
      clear own8 hby hT stT Own0 Hown
      go_wp2_with (go_at_call 92; refine (write_any (w.heap.size + 1) l T _ _ _ StT.out Hby.out (TabL.out.below (by omega) Hbel.out) (by omega) (by have := HTl.out; have := HN.out; omega)).mono ?_; rintro e w5 ⟨rfl, hst5, hgr5⟩; have Hst5 := hid hst5; have Hgr5 := hid hgr5; clear hst5 hgr5)
      obtain ⟨blk5, htl5, hrow5⟩ := Hst5.out
      have rowO5 := (RowO.out.below Hbel.out (by omega)).grown Hgr5.out (by intro e; injection e with e; omega)
      have bw5 := Bw0.out.trans ((Hbel.out.mono (by omega)).trans (below_of_grownBy Hgr5.out (by omega) (by intro k hk; injection hk with hk; omega)))
      have Hrow5 := hid hrow5
      have RowO5 := hid rowO5
      have Bw5 : Hid (Below w.heap.size w w5) := bw5
      obtain ⟨h, hh⟩ : ∃ h, h = Sha.sums (l ++ T) := ⟨_, rfl⟩
      have hl8 : Hid (h.length = 8) := by rw [hh]; exact Sha.length_sums _
      have hb64 : Hid (blk5.length = 64) := htl5.1
      rw [← hh] at Hrow5
      have HH := hid hh
      clear hrow5 rowO5 bw5 htl5 hh
      go_loopw [41] (fun c wr => ∃ k : Nat, k ≤ 32 ∧ c = .int .i64 (k : Int) ∧ HasRow wr w.heap.size (bv ((Sha.out h).take k ++ List.replicate (32 - k) 0)) 106 ∧ HasRow wr (w.heap.size + 1) (stCells (decide (64 ≤ (l ++ T).length)) h blk5 ((l ++ T).length : Int)) 146 ∧ Below w.heap.size w wr) (fun c _ => 32 - (intOf c).toNat)
      case atStart => exact ⟨0, by omega, rfl, by simpa using RowO5.out, Hrow5.out, Bw5.out⟩
      case round =>
        obtain ⟨k, hk, rfl, ro, rt, bb⟩ := hrel
        have Ro := hid ro
        have Rt := hid rt
        have Bb := hid bb
        by_cases h32 : k < 32
        · obtain ⟨d, hd⟩ : ∃ d, d = k / 4 := ⟨_, rfl⟩
          obtain ⟨r, hr⟩ : ∃ r, r = k % 4 := ⟨_, rfl⟩
          have d8 : d < 8 := by omega
          have r4 : r < 4 := by omega
          have d1 : ((k : Nat) : Int).tdiv 4 = (d : Int) := by rw [hd]; rfl
          have d2 : ((k : Nat) : Int) / 4 = (d : Int) := by rw [hd]; rfl
          have d3 : ((k : Nat) : Int).tmod 4 = (r : Int) := by rw [hr]; rfl
          have d4 : ((k : Nat) : Int) % 4 = (r : Int) := by rw [hr]; rfl
          obtain ⟨S, hS⟩ : ∃ S : Int, S = 24 - 8 * (r : Int) := ⟨_, rfl⟩
          have s0 : 0 ≤ S := by omega
          have s24 : S ≤ 24 := by omega
          obtain ⟨e, he⟩ : ∃ e : Nat, e = 24 - 8 * r := ⟨_, rfl⟩
          have hSe : S.toNat = e := by omega
          have hS' : 24 - 8 * (r : Int) = S := hS.symm
          have lc : wr.cell? ⟨w.heap.size + 1, 1 + d, none⟩ = some (.int .u32 (wd (h.getD d 0#32))) := by rw [rt.cell_any]; exact st_sum hl8.out d d8
          obtain ⟨x, hx⟩ : ∃ x, x = h.getD d 0#32 := ⟨_, rfl⟩
          rw [← hx] at lc
          obtain ⟨z8, hz8⟩ : ∃ z8, z8 = UInt8.ofNat (x.toNat / 2 ^ e) := ⟨_, rfl⟩
          have hb : IntKind.u8.wrap (wd x / 2 ^ e) = bt8 z8 := by rw [hz8, IntKind.wrap_u8']; exact byte_of_wd x e
          have oc : ∃ u, wr.cell? ⟨w.heap.size, k, none⟩ = some (.int .u8 (bt8 u)) := ⟨_, ro.byte k (by simp [Sha.out]; omega)⟩
          obtain ⟨u, oc⟩ := oc
          have of := ro.free k
          have Hd := hid hd
          have Hr := hid hr
          have He := hid he
          have Hx := hid hx
          have Hz8 := hid hz8
          clear ro rt bb hd hr hS he hx hz8
          go_wp2
          go_roundw
          case rel =>
            refine ⟨k + 1, by omega, by go_num, ?_, Rt.out.other (by simp) _, Bb.out.setCell (p := ⟨w.heap.size, k, none⟩) (Nat.le_refl _) _⟩
            have := Ro.out.setByte k z8
            rw [Hz8.out, He.out, Hx.out, Hd.out, Hr.out, Sha.out_step h k h32] at this
            rw [Hz8.out, He.out, Hx.out, Hd.out, Hr.out]
            exact this
          case measure => simp [intOf]; omega
        · obtain rfl : k = 32 := by omega
          have ro2 : HasRow wr w.heap.size (bv (Sha.sum l)) 106 := by
            rw [Sha.sum_state, ← HN.out, ← HT.out, ← HH.out]
            rw [List.take_of_length_le (by simp [Sha.out]), Nat.sub_self, List.replicate_zero, List.append_nil] at ro
            exact ro
          obtain ⟨OUT, hOUT⟩ : ∃ OUT, OUT = Sha.sum l := ⟨_, rfl⟩
          rw [← hOUT] at ro2
          have OL : Hid (OUT.length = 32) := by rw [hOUT]; exact Sha.length_sum l
          have Ro2 := hid ro2
          have Bb := hid bb
          have HO := hid hOUT
          have F1 : Hid (0 + 32 ≤ (bv OUT).length) := by rw [length_bv, OL.out]; exact Nat.le_refl 32
          have F2 : Hid (List.take 32 (List.drop 0 (bv OUT)) = bv OUT) := List.take_of_length_le (by rw [List.drop_zero, length_bv, OL.out]; exact Nat.le_refl 32)
          have F3 : Hid ((Tryd.prog.info? 106).map (·.size) = some (bv OUT).length) := by rw [length_bv, OL.out]; exact (show (Tryd.prog.info? 106).map (·.size) = some 32 by kernel_rfl)
          have F4 : Hid (0 + (bv OUT).length ≤ (bv OUT).length) := by rw [Nat.zero_add]; exact Nat.le_refl _
          clear ro ro2 rt bb hOUT
          go_wp2_with (first
            | (refine wpList_load_part rfl 106 _ rfl w.heap.size 0 32 rfl (bv OUT) _ Ro2.out.tab Tryd.underlying106 rfl (by kernel_rfl) F1.out (bv OUT) F2.out ?_)
            | (refine wpList_store_into rfl 106 _ _ rfl w.heap.size 0 rfl (bv OUT) rfl (bv OUT) 106 Ro2.out F3.out F4.out (one_bv _) ?_; intro w6 h6 g6 s6; rw [splice_all _ _ rfl] at h6; have H6 := hid h6; have G6 := hid g6; clear h6 g6 s6))
          refine bodyPost_ret (v := .agg (bv OUT).toArray) (results_cell_row (ty := 106) (p := 2) rfl _ w6 w.heap.size _ _ _ _ rfl H6.out Tryd.underlying106 rfl (by simpa using F3.out)) rfl ⟨by rw [HO.out], ?_⟩
          exact Bb.out.grown G6.out (by have := Bb.out.size; omega) (by intro k hk; injection hk with hk; omega)

set_option maxRecDepth 100000 in
set_option maxHeartbeats 1000000 in
/-- sha.Sum is the document's sum; nothing that was there is turned -/
theorem sum_any (b : List UInt8) (a : Option Addr) (cap : Nat) (w : World) (no : Nat → Prop) (hb : Bytes w no a cap b) (htab : Tabs w) (h2 : 2 ≤ w.heap.size) (hn : b.length < 1152921504606846000) :
    Calls Tryd.prog 89 #[.slice a b.length cap] w fun e w' => e = .returned (.agg (bv (Sha.sum b)).toArray) ∧ Below w.heap.size w w' := by
  obtain ⟨wa, hwa⟩ : ∃ wa, wa = w.alloc (.cells (bv (List.replicate 32 0)).toArray 106) := ⟨_, rfl⟩
  have bwa : Below w.heap.size w wa := by rw [hwa]; exact (Below.refl _ _).alloc (Nat.le_refl _) _
  have sa : wa.heap.size = w.heap.size + 1 := by rw [hwa]; simp
  have ra : HasRow wa w.heap.size (bv (List.replicate 32 0)) 106 := by rw [hwa]; exact HasRow.new _ _ _
  have Hb := hid ((hb.other (no' := fun x => w.heap.size ≤ x) (fun b hb _ => by omega)).below bwa (fun b hb _ => hb))
  have Htab := hid htab
  have Bwa := hid bwa
  have Ra := hid ra
  have Sa := hid sa
  have Hwa := hid hwa
  have hww : w.alloc (.cells (bv (List.replicate 32 0)).toArray 106) = wa := hwa.symm
  clear hb htab bwa ra sa hwa
  obtain ⟨OUT, hOUT⟩ : ∃ OUT, OUT = Sha.sum b := ⟨_, rfl⟩
  have OL : Hid (OUT.length = 32) := by rw [hOUT]; exact Sha.length_sum b
  rw [← hOUT]
  have HO := hid hOUT
  clear hOUT
  go_enter Tryd.func89, Tryd.ntmps89
  go_wp2_with fail
  refine (new_any _).mono ?_
  rintro e w1 ⟨rfl, hs1, b1, s1⟩
  have B1 : Hid (Below (w.heap.size + 1) wa w1) := by rw [Hwa.out]; exact b1.mono (by simp)
  have S1 : Hid (IsState w1 (w.heap.size + 1) []) := hid (by simpa using hs1)
  have Z1 : Hid (w1.heap.size = w.heap.size + 2) := hid (by rw [s1]; simp)
  have R1 : Hid (HasRow w1 w.heap.size (bv (List.replicate 32 0)) 106) := Ra.out.below B1.out (by omega)
  have BW1 : Hid (Below w.heap.size w w1) := Bwa.out.trans (B1.out.mono (by omega))
  have Hb1 : Hid (Bytes w1 (· = w.heap.size + 1) a cap b) := (Hb.out.below B1.out (fun b hb _ => by rw [Sa.out] at hb; exact hb)).other (fun x _ hn e => hn (by omega))
  clear hs1 b1 s1 hww
  go_wp2_with fail
  refine (write_any (w.heap.size + 1) [] b a cap _ S1.out Hb1.out (Htab.out.below (by omega) BW1.out) (by omega) (by simp; omega)).mono ?_
  rintro e w2 ⟨rfl, hs2, g2⟩
  have S2 : Hid (IsState w2 (w.heap.size + 1) b) := hid (by simpa using hs2)
  have G2 := hid g2
  have BW2 : Hid (Below w.heap.size w w2) := BW1.out.trans (below_of_grownBy g2 (by rw [Z1.out]; omega) (by intro k hk; injection hk with hk; omega))
  have Z2 : Hid (w.heap.size + 2 ≤ w2.heap.size) := by have := g2.size; rw [Z1.out] at this; exact this
  have R2 : Hid (HasRow w2 w.heap.size (bv (List.replicate 32 0)) 106) := R1.out.grown g2 (by intro e; injection e with e; omega)
  clear hs2 g2
  go_wp2_with fail
  refine (stsum_any _ (w.heap.size + 1) b S2.out (Htab.out.below (by omega) BW2.out) (by omega) hn).mono ?_
  rintro e w3 ⟨rfl, b3⟩
  have B3 := hid b3
  have R3 : Hid (HasRow w3 w.heap.size (bv (List.replicate 32 0)) 106) := R2.out.below b3 (by have := Z2.out; omega)
  have BW3 : Hid (Below w.heap.size w w3) := BW2.out.trans (b3.mono (by have := Z2.out; omega))
  rw [← HO.out]
  have F3 : Hid ((Tryd.prog.info? 106).map (·.size) = some (bv OUT).length) := by rw [length_bv, OL.out]; exact (show (Tryd.prog.info? 106).map (·.size) = some 32 by kernel_rfl)
  have F4 : Hid (0 + (bv OUT).length ≤ (bv (List.replicate 32 0)).length) := by rw [length_bv, OL.out]; exact Nat.le_refl 32
  have F5 : Hid ((bv (List.replicate 32 0)).length = (bv OUT).length) := by rw [length_bv OUT, OL.out]; rfl
  clear b3
  go_wp2_with (refine wpList_store_into rfl 106 _ _ rfl w.heap.size 0 rfl (bv OUT) rfl (bv (List.replicate 32 0)) 106 R3.out F3.out F4.out (one_bv _) ?_; intro w6 h6 g6 s6; rw [splice_all _ _ F5.out] at h6; have H6 := hid h6; have G6 := hid g6; clear h6 g6 s6)
  refine bodyPost_ret (v := .agg (bv OUT).toArray) (results_cell_row (ty := 106) (p := 2) rfl _ w6 w.heap.size _ _ _ _ rfl H6.out Tryd.underlying106 rfl (by simpa using F3.out)) rfl ⟨rfl, ?_⟩
  exact BW3.out.grown G6.out BW3.out.size (by intro k hk; injection hk with hk; omega)
end Go.Proofs.YtgiagcopbibneaaDoor
