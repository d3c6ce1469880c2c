/- The contracts of fairleadref00.CopyBytes and of the law's long. -/
import Derived.Test.YtgiagcopbibneaaDoorFrame
namespace Go.Proofs.YtgiagcopbibneaaDoor
open Go.RowKit
open Sha (W)

/-- a row of bytes of the call's own is handed back -/
def OwnBytes (w : World) (l : List UInt8) (e : Ending) (w' : World) : Prop := ∃ v, e = .returned v ∧ w'.ownsRow w.heap.size 5 1 v l.length (bv l) ∧ Below w.heap.size w w'

theorem fill_step {α : Type} (l : List α) (d z : α) (k n : Nat) (hn : l.length = n) (hk : k < n) : (l.take k ++ List.replicate (n - k) z).set k (l.getD k d) = l.take (k + 1) ++ List.replicate (n - (k + 1)) z := by
  have hm : (l.take k).length = k := by simp; omega
  rw [List.set_append_right (h := by omega), hm, Nat.sub_self, show n - k = (n - (k + 1)) + 1 by omega, List.replicate_succ, List.set_cons_zero]
  rw [List.take_succ_eq_append_getElem (by omega), List.append_assoc]
  simp [List.getD_eq_getElem?_getD, List.getElem?_eq_getElem (show k < l.length by omega)]

set_option maxRecDepth 100000 in
set_option maxHeartbeats 1000000 in
theorem copy_any (w : World) (no : Nat → Prop) (l : List UInt8) (a : Option Addr) (cap : Nat) (hb : Bytes w no a cap l) (hn : l.length < 1152921504606) :
    Calls Tryd.prog 106 #[.slice a l.length cap] w (OwnBytes w l) := by
  have Hb := hid hb
  clear hb
  obtain ⟨n, hnl⟩ : ∃ n, n = l.length := ⟨_, rfl⟩
  have Hn := hid hnl
  rw [← hnl] at hn ⊢
  clear hnl
  by_cases h0 : n = 0
  · subst h0
    go_enter Tryd.func106, Tryd.ntmps106
    go_wp2
    go_ret
    have hl : l = [] := List.eq_nil_of_length_eq_zero Hn.out.symm
    subst hl
    exact ⟨_, rfl, World.ownsRow_nil _ _ _ _, Below.refl _ _⟩
  · obtain ⟨b, off, ha, _, hlt, hc⟩ := Hb.out.2.2 (by intro e; have := Hn.out; rw [e] at this; exact h0 this)
    subst ha
    have Hc := hid hc
    obtain ⟨i0, hi, hz0, hz1, hz2⟩ := info_parts info_u8
    have Hi := hid hi
    have Hz0 := hid hz0
    have Hz1 := hid hz1
    have Hz2 := hid hz2
    have e0 : ((n : Int) == 0) = false := by simp; omega
    have n0 : 0 < n := by omega
    clear hc hi hz0 hz1 hz2 h0
    go_enter Tryd.func106, Tryd.ntmps106
    go_wp2_with (refine wpList_make_row rfl 29 _ _ rfl 5 i0 (.int .u8 0) Tryd.underlying29 Hi.out Hz0.out Hz1.out rfl .i64 .i64 n n rfl rfl (Nat.le_refl _) (by rw [Hz2.out]; omega) (by omega) ?_; intro w3 h3 b3 s3; have H3 := hid h3; have B3 := hid b3; have S3 := hid s3; clear h3 b3 s3)
    go_loopw [4] (fun i wr => ∃ k : Nat, k ≤ n ∧ i = .int .i64 (k : Int) ∧ HasRow wr w.heap.size (bv (l.take k ++ List.replicate (n - k) 0)) 5 ∧ Below w.heap.size w wr) (fun i _ => n - (intOf i).toNat)
    case atStart => exact ⟨0, by omega, rfl, by have := H3.out; simp [bv]; exact this, B3.out⟩
    case round =>
      obtain ⟨k, hk, rfl, ro, bb⟩ := hrel
      have Ro := hid ro
      have Bb := hid bb
      by_cases hkn : k < n
      · have c1 : wr.cell? ⟨b, off + k, none⟩ = some (.int .u8 (bt8 (l.getD k 0))) := (bb.cell (by exact hlt)).trans (Hc.out k (by have := Hn.out; omega))
        obtain ⟨u, c2⟩ : ∃ u, wr.cell? ⟨w.heap.size, k, none⟩ = some (.int .u8 (bt8 u)) := ⟨_, ro.byte k (by simp; have := Hn.out; omega)⟩
        have c3 := ro.free k
        obtain ⟨x, hx⟩ : ∃ x, x = l.getD k 0 := ⟨_, rfl⟩
        rw [← hx] at c1
        have Hx := hid hx
        clear ro bb hx
        go_wp2
        go_roundw
        case rel =>
          refine ⟨k + 1, by omega, by go_num, ?_, Bb.out.setCell (p := ⟨w.heap.size, k, none⟩) (Nat.le_refl _) _⟩
          have := Ro.out.setByte k x
          rw [Hx.out, fill_step l 0 0 k n Hn.out.symm hkn] at this
          rw [Hx.out]
          exact this
        case measure => simp [intOf]; omega
      · obtain rfl : k = n := by omega
        clear ro bb
        go_wp2
        go_ret
        refine ⟨_, rfl, ?_, Bb.out⟩
        have h := Ro.out
        rw [Nat.sub_self, List.replicate_zero, List.append_nil, List.take_of_length_le (by have := Hn.out; omega)] at h
        rw [← Hn.out]
        exact owns_of_row h (Nat.le_refl _) (Nat.le_refl _) (by unfold maxLen; omega) (by simp; exact Hn.out.symm) (List.take_of_length_le (by simp; have := Hn.out; omega))

/-- more than a law writes? -/
def longB (ls : List (List UInt8)) : Bool := decide (50 < ls.length) || ls.any fun l => decide (1024 < l.length)
theorem longB_false {ls : List (List UInt8)} (h : longB ls = false) : ls.length ≤ 50 ∧ ∀ k, (ls.getD k []).length ≤ 1024 := by
  simp [longB] at h
  refine ⟨by omega, fun k => ?_⟩
  by_cases hk : k < ls.length
  · have := h.2 ls[k] (List.getElem_mem hk)
    simpa [List.getD_eq_getElem?_getD, List.getElem?_eq_getElem hk] using this
  · simp [List.getD_eq_getElem?_getD, List.getElem?_eq_none (Nat.le_of_not_lt hk)]

/-- the contracts once more, a length told by its number -/
theorem write_len (s : Nat) (l b : List UInt8) (n : Nat) (hbn : b.length = n) (a : Option Addr) (cap : Nat) (w : World) (hst : IsState w s l) (hb : Bytes w (· = s) a cap b) (htab : Tabs w) (hs : 2 ≤ s) (hn : l.length + n < 1152921504606846976) :
    Calls Tryd.prog 92 #[.pointer (some ⟨s, 0, none⟩), .slice a n cap] w fun e w' => e = .returned (.tuple #[]) ∧ IsState w' s (l ++ b) ∧ w.grownBy w' (some s) := by
  subst hbn; exact write_any s l b a cap w hst hb htab hs hn
theorem sum_len (b : List UInt8) (n : Nat) (hbn : b.length = n) (a : Option Addr) (cap : Nat) (w : World) (no : Nat → Prop) (hb : Bytes w no a cap b) (htab : Tabs w) (h2 : 2 ≤ w.heap.size) (hn : n < 1152921504606846000) :
    Calls Tryd.prog 89 #[.slice a n cap] w fun e w' => e = .returned (.agg (bv (Sha.sum b)).toArray) ∧ Below w.heap.size w w' := by
  subst hbn; exact sum_any b a cap w no hb htab h2 hn
theorem Bytes.piece {w : World} {no : Nat → Prop} {b off cap : Nat} {l : List UInt8} (h : Bytes w no (some ⟨b, off, none⟩) cap l) (k m : Nat) (hk : k + m ≤ l.length) (hc : k < cap) :
    Bytes w no (some ⟨b, off + k, none⟩) (cap - k) ((l.drop k).take m) := by
  have := (h.drop k (by omega) hc).take m
  simpa [addr_add] using this
theorem copy_len (w : World) (no : Nat → Prop) (l : List UInt8) (n : Nat) (hl : l.length = n) (a : Option Addr) (cap : Nat) (hb : Bytes w no a cap l) (hn : n < 1152921504606) :
    Calls Tryd.prog 106 #[.slice a n cap] w (OwnBytes w l) := by subst hl; exact copy_any w no l a cap hb hn
end Go.Proofs.YtgiagcopbibneaaDoor
