/- The document's SHA-256 as plain functions over lists of bytes and words of 32 bits; no program in sight. -/
namespace Sha

abbrev W := BitVec 32

def kTab : List W := [
  0x428a2f98#32, 0x71374491#32, 0xb5c0fbcf#32, 0xe9b5dba5#32, 0x3956c25b#32, 0x59f111f1#32, 0x923f82a4#32, 0xab1c5ed5#32,
  0xd807aa98#32, 0x12835b01#32, 0x243185be#32, 0x550c7dc3#32, 0x72be5d74#32, 0x80deb1fe#32, 0x9bdc06a7#32, 0xc19bf174#32,
  0xe49b69c1#32, 0xefbe4786#32, 0x0fc19dc6#32, 0x240ca1cc#32, 0x2de92c6f#32, 0x4a7484aa#32, 0x5cb0a9dc#32, 0x76f988da#32,
  0x983e5152#32, 0xa831c66d#32, 0xb00327c8#32, 0xbf597fc7#32, 0xc6e00bf3#32, 0xd5a79147#32, 0x06ca6351#32, 0x14292967#32,
  0x27b70a85#32, 0x2e1b2138#32, 0x4d2c6dfc#32, 0x53380d13#32, 0x650a7354#32, 0x766a0abb#32, 0x81c2c92e#32, 0x92722c85#32,
  0xa2bfe8a1#32, 0xa81a664b#32, 0xc24b8b70#32, 0xc76c51a3#32, 0xd192e819#32, 0xd6990624#32, 0xf40e3585#32, 0x106aa070#32,
  0x19a4c116#32, 0x1e376c08#32, 0x2748774c#32, 0x34b0bcb5#32, 0x391c0cb3#32, 0x4ed8aa4a#32, 0x5b9cca4f#32, 0x682e6ff3#32,
  0x748f82ee#32, 0x78a5636f#32, 0x84c87814#32, 0x8cc70208#32, 0x90befffa#32, 0xa4506ceb#32, 0xbef9a3f7#32, 0xc67178f2#32]

def hTab : List W := [0x6a09e667#32, 0xbb67ae85#32, 0x3c6ef372#32, 0xa54ff53a#32, 0x510e527f#32, 0x9b05688c#32, 0x1f83d9ab#32, 0x5be0cd19#32]

/-- bits go round to the right -/
def ror (x : W) (n : Nat) : W := x >>> n ||| x <<< (32 - n)

def low (x : W) : W := ror x 7 ^^^ ror x 18 ^^^ x >>> 3
def high (y : W) : W := ror y 17 ^^^ ror y 19 ^^^ y >>> 10

def b2w (c : UInt8) : W := BitVec.ofNat 32 c.toNat

/-- four bytes from a place on, the highest first -/
def word (b : List UInt8) (i : Nat) : W :=
  ((b2w (b.getD i 0) <<< 8 ||| b2w (b.getD (i + 1) 0)) <<< 8 ||| b2w (b.getD (i + 2) 0)) <<< 8 ||| b2w (b.getD (i + 3) 0)

def next (b : List UInt8) (l : List W) : W :=
  if l.length < 16 then word b (4 * l.length)
  else l.getD (l.length - 16) 0 + low (l.getD (l.length - 15) 0) + l.getD (l.length - 7) 0 + high (l.getD (l.length - 2) 0)

/-- the first t words of a block -/
def ws (b : List UInt8) : Nat → List W
  | 0 => []
  | t + 1 => ws b t ++ [next b (ws b t)]

theorem length_ws (b : List UInt8) (t : Nat) : (ws b t).length = t := by
  induction t with
  | zero => rfl
  | succ t ih => simp [ws, ih]

structure St where
  (a b c d e f g h : W)

def pOf (s : St) (k w : W) : W := s.h + (ror s.e 6 ^^^ ror s.e 11 ^^^ ror s.e 25) + (s.e &&& s.f ||| ~~~s.e &&& s.g) + k + w
def qOf (s : St) : W := (ror s.a 2 ^^^ ror s.a 13 ^^^ ror s.a 22) + (s.a &&& s.b ||| s.c &&& (s.a ||| s.b))

def round (s : St) (k w : W) : St := ⟨pOf s k w + qOf s, s.a, s.b, s.c, s.d + pOf s k w, s.e, s.f, s.g⟩

def ofList (l : List W) : St := ⟨l.getD 0 0, l.getD 1 0, l.getD 2 0, l.getD 3 0, l.getD 4 0, l.getD 5 0, l.getD 6 0, l.getD 7 0⟩
def St.list (s : St) : List W := [s.a, s.b, s.c, s.d, s.e, s.f, s.g, s.h]

/-- t rounds over the words w -/
def rounds (w : List W) (s : St) : Nat → St
  | 0 => s
  | t + 1 => round (rounds w s t) (kTab.getD t 0) (w.getD t 0)

/-- a block of 64 bytes is taken -/
def take (h : List W) (b : List UInt8) : List W := List.zipWith (· + ·) h (rounds (ws b 64) (ofList h) 64).list

theorem length_take (h : List W) (b : List UInt8) (hh : h.length = 8) : (take h b).length = 8 := by simp [take, St.list, hh]

/-- the sums behind n whole blocks -/
def blocks (l : List UInt8) : Nat → List W
  | 0 => hTab
  | n + 1 => take (blocks l n) ((l.drop (64 * n)).take 64)

theorem length_blocks (l : List UInt8) (n : Nat) : (blocks l n).length = 8 := by
  cases n with
  | zero => rfl
  | succ n => exact length_take _ _ (length_blocks l n)

/-- eight bytes of a number, the highest first -/
def be8 (n : Nat) : List UInt8 := (List.range 8).map fun i => UInt8.ofNat (n / 2 ^ (8 * (7 - i)))

/-- the tail that pads n bytes -/
def tail (n : Nat) : List UInt8 := 0x80 :: (List.replicate ((119 - n % 64) % 64) 0 ++ be8 (8 * n % 2 ^ 64))

theorem length_tail (n : Nat) : (tail n).length = 9 + (119 - n % 64) % 64 := by simp [tail, be8]; omega
theorem whole_tail (n : Nat) : (n + (tail n).length) % 64 = 0 := by rw [length_tail]; omega

def out (h : List W) : List UInt8 := (List.range 32).map fun i => UInt8.ofNat ((h.getD (i / 4) 0#32).toNat / 2 ^ (24 - 8 * (i % 4)))

/-- the sum -/
def sum (l : List UInt8) : List UInt8 := out (blocks (l ++ tail l.length) ((l.length + (tail l.length).length) / 64))

theorem length_sum (l : List UInt8) : (sum l).length = 32 := by simp [sum, out]

/-- what stands in the sums of a state of l: the noughts, till a block is whole -/
def sums (l : List UInt8) : List W := if l.length < 64 then List.replicate 8 0 else blocks l (l.length / 64)

theorem blocks_append (l r : List UInt8) (n : Nat) (h : 64 * n ≤ l.length) : blocks (l ++ r) n = blocks l n := by
  induction n with
  | zero => rfl
  | succ n ih =>
    simp only [blocks]
    rw [ih (by omega)]
    congr 1
    rw [List.drop_append_of_le_length (by omega), List.take_append_of_le_length (by simp; omega)]

/-- the first k bytes of a word -/
def acc (b : List UInt8) (i : Nat) : Nat → W
  | 0 => 0#32
  | k + 1 => acc b i k <<< 8 ||| b2w (b.getD (i + k) 0)
theorem acc4 (b : List UInt8) (i : Nat) : acc b i 4 = word b i := by simp [acc, word]

/-- the words of a block, as they stand while they are made -/
def wrow (b : List UInt8) (t : Nat) : List W := ws b t ++ List.replicate (64 - t) 0#32
theorem length_wrow (b : List UInt8) (t : Nat) (h : t ≤ 64) : (wrow b t).length = 64 := by simp [wrow, length_ws]; omega
theorem wrow_get (b : List UInt8) (t j : Nat) (h : j < t) : (wrow b t).getD j 0#32 = (ws b t).getD j 0#32 := by
  simp only [wrow, List.getD_eq_getElem?_getD]
  rw [List.getElem?_append_left (by rw [length_ws]; exact h)]
theorem wrow_at (b : List UInt8) (t : Nat) : (wrow b t).getD t 0#32 = 0#32 := by
  simp only [wrow, List.getD_eq_getElem?_getD]
  rw [List.getElem?_append_right (by rw [length_ws]; exact Nat.le_refl _), length_ws, Nat.sub_self]
  cases h : 64 - t with
  | zero => rfl
  | succ n => simp [List.replicate_succ]
theorem wrow_set (b : List UInt8) (t : Nat) (h : t < 64) (x : W) : (wrow b t).set t x = ws b t ++ x :: List.replicate (64 - (t + 1)) 0#32 := by
  have e : 64 - t = (64 - (t + 1)) + 1 := by omega
  rw [wrow, e, List.replicate_succ]
  have := List.set_append_right (s := ws b t) (t := 0#32 :: List.replicate (64 - (t + 1)) 0#32) t x (by rw [length_ws]; exact Nat.le_refl _)
  rw [this, length_ws, Nat.sub_self]
  rfl
theorem wrow_same (b : List UInt8) (t : Nat) (h : t < 64) : (wrow b t).set t 0#32 = wrow b t := by
  rw [wrow_set b t h, wrow]
  have e : 64 - t = (64 - (t + 1)) + 1 := by omega
  rw [e, List.replicate_succ]
theorem wrow_next (b : List UInt8) (t : Nat) (h : t < 64) : (wrow b t).set t (next b (ws b t)) = wrow b (t + 1) := by
  rw [wrow_set b t h, wrow, ws]
  simp
theorem next_lt (b : List UInt8) (t : Nat) (h : t < 16) : next b (ws b t) = word b (4 * t) := by
  simp [next, length_ws, h]
theorem next_ge (b : List UInt8) (t : Nat) (h : 16 ≤ t) :
    next b (ws b t) = (wrow b t).getD (t - 16) 0#32 + low ((wrow b t).getD (t - 15) 0#32) + (wrow b t).getD (t - 7) 0#32 + high ((wrow b t).getD (t - 2) 0#32) := by
  rw [wrow_get b t _ (by omega), wrow_get b t _ (by omega), wrow_get b t _ (by omega), wrow_get b t _ (by omega)]
  have : ¬ t < 16 := by omega
  simp [next, length_ws, this]
theorem wrow_64 (b : List UInt8) : wrow b 64 = ws b 64 := by simp [wrow]

/-- the sums while the rounds' end is added to them -/
def upd (h l : List W) (i : Nat) : List W := (List.zipWith (· + ·) h l).take i ++ h.drop i
theorem upd_zero (h l : List W) : upd h l 0 = h := by simp [upd]
theorem length_upd (h l : List W) (hh : h.length = 8) (hl : l.length = 8) (i : Nat) (hi : i ≤ 8) : (upd h l i).length = 8 := by simp [upd, hh, hl]; omega
theorem upd_at (h l : List W) (hh : h.length = 8) (hl : l.length = 8) (i : Nat) (hi : i < 8) : (upd h l i).getD i 0#32 = h.getD i 0#32 := by
  simp only [upd, List.getD_eq_getElem?_getD]
  rw [List.getElem?_append_right (by simp [hh, hl]; omega)]
  simp [hh, hl, Nat.min_eq_left (Nat.le_of_lt hi)]
theorem upd_set (h l : List W) (hh : h.length = 8) (hl : l.length = 8) (i : Nat) (hi : i < 8) : (upd h l i).set i (h.getD i 0#32 + l.getD i 0#32) = upd h l (i + 1) := by
  have hz : i < (List.zipWith (· + ·) h l).length := by simp [hh, hl]; omega
  have e : h.drop i = h[i] :: h.drop (i + 1) := List.drop_eq_getElem_cons (by omega)
  simp only [upd]
  rw [e, List.set_append_right (h := by simp [hh, hl]; omega), List.take_succ_eq_append_getElem hz]
  have hm : ((List.zipWith (· + ·) h l).take i).length = i := by simp [hh, hl]; omega
  rw [hm, Nat.sub_self, List.set_cons_zero, List.append_assoc]
  simp [List.getD_eq_getElem?_getD, List.getElem?_eq_getElem (show i < h.length by omega), List.getElem?_eq_getElem (show i < l.length by omega)]
theorem upd_8 (h l : List W) (hh : h.length = 8) (hl : l.length = 8) : upd h l 8 = List.zipWith (· + ·) h l := by
  simp only [upd]
  rw [List.take_of_length_le (by simp [hh, hl]), List.drop_of_length_le (by omega), List.append_nil]
theorem length_list (s : St) : s.list.length = 8 := rfl

/-- the sums from which a block goes on -/
def start (bg : Bool) (h : List W) : List W := if bg then h else hTab
theorem length_start (bg : Bool) (h : List W) (hh : h.length = 8) : (start bg h).length = 8 := by cases bg <;> simp [start, hh, hTab]

/-- 'cs' laid over 'L' from place 'off' on -/
def lay {α : Type} (L : List α) (off : Nat) (cs : List α) : List α := L.take off ++ (cs ++ L.drop (off + cs.length))
theorem length_lay {α : Type} (L : List α) (off : Nat) (cs : List α) (h : off + cs.length ≤ L.length) : (lay L off cs).length = L.length := by simp [lay]; omega

/-- what the block of a state of l has at its head -/
def Tail (blk l : List UInt8) : Prop := blk.length = 64 ∧ blk.take (l.length % 64) = l.drop (64 * (l.length / 64))

theorem tail_part {blk l c : List UInt8} (h : Tail blk l) (hc : l.length % 64 + c.length < 64) : Tail (lay blk (l.length % 64) c) (l ++ c) := by
  obtain ⟨h1, h2⟩ := h
  refine ⟨by rw [length_lay _ _ _ (by omega), h1], ?_⟩
  have e1 : (l ++ c).length % 64 = l.length % 64 + c.length := by simp; omega
  have e2 : (l ++ c).length / 64 = l.length / 64 := by simp; omega
  rw [e1, e2, List.drop_append_of_le_length (by omega), ← h2, lay]
  have e3 : (blk.take (l.length % 64)).length = l.length % 64 := by simp; omega
  rw [List.take_append, e3, List.take_of_length_le (by omega)]
  congr 1
  rw [show l.length % 64 + c.length - l.length % 64 = c.length by omega, List.take_left]

theorem block_full {blk l c : List UInt8} (h : Tail blk l) (hc : l.length % 64 + c.length = 64) : lay blk (l.length % 64) c = ((l ++ c).drop (64 * (l.length / 64))).take 64 := by
  obtain ⟨h1, h2⟩ := h
  rw [List.drop_append_of_le_length (by omega), ← h2, lay, hc, List.drop_of_length_le (by omega), List.append_nil, List.take_of_length_le (l := blk.take (l.length % 64) ++ c)]
  rw [List.length_append, List.length_take]; omega

theorem sums_full {blk l c : List UInt8} (h : Tail blk l) (hc : l.length % 64 + c.length = 64) :
    take (start (decide (64 ≤ l.length)) (sums l)) (lay blk (l.length % 64) c) = sums (l ++ c) := by
  have e1 : (l ++ c).length / 64 = l.length / 64 + 1 := by simp; omega
  have e2 : ¬ (l ++ c).length < 64 := by simp; omega
  rw [show sums (l ++ c) = blocks (l ++ c) (l.length / 64 + 1) by rw [sums, if_neg e2, e1], blocks, block_full h hc]
  congr 1
  rw [blocks_append l c _ (by omega), start, sums]
  by_cases h64 : 64 ≤ l.length
  · rw [if_pos (by simpa using h64), if_neg (by omega)]
  · rw [if_neg (by simpa using h64)]
    have : l.length / 64 = 0 := by omega
    rw [this, blocks]
theorem sums_part {l c : List UInt8} (hc : l.length % 64 + c.length < 64) : sums (l ++ c) = sums l := by
  have e1 : (l ++ c).length / 64 = l.length / 64 := by simp; omega
  by_cases h : l.length < 64
  · rw [sums, sums, if_pos (by simp; omega), if_pos h]
  · rw [sums, sums, if_neg (by simp; omega), if_neg h, e1, blocks_append l c _ (by omega)]
theorem length_sums (l : List UInt8) : (sums l).length = 8 := by
  rw [sums]; split
  · simp
  · exact length_blocks _ _
theorem tail_full {l c : List UInt8} (b : List UInt8) (hb : b.length = 64) (hc : l.length % 64 + c.length = 64) : Tail b (l ++ c) := by
  refine ⟨hb, ?_⟩
  have e1 : (l ++ c).length % 64 = 0 := by simp; omega
  rw [e1, List.take_zero, List.drop_of_length_le (by omega)]

theorem length_be8 (n : Nat) : (be8 n).length = 8 := rfl
theorem be8_at (n i : Nat) (h : i < 8) : (be8 n).getD i 0 = UInt8.ofNat (n / 2 ^ (56 - 8 * i)) := by
  simp [be8, List.getD_eq_getElem?_getD, h, show 8 * (7 - i) = 56 - 8 * i by omega]
theorem tail_eq (n : Nat) (h : n < 1152921504606846976) : tail n = (0x80 :: List.replicate ((119 - n % 64) % 64) 0) ++ be8 (8 * n) := by
  have e : 8 * n % 2 ^ 64 = 8 * n := Nat.mod_eq_of_lt (by omega)
  rw [tail, e]; rfl
theorem be8_take (n i : Nat) (h : i < 8) : (be8 n).take i ++ [(be8 n).getD i 0] = (be8 n).take (i + 1) := by
  have hl := length_be8 n
  rw [List.take_succ_eq_append_getElem (by omega)]
  simp [List.getD_eq_getElem?_getD, List.getElem?_eq_getElem (show i < (be8 n).length by omega)]
theorem sum_state (l : List UInt8) : sum l = out (sums (l ++ tail l.length)) := by
  have h := length_tail l.length
  have hw := whole_tail l.length
  rw [sum, sums, if_neg (by simp; omega)]
  simp
theorem out_take (h : List W) (i : Nat) (hi : i < 32) : (out h).take i ++ UInt8.ofNat ((h.getD (i / 4) 0#32).toNat / 2 ^ (24 - 8 * (i % 4))) :: List.replicate (31 - i) 0 = ((out h).take i ++ List.replicate (32 - i) 0).set i (UInt8.ofNat ((h.getD (i / 4) 0#32).toNat / 2 ^ (24 - 8 * (i % 4)))) := by
  have hl : (out h).length = 32 := by simp [out]
  have hm : ((out h).take i).length = i := by simp [hl]; omega
  rw [List.set_append_right (h := by omega), hm, Nat.sub_self, show 32 - i = (31 - i) + 1 by omega, List.replicate_succ, List.set_cons_zero]
theorem out_step (h : List W) (i : Nat) (hi : i < 32) : ((out h).take i ++ List.replicate (32 - i) 0).set i (UInt8.ofNat ((h.getD (i / 4) 0#32).toNat / 2 ^ (24 - 8 * (i % 4)))) = (out h).take (i + 1) ++ List.replicate (32 - (i + 1)) 0 := by
  have hl : (out h).length = 32 := by simp [out]
  rw [← out_take h i hi, List.take_succ_eq_append_getElem (by omega), List.append_assoc]
  congr 1
  simp [out, show 32 - (i + 1) = 31 - i by omega]

end Sha
