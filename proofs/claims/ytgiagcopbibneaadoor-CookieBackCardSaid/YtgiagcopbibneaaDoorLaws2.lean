/- More laws for the walk, their new worlds told by facts alone. -/
import Derived.Test.YtgiagcopbibneaaDoorLaws
import Derived.Laws.MakeOwn
namespace Go
open Sha (W)

theorem toList_madeCells (z : Value) (n : Nat) : (madeCells #[z] n).toList = List.replicate n z := by
  apply List.ext_getElem
  · simp [madeCells]
  · intro i h1 h2
    simp [madeCells, Nat.mod_one]

section
variable {P : Program}
/-- make([]T, l, c) of one-cell elements -/
theorem wpList_make_row {ops : Array Oper} {rest : List Oper} {o : Oper} {a : Act} {w : World} {Q : Exit → Act → World → Prop} (hgd : o.guard = none) (t : TypeId) (x y : Operand) (ho : o.op = .makeSlice t x y)
    (e : TypeId) (i : TypeInfo) (z : Value) (ht : P.underlying t = some (.slice e)) (hi : P.info? e = some i) (hz : i.zero = some z) (hs : i.size = 1) (hzc : z.cells = #[z])
    (kl kc : IntKind) (l c : Nat) (hx : a.eval x = .int kl (l : Int)) (hy : a.eval y = .int kc (c : Int)) (hlc : l ≤ c) (hb : i.bytes * c ≤ 281474976710656) (h63 : c ≤ 9223372036854775807)
    (h : ∀ w', HasRow w' w.heap.size (List.replicate c z) e → RowKit.Below w.heap.size w w' → w'.heap.size = w.heap.size + 1 → wpList P ops Q rest (a.put o.dst (.slice (some ⟨w.heap.size, 0, none⟩) l c)) w') : wpList P ops Q (o :: rest) a w :=
  wpList_plain hgd fun _ hK => by
    have hb' : (i.bytes : Int) * (c : Int) ≤ 281474976710656 := by
      have h : ((i.bytes * c : Nat) : Int) ≤ 281474976710656 := by omega
      rwa [Int.natCast_mul] at h
    have hr := run_make (P := P) w t e i z ht hi hz kl kc (l : Int) (c : Int) (by omega) (by omega) hb' (by omega)
    simp only [Int.toNat_natCast, hs, Nat.mul_one, hzc] at hr
    unfold Oper.wp execOp
    simp [ho, hx, hy, hr]
    refine hK _ _ (h _ ?_ ((RowKit.Below.refl _ _).alloc (Nat.le_refl _) _) (by simp))
    have : madeCells #[z] c = (List.replicate c z).toArray := by rw [← toList_madeCells]
    rw [this]
    exact HasRow.new _ _ _

/-- a whole array or struct is laid into a block's part -/
theorem wpList_store_into {ops : Array Oper} {rest : List Oper} {o : Oper} {a : Act} {w : World} {Q : Exit → Act → World → Prop} (hgd : o.guard = none) (ty : TypeId) (x y : Operand) (ho : o.op = .store ty x y)
    (g off : Nat) (hx : a.eval x = .pointer (some ⟨g, off, none⟩)) (cs : List Value) (hy : a.eval y = .agg cs.toArray) (l : List Value) (T : TypeId) (hg : HasRow w g l T)
    (hi : (P.info? ty).map (·.size) = some cs.length) (hfit : off + cs.length ≤ l.length) (h1 : ∀ v ∈ cs, v.oneCell' = true)
    (h : ∀ w', HasRow w' g (splice l off cs) T → w.grownBy w' (some g) → w'.heap.size = w.heap.size → wpList P ops Q rest (a.put o.dst undef) w') : wpList P ops Q (o :: rest) a w :=
  wpList_store_part hgd ty x y ho g off hx cs hy l T hg hi hfit h1 (h _ (HasRow.setRow hg _) (grownBy_setRow _ _ _) (by simp))
end

theorem splice_all (l cs : List Value) (h : l.length = cs.length) : splice l 0 cs = cs := by
  simp [splice, ← h]
theorem one_st (bg : Bool) (sums : List W) (blk : List UInt8) (n : Int) : ∀ v ∈ stCells bg sums blk n, v.oneCell' = true := by
  intro v hv
  simp only [stCells, List.mem_cons, List.mem_append, List.not_mem_nil, or_false] at hv
  rcases hv with rfl | hv | hv | rfl
  · rfl
  · exact one_wv _ v hv
  · exact one_bv _ v hv
  · rfl

/-- append(s, x...) on a row of bytes of the call's own -/
theorem wpList_append_bytes {P : Program} {ops : Array Oper} {rest : List Oper} {o : Oper} {a : Act} {w : World} {Q : Exit → Act → World → Prop} (hgd : o.guard = none) (s x : Operand) (t : TypeId)
    (ho : o.op = .call { callee := .builtin .append, args := #[s, x], argTypes := #[t, t] })
    (base : Nat) (e : TypeId) (i : TypeInfo) (ht : P.underlying t = some (.slice e)) (hi : P.info? e = some i) (hz : i.zero = some (.int .u8 0)) (hsize : i.size = 1) (hby : i.bytes = 1)
    (v : Value) (n : Nat) (l : List UInt8) (hs : a.eval s = v) (hown : w.ownsRow base e 1 v n (bv l))
    (ad : Addr) (m c : Nat) (news : List UInt8) (hx : a.eval x = .slice (some ad) m c) (hl : news.length = m) (hnews : ∀ j, j < m → w.cell? (ad.add j) = some (.int .u8 (bt8 (news.getD j 0))))
    (hn : n + m ≤ 1152921504606) (hbase : base ≤ w.heap.size)
    (h : ∀ v' w', w'.ownsRow base e 1 v' (n + m) (bv (l ++ news)) → w.grownBy w' v.ownBlock → wpList P ops Q rest (a.put o.dst v') w') : wpList P ops Q (o :: rest) a w := by
  refine wpList_append_own w hgd s x t ho base e i (.int .u8 0) 1 1 ht hi hz hsize hby rfl (by decide) v n (bv l) hs hown ad m c (bv news) hx (by simp [hl]) ?_ (one_bv _) (by unfold maxLen; omega) (by omega) hbase ?_
  · intro j u hu
    have hj : j < news.length := by have := (List.getElem?_eq_some_iff.1 hu).1; simpa using this
    rw [hnews j (by omega), ← hu]
    simp [bv, List.getD_eq_getElem?_getD, List.getElem?_eq_getElem hj]
  · intro v' w' h1 h2 _
    exact h v' w' (by simpa [bv] using h1) h2

theorem owns_of_row {w : World} {g : Nat} {l : List Value} {T : TypeId} (h : HasRow w g l T) {base n cap : Nat} {xs : List Value} (hb : base ≤ g) (hn : n ≤ cap) (hc : cap ≤ maxLen) (hl : l.length = cap) (hx : l.take n = xs) :
    w.ownsRow base T 1 (.slice (some ⟨g, 0, none⟩) n cap) n xs := by
  refine ⟨by rw [← hx]; simp; omega, .inr ⟨g, cap, l.toArray, rfl, hb, h, hn, hc, by simp [hl], by simpa using hx⟩⟩
theorem new_byte (w : World) (x : UInt8) (T : TypeId) : ∀ j, j < 1 → (w.alloc (.cells #[.int .u8 (bt8 x)] T)).cell? ((⟨w.heap.size, 0, none⟩ : Addr).add j) = some (.int .u8 (bt8 ([x].getD j 0))) := by
  intro j hj
  obtain rfl : j = 0 := by omega
  exact (HasRow.new w [.int .u8 (bt8 x)] T).cell_any 0
end Go
