/-
  A part read by the document: ref20.read: the walk.
-/
import Derived.Test.YtapbljaohhcpoaaDoorRefRead
import Derived.Test.YtapbljaohhcpoaaDoorRead
namespace Go.Proofs.YtapbljaohhcpoaaDoor
set_option linter.unusedVariables false
set_option linter.unusedSimpArgs false
open Go.RowKit PT

theorem fnd_zero (l t : List UInt8) : fnd l t 0 = Lib.index l t := by
  unfold fnd
  rw [List.drop_zero]
  split
  · rename_i h; rw [h]
  · simp
/-- a part's reading on its way: the blocks of the result (b0), of the entry (e) -/
structure RR (w : World) (b0 e : Nat) (W : World) (x0 x1 x2 x3 x4 : Value) : Prop where
  bel : Below w.heap.size w W
  res : W.heap[b0]? = some (.cells #[.string ⟨#[]⟩, .string ⟨#[]⟩, .bool false, .string ⟨#[]⟩, .string ⟨#[]⟩] 50 (0, 0))
  ent : W.heap[e]? = some (.cells #[x0, x1, x2, x3, x4] 50 (0, 0))
  o1 : w.heap.size ≤ b0
  o2 : b0 < e
theorem RR.kept {w : World} {b0 e : Nat} {W W' : World} {x0 x1 x2 x3 x4 : Value} (h : RR w b0 e W x0 x1 x2 x3 x4) (hb : Below W.heap.size W W') : RR w b0 e W' x0 x1 x2 x3 x4 :=
  ⟨h.bel.trans (hb.mono h.bel.size), blk_kept hb h.res, blk_kept hb h.ent, h.o1, h.o2⟩
theorem RR.setE {w : World} {b0 e : Nat} {W : World} {x0 x1 x2 x3 x4 y0 y1 y2 y3 y4 : Value} (i : Nat) (u : Value) (h : RR w b0 e W x0 x1 x2 x3 x4)
    (hy : (#[x0, x1, x2, x3, x4] : Array Value).setIfInBounds i u = #[y0, y1, y2, y3, y4]) : RR w b0 e (W.setCell ⟨e, i, none⟩ u) y0 y1 y2 y3 y4 := by
  have h1 := h.o1
  have h2 := h.o2
  refine ⟨h.bel.setCell (p := ⟨e, i, none⟩) (by show w.heap.size ≤ e; omega) u, ?_, ?_, h1, h2⟩
  · rw [heap_setCell_other W ⟨e, i, none⟩ b0 u (by show b0 ≠ e; omega)]; exact h.res
  · rw [setCell_heap u h.ent, hy]
theorem RR.drew {w : World} {b0 e : Nat} {W : World} {x0 x1 x2 x3 x4 : Value} (h : RR w b0 e W x0 x1 x2 x3 x4) : RR w b0 e W.drew x0 x1 x2 x3 x4 := h.kept ⟨rfl, rfl, rfl, Nat.le_refl _, fun _ _ => rfl⟩
def RRf (b0 e : Nat) (W : World) (x0 x1 x2 x3 x4 : Value) : Prop :=
  (W.cell? ⟨e, 0, none⟩ = some x0 ∧ W.cell? ⟨e, 1, none⟩ = some x1 ∧ W.cell? ⟨e, 2, none⟩ = some x2 ∧ W.cell? ⟨e, 3, none⟩ = some x3 ∧ W.cell? ⟨e, 4, none⟩ = some x4 ∧
    W.frozen? ⟨e, 0, none⟩ = false ∧ W.frozen? ⟨e, 1, none⟩ = false ∧ W.frozen? ⟨e, 2, none⟩ = false ∧ W.frozen? ⟨e, 3, none⟩ = false ∧ W.frozen? ⟨e, 4, none⟩ = false) ∧
  (W.cell? ⟨b0, 0, none⟩ = some (.string ⟨#[]⟩) ∧ W.cell? ⟨b0, 1, none⟩ = some (.string ⟨#[]⟩) ∧ W.cell? ⟨b0, 2, none⟩ = some (.bool false) ∧ W.cell? ⟨b0, 3, none⟩ = some (.string ⟨#[]⟩) ∧ W.cell? ⟨b0, 4, none⟩ = some (.string ⟨#[]⟩) ∧
    W.frozen? ⟨b0, 0, none⟩ = false ∧ W.frozen? ⟨b0, 1, none⟩ = false ∧ W.frozen? ⟨b0, 2, none⟩ = false ∧ W.frozen? ⟨b0, 3, none⟩ = false ∧ W.frozen? ⟨b0, 4, none⟩ = false)
theorem RR.facts {w : World} {b0 e : Nat} {W : World} {x0 x1 x2 x3 x4 : Value} (h : RR w b0 e W x0 x1 x2 x3 x4) : RRf b0 e W x0 x1 x2 x3 x4 := ⟨five_of h.ent, five_of h.res⟩
/-- what is returned: whether it is told so; the entry, if it is -/
def RdO (o : Option P5) (e : Ending) : Prop := ∃ y : Ent, e = .returned (.tuple #[entV y, .bool o.isSome]) ∧ ∀ x, o = some x → y = entOf x
theorem RdO.no {o : Option P5} (h : o = none) (y : Ent) : RdO o (.returned (.tuple #[.agg #[.string y.n, .string y.v, .bool y.f, .string y.fn, .string y.t], .bool false])) := by
  subst h
  exact ⟨y, rfl, fun x hx => by cases hx⟩
theorem RdO.yes {o : Option P5} {x : P5} (h : o = some x) {y : Ent} (hy : y = entOf x) : RdO o (.returned (.tuple #[.agg #[.string y.n, .string y.v, .bool y.f, .string y.fn, .string y.t], .bool true])) := by
  subst h
  exact ⟨y, rfl, fun z hz => by cases hz; exact hy⟩
theorem rd_at {s : List UInt8} {c : Nat} (h : Lib.index s crlf2 = c) : rd s = rdq (s.take c) (s.drop (c + 4)) := by
  unfold rd
  rw [if_neg (by rw [h]; omega), h, Int.toNat_natCast]
theorem rd_none {s : List UInt8} (h : Lib.index s crlf2 = -1) : rd s = none := by unfold rd; rw [if_pos h]
theorem q_no1 {h v : List UInt8} (hq : qtd (h.drop 38) = none) : rdq h v = none := by
  unfold rdq; rw [hq]; split <;> rfl
theorem q_end {h v p : List UInt8} (h1 : head1.isPrefixOf h = true) (hq : qtd (h.drop 38) = some (p, [])) : rdq h v = some ⟨unn p, v, false, [], []⟩ := by
  unfold rdq; rw [if_pos h1, hq]; simp
theorem q_no2 {h v p r : List UInt8} (hq : qtd (h.drop 38) = some (p, r)) (hr : r ≠ []) (h2 : head2.isPrefixOf r = false) : rdq h v = none := by
  unfold rdq; rw [hq]
  split
  · simp [hr, h2]
  · rfl
theorem q_no3 {h v p r : List UInt8} (hq : qtd (h.drop 38) = some (p, r)) (hr : r ≠ []) (h3 : qtd (r.drop 12) = none) : rdq h v = none := by
  unfold rdq; rw [hq]
  split
  · simp [hr, h3]
  · rfl
theorem q_no4 {h v p r f q : List UInt8} (hq : qtd (h.drop 38) = some (p, r)) (hr : r ≠ []) (h3 : qtd (r.drop 12) = some (f, q)) (h4 : head3.isPrefixOf q = false) : rdq h v = none := by
  unfold rdq; rw [hq]
  split
  · simp [hr, h3, h4]
  · rfl
theorem q_brk {h v p r f q : List UInt8} (hq : qtd (h.drop 38) = some (p, r)) (hr : r ≠ []) (h3 : qtd (r.drop 12) = some (f, q)) (hk : 13 ∈ q.drop 16 ∨ 10 ∈ q.drop 16) : rdq h v = none := by
  unfold rdq; rw [hq]
  split
  · simp [hr, h3, hk]
  · rfl
theorem q_file {h v p r f q : List UInt8} (h1 : head1.isPrefixOf h = true) (hq : qtd (h.drop 38) = some (p, r)) (hr : r ≠ []) (h2 : head2.isPrefixOf r = true) (h3 : qtd (r.drop 12) = some (f, q)) (h4 : head3.isPrefixOf q = true)
    (k13 : 13 ∉ q.drop 16) (k10 : 10 ∉ q.drop 16) : rdq h v = some ⟨unn p, v, true, unn f, q.drop 16⟩ := by
  unfold rdq; rw [if_pos h1, hq]; simp [hr, h2, h3, h4, k13, k10]
theorem drop_back (l p r : List UInt8) (h : l = p ++ r) : l.drop (l.length - r.length) = r := by
  subst h
  rw [List.length_append, Nat.add_sub_cancel, List.drop_left]
end Go.Proofs.YtapbljaohhcpoaaDoor
