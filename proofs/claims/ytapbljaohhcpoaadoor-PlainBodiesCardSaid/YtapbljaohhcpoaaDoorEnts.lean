/-
  ROWS OF ENTRIES (api.Entry): one that came in, and one that the call itself builds.
-/
import Derived.Test.YtapbljaohhcpoaaDoorBytes
import Derived.Laws.Cells
namespace Go.Proofs.YtapbljaohhcpoaaDoor
open Go.RowKit Go.Lib

structure Ent where
  n : ByteArray
  v : ByteArray
  f : Bool
  fn : ByteArray
  t : ByteArray
def entCells (e : Ent) : List Value := [.string e.n, .string e.v, .bool e.f, .string e.fn, .string e.t]
def entV (e : Ent) : Value := .agg #[.string e.n, .string e.v, .bool e.f, .string e.fn, .string e.t]
/-- the value v is a slice of entries that reads es in the world w -/
def Ents (es : List Ent) (v : Value) (w : World) : Prop :=
  (es = [] ∧ ∃ a cap, v = .slice a 0 cap ∧ (a = none → cap = 0)) ∨ ∃ b o cap, v = .slice (some ⟨b, o, none⟩) es.length cap ∧ b < w.heap.size ∧ ∀ j e, es[j]? = some e → ∀ i u, (entCells e)[i]? = some u → w.cell? ⟨b, o + j * 5 + i, none⟩ = some u
theorem Ents.kept {es : List Ent} {v : Value} {w w' : World} (h : Ents es v w) (hb : Below w.heap.size w w') : Ents es v w' := by
  rcases h with h | ⟨b, o, cap, rfl, h1, h4⟩
  · exact .inl h
  · refine .inr ⟨b, o, cap, rfl, by have := hb.size; omega, fun j e he i u hu => ?_⟩
    rw [← h4 j e he i u hu]
    simp only [World.cell?, hb.block b h1]
theorem Ents.len {es : List Ent} {v : Value} {w : World} (h : Ents es v w) : ∃ a cap, v = .slice a es.length cap := by
  rcases h with ⟨rfl, a, cap, rfl, _⟩ | ⟨b, o, cap, rfl, _⟩
  · exact ⟨_, _, rfl⟩
  · exact ⟨_, _, rfl⟩
/-- the five cells of an entry -/
theorem Ents.five {es : List Ent} {v : Value} {w : World} (h : Ents es v w) {k : Nat} (hk : k < es.length) : ∃ b o cap, v = .slice (some ⟨b, o, none⟩) es.length cap ∧ b < w.heap.size ∧
    w.cell? ⟨b, o + k * 5, none⟩ = some (.string es[k].n) ∧ w.cell? ⟨b, o + k * 5 + 1, none⟩ = some (.string es[k].v) ∧ w.cell? ⟨b, o + k * 5 + 2, none⟩ = some (.bool es[k].f) ∧
    w.cell? ⟨b, o + k * 5 + 3, none⟩ = some (.string es[k].fn) ∧ w.cell? ⟨b, o + k * 5 + 4, none⟩ = some (.string es[k].t) := by
  rcases h with ⟨rfl, _⟩ | ⟨b, o, cap, rfl, h1, h4⟩
  · simp at hk
  · have hc := h4 k es[k] (List.getElem?_eq_getElem hk)
    exact ⟨b, o, cap, rfl, h1, hc 0 _ rfl, hc 1 _ rfl, hc 2 _ rfl, hc 3 _ rfl, hc 4 _ rfl⟩

theorem info_ent : (Tryd.prog.info? 50).map (fun i => (i.zero, i.size, i.bytes)) = some (some (.agg #[.string ⟨#[]⟩, .string ⟨#[]⟩, .bool false, .string ⟨#[]⟩, .string ⟨#[]⟩]), 5, 72) := by kernel_rfl
/-- the value v is a slice of entries that the call itself has built since 'base' blocks lay -/
def OE (base : Nat) (es : List Ent) (v : Value) (w : World) : Prop := w.ownsRow base 50 5 v es.length (es.flatMap entCells)
theorem OE.nil (base : Nat) (w : World) : OE base [] (.slice none 0 0) w := World.ownsRow_nil w base _ _
theorem OE.alloc {base : Nat} {l : List Ent} {v : Value} {w : World} (h : OE base l v w) (o : Obj) : OE base l v (w.alloc o) := World.ownsRow.alloc h o
theorem own_kept {base : Nat} {e : TypeId} {n m : Nat} {xs : List Value} {v : Value} {w w' : World} (h : w.ownsRow base e n v m xs) (hb : Below w.heap.size w w') : w'.ownsRow base e n v m xs := by
  obtain ⟨h1, ⟨rfl, hn⟩ | ⟨g, cap, cur, rfl, h2, h3, h4⟩⟩ := h
  · exact ⟨h1, .inl ⟨rfl, hn⟩⟩
  · refine ⟨h1, .inr ⟨g, cap, cur, rfl, h2, ?_, h4⟩⟩
    have hlt : g < w.heap.size := (Array.getElem?_eq_some_iff.1 h3).1
    rw [hb.block g hlt]; exact h3
theorem OE.kept {base : Nat} {l : List Ent} {v : Value} {w w' : World} (h : OE base l v w) (hb : Below w.heap.size w w') : OE base l v w' := own_kept h hb
theorem entCells_len (e : Ent) : (entCells e).length = 5 := rfl
theorem flat_at : ∀ (es : List Ent) (j : Nat) (e : Ent), es[j]? = some e → ∀ i u, (entCells e)[i]? = some u → (es.flatMap entCells)[j * 5 + i]? = some u
  | [], _, _, h => by simp at h
  | x :: r, 0, e, h => fun i u hu => by
    simp at h; subst h
    have hi : i < 5 := (List.getElem?_eq_some_iff.1 hu).1
    rw [List.flatMap_cons, List.getElem?_append_left (by rw [entCells_len]; omega), Nat.zero_mul, Nat.zero_add]
    exact hu
  | x :: r, j + 1, e, h => fun i u hu => by
    simp at h
    have := flat_at r j e h i u hu
    rw [List.flatMap_cons, List.getElem?_append_right (by rw [entCells_len]; omega), entCells_len, show (j + 1) * 5 + i - 5 = j * 5 + i by omega]
    exact this
theorem flat_len (es : List Ent) : (es.flatMap entCells).length = es.length * 5 := by
  induction es with
  | nil => rfl
  | cons e r ih => rw [List.flatMap_cons, List.length_append, ih, entCells_len, List.length_cons]; omega
theorem OE.ents {base : Nat} {es : List Ent} {v : Value} {w : World} (h : OE base es v w) : Ents es v w := by
  obtain ⟨_, ⟨rfl, hn⟩ | ⟨g, cap, cur, rfl, h2, h3, h4, h5, h6, h7⟩⟩ := h
  · exact .inl ⟨List.length_eq_zero_iff.1 hn, none, 0, rfl, fun _ => rfl⟩
  · refine .inr ⟨g, 0, cap, rfl, (Array.getElem?_eq_some_iff.1 h3).1, fun j e he i u hu => ?_⟩
    have hf := flat_at es j e he i u hu
    have hj : j * 5 + i < es.length * 5 := by
      rw [← flat_len]; exact (List.getElem?_eq_some_iff.1 hf).1
    rw [← h7, List.getElem?_take_of_lt hj] at hf
    rw [Nat.zero_add]
    simp only [World.cell?, h3]
    simpa using hf

/-- 'out = append(out, e)': the entry lies in a block of its own, laid just ahead -/
theorem wpList_append_ent {W : World} {ops : Array Oper} {rest : List Oper} {o : Oper} {a : Act} {Q : Exit → Act → World → Prop} (hgd : o.guard = none) (s x : Operand)
    (ho : o.op = .call { callee := .builtin .append, args := #[s, x], argTypes := #[22, 22] })
    {base : Nat} {l : List Ent} {v : Value} (hs : a.eval s = v) (hx : a.eval x = .slice (some ⟨W.heap.size, 0, none⟩) 1 1) (e : Ent)
    (hown : OE base l v W) (hlen : l.length < 1000000000) (hbase : base ≤ W.heap.size)
    (h : ∀ v' w', OE base (l ++ [e]) v' w' → Below base W w' → wpList Tryd.prog ops Q rest (a.put o.dst v') w') : wpList Tryd.prog ops Q (o :: rest) a (W.alloc (.cells #[.string e.n, .string e.v, .bool e.f, .string e.fn, .string e.t] 50)) := by
  obtain ⟨i0, hi, hz0, hz1, hz2⟩ := info_parts info_ent
  have hA : (W.alloc (.cells #[.string e.n, .string e.v, .bool e.f, .string e.fn, .string e.t] 50)).ownsRow base 50 5 v l.length (l.flatMap entCells) := World.ownsRow.alloc hown _
  refine wpList_append_own _ hgd s x 22 ho base 50 i0 _ 5 72 Tryd.underlying22 hi hz0 hz1 hz2 rfl (by decide) v l.length (l.flatMap entCells) hs hA ⟨W.heap.size, 0, none⟩ 1 1 (entCells e) hx rfl ?_ ?_ ?_ ?_ ?_ ?_
  · intro j u hj
    have hn := Go.heap_alloc_new W (.cells #[.string e.n, .string e.v, .bool e.f, .string e.fn, .string e.t] 50)
    rw [addr_add, Nat.zero_add]
    simp only [World.cell?, hn]
    simpa [entCells] using hj
  · intro u hu
    simp only [entCells, List.mem_cons, List.not_mem_nil, or_false] at hu
    rcases hu with rfl | rfl | rfl | rfl | rfl <;> rfl
  · unfold maxLen; omega
  · omega
  · simp; omega
  · intro v' w1 h1 h2 _
    have hg : Below base (W.alloc (.cells #[.string e.n, .string e.v, .bool e.f, .string e.fn, .string e.t] 50)) w1 := by
      refine (Below.refl base _).grown h2 (by simp; omega) (fun k hk => (hA.lt k hk).1)
    refine h v' w1 ?_ (((Below.refl base W).alloc hbase _).trans hg)
    unfold OE
    rw [List.length_append, List.flatMap_append, List.flatMap_cons, List.flatMap_nil, List.append_nil]
    exact h1
/-- the same, the block's number being told otherwise -/
theorem wpList_append_ent_at {W : World} {ops : Array Oper} {rest : List Oper} {o : Oper} {a : Act} {Q : Exit → Act → World → Prop} (hgd : o.guard = none) (s x : Operand)
    (ho : o.op = .call { callee := .builtin .append, args := #[s, x], argTypes := #[22, 22] })
    {base : Nat} {l : List Ent} {v : Value} (g : Nat) (hg : g = W.heap.size) (hs : a.eval s = v) (hx : a.eval x = .slice (some ⟨g, 0, none⟩) 1 1) (e : Ent)
    (hown : OE base l v W) (hlen : l.length < 1000000000) (hbase : base ≤ W.heap.size)
    (h : ∀ v' w', OE base (l ++ [e]) v' w' → Below base W w' → wpList Tryd.prog ops Q rest (a.put o.dst v') w') : wpList Tryd.prog ops Q (o :: rest) a (W.alloc (.cells #[.string e.n, .string e.v, .bool e.f, .string e.fn, .string e.t] 50)) := by
  subst hg
  exact wpList_append_ent hgd s x ho hs hx e hown hlen hbase h
end Go.Proofs.YtapbljaohhcpoaaDoor
