/-
  A []byte THAT THE CALL ITSELF BUILDS, told as a list of bytes; the laws by which a walk appends a byte, a text, and makes the text of it.
-/
import Derived.Test.YtenicjebccdekaaBase
import Derived.Lib.UnsafeStr
import Derived.Laws.IdiomStrings
namespace Go.Proofs.Ytenicjebccdekaa
set_option linter.unusedVariables false
set_option linter.unusedSimpArgs false
open Go.RowKit Go.Lib

theorem info_u8 : (Try.prog.info? 5).map (fun i => (i.zero, i.size, i.bytes)) = some (some (.int .u8 0), 1, 1) := by kernel_rfl

/-- the value v is a []byte that holds l, made since 'base' blocks lay -/
def OB (base : Nat) (l : List UInt8) (v : Value) (w : World) : Prop := w.ownsRow base 5 1 v l.length (byteCells l)

theorem OB.nil (base : Nat) (w : World) : OB base [] (.slice none 0 0) w := World.ownsRow_nil w base _ _
theorem OB.alloc {base : Nat} {l : List UInt8} {v : Value} {w : World} (h : OB base l v w) (o : Obj) : OB base l v (w.alloc o) := World.ownsRow.alloc h o
theorem OB.out {base : Nat} {l : List UInt8} {v : Value} {w : World} (h : OB base l v w) : w.ownsRow base 5 1 v l.length (byteCells l) := h
theorem OB.form {base : Nat} {l : List UInt8} {v : Value} {w : World} (h : OB base l v w) : ∃ a cap, v = .slice a l.length cap := by
  obtain ⟨_, ⟨rfl, hn⟩ | ⟨g, cap, cur, rfl, _⟩⟩ := h
  · exact ⟨none, 0, by rw [hn]⟩
  · exact ⟨_, _, rfl⟩
/-- what is older stays: a world that keeps all blocks at and above 'base' too -/
theorem OB.kept {base : Nat} {l : List UInt8} {v : Value} {w w' : World} (h : OB base l v w) (hb : Below w.heap.size w w') : OB base l v w' := by
  obtain ⟨h1, ⟨rfl, hn⟩ | ⟨g, cap, cur, rfl, h2, h3, h4⟩⟩ := h
  · exact ⟨h1, .inl ⟨rfl, hn⟩⟩
  · refine ⟨h1, .inr ⟨g, cap, cur, rfl, h2, ?_, h4⟩⟩
    have hlt : g < w.heap.size := by
      rcases Nat.lt_or_ge g w.heap.size with h | h
      · exact h
      · rw [Array.getElem?_eq_none h] at h3; cases h3
    rw [hb.block g hlt]; exact h3

theorem run_nil_bytes {P : Program} (w : World) (src dst e : TypeId) (c : Nat) (hs : P.underlying src = some (.slice e)) (he : P.underlying e = some (.int .u8)) (hd : P.underlying dst = some .string) :
    (convert src dst (.slice none 0 c)).run P w = .ok (.string ⟨#[]⟩) w := by
  rw [run_convert_bytes_string w src dst e none 0 c hs he hd]
  simp [Conv.bytesToString]
  rfl
theorem row_bytes {w : World} {g : Nat} {cur : Array Value} {T : TypeId} {fr : Nat × Nat} {l : List UInt8} (hg : w.heap[g]? = some (.cells cur T fr)) (htk : cur.toList.take l.length = byteCells l) :
    ∀ j (hj : j < l.length), w.cell? ((⟨g, 0, none⟩ : Addr).add j) = some (.int .u8 (l[j].toNat : Int)) := fun j hj => by
  have h : (cur.toList.take l.length)[j]? = some (.int .u8 (l[j].toNat : Int)) := by rw [htk]; simp [byteCells, hj]
  rw [List.getElem?_take_of_lt hj] at h
  rw [addr_add, Nat.zero_add]
  simp only [World.cell?, hg]
  simpa using h

theorem OB.cell {base : Nat} {l : List UInt8} {a : Addr} {n cap : Nat} {w : World} (h : OB base l (.slice (some a) n cap) w) : ∀ j (hj : j < l.length), w.cell? (a.add j) = some (.int .u8 (l[j].toNat : Int)) := by
  obtain ⟨_, ⟨h1, hn⟩ | ⟨g, cap', cur, h1, h2, h3, h4, h5, h6, h7⟩⟩ := h
  · cases h1
  · cases h1
    exact row_bytes h3 (by simpa using h7)

/-- 'string(out)' -/
theorem OB.conv {base : Nat} {l : List UInt8} {v : Value} {w : World} (h : OB base l v w) :
    (convert 86 9 v).run Try.prog w = .ok (.string ⟨l.toArray⟩) w := by
  have h0 := h
  obtain ⟨h1, ⟨rfl, hn⟩ | ⟨g, cap, cur, rfl, h2, h3, h4⟩⟩ := h
  · have : l = [] := by simpa using hn
    subst this
    exact run_nil_bytes w _ _ _ 0 Try.underlying86 Try.underlying5 Try.underlying9
  · exact run_convert_bytes_back w _ _ _ _ cap l Try.underlying86 Try.underlying5 Try.underlying9 h0.cell

theorem below_grown {base : Nat} {w w' : World} {v : Value} {e : TypeId} {size n : Nat} {xs : List Value} (h : w.ownsRow base e size v n xs) (hg : w.grownBy w' v.ownBlock) (hb : base ≤ w.heap.size) : Below base w w' :=
  (Below.refl base w).grown hg hb (fun k hk => (h.lt k hk).1)

theorem byteCells_one (c : UInt8) : byteCells [c] = [.int .u8 c.toNat] := rfl

/-- 'out = append(out, c)': the element lies in a block of its own, laid just ahead -/
theorem wpList_append_byte {W : World} {ops : Array Oper} {rest : List Oper} {o : Oper} {a : Act} {Q : Exit → Act → World → Prop} (hgd : o.guard = none) (s x : Operand)
    (ho : o.op = .call { callee := .builtin .append, args := #[s, x], argTypes := #[86, 86] })
    {base : Nat} {l : List UInt8} {v : Value} (hs : a.eval s = v) (hx : a.eval x = .slice (some ⟨W.heap.size, 0, none⟩) 1 1) (c : UInt8) {n : Int} (hn : n = (c.toNat : Int))
    (hown : OB base l v W) (hlen : l.length < 70368744177664) (hbase : base ≤ W.heap.size)
    (h : ∀ v' w', OB base (l ++ [c]) v' w' → Below base W w' → wpList Try.prog ops Q rest (a.put o.dst v') w') : wpList Try.prog ops Q (o :: rest) a (W.alloc (.cells #[.int .u8 n] 5)) := by
  subst hn
  obtain ⟨i0, hi, hz0, hz1, hz2⟩ := info_parts info_u8
  refine wpList_append_own _ hgd s x 86 ho base 5 i0 (.int .u8 0) 1 1 Try.underlying86 hi hz0 hz1 hz2 rfl (by decide) v l.length (byteCells l) hs (World.ownsRow.alloc hown _) ⟨W.heap.size, 0, none⟩ 1 1 [.int .u8 c.toNat] hx rfl ?_ ?_ ?_ ?_ ?_ ?_
  · intro j u hj
    match j, hj with
    | 0, hj => simp at hj; subst hj; simp [addr_add]
  · intro u hu; simp at hu; subst hu; rfl
  · unfold maxLen; omega
  · omega
  · simp; omega
  · intro v' w1 h1 h2 _
    refine h v' w1 ?_ (((Below.refl base W).alloc hbase _).trans (below_grown (World.ownsRow.alloc hown _) h2 (by simp; omega)))
    have e : byteCells (l ++ [c]) = byteCells l ++ [.int .u8 c.toNat] := by rw [byteCells_append, byteCells_one]
    unfold OB
    rw [e, List.length_append]
    exact h1

/-- the same at a region that draws its order -/
theorem step_append_byte {W : World} {ops : Array Oper} {o : Oper} {a : Act} {K : Act → World → Prop} {Q : Exit → Act → World → Prop} {E : Prop} (hgd : o.guard = none) (s x : Operand)
    (ho : o.op = .call { callee := .builtin .append, args := #[s, x], argTypes := #[86, 86] })
    {base : Nat} {l : List UInt8} {v : Value} (hs : a.eval s = v) (g : Nat) (hx : a.eval x = .slice (some ⟨g, 0, none⟩) 1 1) (c : UInt8) (hc : W.cell? ⟨g, 0, none⟩ = some (.int .u8 c.toNat))
    (hown : OB base l v W) (hlen : l.length < 70368744177664) (hbase : base ≤ W.heap.size)
    (h : ∀ v' w', OB base (l ++ [c]) v' w' → Below base W w' → K (a.put o.dst v') w') : if Region.wanted o (yielded ops a.tmps) then o.wp Try.prog a W K Q else E := by
  have hw : Region.wanted o (yielded ops a.tmps) = true := by simp [Region.wanted, hgd]
  rw [if_pos hw]
  obtain ⟨i0, hi, hz0, hz1, hz2⟩ := info_parts info_u8
  refine wp_append_own _ s x 86 ho base 5 i0 (.int .u8 0) 1 1 Try.underlying86 hi hz0 hz1 hz2 rfl (by decide) v l.length (byteCells l) hs hown ⟨g, 0, none⟩ 1 1 [.int .u8 c.toNat] hx rfl ?_ ?_ ?_ ?_ hbase ?_
  · intro j u hj
    match j, hj with
    | 0, hj => simp at hj; subst hj; rw [addr_add]; exact hc
  · intro u hu; simp at hu; subst hu; rfl
  · unfold maxLen; omega
  · omega
  · intro v' w1 h1 h2 _
    refine h v' w1 ?_ (below_grown hown h2 hbase)
    have e : byteCells (l ++ [c]) = byteCells l ++ [.int .u8 c.toNat] := by rw [byteCells_append, byteCells_one]
    unfold OB
    rw [e, List.length_append]
    exact h1

/-- 'out = append(out, t...)', t a text -/
theorem wpList_append_text {W : World} {ops : Array Oper} {rest : List Oper} {o : Oper} {a : Act} {Q : Exit → Act → World → Prop} (hgd : o.guard = none) (s x : Operand)
    (ho : o.op = .call { callee := .builtin .append, args := #[s, x], argTypes := #[86, 9] })
    {base : Nat} {l : List UInt8} {v : Value} (hs : a.eval s = v) {t : ByteArray} (hx : a.eval x = .string t)
    (hown : OB base l v W) (hlen : l.length + t.size < 70368744177664) (hbase : base ≤ W.heap.size)
    (h : ∀ v' w', OB base (l ++ t.data.toList) v' w' → Below base W w' → wpList Try.prog ops Q rest (a.put o.dst v') w') : wpList Try.prog ops Q (o :: rest) a W := by
  obtain ⟨i0, hi, hz0, hz1, hz2⟩ := info_parts info_u8
  refine wpList_append_own_string _ hgd s x 86 9 ho base 5 i0 Try.underlying86 Try.underlying9 hi hz0 hz1 hz2 v l.length (byteCells l) hs hown t hx (by unfold maxLen; omega) (by omega) hbase ?_
  intro v' w1 h1 h2 _
  refine h v' w1 ?_ (below_grown hown h2 hbase)
  have e : byteCells (l ++ t.data.toList) = byteCells l ++ strCells t := by rw [byteCells_append, strCells_eq]
  unfold OB
  rw [e, List.length_append]
  exact h1
/-- 'out = append(out, c, d)': the two lie in a block of their own, laid just ahead -/
theorem wpList_append_two {W : World} {ops : Array Oper} {rest : List Oper} {o : Oper} {a : Act} {Q : Exit → Act → World → Prop} (hgd : o.guard = none) (s x : Operand)
    (ho : o.op = .call { callee := .builtin .append, args := #[s, x], argTypes := #[86, 86] })
    {base : Nat} {l : List UInt8} {v : Value} (hs : a.eval s = v) (hx : a.eval x = .slice (some ⟨W.heap.size, 0, none⟩) 2 2) (c d : UInt8) {n m : Int} (hn : n = (c.toNat : Int)) (hm : m = (d.toNat : Int))
    (hown : OB base l v W) (hlen : l.length < 70368744177664) (hbase : base ≤ W.heap.size)
    (h : ∀ v' w', OB base (l ++ [c, d]) v' w' → Below base W w' → wpList Try.prog ops Q rest (a.put o.dst v') w') : wpList Try.prog ops Q (o :: rest) a (W.alloc (.cells #[.int .u8 n, .int .u8 m] 5)) := by
  subst hn hm
  obtain ⟨i0, hi, hz0, hz1, hz2⟩ := info_parts info_u8
  have hA : OB base l v (W.alloc (.cells #[.int .u8 (c.toNat : Int), .int .u8 (d.toNat : Int)] 5)) := hown.alloc _
  refine wpList_append_own _ hgd s x 86 ho base 5 i0 (.int .u8 0) 1 1 Try.underlying86 hi hz0 hz1 hz2 rfl (by decide) v l.length (byteCells l) hs hA.out ⟨W.heap.size, 0, none⟩ 2 2 [.int .u8 c.toNat, .int .u8 d.toNat] hx rfl ?_ ?_ ?_ ?_ ?_ ?_
  · intro j u hj
    match j, hj with
    | 0, hj => simp at hj; subst hj; simp [addr_add]
    | 1, hj => simp at hj; subst hj; simp [addr_add]
  · intro u hu
    simp only [List.mem_cons, List.not_mem_nil, or_false] at hu
    rcases hu with rfl | rfl <;> rfl
  · unfold maxLen; omega
  · omega
  · simp; omega
  · intro v' w1 h1 h2 _
    refine h v' w1 ?_ (((Below.refl base W).alloc hbase _).trans (below_grown hA.out h2 (by simp; omega)))
    have e : byteCells (l ++ [c, d]) = byteCells l ++ [.int .u8 c.toNat, .int .u8 d.toNat] := by rw [byteCells_append]; rfl
    unfold OB
    rw [e, List.length_append]
    exact h1
end Go.Proofs.Ytenicjebccdekaa
