/-
  A SLICE OF ONE-CELL ELEMENTS (texts, numbers, pointers) THAT THE CALL ITSELF BUILDS, told by its list of cells.
-/
import Derived.Test.YtenicjebccdekaaBase
namespace Go.Proofs.Ytenicjebccdekaa
set_option linter.unusedVariables false
set_option linter.unusedSimpArgs false
open Go.RowKit

/-- the value v is a slice of one-cell elements of type T that holds xs, made since 'base' blocks lay -/
def OV (base : Nat) (T : TypeId) (xs : List Value) (v : Value) (w : World) : Prop := w.ownsRow base T 1 v xs.length xs
theorem OV.nil (base : Nat) (T : TypeId) (w : World) : OV base T [] (.slice none 0 0) w := World.ownsRow_nil w base _ _
theorem OV.alloc {base : Nat} {T : TypeId} {l : List Value} {v : Value} {w : World} (h : OV base T l v w) (o : Obj) : OV base T l v (w.alloc o) := World.ownsRow.alloc h o
theorem OV.form {base : Nat} {T : TypeId} {l : List Value} {v : Value} {w : World} (h : OV base T l v w) : ∃ a cap, v = .slice a l.length cap ∧ (a = none → l = []) := by
  obtain ⟨_, ⟨rfl, hn⟩ | ⟨g, cap, cur, rfl, _⟩⟩ := h
  · exact ⟨none, 0, by rw [hn], fun _ => List.length_eq_zero_iff.1 hn⟩
  · exact ⟨_, _, rfl, fun h => by cases h⟩
theorem OV.kept {base : Nat} {T : TypeId} {l : List Value} {v : Value} {w w' : World} (h : OV base T l v w) (hb : Below w.heap.size w w') : OV base T l v w' := by
  obtain ⟨h1, ⟨rfl, hn⟩ | ⟨g, cap, cur, rfl, h2, h3, h4⟩⟩ := h
  · exact ⟨h1, .inl ⟨rfl, hn⟩⟩
  · refine ⟨h1, .inr ⟨g, cap, cur, rfl, h2, ?_, h4⟩⟩
    have hlt : g < w.heap.size := by
      rcases Nat.lt_or_ge g w.heap.size with h | h
      · exact h
      · rw [Array.getElem?_eq_none h] at h3; cases h3
    rw [hb.block g hlt]; exact h3
theorem OV.cell {base : Nat} {T : TypeId} {l : List Value} {a : Addr} {n cap : Nat} {w : World} (h : OV base T l (.slice (some a) n cap) w) : ∀ j u, l[j]? = some u → w.cell? (a.add j) = some u := by
  intro j u hu
  obtain ⟨_, ⟨h1, hn⟩ | ⟨g, cap', cur, h1, h2, h3, h4, h5, h6, h7⟩⟩ := h
  · cases h1
  · cases h1
    have hj : j < l.length := (List.getElem?_eq_some_iff.1 hu).1
    rw [addr_add, Nat.zero_add]
    simp only [World.cell?, h3]
    rw [← h7, List.getElem?_take_of_lt (by omega)] at hu
    simpa using hu
theorem OV.at {base : Nat} {T : TypeId} {l : List Value} {v : Value} {w : World} (h : OV base T l v w) (hn : l ≠ []) : ∃ g cap, v = .slice (some ⟨g, 0, none⟩) l.length cap ∧ base ≤ g ∧ ∀ j u, l[j]? = some u → w.cell? ⟨g, j, none⟩ = some u := by
  have h0 := h
  obtain ⟨_, ⟨rfl, h1⟩ | ⟨g, cap, cur, rfl, h2, _⟩⟩ := h
  · exact absurd (List.length_eq_zero_iff.1 h1) hn
  · refine ⟨g, cap, rfl, h2, fun j u hu => ?_⟩
    have := h0.cell j u hu
    rwa [addr_add, Nat.zero_add] at this
theorem ov_below {base : Nat} {T : TypeId} {l : List Value} {w w' : World} {v : Value} (h : OV base T l v w) (hg : w.grownBy w' v.ownBlock) (hb : base ≤ w.heap.size) : Below base w w' :=
  (Below.refl base w).grown hg hb (fun k hk => (h.lt k hk).1)

/-- 'out = append(out, u)': the element lies in a block of its own, laid just ahead -/
theorem wpList_append_cell {W : World} {ops : Array Oper} {rest : List Oper} {o : Oper} {a : Act} {Q : Exit → Act → World → Prop} (hgd : o.guard = none) (s x : Operand) (S T : TypeId) {z : Value} {bytes : Nat}
    (ho : o.op = .call { callee := .builtin .append, args := #[s, x], argTypes := #[S, S] }) (hS : Try.prog.underlying S = some (.slice T))
    (hinfo : (Try.prog.info? T).map (fun i => (i.zero, i.size, i.bytes)) = some (some z, 1, bytes)) (hz : z.cells.size = 1) (hby : bytes ≤ 4096)
    {base : Nat} {l : List Value} {v : Value} (hs : a.eval s = v) (hx : a.eval x = .slice (some ⟨W.heap.size, 0, none⟩) 1 1) (u : Value) (hu : u.oneCell' = true)
    (hown : OV base T l v W) (hlen : l.length < 17179869184) (hbase : base ≤ W.heap.size)
    (h : ∀ v' w', OV base T (l ++ [u]) v' w' → Below base W w' → wpList Try.prog ops Q rest (a.put o.dst v') w') : wpList Try.prog ops Q (o :: rest) a (W.alloc (.cells #[u] T)) := by
  obtain ⟨i0, hi, hz0, hz1, hz2⟩ := info_parts hinfo
  refine wpList_append_own _ hgd s x S ho base T i0 z 1 bytes hS hi hz0 hz1 hz2 hz (by decide) v l.length l hs (World.ownsRow.alloc hown _) ⟨W.heap.size, 0, none⟩ 1 1 [u] hx rfl ?_ ?_ ?_ ?_ ?_ ?_
  · intro j y hj
    match j, hj with
    | 0, hj => simp at hj; subst hj; simp [addr_add]
  · intro y hy; simp at hy; subst hy; exact hu
  · unfold maxLen; omega
  · have : (l.length + 1) * bytes ≤ (l.length + 1) * 4096 := Nat.mul_le_mul_left _ hby
    omega
  · simp; omega
  · intro v' w1 h1 h2 _
    refine h v' w1 ?_ (((Below.refl base W).alloc hbase _).trans (ov_below (World.ownsRow.alloc hown _) h2 (by simp; omega)))
    unfold OV
    rw [List.length_append]
    exact h1
end Go.Proofs.Ytenicjebccdekaa
