/-
  DOCUMENTS (rows of api.Node): how a slice of nodes reads.
-/
import Derived.Test.YtenicjebccdekaaDraws
import Derived.Test.YtenicjebccdekaaKept
import Derived.Test.YtenicjebccdekaaPlainText
import Derived.Laws.Cells
import Derived.Laws.CopyRow
import Derived.Deep.RegionHeld3
import Derived.Deep.CutRange
import Derived.Deep.DeepCutAuto
namespace Go.Proofs.Ytenicjebccdekaa
set_option linter.unusedVariables false
set_option linter.unusedSimpArgs false
open Go.RowKit Go.Lib PT

/-- an attribute -/
structure At where
  n : ByteArray
  v : ByteArray
/-- a node -/
structure Nd where
  nm : ByteArray
  tx : ByteArray
  ats : List At
  pa : Int
  ks : List Int
/-- the value v is a slice of attributes that reads l in the world w -/
def Atts (l : List At) (v : Value) (w : World) : Prop :=
  (l = [] ∧ ∃ a cap, v = .slice a 0 cap ∧ (a = none → cap = 0)) ∨ ∃ b o cap, v = .slice (some ⟨b, o, none⟩) l.length cap ∧ l.length ≤ cap ∧ b < w.heap.size ∧ ∀ j x, l[j]? = some x → w.cell? ⟨b, o + j * 2, none⟩ = some (.string x.n) ∧ w.cell? ⟨b, o + j * 2 + 1, none⟩ = some (.string x.v)
/-- .. of numbers -/
def Nums (l : List Int) (v : Value) (w : World) : Prop :=
  (l = [] ∧ ∃ a cap, v = .slice a 0 cap ∧ (a = none → cap = 0)) ∨ ∃ b o cap, v = .slice (some ⟨b, o, none⟩) l.length cap ∧ l.length ≤ cap ∧ b < w.heap.size ∧ ∀ j x, l[j]? = some x → w.cell? ⟨b, o + j, none⟩ = some (.int .i64 x)
/-- .. of nodes -/
def Nodes (l : List Nd) (v : Value) (w : World) : Prop :=
  (l = [] ∧ ∃ a cap, v = .slice a 0 cap ∧ (a = none → cap = 0)) ∨ ∃ b o cap, v = .slice (some ⟨b, o, none⟩) l.length cap ∧ l.length ≤ cap ∧ b < w.heap.size ∧ ∀ j x, l[j]? = some x → ∃ va vk,
    w.cell? ⟨b, o + j * 5, none⟩ = some (.string x.nm) ∧ w.cell? ⟨b, o + j * 5 + 1, none⟩ = some (.string x.tx) ∧ w.cell? ⟨b, o + j * 5 + 2, none⟩ = some va ∧ w.cell? ⟨b, o + j * 5 + 3, none⟩ = some (.int .i64 x.pa) ∧ w.cell? ⟨b, o + j * 5 + 4, none⟩ = some vk ∧
    Atts x.ats va w ∧ Nums x.ks vk w
theorem Atts.kept {l : List At} {v : Value} {w w' : World} (h : Atts l v w) (hb : Below w.heap.size w w') : Atts l v w' := by
  rcases h with h | ⟨b, o, cap, rfl, h0, h1, h4⟩
  · exact .inl h
  · refine .inr ⟨b, o, cap, rfl, h0, by have := hb.size; omega, fun j e he => ?_⟩
    obtain ⟨c1, c2⟩ := h4 j e he
    exact ⟨cellK hb h1 c1, cellK hb h1 c2⟩
theorem Nums.kept {l : List Int} {v : Value} {w w' : World} (h : Nums l v w) (hb : Below w.heap.size w w') : Nums l v w' := by
  rcases h with h | ⟨b, o, cap, rfl, h0, h1, h4⟩
  · exact .inl h
  · exact .inr ⟨b, o, cap, rfl, h0, by have := hb.size; omega, fun j e he => cellK hb h1 (h4 j e he)⟩
theorem Nodes.kept {l : List Nd} {v : Value} {w w' : World} (h : Nodes l v w) (hb : Below w.heap.size w w') : Nodes l v w' := by
  rcases h with h | ⟨b, o, cap, rfl, h0, h1, h4⟩
  · exact .inl h
  · refine .inr ⟨b, o, cap, rfl, h0, by have := hb.size; omega, fun j e he => ?_⟩
    obtain ⟨va, vk, c0, c1, c2, c3, c4, ha, hk⟩ := h4 j e he
    exact ⟨va, vk, cellK hb h1 c0, cellK hb h1 c1, cellK hb h1 c2, cellK hb h1 c3, cellK hb h1 c4, ha.kept hb, hk.kept hb⟩
theorem Atts.len {l : List At} {v : Value} {w : World} (h : Atts l v w) : ∃ a cap, v = .slice a l.length cap := by
  rcases h with ⟨rfl, a, cap, rfl, _⟩ | ⟨b, o, cap, rfl, _⟩ <;> exact ⟨_, _, rfl⟩
theorem Nums.len {l : List Int} {v : Value} {w : World} (h : Nums l v w) : ∃ a cap, v = .slice a l.length cap := by
  rcases h with ⟨rfl, a, cap, rfl, _⟩ | ⟨b, o, cap, rfl, _⟩ <;> exact ⟨_, _, rfl⟩
theorem Nodes.len {l : List Nd} {v : Value} {w : World} (h : Nodes l v w) : ∃ a cap, v = .slice a l.length cap := by
  rcases h with ⟨rfl, a, cap, rfl, _⟩ | ⟨b, o, cap, rfl, _⟩ <;> exact ⟨_, _, rfl⟩
theorem Atts.at {l : List At} {v : Value} {w : World} (h : Atts l v w) {k : Nat} (hk : k < l.length) : ∃ b o cap, v = .slice (some ⟨b, o, none⟩) l.length cap ∧ l.length ≤ cap ∧ b < w.heap.size ∧ w.cell? ⟨b, o + k * 2, none⟩ = some (.string l[k].n) ∧ w.cell? ⟨b, o + k * 2 + 1, none⟩ = some (.string l[k].v) := by
  rcases h with ⟨rfl, _⟩ | ⟨b, o, cap, rfl, h0, h1, h4⟩
  · simp at hk
  · obtain ⟨c1, c2⟩ := h4 k l[k] (List.getElem?_eq_getElem hk)
    exact ⟨b, o, cap, rfl, h0, h1, c1, c2⟩
theorem Nums.at {l : List Int} {v : Value} {w : World} (h : Nums l v w) {k : Nat} (hk : k < l.length) : ∃ b o cap, v = .slice (some ⟨b, o, none⟩) l.length cap ∧ b < w.heap.size ∧ w.cell? ⟨b, o + k, none⟩ = some (.int .i64 l[k]) := by
  rcases h with ⟨rfl, _⟩ | ⟨b, o, cap, rfl, h0, h1, h4⟩
  · simp at hk
  · exact ⟨b, o, cap, rfl, h1, h4 k l[k] (List.getElem?_eq_getElem hk)⟩
theorem Nodes.at {l : List Nd} {v : Value} {w : World} (h : Nodes l v w) {k : Nat} (hk : k < l.length) : ∃ b o cap va vk, v = .slice (some ⟨b, o, none⟩) l.length cap ∧ b < w.heap.size ∧
    w.cell? ⟨b, o + k * 5, none⟩ = some (.string l[k].nm) ∧ w.cell? ⟨b, o + k * 5 + 1, none⟩ = some (.string l[k].tx) ∧ w.cell? ⟨b, o + k * 5 + 2, none⟩ = some va ∧ w.cell? ⟨b, o + k * 5 + 3, none⟩ = some (.int .i64 l[k].pa) ∧ w.cell? ⟨b, o + k * 5 + 4, none⟩ = some vk ∧
    Atts l[k].ats va w ∧ Nums l[k].ks vk w := by
  rcases h with ⟨rfl, _⟩ | ⟨b, o, cap, rfl, h0, h1, h4⟩
  · simp at hk
  · obtain ⟨va, vk, c⟩ := h4 k l[k] (List.getElem?_eq_getElem hk)
    exact ⟨b, o, cap, va, vk, rfl, h1, c⟩
theorem Atts.take {l : List At} {b o cap i : Nat} {w : World} (h : Atts l (.slice (some ⟨b, o, none⟩) l.length cap) w) (hi : i < l.length) : Atts (l.take i) (.slice (some ⟨b, o, none⟩) i cap) w := by
  rcases h with ⟨rfl, _⟩ | ⟨b', o', cap', hv, h0, h1, h4⟩
  · simp at hi
  · cases hv
    refine .inr ⟨b, o, cap, by rw [List.length_take]; congr; omega, by rw [List.length_take]; omega, h1, fun j x hx => h4 j x ?_⟩
    rw [List.getElem?_take] at hx
    split at hx
    · exact hx
    · cases hx
/-- a node by value -/
def NdV (x : Nd) (va vk : Value) : Value := .agg #[.string x.nm, .string x.tx, va, .int .i64 x.pa, vk]
/-- the first place of an attribute with .. ; -1: there is none -/
def fi (l : List At) (f : At → Bool) : Int := match l.findIdx? f with
  | none => -1
  | some i => (i : Int)
def isN (s : ByteArray) (a : At) : Bool := decide (a.n = s)
theorem fi_none {l : List At} {f : At → Bool} (h : ∀ x ∈ l, f x = false) : fi l f = -1 := by
  unfold fi
  rw [List.findIdx?_eq_none_iff.2 (fun x hx => by simpa using h x hx)]
theorem fi_hit {l : List At} {f : At → Bool} {k : Nat} (hk : k < l.length) (hno : ∀ x ∈ l.take k, f x = false) (h : f l[k] = true) : fi l f = k := by
  unfold fi
  rw [List.findIdx?_eq_some_iff_getElem.2 ⟨hk, h, fun j hj => by
    have := hno l[j] (by
      rw [List.mem_take_iff_getElem]
      exact ⟨j, by omega, rfl⟩)
    simpa using this⟩]
theorem fi_cases (l : List At) (f : At → Bool) : (fi l f = -1 ∧ ∀ x ∈ l, f x = false) ∨ ∃ k, ∃ hk : k < l.length, fi l f = (k : Nat) ∧ f l[k] = true ∧ ∀ x ∈ l.take k, f x = false := by
  unfold fi
  cases h : l.findIdx? f with
  | none =>
    left
    exact ⟨rfl, fun x hx => by simpa using List.findIdx?_eq_none_iff.1 h x hx⟩
  | some i =>
    right
    obtain ⟨hk, h1, h2⟩ := List.findIdx?_eq_some_iff_getElem.1 h
    refine ⟨i, hk, rfl, h1, fun x hx => ?_⟩
    rw [List.mem_take_iff_getElem] at hx
    obtain ⟨j, hj, rfl⟩ := hx
    have := h2 j (by omega)
    simpa using this
theorem sTrue {a b : ByteArray} (h : a = b) : (a.toList == b.toList) = true := by rw [h]; exact beq_self_eq_true _
theorem sFalse {a b : ByteArray} (h : a ≠ b) : (a.toList == b.toList) = false := by
  rw [beq_eq_false_iff_ne, ByteArray.toList_eq, ByteArray.toList_eq]
  intro e
  exact h (ByteArray.ext (Array.toList_inj.1 e))
end Go.Proofs.Ytenicjebccdekaa
