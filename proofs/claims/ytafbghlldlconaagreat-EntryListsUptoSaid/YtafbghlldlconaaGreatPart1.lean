import Derived.Test.YtafbghlldlconaaGreatRows
import Derived.WalkKit
import Derived.Lib.ConvBytes
import Derived.Lib.Hide
import Derived.Deep.QuietTactic
import Derived.BigQuiet
import Derived.WalkSpells
import Derived.Lib.Bytealg
import Derived.Laws.Cells
import Derived.Laws.CopyRow
import Derived.Deep.RegionHeld3
import Derived.Deep.CutRange
import Derived.Deep.DeepCutAuto
/-
  SMALL HELPERS ON WORLDS, used by all walks of this seat.
-/
namespace Go.Proofs.YtafbghlldlconaaGreat
set_option linter.unusedVariables false
set_option linter.unusedSimpArgs false
open Go.RowKit

theorem ret_bool {a b : Bool} (h : a = b) : Ending.returned (.bool a) = .returned (.bool b) := by rw [h]
theorem ret_int {k : IntKind} {a b : Int} (h : a = b) : Ending.returned (.int k a) = .returned (.int k b) := by rw [h]
theorem ret_str {a b : List UInt8} (h : a = b) : Ending.returned (.string ⟨a.toArray⟩) = .returned (.string ⟨b.toArray⟩) := by rw [h]
theorem byteEq_yes {a b : UInt8} (h : a = b) : ((a.toNat : Int) == (b.toNat : Int)) = true := by subst h; simp
theorem byteEq_no {a b : UInt8} (h : a ≠ b) : ((a.toNat : Int) == (b.toNat : Int)) = false := by
  rw [beq_eq_false_iff_ne]
  intro e
  exact h (UInt8.toNat_inj.1 (by omega))
theorem byteNe_yes {a b : UInt8} (h : a = b) : ((a.toNat : Int) != (b.toNat : Int)) = false := by subst h; simp
theorem byteNe_no {a b : UInt8} (h : a ≠ b) : ((a.toNat : Int) != (b.toNat : Int)) = true := by
  rw [bne, byteEq_no h]; rfl
theorem intNe {a b : Int} (h : a ≠ b) : (a == b) = false := by rw [beq_eq_false_iff_ne]; exact h
theorem addr_add (b o j : Nat) : (⟨b, o, none⟩ : Addr).add j = ⟨b, o + j, none⟩ := by
  simp only [Addr.add]
  split
  · rename_i h; subst h; rfl
  · rfl

/-- behind '[]byte(s)' -/
theorem bytesWorld_below (w : World) (e : TypeId) (s : ByteArray) : Below w.heap.size w (Lib.bytesWorld w e s) := by
  refine ⟨rfl, rfl, rfl, by rw [Lib.bytesWorld_size]; omega, fun k hk => Lib.bytesWorld_at_old w e s k hk⟩

theorem frozen_bytesWorld (w : World) (e : TypeId) (s : ByteArray) (j : Nat) (hj : j < s.size) : (Lib.bytesWorld w e s).frozen? ⟨w.heap.size, j, none⟩ = false := by
  have := Lib.bytesWorld_at_new w e s
  have hz : s.size ≤ (Lib.bytesCells w e s).size := by simp [Lib.bytesCells]
  simp [World.frozen?, this]
  omega

/-- one call behind another -/
theorem bs {w a b : World} (h : Below w.heap.size w a) (k : Below a.heap.size a b) : Below w.heap.size w b := h.trans (k.mono h.size)
/-- the size of a text that is told by a list -/
theorem size_mk (l : List UInt8) : (ByteArray.mk l.toArray).size = l.length := by simp [ByteArray.size]
theorem size_list (s : ByteArray) : s.data.toList.length = s.size := by simp
theorem mk_list (s : ByteArray) : ByteArray.mk s.data.toList.toArray = s := rfl
theorem ret_text {a b : ByteArray} (h : a = b) : Ending.returned (.string a) = .returned (.string b) := by rw [h]
theorem mk_append (a b : List UInt8) : ByteArray.mk a.toArray ++ ByteArray.mk b.toArray = ⟨(a ++ b).toArray⟩ := by
  apply ByteArray.ext
  simp

end Go.Proofs.YtafbghlldlconaaGreat

/-
  A region that only reads: its draws.
-/
namespace Go.Proofs.YtafbghlldlconaaGreat
set_option linter.unusedVariables false
set_option linter.unusedSimpArgs false
open Go.RowKit

theorem below_draws (w : World) (n : Nat) : Below w.heap.size w (w.drewN n) := ⟨rfl, rfl, rfl, Nat.le_refl _, fun _ _ => rfl⟩

end Go.Proofs.YtafbghlldlconaaGreat

/-
  What stays of memory below a block.
-/
namespace Go.Proofs.YtafbghlldlconaaGreat
set_option linter.unusedVariables false
set_option linter.unusedSimpArgs false
open Go.RowKit

theorem cellK {base b o : Nat} {w w' : World} (hb : Below base w w') (h : b < base) {u : Value} (hc : w.cell? ⟨b, o, none⟩ = some u) : w'.cell? ⟨b, o, none⟩ = some u := by
  rw [← hc]
  simp only [World.cell?, hb.block b h]
theorem blk_kept {W w' : World} {g : Nat} {o : Obj} (hb : Below W.heap.size W w') (h : W.heap[g]? = some o) : w'.heap[g]? = some o := by
  rw [hb.block _ (Array.getElem?_eq_some_iff.1 h).1, h]
end Go.Proofs.YtafbghlldlconaaGreat

/-
  PLAIN LAWS ON TEXTS (lists of bytes): no program in sight.
-/
namespace Go.Proofs.YtafbghlldlconaaGreat.PT
set_option linter.unusedVariables false
set_option linter.unusedSimpArgs false

/-- a capital letter of ASCII made small -/
def lowB (c : UInt8) : UInt8 := if 65 ≤ c.toNat ∧ c.toNat ≤ 90 then UInt8.ofNat (c.toNat + 32) else c
def low (l : List UInt8) : List UInt8 := l.map lowB

theorem lowB_yes (c : UInt8) (h1 : 65 ≤ c.toNat) (h2 : c.toNat ≤ 90) : ((lowB c).toNat : Int) = (c.toNat : Int) + 32 := by
  unfold lowB
  rw [if_pos ⟨h1, h2⟩]
  simp
  omega
theorem lowB_no (c : UInt8) (h : ¬ (65 ≤ c.toNat ∧ c.toNat ≤ 90)) : lowB c = c := by
  unfold lowB
  rw [if_neg h]
theorem lowB_twice (c : UInt8) : lowB (lowB c) = lowB c := by
  by_cases h : 65 ≤ c.toNat ∧ c.toNat ≤ 90
  · have h1 := lowB_yes c h.1 h.2
    exact lowB_no _ (by omega)
  · rw [lowB_no c h]; exact lowB_no c h
theorem low_twice (l : List UInt8) : low (low l) = low l := by
  unfold low
  simp [lowB_twice]
theorem low_length (l : List UInt8) : (low l).length = l.length := by simp [low]

theorem drop_cons' (s : ByteArray) (k : Nat) (h : k < s.size) : s.data.toList.drop k = s[k] :: s.data.toList.drop (k + 1) := by
  rw [List.drop_eq_getElem_cons (by simpa using h)]; rfl
theorem take_snoc (s : ByteArray) (k : Nat) (h : k < s.size) : s.data.toList.take (k + 1) = s.data.toList.take k ++ [s[k]] := by
  rw [List.take_succ_eq_append_getElem (by simpa using h)]; rfl
theorem indexByte_no {l : List UInt8} {c : UInt8} (h : c ∉ l) : Lib.indexByte l c = -1 := by
  induction l with
  | nil => rfl
  | cons b l ih =>
    simp only [List.mem_cons, not_or] at h
    rw [Lib.indexByte, ih h.2, if_neg (by simp; exact fun e => h.1 e.symm)]
    rfl
theorem indexByte_yes {l : List UInt8} {c : UInt8} (h : c ∈ l) : ∃ z : Nat, Lib.indexByte l c = z ∧ z < l.length := by
  induction l with
  | nil => cases h
  | cons b l ih =>
    by_cases e : b = c
    · exact ⟨0, by rw [Lib.indexByte, if_pos (by simpa using e)]; rfl, by simp⟩
    · have h' : c ∈ l := by
        rcases List.mem_cons.1 h with h | h
        · exact absurd h.symm e
        · exact h
      obtain ⟨z, hz, hl⟩ := ih h'
      refine ⟨z + 1, ?_, by simpa using hl⟩
      rw [Lib.indexByte, hz, if_neg (by simpa using e), if_neg (by simp)]
      rfl

end Go.Proofs.YtafbghlldlconaaGreat.PT

/-
  DOCUMENTS (rows of api.Node): how a slice of nodes reads.
-/
namespace Go.Proofs.YtafbghlldlconaaGreat
set_option linter.unusedVariables false
set_option linter.unusedSimpArgs false
open Go.RowKit Go.Lib PT

/-- an attribute -/
structure At where
  n : ByteArray
  v : ByteArray
/-- a node -/
structure Nd where
  nm : ByteArray
  tx : ByteArray
  ats : List At
  pa : Int
  ks : List Int
/-- the value v is a slice of attributes that reads l in the world w -/
def Atts (l : List At) (v : Value) (w : World) : Prop :=
  (l = [] ∧ ∃ a cap, v = .slice a 0 cap ∧ (a = none → cap = 0)) ∨ ∃ b o cap, v = .slice (some ⟨b, o, none⟩) l.length cap ∧ l.length ≤ cap ∧ b < w.heap.size ∧ ∀ j x, l[j]? = some x → w.cell? ⟨b, o + j * 2, none⟩ = some (.string x.n) ∧ w.cell? ⟨b, o + j * 2 + 1, none⟩ = some (.string x.v)
/-- .. of numbers -/
def Nums (l : List Int) (v : Value) (w : World) : Prop :=
  (l = [] ∧ ∃ a cap, v = .slice a 0 cap ∧ (a = none → cap = 0)) ∨ ∃ b o cap, v = .slice (some ⟨b, o, none⟩) l.length cap ∧ l.length ≤ cap ∧ b < w.heap.size ∧ ∀ j x, l[j]? = some x → w.cell? ⟨b, o + j, none⟩ = some (.int .i64 x)
/-- .. of nodes -/
def Nodes (l : List Nd) (v : Value) (w : World) : Prop :=
  (l = [] ∧ ∃ a cap, v = .slice a 0 cap ∧ (a = none → cap = 0)) ∨ ∃ b o cap, v = .slice (some ⟨b, o, none⟩) l.length cap ∧ l.length ≤ cap ∧ b < w.heap.size ∧ ∀ j x, l[j]? = some x → ∃ va vk,
    w.cell? ⟨b, o + j * 5, none⟩ = some (.string x.nm) ∧ w.cell? ⟨b, o + j * 5 + 1, none⟩ = some (.string x.tx) ∧ w.cell? ⟨b, o + j * 5 + 2, none⟩ = some va ∧ w.cell? ⟨b, o + j * 5 + 3, none⟩ = some (.int .i64 x.pa) ∧ w.cell? ⟨b, o + j * 5 + 4, none⟩ = some vk ∧
    Atts x.ats va w ∧ Nums x.ks vk w
theorem Atts.kept {l : List At} {v : Value} {w w' : World} (h : Atts l v w) (hb : Below w.heap.size w w') : Atts l v w' := by
  rcases h with h | ⟨b, o, cap, rfl, h0, h1, h4⟩
  · exact .inl h
  · refine .inr ⟨b, o, cap, rfl, h0, by have := hb.size; omega, fun j e he => ?_⟩
    obtain ⟨c1, c2⟩ := h4 j e he
    exact ⟨cellK hb h1 c1, cellK hb h1 c2⟩
theorem Nums.kept {l : List Int} {v : Value} {w w' : World} (h : Nums l v w) (hb : Below w.heap.size w w') : Nums l v w' := by
  rcases h with h | ⟨b, o, cap, rfl, h0, h1, h4⟩
  · exact .inl h
  · exact .inr ⟨b, o, cap, rfl, h0, by have := hb.size; omega, fun j e he => cellK hb h1 (h4 j e he)⟩
theorem Nodes.kept {l : List Nd} {v : Value} {w w' : World} (h : Nodes l v w) (hb : Below w.heap.size w w') : Nodes l v w' := by
  rcases h with h | ⟨b, o, cap, rfl, h0, h1, h4⟩
  · exact .inl h
  · refine .inr ⟨b, o, cap, rfl, h0, by have := hb.size; omega, fun j e he => ?_⟩
    obtain ⟨va, vk, c0, c1, c2, c3, c4, ha, hk⟩ := h4 j e he
    exact ⟨va, vk, cellK hb h1 c0, cellK hb h1 c1, cellK hb h1 c2, cellK hb h1 c3, cellK hb h1 c4, ha.kept hb, hk.kept hb⟩
theorem Atts.len {l : List At} {v : Value} {w : World} (h : Atts l v w) : ∃ a cap, v = .slice a l.length cap := by
  rcases h with ⟨rfl, a, cap, rfl, _⟩ | ⟨b, o, cap, rfl, _⟩ <;> exact ⟨_, _, rfl⟩
theorem Nums.len {l : List Int} {v : Value} {w : World} (h : Nums l v w) : ∃ a cap, v = .slice a l.length cap := by
  rcases h with ⟨rfl, a, cap, rfl, _⟩ | ⟨b, o, cap, rfl, _⟩ <;> exact ⟨_, _, rfl⟩
theorem Nodes.len {l : List Nd} {v : Value} {w : World} (h : Nodes l v w) : ∃ a cap, v = .slice a l.length cap := by
  rcases h with ⟨rfl, a, cap, rfl, _⟩ | ⟨b, o, cap, rfl, _⟩ <;> exact ⟨_, _, rfl⟩
theorem Atts.at {l : List At} {v : Value} {w : World} (h : Atts l v w) {k : Nat} (hk : k < l.length) : ∃ b o cap, v = .slice (some ⟨b, o, none⟩) l.length cap ∧ l.length ≤ cap ∧ b < w.heap.size ∧ w.cell? ⟨b, o + k * 2, none⟩ = some (.string l[k].n) ∧ w.cell? ⟨b, o + k * 2 + 1, none⟩ = some (.string l[k].v) := by
  rcases h with ⟨rfl, _⟩ | ⟨b, o, cap, rfl, h0, h1, h4⟩
  · simp at hk
  · obtain ⟨c1, c2⟩ := h4 k l[k] (List.getElem?_eq_getElem hk)
    exact ⟨b, o, cap, rfl, h0, h1, c1, c2⟩
theorem Nums.at {l : List Int} {v : Value} {w : World} (h : Nums l v w) {k : Nat} (hk : k < l.length) : ∃ b o cap, v = .slice (some ⟨b, o, none⟩) l.length cap ∧ b < w.heap.size ∧ w.cell? ⟨b, o + k, none⟩ = some (.int .i64 l[k]) := by
  rcases h with ⟨rfl, _⟩ | ⟨b, o, cap, rfl, h0, h1, h4⟩
  · simp at hk
  · exact ⟨b, o, cap, rfl, h1, h4 k l[k] (List.getElem?_eq_getElem hk)⟩
theorem Nodes.at {l : List Nd} {v : Value} {w : World} (h : Nodes l v w) {k : Nat} (hk : k < l.length) : ∃ b o cap va vk, v = .slice (some ⟨b, o, none⟩) l.length cap ∧ b < w.heap.size ∧
    w.cell? ⟨b, o + k * 5, none⟩ = some (.string l[k].nm) ∧ w.cell? ⟨b, o + k * 5 + 1, none⟩ = some (.string l[k].tx) ∧ w.cell? ⟨b, o + k * 5 + 2, none⟩ = some va ∧ w.cell? ⟨b, o + k * 5 + 3, none⟩ = some (.int .i64 l[k].pa) ∧ w.cell? ⟨b, o + k * 5 + 4, none⟩ = some vk ∧
    Atts l[k].ats va w ∧ Nums l[k].ks vk w := by
  rcases h with ⟨rfl, _⟩ | ⟨b, o, cap, rfl, h0, h1, h4⟩
  · simp at hk
  · obtain ⟨va, vk, c⟩ := h4 k l[k] (List.getElem?_eq_getElem hk)
    exact ⟨b, o, cap, va, vk, rfl, h1, c⟩
theorem Atts.take {l : List At} {b o cap i : Nat} {w : World} (h : Atts l (.slice (some ⟨b, o, none⟩) l.length cap) w) (hi : i < l.length) : Atts (l.take i) (.slice (some ⟨b, o, none⟩) i cap) w := by
  rcases h with ⟨rfl, _⟩ | ⟨b', o', cap', hv, h0, h1, h4⟩
  · simp at hi
  · cases hv
    refine .inr ⟨b, o, cap, by rw [List.length_take]; congr; omega, by rw [List.length_take]; omega, h1, fun j x hx => h4 j x ?_⟩
    rw [List.getElem?_take] at hx
    split at hx
    · exact hx
    · cases hx
/-- a node by value -/
def NdV (x : Nd) (va vk : Value) : Value := .agg #[.string x.nm, .string x.tx, va, .int .i64 x.pa, vk]
/-- the first place of an attribute with .. ; -1: there is none -/
def fi (l : List At) (f : At → Bool) : Int := match l.findIdx? f with
  | none => -1
  | some i => (i : Int)
def isN (s : ByteArray) (a : At) : Bool := decide (a.n = s)
theorem fi_none {l : List At} {f : At → Bool} (h : ∀ x ∈ l, f x = false) : fi l f = -1 := by
  unfold fi
  rw [List.findIdx?_eq_none_iff.2 (fun x hx => by simpa using h x hx)]
theorem fi_hit {l : List At} {f : At → Bool} {k : Nat} (hk : k < l.length) (hno : ∀ x ∈ l.take k, f x = false) (h : f l[k] = true) : fi l f = k := by
  unfold fi
  rw [List.findIdx?_eq_some_iff_getElem.2 ⟨hk, h, fun j hj => by
    have := hno l[j] (by
      rw [List.mem_take_iff_getElem]
      exact ⟨j, by omega, rfl⟩)
    simpa using this⟩]
theorem fi_cases (l : List At) (f : At → Bool) : (fi l f = -1 ∧ ∀ x ∈ l, f x = false) ∨ ∃ k, ∃ hk : k < l.length, fi l f = (k : Nat) ∧ f l[k] = true ∧ ∀ x ∈ l.take k, f x = false := by
  unfold fi
  cases h : l.findIdx? f with
  | none =>
    left
    exact ⟨rfl, fun x hx => by simpa using List.findIdx?_eq_none_iff.1 h x hx⟩
  | some i =>
    right
    obtain ⟨hk, h1, h2⟩ := List.findIdx?_eq_some_iff_getElem.1 h
    refine ⟨i, hk, rfl, h1, fun x hx => ?_⟩
    rw [List.mem_take_iff_getElem] at hx
    obtain ⟨j, hj, rfl⟩ := hx
    have := h2 j (by omega)
    simpa using this
theorem sTrue {a b : ByteArray} (h : a = b) : (a.toList == b.toList) = true := by rw [h]; exact beq_self_eq_true _
theorem sFalse {a b : ByteArray} (h : a ≠ b) : (a.toList == b.toList) = false := by
  rw [beq_eq_false_iff_ne, ByteArray.toList_eq, ByteArray.toList_eq]
  intro e
  exact h (ByteArray.ext (Array.toList_inj.1 e))
end Go.Proofs.YtafbghlldlconaaGreat

/-
  NAMES of elements and attributes: tree.named, ref10.Name: the walks.
-/
namespace Go.Proofs.YtafbghlldlconaaGreat
set_option linter.unusedVariables false
set_option linter.unusedSimpArgs false
open Go.RowKit PT

def smB (c : UInt8) : Bool := decide (97 ≤ c.toNat) && decide (c.toNat ≤ 122)
def otB (c : UInt8) : Bool := (decide (48 ≤ c.toNat) && decide (c.toNat ≤ 57)) || decide (c.toNat = 45)
def snB (c : UInt8) : Bool := smB c || otB c
/-- is a text a name? -/
def nmB (l : List UInt8) : Bool := decide (0 < l.length) && (decide (l.length ≤ 20) && ((match l.head? with | none => false | some c => smB c) && l.all snB))
theorem smB_no {c : UInt8} (h : smB c = false) : c.toNat < 97 ∨ 122 < c.toNat := by
  unfold smB at h
  rcases Bool.and_eq_false_iff.1 h with h | h
  · have := of_decide_eq_false h; omega
  · have := of_decide_eq_false h; omega
theorem smB_yes {c : UInt8} (h : smB c = true) : 97 ≤ c.toNat ∧ c.toNat ≤ 122 := by
  unfold smB at h
  rw [Bool.and_eq_true] at h
  exact ⟨of_decide_eq_true h.1, of_decide_eq_true h.2⟩
theorem otB_yes {c : UInt8} (h : otB c = true) : (48 ≤ c.toNat ∧ c.toNat ≤ 57) ∨ c.toNat = 45 := by
  unfold otB at h
  rw [Bool.or_eq_true, Bool.and_eq_true] at h
  rcases h with h | h
  · exact .inl ⟨of_decide_eq_true h.1, of_decide_eq_true h.2⟩
  · exact .inr (of_decide_eq_true h)
theorem otB_no {c : UInt8} (h : otB c = false) : (c.toNat < 48 ∨ 57 < c.toNat) ∧ c.toNat ≠ 45 := by
  unfold otB at h
  rw [Bool.or_eq_false_iff] at h
  refine ⟨?_, of_decide_eq_false h.2⟩
  rcases Bool.and_eq_false_iff.1 h.1 with h | h
  · have := of_decide_eq_false h; omega
  · have := of_decide_eq_false h; omega
theorem nmB_head {s : ByteArray} (h : 0 < s.size) : s.data.toList.head? = some s[0] := by
  have : s.data.toList = s[0] :: s.data.toList.drop 1 := by have := drop_cons' s 0 h; simpa using this
  rw [this]; rfl
theorem nmB_no0 {s : ByteArray} (h : s.size = 0) : nmB s.data.toList = false := by
  unfold nmB; rw [size_list, decide_eq_false (by omega)]; rfl
theorem nmB_long {s : ByteArray} (h : 20 < s.size) : nmB s.data.toList = false := by
  unfold nmB; rw [size_list, decide_eq_false (show ¬ s.size ≤ 20 by omega)]; simp
theorem nmB_first {s : ByteArray} (h : 0 < s.size) (hn : smB s[0] = false) : nmB s.data.toList = false := by
  unfold nmB; rw [nmB_head h]; simp only; rw [hn]; simp
theorem nmB_at {s : ByteArray} {k : Nat} (h : k < s.size) (hn : snB s[k] = false) : nmB s.data.toList = false := by
  unfold nmB
  have : s.data.toList.all snB = false := by
    rw [← List.take_append_drop k s.data.toList, List.all_append, drop_cons' s k h, List.all_cons, hn]; simp
  rw [this]; simp
theorem nmB_yes {s : ByteArray} (h : 0 < s.size) (h20 : s.size ≤ 20) (hs : smB s[0] = true) (ha : ∀ c ∈ s.data.toList, snB c = true) : nmB s.data.toList = true := by
  unfold nmB
  rw [nmB_head h, size_list, decide_eq_true h, decide_eq_true h20]
  simp only
  rw [hs, List.all_eq_true.2 ha]; rfl
theorem snB_snoc (s : ByteArray) (k : Nat) (h : k < s.size) (ha : ∀ c ∈ s.data.toList.take k, snB c = true) (hc : snB s[k] = true) : ∀ c ∈ s.data.toList.take (k + 1), snB c = true := by
  rw [take_snoc s k h]
  intro c hm
  rcases List.mem_append.1 hm with hm | hm
  · exact ha c hm
  · rw [List.mem_singleton] at hm; rw [hm]; exact hc
set_option maxHeartbeats 4000000 in
set_option maxRecDepth 100000 in
theorem named_any (s : ByteArray) (w : World) :
    Calls Tryz.prog 83 #[.string s] w fun e w' => e = .returned (.bool (nmB s.data.toList)) ∧ w = w' := by
  by_cases h0 : s.size = 0
  · have hR := Lib.hid (nmB_no0 h0)
    have hs : s = ⟨#[]⟩ := by
      apply ByteArray.ext
      apply Array.eq_empty_of_size_eq_zero
      exact h0
    subst hs
    clear h0
    go_enter Tryz.func83, Tryz.ntmps83
    go_wp2_with fail
    go_ret
    exact ⟨ret_bool hR.out.symm, rfl⟩
  · have hp : 0 < s.size := by omega
    have he : (s.toList == []) = false := by
      rw [beq_eq_false_iff_ne, ByteArray.toList_eq]
      intro e
      have := congrArg List.length e
      rw [size_list, List.length_nil] at this
      omega
    have he2 : s.toList.isEmpty = false := by
      rw [ByteArray.toList_eq]
      cases hl : s.data.toList with
      | nil => have := congrArg List.length hl; rw [size_list, List.length_nil] at this; omega
      | cons _ _ => rfl
    by_cases h20 : s.size ≤ 20
    · have h20' : decide ((20 : Int) < (s.size : Int)) = false := by simp; omega
      cases hsm : smB s[0]
      · have hR := Lib.hid (nmB_first hp hsm)
        rcases smB_no hsm with h1 | h1
        · have h1' : (s[0].toNat : Int) < 97 := by omega
          clear hsm h0
          go_enter Tryz.func83, Tryz.ntmps83
          go_wp2_with fail
          go_ret
          exact ⟨ret_bool hR.out.symm, rfl⟩
        · have h1' : (122 : Int) < (s[0].toNat : Int) := by omega
          clear hsm h0
          go_enter Tryz.func83, Tryz.ntmps83
          go_wp2_with fail
          go_ret
          exact ⟨ret_bool hR.out.symm, rfl⟩
      · obtain ⟨h1, h2⟩ := smB_yes hsm
        have HS := Lib.hid hsm
        have h1' : decide ((s[0].toNat : Int) < 97) = false := by simp; omega
        have h2' : decide ((122 : Int) < (s[0].toNat : Int)) = false := by simp; omega
        clear hsm h0
        go_enter Tryz.func83, Tryz.ntmps83
        go_wp2_with fail
        clear h1 h2 h1' h2' he he2
        go_loop [24] (fun i => ∃ k : Nat, k ≤ s.size ∧ i = .int .i64 k ∧ Hid (∀ c ∈ s.data.toList.take k, snB c = true)) (fun i => s.size - (intOf i).toNat)
        case atStart => exact ⟨0, Nat.zero_le _, rfl, Lib.hid (by simp)⟩
        case round =>
          obtain ⟨k, hk, rfl, hA⟩ := hrel
          by_cases hlt : k < s.size
          · have hT := Lib.hid (snB_snoc s k hlt hA.out)
            have hF := Lib.hid (@nmB_at s k hlt)
            generalize hg : s[k] = c at *
            have HG := Lib.hid hg
            cases hsm : smB c
            · cases hot : otB c
              · have hR := Lib.hid (hF.out (by unfold snB; rw [hsm, hot]; rfl))
                have a1 := smB_no hsm
                obtain ⟨a2, a3⟩ := otB_no hot
                have a3' : ((c.toNat : Int) != 45) = true := by simp only [bne_iff_ne, ne_eq]; omega
                clear hsm hot
                rcases a1 with a1 | a1 <;> rcases a2 with a2 | a2
                all_goals (try (exfalso; omega))
                all_goals
                  (try have b1 : (c.toNat : Int) < 97 := by omega)
                  (try have b1 : (122 : Int) < (c.toNat : Int) := by omega)
                  (try have b2 : (c.toNat : Int) < 48 := by omega)
                  (try have b2 : (57 : Int) < (c.toNat : Int) := by omega)
                  go_wp2_with fail
                  go_ret
                  exact ⟨ret_bool hR.out.symm, rfl⟩
              · have hN := Lib.hid (hT.out (by unfold snB; rw [hsm, hot]; rfl))
                have a1 := smB_no hsm
                have a2 := otB_yes hot
                clear hsm hot
                rcases a2 with ⟨a2, a3⟩ | a2
                · have b1 : (c.toNat : Int) < 97 := by omega
                  have b2 : decide ((c.toNat : Int) < 48) = false := by simp; omega
                  have b3 : decide ((57 : Int) < (c.toNat : Int)) = false := by simp; omega
                  go_wp2_with fail
                  go_round
                  case rel => exact ⟨k + 1, by omega, by go_num, hN⟩
                  case measure => simp [intOf]; omega
                · have b1 : (c.toNat : Int) < 97 := by omega
                  have b2 : (c.toNat : Int) < 48 := by omega
                  have b3 : ((c.toNat : Int) != 45) = false := by simp; omega
                  go_wp2_with fail
                  go_round
                  case rel => exact ⟨k + 1, by omega, by go_num, hN⟩
                  case measure => simp [intOf]; omega
            · have hN := Lib.hid (hT.out (by unfold snB; rw [hsm]; rfl))
              obtain ⟨a1, a2⟩ := smB_yes hsm
              have b1 : decide ((c.toNat : Int) < 97) = false := by simp; omega
              have b2 : decide ((122 : Int) < (c.toNat : Int)) = false := by simp; omega
              clear hsm
              go_wp2_with fail
              go_round
              case rel => exact ⟨k + 1, by omega, by go_num, hN⟩
              case measure => simp [intOf]; omega
          · obtain rfl : k = s.size := by omega
            have hA' := hA.out
            rw [List.take_of_length_le (by rw [size_list]; exact Nat.le_refl _)] at hA'
            have hR := Lib.hid (nmB_yes hp h20 HS.out hA')
            clear hA'
            go_wp2_with fail
            go_ret
            exact ⟨ret_bool hR.out.symm, rfl⟩
    · have hR := Lib.hid (nmB_long (s := s) (by omega))
      have h20' : (20 : Int) < (s.size : Int) := by omega
      clear h0
      go_enter Tryz.func83, Tryz.ntmps83
      go_wp2_with fail
      go_ret
      exact ⟨ret_bool hR.out.symm, rfl⟩
set_option maxHeartbeats 4000000 in
set_option maxRecDepth 100000 in
theorem refName10_any (s : ByteArray) (hs : s.size ≤ 140737488351232) (w : World) :
    Calls Tryz.prog 94 #[.string s] w fun e w' => e = .returned (.bool (nmB s.data.toList)) ∧ w = w' := by
  go_enter Tryz.func94, Tryz.ntmps94
  go_wp2_with fail
  go_loop [3] (fun i => ∃ k : Nat, k ≤ s.size ∧ i = .int .i64 k ∧ Hid ((∀ c ∈ s.data.toList.take k, snB c = true) ∧ (0 < k → ∀ h : 0 < s.size, smB s[0] = true))) (fun i => s.size - (intOf i).toNat)
  case atStart => exact ⟨0, Nat.zero_le _, rfl, Lib.hid ⟨by simp, fun h => by omega⟩⟩
  case round =>
    obtain ⟨k, hk, rfl, hA⟩ := hrel
    by_cases hlt : k < s.size
    · have hT := Lib.hid (snB_snoc s k hlt hA.out.1)
      have hF := Lib.hid (@nmB_at s k hlt)
      have hF0 := Lib.hid (fun (e : k = 0) (h : smB s[k] = false) => nmB_first (s := s) (by omega) (by subst e; exact h))
      have hS0 := Lib.hid (fun (h : k ≠ 0 ∨ smB s[k] = true) => show 0 < k + 1 → ∀ h : 0 < s.size, smB s[0] = true from fun _ h' => by
        rcases h with h | h
        · exact hA.out.2 (by omega) h'
        · by_cases e : k = 0
          · subst e; exact h
          · exact hA.out.2 (by omega) h')
      generalize hg : s[k] = c at *
      have HG := Lib.hid hg
      cases hsm : smB c
      · have a1 := smB_no hsm
        have b1 : ((97 : Int) ≤ (c.toNat : Int)) ∨ ((c.toNat : Int) < 97) := by omega
        by_cases hk0 : k = 0
        · have hR := Lib.hid (hF0.out hk0 hsm)
          clear hsm hF0 hS0
          subst hk0
          cases hot : otB c
          · obtain ⟨a2, a3⟩ := otB_no hot
            have a3' : ((c.toNat : Int) == 45) = false := intNe (by omega)
            clear hot b1
            rcases a1 with a1 | a1 <;> rcases a2 with a2 | a2
            all_goals (try (exfalso; omega))
            all_goals
              (try have b1 : decide ((97 : Int) ≤ (c.toNat : Int)) = false := by simp; omega)
              (try have b1 : (97 : Int) ≤ (c.toNat : Int) := by omega)
              (try have b2 : decide ((c.toNat : Int) ≤ 122) = false := by simp; omega)
              (try have b3 : decide ((48 : Int) ≤ (c.toNat : Int)) = false := by simp; omega)
              (try have b3 : (48 : Int) ≤ (c.toNat : Int) := by omega)
              (try have b4 : decide ((c.toNat : Int) ≤ 57) = false := by simp; omega)
              (try have b4 : (c.toNat : Int) ≤ 57 := by omega)
              go_wp2_with fail
              go_ret
              exact ⟨ret_bool hR.out.symm, rfl⟩
          · have a2 := otB_yes hot
            clear hot b1
            rcases a2 with ⟨a2, a3⟩ | a2
            · have b1 : decide ((97 : Int) ≤ (c.toNat : Int)) = false := by simp; omega
              have b3 : (48 : Int) ≤ (c.toNat : Int) := by omega
              have b4 : (c.toNat : Int) ≤ 57 := by omega
              go_wp2_with fail
              go_ret
              exact ⟨ret_bool hR.out.symm, rfl⟩
            · have b1 : decide ((97 : Int) ≤ (c.toNat : Int)) = false := by simp; omega
              have b3 : decide ((48 : Int) ≤ (c.toNat : Int)) = false := by simp; omega
              have b5 : ((c.toNat : Int) == 45) = true := by simp; omega
              go_wp2_with fail
              go_ret
              exact ⟨ret_bool hR.out.symm, rfl⟩
        · have hk0' : ((k : Int) == 0) = false := intNe (by omega)
          cases hot : otB c
          · have hR := Lib.hid (hF.out (by unfold snB; rw [hsm, hot]; rfl))
            obtain ⟨a2, a3⟩ := otB_no hot
            have a3' : ((c.toNat : Int) == 45) = false := intNe (by omega)
            clear hot hsm b1 hF0 hS0
            rcases a1 with a1 | a1 <;> rcases a2 with a2 | a2
            all_goals (try (exfalso; omega))
            all_goals
              (try have b1 : decide ((97 : Int) ≤ (c.toNat : Int)) = false := by simp; omega)
              (try have b1 : (97 : Int) ≤ (c.toNat : Int) := by omega)
              (try have b2 : decide ((c.toNat : Int) ≤ 122) = false := by simp; omega)
              (try have b3 : decide ((48 : Int) ≤ (c.toNat : Int)) = false := by simp; omega)
              (try have b3 : (48 : Int) ≤ (c.toNat : Int) := by omega)
              (try have b4 : decide ((c.toNat : Int) ≤ 57) = false := by simp; omega)
              (try have b4 : (c.toNat : Int) ≤ 57 := by omega)
              go_wp2_with fail
              go_ret
              exact ⟨ret_bool hR.out.symm, rfl⟩
          · have hN := Lib.hid (And.intro (hT.out (by unfold snB; rw [hsm, hot]; rfl)) (hS0.out (.inl hk0)))
            have a2 := otB_yes hot
            clear hot hsm b1 hF0 hS0 hk0
            rcases a2 with ⟨a2, a3⟩ | a2
            · have b1 : decide ((97 : Int) ≤ (c.toNat : Int)) = false := by simp; omega
              have b3 : (48 : Int) ≤ (c.toNat : Int) := by omega
              have b4 : (c.toNat : Int) ≤ 57 := by omega
              go_wp2_with fail
              go_round
              case rel => exact ⟨k + 1, by omega, by go_num, hN⟩
              case measure => simp [intOf]; omega
            · have b1 : decide ((97 : Int) ≤ (c.toNat : Int)) = false := by simp; omega
              have b3 : decide ((48 : Int) ≤ (c.toNat : Int)) = false := by simp; omega
              have b5 : ((c.toNat : Int) == 45) = true := by simp; omega
              go_wp2_with fail
              go_round
              case rel => exact ⟨k + 1, by omega, by go_num, hN⟩
              case measure => simp [intOf]; omega
      · have hN := Lib.hid (And.intro (hT.out (by unfold snB; rw [hsm]; rfl)) (hS0.out (.inr hsm)))
        obtain ⟨a1, a2⟩ := smB_yes hsm
        have b1 : (97 : Int) ≤ (c.toNat : Int) := by omega
        have b2 : (c.toNat : Int) ≤ 122 := by omega
        clear hsm hF0 hS0
        by_cases c1 : 48 ≤ c.toNat ∧ c.toNat ≤ 57
        · omega
        · have b4 : decide ((c.toNat : Int) ≤ 57) = false := by simp; omega
          have b3 : (48 : Int) ≤ (c.toNat : Int) := by omega
          have b5 : ((c.toNat : Int) == 45) = false := intNe (by omega)
          clear c1
          go_wp2_with fail
          go_round
          case rel => exact ⟨k + 1, by omega, by go_num, hN⟩
          case measure => simp [intOf]; omega
    · obtain rfl : k = s.size := by omega
      obtain ⟨hA1, hA2⟩ := hA.out
      rw [List.take_of_length_le (by rw [size_list]; exact Nat.le_refl _)] at hA1
      by_cases h0 : s.size = 0
      · have hR := Lib.hid (nmB_no0 h0)
        have h0' : decide (0 < s.size) = false := decide_eq_false (by omega)
        have h0'' : s.size ≤ 0 := by omega
        clear h0 hA1 hA2
        go_wp2_with fail
        go_ret
        exact ⟨ret_bool hR.out.symm, rfl⟩
      · have h0' : (0 : Int) < (s.size : Int) := by omega
        by_cases h20 : s.size ≤ 20
        · have hR := Lib.hid (nmB_yes (by omega) h20 (hA2 (by omega) (by omega)) hA1)
          have h20' : (s.size : Int) ≤ 20 := by omega
          clear hA1 hA2 h0
          go_wp2_with fail
          go_ret
          exact ⟨ret_bool hR.out.symm, rfl⟩
        · have hR := Lib.hid (nmB_long (s := s) (by omega))
          have h20' : decide ((s.size : Int) ≤ 20) = false := decide_eq_false (by omega)
          clear hA1 hA2 h0
          go_wp2_with fail
          go_ret
          exact ⟨ret_bool hR.out.symm, rfl⟩
end Go.Proofs.YtafbghlldlconaaGreat
