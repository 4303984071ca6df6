import Derived.Test.YtafbghlldlconaaGreatDoorRows
import Derived.WalkKit
import Derived.Lib.ConvBytes
import Derived.Lib.Hide
import Derived.Deep.QuietTactic
import Derived.BigQuiet
import Derived.WalkSpells
import Derived.Lib.Bytealg
import Derived.Laws.Cells
import Derived.Laws.CopyRow
import Derived.Deep.RegionHeld3
import Derived.Deep.CutRange
import Derived.Deep.DeepCutAuto
import Derived.Shelf.Abstract
/-
  SMALL HELPERS ON WORLDS, used by all walks of this seat.
-/
namespace Go.Proofs.YtafbghlldlconaaGreatDoor
set_option linter.unusedVariables false
set_option linter.unusedSimpArgs false
open Go.RowKit

theorem ret_bool {a b : Bool} (h : a = b) : Ending.returned (.bool a) = .returned (.bool b) := by rw [h]
theorem ret_int {k : IntKind} {a b : Int} (h : a = b) : Ending.returned (.int k a) = .returned (.int k b) := by rw [h]
theorem ret_str {a b : List UInt8} (h : a = b) : Ending.returned (.string ⟨a.toArray⟩) = .returned (.string ⟨b.toArray⟩) := by rw [h]
theorem byteEq_yes {a b : UInt8} (h : a = b) : ((a.toNat : Int) == (b.toNat : Int)) = true := by subst h; simp
theorem byteEq_no {a b : UInt8} (h : a ≠ b) : ((a.toNat : Int) == (b.toNat : Int)) = false := by
  rw [beq_eq_false_iff_ne]
  intro e
  exact h (UInt8.toNat_inj.1 (by omega))
theorem byteNe_yes {a b : UInt8} (h : a = b) : ((a.toNat : Int) != (b.toNat : Int)) = false := by subst h; simp
theorem byteNe_no {a b : UInt8} (h : a ≠ b) : ((a.toNat : Int) != (b.toNat : Int)) = true := by
  rw [bne, byteEq_no h]; rfl
theorem intNe {a b : Int} (h : a ≠ b) : (a == b) = false := by rw [beq_eq_false_iff_ne]; exact h
theorem addr_add (b o j : Nat) : (⟨b, o, none⟩ : Addr).add j = ⟨b, o + j, none⟩ := by
  simp only [Addr.add]
  split
  · rename_i h; subst h; rfl
  · rfl

/-- behind '[]byte(s)' -/
theorem bytesWorld_below (w : World) (e : TypeId) (s : ByteArray) : Below w.heap.size w (Lib.bytesWorld w e s) := by
  refine ⟨rfl, rfl, rfl, by rw [Lib.bytesWorld_size]; omega, fun k hk => Lib.bytesWorld_at_old w e s k hk⟩

theorem frozen_bytesWorld (w : World) (e : TypeId) (s : ByteArray) (j : Nat) (hj : j < s.size) : (Lib.bytesWorld w e s).frozen? ⟨w.heap.size, j, none⟩ = false := by
  have := Lib.bytesWorld_at_new w e s
  have hz : s.size ≤ (Lib.bytesCells w e s).size := by simp [Lib.bytesCells]
  simp [World.frozen?, this]
  omega

/-- one call behind another -/
theorem bs {w a b : World} (h : Below w.heap.size w a) (k : Below a.heap.size a b) : Below w.heap.size w b := h.trans (k.mono h.size)
/-- the size of a text that is told by a list -/
theorem size_mk (l : List UInt8) : (ByteArray.mk l.toArray).size = l.length := by simp [ByteArray.size]
theorem size_list (s : ByteArray) : s.data.toList.length = s.size := by simp
theorem mk_list (s : ByteArray) : ByteArray.mk s.data.toList.toArray = s := rfl
theorem ret_text {a b : ByteArray} (h : a = b) : Ending.returned (.string a) = .returned (.string b) := by rw [h]
theorem mk_append (a b : List UInt8) : ByteArray.mk a.toArray ++ ByteArray.mk b.toArray = ⟨(a ++ b).toArray⟩ := by
  apply ByteArray.ext
  simp

end Go.Proofs.YtafbghlldlconaaGreatDoor

/-
  A region that only reads: its draws.
-/
namespace Go.Proofs.YtafbghlldlconaaGreatDoor
set_option linter.unusedVariables false
set_option linter.unusedSimpArgs false
open Go.RowKit

theorem below_draws (w : World) (n : Nat) : Below w.heap.size w (w.drewN n) := ⟨rfl, rfl, rfl, Nat.le_refl _, fun _ _ => rfl⟩

end Go.Proofs.YtafbghlldlconaaGreatDoor

/-
  What stays of memory below a block.
-/
namespace Go.Proofs.YtafbghlldlconaaGreatDoor
set_option linter.unusedVariables false
set_option linter.unusedSimpArgs false
open Go.RowKit

theorem cellK {base b o : Nat} {w w' : World} (hb : Below base w w') (h : b < base) {u : Value} (hc : w.cell? ⟨b, o, none⟩ = some u) : w'.cell? ⟨b, o, none⟩ = some u := by
  rw [← hc]
  simp only [World.cell?, hb.block b h]
theorem blk_kept {W w' : World} {g : Nat} {o : Obj} (hb : Below W.heap.size W w') (h : W.heap[g]? = some o) : w'.heap[g]? = some o := by
  rw [hb.block _ (Array.getElem?_eq_some_iff.1 h).1, h]
end Go.Proofs.YtafbghlldlconaaGreatDoor

/-
  PLAIN LAWS ON TEXTS (lists of bytes): no program in sight.
-/
namespace Go.Proofs.YtafbghlldlconaaGreatDoor.PT
set_option linter.unusedVariables false
set_option linter.unusedSimpArgs false

/-- a capital letter of ASCII made small -/
def lowB (c : UInt8) : UInt8 := if 65 ≤ c.toNat ∧ c.toNat ≤ 90 then UInt8.ofNat (c.toNat + 32) else c
def low (l : List UInt8) : List UInt8 := l.map lowB

theorem lowB_yes (c : UInt8) (h1 : 65 ≤ c.toNat) (h2 : c.toNat ≤ 90) : ((lowB c).toNat : Int) = (c.toNat : Int) + 32 := by
  unfold lowB
  rw [if_pos ⟨h1, h2⟩]
  simp
  omega
theorem lowB_no (c : UInt8) (h : ¬ (65 ≤ c.toNat ∧ c.toNat ≤ 90)) : lowB c = c := by
  unfold lowB
  rw [if_neg h]
theorem lowB_twice (c : UInt8) : lowB (lowB c) = lowB c := by
  by_cases h : 65 ≤ c.toNat ∧ c.toNat ≤ 90
  · have h1 := lowB_yes c h.1 h.2
    exact lowB_no _ (by omega)
  · rw [lowB_no c h]; exact lowB_no c h
theorem low_twice (l : List UInt8) : low (low l) = low l := by
  unfold low
  simp [lowB_twice]
theorem low_length (l : List UInt8) : (low l).length = l.length := by simp [low]

theorem drop_cons' (s : ByteArray) (k : Nat) (h : k < s.size) : s.data.toList.drop k = s[k] :: s.data.toList.drop (k + 1) := by
  rw [List.drop_eq_getElem_cons (by simpa using h)]; rfl
theorem take_snoc (s : ByteArray) (k : Nat) (h : k < s.size) : s.data.toList.take (k + 1) = s.data.toList.take k ++ [s[k]] := by
  rw [List.take_succ_eq_append_getElem (by simpa using h)]; rfl
theorem indexByte_no {l : List UInt8} {c : UInt8} (h : c ∉ l) : Lib.indexByte l c = -1 := by
  induction l with
  | nil => rfl
  | cons b l ih =>
    simp only [List.mem_cons, not_or] at h
    rw [Lib.indexByte, ih h.2, if_neg (by simp; exact fun e => h.1 e.symm)]
    rfl
theorem indexByte_yes {l : List UInt8} {c : UInt8} (h : c ∈ l) : ∃ z : Nat, Lib.indexByte l c = z ∧ z < l.length := by
  induction l with
  | nil => cases h
  | cons b l ih =>
    by_cases e : b = c
    · exact ⟨0, by rw [Lib.indexByte, if_pos (by simpa using e)]; rfl, by simp⟩
    · have h' : c ∈ l := by
        rcases List.mem_cons.1 h with h | h
        · exact absurd h.symm e
        · exact h
      obtain ⟨z, hz, hl⟩ := ih h'
      refine ⟨z + 1, ?_, by simpa using hl⟩
      rw [Lib.indexByte, hz, if_neg (by simpa using e), if_neg (by simp)]
      rfl

end Go.Proofs.YtafbghlldlconaaGreatDoor.PT

/-
  DOCUMENTS (rows of api.Node): how a slice of nodes reads.
-/
namespace Go.Proofs.YtafbghlldlconaaGreatDoor
set_option linter.unusedVariables false
set_option linter.unusedSimpArgs false
open Go.RowKit Go.Lib PT

/-- an attribute -/
structure At where
  n : ByteArray
  v : ByteArray
/-- a node -/
structure Nd where
  nm : ByteArray
  tx : ByteArray
  ats : List At
  pa : Int
  ks : List Int
/-- the value v is a slice of attributes that reads l in the world w -/
def Atts (l : List At) (v : Value) (w : World) : Prop :=
  (l = [] ∧ ∃ a cap, v = .slice a 0 cap ∧ (a = none → cap = 0)) ∨ ∃ b o cap, v = .slice (some ⟨b, o, none⟩) l.length cap ∧ l.length ≤ cap ∧ b < w.heap.size ∧ ∀ j x, l[j]? = some x → w.cell? ⟨b, o + j * 2, none⟩ = some (.string x.n) ∧ w.cell? ⟨b, o + j * 2 + 1, none⟩ = some (.string x.v)
/-- .. of numbers -/
def Nums (l : List Int) (v : Value) (w : World) : Prop :=
  (l = [] ∧ ∃ a cap, v = .slice a 0 cap ∧ (a = none → cap = 0)) ∨ ∃ b o cap, v = .slice (some ⟨b, o, none⟩) l.length cap ∧ l.length ≤ cap ∧ b < w.heap.size ∧ ∀ j x, l[j]? = some x → w.cell? ⟨b, o + j, none⟩ = some (.int .i64 x)
/-- .. of nodes -/
def Nodes (l : List Nd) (v : Value) (w : World) : Prop :=
  (l = [] ∧ ∃ a cap, v = .slice a 0 cap ∧ (a = none → cap = 0)) ∨ ∃ b o cap, v = .slice (some ⟨b, o, none⟩) l.length cap ∧ l.length ≤ cap ∧ b < w.heap.size ∧ ∀ j x, l[j]? = some x → ∃ va vk,
    w.cell? ⟨b, o + j * 5, none⟩ = some (.string x.nm) ∧ w.cell? ⟨b, o + j * 5 + 1, none⟩ = some (.string x.tx) ∧ w.cell? ⟨b, o + j * 5 + 2, none⟩ = some va ∧ w.cell? ⟨b, o + j * 5 + 3, none⟩ = some (.int .i64 x.pa) ∧ w.cell? ⟨b, o + j * 5 + 4, none⟩ = some vk ∧
    Atts x.ats va w ∧ Nums x.ks vk w
theorem Atts.kept {l : List At} {v : Value} {w w' : World} (h : Atts l v w) (hb : Below w.heap.size w w') : Atts l v w' := by
  rcases h with h | ⟨b, o, cap, rfl, h0, h1, h4⟩
  · exact .inl h
  · refine .inr ⟨b, o, cap, rfl, h0, by have := hb.size; omega, fun j e he => ?_⟩
    obtain ⟨c1, c2⟩ := h4 j e he
    exact ⟨cellK hb h1 c1, cellK hb h1 c2⟩
theorem Nums.kept {l : List Int} {v : Value} {w w' : World} (h : Nums l v w) (hb : Below w.heap.size w w') : Nums l v w' := by
  rcases h with h | ⟨b, o, cap, rfl, h0, h1, h4⟩
  · exact .inl h
  · exact .inr ⟨b, o, cap, rfl, h0, by have := hb.size; omega, fun j e he => cellK hb h1 (h4 j e he)⟩
theorem Nodes.kept {l : List Nd} {v : Value} {w w' : World} (h : Nodes l v w) (hb : Below w.heap.size w w') : Nodes l v w' := by
  rcases h with h | ⟨b, o, cap, rfl, h0, h1, h4⟩
  · exact .inl h
  · refine .inr ⟨b, o, cap, rfl, h0, by have := hb.size; omega, fun j e he => ?_⟩
    obtain ⟨va, vk, c0, c1, c2, c3, c4, ha, hk⟩ := h4 j e he
    exact ⟨va, vk, cellK hb h1 c0, cellK hb h1 c1, cellK hb h1 c2, cellK hb h1 c3, cellK hb h1 c4, ha.kept hb, hk.kept hb⟩
theorem Atts.len {l : List At} {v : Value} {w : World} (h : Atts l v w) : ∃ a cap, v = .slice a l.length cap := by
  rcases h with ⟨rfl, a, cap, rfl, _⟩ | ⟨b, o, cap, rfl, _⟩ <;> exact ⟨_, _, rfl⟩
theorem Nums.len {l : List Int} {v : Value} {w : World} (h : Nums l v w) : ∃ a cap, v = .slice a l.length cap := by
  rcases h with ⟨rfl, a, cap, rfl, _⟩ | ⟨b, o, cap, rfl, _⟩ <;> exact ⟨_, _, rfl⟩
theorem Nodes.len {l : List Nd} {v : Value} {w : World} (h : Nodes l v w) : ∃ a cap, v = .slice a l.length cap := by
  rcases h with ⟨rfl, a, cap, rfl, _⟩ | ⟨b, o, cap, rfl, _⟩ <;> exact ⟨_, _, rfl⟩
theorem Atts.at {l : List At} {v : Value} {w : World} (h : Atts l v w) {k : Nat} (hk : k < l.length) : ∃ b o cap, v = .slice (some ⟨b, o, none⟩) l.length cap ∧ l.length ≤ cap ∧ b < w.heap.size ∧ w.cell? ⟨b, o + k * 2, none⟩ = some (.string l[k].n) ∧ w.cell? ⟨b, o + k * 2 + 1, none⟩ = some (.string l[k].v) := by
  rcases h with ⟨rfl, _⟩ | ⟨b, o, cap, rfl, h0, h1, h4⟩
  · simp at hk
  · obtain ⟨c1, c2⟩ := h4 k l[k] (List.getElem?_eq_getElem hk)
    exact ⟨b, o, cap, rfl, h0, h1, c1, c2⟩
theorem Nums.at {l : List Int} {v : Value} {w : World} (h : Nums l v w) {k : Nat} (hk : k < l.length) : ∃ b o cap, v = .slice (some ⟨b, o, none⟩) l.length cap ∧ b < w.heap.size ∧ w.cell? ⟨b, o + k, none⟩ = some (.int .i64 l[k]) := by
  rcases h with ⟨rfl, _⟩ | ⟨b, o, cap, rfl, h0, h1, h4⟩
  · simp at hk
  · exact ⟨b, o, cap, rfl, h1, h4 k l[k] (List.getElem?_eq_getElem hk)⟩
theorem Nodes.at {l : List Nd} {v : Value} {w : World} (h : Nodes l v w) {k : Nat} (hk : k < l.length) : ∃ b o cap va vk, v = .slice (some ⟨b, o, none⟩) l.length cap ∧ b < w.heap.size ∧
    w.cell? ⟨b, o + k * 5, none⟩ = some (.string l[k].nm) ∧ w.cell? ⟨b, o + k * 5 + 1, none⟩ = some (.string l[k].tx) ∧ w.cell? ⟨b, o + k * 5 + 2, none⟩ = some va ∧ w.cell? ⟨b, o + k * 5 + 3, none⟩ = some (.int .i64 l[k].pa) ∧ w.cell? ⟨b, o + k * 5 + 4, none⟩ = some vk ∧
    Atts l[k].ats va w ∧ Nums l[k].ks vk w := by
  rcases h with ⟨rfl, _⟩ | ⟨b, o, cap, rfl, h0, h1, h4⟩
  · simp at hk
  · obtain ⟨va, vk, c⟩ := h4 k l[k] (List.getElem?_eq_getElem hk)
    exact ⟨b, o, cap, va, vk, rfl, h1, c⟩
theorem Atts.take {l : List At} {b o cap i : Nat} {w : World} (h : Atts l (.slice (some ⟨b, o, none⟩) l.length cap) w) (hi : i < l.length) : Atts (l.take i) (.slice (some ⟨b, o, none⟩) i cap) w := by
  rcases h with ⟨rfl, _⟩ | ⟨b', o', cap', hv, h0, h1, h4⟩
  · simp at hi
  · cases hv
    refine .inr ⟨b, o, cap, by rw [List.length_take]; congr; omega, by rw [List.length_take]; omega, h1, fun j x hx => h4 j x ?_⟩
    rw [List.getElem?_take] at hx
    split at hx
    · exact hx
    · cases hx
/-- a node by value -/
def NdV (x : Nd) (va vk : Value) : Value := .agg #[.string x.nm, .string x.tx, va, .int .i64 x.pa, vk]
/-- the first place of an attribute with .. ; -1: there is none -/
def fi (l : List At) (f : At → Bool) : Int := match l.findIdx? f with
  | none => -1
  | some i => (i : Int)
def isN (s : ByteArray) (a : At) : Bool := decide (a.n = s)
theorem fi_none {l : List At} {f : At → Bool} (h : ∀ x ∈ l, f x = false) : fi l f = -1 := by
  unfold fi
  rw [List.findIdx?_eq_none_iff.2 (fun x hx => by simpa using h x hx)]
theorem fi_hit {l : List At} {f : At → Bool} {k : Nat} (hk : k < l.length) (hno : ∀ x ∈ l.take k, f x = false) (h : f l[k] = true) : fi l f = k := by
  unfold fi
  rw [List.findIdx?_eq_some_iff_getElem.2 ⟨hk, h, fun j hj => by
    have := hno l[j] (by
      rw [List.mem_take_iff_getElem]
      exact ⟨j, by omega, rfl⟩)
    simpa using this⟩]
theorem fi_cases (l : List At) (f : At → Bool) : (fi l f = -1 ∧ ∀ x ∈ l, f x = false) ∨ ∃ k, ∃ hk : k < l.length, fi l f = (k : Nat) ∧ f l[k] = true ∧ ∀ x ∈ l.take k, f x = false := by
  unfold fi
  cases h : l.findIdx? f with
  | none =>
    left
    exact ⟨rfl, fun x hx => by simpa using List.findIdx?_eq_none_iff.1 h x hx⟩
  | some i =>
    right
    obtain ⟨hk, h1, h2⟩ := List.findIdx?_eq_some_iff_getElem.1 h
    refine ⟨i, hk, rfl, h1, fun x hx => ?_⟩
    rw [List.mem_take_iff_getElem] at hx
    obtain ⟨j, hj, rfl⟩ := hx
    have := h2 j (by omega)
    simpa using this
theorem sTrue {a b : ByteArray} (h : a = b) : (a.toList == b.toList) = true := by rw [h]; exact beq_self_eq_true _
theorem sFalse {a b : ByteArray} (h : a ≠ b) : (a.toList == b.toList) = false := by
  rw [beq_eq_false_iff_ne, ByteArray.toList_eq, ByteArray.toList_eq]
  intro e
  exact h (ByteArray.ext (Array.toList_inj.1 e))
end Go.Proofs.YtafbghlldlconaaGreatDoor

/-
  ATTRIBUTES: slices.IndexFunc, ContainsFunc over them; tree.find, kinds.attr, owner.has; ref10.Find, ref14.Attr, ref15.Has: the walks.
-/
namespace Go.Proofs.YtafbghlldlconaaGreatDoor
set_option linter.unusedVariables false
set_option linter.unusedSimpArgs false
open Go.RowKit

theorem take_mem_snoc {α : Type} {l : List α} {k : Nat} (hk : k < l.length) {P : α → Prop} (h : ∀ x ∈ l.take k, P x) (hx : P l[k]) : ∀ x ∈ l.take (k + 1), P x := by
  rw [List.take_succ_eq_append_getElem hk]
  intro x hm
  rcases List.mem_append.1 hm with hm | hm
  · exact h x hm
  · rw [List.mem_singleton] at hm; rw [hm]; exact hx
def atV (x : At) : Value := .agg #[.string x.n, .string x.v]
set_option maxHeartbeats 1000000 in
set_option maxRecDepth 100000 in
theorem indexFuncA_any (l : List At) (f : At → Bool) (u : Value) (g : Nat) (lb : Array Value) (eg : ∀ args w, (callFunc g args).run Tryz.prog w = .ok (.enter g args) w) (hl : l.length ≤ 1000000000000000) (w : World) (hU : Atts l u w)
    (hp : ∀ W, Below w.heap.size w W → ∀ x ∈ l, Calls Tryz.prog g (#[atV x] ++ lb) W fun e w' => e = .returned (.bool (f x)) ∧ Below W.heap.size W w') :
    Calls Tryz.prog 92 #[u, .func (.func g) #[] lb] w fun e w' => e = .returned (.int .i64 (fi l f)) ∧ Below w.heap.size w w' := by
  obtain ⟨a, cap, rfl⟩ := hU.len
  go_enter Tryz.func92, Tryz.ntmps92
  go_wp2_with fail
  go_loopw [8] (fun i wr => ∃ k : Nat, k ≤ l.length ∧ i = .int .i64 k ∧ Hid (∀ x ∈ l.take k, f x = false) ∧ Below w.heap.size w wr) (fun i _ => l.length - (intOf i).toNat)
  case atStart => exact ⟨0, Nat.zero_le _, rfl, Lib.hid (by simp), Below.refl _ _⟩
  case round =>
    obtain ⟨k, hk, rfl, hA, hbel⟩ := hrel
    by_cases hlt : k < l.length
    · obtain ⟨b, o, cap', hv, _, hb, hc0, hc1⟩ := (hU.kept hbel).at hlt
      cases hv
      have hT := Lib.hid (fun h => take_mem_snoc (P := fun x => f x = false) hlt hA.out h)
      have hH := Lib.hid (fun h => fi_hit hlt hA.out h)
      have hM := List.getElem_mem hlt
      have hcall := hp wr hbel l[k] hM
      generalize l[k] = x at *
      unfold atV at hcall
      have HC := Lib.hid hcall
      clear hcall
      go_wp2_with fail
      refine HC.out.mono ?_
      rintro e w2 ⟨rfl, hb2⟩
      cases hf : f x
      · have hN := Lib.hid (hT.out hf)
        clear hf
        go_wp2_with fail
        go_roundw
        case rel => exact ⟨k + 1, by omega, by go_num, hN, hbel.trans (hb2.mono hbel.size)⟩
        case measure => simp [intOf]; omega
      · have hN := Lib.hid (hH.out hf)
        clear hf
        go_wp2_with fail
        go_ret
        exact ⟨ret_int hN.out.symm, hbel.trans (hb2.mono hbel.size)⟩
    · obtain rfl : k = l.length := by omega
      have hN := Lib.hid (show fi l f = -1 from fi_none (by have := hA.out; rwa [List.take_of_length_le (Nat.le_refl _)] at this))
      go_wp2_with fail
      go_ret
      exact ⟨ret_int hN.out.symm, hbel⟩
/-- is there one? -/
def hasA (l : List At) (f : At → Bool) : Bool := decide (0 ≤ fi l f)
set_option maxHeartbeats 1000000 in
set_option maxRecDepth 100000 in
theorem findFn_any (x : At) (s : ByteArray) (B : Nat) (w : World) (hB : B < w.heap.size) (hc : w.cell? ⟨B, 0, none⟩ = some (.string s)) :
    Calls Tryz.prog 129 #[atV x, .pointer (some ⟨B, 0, none⟩)] w fun e w' => e = .returned (.bool (isN s x)) ∧ Below w.heap.size w w' := by
  unfold atV
  have hb0 := (Below.refl w.heap.size w).alloc (Nat.le_refl _) (.cells #[.string x.n, .string x.v] 117)
  by_cases h : x.n = s
  · have hR := Lib.hid (show isN s x = true from decide_eq_true h)
    have hq := sTrue h
    clear h
    go_enter Tryz.func129, Tryz.ntmps129
    go_wp2_with fail
    go_ret
    exact ⟨ret_bool hR.out.symm, hb0⟩
  · have hR := Lib.hid (show isN s x = false from decide_eq_false h)
    have hq := sFalse h
    clear h
    go_enter Tryz.func129, Tryz.ntmps129
    go_wp2_with fail
    go_ret
    exact ⟨ret_bool hR.out.symm, hb0⟩
set_option maxHeartbeats 1000000 in
set_option maxRecDepth 100000 in
theorem find_at (l : List At) (u : Value) (s : ByteArray) (hl : l.length ≤ 1000000000000000) (w : World) (hU : Atts l u w) :
    Calls Tryz.prog 95 #[u, .string s] w fun e w' => e = .returned (.int .i64 (fi l (isN s))) ∧ Below w.heap.size w w' := by
  have hb0 := (Below.refl w.heap.size w).alloc (Nat.le_refl _) (.cells #[.string s] 9)
  have hn0 := Go.heap_alloc_new w (.cells #[.string s] 9)
  have hs0 : (w.alloc (.cells #[.string s] 9)).heap.size = w.heap.size + 1 := by simp
  have hU0 := hU.kept hb0
  have hc0 : (w.alloc (.cells #[.string s] 9)).cell? ⟨w.heap.size, 0, none⟩ = some (.string s) := by simp only [World.cell?, hn0]; rfl
  obtain ⟨a, cap, rfl⟩ := hU.len
  have hp : ∀ W, Below (w.alloc (.cells #[.string s] 9)).heap.size (w.alloc (.cells #[.string s] 9)) W → ∀ x ∈ l, Calls Tryz.prog 129 (#[atV x] ++ #[.pointer (some ⟨w.heap.size, 0, none⟩)]) W fun e w' => e = .returned (.bool (isN s x)) ∧ Below W.heap.size W w' := by
    intro W hW x hx
    have hWs := hW.size
    exact findFn_any x s w.heap.size W (by omega) (cellK hW (by omega) hc0)
  have HP := Lib.hid hp
  have HS := Lib.hid hs0
  clear hp hs0
  go_enter Tryz.func95, Tryz.ntmps95
  go_wp2_with fail
  refine (indexFuncA_any l (isN s) _ 129 #[.pointer (some ⟨w.heap.size, 0, none⟩)] (enters_of Tryz.func129 (by kernel_rfl) rfl) hl _ hU0 HP.out).mono ?_
  rintro e w2 ⟨rfl, hb2⟩
  go_wp2_with fail
  go_ret
  exact ⟨rfl, bs hb0 hb2⟩
set_option maxHeartbeats 1000000 in
set_option maxRecDepth 100000 in
theorem refFind10_any (l : List At) (u : Value) (s : ByteArray) (hl : l.length ≤ 1000000000000000) (w : World) (hU : Atts l u w) :
    Calls Tryz.prog 109 #[u, .string s] w fun e w' => e = .returned (.int .i64 (fi l (isN s))) ∧ w = w' := by
  obtain ⟨a, cap, rfl⟩ := hU.len
  go_enter Tryz.func109, Tryz.ntmps109
  go_wp2_with fail
  go_loop [5] (fun i => ∃ k : Nat, k ≤ l.length ∧ i = .int .i64 k ∧ Hid (∀ x ∈ l.take k, isN s x = false)) (fun i => l.length - (intOf i).toNat)
  case atStart => exact ⟨0, Nat.zero_le _, rfl, Lib.hid (by simp)⟩
  case round =>
    obtain ⟨k, hk, rfl, hA⟩ := hrel
    by_cases hlt : k < l.length
    · obtain ⟨b, o, cap', hv, _, hb, hc0, hc1⟩ := hU.at hlt
      cases hv
      have hT := Lib.hid (fun h => take_mem_snoc (P := fun x => isN s x = false) hlt hA.out h)
      have hH := Lib.hid (fun h => fi_hit hlt hA.out h)
      generalize l[k] = x at *
      by_cases h : x.n = s
      · have hN := Lib.hid (hH.out (show isN s x = true from decide_eq_true h))
        have hq := sTrue h
        clear h
        go_wp2_with fail
        go_ret
        exact ⟨ret_int hN.out.symm, rfl⟩
      · have hN := Lib.hid (hT.out (show isN s x = false from decide_eq_false h))
        have hq := sFalse h
        clear h
        go_wp2_with fail
        go_round
        case rel => exact ⟨k + 1, by omega, by go_num, hN⟩
        case measure => simp [intOf]; omega
    · obtain rfl : k = l.length := by omega
      have hN := Lib.hid (show fi l (isN s) = -1 from fi_none (by have := hA.out; rwa [List.take_of_length_le (Nat.le_refl _)] at this))
      go_wp2_with fail
      go_ret
      exact ⟨ret_int hN.out.symm, rfl⟩
/-- an attribute's value -/
def atO (l : List At) (s : ByteArray) : Option ByteArray := if 0 ≤ fi l (isN s) then (l[(fi l (isN s)).toNat]?).map (·.v) else none
theorem atO_none {l : List At} {s : ByteArray} (h : fi l (isN s) = -1) : atO l s = none := by unfold atO; rw [h]; rfl
theorem atO_some {l : List At} {s : ByteArray} {k : Nat} (hk : k < l.length) (h : fi l (isN s) = (k : Nat)) : atO l s = some l[k].v := by
  unfold atO
  rw [h, if_pos (by omega), Int.toNat_natCast, List.getElem?_eq_getElem hk]; rfl
theorem hasA_iff (l : List At) (s : ByteArray) : hasA l (isN s) = (atO l s).isSome := by
  unfold hasA
  rcases fi_cases l (isN s) with ⟨h, _⟩ | ⟨k, hk, h, _⟩
  · rw [atO_none h, h]; rfl
  · rw [atO_some hk h, h]; simp
/-- what is returned of an attribute: its value, and whether there is one -/
def atT (o : Option ByteArray) : Value := .tuple #[.string (o.getD ⟨#[]⟩), .bool o.isSome]
set_option maxHeartbeats 1000000 in
set_option maxRecDepth 100000 in
theorem refAttr14_any (l : List At) (u : Value) (s : ByteArray) (hl : l.length ≤ 1000000000000000) (w : World) (hU : Atts l u w) :
    Calls Tryz.prog 71 #[u, .string s] w fun e w' => e = .returned (atT (atO l s)) ∧ w = w' := by
  obtain ⟨a, cap, rfl⟩ := hU.len
  rcases fi_cases l (isN s) with ⟨h, _⟩ | ⟨k, hk, h, _⟩
  · have hR := Lib.hid (atO_none h)
    have HF := Lib.hid h
    clear h
    go_enter Tryz.func71, Tryz.ntmps71
    go_wp2_with fail
    refine (refFind10_any l _ s hl _ hU).mono ?_
    rintro e w' ⟨rfl, rfl⟩
    rw [HF.out]
    go_wp2_with fail
    go_ret2
    exact ⟨by rw [hR.out]; rfl, rfl⟩
  · have hR := Lib.hid (atO_some hk h)
    have HF := Lib.hid h
    obtain ⟨b, o, cap', hv, _, hb, hc0, hc1⟩ := hU.at hk
    cases hv
    clear h
    generalize l[k] = x at *
    have hk0 : (0 : Int) ≤ (k : Int) := by omega
    have hk1 : (k : Int) < (l.length : Int) := by omega
    have hk2 : decide ((k : Int) < 0) = false := by simp
    go_enter Tryz.func71, Tryz.ntmps71
    go_wp2_with fail
    refine (refFind10_any l _ s hl _ hU).mono ?_
    rintro e w' ⟨rfl, rfl⟩
    rw [HF.out]
    go_wp2_with fail
    go_ret2
    exact ⟨by rw [hR.out]; rfl, rfl⟩
set_option maxHeartbeats 1000000 in
set_option maxRecDepth 100000 in
theorem refHas15_any (x : Nd) (va vk : Value) (s : ByteArray) (hl : x.ats.length ≤ 1000000000000000) (w : World) (hU : Atts x.ats va w) :
    Calls Tryz.prog 70 #[NdV x va vk, .string s] w fun e w' => e = .returned (.bool (atO x.ats s).isSome) ∧ Below w.heap.size w w' := by
  unfold NdV
  have hb0 := (Below.refl w.heap.size w).alloc (Nat.le_refl _) (.cells #[.string x.nm, .string x.tx, va, .int .i64 x.pa, vk] 54)
  have hU0 := hU.kept hb0
  obtain ⟨a, cap, rfl⟩ := hU.len
  have hR := Lib.hid (show decide (0 ≤ fi x.ats (isN s)) = (atO x.ats s).isSome from hasA_iff x.ats s)
  go_enter Tryz.func70, Tryz.ntmps70
  go_wp2_with fail
  refine (refFind10_any x.ats _ s hl _ hU0).mono ?_
  rintro e w' ⟨rfl, rfl⟩
  generalize fi x.ats (isN s) = z at hR ⊢
  go_wp2_with fail
  go_ret
  exact ⟨ret_bool hR.out, hb0⟩
set_option maxHeartbeats 1000000 in
set_option maxRecDepth 100000 in
theorem attrFn_any (x : At) (s : ByteArray) (B : Nat) (w : World) (hB : B < w.heap.size) (hc : w.cell? ⟨B, 0, none⟩ = some (.string s)) :
    Calls Tryz.prog 93 #[atV x, .pointer (some ⟨B, 0, none⟩)] w fun e w' => e = .returned (.bool (isN s x)) ∧ Below w.heap.size w w' := by
  unfold atV
  have hb0 := (Below.refl w.heap.size w).alloc (Nat.le_refl _) (.cells #[.string x.n, .string x.v] 117)
  by_cases h : x.n = s
  · have hR := Lib.hid (show isN s x = true from decide_eq_true h)
    have hq := sTrue h
    clear h
    go_enter Tryz.func93, Tryz.ntmps93
    go_wp2_with fail
    go_ret
    exact ⟨ret_bool hR.out.symm, hb0⟩
  · have hR := Lib.hid (show isN s x = false from decide_eq_false h)
    have hq := sFalse h
    clear h
    go_enter Tryz.func93, Tryz.ntmps93
    go_wp2_with fail
    go_ret
    exact ⟨ret_bool hR.out.symm, hb0⟩
end Go.Proofs.YtafbghlldlconaaGreatDoor
