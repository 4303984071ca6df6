/-
  strings.Builder, a builder of the call's own: copyCheck, WriteByte, String. (The kit's contracts on copyCheck and the writers are not laid at this program: they are walked here.)
-/
import Derived.Test.YtapbljaohhcpoaaDoorBytes
import Derived.Test.YtapbljaohhcpoaaDoorShelf
import Derived.Lib.FrozenHead2
import Derived.Lib.OthersKept
import Derived.Laws.Externs
namespace Go.Proofs.YtapbljaohhcpoaaDoor
open Go.RowKit Go.Lib

/-- block b is a builder (made since B blocks lay) that holds the bytes l -/
def SB (B b : Nat) (l : List UInt8) (w : World) : Prop := IsBuilderF 60 5 B b (byteCells l) w
/-- what a call on the builder b leaves as it was -/
def SK (B b : Nat) (w w' : World) : Prop := Below B w w' ∧ OthersKept 5 (some b) w w'
theorem SK.refl (B b : Nat) (w : World) : SK B b w w := ⟨Below.refl _ _, OthersKept.refl _ _ _⟩
theorem SK.trans {B b : Nat} {a c d : World} (h : SK B b a c) (k : SK B b c d) : SK B b a d := ⟨h.1.trans k.1, h.2.trans k.2⟩

theorem sizeBuilder : (Tryd.prog.info? 60).map (·.size) = some 2 := by kernel_rfl
theorem liesBuilder : liesAt Tryd.prog Tryd.prog.depth 60 (2 / Tryd.prog.cellsOf 60) 0 60 1 = true := by kernel_rfl

theorem SB.fresh (w : World) : SB w.heap.size w.heap.size [] (w.alloc (.cells #[.pointer none, .slice none 0 0] 60)) := IsBuilderF.of (fresh_isBuilder _ _ w)

theorem SB.lt {B b : Nat} {l : List UInt8} {w : World} (h : SB B b l w) : b < w.heap.size := h.elim (fun h => h.lt) (fun h => h.lt)
theorem rowF_kept {B n m : Nat} {e : TypeId} {v : Value} {xs : List Value} {w w' : World} (h : w.ownsRowF B e n v m xs) (hb : Below w.heap.size w w') : w'.ownsRowF B e n v m xs := by
  obtain ⟨z1, ⟨rfl, z2⟩ | ⟨g, cap, cur, fz, rfl, z2, z3, z4⟩⟩ := h
  · exact ⟨z1, .inl ⟨rfl, z2⟩⟩
  · exact ⟨z1, .inr ⟨g, cap, cur, fz, rfl, z2, by rw [hb.block g (Array.getElem?_eq_some_iff.1 z3).1]; exact z3, z4⟩⟩
theorem SB.kept {B b : Nat} {l : List UInt8} {w w' : World} (h : SB B b l w) (hb : Below w.heap.size w w') : SB B b l w' := by
  rcases h with ⟨q1, u, q2, q3, q4⟩ | ⟨q1, u, q2, q3, q4⟩
  · exact .inl ⟨q1, u, by rw [hb.block b (Array.getElem?_eq_some_iff.1 q2).1]; exact q2, rowF_kept q3 hb, q4⟩
  · exact .inr ⟨q1, u, by rw [hb.block b (Array.getElem?_eq_some_iff.1 q2).1]; exact q2, rowF_kept q3 hb, q4⟩
theorem SB.alloc {B b : Nat} {l : List UInt8} {w : World} (h : SB B b l w) (o : Obj) : SB B b l (w.alloc o) := IsBuilderF.alloc h o
theorem SK.alloc {B b : Nat} {a w : World} (h : SK B b a w) (hB : B ≤ w.heap.size) (o : Obj) : SK B b a (w.alloc o) := ⟨h.1.alloc hB o, h.2.alloc o⟩
theorem run_eql_same_ptr {P : Program} (w : World) (t : TypeId) {u : TypeId} {j : TypeInfo} (ht : P.underlying t = some (.pointer u)) (hj : P.info? u = some j) (a : Addr) : (binOp .neq t (.pointer (some a)) (.pointer (some a))).run P w = .ok (.bool false) w := by
  exact run_neq_ptr_same w a ht hj

set_option maxRecDepth 100000 in
theorem copyCheck_used (b : Nat) (w : World) (h0 : w.cell? ⟨b, 0, none⟩ = some (.pointer (some ⟨b, 0, none⟩))) :
    Calls Tryd.prog 57 #[.pointer (some ⟨b, 0, none⟩)] w fun e w' => e = .returned (.tuple #[]) ∧ w = w' := by
  obtain ⟨j, hj, _⟩ := Option.map_eq_some_iff.1 sizeBuilder
  have hn := run_neq_ptr_same w ⟨b, 0, none⟩ Tryd.underlying57 hj
  go_enter Tryd.func57, Tryd.ntmps57
  go_wp2
  go_end0
  exact ⟨rfl, rfl⟩

set_option maxRecDepth 100000 in
theorem copyCheck_fresh (b : Nat) (w : World) (h0 : w.cell? ⟨b, 0, none⟩ = some (.pointer none)) (hsh : w.shape? b = some (60, 2)) (hfz : w.frozen? ⟨b, 0, none⟩ = false) :
    Calls Tryd.prog 57 #[.pointer (some ⟨b, 0, none⟩)] w fun e w' => e = .returned (.tuple #[]) ∧ w' = w.setCell ⟨b, 0, none⟩ (.pointer (some ⟨b, 0, none⟩)) := by
  obtain ⟨j, hj, hjs⟩ := Option.map_eq_some_iff.1 sizeBuilder
  have hn := fun (W : World) => run_neq_ptr_same W ⟨b, 0, none⟩ Tryd.underlying57 hj
  go_enter Tryd.func57, Tryd.ntmps57
  go_wp2
  rw [run_to_unsafe w ⟨b, 0, none⟩ Tryd.underlying57 Tryd.underlying88 hj (by rw [hjs]; decide) hsh (Nat.zero_lt_succ 1)]
  simp only [Result.andThen]
  rw [Oper.upon_value]
  go_wp2
  rw [run_callFunc_extern Tryd.func74 (by kernel_rfl) (by kernel_rfl) (by kernel_rfl) (e := Extern.AbiNoEscape.same) (by kernel_rfl)]
  rw [run_noEscape]
  simp only [Result.andThen]
  rw [Oper.upon_value]
  go_wp2
  rw [run_from_unsafe w ⟨b, 0, none⟩ Tryd.underlying88 Tryd.underlying57 hj hsh liesBuilder]
  simp only [Result.andThen]
  rw [Oper.upon_value]
  go_wp2
  go_end0
  exact ⟨rfl, rfl⟩

theorem copyCheck_any (B b : Nat) (bs : List Value) (w : World) (h : IsBuilderF 60 5 B b bs w) :
    Calls Tryd.prog 57 #[.pointer (some ⟨b, 0, none⟩)] w fun e w' => e = .returned (.tuple #[]) ∧ BuilderAtF 60 5 B b (.pointer (some ⟨b, 0, none⟩)) bs w' ∧ SK B b w w' := by
  rcases h with h | h
  · refine (copyCheck_fresh b w h.cell0 h.shape h.frozen0).mono ?_
    rintro e w' ⟨rfl, rfl⟩
    exact ⟨rfl, h.used _, (Below.refl B w).setCell (p := ⟨b, 0, none⟩) h.1 _, (OthersKept.refl _ _ w).setCell ⟨b, 0, none⟩ rfl _⟩
  · refine (copyCheck_used b w h.cell0).mono ?_
    rintro e w' ⟨rfl, rfl⟩
    exact ⟨rfl, h, SK.refl _ _ _⟩

set_option maxHeartbeats 1000000 in
set_option maxRecDepth 100000 in
theorem writeByte_any (B b : Nat) (l : List UInt8) (c : UInt8) {n : Int} (hn : n = (c.toNat : Int)) (w : World) (h : SB B b l w) (hlen : l.length < 70368744177664) (hBw : B ≤ w.heap.size) :
    Calls Tryd.prog 92 #[.pointer (some ⟨b, 0, none⟩), .int .u8 n] w fun e w' => e = .returned .nilIface ∧ SB B b (l ++ [c]) w' ∧ SK B b w w' := by
  subst hn
  obtain ⟨i0, hi, hz0, hz1, hz2⟩ := info_parts info_u8
  have hl : (byteCells l).length = l.length := byteCells_length l
  go_enter Tryd.func92, Tryd.ntmps92
  go_wp2_with fail
  refine (copyCheck_any B b _ _ h).mono ?_
  rintro e w1 ⟨rfl, h1, hb1, hk1⟩
  obtain ⟨hB, v, hbk, hown, hne⟩ := h1
  have c0 : w1.cell? ⟨b, 0, none⟩ = some (.pointer (some ⟨b, 0, none⟩)) := by rw [cell_of_heap hbk]; rfl
  have c1 : w1.cell? ⟨b, 1, none⟩ = some v := by rw [cell_of_heap hbk]; rfl
  go_wp2_with (at_builtin; refine wpList_append_ownF _ rfl _ _ 58 rfl B 5 i0 (.int .u8 0) 1 1 Tryd.underlying58 hi hz0 hz1 hz2 rfl (by decide) _ _ _ rfl (hown.alloc _) ⟨w1.heap.size, 0, none⟩ 1 1 [.int .u8 c.toNat] rfl rfl ?c1 ?c2 ?c3 ?c4 ?c5 ?_)
  case c1 =>
    intro j u hj
    match j, hj with
    | 0, hj => simp at hj; subst hj; simp [addr_add]
  case c2 => intro u hu; simp at hu; subst hu; rfl
  case c3 => unfold maxLen; omega
  case c4 => omega
  case c5 => have := hb1.size; simp; omega
  intro v' w2 hown' hgrow _
  have hlt : b < w1.heap.size := by
    rcases Nat.lt_or_ge b w1.heap.size with h' | h'
    · exact h'
    · simp [Array.getElem?_eq_none h'] at hbk
  have hb2 : w2.heap[b]? = some (.cells #[.pointer (some ⟨b, 0, none⟩), v] 60 (0, 0)) := by
    rw [hgrow.block b (by simp; omega) (fun e => hne e.symm), alloc_old w1 _ b hlt]
    exact hbk
  have d0 : w2.cell? ⟨b, 0, none⟩ = some (.pointer (some ⟨b, 0, none⟩)) := by rw [cell_of_heap hb2]; rfl
  have d1 : w2.cell? ⟨b, 1, none⟩ = some v := by rw [cell_of_heap hb2]; rfl
  have f1 : w2.frozen? ⟨b, 1, none⟩ = false := frozen_of_heap hb2 1
  obtain ⟨g, cap, rfl⟩ : ∃ g cap, v' = .slice (some ⟨g, 0, none⟩) (l.length + 1) cap := by
    rcases hown'.2 with ⟨_, h0⟩ | ⟨g, cap, cur, fz, hv, _⟩
    · omega
    · exact ⟨g, cap, hv⟩
  go_wp2
  go_ret
  refine ⟨rfl, Or.inr ?_, ?_, ((hk1.alloc _).grown hgrow (ownsRowF_kind (hown.alloc _))).setCell ⟨b, 1, none⟩ rfl _⟩
  · rw [byteCells_append, byteCells_one]
    exact BuilderAtF.put hB hb2 (bs' := byteCells l ++ [.int .u8 c.toNat]) (by rw [List.length_append, hl]; exact hown') (by decide)
  · exact ((hb1.alloc (by have := hb1.size; omega) _).grown hgrow (by have := hb1.size; simp; omega) (fun k hk => (hown.lt k hk).1)).setCell (p := ⟨b, 1, none⟩) hB _
set_option maxHeartbeats 1000000 in
set_option maxRecDepth 100000 in
theorem writeString_any (B b : Nat) (l : List UInt8) (s : ByteArray) (w : World) (h : SB B b l w) (hlen : l.length + s.size < 70368744177664) (h1s : 1 ≤ s.size) (hBw : B ≤ w.heap.size) :
    Calls Tryd.prog 36 #[.pointer (some ⟨b, 0, none⟩), .string s] w fun e w' => e = .returned (.tuple #[.int .i64 s.size, .nilIface]) ∧ SB B b (l ++ s.data.toList) w' ∧ SK B b w w' := by
  obtain ⟨i0, hi, hz0, hz1, hz2⟩ := info_parts info_u8
  have hl : (byteCells l).length = l.length := byteCells_length l
  go_enter Tryd.func36, Tryd.ntmps36
  go_wp2_with fail
  refine (copyCheck_any B b _ _ h).mono ?_
  rintro e w1 ⟨rfl, h1, hb1, hk1⟩
  obtain ⟨hB, v, hbk, hown, hne⟩ := h1
  have c0 : w1.cell? ⟨b, 0, none⟩ = some (.pointer (some ⟨b, 0, none⟩)) := by rw [cell_of_heap hbk]; rfl
  have c1 : w1.cell? ⟨b, 1, none⟩ = some v := by rw [cell_of_heap hbk]; rfl
  go_wp2_with (at_builtin; refine wpList_append_own_stringF _ rfl _ _ 58 9 rfl B 5 i0 Tryd.underlying58 Tryd.underlying9 hi hz0 hz1 hz2 _ _ _ rfl hown s rfl ?c3 ?c4 ?c5 ?_)
  case c3 => unfold maxLen; omega
  case c4 => omega
  case c5 => have := hb1.size; omega
  intro v' w2 hown' hgrow _
  have hlt : b < w1.heap.size := by
    rcases Nat.lt_or_ge b w1.heap.size with h' | h'
    · exact h'
    · simp [Array.getElem?_eq_none h'] at hbk
  have hb2 : w2.heap[b]? = some (.cells #[.pointer (some ⟨b, 0, none⟩), v] 60 (0, 0)) := by
    rw [hgrow.block b hlt (fun e => hne e.symm)]
    exact hbk
  have d0 : w2.cell? ⟨b, 0, none⟩ = some (.pointer (some ⟨b, 0, none⟩)) := by rw [cell_of_heap hb2]; rfl
  have d1 : w2.cell? ⟨b, 1, none⟩ = some v := by rw [cell_of_heap hb2]; rfl
  have f1 : w2.frozen? ⟨b, 1, none⟩ = false := frozen_of_heap hb2 1
  obtain ⟨g, cap, rfl⟩ : ∃ g cap, v' = .slice (some ⟨g, 0, none⟩) (l.length + s.size) cap := by
    rcases hown'.2 with ⟨_, h0⟩ | ⟨g, cap, cur, fz, hv, _⟩
    · omega
    · exact ⟨g, cap, hv⟩
  go_wp2
  go_ret2
  refine ⟨rfl, Or.inr ?_, ?_, (hk1.grown hgrow (ownsRowF_kind hown)).setCell ⟨b, 1, none⟩ rfl _⟩
  · rw [byteCells_append, ← strCells_eq]
    have hsl : (strCells s).length = s.size := by rw [strCells_eq, byteCells_length]; exact size_list s
    exact BuilderAtF.put hB hb2 (bs' := byteCells l ++ strCells s) (by rw [List.length_append, hl, hsl]; exact hown') (by decide)
  · exact (hb1.grown hgrow (by have := hb1.size; omega) (fun k hk => (hown.lt k hk).1)).setCell (p := ⟨b, 1, none⟩) hB _
theorem string_any (B b : Nat) (l : List UInt8) (w : World) (h : SB B b l w) (hBw : B ≤ w.heap.size) :
    Calls Tryd.prog 37 #[.pointer (some ⟨b, 0, none⟩)] w fun e w' => e = .returned (.string ⟨l.toArray⟩) ∧ SB B b l w' ∧ SK B b w w' :=
  (Tryd.Builder_String_any_k B b l w h hBw).mono fun _ _ ⟨he, h1, h2, h3⟩ => ⟨he, h1, h2, h3⟩
end Go.Proofs.YtapbljaohhcpoaaDoor
