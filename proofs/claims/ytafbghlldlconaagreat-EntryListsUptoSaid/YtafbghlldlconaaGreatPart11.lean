import Derived.Test.YtafbghlldlconaaGreatPart9
import Derived.Test.YtafbghlldlconaaGreatPart4
import Derived.Test.YtafbghlldlconaaGreatShelf
import Derived.Lib.FrozenHead2
import Derived.Lib.OthersKept
import Derived.Laws.Externs
import Derived.Test.YtafbghlldlconaaGreatPart1
import Derived.Test.YtafbghlldlconaaGreatPart8
import Derived.Test.YtafbghlldlconaaGreatPart3
/-
  A NODE's TEXT: tree.Text, ref10.Text: the walks.
-/
namespace Go.Proofs.YtafbghlldlconaaGreat
set_option linter.unusedVariables false
set_option linter.unusedSimpArgs false
open Go.RowKit PT

theorem one_tx {x : Nd} (h : oneB x = true) : x.tx.size ≤ 4000 := by
  unfold oneB at h
  split at h
  · simp only [Bool.and_eq_true, decide_eq_true_iff] at h
    exact h.2.2
  · simp only [Bool.and_eq_true, decide_eq_true_iff] at h
    omega
/-- the text, when so many children have come -/
def txP (l : List Nd) (i : Int) (k : Nat) : ByteArray := ((ksOf l i).take k).foldl (fun s j => s ++ txOf l j) (txOf l i)
theorem txP_start (l : List Nd) (i : Int) : txP l i 0 = txOf l i := rfl
theorem txP_snoc {l : List Nd} {i : Int} {k : Nat} (hk : k < (ksOf l i).length) : txP l i (k + 1) = txP l i k ++ txOf l (ksOf l i)[k] := by
  unfold txP
  rw [List.take_succ_eq_append_getElem hk, List.foldl_append]
  rfl
theorem txP_all (l : List Nd) (i : Int) : txP l i (ksOf l i).length = txtF l i := by
  unfold txP txtF
  rw [List.take_length]
theorem tx_size {l : List Nd} (h : RightP l) {i : Int} (h0 : 0 ≤ i) (h1 : i < l.length) : (txOf l i).size ≤ 4000 := by
  obtain ⟨q, rfl⟩ := Int.eq_ofNat_of_zero_le h0
  have hq : q < l.length := by omega
  rw [txOf_at hq]
  exact one_tx (h.node q _ (List.getElem?_eq_getElem hq)).1
theorem txP_size {l : List Nd} (h : RightP l) {i : Int} (h0 : 0 ≤ i) (h1 : i < l.length) : ∀ k, k ≤ (ksOf l i).length → (txP l i k).size ≤ 4000 * (k + 1)
  | 0, _ => by rw [txP_start]; have := tx_size h h0 h1; omega
  | k + 1, hk => by
    have hk' : k < (ksOf l i).length := by omega
    obtain ⟨c0, c1, _⟩ := h.kid h0 h1 (List.getElem_mem hk')
    have h2 := tx_size h c0 c1
    have h3 := txP_size h h0 h1 k (by omega)
    rw [txP_snoc hk', ByteArray.size_append]
    omega
theorem ks_len {l : List Nd} (h : RightP l) {i : Int} (h0 : 0 ≤ i) (h1 : i < l.length) : (ksOf l i).length ≤ 400 :=
  Nat.le_trans (nodup_len (h.nodup h0 h1) (fun c' hc' => ⟨(h.kid h0 h1 hc').1, (h.kid h0 h1 hc').2.1⟩)) h.max
theorem txtF_size {l : List Nd} (h : RightP l) {i : Int} (h0 : 0 ≤ i) (h1 : i < l.length) : (txtF l i).size ≤ 1604000 := by
  rw [← txP_all]
  have h2 := txP_size h h0 h1 _ (Nat.le_refl _)
  have h3 := ks_len h h0 h1
  have h4 : 4000 * ((ksOf l i).length + 1) ≤ 4000 * 401 := Nat.mul_le_mul_left _ (by omega)
  omega
set_option maxHeartbeats 1000000 in
set_option maxRecDepth 100000 in
theorem treeText_any (l : List Nd) (v : Value) (K : Nat) (hkl : K < l.length) (hRP : RightP l) (hz : ∀ x ∈ l, Fits x) (w : World) (hU : Nodes l v w) :
    Calls Tryz.prog 100 #[v, .int .i64 K] w fun e w' => e = .returned (.string (txtF l K)) ∧ Below w.heap.size w w' := by
  have hmax := hRP.max
  have HH := Lib.hid (hasB_yes hRP (k := (K : Int)) (by omega) (by omega))
  obtain ⟨a, cap, rfl⟩ := hU.len
  go_enter Tryz.func100, Tryz.ntmps100
  go_wp2_with fail
  refine (has_any l _ _ (by omega) hz _ hU).mono ?_
  rintro e w' ⟨rfl, hbW⟩
  rw [HH.out]
  have hUW := hU.kept hbW
  obtain ⟨b, o, cap', va, vk, hv, hb, c0, c1, c2, c3, c4, hat, hks⟩ := hUW.at hkl
  cases hv
  have hke := ksOf_at hkl
  have hte := txOf_at hkl
  rw [← hke] at hks
  rw [← hte] at c1
  obtain ⟨a', cap2, rfl⟩ := hks.len
  have hkz := ks_len hRP (i := (K : Int)) (by omega) (by omega)
  have hK0 : (0 : Int) ≤ (K : Int) := by omega
  have hK1 : (K : Int) < (l.length : Int) := by omega
  have HS := Lib.hid (fun k => txP_size hRP (i := (K : Int)) (by omega) (by omega) k)
  have HA := Lib.hid (txP_all l (K : Int))
  have HT := Lib.hid (txP_start l (K : Int))
  clear hke hte
  go_wp2_with fail
  go_loop [5, 23] (fun s i => ∃ k : Nat, k ≤ (ksOf l K).length ∧ i = .int .i64 k ∧ s = .string (txP l K k)) (fun _ i => (ksOf l K).length - (intOf i).toNat)
  case atStart => exact ⟨0, Nat.zero_le _, rfl, by rw [HT.out]⟩
  case round =>
    obtain ⟨k, hk, rfl, rfl⟩ := hrel
    have hs1 := HS.out k hk
    by_cases hlt : k < (ksOf l K).length
    · obtain ⟨b5, o5, cap5, hv5, hb5, cc5⟩ := hks.at hlt
      cases hv5
      obtain ⟨q0, q1, _⟩ := hRP.kid (k := (K : Int)) (by omega) (by omega) (List.getElem_mem hlt)
      have hN := Lib.hid (txP_snoc (l := l) (i := (K : Int)) hlt)
      have hs2 := tx_size hRP q0 q1
      generalize (ksOf l K)[k] = c at *
      obtain ⟨q, rfl⟩ := Int.eq_ofNat_of_zero_le q0
      have hq : q < l.length := by omega
      obtain ⟨b6, o6, cap6, wa, wk, hv6, hb6, e0, e1, e2, e3, e4, hat6, hks6⟩ := hUW.at hq
      cases hv6
      have hte := txOf_at hq
      rw [← hte] at e1
      clear hte
      have hq0 : (0 : Int) ≤ (q : Int) := by omega
      have hq1 : (q : Int) < (l.length : Int) := by omega
      have hcat : ¬ 9223372036854775807 < (txP l K k).size + (txOf l (q : Nat)).size := by omega
      generalize txP l K k = s at *
      generalize txOf l (q : Nat) = t at *
      go_wp2_with fail
      go_round
      case rel => exact ⟨k + 1, by omega, by go_num, by rw [hN.out]⟩
      case measure => simp [intOf]; omega
    · obtain rfl : k = (ksOf l K).length := by omega
      rw [HA.out]
      go_wp2_with fail
      go_ret
      exact ⟨rfl, hbW⟩
set_option maxHeartbeats 1000000 in
set_option maxRecDepth 100000 in
theorem refTreeText_any (l : List Nd) (v : Value) (K : Nat) (hkl : K < l.length) (hRP : RightP l) (w : World) (hUW : Nodes l v w) :
    Calls Tryz.prog 80 #[v, .int .i64 K] w fun e w' => e = .returned (.string (txtF l K)) ∧ Below w.heap.size w w' := by
  have hmax := hRP.max
  obtain ⟨b, o, cap', va, vk, rfl, hb, c0, c1, c2, c3, c4, hat, hks⟩ := hUW.at hkl
  have hke := ksOf_at hkl
  have hte := txOf_at hkl
  rw [← hke] at hks
  rw [← hte] at c1
  have hck := c4
  obtain ⟨a', cap2, rfl⟩ := hks.len
  have hkz := ks_len hRP (i := (K : Int)) (by omega) (by omega)
  have hK0 : (0 : Int) ≤ (K : Int) := by omega
  have hK1 : (K : Int) < (l.length : Int) := by omega
  have HS := Lib.hid (fun k => txP_size hRP (i := (K : Int)) (by omega) (by omega) k)
  have HA := Lib.hid (txP_all l (K : Int))
  have HT := Lib.hid (txP_start l (K : Int))
  clear hke hte hck
  go_enter Tryz.func80, Tryz.ntmps80
  go_wp2_with fail
  go_loop [5, 6] (fun s i => ∃ k : Nat, k ≤ (ksOf l K).length ∧ i = .int .i64 k ∧ s = .string (txP l K k)) (fun _ i => (ksOf l K).length - (intOf i).toNat)
  case atStart => exact ⟨0, Nat.zero_le _, rfl, by rw [HT.out]⟩
  case round =>
    obtain ⟨k, hk, rfl, rfl⟩ := hrel
    have hs1 := HS.out k hk
    by_cases hlt : k < (ksOf l K).length
    · obtain ⟨b5, o5, cap5, hv5, hb5, cc5⟩ := hks.at hlt
      cases hv5
      obtain ⟨q0, q1, _⟩ := hRP.kid (k := (K : Int)) (by omega) (by omega) (List.getElem_mem hlt)
      have hN := Lib.hid (txP_snoc (l := l) (i := (K : Int)) hlt)
      have hs2 := tx_size hRP q0 q1
      generalize (ksOf l K)[k] = c at *
      obtain ⟨q, rfl⟩ := Int.eq_ofNat_of_zero_le q0
      have hq : q < l.length := by omega
      obtain ⟨b6, o6, cap6, wa, wk, hv6, hb6, e0, e1, e2, e3, e4, hat6, hks6⟩ := hUW.at hq
      cases hv6
      have hte := txOf_at hq
      rw [← hte] at e1
      clear hte
      have hq0 : (0 : Int) ≤ (q : Int) := by omega
      have hq1 : (q : Int) < (l.length : Int) := by omega
      have hk0 : (0 : Int) ≤ (k : Int) := by omega
      have hk1 : (k : Int) < ((ksOf l K).length : Int) := by omega
      have hcat : ¬ 9223372036854775807 < (txP l K k).size + (txOf l (q : Nat)).size := by omega
      generalize txP l K k = s at *
      generalize txOf l (q : Nat) = t at *
      go_wp2_with fail
      go_round
      case rel => exact ⟨k + 1, by omega, by go_num, by rw [hN.out]⟩
      case measure => simp [intOf]; omega
    · obtain rfl : k = (ksOf l K).length := by omega
      rw [HA.out]
      go_wp2_with fail
      go_ret
      exact ⟨rfl, Below.refl _ _⟩
end Go.Proofs.YtafbghlldlconaaGreat

/-
  strings.Builder, a builder of the call's own: copyCheck, WriteByte, String. (The kit's contracts on copyCheck and the writers are not laid at this program: they are walked here.)
-/
namespace Go.Proofs.YtafbghlldlconaaGreat
set_option linter.unusedVariables false
set_option linter.unusedSimpArgs false
open Go.RowKit Go.Lib

/-- block b is a builder (made since B blocks lay) that holds the bytes l -/
def SB (B b : Nat) (l : List UInt8) (w : World) : Prop := IsBuilderF 95 5 B b (Lib.byteCells l) w
/-- what a call on the builder b leaves as it was -/
def SK (B b : Nat) (w w' : World) : Prop := Below B w w' ∧ OthersKept 5 (some b) w w'
theorem SK.refl (B b : Nat) (w : World) : SK B b w w := ⟨Below.refl _ _, OthersKept.refl _ _ _⟩
theorem SK.trans {B b : Nat} {a c d : World} (h : SK B b a c) (k : SK B b c d) : SK B b a d := ⟨h.1.trans k.1, h.2.trans k.2⟩

theorem sizeBuilder : (Tryz.prog.info? 95).map (·.size) = some 2 := by kernel_rfl
theorem liesBuilder : liesAt Tryz.prog Tryz.prog.depth 95 (2 / Tryz.prog.cellsOf 95) 0 95 1 = true := by kernel_rfl

theorem SB.fresh (w : World) : SB w.heap.size w.heap.size [] (w.alloc (.cells #[.pointer none, .slice none 0 0] 95)) := IsBuilderF.of (fresh_isBuilder _ _ w)

theorem SB.lt {B b : Nat} {l : List UInt8} {w : World} (h : SB B b l w) : b < w.heap.size := h.elim (fun h => h.lt) (fun h => h.lt)
theorem rowF_kept {B n m : Nat} {e : TypeId} {v : Value} {xs : List Value} {w w' : World} (h : w.ownsRowF B e n v m xs) (hb : Below w.heap.size w w') : w'.ownsRowF B e n v m xs := by
  obtain ⟨z1, ⟨rfl, z2⟩ | ⟨g, cap, cur, fz, rfl, z2, z3, z4⟩⟩ := h
  · exact ⟨z1, .inl ⟨rfl, z2⟩⟩
  · exact ⟨z1, .inr ⟨g, cap, cur, fz, rfl, z2, by rw [hb.block g (Array.getElem?_eq_some_iff.1 z3).1]; exact z3, z4⟩⟩
theorem SB.kept {B b : Nat} {l : List UInt8} {w w' : World} (h : SB B b l w) (hb : Below w.heap.size w w') : SB B b l w' := by
  rcases h with ⟨q1, u, q2, q3, q4⟩ | ⟨q1, u, q2, q3, q4⟩
  · exact .inl ⟨q1, u, by rw [hb.block b (Array.getElem?_eq_some_iff.1 q2).1]; exact q2, rowF_kept q3 hb, q4⟩
  · exact .inr ⟨q1, u, by rw [hb.block b (Array.getElem?_eq_some_iff.1 q2).1]; exact q2, rowF_kept q3 hb, q4⟩
theorem SB.alloc {B b : Nat} {l : List UInt8} {w : World} (h : SB B b l w) (o : Obj) : SB B b l (w.alloc o) := IsBuilderF.alloc h o
theorem SK.alloc {B b : Nat} {a w : World} (h : SK B b a w) (hB : B ≤ w.heap.size) (o : Obj) : SK B b a (w.alloc o) := ⟨h.1.alloc hB o, h.2.alloc o⟩
theorem run_eql_same_ptr {P : Program} (w : World) (t : TypeId) {u : TypeId} {j : TypeInfo} (ht : P.underlying t = some (.pointer u)) (hj : P.info? u = some j) (a : Addr) : (binOp .neq t (.pointer (some a)) (.pointer (some a))).run P w = .ok (.bool false) w := by
  exact run_neq_ptr_same w a ht hj

set_option maxRecDepth 100000 in
theorem copyCheck_used (b : Nat) (w : World) (h0 : w.cell? ⟨b, 0, none⟩ = some (.pointer (some ⟨b, 0, none⟩))) :
    Calls Tryz.prog 108 #[.pointer (some ⟨b, 0, none⟩)] w fun e w' => e = .returned (.tuple #[]) ∧ w = w' := by
  obtain ⟨j, hj, _⟩ := Option.map_eq_some_iff.1 sizeBuilder
  have hn := run_neq_ptr_same w ⟨b, 0, none⟩ Tryz.underlying93 hj
  go_enter Tryz.func108, Tryz.ntmps108
  go_wp2
  go_end0
  exact ⟨rfl, rfl⟩

set_option maxRecDepth 100000 in
theorem copyCheck_fresh (b : Nat) (w : World) (h0 : w.cell? ⟨b, 0, none⟩ = some (.pointer none)) (hsh : w.shape? b = some (95, 2)) (hfz : w.frozen? ⟨b, 0, none⟩ = false) :
    Calls Tryz.prog 108 #[.pointer (some ⟨b, 0, none⟩)] w fun e w' => e = .returned (.tuple #[]) ∧ w' = w.setCell ⟨b, 0, none⟩ (.pointer (some ⟨b, 0, none⟩)) := by
  obtain ⟨j, hj, hjs⟩ := Option.map_eq_some_iff.1 sizeBuilder
  have hn := fun (W : World) => run_neq_ptr_same W ⟨b, 0, none⟩ Tryz.underlying93 hj
  go_enter Tryz.func108, Tryz.ntmps108
  go_wp2
  rw [run_to_unsafe w ⟨b, 0, none⟩ Tryz.underlying93 Tryz.underlying103 hj (by rw [hjs]; decide) hsh (Nat.zero_lt_succ 1)]
  simp only [Result.andThen]
  rw [Oper.upon_value]
  go_wp2
  rw [run_callFunc_extern Tryz.func110 (by kernel_rfl) (by kernel_rfl) (by kernel_rfl) (e := Extern.AbiNoEscape.same) (by kernel_rfl)]
  rw [run_noEscape]
  simp only [Result.andThen]
  rw [Oper.upon_value]
  go_wp2
  rw [run_from_unsafe w ⟨b, 0, none⟩ Tryz.underlying103 Tryz.underlying93 hj hsh liesBuilder]
  simp only [Result.andThen]
  rw [Oper.upon_value]
  go_wp2
  go_end0
  exact ⟨rfl, rfl⟩

theorem copyCheck_any (B b : Nat) (bs : List Value) (w : World) (h : IsBuilderF 95 5 B b bs w) :
    Calls Tryz.prog 108 #[.pointer (some ⟨b, 0, none⟩)] w fun e w' => e = .returned (.tuple #[]) ∧ BuilderAtF 95 5 B b (.pointer (some ⟨b, 0, none⟩)) bs w' ∧ SK B b w w' := by
  rcases h with h | h
  · refine (copyCheck_fresh b w h.cell0 h.shape h.frozen0).mono ?_
    rintro e w' ⟨rfl, rfl⟩
    exact ⟨rfl, h.used _, (Below.refl B w).setCell (p := ⟨b, 0, none⟩) h.1 _, (OthersKept.refl _ _ w).setCell ⟨b, 0, none⟩ rfl _⟩
  · refine (copyCheck_used b w h.cell0).mono ?_
    rintro e w' ⟨rfl, rfl⟩
    exact ⟨rfl, h, SK.refl _ _ _⟩

set_option maxHeartbeats 1000000 in
set_option maxRecDepth 100000 in
theorem writeByte_any (B b : Nat) (l : List UInt8) (c : UInt8) {n : Int} (hn : n = (c.toNat : Int)) (w : World) (h : SB B b l w) (hlen : l.length < 70368744177664) (hBw : B ≤ w.heap.size) :
    Calls Tryz.prog 105 #[.pointer (some ⟨b, 0, none⟩), .int .u8 n] w fun e w' => e = .returned .nilIface ∧ SB B b (l ++ [c]) w' ∧ SK B b w w' := by
  subst hn
  obtain ⟨i0, hi, hz0, hz1, hz2⟩ := info_parts info_u8
  have hl : (Lib.byteCells l).length = l.length := Lib.byteCells_length l
  go_enter Tryz.func105, Tryz.ntmps105
  go_wp2_with fail
  refine (copyCheck_any B b _ _ h).mono ?_
  rintro e w1 ⟨rfl, h1, hb1, hk1⟩
  obtain ⟨hB, v, hbk, hown, hne⟩ := h1
  have c0 : w1.cell? ⟨b, 0, none⟩ = some (.pointer (some ⟨b, 0, none⟩)) := by rw [cell_of_heap hbk]; rfl
  have c1 : w1.cell? ⟨b, 1, none⟩ = some v := by rw [cell_of_heap hbk]; rfl
  go_wp2_with (at_builtin; refine wpList_append_ownF _ rfl _ _ 77 rfl B 5 i0 (.int .u8 0) 1 1 Tryz.underlying77 hi hz0 hz1 hz2 rfl (by decide) _ _ _ rfl (hown.alloc _) ⟨w1.heap.size, 0, none⟩ 1 1 [.int .u8 c.toNat] rfl rfl ?c1 ?c2 ?c3 ?c4 ?c5 ?_)
  case c1 =>
    intro j u hj
    match j, hj with
    | 0, hj => simp at hj; subst hj; simp [addr_add]
  case c2 => intro u hu; simp at hu; subst hu; rfl
  case c3 => unfold maxLen; omega
  case c4 => omega
  case c5 => have := hb1.size; simp; omega
  intro v' w2 hown' hgrow _
  have hlt : b < w1.heap.size := by
    rcases Nat.lt_or_ge b w1.heap.size with h' | h'
    · exact h'
    · simp [Array.getElem?_eq_none h'] at hbk
  have hb2 : w2.heap[b]? = some (.cells #[.pointer (some ⟨b, 0, none⟩), v] 95 (0, 0)) := by
    rw [hgrow.block b (by simp; omega) (fun e => hne e.symm), alloc_old w1 _ b hlt]
    exact hbk
  have d0 : w2.cell? ⟨b, 0, none⟩ = some (.pointer (some ⟨b, 0, none⟩)) := by rw [cell_of_heap hb2]; rfl
  have d1 : w2.cell? ⟨b, 1, none⟩ = some v := by rw [cell_of_heap hb2]; rfl
  have f1 : w2.frozen? ⟨b, 1, none⟩ = false := frozen_of_heap hb2 1
  obtain ⟨g, cap, rfl⟩ : ∃ g cap, v' = .slice (some ⟨g, 0, none⟩) (l.length + 1) cap := by
    rcases hown'.2 with ⟨_, h0⟩ | ⟨g, cap, cur, fz, hv, _⟩
    · omega
    · exact ⟨g, cap, hv⟩
  go_wp2
  go_ret
  refine ⟨rfl, Or.inr ?_, ?_, ((hk1.alloc _).grown hgrow (ownsRowF_kind (hown.alloc _))).setCell ⟨b, 1, none⟩ rfl _⟩
  · rw [byteCells_append, byteCells_one]
    exact BuilderAtF.put hB hb2 (bs' := Lib.byteCells l ++ [.int .u8 c.toNat]) (by rw [List.length_append, hl]; exact hown') (by decide)
  · exact ((hb1.alloc (by have := hb1.size; omega) _).grown hgrow (by have := hb1.size; simp; omega) (fun k hk => (hown.lt k hk).1)).setCell (p := ⟨b, 1, none⟩) hB _
theorem string_any (B b : Nat) (l : List UInt8) (w : World) (h : SB B b l w) (hBw : B ≤ w.heap.size) :
    Calls Tryz.prog 106 #[.pointer (some ⟨b, 0, none⟩)] w fun e w' => e = .returned (.string ⟨l.toArray⟩) ∧ SB B b l w' ∧ SK B b w w' :=
  (Tryz.Builder_String_any_k B b l w h hBw).mono fun _ _ ⟨he, h1, h2, h3⟩ => ⟨he, h1, h2, h3⟩
end Go.Proofs.YtafbghlldlconaaGreat

/-
  strings.IndexByte: found, or not.
-/
namespace Go.Proofs.YtafbghlldlconaaGreat
set_option linter.unusedVariables false
set_option linter.unusedSimpArgs false
open Go.RowKit PT

theorem ib_no (s : ByteArray) (c : UInt8) (w : World) (h : c ∉ s.data.toList) :
    Calls Tryz.prog 103 #[.string s, .int .u8 c.toNat] w fun e w' => e = .returned (.int .i64 (-1)) ∧ w = w' :=
  (Tryz.strings_IndexByte s c.toNat w).mono fun e w' ⟨he, hw⟩ => ⟨by rw [he, show ((c.toNat : Int).toNat).toUInt8 = c by simp, indexByte_no h], hw.symm⟩
def SomeNat (n : Nat) (w : World) (e : Ending) (w' : World) : Prop := ∃ z : Nat, z < n ∧ e = .returned (.int .i64 z) ∧ w = w'
theorem ib_yes (s : ByteArray) (c : UInt8) (w : World) (h : c ∈ s.data.toList) :
    Calls Tryz.prog 103 #[.string s, .int .u8 c.toNat] w (SomeNat s.size w) :=
  (Tryz.strings_IndexByte s c.toNat w).mono fun e w' ⟨he, hw⟩ => by
    obtain ⟨z, hz, hl⟩ := indexByte_yes h
    exact ⟨z, by simpa using hl, by rw [he, show ((c.toNat : Int).toNat).toUInt8 = c by simp, hz], hw.symm⟩

end Go.Proofs.YtafbghlldlconaaGreat

/-
  text.Strip and ref01.Blank, ref01.Strip: the walks.
-/
namespace Go.Proofs.YtafbghlldlconaaGreat
set_option linter.unusedVariables false
set_option linter.unusedSimpArgs false
open Go.RowKit PT


theorem blk_eq (c : UInt8) : blk c = (decide (c.toNat = 9) || decide (c.toNat = 10) || decide (c.toNat = 12) || decide (c.toNat = 13) || decide (c.toNat = 32)) := by
  have h : ∀ n : UInt8, (c == n) = decide (c.toNat = n.toNat) := by
    intro n
    rw [Bool.eq_iff_iff, decide_eq_true_iff, beq_iff_eq]
    exact ⟨fun e => by rw [e], fun e => UInt8.toNat_inj.1 e⟩
  simp only [blk, blanks, List.contains_cons, List.contains_nil, Bool.or_false, h]
  simp [Bool.or_assoc]

theorem refBlank_any (c : UInt8) (w : World) :
    Calls Tryz.prog 101 #[.int .u8 c.toNat] w fun e w' => e = .returned (.bool (blk c)) ∧ w = w' := by
  go_enter Tryz.func101, Tryz.ntmps101
  go_wp2
  all_goals
    go_ret
    exact ⟨ret_bool (by rw [blk_eq, Bool.eq_iff_iff]; simp; omega), rfl⟩
/-- all bytes of s from p to q are blanks -/
def AllBlk (s : ByteArray) (p q : Nat) : Prop := ∀ j (h : j < s.size), p ≤ j → j < q → blk s[j] = true
theorem isStrip_cut (s : ByteArray) (k q : Nat) (hkq : k ≤ q) (hq : q ≤ s.size) (h1 : AllBlk s 0 k) (h2 : AllBlk s q s.size) (h3 : ∀ h : k < s.size, blk s[k] = false) (h4 : k < q → ∀ h : q - 1 < s.size, blk s[q - 1] = false) :
    IsStrip s.data.toList ((s.data.toList.drop k).take (q - k)) := by
  have hat : ∀ j (h : j < s.size), s.data.toList[j]? = some s[j] := fun j h => List.getElem?_eq_getElem (by simpa using h)
  refine ⟨s.data.toList.take k, s.data.toList.drop q, ?_, ?_, ?_, ?_, ?_⟩
  · rw [List.append_assoc, show s.data.toList.drop q = (s.data.toList.drop k).drop (q - k) by rw [List.drop_drop]; congr 1; omega, List.take_append_drop, List.take_append_drop]
  · intro c hc
    obtain ⟨j, hj⟩ := List.mem_iff_getElem?.1 hc
    have hjk : j < k := by
      have := (List.getElem?_eq_some_iff.1 hj).1
      rw [List.length_take] at this
      omega
    rw [List.getElem?_take_of_lt hjk, hat j (by omega)] at hj
    simp only [Option.some.injEq] at hj
    rw [← hj]
    exact h1 j (by omega) (Nat.zero_le _) hjk
  · intro c hc
    obtain ⟨j, hj⟩ := List.mem_iff_getElem?.1 hc
    have hjq : q + j < s.size := by
      have := (List.getElem?_eq_some_iff.1 hj).1
      rw [List.length_drop, size_list] at this
      omega
    rw [List.getElem?_drop, hat _ hjq] at hj
    simp only [Option.some.injEq] at hj
    rw [← hj]
    exact h2 _ hjq (by omega) hjq
  · intro c hc
    have hne : k < q := by
      rcases Nat.lt_or_ge k q with h | h
      · exact h
      · rw [show q - k = 0 by omega] at hc; cases hc
    rw [List.head?_take, if_neg (by omega), List.head?_drop, hat k (by omega)] at hc
    simp only [Option.some.injEq] at hc
    rw [← hc]
    exact h3 (by omega)
  · intro c hc
    have hne : k < q := by
      rcases Nat.lt_or_ge k q with h | h
      · exact h
      · rw [show q - k = 0 by omega] at hc; cases hc
    have hl : ((s.data.toList.drop k).take (q - k)).length = q - k := by
      rw [List.length_take, List.length_drop, size_list]; omega
    rw [List.getLast?_eq_getElem?, hl, List.getElem?_take_of_lt (by omega), List.getElem?_drop, hat _ (by omega)] at hc
    simp only [Option.some.injEq] at hc
    have h5 := h4 hne (by omega)
    rw [← hc]
    have e : k + (q - k - 1) = q - 1 := by omega
    simp only [e]
    exact h5

theorem ret_cut (s : ByteArray) (k q : Nat) (_hkq : k ≤ q) (_hq : q ≤ s.size) (h : IsStrip s.data.toList ((s.data.toList.drop k).take (q - k))) :
    Ending.returned (.string (s.extract k q)) = .returned (.string ⟨(strip s.data.toList).toArray⟩) := by
  rw [strip_of h]
  congr 2
  apply ByteArray.ext
  apply Array.toList_inj.1
  rw [Lib.extract_data]

theorem ret_cut0 (s : ByteArray) (q : Nat) (hq : q ≤ s.size) (h : IsStrip s.data.toList ((s.data.toList.drop q).take (q - q))) :
    Ending.returned (.string ByteArray.empty) = .returned (.string ⟨(strip s.data.toList).toArray⟩) := by
  rw [← ret_cut s q q (Nat.le_refl _) hq h, show s.extract q q = ByteArray.empty by simp]

end Go.Proofs.YtafbghlldlconaaGreat

/-
  text.Collapse, ref01.Words, ref01.Collapse: the walks.
-/
namespace Go.Proofs.YtafbghlldlconaaGreat
set_option linter.unusedVariables false
set_option linter.unusedSimpArgs false
open Go.RowKit PT

theorem builderLen_any (B b : Nat) (l : List UInt8) (w : World) (h : SB B b l w) :
    Calls Tryz.prog 104 #[.pointer (some ⟨b, 0, none⟩)] w fun e w' => e = .returned (.int .i64 l.length) ∧ w = w' :=
  (Tryz.Builder_Len_f B b _ w h).mono fun e w' ⟨he, hw⟩ => ⟨by rw [he, Lib.byteCells_length], hw.symm⟩

theorem col_yes (s : ByteArray) (k : Nat) (h : k < s.size) (out : List UInt8) (a : Bool) (hb : blk s[k] = true) : col out a (s.data.toList.drop k) = col out (decide (0 < out.length)) (s.data.toList.drop (k + 1)) := by
  rw [drop_cons' s k h, col, if_pos hb]
theorem col_no (s : ByteArray) (k : Nat) (h : k < s.size) (out : List UInt8) (hb : blk s[k] = false) : col out false (s.data.toList.drop k) = col (out ++ [s[k]]) false (s.data.toList.drop (k + 1)) := by
  rw [drop_cons' s k h, col, if_neg (by rw [hb]; simp), if_neg (by simp)]
theorem col_no1 (s : ByteArray) (k : Nat) (h : k < s.size) (out : List UInt8) (hb : blk s[k] = false) : col out true (s.data.toList.drop k) = col (out ++ [32] ++ [s[k]]) false (s.data.toList.drop (k + 1)) := by
  rw [drop_cons' s k h, col, if_neg (by rw [hb]; simp), if_pos rfl]

set_option maxHeartbeats 2000000 in
set_option maxRecDepth 100000 in
theorem collapse_any (s : ByteArray) (w : World) (hs : s.size ≤ 4000000) :
    Calls Tryz.prog 99 #[.string s] w fun e w' => e = .returned (.string ⟨(collapse s.data.toList).toArray⟩) ∧ Below w.heap.size w w' := by
  go_enter Tryz.func99, Tryz.ntmps99
  go_wp2_with fail
  go_loopw [8, 4] (fun i f wr => ∃ k : Nat, ∃ out : List UInt8, ∃ a : Bool, k ≤ s.size ∧ i = .int .i64 k ∧ f = .bool a ∧ Hid (col out a (s.data.toList.drop k) = collapse s.data.toList) ∧ out.length ≤ 2 * k ∧ SB w.heap.size w.heap.size out wr ∧ Below w.heap.size w wr) (fun i _ _ => s.size - (intOf i).toNat)
  case atStart => exact ⟨0, [], false, Nat.zero_le _, rfl, rfl, col_start _, Nat.le_refl _, SB.fresh w, (Below.refl _ _).alloc (Nat.le_refl _) _⟩
  case round =>
    obtain ⟨k, out, a, hk, rfl, rfl, hout, hol, hsb, hbel⟩ := hrel
    have hsz := hbel.size
    by_cases hlt : k < s.size
    · cases hb : blk s[k]
      · have hm : s[k] ∉ (ByteArray.mk blanks.toArray).data.toList := by
          intro h
          have : blk s[k] = true := List.contains_iff_mem.2 h
          rw [hb] at this; cases this
        cases a
        · have hT := Lib.hid (col_no s k hlt out hb)
          clear hb
          go_wp2_with fail
          refine (ib_no ⟨blanks.toArray⟩ s[k] _ hm).mono ?_
          clear hm
          rintro e w' ⟨rfl, rfl⟩
          go_wp2_with fail
          refine (writeByte_any w.heap.size w.heap.size out s[k] rfl _ hsb (by omega) hsz).mono ?_
          rintro e w3 ⟨rfl, hs3, hk3⟩
          go_wp2_with fail
          go_roundw
          case rel => exact ⟨k + 1, _, false, by omega, by go_num, rfl, hT.out.symm.trans hout.out, by simp; omega, hs3, hbel.trans hk3.1⟩
          case measure => simp [intOf]; omega
        · have hT := Lib.hid (col_no1 s k hlt out hb)
          clear hb
          go_wp2_with fail
          refine (ib_no ⟨blanks.toArray⟩ s[k] _ hm).mono ?_
          clear hm
          rintro e w' ⟨rfl, rfl⟩
          go_wp2_with fail
          refine (writeByte_any w.heap.size w.heap.size out 32 rfl _ hsb (by omega) hsz).mono ?_
          rintro e w2 ⟨rfl, hs2, hk2⟩
          have hz2 := hk2.1.size
          go_wp2_with fail
          refine (writeByte_any w.heap.size w.heap.size (out ++ [32]) s[k] rfl _ hs2 (by simp; omega) (by omega)).mono ?_
          rintro e w3 ⟨rfl, hs3, hk3⟩
          go_wp2_with fail
          go_roundw
          case rel => exact ⟨k + 1, _, false, by omega, by go_num, rfl, hT.out.symm.trans hout.out, by simp; omega, hs3, (hbel.trans hk2.1).trans hk3.1⟩
          case measure => simp [intOf]; omega
      · have hT := Lib.hid (col_yes s k hlt out a hb)
        have hm : s[k] ∈ (ByteArray.mk blanks.toArray).data.toList := List.contains_iff_mem.1 hb
        clear hb
        go_wp2_with fail
        refine (ib_yes ⟨blanks.toArray⟩ s[k] _ hm).mono ?_
        clear hm
        rintro e w' ⟨z, _, rfl, rfl⟩
        have hz : decide ((0 : Int) ≤ (z : Int)) = true := by simp
        go_wp2_with fail
        refine (builderLen_any w.heap.size w.heap.size out _ hsb).mono ?_
        rintro e w' ⟨rfl, rfl⟩
        go_wp2_with fail
        go_roundw
        case rel => exact ⟨k + 1, out, decide (0 < out.length), by omega, by go_num, by simp, hT.out.symm.trans hout.out, by omega, hsb, hbel⟩
        case measure => simp [intOf]; omega
    · obtain rfl : k = s.size := by omega
      have ha : out = collapse s.data.toList := by
        have := hout.out
        rwa [List.drop_eq_nil_of_le (by simp), col] at this
      have HA := Lib.hid ha
      clear ha
      go_wp2_with fail
      refine (string_any w.heap.size w.heap.size _ _ hsb hsz).mono ?_
      rintro e w1 ⟨rfl, hs1, hk1⟩
      go_wp2_with fail
      go_ret
      exact ⟨ret_str HA.out, hbel.trans hk1.1⟩

def strV (x : List UInt8) : Value := .string ⟨x.toArray⟩
theorem info_strC : (Tryz.prog.info? 9).map (fun i => (i.zero, i.size, i.bytes)) = some (some (.string ⟨#[]⟩), 1, 16) := by kernel_rfl
/-- a slice of texts, new -/
def SomeTexts (W : List (List UInt8)) (w : World) (e : Ending) (w' : World) : Prop := ∃ v, e = .returned v ∧ OV w.heap.size 9 (W.map strV) v w' ∧ Below w.heap.size w w'

theorem ext_list (s : ByteArray) (f k : Nat) : Value.string (s.extract f k) = strV ((s.data.toList.drop f).take (k - f)) := by
  unfold strV
  congr 1
  apply ByteArray.ext
  apply Array.toList_inj.1
  rw [Lib.extract_data]
theorem cur_snoc (s : ByteArray) (f k : Nat) (hf : f ≤ k) (hk : k < s.size) : (s.data.toList.drop f).take (k - f) ++ [s[k]] = (s.data.toList.drop f).take (k + 1 - f) := by
  rw [show k + 1 - f = (k - f) + 1 by omega, List.take_succ_eq_append_getElem (by rw [List.length_drop, size_list]; omega)]
  congr 2
  rw [List.getElem_drop]
  have e : f + (k - f) = k := by omega
  simp only [e]
  rfl
theorem wds_drop_no (s : ByteArray) (k : Nat) (h : k < s.size) (cur : List UInt8) (hb : blk s[k] = false) : wds cur (s.data.toList.drop k) = wds (cur ++ [s[k]]) (s.data.toList.drop (k + 1)) := by
  rw [drop_cons' s k h, wds, if_neg (by rw [hb]; simp)]
theorem wds_drop_none (s : ByteArray) (k : Nat) (h : ∀ h : k < s.size, blk s[k] = true) : wds [] (s.data.toList.drop k) = wds [] (s.data.toList.drop (k + 1)) := by
  by_cases hk : k < s.size
  · rw [drop_cons' s k hk, wds, if_pos (h hk), if_pos rfl]
  · rw [List.drop_eq_nil_of_le (by simp; omega), List.drop_eq_nil_of_le (by simp; omega)]
theorem wds_drop_some (s : ByteArray) (k : Nat) (h : ∀ h : k < s.size, blk s[k] = true) (cur : List UInt8) (hc : cur ≠ []) : wds cur (s.data.toList.drop k) = cur :: wds [] (s.data.toList.drop (k + 1)) := by
  by_cases hk : k < s.size
  · rw [drop_cons' s k hk, wds, if_pos (h hk), if_neg hc]
  · rw [List.drop_eq_nil_of_le (by simp; omega), List.drop_eq_nil_of_le (by simp; omega), wds, if_neg hc]; rfl

/-- the relation of Words' loop: the run that has begun (from place fr; -1: none), what is to come -/
def WR (s : ByteArray) (k : Nat) (ws : List (List UInt8)) (fr : Int) : Prop :=
  (fr = -1 ∧ ws ++ wds [] (s.data.toList.drop k) = wds [] s.data.toList) ∨
  (∃ g : Nat, fr = g ∧ g < k ∧ k ≤ s.size ∧ ws ++ wds ((s.data.toList.drop g).take (k - g)) (s.data.toList.drop k) = wds [] s.data.toList)

set_option maxHeartbeats 2000000 in
set_option maxRecDepth 100000 in
theorem refWords_any (s : ByteArray) (w : World) (hs : s.size ≤ 4000000) :
    Calls Tryz.prog 95 #[.string s] w (SomeTexts (wds [] s.data.toList) w) := by
  go_enter Tryz.func95, Tryz.ntmps95
  go_wp2_with fail
  go_loopw [5, 4, 3] (fun i f v wr => ∃ k : Nat, ∃ ws : List (List UInt8), ∃ fr : Int, k ≤ s.size + 1 ∧ i = .int .i64 k ∧ f = .int .i64 fr ∧ ws.length ≤ k ∧ WR s k ws fr ∧ OV w.heap.size 9 (ws.map strV) v wr ∧ Below w.heap.size w wr) (fun i _ _ _ => s.size + 1 - (intOf i).toNat)
  case atStart => exact ⟨0, [], -1, Nat.zero_le _, rfl, rfl, Nat.le_refl _, Or.inl ⟨rfl, rfl⟩, OV.nil _ _ _, Below.refl _ _⟩
  case round =>
    obtain ⟨k, ws, fr, hk, rfl, rfl, hwl, hWR, hown, hbel⟩ := hrel
    have hsz := hbel.size
    by_cases hin : ∃ h : k < s.size, blk s[k] = false
    · obtain ⟨hlt, hb⟩ := hin
      have hle : (k : Int) ≤ (s.size : Int) := by omega
      rcases hWR with ⟨rfl, hW⟩ | ⟨g, rfl, hg, _, hW⟩
      · rw [wds_drop_no s k hlt [] hb] at hW
        have HW : WR s (k + 1) ws (k : Int) := Or.inr ⟨k, rfl, by omega, by omega, by
          have := cur_snoc s k k (Nat.le_refl _) hlt
          rw [show k - k = 0 by omega] at this
          rw [← this]
          exact hW⟩
        clear hW
        go_wp2_with fail
        refine (refBlank_any s[k] _).mono ?_
        rintro e w' ⟨rfl, rfl⟩
        rw [hb]
        clear hb
        go_wp2_with fail
        go_roundw
        case rel => exact ⟨k + 1, ws, k, by omega, by go_num, rfl, by omega, HW, hown, hbel⟩
        case measure => simp [intOf]; omega
      · rw [wds_drop_no s k hlt _ hb, cur_snoc s g k (by omega) hlt] at hW
        have HW : WR s (k + 1) ws (g : Int) := Or.inr ⟨g, rfl, by omega, by omega, hW⟩
        have hg0 : decide ((g : Int) < 0) = false := by simp
        clear hW
        go_wp2_with fail
        refine (refBlank_any s[k] _).mono ?_
        rintro e w' ⟨rfl, rfl⟩
        rw [hb]
        clear hb
        go_wp2_with fail
        go_roundw
        case rel => exact ⟨k + 1, ws, g, by omega, by go_num, rfl, by omega, HW, hown, hbel⟩
        case measure => simp [intOf]; omega
    · have hbk : ∀ h : k < s.size, blk s[k] = true := fun h => by
        cases hb : blk s[k]
        · exact absurd ⟨h, hb⟩ hin
        · rfl
      clear hin
      by_cases hend : k ≤ s.size
      · have hle : (k : Int) ≤ (s.size : Int) := by omega
        rcases hWR with ⟨rfl, hW⟩ | ⟨g, rfl, hg, _, hW⟩
        · rw [wds_drop_none s k hbk] at hW
          have HW : WR s (k + 1) ws (-1) := Or.inl ⟨rfl, hW⟩
          clear hW
          by_cases hlt : k < s.size
          · have hb := hbk hlt
            clear hbk
            go_wp2_with fail
            refine (refBlank_any s[k] _).mono ?_
            rintro e w' ⟨rfl, rfl⟩
            rw [hb]
            clear hb
            go_wp2_with fail
            go_roundw
            case rel => exact ⟨k + 1, ws, -1, by omega, by go_num, rfl, by omega, HW, hown, hbel⟩
            case measure => simp [intOf]; omega
          · clear hbk
            go_wp2_with fail
            go_roundw
            case rel => exact ⟨k + 1, ws, -1, by omega, by go_num, rfl, by omega, HW, hown, hbel⟩
            case measure => simp [intOf]; omega
        · have hne : (s.data.toList.drop g).take (k - g) ≠ [] := by
            intro e
            have := congrArg List.length e
            rw [List.length_take, List.length_drop, size_list, List.length_nil] at this
            omega
          rw [wds_drop_some s k hbk _ hne] at hW
          have HW : WR s (k + 1) (ws ++ [(s.data.toList.drop g).take (k - g)]) (-1) := Or.inl ⟨rfl, by rw [← hW, List.append_assoc]; rfl⟩
          clear hW hne
          have hg0 : decide ((0 : Int) ≤ (g : Int)) = true := by simp
          have hgk : (g : Int) ≤ (k : Int) := by omega
          have hgk2 : g ≤ k := by omega
          have hE := Lib.hid (ext_list s g k)
          by_cases hlt : k < s.size
          · have hb := hbk hlt
            clear hbk
            go_wp2_with fail
            refine (refBlank_any s[k] _).mono ?_
            rintro e w' ⟨rfl, rfl⟩
            rw [hb]
            clear hb
            go_wp2_with (at_builtin; refine wpList_append_cell rfl _ _ 90 9 rfl Tryz.underlying90 info_strC rfl (by decide) rfl rfl (.string (s.extract g k)) rfl hown (by rw [List.length_map]; omega) hsz ?_; intro v' w1 hown1 hb1)
            go_roundw
            case rel => exact ⟨k + 1, _, -1, by omega, by go_num, rfl, by rw [List.length_append]; simp; omega, HW, by rw [List.map_append]; rw [hE.out] at hown1; exact hown1, hbel.trans hb1⟩
            case measure => simp [intOf]; omega
          · clear hbk
            go_wp2_with (at_builtin; refine wpList_append_cell rfl _ _ 90 9 rfl Tryz.underlying90 info_strC rfl (by decide) rfl rfl (.string (s.extract g k)) rfl hown (by rw [List.length_map]; omega) hsz ?_; intro v' w1 hown1 hb1)
            go_roundw
            case rel => exact ⟨k + 1, _, -1, by omega, by go_num, rfl, by rw [List.length_append]; simp; omega, HW, by rw [List.map_append]; rw [hE.out] at hown1; exact hown1, hbel.trans hb1⟩
            case measure => simp [intOf]; omega
      · clear hbk
        have hW : ws = wds [] s.data.toList := by
          rcases hWR with ⟨_, hW⟩ | ⟨g, _, _, h, _⟩
          · rw [List.drop_eq_nil_of_le (by simp; omega), wds, if_pos rfl, List.append_nil] at hW
            exact hW
          · exact absurd h hend
        have HW := Lib.hid hW
        clear hW
        go_wp2_with fail
        go_ret
        exact ⟨_, rfl, by rw [← HW.out]; exact hown, hbel⟩
theorem join_snoc (ws : List (List UInt8)) (x : List UInt8) : join (ws ++ [x]) = (if 0 < ws.length then join ws ++ [32] else []) ++ x := by
  cases ws with
  | nil => simp [join]
  | cons y ws => simp [join]
theorem wds_size : ∀ (l cur : List UInt8), ((wds cur l).map List.length).sum + (wds cur l).length ≤ cur.length + 2 * l.length + 1
  | [], cur => by
    unfold wds
    split
    · simp
    · simp
  | c :: r, cur => by
    have h1 := wds_size r []
    have h2 := wds_size r (cur ++ [c])
    unfold wds
    split
    · split
      · simp only [List.length_cons, List.length_nil] at h1 ⊢; omega
      · simp only [List.map_cons, List.sum_cons, List.length_cons, List.length_nil] at h1 ⊢; omega
    · simp only [List.length_append, List.length_cons, List.length_nil] at h2 ⊢; omega
theorem join_len : ∀ ws : List (List UInt8), (join ws).length ≤ (ws.map List.length).sum + ws.length
  | [] => by simp [join]
  | x :: ws => by
    have : ∀ l : List (List UInt8), (l.flatMap (fun y => 32 :: y)).length = (l.map List.length).sum + l.length := by
      intro l
      induction l with
      | nil => rfl
      | cons y l ih => simp only [List.flatMap_cons, List.length_append, List.length_cons, List.map_cons, List.sum_cons, ih]; omega
    simp only [join, List.length_append, this, List.map_cons, List.sum_cons, List.length_cons]
    omega
theorem sum_take (l : List (List UInt8)) (k : Nat) : ((l.take k).map List.length).sum ≤ (l.map List.length).sum := by
  have := List.take_append_drop k l
  have h := congrArg (fun l => (l.map List.length).sum) this
  simp only [List.map_append, List.sum_append] at h
  omega

set_option maxHeartbeats 2000000 in
set_option maxRecDepth 100000 in
theorem refCollapse_any (s : ByteArray) (w : World) (hs : s.size ≤ 4000000) :
    Calls Tryz.prog 79 #[.string s] w fun e w' => e = .returned (.string ⟨(collapse s.data.toList).toArray⟩) ∧ Below w.heap.size w w' := by
  have hws := wds_size s.data.toList []
  rw [size_list, List.length_nil] at hws
  obtain ⟨W, hWd⟩ : ∃ W, W = wds [] s.data.toList := ⟨_, rfl⟩
  have hcol : collapse s.data.toList = join W := by rw [hWd]; rfl
  rw [← hWd] at hws
  rw [hcol]
  have HWd := Lib.hid hWd
  clear hWd hcol
  go_enter Tryz.func79, Tryz.ntmps79
  go_wp2_with fail
  refine (refWords_any s _ hs).mono ?_
  rintro e w1 ⟨v, rfl, hv, hb1⟩
  rw [← HWd.out] at hv
  have hsz1 := hb1.size
  by_cases hnil : W = []
  · subst hnil
    obtain ⟨a, cap, rfl, _⟩ := hv.form
    go_wp2_with fail
    refine wp_loop_rounds 1 ?_
    rw [rounds_succ]
    have hcb := (OB.nil w1.heap.size w1).conv
    go_wp2_with fail
    go_ret
    exact ⟨rfl, hb1⟩
  · have hnil2 : W.map strV ≠ [] := by simpa using hnil
    obtain ⟨g, cap, rfl, hg, hcell⟩ := hv.at hnil2
    have hgw : g < w1.heap.size := by
      have h0 : 0 < W.length := List.length_pos_iff.2 hnil
      exact World.block_lt_of_cell? w1 _ (hcell 0 (strV W[0]) (by simp [h0]))
    have hcx : ∀ k (h : k < W.length) w3, Below w1.heap.size w1 w3 → w3.cell? ⟨g, k, none⟩ = some (strV W[k]) := fun k h w3 hb =>
      (hb.cell (p := ⟨g, k, none⟩) hgw).trans (hcell k (strV W[k]) (by simp [h]))
    have HC := Lib.hid hcx
    clear hcx hcell hv hnil2
    rw [List.length_map]
    go_wp2_with fail
    go_loopw [5, 4] (fun i x wr => ∃ k : Nat, k ≤ W.length ∧ i = .int .i64 k ∧ OB w1.heap.size (join (W.take k)) x wr ∧ Below w1.heap.size w1 wr) (fun i _ _ => W.length - (intOf i).toNat)
    case atStart => exact ⟨0, Nat.zero_le _, rfl, OB.nil _ _, Below.refl _ _⟩
    case round =>
      obtain ⟨k, hk, rfl, hown, hbel⟩ := hrel
      have hsz := hbel.size
      have hjl := join_len (W.take k)
      have hst := sum_take W k
      have hlt' : (W.take k).length = k := by rw [List.length_take]; omega
      by_cases hlt : k < W.length
      · have hJ : join (W.take (k + 1)) = (if 0 < k then join (W.take k) ++ [32] else []) ++ W[k] := by
          rw [List.take_succ_eq_append_getElem hlt, join_snoc, hlt']
        have hwk : W[k].length ≤ (W.map List.length).sum := by
          have h1 := sum_take W (k + 1)
          rw [List.take_succ_eq_append_getElem hlt, List.map_append, List.sum_append] at h1
          simp only [List.map_cons, List.map_nil, List.sum_cons, List.sum_nil] at h1
          omega
        have HJ := Lib.hid hJ
        clear hJ
        have hwz : (ByteArray.mk W[k].toArray).size = W[k].length := size_mk _
        have hk0 : (0 : Int) ≤ (k : Int) := by omega
        have hk1 : (k : Int) < (W.length : Int) := by omega
        by_cases h0 : 0 < k
        · have h0' : (0 : Int) < (k : Int) := by omega
          have hl2 : (join (W.take k) ++ [32]).length + (ByteArray.mk W[k].toArray).size < 70368744177664 := by rw [hwz, List.length_append]; simp only [List.length_cons, List.length_nil]; omega
          go_wp2_with (first | (at_builtin; refine wpList_append_byte rfl _ _ rfl rfl rfl 32 rfl hown (by omega) hsz ?_; intro v2 w2 hown2 hb2; have hc2 := HC.out k hlt w2 (hbel.trans hb2); unfold strV at hc2; have hz2 := hb2.size) | (at_builtin; refine wpList_append_text rfl _ _ rfl rfl rfl hown2 hl2 (by omega) ?_; intro v3 w3 hown3 hb3))
          go_roundw
          case rel => exact ⟨k + 1, by omega, by go_num, by rw [HJ.out, if_pos h0]; exact hown3, (hbel.trans hb2).trans hb3⟩
          case measure => simp [intOf]; omega
        · obtain rfl : k = 0 := by omega
          have hc2 := HC.out 0 hlt wr hbel
          unfold strV at hc2
          have hl2 : (join (W.take 0)).length + (ByteArray.mk W[0].toArray).size < 70368744177664 := by rw [hwz]; omega
          go_wp2_with (at_builtin; refine wpList_append_text rfl _ _ rfl rfl rfl hown hl2 hsz ?_; intro v3 w3 hown3 hb3)
          go_roundw
          case rel => exact ⟨1, by omega, by go_num, by rw [HJ.out, if_neg (by omega)]; exact hown3, hbel.trans hb3⟩
          case measure => simp [intOf]; omega
      · obtain rfl : k = W.length := by omega
        have hcb := hown.conv
        rw [List.take_length] at hcb
        go_wp2_with fail
        go_ret
        exact ⟨rfl, bs hb1 hbel⟩
end Go.Proofs.YtafbghlldlconaaGreat

/-
  OPTIONS: option.is, has, off, Off, value, Text: the walks.
-/
namespace Go.Proofs.YtafbghlldlconaaGreat
set_option linter.unusedVariables false
set_option linter.unusedSimpArgs false
open Go.RowKit PT

set_option maxHeartbeats 1000000 in
set_option maxRecDepth 100000 in
theorem optIs_any (l : List Nd) (v : Value) (id k : Int) (hl : l.length ≤ 1000000000000000000) (hz : ∀ x ∈ l, Fits x) (w : World) (hU : Nodes l v w) :
    Calls Tryz.prog 90 #[v, .int .i64 id, .int .i64 k] w fun e w' => e = .returned (.bool (isF l id k)) ∧ Below w.heap.size w w' := by
  obtain ⟨a, cap, rfl⟩ := hU.len
  by_cases h0 : 0 ≤ id
  case neg =>
    have hR := Lib.hid (show isF l id k = false by unfold isF hasB; rw [decide_eq_false h0]; rfl)
    have h0' : decide (0 ≤ id) = false := decide_eq_false h0
    go_enter Tryz.func90, Tryz.ntmps90
    go_wp2_with fail
    go_ret
    exact ⟨ret_bool hR.out.symm, Below.refl _ _⟩
  by_cases h1 : id < l.length
  case neg =>
    have hR := Lib.hid (show isF l id k = false by unfold isF hasB; rw [decide_eq_false h1, decide_eq_true h0]; rfl)
    have h1' : decide (id < (l.length : Int)) = false := decide_eq_false h1
    go_enter Tryz.func90, Tryz.ntmps90
    go_wp2_with fail
    go_ret
    exact ⟨ret_bool hR.out.symm, Below.refl _ _⟩
  have hR0 := Lib.hid (show isF l id k = (rightB l && decide (kOf l id = k)) by unfold isF hasB; rw [decide_eq_true h1, decide_eq_true h0]; rfl)
  obtain ⟨K, rfl⟩ := Int.eq_ofNat_of_zero_le h0
  have hkl : K < l.length := by omega
  obtain ⟨b, o, cap', va, vk, hv, hb, c0, c1, c2, c3, c4, hat, hks⟩ := hU.at hkl
  cases hv
  obtain ⟨z1, z2, z3, z4, z5⟩ := hz _ (List.getElem_mem hkl)
  have hko := kOf_at hkl
  rw [hko] at hR0
  generalize l[K] = x at *
  have hK0 : (0 : Int) ≤ (K : Int) := by omega
  have hK1 : (K : Int) < (l.length : Int) := by omega
  clear hko
  obtain ⟨kk, hkk⟩ : ∃ kk, kindOf x = kk := ⟨_, rfl⟩
  rw [hkk] at hR0
  have HK := Lib.hid hkk
  clear hkk
  by_cases hk : kk = k
  · have hR := Lib.hid (show isF l (K : Nat) k = rightB l by rw [hR0.out, decide_eq_true hk, Bool.and_true])
    have hq := Lib.hid (show (kk == k) = true by rw [hk]; exact beq_self_eq_true _)
    clear hR0 hk
    go_enter Tryz.func90, Tryz.ntmps90
    go_wp2_with fail
    refine (kindsOf_any x va vk z3 (fun a ha => (z5 a ha).2) _ hat).mono ?_
    rintro e w2 ⟨rfl, hb2⟩
    rw [HK.out]
    have hq1 := hq.out
    go_wp2_with fail
    refine (right_any l _ hl hz _ (hU.kept hb2)).mono ?_
    rintro e w3 ⟨rfl, hb3⟩
    go_wp2_with fail
    go_ret
    exact ⟨ret_bool hR.out.symm, bs hb2 hb3⟩
  · have hR := Lib.hid (show isF l (K : Nat) k = false by rw [hR0.out, decide_eq_false hk, Bool.and_false])
    have hq := Lib.hid (intNe hk)
    clear hR0 hk
    go_enter Tryz.func90, Tryz.ntmps90
    go_wp2_with fail
    refine (kindsOf_any x va vk z3 (fun a ha => (z5 a ha).2) _ hat).mono ?_
    rintro e w2 ⟨rfl, hb2⟩
    rw [HK.out]
    have hq1 := hq.out
    go_wp2_with fail
    go_ret
    exact ⟨ret_bool hR.out.symm, hb2⟩
set_option maxHeartbeats 1000000 in
set_option maxRecDepth 100000 in
theorem optHasFn_any (x : At) (s : ByteArray) (B : Nat) (w : World) (hB : B < w.heap.size) (hc : w.cell? ⟨B, 0, none⟩ = some (.string s)) :
    Calls Tryz.prog 102 #[atV x, .pointer (some ⟨B, 0, none⟩)] w fun e w' => e = .returned (.bool (isN s x)) ∧ Below w.heap.size w w' := by
  unfold atV
  have hb0 := (Below.refl w.heap.size w).alloc (Nat.le_refl _) (.cells #[.string x.n, .string x.v] 52)
  by_cases h : x.n = s
  · have hR := Lib.hid (show isN s x = true from decide_eq_true h)
    have hq := sTrue h
    clear h
    go_enter Tryz.func102, Tryz.ntmps102
    go_wp2_with fail
    go_ret
    exact ⟨ret_bool hR.out.symm, hb0⟩
  · have hR := Lib.hid (show isN s x = false from decide_eq_false h)
    have hq := sFalse h
    clear h
    go_enter Tryz.func102, Tryz.ntmps102
    go_wp2_with fail
    go_ret
    exact ⟨ret_bool hR.out.symm, hb0⟩
set_option maxHeartbeats 1000000 in
set_option maxRecDepth 100000 in
theorem optHas_any (x : Nd) (va vk : Value) (s : ByteArray) (hl : x.ats.length ≤ 1000000000000000) (w : World) (hU : Atts x.ats va w) :
    Calls Tryz.prog 97 #[NdV x va vk, .string s] w fun e w' => e = .returned (.bool (atO x.ats s).isSome) ∧ Below w.heap.size w w' := by
  unfold NdV
  have hba := (Below.refl w.heap.size w).alloc (Nat.le_refl _) (.cells #[.string x.nm, .string x.tx, va, .int .i64 x.pa, vk] 41)
  have hb0 := hba.alloc (by simp) (.cells #[.string s] 9)
  have hsa : (w.alloc (.cells #[.string x.nm, .string x.tx, va, .int .i64 x.pa, vk] 41)).heap.size = w.heap.size + 1 := by simp
  have hs0 : ((w.alloc (.cells #[.string x.nm, .string x.tx, va, .int .i64 x.pa, vk] 41)).alloc (.cells #[.string s] 9)).heap.size = w.heap.size + 1 + 1 := by simp
  have hn0 := Go.heap_alloc_new (w.alloc (.cells #[.string x.nm, .string x.tx, va, .int .i64 x.pa, vk] 41)) (.cells #[.string s] 9)
  rw [hsa] at hn0
  have hU0 := hU.kept hb0
  have hc0 : ((w.alloc (.cells #[.string x.nm, .string x.tx, va, .int .i64 x.pa, vk] 41)).alloc (.cells #[.string s] 9)).cell? ⟨w.heap.size + 1, 0, none⟩ = some (.string s) := by simp only [World.cell?, hn0]; rfl
  obtain ⟨a, cap, rfl⟩ := hU.len
  have hp : ∀ W, Below ((w.alloc (.cells #[.string x.nm, .string x.tx, .slice a x.ats.length cap, .int .i64 x.pa, vk] 41)).alloc (.cells #[.string s] 9)).heap.size ((w.alloc (.cells #[.string x.nm, .string x.tx, .slice a x.ats.length cap, .int .i64 x.pa, vk] 41)).alloc (.cells #[.string s] 9)) W → ∀ y ∈ x.ats, Calls Tryz.prog 102 (#[atV y] ++ #[.pointer (some ⟨w.heap.size + 1, 0, none⟩)]) W fun e w' => e = .returned (.bool (isN s y)) ∧ Below W.heap.size W w' := by
    intro W hW y hy
    have hWs := hW.size
    exact optHasFn_any y s (w.heap.size + 1) W (by omega) (cellK hW (by omega) hc0)
  have hR := Lib.hid (hasA_iff x.ats s)
  have HP := Lib.hid hp
  clear hp hsa hs0 hn0 hc0
  go_enter Tryz.func97, Tryz.ntmps97
  go_wp2_with fail
  refine (containsFuncA_any x.ats (isN s) _ 102 #[.pointer (some ⟨w.heap.size + 1, 0, none⟩)] (enters_of Tryz.func102 (by kernel_rfl) rfl) hl _ hU0 HP.out).mono ?_
  rintro e w2 ⟨rfl, hb2⟩
  rw [hR.out]
  go_wp2_with fail
  go_ret
  exact ⟨rfl, bs hb0 hb2⟩
theorem optHas_at (nm tx : ByteArray) (ats : List At) (pa : Int) (va vk : Value) (s : ByteArray) (hl : ats.length ≤ 1000000000000000) (w : World) (hU : Atts ats va w) :
    Calls Tryz.prog 97 #[.agg #[.string nm, .string tx, va, .int .i64 pa, vk], .string s] w fun e w' => e = .returned (.bool (atO ats s).isSome) ∧ Below w.heap.size w w' := optHas_any ⟨nm, tx, ats, pa, []⟩ va vk s hl w hU
theorem disA_at {l : List Nd} {k : Nat} (hk : k < l.length) : disA l k = (atO l[k].ats ⟨#[100, 105, 115, 97, 98, 108, 101, 100]⟩).isSome := by unfold disA; rw [atsOf_at hk]
set_option maxHeartbeats 1000000 in
set_option maxRecDepth 100000 in
theorem optOff_any (l : List Nd) (v : Value) (K : Nat) (hkl : K < l.length) (hRP : RightP l) (w : World) (hU : Nodes l v w) :
    Calls Tryz.prog 92 #[v, .int .i64 K] w fun e w' => e = .returned (.bool (offA l K)) ∧ Below w.heap.size w w' := by
  have hmax := hRP.max
  obtain ⟨b, o, cap, va, vk, rfl, hb, c0, c1, c2, c3, c4, hat, hks⟩ := hU.at hkl
  obtain ⟨z1, z2⟩ := hRP.vals _ (List.getElem_mem hkl)
  have hd := Lib.hid (disA_at hkl)
  have hpa := paOf_at hkl
  rw [← hpa] at c3
  have hp0 := hRP.pa_ge (c := (K : Int)) (by omega) (by omega)
  have hp1 := hRP.pa_lt (c := (K : Int)) (by omega) (by omega)
  have hO := show offA l (K : Nat) = (disA l (K : Nat) || (decide (0 ≤ paOf l (K : Nat)) && (decide (kOf l (paOf l (K : Nat)) = 33) && disA l (paOf l (K : Nat))))) from rfl
  rw [hd.out] at hO
  generalize paOf l (K : Nat) = p at *
  obtain ⟨nd, hx⟩ : ∃ nd, l[K] = nd := ⟨_, rfl⟩
  rw [hx] at c0 c1 hat z1 z2 hO hd hpa
  clear hx hd hpa
  have hK0 : (0 : Int) ≤ (K : Int) := by omega
  have hK1 : (K : Int) < (l.length : Int) := by omega
  cases hs : (atO nd.ats ⟨#[100, 105, 115, 97, 98, 108, 101, 100]⟩).isSome
  case true =>
    have HS := Lib.hid hs
    have hR := Lib.hid (show offA l (K : Nat) = true by rw [hO, hs]; rfl)
    clear hs hO
    go_enter Tryz.func92, Tryz.ntmps92
    go_wp2_with fail
    refine (optHas_at _ _ nd.ats _ va vk ⟨#[100, 105, 115, 97, 98, 108, 101, 100]⟩ z1 _ hat).mono ?_
    rintro e w2 ⟨rfl, hb2⟩
    rw [HS.out]
    go_wp2_with fail
    go_ret
    exact ⟨ret_bool hR.out.symm, hb2⟩
  rw [hs, Bool.false_or] at hO
  have HS := Lib.hid hs
  clear hs
  by_cases hp : 0 ≤ p
  case neg =>
    have hR := Lib.hid (show offA l (K : Nat) = false by rw [hO, decide_eq_false hp]; rfl)
    have hq : decide (0 ≤ p) = false := decide_eq_false hp
    clear hO
    go_enter Tryz.func92, Tryz.ntmps92
    go_wp2_with fail
    refine (optHas_at _ _ nd.ats _ va vk ⟨#[100, 105, 115, 97, 98, 108, 101, 100]⟩ z1 _ hat).mono ?_
    rintro e w2 ⟨rfl, hb2⟩
    rw [HS.out]
    go_wp2_with fail
    go_ret
    exact ⟨ret_bool hR.out.symm, hb2⟩
  rw [decide_eq_true hp, Bool.true_and] at hO
  obtain ⟨q, rfl⟩ := Int.eq_ofNat_of_zero_le hp
  have hql : q < l.length := by omega
  obtain ⟨b6, o6, cap6, wa, wk, hv6, hb6, e0, e1, e2, e3, e4, hat6, hks6⟩ := hU.at hql
  cases hv6
  obtain ⟨y1, y2⟩ := hRP.vals _ (List.getElem_mem hql)
  have hdq := disA_at hql
  have hkq := kOf_at hql
  rw [hdq, hkq] at hO
  generalize l[q] = y at *
  have hq0 : (0 : Int) ≤ (q : Int) := by omega
  have hq1 : (q : Int) < (l.length : Int) := by omega
  clear hdq hkq hp hp0 hp1
  by_cases hk : kindOf y = 33
  · have HK := Lib.hid hk
    rw [decide_eq_true hk, Bool.true_and] at hO
    have hR := Lib.hid hO
    clear hk hO
    go_enter Tryz.func92, Tryz.ntmps92
    go_wp2_with fail
    refine (optHas_at _ _ nd.ats _ va vk ⟨#[100, 105, 115, 97, 98, 108, 101, 100]⟩ z1 _ hat).mono ?_
    rintro e w2 ⟨rfl, hb2⟩
    rw [HS.out]
    have f0 := cellK hb2 hb6 e0
    have f1 := cellK hb2 hb6 e1
    have f2 := cellK hb2 hb6 e2
    have f3 := cellK hb2 hb6 e3
    have f4 := cellK hb2 hb6 e4
    go_wp2_with fail
    refine (kindsOf_any y wa wk y1 y2 _ (hat6.kept hb2)).mono ?_
    rintro e w3 ⟨rfl, hb3⟩
    rw [HK.out]
    have hb23 := bs hb2 hb3
    have g0 := cellK hb23 hb6 e0
    have g1 := cellK hb23 hb6 e1
    have g2 := cellK hb23 hb6 e2
    have g3 := cellK hb23 hb6 e3
    have g4 := cellK hb23 hb6 e4
    go_wp2_with fail
    refine (optHas_any y wa wk ⟨#[100, 105, 115, 97, 98, 108, 101, 100]⟩ y1 _ (hat6.kept hb23)).mono ?_
    rintro e w4 ⟨rfl, hb4⟩
    go_wp2_with fail
    go_ret
    exact ⟨ret_bool hR.out.symm, bs hb23 hb4⟩
  · have hR := Lib.hid (show offA l (K : Nat) = false by rw [hO, decide_eq_false hk]; rfl)
    have hq := Lib.hid (intNe hk)
    clear hk hO
    go_enter Tryz.func92, Tryz.ntmps92
    go_wp2_with fail
    refine (optHas_at _ _ nd.ats _ va vk ⟨#[100, 105, 115, 97, 98, 108, 101, 100]⟩ z1 _ hat).mono ?_
    rintro e w2 ⟨rfl, hb2⟩
    rw [HS.out]
    have f0 := cellK hb2 hb6 e0
    have f1 := cellK hb2 hb6 e1
    have f2 := cellK hb2 hb6 e2
    have f3 := cellK hb2 hb6 e3
    have f4 := cellK hb2 hb6 e4
    go_wp2_with fail
    refine (kindsOf_any y wa wk y1 y2 _ (hat6.kept hb2)).mono ?_
    rintro e w3 ⟨rfl, hb3⟩
    have hq1 := hq.out
    go_wp2_with fail
    go_ret
    exact ⟨ret_bool hR.out.symm, bs hb2 hb3⟩
set_option maxHeartbeats 1000000 in
set_option maxRecDepth 100000 in
theorem optOffT_any (l : List Nd) (v : Value) (id : Int) (hl : l.length ≤ 1000000000000000000) (hz : ∀ x ∈ l, Fits x) (w : World) (hU : Nodes l v w) :
    Calls Tryz.prog 69 #[v, .int .i64 id] w fun e w' => e = .returned (.bool (offF l id)) ∧ Below w.heap.size w w' := by
  obtain ⟨a, cap, rfl⟩ := hU.len
  have hO := show offF l id = (isF l id 32 && offA l id) from rfl
  cases hi : isF l id 32
  · have HI := Lib.hid hi
    have hR := Lib.hid (show offF l id = false by rw [hO, hi]; rfl)
    clear hi hO
    go_enter Tryz.func69, Tryz.ntmps69
    go_wp2_with fail
    refine (optIs_any l _ id 32 hl hz _ hU).mono ?_
    rintro e w2 ⟨rfl, hb2⟩
    rw [HI.out]
    go_wp2_with fail
    go_ret
    exact ⟨ret_bool hR.out.symm, hb2⟩
  · have HI := Lib.hid hi
    have hR := Lib.hid (show offF l id = offA l id by rw [hO, hi]; rfl)
    have hc := (isF_30 (by omega)).1 hi
    obtain ⟨i0, i1⟩ := kindF_pos (l := l) (k := id) (by omega)
    have hRP := (rightB_iff l).1 hc.1
    obtain ⟨K, rfl⟩ := Int.eq_ofNat_of_zero_le i0
    have hkl : K < l.length := by omega
    clear hi hO hc
    go_enter Tryz.func69, Tryz.ntmps69
    go_wp2_with fail
    refine (optIs_any l _ _ 32 hl hz _ hU).mono ?_
    rintro e w2 ⟨rfl, hb2⟩
    rw [HI.out]
    go_wp2_with fail
    refine (optOff_any l _ K hkl hRP _ (hU.kept hb2)).mono ?_
    rintro e w3 ⟨rfl, hb3⟩
    go_wp2_with fail
    go_ret
    exact ⟨ret_bool hR.out.symm, bs hb2 hb3⟩
set_option maxHeartbeats 1000000 in
set_option maxRecDepth 100000 in
theorem optValueFn_any (x : At) (w : World) :
    Calls Tryz.prog 98 #[atV x] w fun e w' => e = .returned (.bool (isN vAt x)) ∧ Below w.heap.size w w' := by
  unfold atV
  have hb0 := (Below.refl w.heap.size w).alloc (Nat.le_refl _) (.cells #[.string x.n, .string x.v] 52)
  have hvl : vAt.toList = [118, 97, 108, 117, 101] := by unfold vAt; rw [ByteArray.toList_eq]
  by_cases h : x.n = vAt
  · have hR := Lib.hid (show isN vAt x = true from decide_eq_true h)
    have hq := sTrue h
    rw [hvl] at hq
    clear h hvl
    go_enter Tryz.func98, Tryz.ntmps98
    go_wp2_with fail
    go_ret
    exact ⟨ret_bool hR.out.symm, hb0⟩
  · have hR := Lib.hid (show isN vAt x = false from decide_eq_false h)
    have hq := sFalse h
    rw [hvl] at hq
    clear h hvl
    go_enter Tryz.func98, Tryz.ntmps98
    go_wp2_with fail
    go_ret
    exact ⟨ret_bool hR.out.symm, hb0⟩
set_option maxHeartbeats 1000000 in
set_option maxRecDepth 100000 in
theorem optValue_any (l : List Nd) (v : Value) (K : Nat) (hkl : K < l.length) (hRP : RightP l) (hz : ∀ x ∈ l, Fits x) (w : World) (hU : Nodes l v w) :
    Calls Tryz.prog 93 #[v, .int .i64 K] w fun e w' => e = .returned (.string (valO l K)) ∧ Below w.heap.size w w' := by
  have hmax := hRP.max
  have hsz := txtF_size hRP (i := (K : Int)) (by omega) (by omega)
  obtain ⟨b, o, cap, va, vk, rfl, hb, c0, c1, c2, c3, c4, hat, hks⟩ := hU.at hkl
  obtain ⟨z1, z2⟩ := hRP.vals _ (List.getElem_mem hkl)
  have hV := show valO l (K : Nat) = match atO (atsOf l (K : Nat)) vAt with | some s => s | none => ⟨(collapse (txtF l (K : Nat)).data.toList).toArray⟩ from rfl
  rw [atsOf_at hkl] at hV
  obtain ⟨nd, hx⟩ : ∃ nd, l[K] = nd := ⟨_, rfl⟩
  rw [hx] at c0 c1 c3 hat hks z1 z2 hV
  clear hx
  have hK0 : (0 : Int) ≤ (K : Int) := by omega
  have hK1 : (K : Int) < (l.length : Int) := by omega
  have hp : ∀ W, Below w.heap.size w W → ∀ x ∈ nd.ats, Calls Tryz.prog 98 (#[atV x] ++ #[]) W fun e w' => e = .returned (.bool (isN vAt x)) ∧ Below W.heap.size W w' := by
    intro W hW x hx
    rw [Array.append_empty]
    exact optValueFn_any x W
  have HP := Lib.hid hp
  clear hp
  obtain ⟨a5, cap5, rfl⟩ := hat.len
  rcases fi_cases nd.ats (isN vAt) with ⟨h, _⟩ | ⟨k, hk, h, _⟩
  · have hR := Lib.hid (show valO l (K : Nat) = ⟨(collapse (txtF l (K : Nat)).data.toList).toArray⟩ by rw [hV, atO_none h])
    have H := Lib.hid h
    clear h hV
    go_enter Tryz.func93, Tryz.ntmps93
    go_wp2_with fail
    refine (indexFuncA_any nd.ats (isN vAt) _ 98 #[] (enters_of Tryz.func98 (by kernel_rfl) rfl) z1 _ hat HP.out).mono ?_
    rintro e w2 ⟨rfl, hb2⟩
    rw [H.out]
    go_wp2_with fail
    refine (treeText_any l _ K hkl hRP hz _ (hU.kept hb2)).mono ?_
    rintro e w3 ⟨rfl, hb3⟩
    go_wp2_with fail
    refine (collapse_any _ _ (by omega)).mono ?_
    rintro e w4 ⟨rfl, hb4⟩
    go_wp2_with fail
    go_ret
    exact ⟨by rw [hR.out]; rfl, bs (bs hb2 hb3) hb4⟩
  · have hR := Lib.hid (show valO l (K : Nat) = nd.ats[k].v by rw [hV, atO_some hk h])
    have H := Lib.hid h
    obtain ⟨b6, o6, cap6, hv, _, hb6, e0, e1⟩ := hat.at hk
    cases hv
    have hk0 : (0 : Int) ≤ (k : Int) := by omega
    have hk1 : (k : Int) < (nd.ats.length : Int) := by omega
    generalize nd.ats[k] = x at *
    clear h hV
    go_enter Tryz.func93, Tryz.ntmps93
    go_wp2_with fail
    refine (indexFuncA_any nd.ats (isN vAt) _ 98 #[] (enters_of Tryz.func98 (by kernel_rfl) rfl) z1 _ hat HP.out).mono ?_
    rintro e w2 ⟨rfl, hb2⟩
    rw [H.out]
    have d2 := cellK hb2 hb c2
    have g0 := cellK hb2 hb6 e0
    have g1 := cellK hb2 hb6 e1
    go_wp2_with fail
    go_ret
    exact ⟨by rw [hR.out]; rfl, hb2⟩
set_option maxHeartbeats 1000000 in
set_option maxRecDepth 100000 in
theorem optText_any (l : List Nd) (v : Value) (id : Int) (hl : l.length ≤ 1000000000000000000) (hz : ∀ x ∈ l, Fits x) (w : World) (hU : Nodes l v w) :
    Calls Tryz.prog 70 #[v, .int .i64 id] w fun e w' => e = .returned (.string (textO l id)) ∧ Below w.heap.size w w' := by
  obtain ⟨a, cap, rfl⟩ := hU.len
  cases hi : isF l id 32
  · have HI := Lib.hid hi
    have hR := Lib.hid (show textO l id = ⟨#[]⟩ by unfold textO; rw [hi]; rfl)
    clear hi
    go_enter Tryz.func70, Tryz.ntmps70
    go_wp2_with fail
    refine (optIs_any l _ id 32 hl hz _ hU).mono ?_
    rintro e w2 ⟨rfl, hb2⟩
    rw [HI.out]
    go_wp2_with fail
    go_ret
    exact ⟨by rw [hR.out]; rfl, hb2⟩
  · have HI := Lib.hid hi
    have hR := Lib.hid (show textO l id = valO l id by unfold textO; rw [hi]; rfl)
    have hc := (isF_30 (by omega)).1 hi
    obtain ⟨i0, i1⟩ := kindF_pos (l := l) (k := id) (by omega)
    have hRP := (rightB_iff l).1 hc.1
    obtain ⟨K, rfl⟩ := Int.eq_ofNat_of_zero_le i0
    have hkl : K < l.length := by omega
    clear hi hc
    go_enter Tryz.func70, Tryz.ntmps70
    go_wp2_with fail
    refine (optIs_any l _ _ 32 hl hz _ hU).mono ?_
    rintro e w2 ⟨rfl, hb2⟩
    rw [HI.out]
    go_wp2_with fail
    refine (optValue_any l _ K hkl hRP hz _ (hU.kept hb2)).mono ?_
    rintro e w3 ⟨rfl, hb3⟩
    go_wp2_with fail
    go_ret
    exact ⟨by rw [hR.out]; rfl, bs hb2 hb3⟩
end Go.Proofs.YtafbghlldlconaaGreat
