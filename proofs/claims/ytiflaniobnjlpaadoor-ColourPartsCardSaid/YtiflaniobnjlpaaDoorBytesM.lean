/-
  A []byte THAT WAS MADE OF A TEXT ('[]byte(t)'): its row bears the mark of such a row just behind its cells; 'append' onto it.
-/
import Derived.Test.YtiflaniobnjlpaaDoorBytes
import Derived.Lib.FrozenHead2
namespace Go.Proofs.YtiflaniobnjlpaaDoor
open Go.RowKit Go.Lib

/-- the value v is a []byte that holds l; its row may be frozen behind its last cell -/
def OM (base : Nat) (l : List UInt8) (v : Value) (w : World) : Prop :=
  ∃ g cap cur fz, v = .slice (some ⟨g, 0, none⟩) l.length cap ∧ base ≤ g ∧ w.heap[g]? = some (.cells cur 5 fz) ∧ (fz = (0, 0) ∨ cur.size ≤ fz.1) ∧ l.length ≤ cap ∧ cap ≤ maxLen ∧ cur.size = cap ∧ cur.toList.take l.length = byteCells l

theorem OM.alloc {base : Nat} {l : List UInt8} {v : Value} {w : World} (h : OM base l v w) (o : Obj) : OM base l v (w.alloc o) := by
  obtain ⟨g, cap, cur, fz, rfl, h2, h3, h4⟩ := h
  refine ⟨g, cap, cur, fz, rfl, h2, ?_, h4⟩
  have hlt : g < w.heap.size := (Array.getElem?_eq_some_iff.1 h3).1
  rw [Go.heap_alloc_old w o hlt]; exact h3
theorem OM.kept {base : Nat} {l : List UInt8} {v : Value} {w w' : World} (h : OM base l v w) (hb : Below w.heap.size w w') : OM base l v w' := by
  obtain ⟨g, cap, cur, fz, rfl, h2, h3, h4⟩ := h
  refine ⟨g, cap, cur, fz, rfl, h2, ?_, h4⟩
  have hlt : g < w.heap.size := (Array.getElem?_eq_some_iff.1 h3).1
  rw [hb.block g hlt]; exact h3
theorem OM.conv {base : Nat} {l : List UInt8} {v : Value} {w : World} (h : OM base l v w) :
    (convert 45 9 v).run Tryd.prog w = .ok (.string ⟨l.toArray⟩) w := by
  obtain ⟨g, cap, cur, fz, rfl, h2, h3, h4, h5, h6, h7, h8⟩ := h
  exact run_convert_bytes_back w _ _ _ _ cap l Tryd.underlying45 Tryd.underlying5 Tryd.underlying9 (row_bytes h3 h8)
/-- behind '[]byte(t)' -/
theorem OM.of_text (w : World) (s : ByteArray) (hs : grownCap w s.size 0 5 ≤ maxLen) (hc : s.size ≤ grownCap w s.size 0 5) (hz : (bytesCells w 5 s).size = grownCap w s.size 0 5) :
    OM w.heap.size s.data.toList (.slice (some ⟨w.heap.size, 0, none⟩) s.size (grownCap w s.size 0 5)) (bytesWorld w 5 s) := by
  refine ⟨w.heap.size, _, _, _, by rw [size_list], Nat.le_refl _, bytesWorld_at_new w _ s, .inr (Nat.le_refl _), by rw [size_list]; exact hc, hs, hz, ?_⟩
  have hl : s.data.toList.length = s.size := size_list s
  unfold bytesCells byteCells
  rw [Array.toList_append, List.take_append_of_le_length (by simp), List.take_of_length_le (by simp)]
  simp

theorem run_storeCells_atM (P : Program) (g o : Nat) (t : TypeId) (fz : Nat × Nat) : ∀ (vs : List Value) (i : Nat) (cur : Array Value) (w : World), w.heap[g]? = some (.cells cur t fz) → (fz = (0, 0) ∨ cur.size ≤ fz.1) → o + i + vs.length ≤ cur.size → (∀ v ∈ vs, v.oneCell' = true) →
    (storeCells ⟨g, o, none⟩ vs i).run P w = .ok () (w.setRow g (cur.toList.take (o + i) ++ vs ++ cur.toList.drop (o + i + vs.length)).toArray)
  | [], i, cur, w, hg, _, _, _ => by
    simp only [storeCells, List.append_nil, List.length_nil, Nat.add_zero, List.take_append_drop, Array.toArray_toList]
    rw [setRow_self w g cur t fz hg]
    rfl
  | v :: rest, i, cur, w, hg, hfz, hl, h1 => by
    have hi : o + i < cur.size := by simp at hl; omega
    have hadd : (⟨g, o, none⟩ : Addr).add i = ⟨g, o + i, none⟩ := by unfold Addr.add; split <;> simp_all
    have hcell : w.cell? ⟨g, o + i, none⟩ = some cur[o + i] := by simp [World.cell?, hg, hi]
    have hfro : w.frozen? ⟨g, o + i, none⟩ = false := by
      obtain ⟨lo, hi'⟩ := fz
      simp only [World.frozen?, hg, Bool.and_eq_false_iff, decide_eq_false_iff_not]
      rcases hfz with hfz | hfz
      · simp only [Prod.mk.injEq] at hfz; right; omega
      · left; simp only at hfz; omega
    have hst : (store ((⟨g, o, none⟩ : Addr).add i) v).run P w = .ok () (w.setRow g (cur.setIfInBounds (o + i) v)) := by
      rw [hadd, run_store P w _ v _ (h1 v (by simp)), hcell]
      simp [hfro, setCell_eq_setRow w g (o + i) cur t fz v hg]
    have ih := run_storeCells_atM P g o t fz rest (i + 1) (cur.setIfInBounds (o + i) v) (w.setRow g (cur.setIfInBounds (o + i) v)) (setRow_heap w g cur _ t _ hg) (by simpa using hfz) (by simp at hl ⊢; omega) (fun x hx => h1 x (by simp [hx]))
    simp only [storeCells, Sem.run_bind, hst, Result.andThen_ok, ih, setRow_setRow]
    congr 3
    have e := list_seg_step cur.toList (o + i) v rest (by simp at hl ⊢; omega)
    simpa [Array.toList_setIfInBounds, Nat.add_assoc] using e

theorem run_append_bytesM {W : World} {base : Nat} {l : List UInt8} {v : Value} (ty : TypeId) (cs : List UInt8) (q : Nat) (hnews : ∀ j u, (byteCells cs)[j]? = some u → W.cell? ((⟨q, 0, none⟩ : Addr).add j) = some u)
    (hown : OM base l v W) (hlen : l.length + cs.length < 70368744177664) (hbase : base ≤ W.heap.size) :
    ∃ v' w', (Builtin.append_ #[45, 45] ty #[v, .slice (some ⟨q, 0, none⟩) cs.length cs.length]).run Tryd.prog W = .ok v' w' ∧ OM base (l ++ cs) v' w' ∧ Below base W w' := by
  obtain ⟨i0, hi, hz0, hz1, hz2⟩ := info_parts info_u8
  have hcl : (byteCells cs).length = cs.length := by simp [byteCells]
  have h1 : ∀ u ∈ byteCells cs, u.oneCell' = true := by
    intro u hu
    simp only [byteCells, List.mem_map] at hu
    obtain ⟨c, _, rfl⟩ := hu
    rfl
  obtain ⟨g, cap, cur, fz, rfl, hbg, hg, hfz, hnc, hcm, hcs, htake⟩ := hown
  have hll : (byteCells (l ++ cs)) = byteCells l ++ byteCells cs := byteCells_append _ _
  by_cases hroom : l.length + cs.length ≤ cap
  · have hf := run_firstCells_some (P := Tryd.prog) W i0.size cs.length ⟨q, 0, none⟩ cs.length cs.length (byteCells cs) (by rw [hz1, hcl, Nat.mul_one]) hnews
    rw [hz1] at hf
    have hst := run_storeCells_atM Tryd.prog g l.length 5 fz (byteCells cs) 0 cur _ hg hfz (by rw [hcl, hcs]; omega) h1
    simp only [Nat.add_zero] at hst
    have hr : (Builtin.append_ #[45, 45] ty #[.slice (some ⟨g, 0, none⟩) l.length cap, .slice (some ⟨q, 0, none⟩) cs.length cs.length]).run Tryd.prog W =
        .ok (.slice (some ⟨g, 0, none⟩) (l.length + cs.length) cap) (W.setRow g (cur.toList.take l.length ++ byteCells cs ++ cur.toList.drop (l.length + (byteCells cs).length)).toArray) := by
      simp [Builtin.append_, run_underlying Tryd.underlying45, sizeOf, typeInfo, hi, Builtin.lenOf, hroom, hf, hz1, Addr.add_lit, hst]
    refine ⟨_, _, hr, ⟨g, cap, _, fz, by rw [List.length_append], hbg, setRow_heap _ g cur _ _ _ hg, ?_, by rw [List.length_append]; exact hroom, hcm, ?_, ?_⟩, ?_⟩
    · rcases hfz with h | h
      · exact .inl h
      · right
        simp only [List.size_toArray, List.length_append, List.length_take, List.length_drop, Array.length_toList, hcl]
        omega
    · simp only [List.size_toArray, List.length_append, List.length_take, List.length_drop, Array.length_toList, hcl]
      omega
    · rw [htake, hll, List.length_append]
      have e : (byteCells l ++ byteCells cs).length = l.length + cs.length := by simp [byteCells]
      rw [← e]
      exact List.take_left
    · refine ⟨rfl, rfl, rfl, by simp, fun k hk => ?_⟩
      rw [setRow_other _ g k _ (by omega)]
  · have hr := run_append_grow (P := Tryd.prog) W 45 ty 5 i0 (.int .u8 0) Tryd.underlying45 hi hz0 ⟨g, 0, none⟩ l.length cap (byteCells l) (by rw [hz1]; simp [byteCells]) (fun j u hj => by
        have hj2 : j < l.length := by
          have := (List.getElem?_eq_some_iff.1 hj).1
          simpa [byteCells] using this
        have h := row_bytes hg htake j hj2
        rw [h]
        simpa [byteCells, hj2] using hj) ⟨q, 0, none⟩ cs.length cs.length (byteCells cs) (by rw [hz1, hcl, Nat.mul_one]) hnews (by omega) (by omega) (growslice_fits (by omega) (by rw [hz2]; omega))
    have hge := grownCap_ge W (l.length + cs.length) cap 5
    have hcm2 : grownCap W (l.length + cs.length) cap 5 ≤ maxLen := grownCap_le_maxLen _ _ cap _ (by unfold maxLen; omega)
    generalize grownCap W (l.length + cs.length) cap 5 = c2 at hr hge hcm2
    have hbl : (byteCells l).length = l.length := by simp [byteCells]
    refine ⟨_, _, hr, ⟨_, _, _, (0, 0), by rw [List.length_append]; rfl, ?_, Go.heap_alloc_new (World.drew _) _, .inl rfl, by rw [List.length_append]; exact hge, hcm2, ?_, ?_⟩, ?_⟩
    · simp; omega
    · simp only [Array.size_append, List.size_toArray, size_zeroCells, hcl, hbl]
      simp [Value.cells]
      omega
    · rw [hll, List.length_append]
      simp only [Array.toList_append, List.append_assoc]
      rw [← List.append_assoc]
      have e : (byteCells l ++ byteCells cs).length = l.length + cs.length := by simp [byteCells]
      rw [← e]
      exact List.take_left
    · refine ⟨rfl, rfl, rfl, by simp, fun k hk => ?_⟩
      rw [Go.heap_alloc_old (World.drew _) _ (by simp; omega)]
      rfl

theorem wpList_append_bytesM {W : World} {ops : Array Oper} {rest : List Oper} {o : Oper} {a : Act} {Q : Exit → Act → World → Prop} (hgd : o.guard = none) (s x : Operand)
    (ho : o.op = .call { callee := .builtin .append, args := #[s, x], argTypes := #[45, 45] })
    {base : Nat} {l : List UInt8} {v : Value} (hs : a.eval s = v) (cs : List UInt8) (q : Nat) (hx : a.eval x = .slice (some ⟨q, 0, none⟩) cs.length cs.length) (hnews : ∀ j u, (byteCells cs)[j]? = some u → W.cell? ((⟨q, 0, none⟩ : Addr).add j) = some u)
    (hown : OM base l v W) (hlen : l.length + cs.length < 70368744177664) (hbase : base ≤ W.heap.size)
    (h : ∀ v' w', OM base (l ++ cs) v' w' → Below base W w' → wpList Tryd.prog ops Q rest (a.put o.dst v') w') : wpList Tryd.prog ops Q (o :: rest) a W := by
  refine wpList_plain hgd fun K hK => ?_
  obtain ⟨v', w', hr, h2, h3⟩ := run_append_bytesM o.type cs q hnews hown hlen hbase
  unfold Oper.wp execOp
  simp only [ho, resolve, invoke, builtin, Sem.run_bind, Sem.run_pure, Result.andThen_ok, List.map_toArray, List.map_cons, List.map_nil, hs, hx, hr]
  exact hK _ _ (h v' w' h2 h3)
/-- the same where the region draws its order -/
theorem step_append_bytesM {W : World} {ops : Array Oper} {o : Oper} {a : Act} {K : Act → World → Prop} {Q : Exit → Act → World → Prop} {E : Prop} (hgd : o.guard = none) (s x : Operand)
    (ho : o.op = .call { callee := .builtin .append, args := #[s, x], argTypes := #[45, 45] })
    {base : Nat} {l : List UInt8} {v : Value} (hs : a.eval s = v) (cs : List UInt8) (q : Nat) (hx : a.eval x = .slice (some ⟨q, 0, none⟩) cs.length cs.length) (hnews : ∀ j u, (byteCells cs)[j]? = some u → W.cell? ((⟨q, 0, none⟩ : Addr).add j) = some u)
    (hown : OM base l v W) (hlen : l.length + cs.length < 70368744177664) (hbase : base ≤ W.heap.size)
    (h : ∀ v' w', OM base (l ++ cs) v' w' → Below base W w' → K (a.put o.dst v') w') : if Region.wanted o (yielded ops a.tmps) then o.wp Tryd.prog a W K Q else E := by
  have hw : Region.wanted o (yielded ops a.tmps) = true := by simp [Region.wanted, hgd]
  rw [if_pos hw]
  obtain ⟨v', w', hr, h2, h3⟩ := run_append_bytesM o.type cs q hnews hown hlen hbase
  unfold Oper.wp execOp
  simp only [ho, resolve, invoke, builtin, Sem.run_bind, Sem.run_pure, Result.andThen_ok, List.map_toArray, List.map_cons, List.map_nil, hs, hx, hr]
  exact h v' w' h2 h3
end Go.Proofs.YtiflaniobnjlpaaDoor
