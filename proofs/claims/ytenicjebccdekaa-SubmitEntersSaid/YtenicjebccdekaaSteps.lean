/-
  A STORE INTO A BLOCK OF ONE'S OWN, in a region and in a region that draws its order: the world behind it is a letter, of which one knows the block and Below.
-/
import Derived.Test.YtenicjebccdekaaKept
import Derived.Test.YtenicjebccdekaaBase
import Derived.Laws.CopyRow
import Derived.Deep.RegionHeld3
import Derived.Deep.CutRange
import Derived.Deep.DeepCutAuto
namespace Go.Proofs.Ytenicjebccdekaa
set_option linter.unusedVariables false
set_option linter.unusedSimpArgs false
open Go.RowKit

theorem below_setRow {B : Nat} (W : World) (g : Nat) (cs : Array Value) (hB : B ≤ g) : Below B W (W.setRow g cs) := by
  refine ⟨rfl, rfl, rfl, by simp [World.setRow], fun k hk => ?_⟩
  simp only [World.setRow, Array.getElem?_modify]
  rw [if_neg (by omega)]
theorem fresh_kept {W w' : World} {o : Obj} (hb : Below (W.alloc o).heap.size (W.alloc o) w') : w'.heap[W.heap.size]? = some o := by
  rw [hb.block _ (by simp), Go.heap_alloc_new]
theorem fresh_kept_d {W w' : World} {o : Obj} (hb : Below (W.alloc o).drew.heap.size (W.alloc o).drew w') : w'.heap[W.heap.size]? = some o := by
  have h : (W.alloc o).drew.heap[W.heap.size]? = some o := Go.heap_alloc_new W o
  rw [hb.block _ (Array.getElem?_eq_some_iff.1 h).1, h]
theorem run_store_at (W : World) (ty : TypeId) (g i : Nat) (v : Value) (old : Array Value) (t : TypeId) (hg : W.heap[g]? = some (.cells old t (0, 0)))
    (hsz : (Try.prog.info? ty).map (·.size) = some v.cells.size) (hle : i + v.cells.size ≤ old.size) (h1 : v.cells.all (·.oneCell') = true) :
    (storeVar ty ⟨g, i, none⟩ v).run Try.prog W = .ok () (W.setRow g (old.toList.take i ++ v.cells.toList ++ old.toList.drop (i + v.cells.toList.length)).toArray) := by
  have := run_storeCells_at (P := Try.prog) g i t v.cells.toList 0 old W hg (by simpa using hle) (fun u hu => (Array.all_eq_true_iff_forall_mem.1 h1) u (by simpa using hu))
  cases hq : Try.prog.info? ty with
  | none => simp [hq] at hsz
  | some z =>
    have hs : v.cells.size = z.size := by simp [hq] at hsz; omega
    simp only [Nat.add_zero] at this
    simp [storeVar, sizeOf, typeInfo, hq, hs, this]
theorem wp_store_at {W : World} {o : Oper} {a : Act} {K : Act → World → Prop} {Q : Exit → Act → World → Prop} (ty : TypeId) (x y : Operand) (ho : o.op = .store ty x y)
    (g i : Nat) (hx : a.eval x = .pointer (some ⟨g, i, none⟩)) (v : Value) (hy : a.eval y = v) (old new : Array Value) (t : TypeId) (hg : W.heap[g]? = some (.cells old t (0, 0)))
    (hsz : (Try.prog.info? ty).map (·.size) = some v.cells.size) (hle : i + v.cells.size ≤ old.size) (h1 : v.cells.all (·.oneCell') = true)
    (hnew : (old.toList.take i ++ v.cells.toList ++ old.toList.drop (i + v.cells.toList.length)).toArray = new) {B : Nat} (hB : B ≤ g)
    (h : ∀ w', w'.heap[g]? = some (.cells new t (0, 0)) → Below B W w' → K (a.put o.dst undef) w') : o.wp Try.prog a W K Q := by
  unfold Oper.wp execOp
  simp only [ho, hx, hy, Instr.storeAt, Instr.sureAddr, Sem.run_bind, Sem.run_pure, Result.andThen_ok, run_store_at W ty g i v old t hg hsz hle h1]
  rw [hnew]
  exact h _ (setRow_heap W g old new t (0, 0) hg) (below_setRow W g new hB)
theorem step_store_at {W : World} {ops : Array Oper} {o : Oper} {a : Act} {K : Act → World → Prop} {Q : Exit → Act → World → Prop} {E : Prop} (hgd : o.guard = none) (ty : TypeId) (x y : Operand) (ho : o.op = .store ty x y)
    (g i : Nat) (hx : a.eval x = .pointer (some ⟨g, i, none⟩)) (v : Value) (hy : a.eval y = v) (old new : Array Value) (t : TypeId) (hg : W.heap[g]? = some (.cells old t (0, 0)))
    (hsz : (Try.prog.info? ty).map (·.size) = some v.cells.size) (hle : i + v.cells.size ≤ old.size) (h1 : v.cells.all (·.oneCell') = true)
    (hnew : (old.toList.take i ++ v.cells.toList ++ old.toList.drop (i + v.cells.toList.length)).toArray = new) {B : Nat} (hB : B ≤ g)
    (h : ∀ w', w'.heap[g]? = some (.cells new t (0, 0)) → Below B W w' → K (a.put o.dst undef) w') : if Region.wanted o (yielded ops a.tmps) then o.wp Try.prog a W K Q else E := by
  have hw : Region.wanted o (yielded ops a.tmps) = true := by simp [Region.wanted, hgd]
  rw [if_pos hw]
  exact wp_store_at ty x y ho g i hx v hy old new t hg hsz hle h1 hnew hB h
theorem wpList_store_at {W : World} {ops : Array Oper} {rest : List Oper} {o : Oper} {a : Act} {Q : Exit → Act → World → Prop} (hgd : o.guard = none) (ty : TypeId) (x y : Operand) (ho : o.op = .store ty x y)
    (g i : Nat) (hx : a.eval x = .pointer (some ⟨g, i, none⟩)) (v : Value) (hy : a.eval y = v) (old new : Array Value) (t : TypeId) (hg : W.heap[g]? = some (.cells old t (0, 0)))
    (hsz : (Try.prog.info? ty).map (·.size) = some v.cells.size) (hle : i + v.cells.size ≤ old.size) (h1 : v.cells.all (·.oneCell') = true)
    (hnew : (old.toList.take i ++ v.cells.toList ++ old.toList.drop (i + v.cells.toList.length)).toArray = new) {B : Nat} (hB : B ≤ g)
    (h : ∀ w', w'.heap[g]? = some (.cells new t (0, 0)) → Below B W w' → wpList Try.prog ops Q rest (a.put o.dst undef) w') : wpList Try.prog ops Q (o :: rest) a W :=
  wpList_plain hgd fun _ hK => wp_store_at ty x y ho g i hx v hy old new t hg hsz hle h1 hnew hB fun w' h2 h3 => hK _ _ (h w' h2 h3)
/-- five cells of a block, each as the walk asks for it -/
theorem five_of {W : World} {g : Nat} {a b c d e : Value} {t : TypeId} (h : W.heap[g]? = some (.cells #[a, b, c, d, e] t (0, 0))) :
    W.cell? ⟨g, 0, none⟩ = some a ∧ W.cell? ⟨g, 1, none⟩ = some b ∧ W.cell? ⟨g, 2, none⟩ = some c ∧ W.cell? ⟨g, 3, none⟩ = some d ∧ W.cell? ⟨g, 4, none⟩ = some e ∧
    W.frozen? ⟨g, 0, none⟩ = false ∧ W.frozen? ⟨g, 1, none⟩ = false ∧ W.frozen? ⟨g, 2, none⟩ = false ∧ W.frozen? ⟨g, 3, none⟩ = false ∧ W.frozen? ⟨g, 4, none⟩ = false := by
  simp [World.cell?, World.frozen?, h]
theorem set5_below {B : Nat} (W : World) (g : Nat) (a b c d e : Value) (hB : B ≤ g) : Below B W (((((W.setCell ⟨g, 0, none⟩ a).setCell ⟨g, 1, none⟩ b).setCell ⟨g, 2, none⟩ c).setCell ⟨g, 3, none⟩ d).setCell ⟨g, 4, none⟩ e) :=
  (((((Below.refl B W).setCell (p := ⟨g, 0, none⟩) hB a).setCell (p := ⟨g, 1, none⟩) hB b).setCell (p := ⟨g, 2, none⟩) hB c).setCell (p := ⟨g, 3, none⟩) hB d).setCell (p := ⟨g, 4, none⟩) hB e
theorem setCell_heap {W : World} {g i : Nat} {cur : Array Value} {t : TypeId} (u : Value) (h : W.heap[g]? = some (.cells cur t (0, 0))) : (W.setCell ⟨g, i, none⟩ u).heap[g]? = some (.cells (cur.setIfInBounds i u) t (0, 0)) := by
  rw [setCell_eq_setRow W g i cur t (0, 0) u h]
  exact setRow_heap W g cur _ t (0, 0) h
theorem set5_heap {W : World} {g : Nat} {a0 b0 c0 d0 e0 : Value} {t : TypeId} (a b c d e : Value) (h : W.heap[g]? = some (.cells #[a0, b0, c0, d0, e0] t (0, 0))) :
    (((((W.setCell ⟨g, 0, none⟩ a).setCell ⟨g, 1, none⟩ b).setCell ⟨g, 2, none⟩ c).setCell ⟨g, 3, none⟩ d).setCell ⟨g, 4, none⟩ e).heap[g]? = some (.cells #[a, b, c, d, e] t (0, 0)) := by
  rw [setCell_heap e (setCell_heap d (setCell_heap c (setCell_heap b (setCell_heap a h))))]
  rfl
theorem below_re {B : Nat} (W : World) (o o' : Obj) (h : B ≤ W.heap.size) : Below B (W.alloc o) (W.alloc o') := by
  refine ⟨rfl, rfl, rfl, by simp, fun k hk => ?_⟩
  rw [Below.heap_alloc W o k (by omega), Below.heap_alloc W o' k (by omega)]
end Go.Proofs.Ytenicjebccdekaa
