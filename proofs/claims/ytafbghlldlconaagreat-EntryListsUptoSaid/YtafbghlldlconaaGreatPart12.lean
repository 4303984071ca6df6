import Derived.Test.YtafbghlldlconaaGreatPart10
import Derived.Test.YtafbghlldlconaaGreatPart11
/-
  A SELECT's OPTIONS COLLECTED: option.List (a range over a function in its body): the walk.
-/
namespace Go.Proofs.YtafbghlldlconaaGreat
set_option linter.unusedVariables false
set_option linter.unusedSimpArgs false
open Go.RowKit Go.Shelf PT

attribute [local go_sem] Oper.semAt_some
theorem kx_t {B n₂ : Nat} {a b c : World} (h : KX B n₂ a b) (k : KX B n₂ b c) : KX B n₂ a c := h.trans k
theorem kx_b {B n₂ : Nat} {w : World} (hn : n₂ ≤ w.heap.size) (W : World) (l : Nat) (o o' : Obj) (hl : w.heap.size ≤ l) (h : W.heap[l]? = some o) (_ : o.isCells = false) (_ : o.isWalk = false) : KX B n₂ W (W.putObj l o') := by
  have hg := grownBy_putObj' W l o'
  have hlt := (Array.getElem?_eq_some_iff.1 h).1
  exact ⟨hg.os, hg.tape, hg.output, hg.size, fun k hk hne => hg.block k (by omega) (fun e => by cases e; omega)⟩
/-- 'out = append(out, ..)' in the body of the round -/
theorem boxed_appended {W w1 : World} {n₂ B : Nat} {t e : TypeId} {size : Nat} {v v' : Value} {k m : Nat} {xs ys : List Value} {tmp : Obj}
    (hv : Boxed W B t v) (hte : t ≠ e) (hrow : W.ownsRow n₂ e size v k xs) (hn : n₂ ≤ W.heap.size) (hBn : B < n₂)
    (hown' : w1.ownsRow n₂ e size v' m ys) (hgrow : (W.alloc tmp).grownBy w1 v.ownBlock) :
    Boxed w1 B t v ∧ Boxed (w1.setCell ⟨B, 0, none⟩ v') B t v' ∧ (w1.setCell ⟨B, 0, none⟩ v').ownsRow n₂ e size v' m ys ∧ KeepsOthers W (w1.setCell ⟨B, 0, none⟩ v') ∧ KX B n₂ W (w1.setCell ⟨B, 0, none⟩ v') := by
  have hv1 : Boxed w1 B t v := (hv.alloc tmp).kept hgrow (hv.not_row hte hrow)
  refine ⟨hv1, hv1.set v', hown'.kept (grownBy_setCell' w1 B v') (.inr (hv1.not_row hte hown').symm), ?_, ?_⟩
  · refine ((KeepsOthers.alloc W tmp).trans (KeepsOthers.of_grownBy hgrow fun j o ej hj => ?_)).trans (KeepsOthers.setCell _ _ _)
    rcases (hrow.alloc tmp).2 with ⟨rfl, _⟩ | ⟨g, cap, cur, rfl, _, hgb, _⟩
    · simp [Value.ownBlock] at ej
    · obtain rfl : g = j := by simpa [Value.ownBlock] using ej
      rw [hgb] at hj; cases hj; rfl
  · have h1 : Below n₂ W w1 := ((Below.refl n₂ W).alloc hn tmp).grown hgrow (by simp; omega) (fun j ej => by
      rcases hrow.2 with ⟨rfl, _⟩ | ⟨g, cap, cur, rfl, hb, _, _⟩
      · simp [Value.ownBlock] at ej
      · obtain rfl : g = j := by simpa [Value.ownBlock] using ej
        exact hb)
    have h2 := grownBy_setCell' w1 B v'
    exact ⟨h2.os.trans h1.os, h2.tape.trans h1.tape, h2.output.trans h1.output, Nat.le_trans h1.size h2.size, fun k hk hne => (h2.block k (by have := h1.size; omega) (fun e => by cases e; exact hne rfl)).trans (h1.block k hk)⟩
set_option maxHeartbeats 4000000 in
set_option maxRecDepth 100000 in
theorem optList_any (l : List Nd) (v : Value) (sel : Int) (hl : l.length ≤ 1000000000000000000) (hz : ∀ x ∈ l, Fits x) (w : World) (hU : Nodes l v w) :
    Calls Tryz.prog 68 #[v, .int .i64 sel] w fun e w' => ∃ vo, e = .returned vo ∧ OV w.heap.size 3 (ints (listF l sel)) vo w' ∧ Below w.heap.size w w' := by
  obtain ⟨a, cap, rfl⟩ := hU.len
  cases hi : isF l sel 23
  · have HI := Lib.hid hi
    have hR := Lib.hid (show listF l sel = [] by unfold listF; rw [hi]; rfl)
    clear hi
    go_enter Tryz.func68, Tryz.ntmps68
    go_wp2_with fail
    refine (optIs_any l _ sel 23 hl hz _ hU).mono ?_
    rintro e w2 ⟨rfl, hb2⟩
    rw [HI.out]
    go_wp2_with fail
    go_ret
    exact ⟨_, rfl, by rw [hR.out]; exact OV.nil _ _ _, hb2⟩
  have HI := Lib.hid hi
  have hR := Lib.hid (show listF l sel = optsOf l sel by unfold listF; rw [hi]; rfl)
  have hc := (isF_30 (by omega)).1 hi
  obtain ⟨i0, i1⟩ := kindF_pos (l := l) (k := sel) (by omega)
  have hRP := (rightB_iff l).1 hc.1
  have hks := hc.2
  rw [kindF_in i0 i1, kOf_sel i0 i1] at hks
  have hol := optsOf_len hRP i0 i1 hks
  have hmax := hRP.max
  obtain ⟨K, rfl⟩ := Int.eq_ofNat_of_zero_le i0
  have hkl : K < l.length := by omega
  clear hi hc hks
  obtain ⟨q0, hq, hz0, hz1, hz2⟩ := info_parts info_i64
  refine (callsIn_wide (n := 9)).1 ?_
  refine callsIn_of_wp_marks Tryz.func68 rfl trivial ?_ rfl
  simp only [Tryz.ntmps68, List.size_toArray, List.length_cons, List.length_nil, Nat.reduceAdd, Nat.reduceSub, Array.replicate_succ, Array.replicate_zero, List.push_toArray, List.append_toArray, List.nil_append, List.cons_append]
  gi_wp2_with fail
  refine ⟨trivial, (callsIn_wide.2 (optIs_any l _ _ 23 hl hz _ hU)).mono ?_⟩
  rintro e w1 ⟨rfl, hb1⟩
  rw [HI.out]
  gi_wp2_with fail
  refine ⟨trivial, (optMake_in _ _ _ _ _ _).mono ?_⟩
  rintro e w2 ⟨rfl, hw2⟩
  have hs1 : (w1.alloc (.cells #[.slice none 0 0] 39)).heap.size = w1.heap.size + 1 := by simp
  rw [hs1]
  have bO : Boxed w2 w1.heap.size 39 (.slice none 0 0) := by rw [hw2]; exact ((Boxed.new w1 39 (.slice none 0 0)).alloc _).alloc _
  have bL : Boxed w2 (w1.heap.size + 1) 22 (.slice a l.length cap) := by
    rw [hw2]
    have := Boxed.new (w1.alloc (.cells #[.slice none 0 0] 39)) 22 (.slice a l.length cap)
    rw [hs1] at this
    exact this.alloc _
  have bS : Boxed w2 (w1.heap.size + 1 + 1) 3 (.int .i64 (K : Nat)) := by
    rw [hw2]
    have := Boxed.new ((w1.alloc (.cells #[.slice none 0 0] 39)).alloc (.cells #[.slice a l.length cap] 22)) 3 (.int .i64 (K : Nat))
    rw [World.size_alloc, hs1] at this
    exact this
  have hb2 : Below w1.heap.size w1 w2 := by rw [hw2]; exact (((Below.refl _ w1).alloc (Nat.le_refl _) _).alloc (by simp) _).alloc (by simp; omega) _
  have hs2 : w2.heap.size = w1.heap.size + 3 := by rw [hw2]; simp
  have hb12 := bs hb1 hb2
  have hg1 := hb1.size
  clear hw2 hs1
  gi_wp2_with fail
  refine wpIn_rangeFunc_ownG rfl (by omega) (gf := 96) (lb := #[.pointer (some ⟨w1.heap.size + 1, 0, none⟩), .pointer (some ⟨w1.heap.size + 1 + 1, 0, none⟩)]) rfl trivial (enters_of Tryz.func96 (by kernel_rfl) rfl)
    (opt_stops l hRP _ K hkl (9 - 1) (by omega) w1.heap.size (w1.heap.size + 1) (w1.heap.size + 1 + 1) w hU hg1 w2 ⟨by omega, by omega⟩ ⟨by omega, by omega⟩ ⟨hb12, Nat.le_refl _, bL.cell, bS.cell⟩) kx_t (kx_b (Nat.le_refl _)) (Below.refl _ _) (fun _ => rfl)
    (fun (pre : List Int) W => (∃ u, Boxed W w1.heap.size 39 u ∧ W.ownsRow w2.heap.size 3 1 u pre.length (pre.map (Value.int .i64)) ∧ True) ∧ Below w1.heap.size w2 W)
    (fun _ (_ : List Int) _ => False)
    (OwnFrom.and (Own.from (holdsRow_own w2.heap.size w1.heap.size 39 3 1 (fun (pre : List Int) => pre.length) (fun pre => pre.map (Value.int .i64)) (fun _ _ => True)) _) (ownFrom_below (by omega) (by omega)))
    (fun _ _ _ _ _ hs _ _ => hs)
    ⟨⟨_, bO, World.ownsRow_nil _ _ _ _, trivial⟩, Below.refl _ _⟩
    (fun (x : Int) => { tmps := #[.slice a l.length cap, .int .i64 (K : Nat), undef, undef, .slice none 0 0, .pointer (some ⟨w1.heap.size, 0, none⟩), .int .i64 x, .slice a l.length cap, .int .i64 (K : Nat), .bool true, .bool false, .slice a l.length cap, .int .i64 (K : Nat), .func (.func 96) #[] #[.pointer (some ⟨w1.heap.size + 1, 0, none⟩), .pointer (some ⟨w1.heap.size + 1 + 1, 0, none⟩)], .int .i64 x, undef, undef, undef, undef, undef], defers := [] }) ?assign ?body ?done ?stop
  case assign =>
    intro l x W K hK
    gi_wp2
    exact hK
  case body =>
    rintro lp pre x W ⟨⟨u, hv, hrow, _⟩, hB⟩ hlt
    have hcv := hv.cell
    have hWs := hB.size
    gi_wp2_with (gi_at_builtin; refine wpListIn_append_own _ rfl _ _ 39 rfl w2.heap.size 3 q0 (.int .i64 0) 1 8 Tryz.underlying39 hq hz0 hz1 hz2 rfl (by decide) _ _ _ rfl (hrow.alloc _) ⟨W.heap.size, 0, none⟩ 1 1 [.int .i64 x] rfl rfl (cell_one_new _ _ _) (by simp [Value.oneCell']) (by unfold maxLen; omega) (by omega) (by simp; omega) ?_; intro v' w3 hown' hgrow _; obtain ⟨g', cap', rfl⟩ := ownsRow_succ hown'; obtain ⟨hv1, hv2, hr2, hk2, hb2'⟩ := boxed_appended hv (by decide) hrow hWs (by omega) hown' hgrow; have hc1 := hv1.cell; have hf1 := hv1.frozen)
    exact ⟨hk2.from _, hb2', ⟨_, hv2, by rw [List.map_append, List.length_append]; exact hr2, trivial⟩, hB.trans (hb2'.below (Nat.le_refl _) (by omega))⟩
  case done =>
    rintro D ys W hD rfl ⟨⟨u, hv, hrow, _⟩, hB⟩ hK
    have hcv := hv.cell
    gi_wp2
    refine ⟨by simp, .inl ⟨_, _, rfl, run_takeDeferred hK, ?_⟩⟩
    refine ⟨_, results_tmp rfl _ _ _, u, rfl, ?_, ?_⟩
    · rw [hR.out]
      refine ov_base (B := w2.heap.size) ?_ (by omega)
      have h9 := ownsRow_putObj hrow (.deferred none) hK rfl
      unfold OV ints
      rw [List.length_map]
      exact h9
    · exact (hb12.trans (hB.mono hg1)).trans (belowK_b (w := w2) (by omega) W D _ _ hD hK rfl rfl)
  case stop =>
    rintro D c pre W _ _ h _
    exact h.elim
end Go.Proofs.YtafbghlldlconaaGreat
