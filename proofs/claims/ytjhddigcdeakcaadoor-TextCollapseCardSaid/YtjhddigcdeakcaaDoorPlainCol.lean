/-
  PLAIN LAWS: Collapse byte by byte is the runs with one blank between: no program in sight.
-/
import Derived.Test.YtjhddigcdeakcaaDoorPlainStrip
namespace Go.Proofs.YtjhddigcdeakcaaDoor.PT

/-- what Collapse makes of what is still to come: 'out' so far, 'a': a blank was met ahead -/
def col (out : List UInt8) (a : Bool) : List UInt8 → List UInt8
  | [] => out
  | c :: r => if blk c then col out (decide (0 < out.length)) r else col ((if a then out ++ [32] else out) ++ [c]) false r
theorem col_in (l : List UInt8) : ∀ (pre cur : List UInt8), cur ≠ [] → col (pre ++ cur) false l = pre ++ join (wds cur l) ∧ (∀ out, out ≠ [] → col out true l = out ++ (wds [] l).flatMap (fun y => 32 :: y)) := by
  induction l with
  | nil =>
    intro pre cur hc
    refine ⟨?_, ?_⟩
    · rw [wds, if_neg hc]; simp [col, join]
    · intro out _; simp [col, wds]
  | cons c r ih =>
    intro pre cur hc
    by_cases hb : blk c = true
    · refine ⟨?_, ?_⟩
      · have hp : 0 < (pre ++ cur).length := by
          rw [List.length_append]
          have := List.length_pos_iff.2 hc
          omega
        have h2 := (ih [] [0] (by simp)).2 (pre ++ cur) (by intro e; exact hc (List.append_eq_nil_iff.1 e).2)
        rw [col, if_pos hb, decide_eq_true hp, h2, wds, if_pos hb, if_neg hc, join, List.append_assoc]
      · intro out ho
        have hp : 0 < out.length := List.length_pos_iff.2 ho
        rw [col, if_pos hb, decide_eq_true hp, (ih [] [0] (by simp)).2 out ho, wds, if_pos hb, if_pos rfl]
    · refine ⟨?_, ?_⟩
      · have h1 := (ih pre (cur ++ [c]) (by simp)).1
        rw [col, if_neg hb, if_neg (by simp), wds, if_neg hb, ← h1, List.append_assoc]
      · intro out ho
        have h1 := (ih (out ++ [32]) [c] (by simp)).1
        rw [col, if_neg hb, if_pos rfl, h1, wds, if_neg hb, List.nil_append]
        cases hw : wds [c] r with
        | nil =>
          exfalso
          have : ∀ (x : List UInt8) (y : List UInt8), y ≠ [] → wds y x ≠ [] := by
            intro x
            induction x with
            | nil => intro y hy; rw [wds, if_neg hy]; simp
            | cons d x ihx =>
              intro y hy
              rw [wds]
              split
              · first | simp | (rw [if_neg hy]; simp)
              · exact ihx _ (by simp)
          exact this r [c] (by simp) hw
        | cons x ws => simp [join]
theorem col_start : ∀ l : List UInt8, col [] false l = collapse l
  | [] => rfl
  | c :: r => by
    unfold collapse
    by_cases hb : blk c = true
    · rw [col, if_pos hb, wds, if_pos hb, if_pos rfl]
      exact col_start r
    · rw [col, if_neg hb, if_neg (by simp), wds, if_neg hb]
      have := (col_in r [] [c] (by simp)).1
      simpa using this
end Go.Proofs.YtjhddigcdeakcaaDoor.PT
