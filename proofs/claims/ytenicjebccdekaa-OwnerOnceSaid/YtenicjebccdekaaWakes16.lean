/-
  The laws of chapter 16: the example (wakes): the walk.
-/
import Derived.Test.YtenicjebccdekaaRefIn
import Derived.Test.YtenicjebccdekaaOwnDis
import Derived.Test.YtenicjebccdekaaSameInts
import Derived.Test.YtenicjebccdekaaCopied
namespace Go.Proofs.Ytenicjebccdekaa
set_option linter.unusedVariables false
set_option linter.unusedSimpArgs false
open Go.RowKit PT

/-- the example -/
def ex16 : List Nd := [⟨⟨#[104, 116, 109, 108]⟩, ⟨#[]⟩, [], -1, [1]⟩, ⟨⟨#[102, 111, 114, 109]⟩, ⟨#[]⟩, [], 0, [2]⟩, ⟨⟨#[105, 110, 112, 117, 116]⟩, ⟨#[]⟩, [], 1, []⟩]
theorem ex16_at {P : Nat → Nd → Prop} (h0 : P 0 ⟨⟨#[104, 116, 109, 108]⟩, ⟨#[]⟩, [], -1, [1]⟩) (h1 : P 1 ⟨⟨#[102, 111, 114, 109]⟩, ⟨#[]⟩, [], 0, [2]⟩) (h2 : P 2 ⟨⟨#[105, 110, 112, 117, 116]⟩, ⟨#[]⟩, [], 1, []⟩) : ∀ (i : Nat) x, ex16[i]? = some x → P i x
  | 0, _, h => by cases h; exact h0
  | 1, _, h => by cases h; exact h1
  | 2, _, h => by cases h; exact h2
  | n + 3, _, h => by cases h
theorem ex16_right : RightP ex16 where
  pos := by decide
  max := by decide
  top := fun x h => by cases h; exact ⟨by decide, rfl⟩
  node := ex16_at ⟨by decide, by decide, by decide⟩ ⟨by decide, by decide, by decide⟩ ⟨by decide, by decide, by decide⟩
  kids := ex16_at (fun c hc => by simp at hc; subst hc; decide) (fun c hc => by simp at hc; subst hc; decide) (fun c hc => by simp at hc)
  once := ex16_at (fun h => by revert h; decide) (fun _ => by decide) (fun _ => by decide)
  climb := fun i hi => by
    match i, hi with
    | 0, _ => decide
    | 1, _ => decide
    | 2, _ => decide
theorem ex16_rightB : rightB ex16 = true := rightB_yes ex16_right
theorem ex16_fits : ∀ x ∈ ex16, Fits x := by
  intro x hx
  simp only [ex16, List.mem_cons, List.not_mem_nil, or_false] at hx
  rcases hx with rfl | rfl | rfl <;> exact ⟨by decide, by decide, by decide, by decide, by simp⟩
theorem ex16_form2 : formF ex16 2 = 1 := by
  unfold formF attF upB
  rw [hasB_yes ex16_right (by decide) (by decide)]
  decide
theorem ex16_Form : FormF ex16 2 = 1 := (formF_Form ex16_rightB 2).trans ex16_form2
theorem ex16_in : inF ex16 1 = [0, 1, 2] := by
  unfold inF
  rw [if_pos ⟨ex16_rightB, by decide⟩]
  decide
theorem ex16_elems : elemsF ex16 1 = [2] := by
  unfold elemsF
  rw [ex16_in]
  have e0 : elP ex16 1 0 = false := by unfold elP; rw [show listB (kindF ex16 0) = false by decide]; rfl
  have e1 : elP ex16 1 1 = false := by unfold elP; rw [show listB (kindF ex16 1) = false by decide]; rfl
  have e2 : elP ex16 1 2 = true := by unfold elP; rw [ex16_form2]; decide
  simp [List.filter_cons, e0, e1, e2]
theorem ex16_def : defF ex16 1 = -1 := by
  unfold defF
  rw [ex16_in]
  refine firstF_none (fun x hx => ?_)
  unfold defP
  simp only [List.mem_cons, List.not_mem_nil, or_false] at hx
  rcases hx with rfl | rfl | rfl
  · rw [show firesB (kindF ex16 0) = false by decide]; rfl
  · rw [show firesB (kindF ex16 1) = false by decide]; rfl
  · rw [show firesB (kindF ex16 2) = false by decide]; rfl
theorem ex16_dis : disF ex16 2 = false := by
  unfold disF
  rw [ex16_rightB]
  decide
theorem ex16_nodes (w : World) : Nodes ex16 (.slice (some ⟨w.heap.size + 1 + 1, 0, none⟩) 3 3) (((w.alloc (.cells #[.int .i64 1] 3)).alloc (.cells #[.int .i64 2] 3)).alloc (.cells #[.string ⟨#[104, 116, 109, 108]⟩, .string ⟨#[]⟩, .slice none 0 0, .int .i64 (-1), .slice (some ⟨w.heap.size, 0, none⟩) 1 1, .string ⟨#[102, 111, 114, 109]⟩, .string ⟨#[]⟩, .slice none 0 0, .int .i64 0, .slice (some ⟨w.heap.size + 1, 0, none⟩) 1 1, .string ⟨#[105, 110, 112, 117, 116]⟩, .string ⟨#[]⟩, .slice none 0 0, .int .i64 1, .slice none 0 0] 35)) := by
  have hC := Go.heap_alloc_new ((w.alloc (.cells #[.int .i64 1] 3)).alloc (.cells #[.int .i64 2] 3)) (.cells #[.string ⟨#[104, 116, 109, 108]⟩, .string ⟨#[]⟩, .slice none 0 0, .int .i64 (-1), .slice (some ⟨w.heap.size, 0, none⟩) 1 1, .string ⟨#[102, 111, 114, 109]⟩, .string ⟨#[]⟩, .slice none 0 0, .int .i64 0, .slice (some ⟨w.heap.size + 1, 0, none⟩) 1 1, .string ⟨#[105, 110, 112, 117, 116]⟩, .string ⟨#[]⟩, .slice none 0 0, .int .i64 1, .slice none 0 0] 35)
  have hB0 := Go.heap_alloc_new (w.alloc (.cells #[.int .i64 1] 3)) (.cells #[.int .i64 2] 3)
  have hA0 := Go.heap_alloc_new w (.cells #[.int .i64 1] 3)
  have s1 : (w.alloc (.cells #[.int .i64 1] 3)).heap.size = w.heap.size + 1 := by simp
  have s2 : ((w.alloc (.cells #[.int .i64 1] 3)).alloc (.cells #[.int .i64 2] 3)).heap.size = w.heap.size + 1 + 1 := by simp
  rw [s2] at hC
  rw [s1] at hB0
  have hA1 := blk_kept ((Below.refl _ (w.alloc (.cells #[.int .i64 1] 3))).alloc (Nat.le_refl _) (.cells #[.int .i64 2] 3)) hA0
  generalize hW2 : (w.alloc (.cells #[.int .i64 1] 3)).alloc (.cells #[.int .i64 2] 3) = W2 at *
  have hA2 := blk_kept ((Below.refl _ W2).alloc (Nat.le_refl _) (.cells #[.string ⟨#[104, 116, 109, 108]⟩, .string ⟨#[]⟩, .slice none 0 0, .int .i64 (-1), .slice (some ⟨w.heap.size, 0, none⟩) 1 1, .string ⟨#[102, 111, 114, 109]⟩, .string ⟨#[]⟩, .slice none 0 0, .int .i64 0, .slice (some ⟨w.heap.size + 1, 0, none⟩) 1 1, .string ⟨#[105, 110, 112, 117, 116]⟩, .string ⟨#[]⟩, .slice none 0 0, .int .i64 1, .slice none 0 0] 35)) hA1
  have hB2 := blk_kept ((Below.refl _ W2).alloc (Nat.le_refl _) (.cells #[.string ⟨#[104, 116, 109, 108]⟩, .string ⟨#[]⟩, .slice none 0 0, .int .i64 (-1), .slice (some ⟨w.heap.size, 0, none⟩) 1 1, .string ⟨#[102, 111, 114, 109]⟩, .string ⟨#[]⟩, .slice none 0 0, .int .i64 0, .slice (some ⟨w.heap.size + 1, 0, none⟩) 1 1, .string ⟨#[105, 110, 112, 117, 116]⟩, .string ⟨#[]⟩, .slice none 0 0, .int .i64 1, .slice none 0 0] 35)) hB0
  generalize W2.alloc _ = W3 at hC hA2 hB2 ⊢
  have nil : Atts [] (.slice none 0 0) W3 := .inl ⟨rfl, none, 0, rfl, fun _ => rfl⟩
  have nilK : Nums [] (.slice none 0 0) W3 := .inl ⟨rfl, none, 0, rfl, fun _ => rfl⟩
  have one : ∀ {g : Nat} {z : Int}, W3.heap[g]? = some (.cells #[.int .i64 z] 3 (0, 0)) → Nums [z] (.slice (some ⟨g, 0, none⟩) 1 1) W3 := fun {g} {z} h => .inr ⟨g, 0, 1, rfl, Nat.le_refl _, (Array.getElem?_eq_some_iff.1 h).1, fun j x hx => by
    match j, hx with
    | 0, hx => cases hx; simp [World.cell?, h]⟩
  refine .inr ⟨_, 0, 3, rfl, Nat.le_refl _, (Array.getElem?_eq_some_iff.1 hC).1, ex16_at ?_ ?_ ?_⟩
  · exact ⟨_, _, by simp [World.cell?, hC], by simp [World.cell?, hC], by simp [World.cell?, hC], by simp [World.cell?, hC], by simp [World.cell?, hC], nil, one hA2⟩
  · exact ⟨_, _, by simp [World.cell?, hC], by simp [World.cell?, hC], by simp [World.cell?, hC], by simp [World.cell?, hC], by simp [World.cell?, hC], nil, one hB2⟩
  · exact ⟨_, _, by simp [World.cell?, hC], by simp [World.cell?, hC], by simp [World.cell?, hC], by simp [World.cell?, hC], by simp [World.cell?, hC], nil, nilK⟩
theorem OV.nums {base : Nat} {l : List Int} {v : Value} {w : World} (h : OV base 3 (ints l) v w) : Nums l v w := by
  have h' : OI base l v w := by
    unfold OI
    have := h
    unfold OV at this
    rw [ints_len] at this
    exact this
  exact h'.nums
set_option maxHeartbeats 4000000 in
set_option maxRecDepth 100000 in
theorem wakes16_any (w : World) :
    Calls Try.prog 14 #[] w fun e w' => e = .returned (.bool true) ∧ Below w.heap.size w w' := by
  have hN := ex16_nodes w
  have hb0 := (((Below.refl w.heap.size w).alloc (Nat.le_refl _) (.cells #[.int .i64 1] 3)).alloc (by simp) (.cells #[.int .i64 2] 3)).alloc (by simp; omega) (.cells #[.string ⟨#[104, 116, 109, 108]⟩, .string ⟨#[]⟩, .slice none 0 0, .int .i64 (-1), .slice (some ⟨w.heap.size, 0, none⟩) 1 1, .string ⟨#[102, 111, 114, 109]⟩, .string ⟨#[]⟩, .slice none 0 0, .int .i64 0, .slice (some ⟨w.heap.size + 1, 0, none⟩) 1 1, .string ⟨#[105, 110, 112, 117, 116]⟩, .string ⟨#[]⟩, .slice none 0 0, .int .i64 1, .slice none 0 0] 35)
  have E1 := Lib.hid ex16_Form
  have E2 := Lib.hid ex16_elems
  have E3 := Lib.hid ex16_def
  have E4 := Lib.hid ex16_dis
  have hv := ex16_right.vals
  have hl : ex16.length ≤ 1000000000000000000 := by decide
  go_enter Try.func14, Try.ntmps14
  go_wp2_with fail
  generalize World.alloc _ _ = W0 at hN hb0 ⊢
  refine (ownerFormTop_any ex16 _ 2 hl ex16_fits _ hN).mono ?_
  rintro e w1 ⟨rfl, hb1⟩
  rw [E1.out]
  have hN1 := hN.kept hb1
  have hb01 := bs hb0 hb1
  go_wp2_with fail
  refine (elements_any ex16 _ 1 hl ex16_fits _ hN1).mono ?_
  rintro e w2 ⟨vo, rfl, hov, hb2⟩
  rw [E2.out] at hov
  have hN2 := hN1.kept hb2
  have hb02 := bs hb01 hb2
  have hU := hov.nums
  have hb3 := (Below.refl w2.heap.size w2).alloc (Nat.le_refl _) (.cells #[.int .i64 2] 3)
  have hV : Nums [2] (.slice (some ⟨w2.heap.size, 0, none⟩) 1 1) (w2.alloc (.cells #[.int .i64 2] 3)) := .inr ⟨w2.heap.size, 0, 1, rfl, Nat.le_refl _, by simp, fun j x hx => by
    match j, hx with
    | 0, hx => cases hx; simp only [World.cell?, Go.heap_alloc_new]; rfl⟩
  go_wp2_with fail
  refine (sameInts_any [2] [2] vo _ (by decide) (by decide) _ (hU.kept hb3) hV).mono ?_
  rintro e w4 ⟨rfl, hb4⟩
  rw [show decide (([2] : List Int) = [2]) = true from rfl]
  have hb04 := bs (bs hb02 hb3) hb4
  have hN4 := (hN2.kept hb3).kept hb4
  go_wp2_with fail
  refine (default_any ex16 _ 1 hl ex16_fits _ hN4).mono ?_
  rintro e w5 ⟨rfl, hb5⟩
  rw [E3.out]
  have hN5 := hN4.kept hb5
  go_wp2_with fail
  refine (disabled_any ex16 _ 2 hl ex16_fits hv _ hN5).mono ?_
  rintro e w6 ⟨rfl, hb6⟩
  rw [E4.out]
  go_wp2_with fail
  go_ret
  exact ⟨rfl, bs (bs hb04 hb5) hb6⟩
end Go.Proofs.Ytenicjebccdekaa
