/-
  The laws of chapter 21: wakes; the walks of PlainEncodes, PlainSplits.
-/
import Derived.Test.YtapbljaohhcpoaaDoorPlainCode
import Derived.Test.YtapbljaohhcpoaaDoorSameFiles
import Derived.Test.YtapbljaohhcpoaaDoorPlainSplits
namespace Go.Proofs.YtapbljaohhcpoaaDoor
set_option linter.unusedVariables false
set_option linter.unusedSimpArgs false
open Go.RowKit PT

theorem long21_no {es : List Ent} (h : longB es = false) : es.length ≤ 60 ∧ ∀ x ∈ es, Short x := by
  unfold longB at h
  rw [Bool.or_eq_false_iff] at h
  refine ⟨by have := of_decide_eq_false h.1; omega, fun x hx => ?_⟩
  have hx' := List.any_eq_false.1 h.2 x hx
  unfold longE at hx'
  simp only [Bool.or_eq_true, decide_eq_true_eq, not_or] at hx'
  exact ⟨by omega, by omega, by omega, by omega⟩
def exP : List Ent := [⟨⟨#[97]⟩, ⟨#[49]⟩, false, ⟨#[]⟩, ⟨#[]⟩⟩]
theorem exP_text : lines21 exP = [97, 61, 49, 13, 10] := by decide
theorem exP_ents (w : World) : Ents exP (.slice (some ⟨w.heap.size, 0, none⟩) 1 1) (w.alloc (.cells #[.string ⟨#[97]⟩, .string ⟨#[49]⟩, .bool false, .string ⟨#[]⟩, .string ⟨#[]⟩] 50)) := by
  have hn := Go.heap_alloc_new w (.cells #[.string ⟨#[97]⟩, .string ⟨#[49]⟩, .bool false, .string ⟨#[]⟩, .string ⟨#[]⟩] 50)
  refine .inr ⟨w.heap.size, 0, 1, rfl, by simp, fun j e he i u hu => ?_⟩
  have hf := flat_at exP j e he i u hu
  rw [Nat.zero_add]
  simp only [World.cell?, hn]
  simpa [exP, entCells] using hf
set_option maxHeartbeats 1000000 in
set_option maxRecDepth 100000 in
theorem wakes21_any (w : World) (hT : Tables w) :
    Calls Tryd.prog 22 #[] w fun e w' => e = .returned (.bool true) ∧ Below w.heap.size w w' := by
  have hE := exP_ents w
  have hb0 := (Below.refl w.heap.size w).alloc (Nat.le_refl _) (.cells #[.string ⟨#[97]⟩, .string ⟨#[49]⟩, .bool false, .string ⟨#[]⟩, .string ⟨#[]⟩] 50)
  have hT0 := hT.kept hb0
  go_enter Tryd.func22, Tryd.ntmps22
  go_wp2_with fail
  refine (plainEncode_any exP _ _ hE hT0 (by decide) (by unfold Short; decide)).mono ?_
  rintro e w1 ⟨rfl, hb1⟩
  rw [exP_text]
  go_wp2_with fail
  go_ret
  exact ⟨rfl, bs hb0 hb1⟩
end Go.Proofs.YtapbljaohhcpoaaDoor
