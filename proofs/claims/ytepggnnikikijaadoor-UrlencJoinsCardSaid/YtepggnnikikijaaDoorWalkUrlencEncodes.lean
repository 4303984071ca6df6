/-
  The laws of chapter 19: wakes, and the walk of UrlencEncodes.
-/
import Derived.Test.YtepggnnikikijaaDoorUrlDecode
import Derived.Test.YtepggnnikikijaaDoorSameFiles
namespace Go.Proofs.YtepggnnikikijaaDoor
open Go.RowKit PT

theorem long19_no {es : List Ent} (h : longB es = false) : es.length ≤ 60 ∧ ∀ x ∈ es, Short x := by
  unfold longB at h
  rw [Bool.or_eq_false_iff] at h
  refine ⟨by have := of_decide_eq_false h.1; omega, fun x hx => ?_⟩
  have hx' := List.any_eq_false.1 h.2 x hx
  unfold longE at hx'
  simp only [Bool.or_eq_true, decide_eq_true_eq, not_or] at hx'
  exact ⟨by omega, by omega, by omega, by omega⟩
/-- the two entries of the example -/
def exE : List Ent := [⟨⟨#[97]⟩, ⟨#[49]⟩, false, ⟨#[]⟩, ⟨#[]⟩⟩, ⟨⟨#[98]⟩, ⟨#[120, 32, 121]⟩, false, ⟨#[]⟩, ⟨#[]⟩⟩]
theorem exE_text : encP (told exE) = [97, 61, 49, 38, 98, 61, 120, 43, 121] := by decide
theorem exE_ents (w : World) : Ents exE (.slice (some ⟨w.heap.size, 0, none⟩) 2 2) (w.alloc (.cells #[.string ⟨#[97]⟩, .string ⟨#[49]⟩, .bool false, .string ⟨#[]⟩, .string ⟨#[]⟩, .string ⟨#[98]⟩, .string ⟨#[120, 32, 121]⟩, .bool false, .string ⟨#[]⟩, .string ⟨#[]⟩] 32)) := by
  have hn := Go.heap_alloc_new w (.cells #[.string ⟨#[97]⟩, .string ⟨#[49]⟩, .bool false, .string ⟨#[]⟩, .string ⟨#[]⟩, .string ⟨#[98]⟩, .string ⟨#[120, 32, 121]⟩, .bool false, .string ⟨#[]⟩, .string ⟨#[]⟩] 32)
  refine .inr ⟨w.heap.size, 0, 2, rfl, by simp, fun j e he i u hu => ?_⟩
  have hf := flat_at exE j e he i u hu
  rw [Nat.zero_add]
  simp only [World.cell?, hn]
  simpa [exE, entCells] using hf
set_option maxHeartbeats 1000000 in
set_option maxRecDepth 100000 in
theorem wakes19_any (w : World) (hT : Tables w) :
    Calls Tryd.prog 19 #[] w fun e w' => e = .returned (.bool true) ∧ Below w.heap.size w w' := by
  have hE := exE_ents w
  have hb0 := (Below.refl w.heap.size w).alloc (Nat.le_refl _) (.cells #[.string ⟨#[97]⟩, .string ⟨#[49]⟩, .bool false, .string ⟨#[]⟩, .string ⟨#[]⟩, .string ⟨#[98]⟩, .string ⟨#[120, 32, 121]⟩, .bool false, .string ⟨#[]⟩, .string ⟨#[]⟩] 32)
  have hT0 := hT.kept hb0
  go_enter Tryd.func19, Tryd.ntmps19
  go_wp2_with fail
  refine (urlEncode_any exE _ _ hE hT0 (by decide) (by unfold Short; decide)).mono ?_
  rintro e w1 ⟨rfl, hb1⟩
  rw [exE_text]
  go_wp2_with fail
  go_ret
  exact ⟨rfl, bs hb0 hb1⟩
set_option maxHeartbeats 1000000 in
set_option maxRecDepth 100000 in
theorem urlencEncodes_walk (es : List Ent) (v : Value) (w : World) (hE : Ents es v w) (hT : Tables w) :
    Calls Tryd.prog 8 #[v] w fun e w' => e = .returned (.bool true) ∧ Below w.heap.size w w' := by
  go_enter Tryd.func8, Tryd.ntmps8
  go_wp2_with fail
  refine (wakes19_any _ hT).mono ?_
  rintro e w1 ⟨rfl, hb1⟩
  have hE1 := hE.kept hb1
  have hT1 := hT.kept hb1
  go_wp2_with fail
  refine (long19_any es v _ hE1).mono ?_
  rintro e w' ⟨rfl, rfl⟩
  cases hl : longB es
  · obtain ⟨h60, hS⟩ := long19_no hl
    clear hl
    have hown0 := OE.lit w1
    have hb2 := (Below.refl w1.heap.size w1).alloc (Nat.le_refl _) (.cells #[] 32)
    have hE2 := hE1.kept hb2
    have hs2 : w1.heap.size ≤ (w1.alloc (.cells #[] 32)).heap.size := hb2.size
    obtain ⟨a, cap, rfl⟩ := hE.len
    have hne0 : Value.slice (some ⟨w1.heap.size, 0, none⟩) 0 0 ≠ .slice none 0 0 := by simp
    have hl0 : ([] : List Ent).length + es.length < 1000000000 := by rw [List.length_nil]; omega
    go_wp2_with (at_builtin; refine wpList_append_ents rfl _ _ rfl rfl rfl hE2 hown0 hl0 hs2 hne0 ?_; intro v3 w3 hown3 hne3 hb3)
    have hb03 : Below w1.heap.size w1 w3 := hb2.trans hb3
    rw [List.nil_append] at hown3
    have hO3 := hown3.ents
    have hE3 := hE1.kept hb03
    have hT3 := hT1.kept hb03
    clear hown3 hown0 hb2 hb3 hE2 hne0 hs2
    refine (plain_any es v3 _ hO3 hT3 (by omega) hS).mono ?_
    rintro e w4 ⟨⟨v4, rfl, hP4⟩, hb4⟩
    have hP4' := hP4.ents
    go_wp2_with fail
    refine (refPlain19_any es _ _ (hE3.kept hb4) (by omega) hS).mono ?_
    rintro e w5 ⟨⟨v5, rfl, hP5⟩, hb5⟩
    have hP5' := hP5.ents
    go_wp2_with fail
    refine (sameFiles_yes _ v4 v5 _ (hP4'.kept hb5) hP5' (by rw [List.length_map]; omega)).mono ?_
    rintro e w6 ⟨rfl, hb6⟩
    have hO6 := ((hO3.kept hb4).kept hb5).kept hb6
    have hE6 := ((hE3.kept hb4).kept hb5).kept hb6
    have hT6 := ((hT3.kept hb4).kept hb5).kept hb6
    have hb06 := bs (bs (bs (bs hb1 hb03) hb4) hb5) hb6
    clear hP4 hP5 hP4' hP5' hO3 hE3 hT3
    go_wp2_with fail
    refine (urlEncode_any es v3 _ hO6 hT6 (by omega) hS).mono ?_
    rintro e w7 ⟨rfl, hb7⟩
    go_wp2_with fail
    refine (refEncode19_any es _ _ (hE6.kept hb7) (by omega) hS).mono ?_
    rintro e w8 ⟨rfl, hb8⟩
    go_wp2_with fail
    refine (sameFiles_yes es v3 _ _ ((hO6.kept hb7).kept hb8) ((hE6.kept hb7).kept hb8) (by omega)).mono ?_
    rintro e w9 ⟨rfl, hb9⟩
    go_wp2_with fail
    go_ret
    exact ⟨rfl, bs (bs (bs hb06 hb7) hb8) hb9⟩
  · go_wp2_with fail
    go_ret
    exact ⟨rfl, hb1⟩
end Go.Proofs.YtepggnnikikijaaDoor
