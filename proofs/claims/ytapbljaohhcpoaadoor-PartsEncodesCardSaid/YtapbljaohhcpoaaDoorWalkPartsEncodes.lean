/-
  The law PartsEncodes: the walk.
-/
import Derived.Test.YtapbljaohhcpoaaDoorWalkPartsClear
import Derived.Test.YtapbljaohhcpoaaDoorRefTold
namespace Go.Proofs.YtapbljaohhcpoaaDoor
open Go.RowKit PT

set_option maxHeartbeats 4000000 in
set_option maxRecDepth 100000 in
theorem partsEncodes_walk (es : List Ent) (u : Value) (b : ByteArray) (w : World) (hU : Ents es u w) (_hb : b.size ≤ maxLen) (hT : Tables w) :
    Calls Tryd.prog 4 #[u, .string b] w fun e w' => e = .returned (.bool true) ∧ Below w.heap.size w w' := by
  go_enter Tryd.func4, Tryd.ntmps4
  go_wp2_with fail
  refine (wakes20_any _ hT).mono ?_
  rintro e w1 ⟨rfl, hb1⟩
  have hU1 := hU.kept hb1
  have hT1 := hT.kept hb1
  go_wp2_with fail
  refine (long19_any es u _ hU1).mono ?_
  rintro e w' ⟨rfl, rfl⟩
  cases hl : longB es
  · obtain ⟨h60, hS⟩ := long20_no hl
    clear hl
    by_cases h1000 : b.size ≤ 1000
    · have hP' : decide ((1000 : Int) < (b.size : Int)) = false := by simp; omega
      have hown0 := OE.lit w1
      have hb2 := (Below.refl w1.heap.size w1).alloc (Nat.le_refl _) (.cells #[] 50)
      have hE2 := hU1.kept hb2
      have hs2 : w1.heap.size ≤ (w1.alloc (.cells #[] 50)).heap.size := hb2.size
      obtain ⟨a, cap, rfl⟩ := hU.len
      have hne0 : Value.slice (some ⟨w1.heap.size, 0, none⟩) 0 0 ≠ .slice none 0 0 := by simp
      have hl0 : ([] : List Ent).length + es.length < 1000000000 := by rw [List.length_nil]; omega
      go_wp2_with (at_builtin; refine wpList_append_ents rfl _ _ rfl rfl rfl hE2 hown0 hl0 hs2 hne0 ?_; intro v3 w3 hown3 hne3 hb3)
      have hb03 : Below w1.heap.size w1 w3 := hb2.trans hb3
      rw [List.nil_append] at hown3
      have hO3 := hown3.ents
      have hE3 := hU1.kept hb03
      have hT3 := hT1.kept hb03
      clear hown3 hown0 hb2 hb3 hE2 hne0 hs2
      refine (partsEncode_any es v3 b (by omega) hS _ hO3 hT3).mono ?_
      rintro e w4 ⟨rfl, hb4⟩
      have hE4 := hE3.kept hb4
      have hT4 := hT3.kept hb4
      cases hC : clearB es b.data.toList
      all_goals
        simp only [encV, hC, if_true, if_false, Bool.false_eq_true]
        go_wp2_with fail
        refine (refPartsEncode_any es _ b (by omega) (by omega) hS _ hE4).mono ?_
        rintro e w5 ⟨rfl, hb5⟩
        simp only [encV, hC, if_true, if_false, Bool.false_eq_true]
        go_wp2_with fail
        refine (told_any es _ _ (hE4.kept hb5) (hT4.kept hb5) (by omega) hS).mono ?_
        rintro e w6 ⟨⟨v6, rfl, hO6⟩, hb6⟩
        go_wp2_with fail
        refine (refTold_any es _ _ ((hE4.kept hb5).kept hb6) (by omega) hS).mono ?_
        rintro e w7 ⟨⟨v7, rfl, hO7⟩, hb7⟩
        go_wp2_with fail
        refine (sameFiles_yes (es.map tld) v6 v7 _ (hO6.ents.kept hb7) hO7.ents (by rw [List.length_map]; omega)).mono ?_
        rintro e w8 ⟨rfl, hb8⟩
        go_wp2_with fail
        go_ret
        exact ⟨rfl, bs (bs (bs (bs (bs (bs hb1 hb03) hb4) hb5) hb6) hb7) hb8⟩
    · have hP' : (1000 : Int) < (b.size : Int) := by omega
      go_wp2_with fail
      go_ret
      exact ⟨rfl, hb1⟩
  · go_wp2_with fail
    go_ret
    exact ⟨rfl, hb1⟩
end Go.Proofs.YtapbljaohhcpoaaDoor
