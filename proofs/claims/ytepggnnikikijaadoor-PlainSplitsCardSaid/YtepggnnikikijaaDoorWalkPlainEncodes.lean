/-
  The laws of chapter 21: wakes; the walks of PlainEncodes, PlainSplits.
-/
import Derived.Test.YtepggnnikikijaaDoorPlainCode
import Derived.Test.YtepggnnikikijaaDoorSameFiles
import Derived.Test.YtepggnnikikijaaDoorPlainSplits
namespace Go.Proofs.YtepggnnikikijaaDoor
open Go.RowKit PT

theorem long21_no {es : List Ent} (h : longB es = false) : es.length ≤ 60 ∧ ∀ x ∈ es, Short x := by
  unfold longB at h
  rw [Bool.or_eq_false_iff] at h
  refine ⟨by have := of_decide_eq_false h.1; omega, fun x hx => ?_⟩
  have hx' := List.any_eq_false.1 h.2 x hx
  unfold longE at hx'
  simp only [Bool.or_eq_true, decide_eq_true_eq, not_or] at hx'
  exact ⟨by omega, by omega, by omega, by omega⟩
def exP : List Ent := [⟨⟨#[97]⟩, ⟨#[49]⟩, false, ⟨#[]⟩, ⟨#[]⟩⟩]
theorem exP_text : lines21 exP = [97, 61, 49, 13, 10] := by decide
theorem exP_ents (w : World) : Ents exP (.slice (some ⟨w.heap.size, 0, none⟩) 1 1) (w.alloc (.cells #[.string ⟨#[97]⟩, .string ⟨#[49]⟩, .bool false, .string ⟨#[]⟩, .string ⟨#[]⟩] 32)) := by
  have hn := Go.heap_alloc_new w (.cells #[.string ⟨#[97]⟩, .string ⟨#[49]⟩, .bool false, .string ⟨#[]⟩, .string ⟨#[]⟩] 32)
  refine .inr ⟨w.heap.size, 0, 1, rfl, by simp, fun j e he i u hu => ?_⟩
  have hf := flat_at exP j e he i u hu
  rw [Nat.zero_add]
  simp only [World.cell?, hn]
  simpa [exP, entCells] using hf
set_option maxHeartbeats 1000000 in
set_option maxRecDepth 100000 in
theorem wakes21_any (w : World) (hT : Tables w) :
    Calls Tryd.prog 11 #[] w fun e w' => e = .returned (.bool true) ∧ Below w.heap.size w w' := by
  have hE := exP_ents w
  have hb0 := (Below.refl w.heap.size w).alloc (Nat.le_refl _) (.cells #[.string ⟨#[97]⟩, .string ⟨#[49]⟩, .bool false, .string ⟨#[]⟩, .string ⟨#[]⟩] 32)
  have hT0 := hT.kept hb0
  go_enter Tryd.func11, Tryd.ntmps11
  go_wp2_with fail
  refine (plainEncode_any exP _ _ hE hT0 (by decide) (by unfold Short; decide)).mono ?_
  rintro e w1 ⟨rfl, hb1⟩
  rw [exP_text]
  go_wp2_with fail
  go_ret
  exact ⟨rfl, bs hb0 hb1⟩
set_option maxHeartbeats 1000000 in
set_option maxRecDepth 100000 in
theorem plainEncodes_walk (es : List Ent) (v : Value) (w : World) (hE : Ents es v w) (hT : Tables w) :
    Calls Tryd.prog 3 #[v] w fun e w' => e = .returned (.bool true) ∧ Below w.heap.size w w' := by
  go_enter Tryd.func3, Tryd.ntmps3
  go_wp2_with fail
  refine (wakes21_any _ hT).mono ?_
  rintro e w1 ⟨rfl, hb1⟩
  have hE1 := hE.kept hb1
  have hT1 := hT.kept hb1
  go_wp2_with fail
  refine (long19_any es v _ hE1).mono ?_
  rintro e w' ⟨rfl, rfl⟩
  cases hl : longB es
  · obtain ⟨h60, hS⟩ := long21_no hl
    clear hl
    have hown0 := OE.lit w1
    have hb2 := (Below.refl w1.heap.size w1).alloc (Nat.le_refl _) (.cells #[] 32)
    have hE2 := hE1.kept hb2
    have hs2 : w1.heap.size ≤ (w1.alloc (.cells #[] 32)).heap.size := hb2.size
    obtain ⟨a, cap, rfl⟩ := hE.len
    have hne0 : Value.slice (some ⟨w1.heap.size, 0, none⟩) 0 0 ≠ .slice none 0 0 := by simp
    have hl0 : ([] : List Ent).length + es.length < 1000000000 := by rw [List.length_nil]; omega
    go_wp2_with (at_builtin; refine wpList_unguard rfl ?_; refine wpList_append_ents rfl _ _ rfl rfl rfl hE2 hown0 hl0 hs2 hne0 ?_; intro v3 w3 hown3 hne3 hb3)
    have hb03 : Below w1.heap.size w1 w3 := hb2.trans hb3
    rw [List.nil_append] at hown3
    have hO3 := hown3.ents
    have hE3 := hE1.kept hb03
    have hT3 := hT1.kept hb03
    clear hown3 hown0 hb2 hb3 hE2 hne0 hs2
    refine (plainEncode_any es v3 _ hO3 hT3 (by omega) hS).mono ?_
    rintro e w4 ⟨rfl, hb4⟩
    go_wp2_with fail
    refine (refEncode21_any es _ _ (hE3.kept hb4) (by omega) hS).mono ?_
    rintro e w5 ⟨rfl, hb5⟩
    go_wp2_with fail
    go_ret
    exact ⟨rfl, bs (bs (bs hb1 hb03) hb4) hb5⟩
  · go_wp2_with fail
    go_ret
    exact ⟨rfl, hb1⟩
set_option maxHeartbeats 1000000 in
set_option maxRecDepth 100000 in
theorem rl_count : ∀ (n : Nat) (l cur : List UInt8), l.length ≤ n → (rl cur l).length ≤ l.length + 1 := by
  intro n
  induction n with
  | zero =>
    intro l cur h
    have : l = [] := List.length_eq_zero_iff.1 (by omega)
    subst this
    rw [rl_nil]; split <;> simp
  | succ n ih =>
    intro l cur h
    cases l with
    | nil => rw [rl_nil]; split <;> simp
    | cons c r =>
      cases r with
      | nil => rw [rl]; split <;> simp
      | cons d r =>
        simp only [List.length_cons] at h
        rw [rl]
        split
        · have := ih r [] (by omega); simp only [List.length_cons]; omega
        · split
          · have := ih (d :: r) [] (by simp only [List.length_cons]; omega); simp only [List.length_cons] at this ⊢; omega
          · have := ih (d :: r) (cur ++ [c]) (by simp only [List.length_cons]; omega); simp only [List.length_cons] at this ⊢; omega
set_option maxHeartbeats 1000000 in
set_option maxRecDepth 100000 in
theorem plainSplits_walk (s : ByteArray) (_hs : s.size ≤ maxLen) (w : World) (hT : Tables w) :
    Calls Tryd.prog 4 #[.string s] w fun e w' => e = .returned (.bool true) ∧ Below w.heap.size w w' := by
  go_enter Tryd.func4, Tryd.ntmps4
  go_wp2_with fail
  refine (wakes21_any _ hT).mono ?_
  rintro e w1 ⟨rfl, hb1⟩
  have hT1 := hT.kept hb1
  by_cases hl : 8192 < s.size
  · have hl' : (8192 : Int) < (s.size : Int) := by omega
    go_wp2_with fail
    go_ret
    exact ⟨rfl, hb1⟩
  · have hl' : decide ((8192 : Int) < (s.size : Int)) = false := by simp; omega
    have hcnt := rl_count _ s.data.toList [] (Nat.le_refl _)
    rw [size_list] at hcnt
    go_wp2_with fail
    refine (plainSplit_any s (by omega) _ hT1).mono ?_
    rintro e w2 ⟨⟨v2, rfl, hX2⟩, hb2⟩
    go_wp2_with fail
    refine (refSplit21_any s (by omega) _).mono ?_
    rintro e w3 ⟨⟨v3, rfl, hO3⟩, hb3⟩
    go_wp2_with fail
    refine (same21_yes _ v2 v3 _ (hX2.kept hb3) hO3.txts (by omega)).mono ?_
    rintro e w4 ⟨rfl, hb4⟩
    go_wp2_with fail
    go_ret
    exact ⟨rfl, bs (bs (bs hb1 hb2) hb3) hb4⟩
end Go.Proofs.YtepggnnikikijaaDoor
