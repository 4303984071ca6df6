/-
  The laws PartsDecodes, PartsBack: the walks.
-/
import Derived.Test.YtapbljaohhcpoaaDoorWalkPartsClear
import Derived.Test.YtapbljaohhcpoaaDoorRefPartsDec
import Derived.Test.YtapbljaohhcpoaaDoorRefTold
import Derived.Test.YtapbljaohhcpoaaDoorPlainBackP
namespace Go.Proofs.YtapbljaohhcpoaaDoor
set_option linter.unusedVariables false
set_option linter.unusedSimpArgs false
open Go.RowKit PT

theorem encP_L20 (b : List UInt8) (es : List Ent) : encP20 b es = encL20 b (es.map partE) := by
  unfold encP20 encL20 pieces
  rw [List.flatMap_map]
  rfl
/-- what is told of an entry, as lists -/
def tld5 (x : Ent) : P5 := ⟨unn (nm x.n.data.toList), carr x.f x.v.data.toList, x.f, if x.f then unn (nm x.fn.data.toList) else [], if x.f then typ x.t.data.toList else []⟩
theorem tld5_ent (x : Ent) : entOf (tld5 x) = tld x := by
  unfold entOf tld5 tld
  cases x.f <;> rfl
theorem rd_partE (x : Ent) : rd (partE x) = some (tld5 x) := rd_part _ _ _ _ _
/-- what is told is read back -/
theorem decE_enc (b : List UInt8) (es : List Ent) (hc : clearB es b = true) : decE (encP20 b es) b = some (es.map tld5) := by
  unfold clearB at hc
  rw [Bool.and_eq_true] at hc
  have hno : ∀ x ∈ es, Lib.contains (partE x) b = false := fun x hx => by
    cases h : Lib.contains (partE x) b
    · rfl
    · have : es.any (fun x => Lib.contains (partE x) b) = true := List.any_eq_true.2 ⟨x, hx, h⟩
      rw [this] at hc
      exact absurd hc.2 (by decide)
  have hg : ∀ p ∈ es.map partE, rd p = some ((rd p).getD ⟨[], [], false, [], []⟩) := fun p hp => by
    obtain ⟨x, _, rfl⟩ := List.mem_map.1 hp
    rw [rd_partE]; rfl
  rw [encP_L20, decE_back b hc.1 (fun p => (rd p).getD ⟨[], [], false, [], []⟩) (es.map partE) (fun p hp => by
    obtain ⟨x, hx, rfl⟩ := List.mem_map.1 hp
    exact hno x hx) hg, List.map_map]
  refine congrArg some (List.map_congr_left fun x _ => ?_)
  simp only [Function.comp, rd_partE, Option.getD_some]
theorem encP20_len (b : List UInt8) (hb : b.length ≤ 70) (es : List Ent) (hl : es.length ≤ 60) (hS : ∀ x ∈ es, Brief x) : (encP20 b es).length ≤ 60 * 60076 + 76 := by
  have h1 := pieces_len b hb es hS
  have h2 := Nat.mul_le_mul_right 60076 hl
  have h3 : (encP20 b es).length = (pieces b es).length + (b.length + 6) := by
    unfold encP20
    rw [List.length_append, List.length_append, List.length_append]
    simp only [List.length_cons, List.length_nil]
    omega
  rw [h3]
  exact Nat.add_le_add (Nat.le_trans h1 h2) (Nat.add_le_add_right hb 6)
set_option maxHeartbeats 4000000 in
set_option maxRecDepth 100000 in
theorem partsDecodes_walk (s b : ByteArray) (_hs : s.size ≤ maxLen) (_hb : b.size ≤ maxLen) (w : World) (hT : Tables w) :
    Calls Tryd.prog 6 #[.string s, .string b] w fun e w' => e = .returned (.bool true) ∧ Below w.heap.size w w' := by
  go_enter Tryd.func6, Tryd.ntmps6
  go_wp2_with fail
  refine (wakes20_any _ hT).mono ?_
  rintro e w1 ⟨rfl, hb1⟩
  have hT1 := hT.kept hb1
  by_cases h6 : s.size ≤ 6000
  · have h6' : decide ((6000 : Int) < (s.size : Int)) = false := by simp; omega
    by_cases h1 : b.size ≤ 1000
    · have h1' : decide ((1000 : Int) < (b.size : Int)) = false := by simp; omega
      go_wp2_with fail
      refine (decode20_any s b (by omega) _ hT1).mono ?_
      rintro e w2 ⟨⟨v2, rfl, hV2⟩, hb2⟩
      generalize hM : decE s.data.toList b.data.toList = o at hV2 ⊢
      have HM := Lib.hid hM
      clear hM
      cases o with
      | none =>
        simp only [Option.isSome, Bool.false_eq_true, if_false]
        go_wp2_with fail
        refine (refDecode20_any s b (by omega) (by omega) _).mono ?_
        rintro e w3 ⟨⟨v3, rfl, hV3⟩, hb3⟩
        rw [HM.out] at hV3 ⊢
        simp only [Option.isSome, Bool.false_eq_true, if_false]
        go_wp2_with fail
        refine (sameFiles_yes _ v2 v3 _ (hV2.kept hb3) hV3 (by simp)).mono ?_
        rintro e w4 ⟨rfl, hb4⟩
        go_wp2_with fail
        go_ret
        exact ⟨rfl, bs (bs (bs hb1 hb2) hb3) hb4⟩
      | some xs =>
        simp only [Option.isSome, if_true]
        go_wp2_with fail
        refine (refDecode20_any s b (by omega) (by omega) _).mono ?_
        rintro e w3 ⟨⟨v3, rfl, hV3⟩, hb3⟩
        rw [HM.out] at hV3 ⊢
        simp only [Option.isSome, if_true]
        have hxl := decE_len _ _ _ HM.out
        rw [size_list] at hxl
        go_wp2_with fail
        refine (sameFiles_yes _ v2 v3 _ (hV2.kept hb3) hV3 (by rw [List.length_map]; simp only [Option.getD_some]; omega)).mono ?_
        rintro e w4 ⟨rfl, hb4⟩
        go_wp2_with fail
        go_ret
        exact ⟨rfl, bs (bs (bs hb1 hb2) hb3) hb4⟩
    · have h1' : (1000 : Int) < (b.size : Int) := by omega
      go_wp2_with fail
      go_ret
      exact ⟨rfl, hb1⟩
  · have h6' : (6000 : Int) < (s.size : Int) := by omega
    go_wp2_with fail
    go_ret
    exact ⟨rfl, hb1⟩
set_option maxHeartbeats 4000000 in
set_option maxRecDepth 100000 in
theorem partsBack_walk (es : List Ent) (u : Value) (b : ByteArray) (w : World) (hU : Ents es u w) (_hb : b.size ≤ maxLen) (hT : Tables w) :
    Calls Tryd.prog 7 #[u, .string b] w fun e w' => e = .returned (.bool true) ∧ Below w.heap.size w w' := by
  go_enter Tryd.func7, Tryd.ntmps7
  go_wp2_with fail
  refine (wakes20_any _ hT).mono ?_
  rintro e w1 ⟨rfl, hb1⟩
  have hU1 := hU.kept hb1
  have hT1 := hT.kept hb1
  go_wp2_with fail
  refine (long19_any es u _ hU1).mono ?_
  rintro e w' ⟨rfl, rfl⟩
  cases hl : longB es
  · obtain ⟨h60, hS⟩ := long20_no hl
    clear hl
    by_cases h1000 : b.size ≤ 1000
    · have hP' : decide ((1000 : Int) < (b.size : Int)) = false := by simp; omega
      go_wp2_with fail
      refine (partsEncode_any es u b (by omega) hS _ hU1 hT1).mono ?_
      rintro e w4 ⟨rfl, hb4⟩
      have hE4 := hU1.kept hb4
      have hT4 := hT1.kept hb4
      cases hC : clearB es b.data.toList
      · simp only [encV, hC, if_false, Bool.false_eq_true]
        go_wp2_with fail
        go_ret
        exact ⟨rfl, bs hb1 hb4⟩
      · have hD := Lib.hid (decE_enc b.data.toList es hC)
        have hbz := clear_fit hC
        have hle : (encP20 b.data.toList es).length ≤ 3604636 := encP20_len b.data.toList (by rw [size_list]; omega) es h60 hS
        simp only [encV, hC, if_true]
        clear hC
        generalize encP20 b.data.toList es = E at *
        go_wp2_with fail
        refine (decode20_any ⟨E.toArray⟩ b (by rw [size_mk]; omega) _ hT4).mono ?_
        rintro e w5 ⟨⟨v5, rfl, hV5⟩, hb5⟩
        rw [show (ByteArray.mk E.toArray).data.toList = E from rfl, hD.out] at hV5 ⊢
        simp only [Option.isSome, if_true, Option.getD_some] at hV5 ⊢
        rw [List.map_map, show entOf ∘ tld5 = tld from funext tld5_ent] at hV5
        go_wp2_with fail
        refine (refTold_any es _ _ (hE4.kept hb5) (by omega) hS).mono ?_
        rintro e w7 ⟨⟨v7, rfl, hO7⟩, hb7⟩
        go_wp2_with fail
        refine (sameFiles_yes (es.map tld) v5 v7 _ (hV5.kept hb7) hO7.ents (by rw [List.length_map]; omega)).mono ?_
        rintro e w8 ⟨rfl, hb8⟩
        go_wp2_with fail
        go_ret
        exact ⟨rfl, bs (bs (bs (bs hb1 hb4) hb5) hb7) hb8⟩
    · have hP' : (1000 : Int) < (b.size : Int) := by omega
      go_wp2_with fail
      go_ret
      exact ⟨rfl, hb1⟩
  · go_wp2_with fail
    go_ret
    exact ⟨rfl, hb1⟩
end Go.Proofs.YtapbljaohhcpoaaDoor
