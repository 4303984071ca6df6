import Derived.Test.YtafbghlldlconaaGreatDoorPart10
import Derived.Test.YtafbghlldlconaaGreatDoorPart8
import Derived.Test.YtafbghlldlconaaGreatDoorPart15
import Derived.Test.YtafbghlldlconaaGreatDoorPart9
import Derived.Lib.IndexLaws
import Derived.Lib.SplitLaws
/-
  The laws of chapter 24: the example (wakes): the walk.
-/
namespace Go.Proofs.YtafbghlldlconaaGreatDoor
set_option linter.unusedVariables false
set_option linter.unusedSimpArgs false
open Go.RowKit PT

theorem qry_abc : qry [47, 97, 63, 98, 35, 99] [100, 61, 49] = [47, 97, 63, 100, 61, 49, 35, 99] := by decide

theorem wakes24_any (w : World) :
    Calls Tryz.prog 5 #[] w fun e w' => e = .returned (.bool true) ∧ Below w.heap.size w w' := by
  go_enter Tryz.func5, Tryz.ntmps5
  go_wp2_with fail
  refine (query_any _ _ (by decide) (by decide) _).mono ?_
  rintro e w1 ⟨rfl, hb1⟩
  rw [show qry (ByteArray.mk #[47, 97, 63, 98, 35, 99]).data.toList (ByteArray.mk #[100, 61, 49]).data.toList = _ from qry_abc]
  go_wp2_with fail
  go_ret
  exact ⟨rfl, hb1⟩
end Go.Proofs.YtafbghlldlconaaGreatDoor

/-
  A document of the law's own (copied): the laws of chapters 22 and 24: the walks.
-/
namespace Go.Proofs.YtafbghlldlconaaGreatDoor
set_option linter.unusedVariables false
set_option linter.unusedSimpArgs false
open Go.RowKit

set_option maxHeartbeats 1000000 in
set_option maxRecDepth 100000 in
theorem lawCopied24_any (l : List Nd) (cs : List Ct) (vn vc : Value) (w : World) (hD : DocAt l cs vn vc w) :
    Calls Tryz.prog 8 #[.agg #[vn, vc]] w fun e w' => ∃ vn' vc', e = .returned (.agg #[vn', vc']) ∧ DocAt l cs vn' vc' w' ∧ Below w.heap.size w w' := by
  obtain ⟨a1, cap1, rfl⟩ := hD.nodes.nodes.len
  obtain ⟨a2, cap2, rfl⟩ := hD.ctls.len
  obtain ⟨hD1, hb1, hs1, c0, c1⟩ := doc_box (T := 25) hD
  go_enter Tryz.func8, Tryz.ntmps8
  go_wp2_with fail
  generalize World.alloc w _ = W1 at hD1 hb1 hs1 c0 c1 ⊢
  have hn := Go.heap_alloc_new W1 (.cells #[.slice none 0 0, .slice none 0 0] 25)
  have hb2 := (Below.refl W1.heap.size W1).alloc (Nat.le_refl _) (.cells #[.slice none 0 0, .slice none 0 0] 25)
  rw [hs1] at hn
  generalize World.alloc W1 _ = W2 at hn hb2 ⊢
  have hbd : Below W2.heap.size W2 W2.drew := below_draws W2 1
  have hD2 := (hD1.kept hb2).kept hbd
  have hB2 := hD.ctls.at_base.kept (bs (bs hb1 hb2) hbd)
  have d0 := cellK hbd (by have := hb2.size; omega) (cellK hb2 (by omega) c0)
  have d1 := cellK hbd (by have := hb2.size; omega) (cellK hb2 (by omega) c1)
  have hn2 : W2.drew.heap[w.heap.size + 1]? = some (.cells #[.slice none 0 0, .slice none 0 0] 25 (0, 0)) := hn
  have hb12 : Below w.heap.size w W2.drew := bs (bs hb1 hb2) hbd
  have hs2 : w.heap.size + 2 ≤ W2.drew.heap.size := by have := (Array.getElem?_eq_some_iff.1 hn2).1; omega
  clear hn hbd hb1 hb2 c0 c1 hD1 hs1
  go_region_with ((first
    | (go_at_call 28; (with_reducible refine (copied_any l _ _ hD2.nodes.sized hD2.nodes.nodes).mono ?_); rintro e w3 ⟨L3, vo, rfl, hL3, hN3, hb3⟩; obtain ⟨a3, cap3, rfl, _⟩ := own_form hN3.row; have e0 := cellK hb3 (by omega) d0; have e1 := cellK hb3 (by omega) d1; have hn3 := blk_kept hb3 hn2; have hD3 := hB2.kept hb3; have hN3s := hb3.size)
    | (go_at_call 29; (with_reducible refine (refCopied15_at cs _ _ (base := w.heap.size) (by omega) hD.sz hD3).mono ?_); rintro e w4 ⟨L, vo, rfl, hL4, hO4, hb4⟩; obtain ⟨a4, cap4, rfl, _⟩ := hO4.len; have hn4 := blk_kept hb4 hn3; obtain ⟨x0, x1, f0, f1⟩ := doc2_of hn4)))
  all_goals
    have hN4 := hN3.kept hb4
    have z := doc2_heap (.slice a3 L3.length cap3) (.slice a4 L.length cap4) hn4
    have hN9 := (hN4.set hn4 (by decide) (by decide) (by decide) 0 (.slice a3 L3.length cap3)).set (doc1_heap (.slice a3 L3.length cap3) hn4) (by decide) (by decide) (by decide) 1 (.slice a4 L.length cap4)
    have hO9 := (hO4.setT hn4 (by omega) (by decide) (by decide) 0 (.slice a3 L3.length cap3)).setT (doc1_heap (.slice a3 L3.length cap3) hn4) (by omega) (by decide) (by decide) 1 (.slice a4 L.length cap4)
    have hb9 := (bs (bs hb12 hb3) hb4).trans (doc2_below w4 (w.heap.size + 1) (.slice a3 L3.length cap3) (.slice a4 L.length cap4) (Nat.le_succ w.heap.size))
    generalize World.setCell (World.setCell _ _ _) _ _ = W9 at z hN9 hO9 hb9 ⊢
    obtain ⟨y0, y1, _, _⟩ := doc2_of z
    go_wp2_with fail
    refine bodyPost_ret (v := .agg #[.slice a3 L3.length cap3, .slice a4 L.length cap4]) (by simp [results, Tryz.results8, go_sem, y0, y1]) rfl ⟨_, _, rfl, ⟨⟨?_, hD.nodes.fits, hD.nodes.sized⟩, ?_, hD.sz⟩, hb9⟩
    · have := hN9.nodes
      rwa [hL3.out] at this
    · have := hO9.ctls
      rwa [hL4.out] at this
end Go.Proofs.YtafbghlldlconaaGreatDoor

/-
  PLAIN LAWS ON NAMES READ (chapter 20): no program in sight.
-/
namespace Go.Proofs.YtafbghlldlconaaGreatDoor.PT
set_option linter.unusedVariables false
set_option linter.unusedSimpArgs false
/-- a name with its escapes read -/
def unn : List UInt8 → List UInt8
  | [] => []
  | c :: r => if [37, 48, 65].isPrefixOf (c :: r) then 10 :: unn (r.drop 2) else if [37, 48, 68].isPrefixOf (c :: r) then 13 :: unn (r.drop 2) else if [37, 50, 50].isPrefixOf (c :: r) then 34 :: unn (r.drop 2) else c :: unn r
termination_by l => l.length
decreasing_by all_goals (simp; try omega)
theorem rep_head (a : UInt8) (old : List UInt8) (y : UInt8) (l : List UInt8) (x : UInt8) (m : List UInt8) (hx : x ≠ y) (h : rep (a :: old) [y] l = x :: m) : ∃ r, l = x :: r ∧ m = rep (a :: old) [y] r := by
  cases l with
  | nil => rw [rep_nil _ _ (by simp)] at h; cases h
  | cons c r =>
    cases hp : (a :: old).isPrefixOf (c :: r)
    · rw [rep_miss _ _ _ _ (by simp) hp] at h
      injection h with h1 h2
      exact ⟨r, by rw [h1], h2.symm⟩
    · rw [rep_hit _ _ _ (by simp) hp] at h
      injection h with h1 h2
      exact absurd h1.symm hx
theorem pre3 {a b c : UInt8} {l : List UInt8} (h : [a, b, c].isPrefixOf l = true) : ∃ q, l = a :: b :: c :: q := by
  obtain ⟨q, hq⟩ := List.isPrefixOf_iff_prefix.1 h
  exact ⟨q, hq.symm⟩
theorem rep_m1 (a : UInt8) (o new : List UInt8) (x : UInt8) (l : List UInt8) (h : a ≠ x) : rep (a :: o) new (x :: l) = x :: rep (a :: o) new l := rep_miss _ _ _ _ (by simp) (by simp [List.isPrefixOf, h])
theorem rep_m2 (a b : UInt8) (o new : List UInt8) (x y : UInt8) (l : List UInt8) (h : b ≠ y) : rep (a :: b :: o) new (x :: y :: l) = x :: rep (a :: b :: o) new (y :: l) := rep_miss _ _ _ _ (by simp) (by simp [List.isPrefixOf, h])
theorem rep_m3 (a b c : UInt8) (o new : List UInt8) (x y z : UInt8) (l : List UInt8) (h : c ≠ z) : rep (a :: b :: c :: o) new (x :: y :: z :: l) = x :: rep (a :: b :: c :: o) new (y :: z :: l) := rep_miss _ _ _ _ (by simp) (by simp [List.isPrefixOf, h])
theorem rep_h3 (a b c : UInt8) (new l : List UInt8) : rep [a, b, c] new (a :: b :: c :: l) = new ++ rep [a, b, c] new l := by
  rw [rep_hit _ _ _ (by simp) (by simp [List.isPrefixOf])]
  rfl
theorem unn_rep : ∀ (n : Nat) (l : List UInt8), l.length ≤ n → rep [37, 50, 50] [34] (rep [37, 48, 65] [10] (rep [37, 48, 68] [13] l)) = unn l := by
  intro n
  induction n with
  | zero =>
    intro l hl
    obtain rfl : l = [] := List.length_eq_zero_iff.1 (by omega)
    rw [rep_nil _ _ (by simp), rep_nil _ _ (by simp), rep_nil _ _ (by simp), unn]
  | succ n ih =>
    intro l hl
    cases l with
    | nil => rw [rep_nil _ _ (by simp), rep_nil _ _ (by simp), rep_nil _ _ (by simp), unn]
    | cons c r =>
      simp only [List.length_cons] at hl
      rw [unn]
      by_cases hA : [37, 48, 65].isPrefixOf (c :: r) = true
      · rw [if_pos hA]
        obtain ⟨q, hq⟩ := pre3 hA
        injection hq with h1 h2
        subst h1
        subst h2
        simp only [List.length_cons] at hl
        rw [rep_m3 37 48 68 _ _ _ _ _ _ (by decide), rep_m1 37 _ _ 48 _ (by decide), rep_m1 37 _ _ 65 _ (by decide), rep_h3, List.cons_append, List.nil_append, rep_m1 37 _ _ 10 _ (by decide), ih q (by omega)]
        rfl
      · rw [if_neg hA]
        by_cases hD : [37, 48, 68].isPrefixOf (c :: r) = true
        · rw [if_pos hD]
          obtain ⟨q, hq⟩ := pre3 hD
          injection hq with h1 h2
          subst h1
          subst h2
          simp only [List.length_cons] at hl
          rw [rep_h3, List.cons_append, List.nil_append, rep_m1 37 _ _ 13 _ (by decide), rep_m1 37 _ _ 13 _ (by decide), ih q (by omega)]
          rfl
        · rw [if_neg hD]
          by_cases hQ : [37, 50, 50].isPrefixOf (c :: r) = true
          · rw [if_pos hQ]
            obtain ⟨q, hq⟩ := pre3 hQ
            injection hq with h1 h2
            subst h1
            subst h2
            simp only [List.length_cons] at hl
            rw [rep_m2 37 48 _ _ 37 50 _ (by decide), rep_m1 37 _ _ 50 _ (by decide), rep_m1 37 _ _ 50 _ (by decide), rep_m2 37 48 _ _ 37 50 _ (by decide), rep_m1 37 _ _ 50 _ (by decide), rep_m1 37 _ _ 50 _ (by decide), rep_h3, List.cons_append, List.nil_append, ih q (by omega)]
            rfl
          · rw [if_neg hQ]
            rw [rep_miss [37, 48, 68] _ _ _ (by simp) (Bool.eq_false_iff.2 hD)]
            have hA2 : [37, 48, 65].isPrefixOf (c :: rep [37, 48, 68] [13] r) = false := by
              rw [Bool.eq_false_iff]
              intro h
              obtain ⟨q, hq⟩ := pre3 h
              injection hq with h1 h2
              obtain ⟨r1, e1, e2⟩ := rep_head _ _ _ _ _ _ (by decide) h2
              obtain ⟨r2, e3, e4⟩ := rep_head _ _ _ _ _ _ (by decide) e2.symm
              exact hA (by rw [h1, e1, e3]; simp [List.isPrefixOf])
            rw [rep_miss [37, 48, 65] _ _ _ (by simp) hA2]
            have hQ2 : [37, 50, 50].isPrefixOf (c :: rep [37, 48, 65] [10] (rep [37, 48, 68] [13] r)) = false := by
              rw [Bool.eq_false_iff]
              intro h
              obtain ⟨q, hq⟩ := pre3 h
              injection hq with h1 h2
              obtain ⟨r1, e1, e2⟩ := rep_head _ _ _ _ _ _ (by decide) h2
              obtain ⟨r2, e3, e4⟩ := rep_head _ _ _ _ _ _ (by decide) e2.symm
              obtain ⟨r3, e5, e6⟩ := rep_head _ _ _ _ _ _ (by decide) e1
              rw [e3] at e6
              obtain ⟨r4, e7, e8⟩ := rep_head _ _ _ _ _ _ (by decide) e6.symm
              exact hQ (by rw [h1, e5, e7]; simp [List.isPrefixOf])
            rw [rep_miss [37, 50, 50] _ _ _ (by simp) hQ2, ih r (by omega)]
theorem rep_short (old : List UInt8) (y : UInt8) (h : old ≠ []) : ∀ (n : Nat) (l : List UInt8), l.length ≤ n → (rep old [y] l).length ≤ l.length := by
  have ho : 0 < old.length := List.length_pos_iff.2 h
  intro n
  induction n with
  | zero =>
    intro l hl
    obtain rfl : l = [] := List.length_eq_zero_iff.1 (by omega)
    rw [rep_nil _ _ h]; exact Nat.le_refl _
  | succ n ih =>
    intro l hl
    cases l with
    | nil => rw [rep_nil _ _ h]; exact Nat.le_refl _
    | cons b l =>
      simp only [List.length_cons] at hl
      cases hp : old.isPrefixOf (b :: l)
      · rw [rep_miss _ _ _ _ h hp]
        have := ih l (by omega)
        simp only [List.length_cons]
        omega
      · rw [rep_hit _ _ _ h hp]
        have h1 := ih ((b :: l).drop old.length) (by simp only [List.length_drop, List.length_cons]; omega)
        simp only [List.length_append, List.length_cons, List.length_nil, List.length_drop] at h1 ⊢
        omega
theorem unn_len (l : List UInt8) : (unn l).length ≤ l.length := by
  rw [← unn_rep l.length l (Nat.le_refl _)]
  have h1 := rep_short [37, 48, 68] 13 (by simp) _ l (Nat.le_refl _)
  have h2 := rep_short [37, 48, 65] 10 (by simp) _ (rep [37, 48, 68] [13] l) (Nat.le_refl _)
  have h3 := rep_short [37, 50, 50] 34 (by simp) _ (rep [37, 48, 65] [10] (rep [37, 48, 68] [13] l)) (Nat.le_refl _)
  omega
end Go.Proofs.YtafbghlldlconaaGreatDoor.PT

/-
  A name read: parts.unname, ref20.Unname: the plain law and the walks.
-/
namespace Go.Proofs.YtafbghlldlconaaGreatDoor
set_option linter.unusedVariables false
set_option linter.unusedSimpArgs false
open Go.RowKit PT

set_option maxHeartbeats 1000000 in
set_option maxRecDepth 100000 in
theorem unname_any (s : ByteArray) (hs : s.size ≤ 9000000) (w : World) (hT : Tables w) :
    Calls Tryz.prog 127 #[.string s] w fun e w' => e = .returned (.string ⟨(unn s.data.toList).toArray⟩) ∧ Below w.heap.size w w' := by
  have h1 := rep_short [37, 48, 68] 13 (by simp) _ s.data.toList (Nat.le_refl _)
  have h2 := rep_short [37, 48, 65] 10 (by simp) _ (rep [37, 48, 68] [13] s.data.toList) (Nat.le_refl _)
  rw [size_list] at h1
  have HU := Lib.hid (unn_rep _ s.data.toList (Nat.le_refl _))
  go_enter Tryz.func127, Tryz.ntmps127
  go_wp2_with fail
  refine (replaceAll_any s [37, 48, 68] [13] (by omega) (by decide) (by decide) (by decide) _ hT).mono ?_
  rintro e w1 ⟨rfl, hb1⟩
  go_wp2_with fail
  refine (replaceAll_any _ [37, 48, 65] [10] (by rw [size_mk]; omega) (by decide) (by decide) (by decide) _ (hT.kept hb1)).mono ?_
  rintro e w2 ⟨rfl, hb2⟩
  go_wp2_with fail
  refine (replaceAll_any _ [37, 50, 50] [34] (by rw [size_mk]; exact Nat.le_trans h2 (by omega)) (by decide) (by decide) (by decide) _ ((hT.kept hb1).kept hb2)).mono ?_
  rintro e w3 ⟨rfl, hb3⟩
  go_wp2_with fail
  go_ret
  exact ⟨ret_str HU.out, bs (bs hb1 hb2) hb3⟩
theorem pre_at (s t : ByteArray) (k : Nat) (h : k + t.size ≤ s.size) : t.data.toList.isPrefixOf (s.data.toList.drop k) = decide (s.extract k (k + t.size) = t) := by
  have := occ_at s t k 0 (by omega)
  rw [Nat.add_zero] at this
  rw [← this]
  unfold Lib.occAt
  rw [List.drop_zero]
theorem pre3_far (a b c : UInt8) (l : List UInt8) (h : l.length ≤ 2) : [a, b, c].isPrefixOf l = false := by
  rw [Bool.eq_false_iff]
  intro hp
  have := (List.isPrefixOf_iff_prefix.1 hp).length_le
  simp at this
  omega
theorem unn_A (s : ByteArray) (k : Nat) (h : k < s.size) (hp : [37, 48, 65].isPrefixOf (s.data.toList.drop k) = true) : unn (s.data.toList.drop k) = 10 :: unn (s.data.toList.drop (k + 3)) := by
  rw [drop_cons' s k h] at hp ⊢
  rw [unn, if_pos hp, List.drop_drop]
theorem unn_D (s : ByteArray) (k : Nat) (h : k < s.size) (hp : [37, 48, 65].isPrefixOf (s.data.toList.drop k) = false) (hd : [37, 48, 68].isPrefixOf (s.data.toList.drop k) = true) : unn (s.data.toList.drop k) = 13 :: unn (s.data.toList.drop (k + 3)) := by
  rw [drop_cons' s k h] at hp hd ⊢
  rw [unn, if_neg (by rw [hp]; exact Bool.false_ne_true), if_pos hd, List.drop_drop]
theorem unn_Q (s : ByteArray) (k : Nat) (h : k < s.size) (hp : [37, 48, 65].isPrefixOf (s.data.toList.drop k) = false) (hd : [37, 48, 68].isPrefixOf (s.data.toList.drop k) = false) (hq : [37, 50, 50].isPrefixOf (s.data.toList.drop k) = true) : unn (s.data.toList.drop k) = 34 :: unn (s.data.toList.drop (k + 3)) := by
  rw [drop_cons' s k h] at hp hd hq ⊢
  rw [unn, if_neg (by rw [hp]; exact Bool.false_ne_true), if_neg (by rw [hd]; exact Bool.false_ne_true), if_pos hq, List.drop_drop]
theorem unn_E (s : ByteArray) (k : Nat) (h : k < s.size) (hp : [37, 48, 65].isPrefixOf (s.data.toList.drop k) = false) (hd : [37, 48, 68].isPrefixOf (s.data.toList.drop k) = false) (hq : [37, 50, 50].isPrefixOf (s.data.toList.drop k) = false) : unn (s.data.toList.drop k) = s[k] :: unn (s.data.toList.drop (k + 1)) := by
  rw [drop_cons' s k h] at hp hd hq ⊢
  rw [unn, if_neg (by rw [hp]; exact Bool.false_ne_true), if_neg (by rw [hd]; exact Bool.false_ne_true), if_neg (by rw [hq]; exact Bool.false_ne_true)]
theorem cut_ne (s t : ByteArray) (k n : Nat) (h : s.extract k n ≠ t) : ((s.extract k n).toList == t.data.toList) = false := by
  rw [beq_eq_false_iff_ne, ByteArray.toList_eq]
  intro e
  exact h (ByteArray.ext (Array.toList_inj.1 e))
theorem cut_eq (s t : ByteArray) (k n : Nat) (h : s.extract k n = t) : ((s.extract k n).toList == t.data.toList) = true := by rw [h, ByteArray.toList_eq]; exact beq_self_eq_true _
set_option maxHeartbeats 2000000 in
set_option maxRecDepth 100000 in
theorem refUnname_any (s : ByteArray) (hs : s.size ≤ 9000000) (w : World) :
    Calls Tryz.prog 50 #[.string s] w fun e w' => e = .returned (.string ⟨(unn s.data.toList).toArray⟩) ∧ Below w.heap.size w w' := by
  have hUl := unn_len s.data.toList
  rw [size_list] at hUl
  go_enter Tryz.func50, Tryz.ntmps50
  go_wp2_with fail
  go_loopw [4, 3] (fun i v wr => ∃ (k : Nat) (acc : List UInt8), k ≤ s.size ∧ i = .int .i64 k ∧ OB w.heap.size acc v wr ∧ Hid (acc ++ unn (s.data.toList.drop k) = unn s.data.toList) ∧ Below w.heap.size w wr) (fun i _ _ => s.size - (intOf i).toNat)
  case atStart => exact ⟨0, [], Nat.zero_le _, rfl, OB.nil _ _, Lib.hid rfl, Below.refl _ _⟩
  case round =>
    obtain ⟨k, acc, hk, rfl, hown, hA, hbel⟩ := hrel
    have hsz := hbel.size
    have hL1 : acc.length < 70368744177664 := by
      have := congrArg List.length hA.out
      rw [List.length_append] at this
      omega
    by_cases hlt : k < s.size
    · by_cases h3 : k + 3 ≤ s.size
      · have h3' : (2 : Int) < (s.size : Int) - (k : Int) := by omega
        have pA := Lib.hid (pre_at s ⟨#[37, 48, 65]⟩ k h3)
        have pD := Lib.hid (pre_at s ⟨#[37, 48, 68]⟩ k h3)
        have pQ := Lib.hid (pre_at s ⟨#[37, 50, 50]⟩ k h3)
        by_cases eA : s.extract k (k + 3) = ⟨#[37, 48, 65]⟩
        · have hN := Lib.hid (show (acc ++ [10]) ++ unn (s.data.toList.drop (k + 3)) = unn s.data.toList by
            rw [← hA.out, unn_A s k hlt (by rw [show [37, 48, 65] = (ByteArray.mk #[37, 48, 65]).data.toList from rfl, pA.out]; exact decide_eq_true eA)]; simp)
          have cA : ((s.extract k (k + 3)).toList == [37, 48, 65]) = true := cut_eq _ _ _ _ eA
          clear eA
          go_wp2_with (at_builtin; refine wpList_append_byte rfl _ _ rfl rfl rfl 10 rfl hown hL1 hsz ?_; intro v' w2 hown' hb')
          go_roundw
          case rel => exact ⟨k + 3, acc ++ [10], by omega, by go_num, hown', hN, hbel.trans hb'⟩
          case measure => simp [intOf]; omega
        · have cA : ((s.extract k (k + 3)).toList == [37, 48, 65]) = false := cut_ne _ _ _ _ eA
          have fA := Lib.hid (show [37, 48, 65].isPrefixOf (s.data.toList.drop k) = false by rw [show [37, 48, 65] = (ByteArray.mk #[37, 48, 65]).data.toList from rfl, pA.out]; exact decide_eq_false eA)
          clear eA
          by_cases eD : s.extract k (k + 3) = ⟨#[37, 48, 68]⟩
          · have hN := Lib.hid (show (acc ++ [13]) ++ unn (s.data.toList.drop (k + 3)) = unn s.data.toList by
              rw [← hA.out, unn_D s k hlt fA.out (by rw [show [37, 48, 68] = (ByteArray.mk #[37, 48, 68]).data.toList from rfl, pD.out]; exact decide_eq_true eD)]; simp)
            have cD : ((s.extract k (k + 3)).toList == [37, 48, 68]) = true := cut_eq _ _ _ _ eD
            clear eD
            go_wp2_with (at_builtin; refine wpList_append_byte rfl _ _ rfl rfl rfl 13 rfl hown hL1 hsz ?_; intro v' w2 hown' hb')
            go_roundw
            case rel => exact ⟨k + 3, acc ++ [13], by omega, by go_num, hown', hN, hbel.trans hb'⟩
            case measure => simp [intOf]; omega
          · have cD : ((s.extract k (k + 3)).toList == [37, 48, 68]) = false := cut_ne _ _ _ _ eD
            have fD := Lib.hid (show [37, 48, 68].isPrefixOf (s.data.toList.drop k) = false by rw [show [37, 48, 68] = (ByteArray.mk #[37, 48, 68]).data.toList from rfl, pD.out]; exact decide_eq_false eD)
            clear eD
            by_cases eQ : s.extract k (k + 3) = ⟨#[37, 50, 50]⟩
            · have hN := Lib.hid (show (acc ++ [34]) ++ unn (s.data.toList.drop (k + 3)) = unn s.data.toList by
                rw [← hA.out, unn_Q s k hlt fA.out fD.out (by rw [show [37, 50, 50] = (ByteArray.mk #[37, 50, 50]).data.toList from rfl, pQ.out]; exact decide_eq_true eQ)]; simp)
              have cQ : ((s.extract k (k + 3)).toList == [37, 50, 50]) = true := cut_eq _ _ _ _ eQ
              clear eQ
              go_wp2_with (at_builtin; refine wpList_append_byte rfl _ _ rfl rfl rfl 34 rfl hown hL1 hsz ?_; intro v' w2 hown' hb')
              go_roundw
              case rel => exact ⟨k + 3, acc ++ [34], by omega, by go_num, hown', hN, hbel.trans hb'⟩
              case measure => simp [intOf]; omega
            · have cQ : ((s.extract k (k + 3)).toList == [37, 50, 50]) = false := cut_ne _ _ _ _ eQ
              have fQ := Lib.hid (show [37, 50, 50].isPrefixOf (s.data.toList.drop k) = false by rw [show [37, 50, 50] = (ByteArray.mk #[37, 50, 50]).data.toList from rfl, pQ.out]; exact decide_eq_false eQ)
              clear eQ
              have hN := Lib.hid (show (acc ++ [s[k]]) ++ unn (s.data.toList.drop (k + 1)) = unn s.data.toList by
                rw [← hA.out, unn_E s k hlt fA.out fD.out fQ.out]; simp)
              go_wp2_with (at_builtin; refine wpList_append_byte rfl _ _ rfl rfl rfl s[k] rfl hown hL1 hsz ?_; intro v' w2 hown' hb')
              go_roundw
              case rel => exact ⟨k + 1, acc ++ [s[k]], by omega, by go_num, hown', hN, hbel.trans hb'⟩
              case measure => simp [intOf]; omega
      · have h3' : decide ((2 : Int) < (s.size : Int) - (k : Int)) = false := by simp; omega
        have hl2 : (s.data.toList.drop k).length ≤ 2 := by rw [List.length_drop, size_list]; omega
        have hN := Lib.hid (show (acc ++ [s[k]]) ++ unn (s.data.toList.drop (k + 1)) = unn s.data.toList by
          rw [← hA.out, unn_E s k hlt (pre3_far _ _ _ _ hl2) (pre3_far _ _ _ _ hl2) (pre3_far _ _ _ _ hl2)]; simp)
        clear hl2
        go_wp2_with (at_builtin; refine wpList_append_byte rfl _ _ rfl rfl rfl s[k] rfl hown hL1 hsz ?_; intro v' w2 hown' hb')
        go_roundw
        case rel => exact ⟨k + 1, acc ++ [s[k]], by omega, by go_num, hown', hN, hbel.trans hb'⟩
        case measure => simp [intOf]; omega
    · obtain rfl : k = s.size := by omega
      have hcb := hown.conv
      have hR := Lib.hid (show acc = unn s.data.toList by
        have := hA.out
        rw [List.drop_eq_nil_of_le (by rw [size_list]; exact Nat.le_refl _), unn, List.append_nil] at this
        exact this)
      go_wp2_with fail
      go_ret
      exact ⟨ret_str hR.out, hbel⟩
end Go.Proofs.YtafbghlldlconaaGreatDoor

/-
  PLAIN LAWS ON PARTS READ (chapter 20): no program in sight.
-/
namespace Go.Proofs.YtafbghlldlconaaGreatDoor.PT
set_option linter.unusedVariables false
set_option linter.unusedSimpArgs false

/-- what is in quotes, and what is behind them -/
def qtd : List UInt8 → Option (List UInt8 × List UInt8)
  | [] => none
  | c :: r => if c = 10 ∨ c = 13 then none else if c = 34 then some ([], r) else (qtd r).map fun p => (c :: p.1, p.2)
theorem qtd_yes (p r : List UInt8) (h34 : 34 ∉ p) (h10 : 10 ∉ p) (h13 : 13 ∉ p) : qtd (p ++ 34 :: r) = some (p, r) := by
  induction p with
  | nil => simp [qtd]
  | cons c p ih =>
    simp only [List.mem_cons, not_or] at h34 h10 h13
    rw [List.cons_append, qtd, if_neg (by rintro (e | e); exact h10.1 e.symm; exact h13.1 e.symm), if_neg (fun e => h34.1 e.symm), ih h34.2 h10.2 h13.2]
    rfl
theorem qtd_bad (p r : List UInt8) (h : 10 ∈ p ∨ 13 ∈ p) (h34 : 34 ∉ p) : qtd (p ++ r) = none := by
  induction p with
  | nil => simp at h
  | cons c p ih =>
    simp only [List.mem_cons, not_or] at h34 h
    rw [List.cons_append, qtd]
    by_cases hc : c = 10 ∨ c = 13
    · rw [if_pos hc]
    · rw [if_neg hc, if_neg (fun e => h34.1 e.symm), ih (by
        rcases h with (e | e) | (e | e)
        · exact absurd (.inl e.symm) hc
        · exact .inl e
        · exact absurd (.inr e.symm) hc
        · exact .inr e) h34.2]
      rfl
theorem qtd_none (p : List UInt8) (h34 : 34 ∉ p) : qtd p = none := by
  induction p with
  | nil => rfl
  | cons c p ih =>
    simp only [List.mem_cons, not_or] at h34
    rw [qtd]
    split
    · rfl
    · rw [if_neg (fun e => h34.1 e.symm), ih h34.2]; rfl
/-- the same told by Cut -/
theorem qtd_cut (l : List UInt8) : qtd l = if (Lib.cut l [34]).2.2 = false ∨ 10 ∈ (Lib.cut l [34]).1 ∨ 13 ∈ (Lib.cut l [34]).1 then none else some ((Lib.cut l [34]).1, (Lib.cut l [34]).2.1) := by
  by_cases h : 34 ∈ l
  · obtain ⟨a, b, e, ha⟩ : ∃ a b, l = a ++ 34 :: b ∧ 34 ∉ a := by
      induction l with
      | nil => simp at h
      | cons c l ih =>
        by_cases hc : c = 34
        · exact ⟨[], l, by rw [hc]; rfl, by simp⟩
        · obtain ⟨a, b, e, ha⟩ := ih (by
            rcases List.mem_cons.1 h with e | e
            · exact absurd e.symm hc
            · exact e)
          exact ⟨c :: a, b, by rw [e]; rfl, by simp only [List.mem_cons, not_or]; exact ⟨fun e => hc e.symm, ha⟩⟩
    rw [(cut_at 34 l).2 a b e ha]
    subst e
    by_cases hb : 10 ∈ a ∨ 13 ∈ a
    · rw [if_pos (.inr hb), qtd_bad a _ hb ha]
    · rw [if_neg (by rintro (e | e); simp at e; exact hb e), qtd_yes a b ha (fun e => hb (.inl e)) (fun e => hb (.inr e))]
  · rw [(cut_at 34 l).1 h, if_pos (.inl rfl), qtd_none l h]
/-- an entry, its texts as lists -/
structure P5 where
  n : List UInt8
  v : List UInt8
  f : Bool
  fn : List UInt8
  t : List UInt8
/-- a part's head read, the value being told -/
def rdq (h v : List UInt8) : Option P5 :=
  if head1.isPrefixOf h then
    match qtd (h.drop 38) with
    | none => none
    | some (n, r) =>
      if r = [] then some ⟨unn n, v, false, [], []⟩
      else if head2.isPrefixOf r then
        match qtd (r.drop 12) with
        | none => none
        | some (f, q) => if head3.isPrefixOf q then (if 13 ∈ q.drop 16 ∨ 10 ∈ q.drop 16 then none else some ⟨unn n, v, true, unn f, q.drop 16⟩) else none
      else none
  else none
def crlf2 : List UInt8 := [13, 10, 13, 10]
/-- a part read -/
def rd (s : List UInt8) : Option P5 := if Lib.index s crlf2 = -1 then none else rdq (s.take (Lib.index s crlf2).toNat) (s.drop ((Lib.index s crlf2).toNat + 4))
def dash : List UInt8 := [45, 45]
def crlf : List UInt8 := [13, 10]
/-- what stands between two parts, but for the end of its line -/
def sep (b : List UInt8) : List UInt8 := crlf ++ dash ++ b
theorem sep_len (b : List UInt8) : (sep b).length = b.length + 4 := by simp [sep, crlf, dash]
/-- parts read one behind the other -/
def dec2 (b : List UInt8) (l : List UInt8) : Option (List P5) :=
  if _h : Lib.index l (sep b) = -1 then none
  else
    match rd (l.take (Lib.index l (sep b)).toNat) with
    | none => none
    | some x =>
      if l.drop ((Lib.index l (sep b)).toNat + (sep b).length) = dash ++ crlf then some [x]
      else if _hp : crlf.isPrefixOf (l.drop ((Lib.index l (sep b)).toNat + (sep b).length)) then (dec2 b (l.drop ((Lib.index l (sep b)).toNat + (sep b).length + 2))).map (x :: ·)
      else none
termination_by l.length
decreasing_by
  have h1 := (List.isPrefixOf_iff_prefix.1 _hp).length_le
  have h2 := sep_len b
  simp only [List.length_drop] at h1 ⊢
  simp only [crlf, List.length_cons, List.length_nil] at h1
  omega
/-- a text of parts read: the entries, or none -/
def decE (s b : List UInt8) : Option (List P5) :=
  if fitB b then
    if s = dash ++ b ++ dash ++ crlf then some []
    else if (dash ++ b ++ crlf).isPrefixOf s then dec2 b (s.drop (dash ++ b ++ crlf).length)
    else none
  else none
end Go.Proofs.YtafbghlldlconaaGreatDoor.PT

/-
  PLAIN LAWS ON PARTS READ (chapter 20), second: by pieces; what was told is read back. No program in sight.
-/
namespace Go.Proofs.YtafbghlldlconaaGreatDoor.PT
set_option linter.unusedVariables false
set_option linter.unusedSimpArgs false
open Go.Lib (occAt)

theorem occ_iff {s sub : List UInt8} {j : Nat} : occAt s sub j = true ↔ ∃ q, s.drop j = sub ++ q := by
  unfold occAt
  rw [List.isPrefixOf_iff_prefix]
  exact ⟨fun ⟨q, h⟩ => ⟨q, h.symm⟩, fun ⟨q, h⟩ => ⟨q, h.symm⟩⟩
theorem first_occ {s sub : List UInt8} : ∀ (n j : Nat), j ≤ n → occAt s sub j = true → ∃ i, i ≤ j ∧ occAt s sub i = true ∧ ∀ k, k < i → occAt s sub k = false
  | 0, j, hj, h => ⟨j, Nat.le_refl _, h, fun k hk => by omega⟩
  | n + 1, j, hj, h => by
    by_cases hx : ∃ k, k < j ∧ occAt s sub k = true
    · obtain ⟨k, hk, ho⟩ := hx
      obtain ⟨i, h1, h2, h3⟩ := first_occ n k (by omega) ho
      exact ⟨i, by omega, h2, h3⟩
    · exact ⟨j, Nat.le_refl _, h, fun k hk => by
        cases hk' : occAt s sub k
        · rfl
        · exact absurd ⟨k, hk, hk'⟩ hx⟩
theorem idx_cases (s sub : List UInt8) (hne : sub ≠ []) : (Lib.index s sub = -1 ∧ ∀ j, occAt s sub j = false) ∨ ∃ p r, s = p ++ (sub ++ r) ∧ Lib.index s sub = (p.length : Nat) ∧ ∀ j, j < p.length → occAt s sub j = false := by
  by_cases hx : ∃ j, occAt s sub j = true
  · obtain ⟨j, hj⟩ := hx
    obtain ⟨i, _, h2, h3⟩ := first_occ j j (Nat.le_refl _) hj
    right
    have hr : i + sub.length ≤ s.length := (Lib.occAt_room h2).resolve_right hne
    obtain ⟨q, hq⟩ := occ_iff.1 h2
    have hl : (s.take i).length = i := by rw [List.length_take]; omega
    refine ⟨s.take i, q, ?_, ?_, ?_⟩
    · rw [← hq, List.take_append_drop]
    · rw [hl]; exact Lib.index_first (by omega) h2 h3
    · rw [hl]; exact h3
  · left
    have hno : ∀ j, occAt s sub j = false := fun j => by
      cases hj : occAt s sub j
      · rfl
      · exact absurd ⟨j, hj⟩ hx
    exact ⟨Lib.index_none (fun j _ => hno j), hno⟩
theorem idx_at (p sub r : List UInt8) (h : ∀ j, j < p.length → occAt (p ++ (sub ++ r)) sub j = false) : Lib.index (p ++ (sub ++ r)) sub = (p.length : Nat) :=
  Lib.index_first (by simp) (occ_iff.2 ⟨r, by rw [List.drop_left]⟩) h
theorem occ_gap {c : UInt8} {tl s : List UInt8} {i j : Nat} (hc : c ∉ tl) (hi : occAt s (c :: tl) i = true) (hj : occAt s (c :: tl) j = true) (hij : i < j) : i + (c :: tl).length ≤ j := by
  rcases Nat.lt_or_ge j (i + (c :: tl).length) with h | h
  · exfalso
    have h1 := Lib.occAt_head rfl hj
    obtain ⟨q, hq⟩ := occ_iff.1 hi
    have h2 : (s.drop i)[j - i]? = some c := by rw [List.getElem?_drop, show i + (j - i) = j by omega]; exact h1
    rw [hq, List.getElem?_append_left (by omega), show j - i = (j - i - 1) + 1 by omega, List.getElem?_cons_succ] at h2
    exact hc (List.mem_of_getElem? h2)
  · exact h
theorem split_miss (s sub : List UInt8) (h : Lib.index s sub = -1) : Lib.split s sub = [s] := by
  unfold Lib.split
  rw [Lib.count_miss h]; rfl
theorem split_hit (s sub : List UInt8) (hs : sub ≠ []) (i : Nat) (h : Lib.index s sub = (i : Nat)) : Lib.split s sub = s.take i :: Lib.split (s.drop (i + sub.length)) sub := by
  unfold Lib.split
  rw [Lib.count_hit hs h, Nat.add_comm 1, Lib.splitK, if_neg (by rw [h]; simp), h]
  simp
/-- each piece read; none holds what stands between -/
def decPP (b : List UInt8) : List (List UInt8) → Option (List P5)
  | [] => some []
  | p :: ps => match rd p with
    | none => none
    | some x => if Lib.contains p (sep b) then none else (decPP b ps).map (x :: ·)
theorem decP_has (b p : List UInt8) (ps : List (List UInt8)) (h : Lib.contains p (sep b) = true) : decPP b (p :: ps) = none := by
  unfold decPP
  cases rd p with
  | none => rfl
  | some x => simp only [h, if_true]
theorem dec2_none (b l : List UInt8) (h : Lib.index l (sep b) = -1) : dec2 b l = none := by rw [dec2, dif_pos h]
theorem dec2_at (b p r : List UInt8) (h : Lib.index (p ++ (sep b ++ r)) (sep b) = (p.length : Nat)) :
    dec2 b (p ++ (sep b ++ r)) = match rd p with
      | none => none
      | some x => if r = dash ++ crlf then some [x] else if crlf.isPrefixOf r = true then (dec2 b (r.drop 2)).map (x :: ·) else none := by
  have e1 : (p ++ (sep b ++ r)).take p.length = p := by simp
  have e2 : (p ++ (sep b ++ r)).drop (p.length + (sep b).length) = r := by rw [← List.append_assoc, ← List.length_append, List.drop_left]
  have e3 : (p ++ (sep b ++ r)).drop (p.length + (sep b).length + 2) = r.drop 2 := by rw [← List.drop_drop, e2]
  rw [dec2, dif_neg (by rw [h]; omega)]
  simp only [h, Int.toNat_natCast, e1, e2, e3]
  cases rd p with
  | none => rfl
  | some x => simp
theorem sep_cons (b : List UInt8) : sep b = 13 :: (10 :: 45 :: 45 :: b) := rfl
theorem sep_ne (b : List UInt8) : sep b ≠ [] := by simp [sep_cons]
theorem sep_tail {b : List UInt8} (hb : 13 ∉ b) : (13 : UInt8) ∉ (10 :: 45 :: 45 :: b) := by
  simp only [List.mem_cons, not_or]
  exact ⟨by decide, by decide, by decide, hb⟩
theorem contains_at (p q r : List UInt8) : Lib.contains (p ++ (q ++ r)) q = true := by
  unfold Lib.contains
  by_cases hq : q = []
  · subst hq
    rw [Lib.index_empty]; rfl
  · rcases idx_cases (p ++ (q ++ r)) q hq with ⟨_, h⟩ | ⟨p', r', _, h, _⟩
    · have := h p.length
      rw [occ_iff.2 ⟨r, by rw [List.drop_left]⟩] at this
      cases this
    · rw [h]; simp
theorem contains_no (p q : List UInt8) (hq : q ≠ []) (h : ∀ j, occAt p q j = false) : Lib.contains p q = false := by
  unfold Lib.contains
  rw [Lib.index_none (fun j _ => h j)]; rfl
/-- an instance ahead of a border stands in what is behind it, too -/
theorem occ_left {p s q : List UInt8} {j : Nat} (h : occAt p q j = true) (hq : q ≠ []) : occAt (p ++ s) q j = true := by
  obtain ⟨r, hr⟩ := occ_iff.1 h
  have hl := (Lib.occAt_room h).resolve_right hq
  exact occ_iff.2 ⟨r ++ s, by rw [List.drop_append_of_le_length (by omega), hr, List.append_assoc]⟩
theorem occ_pre {s q t : List UInt8} {j : Nat} (h : occAt s (q ++ t) j = true) : occAt s q j = true := by
  obtain ⟨r, hr⟩ := occ_iff.1 h
  exact occ_iff.2 ⟨t ++ r, by rw [hr, List.append_assoc]⟩
def last (b : List UInt8) : List UInt8 := sep b ++ (dash ++ crlf)
theorem dec2_suf (b : List UInt8) (hb : 13 ∉ b) (hb0 : b ≠ []) : ∀ (n : Nat) (q : List UInt8), q.length ≤ n → dec2 b (q ++ last b) = decPP b (Lib.split q (sep b ++ crlf)) := by
  have hm : sep b ++ crlf ≠ [] := by simp [sep_cons]
  intro n
  induction n using Nat.strongRecOn with
  | ind n ih =>
  intro q hn
  rcases idx_cases (q ++ last b) (sep b) (sep_ne b) with ⟨_, h⟩ | ⟨p, r, e, hi, hno⟩
  · have := h q.length
    rw [occ_iff.2 ⟨dash ++ crlf, by rw [List.drop_left]; rfl⟩] at this
    cases this
  · have ho : occAt (q ++ last b) (sep b) p.length = true := occ_iff.2 ⟨r, by rw [e, List.drop_left]⟩
    have hoq : occAt (q ++ last b) (sep b) q.length = true := occ_iff.2 ⟨dash ++ crlf, by rw [List.drop_left]; rfl⟩
    have hle : p.length ≤ q.length := by
      rcases Nat.lt_or_ge q.length p.length with h | h
      · rw [hno _ h] at hoq; cases hoq
      · exact h
    have hnp : ∀ j, occAt p (sep b) j = false := fun j => by
      cases hj : occAt p (sep b) j
      · rfl
      · have hr := (Lib.occAt_room hj).resolve_right (sep_ne b)
        have hl := sep_len b
        have := occ_left (s := sep b ++ r) hj (sep_ne b)
        rw [← e, hno j (by omega)] at this
        cases this
    have hcp := contains_no p (sep b) (sep_ne b) hnp
    by_cases heq : p.length = q.length
    · have h2 := List.append_inj e heq.symm
      obtain ⟨rfl, h3⟩ := h2
      have hr : r = dash ++ crlf := (List.append_cancel_left (h3 : sep b ++ (dash ++ crlf) = sep b ++ r)).symm
      subst hr
      rw [show q ++ last b = q ++ (sep b ++ (dash ++ crlf)) from rfl] at hi ⊢
      rw [dec2_at b q _ hi, split_miss q _ (Lib.index_none fun j _ => by
        cases hj : occAt q (sep b ++ crlf) j
        · rfl
        · have := occ_pre hj
          rw [hnp j] at this; cases this)]
      unfold decPP
      cases rd q with
      | none => rfl
      | some x => simp [hcp, decPP]
    · have hgap := occ_gap (sep_tail hb) (sep_cons b ▸ ho) (sep_cons b ▸ hoq) (by omega)
      rw [← sep_cons] at hgap
      obtain ⟨r1, hr1⟩ : ∃ r1, q = p ++ (sep b ++ r1) := by
        refine ⟨q.drop (p.length + (sep b).length), ?_⟩
        have h1 : (q ++ last b).take (p.length + (sep b).length) = p ++ sep b := by
          rw [e, ← List.append_assoc, ← List.length_append, List.take_left]
        rw [List.take_append_of_le_length (by omega)] at h1
        rw [← List.append_assoc, ← h1, List.take_append_drop]
      subst hr1
      have hr : r = r1 ++ last b := by
        have : p ++ (sep b ++ (r1 ++ last b)) = p ++ (sep b ++ r) := by rw [← e]; simp
        exact (List.append_cancel_left (List.append_cancel_left this)).symm
      subst hr
      have hlr : r1 ++ last b ≠ dash ++ crlf := fun h => by
        have := congrArg List.length h
        simp [last, sep_cons, dash, crlf] at this
        omega
      rw [e] at hi
      rw [e, dec2_at b p _ hi]
      simp only [if_neg hlr]
      have hmid : ∀ (r2 : List UInt8), occAt (p ++ (sep b ++ r2)) (sep b ++ crlf) p.length = true ↔ ∃ r3, r2 = crlf ++ r3 := fun r2 => by
        rw [occ_iff, List.drop_left]
        constructor
        · rintro ⟨q, h⟩
          rw [List.append_assoc] at h
          exact ⟨q, List.append_cancel_left h⟩
        · rintro ⟨q, h⟩
          exact ⟨q, by rw [h, List.append_assoc]⟩
      by_cases hc : ∃ r3, r1 = crlf ++ r3
      · obtain ⟨r3, rfl⟩ := hc
        have hix : Lib.index (p ++ (sep b ++ (crlf ++ r3))) (sep b ++ crlf) = (p.length : Nat) :=
          Lib.index_first (by simp) ((hmid _).2 ⟨r3, rfl⟩) (fun j hj => by
            cases hjo : occAt (p ++ (sep b ++ (crlf ++ r3))) (sep b ++ crlf) j
            · rfl
            · have := occ_left (s := last b) (occ_pre hjo) (sep_ne b)
              rw [hno j hj] at this; cases this)
        have hl : (p ++ (sep b ++ (crlf ++ r3))).length ≤ n := hn
        have hih := ih r3.length (by
          have := sep_len b
          simp only [List.length_append, crlf, List.length_cons, List.length_nil] at hl
          omega) r3 (Nat.le_refl _)
        rw [split_hit _ _ hm _ hix, show (p ++ (sep b ++ (crlf ++ r3))).take p.length = p by simp,
          show (p ++ (sep b ++ (crlf ++ r3))).drop (p.length + (sep b ++ crlf).length) = r3 by
            rw [show p ++ (sep b ++ (crlf ++ r3)) = (p ++ (sep b ++ crlf)) ++ r3 by simp, ← List.length_append, List.drop_left]]
        have e1 : crlf.isPrefixOf ((crlf ++ r3) ++ last b) = true := by rw [List.isPrefixOf_iff_prefix]; exact ⟨r3 ++ last b, by simp⟩
        have e2 : ((crlf ++ r3) ++ last b).drop 2 = r3 ++ last b := rfl
        simp only [if_pos e1, e2, hih]
        conv => rhs; unfold decPP
        cases rd p with
        | none => rfl
        | some x => simp [hcp]
      · -- the text between two parts is no such text: the first piece holds it
        have hD : decPP b (Lib.split (p ++ (sep b ++ r1)) (sep b ++ crlf)) = none := by
          rcases idx_cases (p ++ (sep b ++ r1)) (sep b ++ crlf) hm with ⟨h, _⟩ | ⟨p2, r2, e2, h2, h3⟩
          · rw [split_miss _ _ h]
            exact decP_has b _ _ (contains_at p (sep b) r1)
          · rw [split_hit _ _ hm _ h2]
            refine decP_has b _ _ ?_
            have ho2 : occAt (p ++ (sep b ++ r1)) (sep b ++ crlf) p2.length = true := occ_iff.2 ⟨r2, by rw [e2, List.drop_left]⟩
            have ho3 : occAt (p ++ (sep b ++ r1)) (sep b) p2.length = true := occ_pre ho2
            have ho4 : occAt (p ++ (sep b ++ r1)) (sep b) p.length = true := occ_iff.2 ⟨r1, by rw [List.drop_left]⟩
            have hge : p.length ≤ p2.length := by
              rcases Nat.lt_or_ge p2.length p.length with h | h
              · have := occ_left (s := last b) ho3 (sep_ne b)
                rw [hno _ h] at this; cases this
              · exact h
            have hne : p.length ≠ p2.length := fun he => hc ((hmid r1).1 (he ▸ ho2))
            have hg := occ_gap (sep_tail hb) (sep_cons b ▸ ho4) (sep_cons b ▸ ho3) (by omega)
            rw [← sep_cons] at hg
            rw [List.take_append, List.take_of_length_le hge, List.take_append, List.take_of_length_le (by omega)]
            exact contains_at p (sep b) _
        rw [hD]
        by_cases hp : crlf.isPrefixOf (r1 ++ last b) = true
        · -- r1 is empty
          simp only [if_pos hp]
          obtain ⟨t, ht⟩ := List.isPrefixOf_iff_prefix.1 hp
          have h0 : r1 = [] := by
            cases r1 with
            | nil => rfl
            | cons x r1 =>
              exfalso
              cases r1 with
              | nil =>
                simp only [crlf, last, sep_cons, List.cons_append, List.nil_append] at ht
                injection ht with _ ht
                injection ht with ht _
                exact absurd ht (by decide)
              | cons y r1 =>
                simp only [crlf, List.cons_append, List.nil_append] at ht
                injection ht with a1 ht
                injection ht with a2 ht
                exact hc ⟨r1, by rw [← a1, ← a2]; rfl⟩
          subst h0
          have hx : dec2 b (([] ++ last b).drop 2) = none := by
            refine dec2_none b _ ?_
            refine Lib.index_none fun j _ => ?_
            cases hj : occAt (([] ++ last b).drop 2) (sep b) j
            · rfl
            · exfalso
              have h5 := (Lib.occAt_room hj).resolve_right (sep_ne b)
              have h6 : occAt (last b) (sep b) (2 + j) = true := by
                obtain ⟨q, hq⟩ := occ_iff.1 hj
                exact occ_iff.2 ⟨q, by rw [← hq, List.nil_append, List.drop_drop]⟩
              have h7 : occAt (last b) (sep b) 0 = true := occ_iff.2 ⟨dash ++ crlf, rfl⟩
              have h8 := occ_gap (sep_tail hb) (sep_cons b ▸ h7) (sep_cons b ▸ h6) (by omega)
              rw [← sep_cons] at h8
              have h9 := sep_len b
              have h10 := List.length_pos_iff.2 hb0
              simp only [List.nil_append, last, List.length_drop, List.length_append, dash, crlf, List.length_cons, List.length_nil] at h5
              omega
          simp only [hx]
          cases rd p <;> rfl
        · simp only [if_neg hp]
          cases rd p <;> rfl
theorem dec2_no (b : List UInt8) : ∀ (n : Nat) (l : List UInt8), l.length ≤ n → (¬ ∃ q, l = q ++ last b) → dec2 b l = none := by
  intro n
  induction n using Nat.strongRecOn with
  | ind n ih =>
  intro l hn hno
  rcases idx_cases l (sep b) (sep_ne b) with ⟨h, _⟩ | ⟨p, r, e, hi, _⟩
  · exact dec2_none b l h
  · subst e
    have hlr : ¬ r = dash ++ crlf := fun h => hno ⟨p, by rw [h]; rfl⟩
    rw [dec2_at b p r hi]
    simp only [if_neg hlr]
    by_cases hp : crlf.isPrefixOf r = true
    · obtain ⟨t, rfl⟩ := List.isPrefixOf_iff_prefix.1 hp
      have h1 := ih t.length (by
        have := sep_len b
        simp only [List.length_append, crlf, List.length_cons, List.length_nil] at hn
        omega) t (Nat.le_refl _) (fun ⟨q, h⟩ => hno ⟨p ++ (sep b ++ (crlf ++ q)), by rw [h]; simp⟩)
      simp only [if_pos hp, show (crlf ++ t).drop 2 = t from rfl, h1]
      cases rd p <;> rfl
    · simp only [if_neg hp]
      cases rd p <;> rfl
theorem dec2_len (b : List UInt8) : ∀ (n : Nat) (l : List UInt8) (xs : List P5), l.length ≤ n → dec2 b l = some xs → xs.length ≤ l.length := by
  intro n
  induction n using Nat.strongRecOn with
  | ind n ih =>
  intro l xs hn h
  rcases idx_cases l (sep b) (sep_ne b) with ⟨hi, _⟩ | ⟨p, r, e, hi, _⟩
  · rw [dec2_none b l hi] at h; cases h
  · subst e
    rw [dec2_at b p r hi] at h
    have hsl := sep_len b
    simp only [List.length_append] at hn ⊢
    cases hr : rd p with
    | none => rw [hr] at h; cases h
    | some x =>
      rw [hr] at h
      simp only at h
      by_cases he : r = dash ++ crlf
      · rw [if_pos he] at h
        cases h
        simp; omega
      · rw [if_neg he] at h
        by_cases hp : crlf.isPrefixOf r = true
        · rw [if_pos hp] at h
          cases hd : dec2 b (r.drop 2) with
          | none => rw [hd] at h; cases h
          | some ys =>
            rw [hd] at h
            cases h
            have := ih (r.drop 2).length (by rw [List.length_drop]; omega) (r.drop 2) ys (Nat.le_refl _) hd
            rw [List.length_drop] at this
            rw [List.length_cons]
            omega
        · rw [if_neg hp] at h; cases h
theorem decE_len (s b : List UInt8) (xs : List P5) (h : decE s b = some xs) : xs.length ≤ s.length := by
  unfold decE at h
  split at h
  · split at h
    · cases h; simp
    · split at h
      · have := dec2_len b _ _ xs (Nat.le_refl _) h
        rw [List.length_drop] at this
        omega
      · cases h
  · cases h
theorem fitB_13 {b : List UInt8} (h : fitB b = true) : 13 ∉ b ∧ 10 ∉ b ∧ b ≠ [] := by
  unfold fitB at h
  rw [Bool.and_eq_true, Bool.and_eq_true, List.all_eq_true] at h
  refine ⟨fun hm => absurd (h.1 _ hm) (by decide), fun hm => absurd (h.1 _ hm) (by decide), fun e => ?_⟩
  subst e
  simp at h
end Go.Proofs.YtafbghlldlconaaGreatDoor.PT
