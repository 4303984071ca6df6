/-
  Entries as a body: plain.Body, ref21.Of; the law PlainBodies: the walks.
-/
import Derived.Test.YtapbljaohhcpoaaDoorWalkPlainEncodes
import Derived.Test.YtapbljaohhcpoaaDoorParts4
import Derived.Test.YtapbljaohhcpoaaDoorSteps
namespace Go.Proofs.YtapbljaohhcpoaaDoor
set_option linter.unusedVariables false
set_option linter.unusedSimpArgs false
open Go.RowKit PT

def tyForm : ByteArray := ⟨#[97, 112, 112, 108, 105, 99, 97, 116, 105, 111, 110, 47, 120, 45, 119, 119, 119, 45, 102, 111, 114, 109, 45, 117, 114, 108, 101, 110, 99, 111, 100, 101, 100]⟩
def tyParts : ByteArray := ⟨#[109, 117, 108, 116, 105, 112, 97, 114, 116, 47, 102, 111, 114, 109, 45, 100, 97, 116, 97, 59, 32, 98, 111, 117, 110, 100, 97, 114, 121, 61]⟩
def tyPlain : ByteArray := ⟨#[116, 101, 120, 116, 47, 112, 108, 97, 105, 110]⟩
/-- a body, its type, the error -/
def bodyT (kind : Int) (es : List Ent) (b : ByteArray) : ByteArray × ByteArray × Int :=
  if kind = 1 then (⟨(encP (told es)).toArray⟩, tyForm, 0)
  else if kind = 2 then (if clearB es b.data.toList then (⟨(encP20 b.data.toList es).toArray⟩, tyParts ++ b, 0) else (⟨#[]⟩, ⟨#[]⟩, 10))
  else if kind = 3 then (⟨(lines21 es).toArray⟩, tyPlain, 0) else (⟨#[]⟩, ⟨#[]⟩, 3)
theorem brief_short {x : Ent} (h : Brief x) : Short x := h
set_option maxHeartbeats 2000000 in
set_option maxRecDepth 100000 in
theorem body_any (kind : Int) (es : List Ent) (u : Value) (b : ByteArray) (hbs : b.size ≤ 1000000) (hl : es.length ≤ 1000) (hS : ∀ x ∈ es, Brief x) (w : World) (hU : Ents es u w) (hT : Tables w) :
    Calls Tryd.prog 23 #[.int .i64 kind, u, .string b] w fun e w' => e = .returned (.tuple #[.string (bodyT kind es b).1, .string (bodyT kind es b).2.1, .int .i64 (bodyT kind es b).2.2]) ∧ Below w.heap.size w w' := by
  obtain ⟨a, cap, rfl⟩ := hU.len
  by_cases h1 : kind = 1
  · subst h1
    have hR := Lib.hid (show bodyT 1 es b = (⟨(encP (told es)).toArray⟩, tyForm, 0) from rfl)
    go_enter Tryd.func23, Tryd.ntmps23
    go_wp2_with fail
    refine (urlEncode_any es _ _ hU hT hl hS).mono ?_
    rintro e w1 ⟨rfl, hb1⟩
    go_wp2_with fail
    go_ret3
    exact ⟨by rw [hR.out]; rfl, hb1⟩
  · have e1 : (kind == 1) = false := intNe h1
    by_cases h2 : kind = 2
    · subst h2
      cases hc : clearB es b.data.toList
      · have hR := Lib.hid (show bodyT 2 es b = (⟨#[]⟩, ⟨#[]⟩, 10) by unfold bodyT; rw [if_neg (by decide), if_pos rfl, hc]; rfl)
        clear h1 e1
        go_enter Tryd.func23, Tryd.ntmps23
        go_wp2_with fail
        refine (partsEncode_any es _ b hl hS _ hU hT).mono ?_
        rintro e w1 ⟨rfl, hb1⟩
        simp only [encV, hc, if_false, Bool.false_eq_true]
        go_wp2_with fail
        go_ret3
        exact ⟨by rw [hR.out]; rfl, hb1⟩
      · have hR := Lib.hid (show bodyT 2 es b = (⟨(encP20 b.data.toList es).toArray⟩, tyParts ++ b, 0) by unfold bodyT; rw [if_neg (by decide), if_pos rfl, hc]; rfl)
        clear h1 e1
        go_enter Tryd.func23, Tryd.ntmps23
        go_wp2_with fail
        refine (partsEncode_any es _ b hl hS _ hU hT).mono ?_
        rintro e w1 ⟨rfl, hb1⟩
        simp only [encV, hc, if_true]
        clear hc
        go_wp2_with fail
        go_ret3
        exact ⟨by rw [hR.out]; rfl, hb1⟩
    · have e2 : (kind == 2) = false := intNe h2
      by_cases h3 : kind = 3
      · subst h3
        have hR := Lib.hid (show bodyT 3 es b = (⟨(lines21 es).toArray⟩, tyPlain, 0) from rfl)
        clear h1 h2 e1 e2
        go_enter Tryd.func23, Tryd.ntmps23
        go_wp2_with fail
        refine (plainEncode_any es _ _ hU hT hl hS).mono ?_
        rintro e w1 ⟨rfl, hb1⟩
        go_wp2_with fail
        go_ret3
        exact ⟨by rw [hR.out]; rfl, hb1⟩
      · have e3 : (kind == 3) = false := intNe h3
        have hR := Lib.hid (show bodyT kind es b = (⟨#[]⟩, ⟨#[]⟩, 3) by unfold bodyT; rw [if_neg h1, if_neg h2, if_neg h3])
        clear h1 h2 h3
        go_enter Tryd.func23, Tryd.ntmps23
        go_wp2_with fail
        go_ret3
        exact ⟨by rw [hR.out]; rfl, Below.refl _ _⟩
theorem three_of {W : World} {g : Nat} {a b c : Value} {t : TypeId} (h : W.heap[g]? = some (.cells #[a, b, c] t (0, 0))) :
    W.cell? ⟨g, 0, none⟩ = some a ∧ W.cell? ⟨g, 1, none⟩ = some b ∧ W.cell? ⟨g, 2, none⟩ = some c ∧ W.frozen? ⟨g, 0, none⟩ = false ∧ W.frozen? ⟨g, 1, none⟩ = false ∧ W.frozen? ⟨g, 2, none⟩ = false := by
  simp [World.cell?, World.frozen?, h]
theorem set3_heap {W : World} {g : Nat} {a0 b0 c0 : Value} {t : TypeId} (a b c : Value) (h : W.heap[g]? = some (.cells #[a0, b0, c0] t (0, 0))) :
    (((W.setCell ⟨g, 0, none⟩ a).setCell ⟨g, 1, none⟩ b).setCell ⟨g, 2, none⟩ c).heap[g]? = some (.cells #[a, b, c] t (0, 0)) := by
  rw [setCell_heap c (setCell_heap b (setCell_heap a h))]
  rfl
theorem set3_below {B : Nat} (W : World) (g : Nat) (a b c : Value) (hB : B ≤ g) : Below B W (((W.setCell ⟨g, 0, none⟩ a).setCell ⟨g, 1, none⟩ b).setCell ⟨g, 2, none⟩ c) :=
  (((Below.refl B W).setCell (p := ⟨g, 0, none⟩) hB a).setCell (p := ⟨g, 1, none⟩) hB b).setCell (p := ⟨g, 2, none⟩) hB c
set_option maxHeartbeats 2000000 in
set_option maxRecDepth 100000 in
theorem refOf_any (kind : Int) (es : List Ent) (u : Value) (b : ByteArray) (hbs : b.size ≤ 1000000) (hl : es.length ≤ 1000) (hS : ∀ x ∈ es, Brief x) (w : World) (hU : Ents es u w) :
    Calls Tryd.prog 24 #[.int .i64 kind, u, .string b] w fun e w' => e = .returned (.agg #[.string (bodyT kind es b).1, .string (bodyT kind es b).2.1, .int .i64 (bodyT kind es b).2.2]) ∧ Below w.heap.size w w' := by
  obtain ⟨a, cap, rfl⟩ := hU.len
  have hb0 := (Below.refl w.heap.size w).alloc (Nat.le_refl _) (.cells #[.string ⟨#[]⟩, .string ⟨#[]⟩, .int .i64 0] 41)
  have hn0 := Go.heap_alloc_new w (.cells #[.string ⟨#[]⟩, .string ⟨#[]⟩, .int .i64 0] 41)
  have hs0 : w.heap.size ≤ (w.alloc (.cells #[.string ⟨#[]⟩, .string ⟨#[]⟩, .int .i64 0] 41)).heap.size := hb0.size
  have hU0 := hU.kept hb0
  by_cases h1 : kind = 1
  · subst h1
    have hR := Lib.hid (show bodyT 1 es b = (⟨(encP (told es)).toArray⟩, tyForm, 0) from rfl)
    go_enter Tryd.func24, Tryd.ntmps24
    go_wp2_with fail
    generalize World.alloc _ _ = W0 at hb0 hn0 hU0 hs0 ⊢
    refine (refEncode19_any es _ _ hU0 hl hS).mono ?_
    rintro e w1 ⟨rfl, hb1⟩
    have hn1 := blk_kept hb1 hn0
    have hbb := bs hb0 hb1
    obtain ⟨x0, x1, x2, f0, f1, f2⟩ := three_of hn1
    go_wp2_with fail
    have z := set3_heap (.string ⟨(encP (told es)).toArray⟩) (.string ⟨#[97, 112, 112, 108, 105, 99, 97, 116, 105, 111, 110, 47, 120, 45, 119, 119, 119, 45, 102, 111, 114, 109, 45, 117, 114, 108, 101, 110, 99, 111, 100, 101, 100]⟩) (.int .i64 0) hn1
    have hb9 := hbb.trans (set3_below _ w.heap.size (.string ⟨(encP (told es)).toArray⟩) (.string ⟨#[97, 112, 112, 108, 105, 99, 97, 116, 105, 111, 110, 47, 120, 45, 119, 119, 119, 45, 102, 111, 114, 109, 45, 117, 114, 108, 101, 110, 99, 111, 100, 101, 100]⟩) (.int .i64 0) (Nat.le_refl w.heap.size))
    generalize World.setCell (World.setCell (World.setCell _ _ _) _ _) _ _ = W9 at z hb9 ⊢
    obtain ⟨y0, y1, y2, _, _, _⟩ := three_of z
    exact bodyPost_ret (v := .agg #[.string ⟨(encP (told es)).toArray⟩, .string ⟨#[97, 112, 112, 108, 105, 99, 97, 116, 105, 111, 110, 47, 120, 45, 119, 119, 119, 45, 102, 111, 114, 109, 45, 117, 114, 108, 101, 110, 99, 111, 100, 101, 100]⟩, .int .i64 0]) (by simp [results, Tryd.results24, go_sem, y0, y1, y2]) rfl ⟨by first | (rw [hR.out]; done) | (rw [hR.out]; rfl), hb9⟩
  · have e1 : (kind == 1) = false := intNe h1
    by_cases h2 : kind = 2
    · subst h2
      cases hc : clearB es b.data.toList
      · have hR := Lib.hid (show bodyT 2 es b = (⟨#[]⟩, ⟨#[]⟩, 10) by unfold bodyT; rw [if_neg (by decide), if_pos rfl, hc]; rfl)
        clear h1 e1
        go_enter Tryd.func24, Tryd.ntmps24
        go_wp2_with fail
        generalize World.alloc _ _ = W0 at hb0 hn0 hU0 hs0 ⊢
        refine (refPartsEncode_any es _ b (by omega) hl hS _ hU0).mono ?_
        rintro e w1 ⟨rfl, hb1⟩
        simp only [encV, hc, if_false, Bool.false_eq_true]
        have hn1 := blk_kept hb1 hn0
        have hbb := bs hb0 hb1
        obtain ⟨x0, x1, x2, f0, f1, f2⟩ := three_of hn1
        go_wp2_with fail
        have z := set3_heap (.string ⟨#[]⟩) (.string ⟨#[]⟩) (.int .i64 10) hn1
        have hb9 := hbb.trans (set3_below _ w.heap.size (.string ⟨#[]⟩) (.string ⟨#[]⟩) (.int .i64 10) (Nat.le_refl w.heap.size))
        generalize World.setCell (World.setCell (World.setCell _ _ _) _ _) _ _ = W9 at z hb9 ⊢
        obtain ⟨y0, y1, y2, _, _, _⟩ := three_of z
        exact bodyPost_ret (v := .agg #[.string ⟨#[]⟩, .string ⟨#[]⟩, .int .i64 10]) (by simp [results, Tryd.results24, go_sem, y0, y1, y2]) rfl ⟨by first | (rw [hR.out]; done) | (rw [hR.out]; rfl), hb9⟩
      · have hR := Lib.hid (show bodyT 2 es b = (⟨(encP20 b.data.toList es).toArray⟩, tyParts ++ b, 0) by unfold bodyT; rw [if_neg (by decide), if_pos rfl, hc]; rfl)
        clear h1 e1
        go_enter Tryd.func24, Tryd.ntmps24
        go_wp2_with fail
        generalize World.alloc _ _ = W0 at hb0 hn0 hU0 hs0 ⊢
        refine (refPartsEncode_any es _ b (by omega) hl hS _ hU0).mono ?_
        rintro e w1 ⟨rfl, hb1⟩
        simp only [encV, hc, if_true]
        clear hc
        have hn1 := blk_kept hb1 hn0
        have hbb := bs hb0 hb1
        obtain ⟨x0, x1, x2, f0, f1, f2⟩ := three_of hn1
        go_wp2_with fail
        have z := set3_heap (.string ⟨(encP20 b.data.toList es).toArray⟩) (.string (ByteArray.mk #[109, 117, 108, 116, 105, 112, 97, 114, 116, 47, 102, 111, 114, 109, 45, 100, 97, 116, 97, 59, 32, 98, 111, 117, 110, 100, 97, 114, 121, 61] ++ b)) (.int .i64 0) hn1
        have hb9 := hbb.trans (set3_below _ w.heap.size (.string ⟨(encP20 b.data.toList es).toArray⟩) (.string (ByteArray.mk #[109, 117, 108, 116, 105, 112, 97, 114, 116, 47, 102, 111, 114, 109, 45, 100, 97, 116, 97, 59, 32, 98, 111, 117, 110, 100, 97, 114, 121, 61] ++ b)) (.int .i64 0) (Nat.le_refl w.heap.size))
        generalize World.setCell (World.setCell (World.setCell _ _ _) _ _) _ _ = W9 at z hb9 ⊢
        obtain ⟨y0, y1, y2, _, _, _⟩ := three_of z
        exact bodyPost_ret (v := .agg #[.string ⟨(encP20 b.data.toList es).toArray⟩, .string (ByteArray.mk #[109, 117, 108, 116, 105, 112, 97, 114, 116, 47, 102, 111, 114, 109, 45, 100, 97, 116, 97, 59, 32, 98, 111, 117, 110, 100, 97, 114, 121, 61] ++ b), .int .i64 0]) (by simp [results, Tryd.results24, go_sem, y0, y1, y2]) rfl ⟨by first | (rw [hR.out]; done) | (rw [hR.out]; rfl), hb9⟩
    · have e2 : (kind == 2) = false := intNe h2
      by_cases h3 : kind = 3
      · subst h3
        have hR := Lib.hid (show bodyT 3 es b = (⟨(lines21 es).toArray⟩, tyPlain, 0) from rfl)
        clear h1 h2 e1 e2
        go_enter Tryd.func24, Tryd.ntmps24
        go_wp2_with fail
        generalize World.alloc _ _ = W0 at hb0 hn0 hU0 hs0 ⊢
        refine (refEncode21_any es _ _ hU0 hl hS).mono ?_
        rintro e w1 ⟨rfl, hb1⟩
        have hn1 := blk_kept hb1 hn0
        have hbb := bs hb0 hb1
        obtain ⟨x0, x1, x2, f0, f1, f2⟩ := three_of hn1
        go_wp2_with fail
        have z := set3_heap (.string ⟨(lines21 es).toArray⟩) (.string ⟨#[116, 101, 120, 116, 47, 112, 108, 97, 105, 110]⟩) (.int .i64 0) hn1
        have hb9 := hbb.trans (set3_below _ w.heap.size (.string ⟨(lines21 es).toArray⟩) (.string ⟨#[116, 101, 120, 116, 47, 112, 108, 97, 105, 110]⟩) (.int .i64 0) (Nat.le_refl w.heap.size))
        generalize World.setCell (World.setCell (World.setCell _ _ _) _ _) _ _ = W9 at z hb9 ⊢
        obtain ⟨y0, y1, y2, _, _, _⟩ := three_of z
        exact bodyPost_ret (v := .agg #[.string ⟨(lines21 es).toArray⟩, .string ⟨#[116, 101, 120, 116, 47, 112, 108, 97, 105, 110]⟩, .int .i64 0]) (by simp [results, Tryd.results24, go_sem, y0, y1, y2]) rfl ⟨by first | (rw [hR.out]; done) | (rw [hR.out]; rfl), hb9⟩
      · have e3 : (kind == 3) = false := intNe h3
        have hR := Lib.hid (show bodyT kind es b = (⟨#[]⟩, ⟨#[]⟩, 3) by unfold bodyT; rw [if_neg h1, if_neg h2, if_neg h3])
        clear h1 h2 h3
        go_enter Tryd.func24, Tryd.ntmps24
        go_upto_region 1 with fail
        generalize World.alloc _ _ = W0 at hb0 hn0 hU0 hs0 ⊢
        have hn1 := hn0
        have hbb := hb0
        obtain ⟨x0, x1, x2, f0, f1, f2⟩ := three_of hn1
        go_wp2_with fail
        have z := set3_heap (.string ⟨#[]⟩) (.string ⟨#[]⟩) (.int .i64 3) hn1
        have hb9 := hbb.trans (set3_below _ w.heap.size (.string ⟨#[]⟩) (.string ⟨#[]⟩) (.int .i64 3) (Nat.le_refl w.heap.size))
        generalize World.setCell (World.setCell (World.setCell _ _ _) _ _) _ _ = W9 at z hb9 ⊢
        obtain ⟨y0, y1, y2, _, _, _⟩ := three_of z
        exact bodyPost_ret (v := .agg #[.string ⟨#[]⟩, .string ⟨#[]⟩, .int .i64 3]) (by simp [results, Tryd.results24, go_sem, y0, y1, y2]) rfl ⟨by first | (rw [hR.out]; done) | (rw [hR.out]; rfl), hb9⟩
set_option maxHeartbeats 4000000 in
set_option maxRecDepth 100000 in
theorem plainBodies_walk (kind : Int) (es : List Ent) (u : Value) (b : ByteArray) (w : World) (_hk : (Lit.int .i64 kind).wf = true) (hU : Ents es u w) (_hb : b.size ≤ maxLen) (hT : Tables w) :
    Calls Tryd.prog 5 #[.int .i64 kind, u, .string b] w fun e w' => e = .returned (.bool true) ∧ Below w.heap.size w w' := by
  go_enter Tryd.func5, Tryd.ntmps5
  go_wp2_with fail
  refine (wakes21_any _ hT).mono ?_
  rintro e w1 ⟨rfl, hb1⟩
  have hU1 := hU.kept hb1
  have hT1 := hT.kept hb1
  go_wp2_with fail
  refine (long19_any es u _ hU1).mono ?_
  rintro e w' ⟨rfl, rfl⟩
  cases hl : longB es
  · obtain ⟨h60, hS⟩ := long21_no hl
    clear hl
    by_cases h1000 : b.size ≤ 1000
    · have hP' : decide ((1000 : Int) < (b.size : Int)) = false := by simp; omega
      have hown0 := OE.lit w1
      have hb2 := (Below.refl w1.heap.size w1).alloc (Nat.le_refl _) (.cells #[] 50)
      have hE2 := hU1.kept hb2
      have hs2 : w1.heap.size ≤ (w1.alloc (.cells #[] 50)).heap.size := hb2.size
      obtain ⟨a, cap, rfl⟩ := hU.len
      have hne0 : Value.slice (some ⟨w1.heap.size, 0, none⟩) 0 0 ≠ .slice none 0 0 := by simp
      have hl0 : ([] : List Ent).length + es.length < 1000000000 := by rw [List.length_nil]; omega
      go_wp2_with (at_builtin; refine wpList_append_ents rfl _ _ rfl rfl rfl hE2 hown0 hl0 hs2 hne0 ?_; intro v3 w3 hown3 hne3 hb3)
      have hb03 : Below w1.heap.size w1 w3 := hb2.trans hb3
      rw [List.nil_append] at hown3
      have hO3 := hown3.ents
      have hE3 := hU1.kept hb03
      have hT3 := hT1.kept hb03
      clear hown3 hown0 hb2 hb3 hE2 hne0 hs2
      refine (body_any kind es v3 b (by omega) (by omega) hS _ hO3 hT3).mono ?_
      rintro e w4 ⟨rfl, hb4⟩
      have hE4 := hE3.kept hb4
      have hB := Lib.hid (Eq.refl (bodyT kind es b))
      revert hB
      generalize hG : bodyT kind es b = T
      intro _
      have HG := Lib.hid hG
      clear hG
      obtain ⟨x, y, n⟩ := T
      simp only
      go_wp2_with fail
      refine (refOf_any kind es _ b (by omega) (by omega) hS _ hE4).mono ?_
      rintro e w5 ⟨rfl, hb5⟩
      rw [HG.out]
      go_wp2_with fail
      go_ret
      exact ⟨rfl, bs (bs (bs hb1 hb03) hb4) (hb5.trans ((Below.refl w5.heap.size w5).alloc (Nat.le_refl _) _ |>.mono hb5.size))⟩
    · have hP' : (1000 : Int) < (b.size : Int) := by omega
      go_wp2_with fail
      go_ret
      exact ⟨rfl, hb1⟩
  · go_wp2_with fail
    go_ret
    exact ⟨rfl, hb1⟩
end Go.Proofs.YtapbljaohhcpoaaDoor
