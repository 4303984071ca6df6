import Derived.Test.YtafbghlldlconaaGreatDoorPart14
import Derived.Test.YtafbghlldlconaaGreatDoorPart15
import Derived.Test.YtafbghlldlconaaGreatDoorPart3
import Derived.Test.YtafbghlldlconaaGreatDoorPart9
import Derived.Test.YtafbghlldlconaaGreatDoorPart10
import Derived.StillTail
import Derived.Orders
import Derived.Test.YtafbghlldlconaaGreatDoorPart7
import Derived.Deep.RegionWith
import Derived.Test.YtafbghlldlconaaGreatDoorPart2
/-
  Entries as a body: plain.Body, ref21.Of; the law PlainBodies: the walks.
-/
namespace Go.Proofs.YtafbghlldlconaaGreatDoor
set_option linter.unusedVariables false
set_option linter.unusedSimpArgs false
open Go.RowKit PT

def tyForm : ByteArray := ⟨#[97, 112, 112, 108, 105, 99, 97, 116, 105, 111, 110, 47, 120, 45, 119, 119, 119, 45, 102, 111, 114, 109, 45, 117, 114, 108, 101, 110, 99, 111, 100, 101, 100]⟩
def tyParts : ByteArray := ⟨#[109, 117, 108, 116, 105, 112, 97, 114, 116, 47, 102, 111, 114, 109, 45, 100, 97, 116, 97, 59, 32, 98, 111, 117, 110, 100, 97, 114, 121, 61]⟩
def tyPlain : ByteArray := ⟨#[116, 101, 120, 116, 47, 112, 108, 97, 105, 110]⟩
/-- a body, its type, the error -/
def bodyT (kind : Int) (es : List Ent) (b : ByteArray) : ByteArray × ByteArray × Int :=
  if kind = 1 then (⟨(encP (told es)).toArray⟩, tyForm, 0)
  else if kind = 2 then (if clearB es b.data.toList then (⟨(encP20 b.data.toList es).toArray⟩, tyParts ++ b, 0) else (⟨#[]⟩, ⟨#[]⟩, 10))
  else if kind = 3 then (⟨(lines21 es).toArray⟩, tyPlain, 0) else (⟨#[]⟩, ⟨#[]⟩, 3)
theorem brief_short {x : Ent} (h : Brief x) : Short x := h
set_option maxHeartbeats 2000000 in
set_option maxRecDepth 100000 in
theorem body_any (kind : Int) (es : List Ent) (u : Value) (b : ByteArray) (hbs : b.size ≤ 1000000) (hl : es.length ≤ 1000) (hS : ∀ x ∈ es, Brief x) (w : World) (hU : Ents es u w) (hT : Tables w) :
    Calls Tryz.prog 27 #[.int .i64 kind, u, .string b] w fun e w' => e = .returned (.tuple #[.string (bodyT kind es b).1, .string (bodyT kind es b).2.1, .int .i64 (bodyT kind es b).2.2]) ∧ Below w.heap.size w w' := by
  obtain ⟨a, cap, rfl⟩ := hU.len
  by_cases h1 : kind = 1
  · subst h1
    have hR := Lib.hid (show bodyT 1 es b = (⟨(encP (told es)).toArray⟩, tyForm, 0) from rfl)
    go_enter Tryz.func27, Tryz.ntmps27
    go_wp2_with fail
    refine (urlEncode_any es _ _ hU hT hl hS).mono ?_
    rintro e w1 ⟨rfl, hb1⟩
    go_wp2_with fail
    go_ret3
    exact ⟨by rw [hR.out]; rfl, hb1⟩
  · have e1 : (kind == 1) = false := intNe h1
    by_cases h2 : kind = 2
    · subst h2
      cases hc : clearB es b.data.toList
      · have hR := Lib.hid (show bodyT 2 es b = (⟨#[]⟩, ⟨#[]⟩, 10) by unfold bodyT; rw [if_neg (by decide), if_pos rfl, hc]; rfl)
        clear h1 e1
        go_enter Tryz.func27, Tryz.ntmps27
        go_wp2_with fail
        refine (partsEncode_any es _ b hl hS _ hU hT).mono ?_
        rintro e w1 ⟨rfl, hb1⟩
        simp only [encV, hc, if_false, Bool.false_eq_true]
        go_wp2_with fail
        go_ret3
        exact ⟨by rw [hR.out]; rfl, hb1⟩
      · have hR := Lib.hid (show bodyT 2 es b = (⟨(encP20 b.data.toList es).toArray⟩, tyParts ++ b, 0) by unfold bodyT; rw [if_neg (by decide), if_pos rfl, hc]; rfl)
        clear h1 e1
        go_enter Tryz.func27, Tryz.ntmps27
        go_wp2_with fail
        refine (partsEncode_any es _ b hl hS _ hU hT).mono ?_
        rintro e w1 ⟨rfl, hb1⟩
        simp only [encV, hc, if_true]
        clear hc
        go_wp2_with fail
        go_ret3
        exact ⟨by rw [hR.out]; rfl, hb1⟩
    · have e2 : (kind == 2) = false := intNe h2
      by_cases h3 : kind = 3
      · subst h3
        have hR := Lib.hid (show bodyT 3 es b = (⟨(lines21 es).toArray⟩, tyPlain, 0) from rfl)
        clear h1 h2 e1 e2
        go_enter Tryz.func27, Tryz.ntmps27
        go_wp2_with fail
        refine (plainEncode_any es _ _ hU hT hl hS).mono ?_
        rintro e w1 ⟨rfl, hb1⟩
        go_wp2_with fail
        go_ret3
        exact ⟨by rw [hR.out]; rfl, hb1⟩
      · have e3 : (kind == 3) = false := intNe h3
        have hR := Lib.hid (show bodyT kind es b = (⟨#[]⟩, ⟨#[]⟩, 3) by unfold bodyT; rw [if_neg h1, if_neg h2, if_neg h3])
        clear h1 h2 h3
        go_enter Tryz.func27, Tryz.ntmps27
        go_wp2_with fail
        go_ret3
        exact ⟨by rw [hR.out]; rfl, Below.refl _ _⟩
theorem three_of {W : World} {g : Nat} {a b c : Value} {t : TypeId} (h : W.heap[g]? = some (.cells #[a, b, c] t (0, 0))) :
    W.cell? ⟨g, 0, none⟩ = some a ∧ W.cell? ⟨g, 1, none⟩ = some b ∧ W.cell? ⟨g, 2, none⟩ = some c ∧ W.frozen? ⟨g, 0, none⟩ = false ∧ W.frozen? ⟨g, 1, none⟩ = false ∧ W.frozen? ⟨g, 2, none⟩ = false := by
  simp [World.cell?, World.frozen?, h]
theorem set3_heap {W : World} {g : Nat} {a0 b0 c0 : Value} {t : TypeId} (a b c : Value) (h : W.heap[g]? = some (.cells #[a0, b0, c0] t (0, 0))) :
    (((W.setCell ⟨g, 0, none⟩ a).setCell ⟨g, 1, none⟩ b).setCell ⟨g, 2, none⟩ c).heap[g]? = some (.cells #[a, b, c] t (0, 0)) := by
  rw [setCell_heap c (setCell_heap b (setCell_heap a h))]
  rfl
theorem set3_below {B : Nat} (W : World) (g : Nat) (a b c : Value) (hB : B ≤ g) : Below B W (((W.setCell ⟨g, 0, none⟩ a).setCell ⟨g, 1, none⟩ b).setCell ⟨g, 2, none⟩ c) :=
  (((Below.refl B W).setCell (p := ⟨g, 0, none⟩) hB a).setCell (p := ⟨g, 1, none⟩) hB b).setCell (p := ⟨g, 2, none⟩) hB c
set_option maxHeartbeats 2000000 in
set_option maxRecDepth 100000 in
theorem refOf_any (kind : Int) (es : List Ent) (u : Value) (b : ByteArray) (hbs : b.size ≤ 1000000) (hl : es.length ≤ 1000) (hS : ∀ x ∈ es, Brief x) (w : World) (hU : Ents es u w) :
    Calls Tryz.prog 40 #[.int .i64 kind, u, .string b] w fun e w' => e = .returned (.agg #[.string (bodyT kind es b).1, .string (bodyT kind es b).2.1, .int .i64 (bodyT kind es b).2.2]) ∧ Below w.heap.size w w' := by
  obtain ⟨a, cap, rfl⟩ := hU.len
  have hb0 := (Below.refl w.heap.size w).alloc (Nat.le_refl _) (.cells #[.string ⟨#[]⟩, .string ⟨#[]⟩, .int .i64 0] 70)
  have hn0 := Go.heap_alloc_new w (.cells #[.string ⟨#[]⟩, .string ⟨#[]⟩, .int .i64 0] 70)
  have hs0 : w.heap.size ≤ (w.alloc (.cells #[.string ⟨#[]⟩, .string ⟨#[]⟩, .int .i64 0] 70)).heap.size := hb0.size
  have hU0 := hU.kept hb0
  by_cases h1 : kind = 1
  · subst h1
    have hR := Lib.hid (show bodyT 1 es b = (⟨(encP (told es)).toArray⟩, tyForm, 0) from rfl)
    go_enter Tryz.func40, Tryz.ntmps40
    go_wp2_with fail
    generalize World.alloc _ _ = W0 at hb0 hn0 hU0 hs0 ⊢
    refine (refEncode19_any es _ _ hU0 hl hS).mono ?_
    rintro e w1 ⟨rfl, hb1⟩
    have hn1 := blk_kept hb1 hn0
    have hbb := bs hb0 hb1
    obtain ⟨x0, x1, x2, f0, f1, f2⟩ := three_of hn1
    go_wp2_with fail
    have z := set3_heap (.string ⟨(encP (told es)).toArray⟩) (.string ⟨#[97, 112, 112, 108, 105, 99, 97, 116, 105, 111, 110, 47, 120, 45, 119, 119, 119, 45, 102, 111, 114, 109, 45, 117, 114, 108, 101, 110, 99, 111, 100, 101, 100]⟩) (.int .i64 0) hn1
    have hb9 := hbb.trans (set3_below _ w.heap.size (.string ⟨(encP (told es)).toArray⟩) (.string ⟨#[97, 112, 112, 108, 105, 99, 97, 116, 105, 111, 110, 47, 120, 45, 119, 119, 119, 45, 102, 111, 114, 109, 45, 117, 114, 108, 101, 110, 99, 111, 100, 101, 100]⟩) (.int .i64 0) (Nat.le_refl w.heap.size))
    generalize World.setCell (World.setCell (World.setCell _ _ _) _ _) _ _ = W9 at z hb9 ⊢
    obtain ⟨y0, y1, y2, _, _, _⟩ := three_of z
    exact bodyPost_ret (v := .agg #[.string ⟨(encP (told es)).toArray⟩, .string ⟨#[97, 112, 112, 108, 105, 99, 97, 116, 105, 111, 110, 47, 120, 45, 119, 119, 119, 45, 102, 111, 114, 109, 45, 117, 114, 108, 101, 110, 99, 111, 100, 101, 100]⟩, .int .i64 0]) (by simp [results, Tryz.results40, go_sem, y0, y1, y2]) rfl ⟨by first | (rw [hR.out]; done) | (rw [hR.out]; rfl), hb9⟩
  · have e1 : (kind == 1) = false := intNe h1
    by_cases h2 : kind = 2
    · subst h2
      cases hc : clearB es b.data.toList
      · have hR := Lib.hid (show bodyT 2 es b = (⟨#[]⟩, ⟨#[]⟩, 10) by unfold bodyT; rw [if_neg (by decide), if_pos rfl, hc]; rfl)
        clear h1 e1
        go_enter Tryz.func40, Tryz.ntmps40
        go_wp2_with fail
        generalize World.alloc _ _ = W0 at hb0 hn0 hU0 hs0 ⊢
        refine (refPartsEncode_any es _ b (by omega) hl hS _ hU0).mono ?_
        rintro e w1 ⟨rfl, hb1⟩
        simp only [encV, hc, if_false, Bool.false_eq_true]
        have hn1 := blk_kept hb1 hn0
        have hbb := bs hb0 hb1
        obtain ⟨x0, x1, x2, f0, f1, f2⟩ := three_of hn1
        go_wp2_with fail
        have z := set3_heap (.string ⟨#[]⟩) (.string ⟨#[]⟩) (.int .i64 10) hn1
        have hb9 := hbb.trans (set3_below _ w.heap.size (.string ⟨#[]⟩) (.string ⟨#[]⟩) (.int .i64 10) (Nat.le_refl w.heap.size))
        generalize World.setCell (World.setCell (World.setCell _ _ _) _ _) _ _ = W9 at z hb9 ⊢
        obtain ⟨y0, y1, y2, _, _, _⟩ := three_of z
        exact bodyPost_ret (v := .agg #[.string ⟨#[]⟩, .string ⟨#[]⟩, .int .i64 10]) (by simp [results, Tryz.results40, go_sem, y0, y1, y2]) rfl ⟨by first | (rw [hR.out]; done) | (rw [hR.out]; rfl), hb9⟩
      · have hR := Lib.hid (show bodyT 2 es b = (⟨(encP20 b.data.toList es).toArray⟩, tyParts ++ b, 0) by unfold bodyT; rw [if_neg (by decide), if_pos rfl, hc]; rfl)
        clear h1 e1
        go_enter Tryz.func40, Tryz.ntmps40
        go_wp2_with fail
        generalize World.alloc _ _ = W0 at hb0 hn0 hU0 hs0 ⊢
        refine (refPartsEncode_any es _ b (by omega) hl hS _ hU0).mono ?_
        rintro e w1 ⟨rfl, hb1⟩
        simp only [encV, hc, if_true]
        clear hc
        have hn1 := blk_kept hb1 hn0
        have hbb := bs hb0 hb1
        obtain ⟨x0, x1, x2, f0, f1, f2⟩ := three_of hn1
        go_wp2_with fail
        have z := set3_heap (.string ⟨(encP20 b.data.toList es).toArray⟩) (.string (ByteArray.mk #[109, 117, 108, 116, 105, 112, 97, 114, 116, 47, 102, 111, 114, 109, 45, 100, 97, 116, 97, 59, 32, 98, 111, 117, 110, 100, 97, 114, 121, 61] ++ b)) (.int .i64 0) hn1
        have hb9 := hbb.trans (set3_below _ w.heap.size (.string ⟨(encP20 b.data.toList es).toArray⟩) (.string (ByteArray.mk #[109, 117, 108, 116, 105, 112, 97, 114, 116, 47, 102, 111, 114, 109, 45, 100, 97, 116, 97, 59, 32, 98, 111, 117, 110, 100, 97, 114, 121, 61] ++ b)) (.int .i64 0) (Nat.le_refl w.heap.size))
        generalize World.setCell (World.setCell (World.setCell _ _ _) _ _) _ _ = W9 at z hb9 ⊢
        obtain ⟨y0, y1, y2, _, _, _⟩ := three_of z
        exact bodyPost_ret (v := .agg #[.string ⟨(encP20 b.data.toList es).toArray⟩, .string (ByteArray.mk #[109, 117, 108, 116, 105, 112, 97, 114, 116, 47, 102, 111, 114, 109, 45, 100, 97, 116, 97, 59, 32, 98, 111, 117, 110, 100, 97, 114, 121, 61] ++ b), .int .i64 0]) (by simp [results, Tryz.results40, go_sem, y0, y1, y2]) rfl ⟨by first | (rw [hR.out]; done) | (rw [hR.out]; rfl), hb9⟩
    · have e2 : (kind == 2) = false := intNe h2
      by_cases h3 : kind = 3
      · subst h3
        have hR := Lib.hid (show bodyT 3 es b = (⟨(lines21 es).toArray⟩, tyPlain, 0) from rfl)
        clear h1 h2 e1 e2
        go_enter Tryz.func40, Tryz.ntmps40
        go_wp2_with fail
        generalize World.alloc _ _ = W0 at hb0 hn0 hU0 hs0 ⊢
        refine (refEncode21_any es _ _ hU0 hl hS).mono ?_
        rintro e w1 ⟨rfl, hb1⟩
        have hn1 := blk_kept hb1 hn0
        have hbb := bs hb0 hb1
        obtain ⟨x0, x1, x2, f0, f1, f2⟩ := three_of hn1
        go_wp2_with fail
        have z := set3_heap (.string ⟨(lines21 es).toArray⟩) (.string ⟨#[116, 101, 120, 116, 47, 112, 108, 97, 105, 110]⟩) (.int .i64 0) hn1
        have hb9 := hbb.trans (set3_below _ w.heap.size (.string ⟨(lines21 es).toArray⟩) (.string ⟨#[116, 101, 120, 116, 47, 112, 108, 97, 105, 110]⟩) (.int .i64 0) (Nat.le_refl w.heap.size))
        generalize World.setCell (World.setCell (World.setCell _ _ _) _ _) _ _ = W9 at z hb9 ⊢
        obtain ⟨y0, y1, y2, _, _, _⟩ := three_of z
        exact bodyPost_ret (v := .agg #[.string ⟨(lines21 es).toArray⟩, .string ⟨#[116, 101, 120, 116, 47, 112, 108, 97, 105, 110]⟩, .int .i64 0]) (by simp [results, Tryz.results40, go_sem, y0, y1, y2]) rfl ⟨by first | (rw [hR.out]; done) | (rw [hR.out]; rfl), hb9⟩
      · have e3 : (kind == 3) = false := intNe h3
        have hR := Lib.hid (show bodyT kind es b = (⟨#[]⟩, ⟨#[]⟩, 3) by unfold bodyT; rw [if_neg h1, if_neg h2, if_neg h3])
        clear h1 h2 h3
        go_enter Tryz.func40, Tryz.ntmps40
        go_upto_region 1 with fail
        generalize World.alloc _ _ = W0 at hb0 hn0 hU0 hs0 ⊢
        have hn1 := hn0
        have hbb := hb0
        obtain ⟨x0, x1, x2, f0, f1, f2⟩ := three_of hn1
        go_wp2_with fail
        have z := set3_heap (.string ⟨#[]⟩) (.string ⟨#[]⟩) (.int .i64 3) hn1
        have hb9 := hbb.trans (set3_below _ w.heap.size (.string ⟨#[]⟩) (.string ⟨#[]⟩) (.int .i64 3) (Nat.le_refl w.heap.size))
        generalize World.setCell (World.setCell (World.setCell _ _ _) _ _) _ _ = W9 at z hb9 ⊢
        obtain ⟨y0, y1, y2, _, _, _⟩ := three_of z
        exact bodyPost_ret (v := .agg #[.string ⟨#[]⟩, .string ⟨#[]⟩, .int .i64 3]) (by simp [results, Tryz.results40, go_sem, y0, y1, y2]) rfl ⟨by first | (rw [hR.out]; done) | (rw [hR.out]; rfl), hb9⟩
end Go.Proofs.YtafbghlldlconaaGreatDoor

/-
  WHAT A FORM ASKS FOR: submit.Make: the walk.
-/
namespace Go.Proofs.YtafbghlldlconaaGreatDoor
set_option linter.unusedVariables false
set_option linter.unusedSimpArgs false
open Go.RowKit PT

structure Pl where
  m : ByteArray
  a : ByteArray
  t : ByteArray
  b : ByteArray
  y : ByteArray
def plV (p : Pl) : Value := .agg #[.string p.m, .string p.a, .string p.t, .string p.b, .string p.y]
def noPl : Pl := ⟨⟨#[]⟩, ⟨#[]⟩, ⟨#[]⟩, ⟨#[]⟩, ⟨#[]⟩⟩
def qryS (a : ByteArray) (es : List Ent) : ByteArray := ⟨(qry a.data.toList (encP (told es))).toArray⟩
/-- the plan, and the error -/
noncomputable def planP (l : List Nd) (cs : List Ct) (f s : Int) (es : List Ent) (X : List (List UInt8)) : Pl × Int :=
  if okD l cs = false ∨ hasB l f = false then (noPl, 4)
  else if kOf l f ≠ 30 then (noPl, 3)
  else if methF l f s = ⟨#[103, 101, 116]⟩ then (⟨methF l f s, qryS (setS l f s ⟨#[102, 111, 114, 109, 97, 99, 116, 105, 111, 110]⟩ ⟨#[97, 99, 116, 105, 111, 110]⟩) es, setS l f s ⟨#[102, 111, 114, 109, 116, 97, 114, 103, 101, 116]⟩ ⟨#[116, 97, 114, 103, 101, 116]⟩, ⟨#[]⟩, ⟨#[]⟩⟩, 0)
  else if methF l f s = ⟨#[100, 105, 97, 108, 111, 103]⟩ then (⟨methF l f s, ⟨#[]⟩, setS l f s ⟨#[102, 111, 114, 109, 116, 97, 114, 103, 101, 116]⟩ ⟨#[116, 97, 114, 103, 101, 116]⟩, if fireB l s = true then valDO l cs s else ⟨#[]⟩, ⟨#[]⟩⟩, 0)
  else if kinF l f s = 2 then (match chosen es X with
    | none => (noPl, 10)
    | some b => (⟨methF l f s, setS l f s ⟨#[102, 111, 114, 109, 97, 99, 116, 105, 111, 110]⟩ ⟨#[97, 99, 116, 105, 111, 110]⟩, setS l f s ⟨#[102, 111, 114, 109, 116, 97, 114, 103, 101, 116]⟩ ⟨#[116, 97, 114, 103, 101, 116]⟩, (bodyT 2 es ⟨b.toArray⟩).1, (bodyT 2 es ⟨b.toArray⟩).2.1⟩, 0))
  else (⟨methF l f s, setS l f s ⟨#[102, 111, 114, 109, 97, 99, 116, 105, 111, 110]⟩ ⟨#[97, 99, 116, 105, 111, 110]⟩, setS l f s ⟨#[102, 111, 114, 109, 116, 97, 114, 103, 101, 116]⟩ ⟨#[116, 97, 114, 103, 101, 116]⟩, (bodyT (kinF l f s) es ⟨#[]⟩).1, (bodyT (kinF l f s) es ⟨#[]⟩).2.1⟩, 0)
def mkV (p : Pl × Int) : Value := .tuple #[plV p.1, .int .i64 p.2]
theorem chosen_size {es : List Ent} {X : List (List UInt8)} {c : List UInt8} (h : chosen es X = some c) : c.length ≤ 70 ∧ clearB es c = true := by
  unfold chosen at h
  have h1 := List.find?_some h
  refine ⟨?_, h1⟩
  unfold clearB fitB at h1
  simp only [Bool.and_eq_true, decide_eq_true_eq] at h1
  omega
theorem fire_kind {l : List Nd} {s : Int} (h : fireB l s = true) : kOf l s ≠ 23 ∧ kOf l s ≠ 18 := by
  obtain ⟨h0, h1⟩ := fireB_in h
  unfold fireB at h
  rw [kindF_in h0 h1] at h
  refine ⟨fun e => ?_, fun e => ?_⟩ <;> rw [e] at h <;> revert h <;> decide
theorem get_toList : (⟨#[103, 101, 116]⟩ : ByteArray).toList = [103, 101, 116] := by rw [ByteArray.toList_eq]
theorem dia24_toList : (⟨#[100, 105, 97, 108, 111, 103]⟩ : ByteArray).toList = [100, 105, 97, 108, 111, 103] := by rw [ByteArray.toList_eq]
/-- a store into another block -/
theorem set5_other {W : World} {g k : Nat} {o : Option Obj} (a b c d e : Value) (hne : g ≠ k) (h : W.heap[k]? = o) :
    (((((W.setCell ⟨g, 0, none⟩ a).setCell ⟨g, 1, none⟩ b).setCell ⟨g, 2, none⟩ c).setCell ⟨g, 3, none⟩ d).setCell ⟨g, 4, none⟩ e).heap[k]? = o := by
  rw [← h]
  simp [World.setCell, Array.getElem?_modify, hne]
theorem set1_other {W : World} {g k i : Nat} {o : Option Obj} (a : Value) (hne : g ≠ k) (h : W.heap[k]? = o) : (W.setCell ⟨g, i, none⟩ a).heap[k]? = o := by
  rw [← h]
  simp [World.setCell, Array.getElem?_modify, hne]
set_option maxHeartbeats 4000000 in
set_option maxRecDepth 100000 in
theorem make_any (l : List Nd) (cs : List Ct) (vn vc : Value) (f s : Int) (es : List Ent) (u : Value) (X : List (List UInt8)) (v : Value) (hl : es.length ≤ 1000) (hS : ∀ x ∈ es, Brief x) (hXl : X.length ≤ 9223372036854775806) (w : World) (hD : DocAt l cs vn vc w) (hU : Ents es u w) (hV : Txts X v w) (hT : Tables w) :
    Calls Tryz.prog 7 #[.agg #[vn, vc], .int .i64 f, .int .i64 s, u, v] w fun e w' => e = .returned (mkV (planP l cs f s es X)) ∧ Below w.heap.size w w' := by
  have hmax := hD.nodes.len
  have hfits := hD.nodes.fits
  obtain ⟨a1, cap1, rfl⟩ := hD.nodes.nodes.len
  obtain ⟨a2, cap2, rfl⟩ := hD.ctls.len
  obtain ⟨hD1, hb1, hs1, c0, c1⟩ := doc_box (T := 25) hD
  obtain ⟨pp, hpp⟩ : ∃ pp, planP l cs f s es X = pp := ⟨_, rfl⟩
  rw [hpp]
  unfold planP at hpp
  have hP := hpp.symm
  clear hpp
  obtain ⟨W1, hW1⟩ : ∃ W1, W1 = w.alloc (.cells #[.slice a1 l.length cap1, .slice a2 cs.length cap2] 25) := ⟨_, rfl⟩
  rw [← hW1] at hD1 hb1 hs1 c0 c1
  have hbA := one_allocV (w := W1) (.cells #[.string ⟨#[]⟩, .string ⟨#[]⟩, .string ⟨#[]⟩, .string ⟨#[]⟩, .string ⟨#[]⟩] 33)
  have hn0 := Go.heap_alloc_new W1 (.cells #[.string ⟨#[]⟩, .string ⟨#[]⟩, .string ⟨#[]⟩, .string ⟨#[]⟩, .string ⟨#[]⟩] 33)
  have hs2 : (W1.alloc (.cells #[.string ⟨#[]⟩, .string ⟨#[]⟩, .string ⟨#[]⟩, .string ⟨#[]⟩, .string ⟨#[]⟩] 33)).heap.size = W1.heap.size + 1 := by simp
  obtain ⟨W2, hW2⟩ : ∃ W2, W2 = W1.alloc (.cells #[.string ⟨#[]⟩, .string ⟨#[]⟩, .string ⟨#[]⟩, .string ⟨#[]⟩, .string ⟨#[]⟩] 33) := ⟨_, rfl⟩
  rw [← hW2] at hbA hn0 hs2
  rw [hs1] at hn0 hs2
  have d0 := cellK hbA (by omega) c0
  have d1 := cellK hbA (by omega) c1
  have hD2 := hD1.kept hbA
  have hb2 := bs hb1 hbA
  have HW1 := Lib.hid hW1
  have HW2 := Lib.hid hW2
  clear hW1 hW2
  have hU2 := hU.kept hb2
  have hV2 := hV.kept hb2
  have hT2 := hT.kept hb2
  cases hk : okD l cs
  · have hR := Lib.hid (hP.trans (if_pos (.inl hk)))
    have HK := Lib.hid hk
    clear hk hP
    go_enter Tryz.func7, Tryz.ntmps7
    go_wp2_with fail
    rw [← HW1.out, ← HW2.out]
    refine (optRight_any l cs _ _ _ hD2).mono ?_
    rintro e w3 ⟨rfl, hb3⟩
    rw [HK.out]
    have hn1 := blk_kept hb3 hn0
    have hbb := bs hb2 hb3
    obtain ⟨x0, x1, x2, x3, x4, f0, f1, f2, f3, f4⟩ := five_of hn1
    go_wp2_with fail
    have z := set5_heap (.string ⟨#[]⟩) (.string ⟨#[]⟩) (.string ⟨#[]⟩) (.string ⟨#[]⟩) (.string ⟨#[]⟩) hn1
    have hb9 := hbb.trans (set5_below _ (w.heap.size + 1) (.string ⟨#[]⟩) (.string ⟨#[]⟩) (.string ⟨#[]⟩) (.string ⟨#[]⟩) (.string ⟨#[]⟩) (show w.heap.size ≤ w.heap.size + 1 by omega))
    generalize World.setCell (World.setCell (World.setCell (World.setCell (World.setCell _ _ _) _ _) _ _) _ _) _ _ = W9 at z hb9 ⊢
    obtain ⟨y0, y1, y2, y3, y4, _, _, _, _, _⟩ := five_of z
    exact bodyPost_ret (v := .tuple #[.agg #[.string ⟨#[]⟩, .string ⟨#[]⟩, .string ⟨#[]⟩, .string ⟨#[]⟩, .string ⟨#[]⟩], .int .i64 4]) (by simp [results, Tryz.results7, go_sem, y0, y1, y2, y3, y4]) rfl ⟨by rw [hR.out]; rfl, hb9⟩
  obtain ⟨hRP, hll⟩ := okD_iff.1 hk
  have HK := Lib.hid hk
  have HLL := Lib.hid hll
  clear hll
  cases hh : hasB l f
  · have hR := Lib.hid (hP.trans (if_pos (.inr hh)))
    have HH := Lib.hid hh
    clear hk hP hh
    go_enter Tryz.func7, Tryz.ntmps7
    go_wp2_with fail
    rw [← HW1.out, ← HW2.out]
    refine (optRight_any l cs _ _ _ hD2).mono ?_
    rintro e w3 ⟨rfl, hb3⟩
    rw [HK.out]
    have e0 := cellK hb3 (by omega) d0
    have hD3 := hD2.kept hb3
    go_wp2_with fail
    refine (there_any l _ f hmax hfits _ hD3.nodes.nodes).mono ?_
    rintro e w4 ⟨rfl, hb4⟩
    rw [HH.out]
    have hb24 := bs hb3 hb4
    have hn1 := blk_kept hb24 hn0
    have hbb := bs hb2 hb24
    obtain ⟨x0, x1, x2, x3, x4, f0, f1, f2, f3, f4⟩ := five_of hn1
    go_wp2_with fail
    have z := set5_heap (.string ⟨#[]⟩) (.string ⟨#[]⟩) (.string ⟨#[]⟩) (.string ⟨#[]⟩) (.string ⟨#[]⟩) hn1
    have hb9 := hbb.trans (set5_below _ (w.heap.size + 1) (.string ⟨#[]⟩) (.string ⟨#[]⟩) (.string ⟨#[]⟩) (.string ⟨#[]⟩) (.string ⟨#[]⟩) (show w.heap.size ≤ w.heap.size + 1 by omega))
    generalize World.setCell (World.setCell (World.setCell (World.setCell (World.setCell _ _ _) _ _) _ _) _ _) _ _ = W9 at z hb9 ⊢
    obtain ⟨y0, y1, y2, y3, y4, _, _, _, _, _⟩ := five_of z
    exact bodyPost_ret (v := .tuple #[.agg #[.string ⟨#[]⟩, .string ⟨#[]⟩, .string ⟨#[]⟩, .string ⟨#[]⟩, .string ⟨#[]⟩], .int .i64 4]) (by simp [results, Tryz.results7, go_sem, y0, y1, y2, y3, y4]) rfl ⟨by rw [hR.out]; rfl, hb9⟩
  have HH := Lib.hid hh
  obtain ⟨h0, h1, _⟩ := (hasB_iff l f).1 hh
  replace hP := hP.trans (if_neg (fun h => by
    rcases h with h | h
    · rw [hk] at h; cases h
    · rw [hh] at h; cases h))
  have hsA := setS_size hRP f s ⟨#[102, 111, 114, 109, 97, 99, 116, 105, 111, 110]⟩ ⟨#[97, 99, 116, 105, 111, 110]⟩
  have hvals := hRP.vals
  obtain ⟨K, rfl⟩ := Int.eq_ofNat_of_zero_le h0
  have hkl : K < l.length := by omega
  rw [kOf_at hkl] at hP
  obtain ⟨b, o, cap', va, vk, hv, hb, e0, e1, e2, e3, e4, hat, hks⟩ := hD2.nodes.nodes.at hkl
  cases hv
  obtain ⟨z1, z2⟩ := hvals _ (List.getElem_mem hkl)
  generalize l[K] = nd at *
  obtain ⟨a5, c5, rfl⟩ := hat.len
  obtain ⟨a6, c6, rfl⟩ := hks.len
  have hK0 : (0 : Int) ≤ (K : Int) := by omega
  have hK1 : (K : Int) < (l.length : Int) := by omega
  obtain ⟨kk, hkk⟩ : ∃ kk, kindOf nd = kk := ⟨_, rfl⟩
  rw [hkk] at hP
  have HKK := Lib.hid hkk
  clear hk hh hkk h0 h1
  have hg2 := hb2.size
  by_cases h30 : kk = 30
  case neg =>
    have hR := Lib.hid (hP.trans (if_pos h30))
    have q30 : (kk != 30) = true := by rw [bne, intNe h30]; rfl
    clear hP h30
    go_enter Tryz.func7, Tryz.ntmps7
    go_wp2_with fail
    rw [← HW1.out, ← HW2.out]
    refine (optRight_any l cs _ _ _ hD2).mono ?_
    rintro e w3 ⟨rfl, hb3⟩
    rw [HK.out]
    have i0 := cellK hb3 (by omega) d0
    have hD3 := hD2.kept hb3
    go_wp2_with fail
    refine (there_any l _ (K : Nat) hmax hfits _ hD3.nodes.nodes).mono ?_
    rintro e w4 ⟨rfl, hb4⟩
    rw [HH.out]
    have hb24 := bs hb3 hb4
    have hD4 := hD2.kept hb24
    have i1 := cellK hb24 hb e0
    have i2 := cellK hb24 hb e1
    have i3 := cellK hb24 hb e2
    have i4 := cellK hb24 hb e3
    have i5 := cellK hb24 hb e4
    go_wp2_with fail
    refine (kindsOf_any nd _ _ z1 z2 _ (hat.kept hb24)).mono ?_
    rintro e w5 ⟨rfl, hb5⟩
    rw [HKK.out]
    have hb25 := bs hb24 hb5
    clear i0 i1 i2 i3 i4 i5 hD3 hD4 hb3 hb4 hb24
    have hn1 := blk_kept hb25 hn0
    have hbb := bs hb2 hb25
    obtain ⟨x0, x1, x2, x3, x4, f0, f1, f2, f3, f4⟩ := five_of hn1
    go_wp2_with fail
    have z := set5_heap (.string ⟨#[]⟩) (.string ⟨#[]⟩) (.string ⟨#[]⟩) (.string ⟨#[]⟩) (.string ⟨#[]⟩) hn1
    have hb9 := hbb.trans (set5_below _ (w.heap.size + 1) (.string ⟨#[]⟩) (.string ⟨#[]⟩) (.string ⟨#[]⟩) (.string ⟨#[]⟩) (.string ⟨#[]⟩) (show w.heap.size ≤ w.heap.size + 1 by omega))
    generalize World.setCell (World.setCell (World.setCell (World.setCell (World.setCell _ _ _) _ _) _ _) _ _) _ _ = W9 at z hb9 ⊢
    obtain ⟨y0, y1, y2, y3, y4, _, _, _, _, _⟩ := five_of z
    exact bodyPost_ret (v := .tuple #[.agg #[.string ⟨#[]⟩, .string ⟨#[]⟩, .string ⟨#[]⟩, .string ⟨#[]⟩, .string ⟨#[]⟩], .int .i64 3]) (by simp [results, Tryz.results7, go_sem, y0, y1, y2, y3, y4]) rfl ⟨by rw [hR.out]; rfl, hb9⟩
  have q30 : (kk != 30) = false := by rw [h30]; rfl
  replace hP := hP.trans (if_neg (fun h => h h30))
  clear h30
  obtain ⟨m, hm⟩ : ∃ m, methF l (K : Nat) s = m := ⟨_, rfl⟩
  obtain ⟨tt, htt⟩ : ∃ tt, setS l (K : Nat) s ⟨#[102, 111, 114, 109, 116, 97, 114, 103, 101, 116]⟩ ⟨#[116, 97, 114, 103, 101, 116]⟩ = tt := ⟨_, rfl⟩
  obtain ⟨aa, haa⟩ : ∃ aa, setS l (K : Nat) s ⟨#[102, 111, 114, 109, 97, 99, 116, 105, 111, 110]⟩ ⟨#[97, 99, 116, 105, 111, 110]⟩ = aa := ⟨_, rfl⟩
  obtain ⟨kn, hkn⟩ : ∃ kn, kinF l (K : Nat) s = kn := ⟨_, rfl⟩
  rw [hm, htt, haa, hkn] at hP
  rw [haa] at hsA
  have HM := Lib.hid hm
  have HTT := Lib.hid htt
  have HAA := Lib.hid haa
  have HKN := Lib.hid hkn
  have HP := Lib.hid hP
  clear hm htt haa hkn hP
  go_enter Tryz.func7, Tryz.ntmps7
  go_wp2_with fail
  rw [← HW1.out, ← HW2.out]
  refine (optRight_any l cs _ _ _ hD2).mono ?_
  rintro e w3 ⟨rfl, hb3⟩
  rw [HK.out]
  have i0 := cellK hb3 (by omega) d0
  have hD3 := hD2.kept hb3
  go_wp2_with fail
  refine (there_any l _ (K : Nat) hmax hfits _ hD3.nodes.nodes).mono ?_
  rintro e w4 ⟨rfl, hb4⟩
  rw [HH.out]
  have hb24 := bs hb3 hb4
  have hD4 := hD2.kept hb24
  have i1 := cellK hb24 hb e0
  have i2 := cellK hb24 hb e1
  have i3 := cellK hb24 hb e2
  have i4 := cellK hb24 hb e3
  have i5 := cellK hb24 hb e4
  go_wp2_with fail
  refine (kindsOf_any nd _ _ z1 z2 _ (hat.kept hb24)).mono ?_
  rintro e w5 ⟨rfl, hb5⟩
  rw [HKK.out]
  have hb25 := bs hb24 hb5
  clear i0 i1 i2 i3 i4 i5 hD3 hD4 hb3 hb4 hb24
  go_wp2_with fail
  refine (settings_any l _ (K : Nat) s _ (hD2.kept hb25).nodes.nodes).mono ?_
  rintro e w6 ⟨rfl, hC6, hb6⟩
  have hb26 := bs hb25 hb6
  have eg := enters_of Tryz.func57 (by kernel_rfl) rfl
  go_wp2_with fail
  refine (method_any l _ (K : Nat) s hmax hfits _ (hD2.kept hb26).nodes.nodes).mono ?_
  rintro e w7 ⟨rfl, hb7⟩
  rw [HM.out]
  have hC7 := hC6.kept hb7
  have hb27 := bs hb26 hb7
  go_wp2_with fail
  refine (setting_any l _ (K : Nat) s ⟨#[102, 111, 114, 109, 116, 97, 114, 103, 101, 116]⟩ ⟨#[116, 97, 114, 103, 101, 116]⟩ hmax hfits hRP HH.out _ _ hC7).mono ?_
  rintro e w8 ⟨rfl, hb8⟩
  rw [HTT.out]
  have hC8 := hC7.kept hb8
  have hb28 := bs hb27 hb8
  have hD8 := hD2.kept hb28
  have hn8 := blk_kept hb28 hn0
  have j0 := cellK hb28 (by omega) d0
  have j1 := cellK hb28 (by omega) d1
  have hg8 := hb28.size
  have hq1 := Go.heap_alloc_new w8 (.cells #[.string m, .string ⟨#[]⟩, .string tt, .string ⟨#[]⟩, .string ⟨#[]⟩] 33)
  have hbq := one_allocV (w := w8) (.cells #[.string m, .string ⟨#[]⟩, .string tt, .string ⟨#[]⟩, .string ⟨#[]⟩] 33)
  obtain ⟨W9, hW9⟩ : ∃ W9, W9 = w8.alloc (.cells #[.string m, .string ⟨#[]⟩, .string tt, .string ⟨#[]⟩, .string ⟨#[]⟩] 33) := ⟨_, rfl⟩
  rw [← hW9] at hq1 hbq
  have HW9 := Lib.hid hW9
  have hsz9 : w8.heap.size < W9.heap.size := by rw [hW9]; simp
  clear hW9
  have hC9 := hC8.kept hbq
  go_wp2_with fail
  rw [← HW9.out]
  refine (setting_any l _ (K : Nat) s ⟨#[102, 111, 114, 109, 97, 99, 116, 105, 111, 110]⟩ ⟨#[97, 99, 116, 105, 111, 110]⟩ hmax hfits hRP HH.out _ _ hC9).mono ?_
  rintro e wA ⟨rfl, hbA2⟩
  rw [HAA.out]
  have hb2A := bs hb28 (bs hbq hbA2)
  have hDA := hD2.kept hb2A
  have hnA := blk_kept hb2A hn0
  have hqA := blk_kept hbA2 hq1
  have j0 := cellK hb2A (by omega) d0
  have j1 := cellK hb2A (by omega) d1
  have hbb := bs hb2 hb2A
  have hgA := hb2A.size
  have hszA : w8.heap.size < wA.heap.size := by have := hbA2.size; omega
  have hne : w8.heap.size ≠ w.heap.size + 1 := by omega
  have hwp : w.heap.size ≤ w8.heap.size := by omega
  clear hC6 hC7 hC8 hC9 hD8 hn8 hbq hq1 hsz9 hb25 hb26 hb27 hb28 hb6 hb7 hb8 hbA2 hn0 hD1 hbA hb5 e0 e1 e2 e3 e4 hat hks hD hb2 hU2 hV2 hT2 d0 d1 c0 c1
  by_cases hG : m = ⟨#[103, 101, 116]⟩
  · have hR := Lib.hid (HP.out.trans (if_pos hG))
    have g1 := sTrue hG
    rw [get_toList] at g1
    clear hG
    have hzE : (encP (told es)).length ≤ 400000000000000 := by
      have h1 := jn_prt_len es hS
      rw [← encP_told] at h1
      have h2 : es.length * 40001 ≤ 1000 * 40001 := Nat.mul_le_mul_right _ hl
      omega
    obtain ⟨p0, p1, p2, p3, p4, r0, r1, r2, r3, r4⟩ := five_of hqA
    go_wp2_with fail
    refine (urlEncode_any es _ _ (hU.kept hbb) (hT.kept hbb) hl hS).mono ?_
    rintro e wB ⟨rfl, hbB⟩
    go_wp2_with fail
    refine (query_any aa ⟨(encP (told es)).toArray⟩ (by omega) (by rw [size_mk]; exact hzE) _).mono ?_
    rintro e wC ⟨rfl, hbC⟩
    have hbAC := bs hbB hbC
    have hnC := blk_kept hbAC hnA
    have hqC := blk_kept hbAC hqA
    have hbbC := bs hbb hbAC
    obtain ⟨p0, p1, p2, p3, p4, r0, r1, r2, r3, r4⟩ := five_of hqC
    obtain ⟨x0, x1, x2, x3, x4, f0, f1, f2, f3, f4⟩ := five_of hnC
    go_wp2_with fail
    have z := set5_heap (.string m) (.string ⟨(qry aa.data.toList (encP (told es))).toArray⟩) (.string tt) (.string ⟨#[]⟩) (.string ⟨#[]⟩) (set1_other (i := 1) (.string ⟨(qry aa.data.toList (encP (told es))).toArray⟩) hne hnC)
    have hb9 := (hbbC.trans ((Below.refl _ _).setCell (p := ⟨w8.heap.size, 1, none⟩) hwp (.string ⟨(qry aa.data.toList (encP (told es))).toArray⟩))).trans (set5_below _ (w.heap.size + 1) (.string m) (.string ⟨(qry aa.data.toList (encP (told es))).toArray⟩) (.string tt) (.string ⟨#[]⟩) (.string ⟨#[]⟩) (show w.heap.size ≤ w.heap.size + 1 by omega))
    generalize World.setCell (World.setCell (World.setCell (World.setCell (World.setCell _ _ _) _ _) _ _) _ _) _ _ = W9 at z hb9 ⊢
    obtain ⟨y0, y1, y2, y3, y4, _, _, _, _, _⟩ := five_of z
    exact bodyPost_ret (v := .tuple #[.agg #[.string m, .string ⟨(qry aa.data.toList (encP (told es))).toArray⟩, .string tt, .string ⟨#[]⟩, .string ⟨#[]⟩], .int .i64 0]) (by simp [results, Tryz.results7, go_sem, y0, y1, y2, y3, y4]) rfl ⟨by rw [hR.out]; rfl, hb9⟩
    
  have g1 := sFalse hG
  rw [get_toList] at g1
  have HP2 := Lib.hid (HP.out.trans (if_neg hG))
  clear hG
  by_cases hDi : m = ⟨#[100, 105, 97, 108, 111, 103]⟩
  · have hP3 := HP2.out.trans (if_pos hDi)
    have g2 := sTrue hDi
    rw [dia24_toList] at g2
    clear hDi
    obtain ⟨p0, p1, p2, p3, p4, r0, r1, r2, r3, r4⟩ := five_of hqA
    cases hfi : fireB l s
    · have hR := Lib.hid (hP3.trans (by rw [hfi, if_neg Bool.false_ne_true]))
      have HF := Lib.hid hfi
      clear hfi hP3
      go_wp2_with fail
      refine (fires24_any l _ s hmax hRP _ hDA.nodes.nodes).mono ?_
      rintro e wB ⟨rfl, hbB⟩
      rw [HF.out]
      have hnC := blk_kept hbB hnA
      have hqC := blk_kept hbB hqA
      have hbbC := bs hbb hbB
      obtain ⟨p0, p1, p2, p3, p4, r0, r1, r2, r3, r4⟩ := five_of hqC
      obtain ⟨x0, x1, x2, x3, x4, f0, f1, f2, f3, f4⟩ := five_of hnC
      go_wp2_with fail
      have z := set5_heap (.string m) (.string ⟨#[]⟩) (.string tt) (.string ⟨#[]⟩) (.string ⟨#[]⟩) hnC
      have hb9 := hbbC.trans (set5_below _ (w.heap.size + 1) (.string m) (.string ⟨#[]⟩) (.string tt) (.string ⟨#[]⟩) (.string ⟨#[]⟩) (show w.heap.size ≤ w.heap.size + 1 by omega))
      generalize World.setCell (World.setCell (World.setCell (World.setCell (World.setCell _ _ _) _ _) _ _) _ _) _ _ = W9 at z hb9 ⊢
      obtain ⟨y0, y1, y2, y3, y4, _, _, _, _, _⟩ := five_of z
      exact bodyPost_ret (v := .tuple #[.agg #[.string m, .string ⟨#[]⟩, .string tt, .string ⟨#[]⟩, .string ⟨#[]⟩], .int .i64 0]) (by simp [results, Tryz.results7, go_sem, y0, y1, y2, y3, y4]) rfl ⟨by rw [hR.out]; rfl, hb9⟩
    · have hR := Lib.hid (hP3.trans (by rw [if_pos hfi]))
      have HF := Lib.hid hfi
      obtain ⟨i0, i1⟩ := fireB_in hfi
      obtain ⟨hk1, hk2⟩ := fire_kind hfi
      clear hfi hP3
      obtain ⟨S, rfl⟩ := Int.eq_ofNat_of_zero_le i0
      have hSl : S < l.length := by omega
      obtain ⟨vv, hvv⟩ : ∃ vv, valDO l cs (S : Nat) = vv := ⟨_, rfl⟩
      have HVV := Lib.hid hvv
      clear hvv i0 i1
      go_wp2_with fail
      refine (fires24_any l _ (S : Nat) hmax hRP _ hDA.nodes.nodes).mono ?_
      rintro e wB ⟨rfl, hbB⟩
      rw [HF.out]
      have j0 := cellK hbB (by omega) j0
      have j1 := cellK hbB (by omega) j1
      have hDB := hDA.kept hbB
      go_wp2_with fail
      refine (validValue_any l cs _ _ S hSl hRP HLL.out hk1 hk2 _ hDB).mono ?_
      rintro e wC ⟨rfl, hbC⟩
      rw [HVV.out]
      have hbAC := bs hbB hbC
      have hnC := blk_kept hbAC hnA
      have hqC := blk_kept hbAC hqA
      have hbbC := bs hbb hbAC
      obtain ⟨p0, p1, p2, p3, p4, r0, r1, r2, r3, r4⟩ := five_of hqC
      obtain ⟨x0, x1, x2, x3, x4, f0, f1, f2, f3, f4⟩ := five_of hnC
      go_wp2_with fail
      have z := set5_heap (.string m) (.string ⟨#[]⟩) (.string tt) (.string vv) (.string ⟨#[]⟩) (set1_other (i := 3) (.string vv) hne hnC)
      have hb9 := (hbbC.trans ((Below.refl _ _).setCell (p := ⟨w8.heap.size, 3, none⟩) hwp (.string vv))).trans (set5_below _ (w.heap.size + 1) (.string m) (.string ⟨#[]⟩) (.string tt) (.string vv) (.string ⟨#[]⟩) (show w.heap.size ≤ w.heap.size + 1 by omega))
      generalize World.setCell (World.setCell (World.setCell (World.setCell (World.setCell _ _ _) _ _) _ _) _ _) _ _ = W9 at z hb9 ⊢
      obtain ⟨y0, y1, y2, y3, y4, _, _, _, _, _⟩ := five_of z
      exact bodyPost_ret (v := .tuple #[.agg #[.string m, .string ⟨#[]⟩, .string tt, .string vv, .string ⟨#[]⟩], .int .i64 0]) (by simp [results, Tryz.results7, go_sem, y0, y1, y2, y3, y4]) rfl ⟨by rw [hR.out, HVV.out]; rfl, hb9⟩
  have g2 := sFalse hDi
  rw [dia24_toList] at g2
  have HP3 := Lib.hid (HP2.out.trans (if_neg hDi))
  clear hDi
  have hbbS : Below w.heap.size w (wA.setCell ⟨w8.heap.size, 1, none⟩ (.string aa)) := hbb.trans ((Below.refl _ _).setCell (p := ⟨w8.heap.size, 1, none⟩) hwp (.string aa))
  have hb2S : Below W2.heap.size W2 (wA.setCell ⟨w8.heap.size, 1, none⟩ (.string aa)) := hb2A.trans ((Below.refl _ _).setCell (p := ⟨w8.heap.size, 1, none⟩) hg8 (.string aa))
  have hnS := set1_other (i := 1) (.string aa) hne hnA
  have hqS : (wA.setCell ⟨w8.heap.size, 1, none⟩ (.string aa)).heap[w8.heap.size]? = some (.cells #[.string m, .string aa, .string tt, .string ⟨#[]⟩, .string ⟨#[]⟩] 33) := setCell_heap (i := 1) (.string aa) hqA
  obtain ⟨WS, hWS⟩ : ∃ WS, WS = wA.setCell ⟨w8.heap.size, 1, none⟩ (.string aa) := ⟨_, rfl⟩
  rw [← hWS] at hbbS hb2S hnS hqS
  have HWS := Lib.hid hWS
  clear hWS
  have hDS := hD2.kept hb2S
  obtain ⟨p0, p1, p2, p3, p4, r0, r1, r2, r3, r4⟩ := five_of hqA
  clear hb2A
  go_wp2_with fail
  rw [← HWS.out]
  refine (kind24_any l _ (K : Nat) s hmax hfits _ hDS.nodes.nodes).mono ?_
  rintro e wB ⟨rfl, hbB⟩
  rw [HKN.out]
  have hbbB := bs hbbS hbB
  have hnB := blk_kept hbB hnS
  have hqB := blk_kept hbB hqS
  clear p0 p1 p2 p3 p4 r0 r1 r2 r3 r4 hnA hqA hbb hDA j0 j1
  by_cases h2 : kn = 2
  · have hP4 := HP3.out.trans (if_pos h2)
    subst h2
    cases hch : chosen es X with
    | none =>
      have hR := Lib.hid (hP4.trans (by rw [hch]))
      have HC := Lib.hid hch
      clear hch hP4
      go_wp2_with fail
      refine (choose_any es _ X _ (by omega) hS hXl _ (hU.kept hbbB) (hV.kept hbbB) (hT.kept hbbB)).mono ?_
      rintro e wC ⟨rfl, hbC⟩
      rw [HC.out]
      unfold chV
      have hnC := blk_kept hbC hnB
      have hbbC := bs hbbB hbC
      obtain ⟨x0, x1, x2, x3, x4, f0, f1, f2, f3, f4⟩ := five_of hnC
      go_wp2_with fail
      have z := set5_heap (.string ⟨#[]⟩) (.string ⟨#[]⟩) (.string ⟨#[]⟩) (.string ⟨#[]⟩) (.string ⟨#[]⟩) hnC
      have hb9 := hbbC.trans (set5_below _ (w.heap.size + 1) (.string ⟨#[]⟩) (.string ⟨#[]⟩) (.string ⟨#[]⟩) (.string ⟨#[]⟩) (.string ⟨#[]⟩) (show w.heap.size ≤ w.heap.size + 1 by omega))
      generalize World.setCell (World.setCell (World.setCell (World.setCell (World.setCell _ _ _) _ _) _ _) _ _) _ _ = W9 at z hb9 ⊢
      obtain ⟨y0, y1, y2, y3, y4, _, _, _, _, _⟩ := five_of z
      exact bodyPost_ret (v := .tuple #[.agg #[.string ⟨#[]⟩, .string ⟨#[]⟩, .string ⟨#[]⟩, .string ⟨#[]⟩, .string ⟨#[]⟩], .int .i64 10]) (by simp [results, Tryz.results7, go_sem, y0, y1, y2, y3, y4]) rfl ⟨by rw [hR.out]; rfl, hb9⟩
    | some c =>
      have hR0 : pp = (⟨m, aa, tt, (bodyT 2 es ⟨c.toArray⟩).1, (bodyT 2 es ⟨c.toArray⟩).2.1⟩, 0) := hP4.trans (by rw [hch])
      have HC := Lib.hid hch
      obtain ⟨hc70, _⟩ := chosen_size hch
      clear hch hP4
      obtain ⟨bb, hbb1⟩ : ∃ bb, (bodyT 2 es ⟨c.toArray⟩).1 = bb := ⟨_, rfl⟩
      obtain ⟨yy, hyy⟩ : ∃ yy, (bodyT 2 es ⟨c.toArray⟩).2.1 = yy := ⟨_, rfl⟩
      rw [hbb1, hyy] at hR0
      have hR := Lib.hid hR0
      have HB1 := Lib.hid hbb1
      have HB2 := Lib.hid hyy
      clear hR0 hbb1 hyy
      go_wp2_with fail
      refine (choose_any es _ X _ (by omega) hS hXl _ (hU.kept hbbB) (hV.kept hbbB) (hT.kept hbbB)).mono ?_
      rintro e wC ⟨rfl, hbC⟩
      rw [HC.out]
      unfold chV
      have hnC := blk_kept hbC hnB
      have hqC := blk_kept hbC hqB
      have hbbC := bs hbbB hbC
      go_wp2_with fail
      refine (body_any 2 es _ ⟨c.toArray⟩ (by rw [size_mk]; omega) hl hS _ (hU.kept hbbC) (hT.kept hbbC)).mono ?_
      rintro e wD ⟨rfl, hbD⟩
      rw [HB1.out, HB2.out]
      have hnD := blk_kept hbD hnC
      have hqD := blk_kept hbD hqC
      have hbbD := bs hbbC hbD
      obtain ⟨p0, p1, p2, p3, p4, r0, r1, r2, r3, r4⟩ := five_of hqD
      obtain ⟨x0, x1, x2, x3, x4, f0, f1, f2, f3, f4⟩ := five_of hnD
      go_wp2_with fail
      have z := set5_heap (.string m) (.string aa) (.string tt) (.string bb) (.string yy) (set1_other (i := 4) (.string yy) hne (set1_other (i := 3) (.string bb) hne hnD))
      have hb9 := ((hbbD.trans ((Below.refl _ _).setCell (p := ⟨w8.heap.size, 3, none⟩) hwp (.string bb))).trans ((Below.refl _ _).setCell (p := ⟨w8.heap.size, 4, none⟩) hwp (.string yy))).trans (set5_below _ (w.heap.size + 1) (.string m) (.string aa) (.string tt) (.string bb) (.string yy) (show w.heap.size ≤ w.heap.size + 1 by omega))
      generalize World.setCell (World.setCell (World.setCell (World.setCell (World.setCell _ _ _) _ _) _ _) _ _) _ _ = W9 at z hb9 ⊢
      obtain ⟨y0, y1, y2, y3, y4, _, _, _, _, _⟩ := five_of z
      exact bodyPost_ret (v := .tuple #[.agg #[.string m, .string aa, .string tt, .string bb, .string yy], .int .i64 0]) (by simp [results, Tryz.results7, go_sem, y0, y1, y2, y3, y4]) rfl ⟨by rw [hR.out]; rfl, hb9⟩
  · have hR0 := HP3.out.trans (if_neg h2)
    have q2 := intNe h2
    clear h2
    have hnC := hnB
    have hqC := hqB
    have hbbC := hbbB
    obtain ⟨bb, hbb1⟩ : ∃ bb, (bodyT kn es ⟨#[]⟩).1 = bb := ⟨_, rfl⟩
    obtain ⟨yy, hyy⟩ : ∃ yy, (bodyT kn es ⟨#[]⟩).2.1 = yy := ⟨_, rfl⟩
    rw [hbb1, hyy] at hR0
    have hR := Lib.hid hR0
    have HB1 := Lib.hid hbb1
    have HB2 := Lib.hid hyy
    clear hR0 hbb1 hyy
    go_wp2_with fail
    refine (body_any kn es _ ⟨#[]⟩ (show (0 : Nat) ≤ 1000000 by omega) hl hS _ (hU.kept hbbC) (hT.kept hbbC)).mono ?_
    rintro e wD ⟨rfl, hbD⟩
    rw [HB1.out, HB2.out]
    have hnD := blk_kept hbD hnC
    have hqD := blk_kept hbD hqC
    have hbbD := bs hbbC hbD
    obtain ⟨p0, p1, p2, p3, p4, r0, r1, r2, r3, r4⟩ := five_of hqD
    obtain ⟨x0, x1, x2, x3, x4, f0, f1, f2, f3, f4⟩ := five_of hnD
    go_wp2_with fail
    have z := set5_heap (.string m) (.string aa) (.string tt) (.string bb) (.string yy) (set1_other (i := 4) (.string yy) hne (set1_other (i := 3) (.string bb) hne hnD))
    have hb9 := ((hbbD.trans ((Below.refl _ _).setCell (p := ⟨w8.heap.size, 3, none⟩) hwp (.string bb))).trans ((Below.refl _ _).setCell (p := ⟨w8.heap.size, 4, none⟩) hwp (.string yy))).trans (set5_below _ (w.heap.size + 1) (.string m) (.string aa) (.string tt) (.string bb) (.string yy) (show w.heap.size ≤ w.heap.size + 1 by omega))
    generalize World.setCell (World.setCell (World.setCell (World.setCell (World.setCell _ _ _) _ _) _ _) _ _) _ _ = W9 at z hb9 ⊢
    obtain ⟨y0, y1, y2, y3, y4, _, _, _, _, _⟩ := five_of z
    exact bodyPost_ret (v := .tuple #[.agg #[.string m, .string aa, .string tt, .string bb, .string yy], .int .i64 0]) (by simp [results, Tryz.results7, go_sem, y0, y1, y2, y3, y4]) rfl ⟨by rw [hR.out]; rfl, hb9⟩
end Go.Proofs.YtafbghlldlconaaGreatDoor

/-
  A REGION THAT DRAWS ITS ORDER, BY WHAT EACH OPERATION LEAVES: each operation is shown once, from what those that it waits for have left; what they left must stay as long as another still waits for it. No program in sight.
-/
namespace Go.Proofs.YtafbghlldlconaaGreatDoor
set_option linter.unusedVariables false
set_option linter.unusedSimpArgs false

section
variable {P : Program} {l : List Oper}
def parWaits (l : List Oper) (i j : Nat) : Bool := match l[i]? with
  | some o => o.after.any fun e => Region.binds .any e && e.on == j
  | none => false
def parNeeds (l : List Oper) (i j : Nat) : Bool := match l[i]? with
  | some o => o.after.any fun e => (Region.binds .any e && e.on == j) && (match e.ground with
    | .data => true
    | _ => false)
  | none => false
theorem parNeeds_waits {i j : Nat} (h : parNeeds l i j = true) : parWaits l i j = true := by
  unfold parNeeds at h
  unfold parWaits
  split at h
  · rename_i o ho
    obtain ⟨e, he, hb⟩ := Array.any_eq_true'.1 h
    simp only [Bool.and_eq_true] at hb
    exact Array.any_eq_true'.2 ⟨e, he, by simp only [Bool.and_eq_true]; exact hb.1⟩
  · cases h
def parAnc (l : List Oper) : Nat → Nat → Nat → Bool
  | 0, _, _ => false
  | f + 1, i, k => parWaits l i k || (List.range l.length).any fun m => parWaits l i m && parAnc l f m k
def parLive (l : List Oper) (fin : List Nat) (i j : Nat) : Bool :=
  fin.contains j || (List.range l.length).any fun k => k != i && (parNeeds l k j && !parAnc l l.length i k)
def parKeep (l : List Oper) (fin : List Nat) (i : Nat) : List Nat := (List.range l.length).filter fun j => j != i && parLive l fin i j
def parAt (l : List Oper) (a : Act) (j : Nat) : Value := match l[j]? with
  | some o => match o.dst with
    | some d => a.tmps.getD d undef
    | none => undef
  | none => undef
def parB (l : List Oper) (N : Nat) (fin : List Nat) : Bool :=
  (List.range l.length).all fun i => match l[i]? with
    | some o => o.guard.isNone && ((match o.dst with
      | some d => decide (d < N)
      | none => true) && (o.after.all (fun e => !Region.binds .any e || decide (e.on < i)) && (List.range l.length).all fun j => i == j || match l[j]? with
      | some p => o.dst.isNone || o.dst != p.dst
      | none => true))
    | none => false
structure ParFr (l : List Oper) (a0 a : Act) : Prop where
  defers : a.defers = a0.defers
  size : a.tmps.size = a0.tmps.size
  old : ∀ s, (∀ o ∈ l, o.dst ≠ some s) → a.tmps.getD s undef = a0.tmps.getD s undef
/-- what is asked of the operations from number k on -/
def ParOps (P : Program) (l : List Oper) (fin : List Nat) (a0 : Act) (C : World → Prop) (R : Nat → (Nat → Value) → World → Prop) (Q : Exit → Act → World → Prop) : Nat → List Oper → Prop
  | _, [] => True
  | i, o :: r => (∀ a W, ParFr l a0 a → C W → (∀ j, parNeeds l i j = true → R j (parAt l a) W) →
      o.wp P a W (fun a' W' => ∃ v, a' = a.put o.dst v ∧ C W' ∧ R i (parAt l a') W' ∧ ∀ j ∈ parKeep l fin i, ∀ val, R j val W → R j val W') Q) ∧ ParOps P l fin a0 C R Q (i + 1) r
theorem ParOps.at {fin : List Nat} {a0 : Act} {C : World → Prop} {R : Nat → (Nat → Value) → World → Prop} {Q : Exit → Act → World → Prop} : ∀ {r : List Oper} {k : Nat}, ParOps P l fin a0 C R Q k r → ∀ {i : Nat} {o : Oper}, r[i]? = some o →
    ∀ a W, ParFr l a0 a → C W → (∀ j, parNeeds l (k + i) j = true → R j (parAt l a) W) →
      o.wp P a W (fun a' W' => ∃ v, a' = a.put o.dst v ∧ C W' ∧ R (k + i) (parAt l a') W' ∧ ∀ j ∈ parKeep l fin (k + i), ∀ val, R j val W → R j val W') Q
  | [], _, _, i, o, h => by simp at h
  | p :: r, k, H, 0, o, h => by
    cases h
    exact H.1
  | p :: r, k, H, i + 1, o, h => by
    have := ParOps.at H.2 (i := i) (o := o) (by simpa using h)
    rw [show k + 1 + i = k + (i + 1) by omega] at this
    exact this

theorem parWaits_iff {i j : Nat} {o : Oper} (ho : l[i]? = some o) : parWaits l i j = true ↔ ∃ e ∈ o.after, Region.binds .any e = true ∧ e.on = j := by
  unfold parWaits
  rw [ho]
  simp only [Array.any_eq_true', Bool.and_eq_true, beq_iff_eq]
theorem parB_at {N : Nat} {fin : List Nat} (hB : parB l N fin = true) {i : Nat} {o : Oper} (ho : l[i]? = some o) :
    o.guard = none ∧ (∀ d, o.dst = some d → d < N) ∧ (∀ e ∈ o.after, Region.binds .any e = true → e.on < i) ∧ ∀ j p d, j ≠ i → l[j]? = some p → o.dst = some d → p.dst ≠ some d := by
  unfold parB at hB
  have hi : i < l.length := (List.getElem?_eq_some_iff.1 ho).1
  have h := List.all_eq_true.1 hB i (List.mem_range.2 hi)
  rw [ho] at h
  simp only [Bool.and_eq_true] at h
  obtain ⟨h1, h2, h3, h4⟩ := h
  refine ⟨by simpa using h1, fun d hd => ?_, fun e he hb => ?_, fun j p d hj hp hd hc => ?_⟩
  · rw [hd] at h2
    simpa using h2
  · have := Array.all_eq_true'.1 h3 e he
    rw [hb] at this
    simpa using this
  · have hjl : j < l.length := (List.getElem?_eq_some_iff.1 hp).1
    have h5 := List.all_eq_true.1 h4 j (List.mem_range.2 hjl)
    simp only [hp, hd, hc, Bool.or_eq_true, beq_iff_eq, Option.isNone_some, bne_self_eq_false, Bool.false_eq_true, or_false] at h5
    omega
theorem parAt_put_same {a : Act} {v : Value} {i d : Nat} {o : Oper} (ho : l[i]? = some o) (hd : o.dst = some d) (hs : d < a.tmps.size) : parAt l (a.put o.dst v) i = v := by
  unfold parAt
  simp only [ho, hd, Act.put, Array.getD_eq_getD_getElem?]
  rw [Array.getElem?_setIfInBounds]
  simp [hs]
theorem getD_put_ne {a : Act} {v : Value} {x : Option Nat} {d : Nat} (h : x ≠ some d) : (a.put x v).tmps.getD d undef = a.tmps.getD d undef := by
  cases x with
  | none => rfl
  | some y =>
    simp only [Act.put, Array.getD_eq_getD_getElem?]
    rw [Array.getElem?_setIfInBounds_ne (by intro e; exact h (by rw [e]))]
theorem parAt_put_ne {N : Nat} {fin : List Nat} (hB : parB l N fin = true) {a : Act} {v : Value} {i j : Nat} {o : Oper} (ho : l[i]? = some o) (hj : j ≠ i) : parAt l (a.put o.dst v) j = parAt l a j := by
  unfold parAt
  cases hp : l[j]? with
  | none => rfl
  | some p =>
    simp only
    cases hd : p.dst with
    | none => rfl
    | some d =>
      exact getD_put_ne fun e => (parB_at hB ho).2.2.2 j p d hj hp e hd
theorem ParFr.put {a0 a : Act} (h : ParFr l a0 a) {i : Nat} {o : Oper} (ho : l[i]? = some o) (v : Value) : ParFr l a0 (a.put o.dst v) := by
  refine ⟨?_, ?_, fun s hs => ?_⟩
  · cases hd : o.dst <;> exact h.defers
  · cases hd : o.dst with
    | none => exact h.size
    | some d => simp only [Act.put, Array.size_setIfInBounds]; exact h.size
  · rw [getD_put_ne (hs o (List.mem_of_getElem? ho))]
    exact h.old s hs

structure ParInv (l : List Oper) (fin : List Nat) (a0 : Act) (C : World → Prop) (R : Nat → (Nat → Value) → World → Prop) (listed : Array Bool) (a : Act) (w : World) : Prop where
  size : listed.size = l.length
  closed : ∀ i j, listed.getD i false = true → parWaits l i j = true → listed.getD j false = true
  fr : ParFr l a0 a
  cls : C w
  held : ∀ j, listed.getD j false = true → (j ∈ fin ∨ ∃ k, k < l.length ∧ listed.getD k true = false ∧ parNeeds l k j = true) → R j (parAt l a) w

theorem parAnc_listed {listed : Array Bool} (hc : ∀ i j, listed.getD i false = true → parWaits l i j = true → listed.getD j false = true) :
    ∀ (f : Nat) (i : Nat), (∀ j, parWaits l i j = true → listed.getD j false = true) → ∀ k, parAnc l f i k = true → listed.getD k false = true
  | 0, _, _, _, h => by simp [parAnc] at h
  | f + 1, i, hi, k, h => by
    simp only [parAnc, Bool.or_eq_true, List.any_eq_true, Bool.and_eq_true] at h
    rcases h with h | ⟨m, _, h1, h2⟩
    · exact hi k h
    · exact parAnc_listed hc f m (fun j hj => hc m j (hi m h1) hj) k h2

def parLeft (l : List Oper) (listed : Array Bool) : List Nat := (List.range l.length).filter fun i => listed.getD i true == false
theorem parLeft_set {listed : Array Bool} {i : Nat} (hs : listed.size = l.length) (hi : i < l.length) (hu : listed.getD i true = false) : (parLeft l (listed.setIfInBounds i true)).length < (parLeft l listed).length := by
  have h1 : parLeft l (listed.setIfInBounds i true) = (parLeft l listed).filter fun j => j != i := by
    unfold parLeft
    rw [List.filter_filter]
    apply List.filter_congr
    intro j _
    by_cases e : j = i
    · subst e
      simp [Array.getD_eq_getD_getElem?, Array.getElem?_setIfInBounds, hs, hi]
    · rw [Array.getD_eq_getD_getElem?, Array.getD_eq_getD_getElem?, Array.getElem?_setIfInBounds_ne (fun h => e h.symm)]
      simp [e]
  rw [h1, List.length_filter_lt_length_iff_exists]
  exact ⟨i, List.mem_filter.2 ⟨List.mem_range.2 hi, by rw [hu]; rfl⟩, by simp⟩

theorem wpAny_par {N : Nat} {fin : List Nat} {a0 : Act} {C : World → Prop} {R : Nat → (Nat → Value) → World → Prop} {Q : Exit → Act → World → Prop} (hN : a0.tmps.size = N) (hB : parB l N fin = true) (hfin : ∀ j ∈ fin, j < l.length)
    (hdep : ∀ j val val' W, (∀ k, k = j ∨ parWaits l j k = true → val k = val' k) → R j val W → R j val' W)
    (hop : ParOps P l fin a0 C R Q 0 l)
    (hend : ∀ a W, ParFr l a0 a → C W → (∀ j ∈ fin, R j (parAt l a) W) → Q .normal a W) :
    ∀ (fuel : Nat) (listed : Array Bool) (a : Act) (w : World), (parLeft l listed).length ≤ fuel → ParInv l fin a0 C R listed a w → wpAny P .any l.toArray Q fuel listed a w := by
  have hall : ∀ (listed : Array Bool), listed.size = l.length → Region.ready .any l.toArray listed = [] → ∀ i, i < l.length → listed.getD i false = true := by
    intro listed hs hr i
    induction i using Nat.strongRecOn with
    | _ i ih =>
      intro hi
      cases hu : listed.getD i true with
      | true =>
        rw [Array.getD_eq_getD_getElem?, Array.getElem?_eq_getElem (by omega)] at hu ⊢
        exact hu
      | false =>
        have hm : i ∈ Region.ready .any l.toArray listed := by
          refine mem_ready.2 ⟨hu, l[i], by simp [hi], fun e he hb => ?_⟩
          have := (parB_at hB (List.getElem?_eq_getElem hi)).2.2.1 e he hb
          exact ih _ this (by omega)
        rw [hr] at hm
        cases hm
  have fin_ : ∀ listed a w, ParInv l fin a0 C R listed a w → Region.ready .any l.toArray listed = [] → Q .normal a w := fun listed a w hi hr =>
    hend a w hi.fr hi.cls fun j hj => hi.held j (hall listed hi.size hr j (hfin j hj)) (.inl hj)
  intro fuel
  induction fuel with
  | zero =>
    intro listed a w hf hi
    have hr : Region.ready .any l.toArray listed = [] := by
      cases h : Region.ready .any l.toArray listed with
      | nil => rfl
      | cons j r =>
        have hj : j ∈ Region.ready .any l.toArray listed := by rw [h]; exact List.mem_cons_self
        obtain ⟨hu, o, ho, _⟩ := mem_ready.1 hj
        have hjl : j < l.length := by
          have := (Array.getElem?_eq_some_iff.1 ho).1
          simpa using this
        have hm : j ∈ parLeft l listed := List.mem_filter.2 ⟨List.mem_range.2 hjl, by rw [hu]; rfl⟩
        have : 0 < (parLeft l listed).length := List.length_pos_of_mem hm
        omega
    exact ⟨hr, fin_ listed a w hi hr⟩
  | succ fuel ih =>
    intro listed a w hf hi
    refine ⟨fun hr => fin_ listed a w hi hr, fun i hmem => ?_⟩
    obtain ⟨hu, o, ho, hdeps⟩ := mem_ready.1 hmem
    have ho' : l[i]? = some o := by simpa using ho
    have hil : i < l.length := (List.getElem?_eq_some_iff.1 ho').1
    have hw : ∀ j, parWaits l i j = true → listed.getD j false = true := fun j hj => by
      obtain ⟨e, he, hb, rfl⟩ := (parWaits_iff ho').1 hj
      exact hdeps e he hb
    have hgu : o.guard = none := (parB_at hB ho').1
    unfold wpOp
    rw [ho]
    simp only
    rw [if_pos (by simp [Region.wanted, hgu])]
    refine .inl (Oper.wp_mono (fun a' W' h => ?_) (by
      have := hop.at (i := i) ho' a w hi.fr hi.cls
      rw [Nat.zero_add] at this
      exact this fun j hj => hi.held j (hw j (parNeeds_waits hj)) (.inr ⟨i, hil, hu, hj⟩)))
    obtain ⟨v, rfl, hC, hRi, hkeep⟩ := h
    refine ih _ _ _ (by have := parLeft_set hi.size hil hu; omega) ?_
    have hset : ∀ j, (listed.setIfInBounds i true).getD j false = true → j = i ∨ listed.getD j false = true := fun j hj => by
      by_cases e : j = i
      · exact .inl e
      · rw [Array.getD_eq_getD_getElem?, Array.getElem?_setIfInBounds_ne (fun h => e h.symm)] at hj
        rw [Array.getD_eq_getD_getElem?]
        exact .inr hj
    have hset2 : ∀ j, listed.getD j false = true → (listed.setIfInBounds i true).getD j false = true := fun j hj => by
      by_cases e : j = i
      · subst e
        simp [Array.getD_eq_getD_getElem?, Array.getElem?_setIfInBounds, hi.size, hil]
      · rw [Array.getD_eq_getD_getElem?, Array.getElem?_setIfInBounds_ne (fun h => e h.symm)]
        rw [Array.getD_eq_getD_getElem?] at hj
        exact hj
    refine ⟨by rw [Array.size_setIfInBounds]; exact hi.size, fun j k hj hk => ?_, hi.fr.put ho' v, hC, fun j hj hlive => ?_⟩
    · rcases hset j hj with rfl | hj
      · exact hset2 k (hw k hk)
      · exact hset2 k (hi.closed j k hj hk)
    · rcases hset j hj with rfl | hjl
      · exact hRi
      · by_cases e : j = i
        · subst e; exact hRi
        · have hjn : j < l.length := by
            rcases Nat.lt_or_ge j l.length with h | h
            · exact h
            · rw [Array.getD_eq_getD_getElem?, Array.getElem?_eq_none (by rw [hi.size]; exact h)] at hjl
              cases hjl
          have hlive0 : j ∈ fin ∨ ∃ k, k < l.length ∧ k ≠ i ∧ listed.getD k true = false ∧ parNeeds l k j = true := by
            rcases hlive with h | ⟨k, hk, hku, hkw⟩
            · exact .inl h
            · have hki : k ≠ i := fun h => by
                subst h
                rw [Array.getD_eq_getD_getElem?, Array.getElem?_setIfInBounds] at hku
                simp [hi.size, hk] at hku
              rw [Array.getD_eq_getD_getElem?, Array.getElem?_setIfInBounds_ne (fun h => hki h.symm)] at hku
              exact .inr ⟨k, hk, hki, by rw [Array.getD_eq_getD_getElem?]; exact hku, hkw⟩
          have hold : R j (parAt l a) w := hi.held j hjl (hlive0.imp id fun ⟨k, h1, _, h3, h4⟩ => ⟨k, h1, h3, h4⟩)
          have hmem : j ∈ parKeep l fin i := by
            refine List.mem_filter.2 ⟨List.mem_range.2 hjn, ?_⟩
            simp only [Bool.and_eq_true, bne_iff_ne, ne_eq]
            refine ⟨e, ?_⟩
            unfold parLive
            simp only [Bool.or_eq_true, List.contains_iff_mem, List.any_eq_true, Bool.and_eq_true, bne_iff_ne, ne_eq, Bool.not_eq_true']
            rcases hlive0 with h | ⟨k, hk, hki, hku, hkw⟩
            · exact .inl h
            · refine .inr ⟨k, List.mem_range.2 hk, hki, hkw, ?_⟩
              cases hA : parAnc l l.length i k with
              | false => rfl
              | true =>
                have := parAnc_listed hi.closed l.length i hw k hA
                rw [Array.getD_eq_getD_getElem?, Array.getElem?_eq_getElem (by rw [hi.size]; exact hk)] at this hku
                simp only [Option.getD_some] at this hku
                rw [this] at hku
                cases hku
          refine hdep j (parAt l a) _ _ (fun k hk => ?_) (hkeep j hmem _ hold)
          have hki : k ≠ i := by
            rcases hk with rfl | hk
            · exact e
            · intro h
              subst h
              have := hi.closed j k hjl hk
              rw [Array.getD_eq_getD_getElem?, Array.getElem?_eq_getElem (by rw [hi.size]; exact hil)] at this hu
              simp only [Option.getD_some] at this hu
              rw [this] at hu
              cases hu
          exact (parAt_put_ne hB ho' hki).symm

theorem wp_region_par {id N : Nat} {fin : List Nat} {a0 : Act} {w : World} {Q : Exit → Act → World → Prop} (C : World → Prop) (R : Nat → (Nat → Value) → World → Prop) (hm : P.follows .mixedOrders = true) (hN : a0.tmps.size = N) (hB : parB l N fin = true) (hfin : ∀ j ∈ fin, j < l.length)
    (hC : C { w with drawn := w.drawn + 1 })
    (hdep : ∀ j val val' W, (∀ k, k = j ∨ parWaits l j k = true → val k = val' k) → R j val W → R j val' W)
    (hop : ParOps P l fin a0 C R Q 0 l)
    (hend : ∀ a W, ParFr l a0 a → C W → (∀ j ∈ fin, R j (parAt l a) W) → Q .normal a W) : (Code.region id l.toArray true).wp P Q a0 w := by
  refine wp_region_any hm (wpAny_par hN hB hfin hdep hop hend _ _ _ _ ?_ ⟨by simp, fun i j hi => ?_, ⟨rfl, rfl, fun _ _ => rfl⟩, hC, fun j hj => ?_⟩)
  · refine Nat.le_trans (List.length_filter_le _ _) ?_
    simp
  · rw [getD_replicate_false] at hi; cases hi
  · rw [getD_replicate_false] at hj; cases hj
/-- the frame behind it: what stood there, and what the operations have left -/
theorem ParFr.lay {a0 a : Act} (h : ParFr l a0 a) {N : Nat} {fin : List Nat} (hN : a0.tmps.size = N) (hB : parB l N fin = true) : a = l.foldl (fun A o => A.put o.dst (match o.dst with | some d => a.tmps.getD d undef | none => undef)) a0 := by
  have key : ∀ (r : List Oper) (b : Act), b.defers = a0.defers → b.tmps.size = a0.tmps.size → (r.foldl (fun A o => A.put o.dst (match o.dst with | some d => a.tmps.getD d undef | none => undef)) b).defers = a0.defers ∧ (r.foldl (fun A o => A.put o.dst (match o.dst with | some d => a.tmps.getD d undef | none => undef)) b).tmps.size = a0.tmps.size ∧
      ∀ s, s < a0.tmps.size → (r.foldl (fun A o => A.put o.dst (match o.dst with | some d => a.tmps.getD d undef | none => undef)) b).tmps.getD s undef = if (∃ o ∈ r, o.dst = some s) then a.tmps.getD s undef else b.tmps.getD s undef := by
    intro r
    induction r with
    | nil => intro b h1 h2; exact ⟨h1, h2, fun s hs => by simp⟩
    | cons o r ih =>
      intro b h1 h2
      rw [List.foldl_cons]
      have hd1 : (b.put o.dst (match o.dst with | some d => a.tmps.getD d undef | none => undef)).defers = a0.defers := by cases o.dst <;> exact h1
      have hd2 : (b.put o.dst (match o.dst with | some d => a.tmps.getD d undef | none => undef)).tmps.size = a0.tmps.size := by
        cases o.dst with
        | none => exact h2
        | some d => simp only [Act.put, Array.size_setIfInBounds]; exact h2
      obtain ⟨e1, e2, e3⟩ := ih _ hd1 hd2
      refine ⟨e1, e2, fun s hs => ?_⟩
      rw [e3 s hs]
      by_cases hr : ∃ o' ∈ r, o'.dst = some s
      · rw [if_pos hr, if_pos (by obtain ⟨x, hx, hy⟩ := hr; exact ⟨x, List.mem_cons_of_mem _ hx, hy⟩)]
      · rw [if_neg hr]
        by_cases ho : o.dst = some s
        · rw [if_pos ⟨o, List.mem_cons_self, ho⟩, ho]
          simp only [Act.put, Array.getD_eq_getD_getElem?]
          rw [Array.getElem?_setIfInBounds]
          simp [h2, hs]
        · rw [if_neg (by rintro ⟨x, hx, hy⟩; rcases List.mem_cons.1 hx with rfl | hx; exact ho hy; exact hr ⟨x, hx, hy⟩)]
          exact getD_put_ne ho
  obtain ⟨e1, e2, e3⟩ := key l a0 rfl rfl
  generalize (l.foldl (fun A o => A.put o.dst (match o.dst with | some d => a.tmps.getD d undef | none => undef)) a0) = b at e1 e2 e3 ⊢
  obtain ⟨ta, da⟩ := a
  obtain ⟨tb, db⟩ := b
  simp only at e1 e2 e3
  have h1 := h.defers
  have h2 := h.size
  have h3 := h.old
  simp only at h1 h2 h3
  subst h1
  subst e1
  congr 1
  apply Array.ext (by omega)
  intro s hs1 hs2
  have h4 := e3 s (by omega)
  have g : ∀ (t : Array Value) (hs : s < t.size), t.getD s undef = t[s] := fun t hs => by rw [Array.getD_eq_getD_getElem?, Array.getElem?_eq_getElem hs]; rfl
  rw [g tb hs2] at h4
  rw [h4]
  by_cases hno : ∃ o ∈ l, o.dst = some s
  · rw [if_pos hno]
    exact (g ta hs1).symm
  · rw [if_neg hno, ← h3 s (fun o ho hd => hno ⟨o, ho, hd⟩)]
    exact (g ta hs1).symm
/-! ### With one store, into a block that the region itself has made -/
def parR (Rv : List (Value → World → Prop)) (st al : Nat) (S : Value → World → Prop) (j : Nat) (val : Nat → Value) (W : World) : Prop := if j = st then S (val al) W else (Rv.getD j fun _ _ => True) (val j) W
theorem parR_st {Rv : List (Value → World → Prop)} {st al : Nat} {S : Value → World → Prop} {val : Nat → Value} {W : World} (h : parR Rv st al S st val W) : S (val al) W := by
  unfold parR at h
  rwa [if_pos rfl] at h
theorem parR_of {Rv : List (Value → World → Prop)} {st al : Nat} {S : Value → World → Prop} {val : Nat → Value} {W : World} (j : Nat) {r : Value → World → Prop} (hj : j ≠ st) (hr : (Rv.getD j fun _ _ => True) = r) (h : parR Rv st al S j val W) : r (val j) W := by
  unfold parR at h
  rw [if_neg hj, hr] at h
  exact h
def parB1 (l : List Oper) (st : Nat) : Bool := (List.range l.length).all fun i => match l[i]? with
  | some o => if i = st then o.dst.isNone else o.dst.isSome
  | none => false
/-- what is asked of the operations from number k on -/
def ParOps1 (P : Program) (l : List Oper) (fin : List Nat) (a0 : Act) (C : World → Prop) (Rv : List (Value → World → Prop)) (st al : Nat) (S : Value → World → Prop) (Q : Exit → Act → World → Prop) : Nat → List Oper → Prop
  | _, [] => True
  | i, o :: r => (∀ a W, ParFr l a0 a → C W → (∀ j, parNeeds l i j = true → parR Rv st al S j (parAt l a) W) →
      ∀ K : Act → World → Prop, (∀ v W', C W' → (i ≠ st → (Rv.getD i fun _ _ => True) v W') → (i = st → S (parAt l a al) W') → (W' = W ∨ (∀ j ∈ parKeep l fin i, ∀ val, parR Rv st al S j val W → parR Rv st al S j val W')) → K (a.put o.dst v) W') → o.wp P a W K Q) ∧ ParOps1 P l fin a0 C Rv st al S Q (i + 1) r
theorem ParOps1.at {fin : List Nat} {a0 : Act} {C : World → Prop} {Rv : List (Value → World → Prop)} {st al : Nat} {S : Value → World → Prop} {Q : Exit → Act → World → Prop} {N : Nat} (hN : a0.tmps.size = N) (hB : parB l N fin = true) (hB1 : parB1 l st = true) (hal : al ≠ st) : ∀ {r : List Oper} {k : Nat}, (∀ i o, r[i]? = some o → l[k + i]? = some o) → ParOps1 P l fin a0 C Rv st al S Q k r → ParOps P l fin a0 C (parR Rv st al S) Q k r
  | [], _, _, _ => trivial
  | o :: r, k, hl, H => by
    have ho : l[k]? = some o := hl 0 o rfl
    refine ⟨fun a W hF hC hd => H.1 a W hF hC hd _ fun v W' h1 h2 h3 h4 => ⟨v, rfl, h1, ?_, ?_⟩, ParOps1.at hN hB hB1 hal (fun i p hp => by
      have := hl (i + 1) p (by simpa using hp)
      rw [show k + (i + 1) = k + 1 + i by omega] at this
      exact this) H.2⟩
    · unfold parR
      have hk := List.all_eq_true.1 hB1 k (List.mem_range.2 (List.getElem?_eq_some_iff.1 ho).1)
      rw [ho] at hk
      simp only at hk
      by_cases e : k = st
      · rw [if_pos e]
        rw [if_pos e] at hk
        have hdn : o.dst = none := by simpa using hk
        rw [hdn]
        exact h3 e
      · rw [if_neg e]
        rw [if_neg e] at hk
        obtain ⟨d, hd'⟩ := Option.isSome_iff_exists.1 hk
        have hdN := (parB_at hB ho).2.1 d hd'
        have hv : parAt l (a.put o.dst v) k = v := parAt_put_same ho hd' (by rw [hF.size, hN]; exact hdN)
        rw [hv]
        exact h2 e
    · rcases h4 with h4 | h4
      · subst h4; exact fun _ _ _ h => h
      · exact h4
theorem wp_region_par1 {id N : Nat} (fin : List Nat) {a0 : Act} {w : World} {Q : Exit → Act → World → Prop} (C : World → Prop) (Rv : List (Value → World → Prop)) (st al : Nat) (S : Value → World → Prop) (hm : P.follows .mixedOrders = true) (hN : a0.tmps.size = N) (hB : parB l N fin = true) (hB1 : parB1 l st = true) (hal : al ≠ st) (hwt : parWaits l st al = true) (hfin : ∀ j ∈ fin, j < l.length)
    (hC : C { w with drawn := w.drawn + 1 })
    (hop : ParOps1 P l fin a0 C Rv st al S Q 0 l)
    (hend : ∀ a W, ParFr l a0 a → C W → (∀ j ∈ fin, parR Rv st al S j (parAt l a) W) → Q .normal a W) : (Code.region id l.toArray true).wp P Q a0 w := by
  refine wp_region_par C (parR Rv st al S) hm hN hB hfin hC (fun j val val' W h hr => ?_) (ParOps1.at hN hB hB1 hal (fun i o h => by rw [Nat.zero_add]; exact h) hop) hend
  unfold parR at hr ⊢
  by_cases e : j = st
  · rw [if_pos e] at hr ⊢
    rw [← h al (.inr (by rw [e]; exact hwt))]
    exact hr
  · rw [if_neg e] at hr ⊢
    rw [← h j (.inl rfl)]
    exact hr
/-- without a store -/
theorem wp_region_par0 {id N : Nat} (fin : List Nat) {a0 : Act} {w : World} {Q : Exit → Act → World → Prop} (C : World → Prop) (Rv : List (Value → World → Prop)) (hm : P.follows .mixedOrders = true) (hN : a0.tmps.size = N) (hB : parB l N fin = true) (hB1 : parB1 l 1000 = true) (hfin : ∀ j ∈ fin, j < l.length)
    (hC : C { w with drawn := w.drawn + 1 })
    (hop : ParOps1 P l fin a0 C Rv 1000 1001 (fun _ _ => True) Q 0 l)
    (hend : ∀ a W, ParFr l a0 a → C W → (∀ j ∈ fin, parR Rv 1000 1001 (fun _ _ => True) j (parAt l a) W) → Q .normal a W) : (Code.region id l.toArray true).wp P Q a0 w := by
  refine wp_region_par C (parR Rv 1000 1001 (fun _ _ => True)) hm hN hB hfin hC (fun j val val' W h hr => ?_) (ParOps1.at hN hB hB1 (by decide) (fun i o h => by rw [Nat.zero_add]; exact h) hop) hend
  unfold parR at hr ⊢
  by_cases e : j = 1000
  · rw [if_pos e]
    trivial
  · rw [if_neg e] at hr ⊢
    rw [← h j (.inl rfl)]
    exact hr
theorem ParFr.at {a0 a : Act} (h : ParFr l a0 a) (s : Nat) (hs : l.all (fun o => o.dst != some s) = true) : a.tmps.getD s undef = a0.tmps.getD s undef :=
  h.old s fun o ho hd => by
    have := List.all_eq_true.1 hs o ho
    rw [hd] at this
    simp at this
theorem par_keep {Rv : List (Value → World → Prop)} {st al : Nat} {S : Value → World → Prop} {W W' : World} {L : List Nat} (hst : ∀ j v, (Rv.getD j fun _ _ => True) v W → (Rv.getD j fun _ _ => True) v W') (hS : ∀ v, S v W → S v W') : ∀ j ∈ L, ∀ val, parR Rv st al S j val W → parR Rv st al S j val W' := by
  intro j _ val h
  unfold parR at h ⊢
  split
  · rename_i e; rw [if_pos e] at h; exact hS _ h
  · rename_i e; rw [if_neg e] at h; exact hst _ _ h
end
end Go.Proofs.YtafbghlldlconaaGreatDoor

/-
  WHAT A FORM ASKS FOR, by the document: ref24.Make: the walk.
-/
namespace Go.Proofs.YtafbghlldlconaaGreatDoor
set_option linter.unusedVariables false
set_option linter.unusedSimpArgs false
open Go.RowKit PT
theorem gr_alloc {w W : World} {o : Obj} (h : Below w.heap.size w W) : Below w.heap.size w (W.alloc o) := h.alloc h.size o
set_option maxHeartbeats 4000000 in
set_option maxRecDepth 100000 in
theorem refMake_any (l : List Nd) (cs : List Ct) (vn vc : Value) (f s : Int) (es : List Ent) (u : Value) (X : List (List UInt8)) (v : Value) (hl : es.length ≤ 1000) (hS : ∀ x ∈ es, Brief x) (hX8 : ∀ x ∈ X.take 8, x.length ≤ 1000000) (w : World) (hD : DocAt l cs vn vc w) (hU : Ents es u w) (hV : Txts X v w) :
    Calls Tryz.prog 9 #[.agg #[vn, vc], .int .i64 f, .int .i64 s, u, v] w fun e w' => e = .returned (mkV (planP l cs f s es X)) ∧ Below w.heap.size w w' := by
  have hmax := hD.nodes.len
  have hfits := hD.nodes.fits
  obtain ⟨a1, cap1, rfl⟩ := hD.nodes.nodes.len
  obtain ⟨a2, cap2, rfl⟩ := hD.ctls.len
  obtain ⟨hD1, hb1, hs1, c0, c1⟩ := doc_box (T := 25) hD
  obtain ⟨pp, hpp⟩ : ∃ pp, planP l cs f s es X = pp := ⟨_, rfl⟩
  rw [hpp]
  unfold planP at hpp
  have hP := hpp.symm
  clear hpp
  obtain ⟨W1, hW1⟩ : ∃ W1, W1 = w.alloc (.cells #[.slice a1 l.length cap1, .slice a2 cs.length cap2] 25) := ⟨_, rfl⟩
  rw [← hW1] at hD1 hb1 hs1 c0 c1
  have hbA := one_allocV (w := W1) (.cells #[.string ⟨#[]⟩, .string ⟨#[]⟩, .string ⟨#[]⟩, .string ⟨#[]⟩, .string ⟨#[]⟩] 33)
  have hn0 := Go.heap_alloc_new W1 (.cells #[.string ⟨#[]⟩, .string ⟨#[]⟩, .string ⟨#[]⟩, .string ⟨#[]⟩, .string ⟨#[]⟩] 33)
  have hs2 : (W1.alloc (.cells #[.string ⟨#[]⟩, .string ⟨#[]⟩, .string ⟨#[]⟩, .string ⟨#[]⟩, .string ⟨#[]⟩] 33)).heap.size = W1.heap.size + 1 := by simp
  obtain ⟨W2, hW2⟩ : ∃ W2, W2 = W1.alloc (.cells #[.string ⟨#[]⟩, .string ⟨#[]⟩, .string ⟨#[]⟩, .string ⟨#[]⟩, .string ⟨#[]⟩] 33) := ⟨_, rfl⟩
  rw [← hW2] at hbA hn0 hs2
  rw [hs1] at hn0 hs2
  have d0 := cellK hbA (by omega) c0
  have d1 := cellK hbA (by omega) c1
  have hD2 := hD1.kept hbA
  have hb2 := bs hb1 hbA
  have HW1 := Lib.hid hW1
  have HW2 := Lib.hid hW2
  clear hW1 hW2
  cases hk : okD l cs
  · have hR := Lib.hid (hP.trans (if_pos (.inl hk)))
    have HK := Lib.hid hk
    clear hk hP
    go_enter Tryz.func9, Tryz.ntmps9
    go_wp2_with fail
    rw [← HW1.out, ← HW2.out]
    refine (refRight15_any l cs _ _ _ hD2).mono ?_
    rintro e w3 ⟨rfl, hb3⟩
    rw [HK.out]
    have hn1 := blk_kept hb3 hn0
    have hbb := bs hb2 hb3
    obtain ⟨x0, x1, x2, x3, x4, f0, f1, f2, f3, f4⟩ := five_of hn1
    go_wp2_with fail
    have z := set5_heap (.string ⟨#[]⟩) (.string ⟨#[]⟩) (.string ⟨#[]⟩) (.string ⟨#[]⟩) (.string ⟨#[]⟩) hn1
    have hb9 := hbb.trans (set5_below _ (w.heap.size + 1) (.string ⟨#[]⟩) (.string ⟨#[]⟩) (.string ⟨#[]⟩) (.string ⟨#[]⟩) (.string ⟨#[]⟩) (show w.heap.size ≤ w.heap.size + 1 by omega))
    generalize World.setCell (World.setCell (World.setCell (World.setCell (World.setCell _ _ _) _ _) _ _) _ _) _ _ = W9 at z hb9 ⊢
    obtain ⟨y0, y1, y2, y3, y4, _, _, _, _, _⟩ := five_of z
    exact bodyPost_ret (v := .tuple #[.agg #[.string ⟨#[]⟩, .string ⟨#[]⟩, .string ⟨#[]⟩, .string ⟨#[]⟩, .string ⟨#[]⟩], .int .i64 4]) (by simp [results, Tryz.results9, go_sem, y0, y1, y2, y3, y4]) rfl ⟨by rw [hR.out]; rfl, hb9⟩
  obtain ⟨hRP, hll⟩ := okD_iff.1 hk
  have HK := Lib.hid hk
  have HLL := Lib.hid hll
  clear hll
  cases hh : hasB l f
  · have hR := Lib.hid (hP.trans (if_pos (.inr hh)))
    have HH := Lib.hid hh
    clear hk hP hh
    go_enter Tryz.func9, Tryz.ntmps9
    go_wp2_with fail
    rw [← HW1.out, ← HW2.out]
    refine (refRight15_any l cs _ _ _ hD2).mono ?_
    rintro e w3 ⟨rfl, hb3⟩
    rw [HK.out]
    have e0 := cellK hb3 (by omega) d0
    have hD3 := hD2.kept hb3
    go_wp2_with fail
    refine (refHas10_any l _ f hmax hfits _ hD3.nodes.nodes).mono ?_
    rintro e w4 ⟨rfl, hb4⟩
    rw [HH.out]
    have hb24 := bs hb3 hb4
    have hn1 := blk_kept hb24 hn0
    have hbb := bs hb2 hb24
    obtain ⟨x0, x1, x2, x3, x4, f0, f1, f2, f3, f4⟩ := five_of hn1
    go_wp2_with fail
    have z := set5_heap (.string ⟨#[]⟩) (.string ⟨#[]⟩) (.string ⟨#[]⟩) (.string ⟨#[]⟩) (.string ⟨#[]⟩) hn1
    have hb9 := hbb.trans (set5_below _ (w.heap.size + 1) (.string ⟨#[]⟩) (.string ⟨#[]⟩) (.string ⟨#[]⟩) (.string ⟨#[]⟩) (.string ⟨#[]⟩) (show w.heap.size ≤ w.heap.size + 1 by omega))
    generalize World.setCell (World.setCell (World.setCell (World.setCell (World.setCell _ _ _) _ _) _ _) _ _) _ _ = W9 at z hb9 ⊢
    obtain ⟨y0, y1, y2, y3, y4, _, _, _, _, _⟩ := five_of z
    exact bodyPost_ret (v := .tuple #[.agg #[.string ⟨#[]⟩, .string ⟨#[]⟩, .string ⟨#[]⟩, .string ⟨#[]⟩, .string ⟨#[]⟩], .int .i64 4]) (by simp [results, Tryz.results9, go_sem, y0, y1, y2, y3, y4]) rfl ⟨by rw [hR.out]; rfl, hb9⟩
  have HH := Lib.hid hh
  obtain ⟨h0, h1, _⟩ := (hasB_iff l f).1 hh
  replace hP := hP.trans (if_neg (fun h => by
    rcases h with h | h
    · rw [hk] at h; cases h
    · rw [hh] at h; cases h))
  have hsA := setS_size hRP f s ⟨#[102, 111, 114, 109, 97, 99, 116, 105, 111, 110]⟩ ⟨#[97, 99, 116, 105, 111, 110]⟩
  obtain ⟨K, rfl⟩ := Int.eq_ofNat_of_zero_le h0
  have hkl : K < l.length := by omega
  rw [kOf_at hkl] at hP
  obtain ⟨b, o, cap', va, vk, hv, hb, e0, e1, e2, e3, e4, hat, hks⟩ := hD2.nodes.nodes.at hkl
  cases hv
  have hfm := kind_form l[K]
  generalize l[K] = nd at *
  have hK0 : (0 : Int) ≤ (K : Int) := by omega
  have hK1 : (K : Int) < (l.length : Int) := by omega
  clear hk hh h0 h1
  have hg2 := hb2.size
  by_cases h30 : kindOf nd = 30
  case neg =>
    have hR := Lib.hid (hP.trans (if_pos h30))
    have g1 := sFalse (fun e => h30 (hfm.2 e))
    rw [form_toList] at g1
    have g2 : (nd.nm.toList != [102, 111, 114, 109]) = true := by rw [bne, g1]; rfl
    clear hP h30 hfm
    go_enter Tryz.func9, Tryz.ntmps9
    go_wp2_with fail
    rw [← HW1.out, ← HW2.out]
    refine (refRight15_any l cs _ _ _ hD2).mono ?_
    rintro e w3 ⟨rfl, hb3⟩
    rw [HK.out]
    have i0 := cellK hb3 (by omega) d0
    have hD3 := hD2.kept hb3
    go_wp2_with fail
    refine (refHas10_any l _ (K : Nat) hmax hfits _ hD3.nodes.nodes).mono ?_
    rintro e w4 ⟨rfl, hb4⟩
    rw [HH.out]
    have hb24 := bs hb3 hb4
    have hD4 := hD2.kept hb24
    have hn4 := blk_kept hb24 hn0
    have hbb4 := bs hb2 hb24
    have i0 := cellK hb24 (by omega) d0
    have i1 := cellK hb24 hb e0
    obtain ⟨x0, x1, x2, x3, x4, f0, f1, f2, f3, f4⟩ := five_of hn4
    go_wp2_with fail
    have z := set5_heap (.string ⟨#[]⟩) (.string ⟨#[]⟩) (.string ⟨#[]⟩) (.string ⟨#[]⟩) (.string ⟨#[]⟩) hn4
    have hb9 := hbb4.trans (set5_below _ (w.heap.size + 1) (.string ⟨#[]⟩) (.string ⟨#[]⟩) (.string ⟨#[]⟩) (.string ⟨#[]⟩) (.string ⟨#[]⟩) (show w.heap.size ≤ w.heap.size + 1 by omega))
    generalize World.setCell (World.setCell (World.setCell (World.setCell (World.setCell _ _ _) _ _) _ _) _ _) _ _ = W9 at z hb9 ⊢
    obtain ⟨y0, y1, y2, y3, y4, _, _, _, _, _⟩ := five_of z
    exact bodyPost_ret (v := .tuple #[.agg #[.string ⟨#[]⟩, .string ⟨#[]⟩, .string ⟨#[]⟩, .string ⟨#[]⟩, .string ⟨#[]⟩], .int .i64 3]) (by simp [results, Tryz.results9, go_sem, y0, y1, y2, y3, y4]) rfl ⟨by rw [hR.out]; rfl, hb9⟩
  have g1 := sTrue (hfm.1 h30)
  rw [form_toList] at g1
  have g2 : (nd.nm.toList != [102, 111, 114, 109]) = false := by rw [bne, g1]; rfl
  replace hP := hP.trans (if_neg (fun h => h h30))
  clear h30 hfm
  obtain ⟨m, hm⟩ : ∃ m, methF l (K : Nat) s = m := ⟨_, rfl⟩
  obtain ⟨tt, htt⟩ : ∃ tt, setS l (K : Nat) s ⟨#[102, 111, 114, 109, 116, 97, 114, 103, 101, 116]⟩ ⟨#[116, 97, 114, 103, 101, 116]⟩ = tt := ⟨_, rfl⟩
  obtain ⟨aa, haa⟩ : ∃ aa, setS l (K : Nat) s ⟨#[102, 111, 114, 109, 97, 99, 116, 105, 111, 110]⟩ ⟨#[97, 99, 116, 105, 111, 110]⟩ = aa := ⟨_, rfl⟩
  obtain ⟨kn, hkn⟩ : ∃ kn, kinF l (K : Nat) s = kn := ⟨_, rfl⟩
  rw [hm, htt, haa, hkn] at hP
  rw [haa] at hsA
  have HM := Lib.hid hm
  have HTT := Lib.hid htt
  have HAA := Lib.hid haa
  have HKN := Lib.hid hkn
  have HP := Lib.hid hP
  clear hm htt haa hkn hP
  go_enter Tryz.func9, Tryz.ntmps9
  go_wp2_with fail
  rw [← HW1.out, ← HW2.out]
  refine (refRight15_any l cs _ _ _ hD2).mono ?_
  rintro e w3 ⟨rfl, hb3⟩
  rw [HK.out]
  have i0 := cellK hb3 (by omega) d0
  have hD3 := hD2.kept hb3
  go_wp2_with fail
  refine (refHas10_any l _ (K : Nat) hmax hfits _ hD3.nodes.nodes).mono ?_
  rintro e w4 ⟨rfl, hb4⟩
  rw [HH.out]
  have hb24 := bs hb3 hb4
  have hD4 := hD2.kept hb24
  have hn4 := blk_kept hb24 hn0
  have hbb4 := bs hb2 hb24
  have i0 := cellK hb24 (by omega) d0
  have i1 := cellK hb24 hb e0
  have i1' := cellK hb24 (by omega) d1
  have hg4 := hb24.size
  have hlt4 : w.heap.size < w4.heap.size := by omega
  have hlt2 : w.heap.size < W2.heap.size := by omega
  clear hD3 hb3 hb4 e0 e1 e2 e3 e4 hat hks hn0 hD1 hbA hb1 hs1 c0 c1 d1
  go_upto_region 5 with fail
  clear i1
  go_cut [12] (fun s12 wx => ∃ p : Nat, s12 = .pointer (some ⟨p, 0, none⟩) ∧ wx.heap[p]? = some (.cells #[.string m, .string ⟨#[]⟩, .string tt, .string ⟨#[]⟩, .string ⟨#[]⟩] 33 (0, 0)) ∧ w4.heap.size ≤ p ∧ p < wx.heap.size ∧ Below w4.heap.size w4 wx)
  case first =>
    have hbd : Below w4.heap.size w4 w4.drew := below_draws w4 1
    have hst : ∀ W W' : World, Below W.heap.size W W' → ∀ j v, (([fun v _ => v = .pointer (some ⟨w.heap.size, 0, none⟩), fun v _ => v = .slice (some ⟨b, o, none⟩) l.length cap1, fun v _ => v = .int .i64 K, fun v _ => v = .int .i64 s, fun v _ => v = .string m, fun v _ => v = .pointer (some ⟨w.heap.size, 0, none⟩), fun v _ => v = .slice (some ⟨b, o, none⟩) l.length cap1, fun v _ => v = .int .i64 K, fun v _ => v = .int .i64 s, fun v _ => v = .string tt, fun v _ => v = .agg #[.string m, .string ⟨#[]⟩, .string tt, .string ⟨#[]⟩, .string ⟨#[]⟩], fun v W => ∃ p, v = .pointer (some ⟨p, 0, none⟩) ∧ w4.heap.size ≤ p ∧ ∃ c0 c1 c2 c3 c4, W.heap[p]? = some (.cells #[c0, c1, c2, c3, c4] 33 (0, 0))] : List (Value → World → Prop)).getD j fun _ _ => True) v W → (([fun v _ => v = .pointer (some ⟨w.heap.size, 0, none⟩), fun v _ => v = .slice (some ⟨b, o, none⟩) l.length cap1, fun v _ => v = .int .i64 K, fun v _ => v = .int .i64 s, fun v _ => v = .string m, fun v _ => v = .pointer (some ⟨w.heap.size, 0, none⟩), fun v _ => v = .slice (some ⟨b, o, none⟩) l.length cap1, fun v _ => v = .int .i64 K, fun v _ => v = .int .i64 s, fun v _ => v = .string tt, fun v _ => v = .agg #[.string m, .string ⟨#[]⟩, .string tt, .string ⟨#[]⟩, .string ⟨#[]⟩], fun v W => ∃ p, v = .pointer (some ⟨p, 0, none⟩) ∧ w4.heap.size ≤ p ∧ ∃ c0 c1 c2 c3 c4, W.heap[p]? = some (.cells #[c0, c1, c2, c3, c4] 33 (0, 0))] : List (Value → World → Prop)).getD j fun _ _ => True) v W' := fun W W' hb j v h => match j, h with
      | 0, h => h
      | 1, h => h
      | 2, h => h
      | 3, h => h
      | 4, h => h
      | 5, h => h
      | 6, h => h
      | 7, h => h
      | 8, h => h
      | 9, h => h
      | 10, h => h
      | 11, ⟨p, h1, h2, c0, c1, c2, c3, c4, h3⟩ => ⟨p, h1, h2, c0, c1, c2, c3, c4, blk_kept hb h3⟩
      | _ + 12, _ => trivial
    refine wp_region_par1 [12] (fun W => Below w4.heap.size w4 W) [fun v _ => v = .pointer (some ⟨w.heap.size, 0, none⟩), fun v _ => v = .slice (some ⟨b, o, none⟩) l.length cap1, fun v _ => v = .int .i64 K, fun v _ => v = .int .i64 s, fun v _ => v = .string m, fun v _ => v = .pointer (some ⟨w.heap.size, 0, none⟩), fun v _ => v = .slice (some ⟨b, o, none⟩) l.length cap1, fun v _ => v = .int .i64 K, fun v _ => v = .int .i64 s, fun v _ => v = .string tt, fun v _ => v = .agg #[.string m, .string ⟨#[]⟩, .string tt, .string ⟨#[]⟩, .string ⟨#[]⟩], fun v W => ∃ p, v = .pointer (some ⟨p, 0, none⟩) ∧ w4.heap.size ≤ p ∧ ∃ c0 c1 c2 c3 c4, W.heap[p]? = some (.cells #[c0, c1, c2, c3, c4] 33 (0, 0))] 12 11 (fun v W => ∃ p, v = .pointer (some ⟨p, 0, none⟩) ∧ w4.heap.size ≤ p ∧ W.heap[p]? = some (.cells #[.string m, .string ⟨#[]⟩, .string tt, .string ⟨#[]⟩, .string ⟨#[]⟩] 33 (0, 0))) (by kernel_rfl) rfl (by kernel_rfl) (by kernel_rfl) (by decide) (by kernel_rfl) (by decide) hbd ?_ ?_
    · refine ⟨fun a W hF hC hd K0 hK => ?_, fun a W hF hC hd K0 hK => ?_, fun a W hF hC hd K0 hK => ?_, fun a W hF hC hd K0 hK => ?_, fun a W hF hC hd K0 hK => ?_, fun a W hF hC hd K0 hK => ?_, fun a W hF hC hd K0 hK => ?_, fun a W hF hC hd K0 hK => ?_, fun a W hF hC hd K0 hK => ?_, fun a W hF hC hd K0 hK => ?_, fun a W hF hC hd K0 hK => ?_, fun a W hF hC hd K0 hK => ?_, fun a W hF hC hd K0 hK => ?_, trivial⟩
      · have s5 : a.tmps.getD 5 undef = .pointer (some ⟨w.heap.size, 0, none⟩) := hF.at 5 (by kernel_rfl)
        go_simp
        exact hK _ _ hC (fun _ => rfl) (fun h => absurd h (by decide)) (.inl rfl)
      · have s38 : a.tmps.getD 38 undef = .pointer (some ⟨w.heap.size, 0, none⟩) := parR_of 0 (by decide) rfl (hd 0 (by kernel_rfl))
        have q0 := cellK hC hlt4 i0
        go_simp
        exact hK _ _ hC (fun _ => rfl) (fun h => absurd h (by decide)) (.inl rfl)
      · have s1 : a.tmps.getD 1 undef = .int .i64 K := hF.at 1 (by kernel_rfl)
        go_simp
        exact hK _ _ hC (fun _ => rfl) (fun h => absurd h (by decide)) (.inl rfl)
      · have s2 : a.tmps.getD 2 undef = .int .i64 s := hF.at 2 (by kernel_rfl)
        go_simp
        exact hK _ _ hC (fun _ => rfl) (fun h => absurd h (by decide)) (.inl rfl)
      · have s39 : a.tmps.getD 39 undef = .slice (some ⟨b, o, none⟩) l.length cap1 := parR_of 1 (by decide) rfl (hd 1 (by kernel_rfl))
        have s40 : a.tmps.getD 40 undef = .int .i64 K := parR_of 2 (by decide) rfl (hd 2 (by kernel_rfl))
        have s41 : a.tmps.getD 41 undef = .int .i64 s := parR_of 3 (by decide) rfl (hd 3 (by kernel_rfl))
        go_simp
        refine (refMethod_any l _ (K : Nat) s hmax hfits _ (hD4.kept hC).nodes.nodes).mono ?_
        rintro e w5 ⟨rfl, hb5⟩
        rw [HM.out]
        exact hK _ _ (bs hC hb5) (fun _ => rfl) (fun h => absurd h (by decide)) (.inr (par_keep (hst _ _ hb5) (fun v ⟨p, h1, h2, h3⟩ => ⟨p, h1, h2, blk_kept hb5 h3⟩)))
      · have s5 : a.tmps.getD 5 undef = .pointer (some ⟨w.heap.size, 0, none⟩) := hF.at 5 (by kernel_rfl)
        go_simp
        exact hK _ _ hC (fun _ => rfl) (fun h => absurd h (by decide)) (.inl rfl)
      · have s43 : a.tmps.getD 43 undef = .pointer (some ⟨w.heap.size, 0, none⟩) := parR_of 5 (by decide) rfl (hd 5 (by kernel_rfl))
        have q0 := cellK hC hlt4 i0
        go_simp
        exact hK _ _ hC (fun _ => rfl) (fun h => absurd h (by decide)) (.inl rfl)
      · have s1 : a.tmps.getD 1 undef = .int .i64 K := hF.at 1 (by kernel_rfl)
        go_simp
        exact hK _ _ hC (fun _ => rfl) (fun h => absurd h (by decide)) (.inl rfl)
      · have s2 : a.tmps.getD 2 undef = .int .i64 s := hF.at 2 (by kernel_rfl)
        go_simp
        exact hK _ _ hC (fun _ => rfl) (fun h => absurd h (by decide)) (.inl rfl)
      · have s44 : a.tmps.getD 44 undef = .slice (some ⟨b, o, none⟩) l.length cap1 := parR_of 6 (by decide) rfl (hd 6 (by kernel_rfl))
        have s45 : a.tmps.getD 45 undef = .int .i64 K := parR_of 7 (by decide) rfl (hd 7 (by kernel_rfl))
        have s46 : a.tmps.getD 46 undef = .int .i64 s := parR_of 8 (by decide) rfl (hd 8 (by kernel_rfl))
        go_simp
        refine (refSetting_any l _ (K : Nat) s ⟨#[102, 111, 114, 109, 116, 97, 114, 103, 101, 116]⟩ ⟨#[116, 97, 114, 103, 101, 116]⟩ hmax hRP HH.out _ (hD4.kept hC).nodes.nodes).mono ?_
        rintro e w5 ⟨rfl, hb5⟩
        rw [HTT.out]
        exact hK _ _ (bs hC hb5) (fun _ => rfl) (fun h => absurd h (by decide)) (.inr (par_keep (hst _ _ hb5) (fun v ⟨p, h1, h2, h3⟩ => ⟨p, h1, h2, blk_kept hb5 h3⟩)))
      · have s42 : a.tmps.getD 42 undef = .string m := parR_of 4 (by decide) rfl (hd 4 (by kernel_rfl))
        have s47 : a.tmps.getD 47 undef = .string tt := parR_of 9 (by decide) rfl (hd 9 (by kernel_rfl))
        have t42 : a.tmps[42]?.getD undef = .string m := by rw [← Array.getD_eq_getD_getElem?]; exact s42
        have t47 : a.tmps[47]?.getD undef = .string tt := by rw [← Array.getD_eq_getD_getElem?]; exact s47
        go_simp
        exact hK _ _ hC (fun _ => rfl) (fun h => absurd h (by decide)) (.inl rfl)
      · go_simp
        exact hK _ _ (gr_alloc hC) (fun _ => ⟨W.heap.size, rfl, hC.size, _, _, _, _, _, Go.heap_alloc_new W _⟩) (fun h => absurd h (by decide)) (.inr (par_keep (hst _ _ (one_allocV _)) (fun v ⟨p, h1, h2, h3⟩ => ⟨p, h1, h2, blk_kept (one_allocV _) h3⟩)))
      · obtain ⟨p, hp, hge, c0, c1, c2, c3, c4, hh⟩ := parR_of 11 (by decide) rfl (hd 11 (by kernel_rfl))
        have s12 : a.tmps.getD 12 undef = .pointer (some ⟨p, 0, none⟩) := hp
        have s48 : a.tmps.getD 48 undef = .agg #[.string m, .string ⟨#[]⟩, .string tt, .string ⟨#[]⟩, .string ⟨#[]⟩] := parR_of 10 (by decide) rfl (hd 10 (by kernel_rfl))
        obtain ⟨p0, p1, p2, p3, p4, r0, r1, r2, r3, r4⟩ := five_of hh
        go_simp
        exact hK undef _ (hC.trans (set5_below _ p _ _ _ _ _ hge)) (fun h => absurd rfl h) (fun _ => ⟨p, hp, hge, set5_heap _ _ _ _ _ hh⟩) (.inr (by rw [show parKeep _ [12] 12 = [] by kernel_rfl]; intro j hj; cases hj))
    · intro a W hF hC hfin
      obtain ⟨p, hp, hge, hh⟩ := parR_st (hfin 12 (by decide))
      have h12 : a.tmps.getD 12 undef = .pointer (some ⟨p, 0, none⟩) := hp
      clear hp
      have ha := hF.lay (fin := [12]) rfl (by kernel_rfl)
      simp only [List.foldl_cons, List.foldl_nil] at ha
      rw [h12] at ha
      generalize a.tmps.getD 38 undef = v38 at ha
      generalize a.tmps.getD 39 undef = v39 at ha
      generalize a.tmps.getD 40 undef = v40 at ha
      generalize a.tmps.getD 41 undef = v41 at ha
      generalize a.tmps.getD 42 undef = v42 at ha
      generalize a.tmps.getD 43 undef = v43 at ha
      generalize a.tmps.getD 44 undef = v44 at ha
      generalize a.tmps.getD 45 undef = v45 at ha
      generalize a.tmps.getD 46 undef = v46 at ha
      generalize a.tmps.getD 47 undef = v47 at ha
      generalize a.tmps.getD 48 undef = v48 at ha
      simp only [Act.put, List.setIfInBounds_toArray, List.set_cons_zero, List.set_cons_succ] at ha
      clear hF hfin
      subst ha
      go_wp2_with fail
      go_meet
      exact ⟨p, rfl, hh, hge, (Array.getElem?_eq_some_iff.1 hh).1, hC⟩
  case rest =>
    obtain ⟨p, rfl, hq, hge, hpl, hbx⟩ := hcut
    have hDx := hD4.kept hbx
    have j0 := cellK hbx hlt4 i0
    have j1 := cellK hbx hlt4 i1'
    have hnx := blk_kept hbx hn4
    have hbbx := bs hbb4 hbx
    have hgx := hbx.size
    have hbx' := hbx
    clear hD4 hn4 hbb4 i0 i1' hbx
    go_wp2_with fail
    refine (refSetting_any l _ (K : Nat) s ⟨#[102, 111, 114, 109, 97, 99, 116, 105, 111, 110]⟩ ⟨#[97, 99, 116, 105, 111, 110]⟩ hmax hRP HH.out _ hDx.nodes.nodes).mono ?_
    rintro e wA ⟨rfl, hbA2⟩
    rw [HAA.out]
    have hDA := hDx.kept hbA2
    have hnA := blk_kept hbA2 hnx
    have hqA := blk_kept hbA2 hq
    have j0 := cellK hbA2 (by omega) j0
    have j1 := cellK hbA2 (by omega) j1
    have hbb := bs hbbx hbA2
    have hb2A := bs (bs hb24 hbx') hbA2
    have hg2p : W2.heap.size ≤ p := by omega
    have hgA := hbA2.size
    have hplA : p < wA.heap.size := by omega
    have hne : p ≠ w.heap.size + 1 := by omega
    have hwp : w.heap.size ≤ p := by omega
    have hlA : w.heap.size < wA.heap.size := by omega
    clear hDx hnx hq hbbx hbA2 hgx hg4 hlt4 hgA
    by_cases hG : m = ⟨#[103, 101, 116]⟩
    · have hR := Lib.hid (HP.out.trans (if_pos hG))
      have g3 := sTrue hG
      rw [get_toList] at g3
      clear hG
      have hzE : (encP (told es)).length ≤ 400000000000000 := by
        have h1 := jn_prt_len es hS
        rw [← encP_told] at h1
        have h2 : es.length * 40001 ≤ 1000 * 40001 := Nat.mul_le_mul_right _ hl
        omega
      obtain ⟨p0, p1, p2, p3, p4, r0, r1, r2, r3, r4⟩ := five_of hqA
      go_wp2_with fail
      refine (refEncode19_any es _ _ (hU.kept hbb) hl hS).mono ?_
      rintro e wB ⟨rfl, hbB⟩
      go_wp2_with fail
      refine (refQuery_any aa ⟨(encP (told es)).toArray⟩ (by omega) (by rw [size_mk]; exact hzE) _).mono ?_
      rintro e wC ⟨rfl, hbC⟩
      have hbAC := bs hbB hbC
      have hnC := blk_kept hbAC hnA
      have hqC := blk_kept hbAC hqA
      have hbbC := bs hbb hbAC
      obtain ⟨p0, p1, p2, p3, p4, r0, r1, r2, r3, r4⟩ := five_of hqC
      obtain ⟨x0, x1, x2, x3, x4, f0, f1, f2, f3, f4⟩ := five_of hnC
      go_wp2_with fail
      have z := set5_heap (.string m) (.string ⟨(qry aa.data.toList (encP (told es))).toArray⟩) (.string tt) (.string ⟨#[]⟩) (.string ⟨#[]⟩) (set1_other (i := 1) (.string ⟨(qry aa.data.toList (encP (told es))).toArray⟩) hne hnC)
      have hb9 := (hbbC.trans ((Below.refl _ _).setCell (p := ⟨p, 1, none⟩) hwp (.string ⟨(qry aa.data.toList (encP (told es))).toArray⟩))).trans (set5_below _ (w.heap.size + 1) (.string m) (.string ⟨(qry aa.data.toList (encP (told es))).toArray⟩) (.string tt) (.string ⟨#[]⟩) (.string ⟨#[]⟩) (show w.heap.size ≤ w.heap.size + 1 by omega))
      generalize World.setCell (World.setCell (World.setCell (World.setCell (World.setCell _ _ _) _ _) _ _) _ _) _ _ = W9 at z hb9 ⊢
      obtain ⟨y0, y1, y2, y3, y4, _, _, _, _, _⟩ := five_of z
      exact bodyPost_ret (v := .tuple #[.agg #[.string m, .string ⟨(qry aa.data.toList (encP (told es))).toArray⟩, .string tt, .string ⟨#[]⟩, .string ⟨#[]⟩], .int .i64 0]) (by simp [results, Tryz.results9, go_sem, y0, y1, y2, y3, y4]) rfl ⟨by rw [hR.out]; rfl, hb9⟩
    have g3 := sFalse hG
    rw [get_toList] at g3
    have HP2 := Lib.hid (HP.out.trans (if_neg hG))
    clear hG
    by_cases hDi : m = ⟨#[100, 105, 97, 108, 111, 103]⟩
    · have hP3 := HP2.out.trans (if_pos hDi)
      have g4 := sTrue hDi
      rw [dia24_toList] at g4
      clear hDi
      obtain ⟨p0, p1, p2, p3, p4, r0, r1, r2, r3, r4⟩ := five_of hqA
      cases hfi : fireB l s
      · have hR := Lib.hid (hP3.trans (by rw [hfi, if_neg Bool.false_ne_true]))
        have HF := Lib.hid hfi
        clear hfi hP3
        go_wp2_with fail
        refine (refFires24_any l _ s hmax hRP _ hDA.nodes.nodes).mono ?_
        rintro e wB ⟨rfl, hbB⟩
        rw [HF.out]
        have hnC := blk_kept hbB hnA
        have hqC := blk_kept hbB hqA
        have hbbC := bs hbb hbB
        obtain ⟨p0, p1, p2, p3, p4, r0, r1, r2, r3, r4⟩ := five_of hqC
        obtain ⟨x0, x1, x2, x3, x4, f0, f1, f2, f3, f4⟩ := five_of hnC
        go_wp2_with fail
        have z := set5_heap (.string m) (.string ⟨#[]⟩) (.string tt) (.string ⟨#[]⟩) (.string ⟨#[]⟩) hnC
        have hb9 := hbbC.trans (set5_below _ (w.heap.size + 1) (.string m) (.string ⟨#[]⟩) (.string tt) (.string ⟨#[]⟩) (.string ⟨#[]⟩) (show w.heap.size ≤ w.heap.size + 1 by omega))
        generalize World.setCell (World.setCell (World.setCell (World.setCell (World.setCell _ _ _) _ _) _ _) _ _) _ _ = W9 at z hb9 ⊢
        obtain ⟨y0, y1, y2, y3, y4, _, _, _, _, _⟩ := five_of z
        exact bodyPost_ret (v := .tuple #[.agg #[.string m, .string ⟨#[]⟩, .string tt, .string ⟨#[]⟩, .string ⟨#[]⟩], .int .i64 0]) (by simp [results, Tryz.results9, go_sem, y0, y1, y2, y3, y4]) rfl ⟨by rw [hR.out]; rfl, hb9⟩
      · have hR := Lib.hid (hP3.trans (by rw [if_pos hfi]))
        have HF := Lib.hid hfi
        obtain ⟨i0, i1⟩ := fireB_in hfi
        obtain ⟨hk1, hk2⟩ := fire_kind hfi
        clear hfi hP3
        obtain ⟨S, rfl⟩ := Int.eq_ofNat_of_zero_le i0
        have hSl : S < l.length := by omega
        obtain ⟨vv, hvv⟩ : ∃ vv, valDO l cs (S : Nat) = vv := ⟨_, rfl⟩
        have HVV := Lib.hid hvv
        clear hvv i0 i1
        go_wp2_with fail
        refine (refFires24_any l _ (S : Nat) hmax hRP _ hDA.nodes.nodes).mono ?_
        rintro e wB ⟨rfl, hbB⟩
        rw [HF.out]
        have j0 := cellK hbB hlA j0
        have j1 := cellK hbB hlA j1
        have hDB := hDA.kept hbB
        go_wp2_with fail
        refine (refValue18_any l cs _ _ S hSl hRP HLL.out hk1 hk2 _ hDB).mono ?_
        rintro e wC ⟨rfl, hbC⟩
        rw [HVV.out]
        have hbAC := bs hbB hbC
        have hnC := blk_kept hbAC hnA
        have hqC := blk_kept hbAC hqA
        have hbbC := bs hbb hbAC
        obtain ⟨p0, p1, p2, p3, p4, r0, r1, r2, r3, r4⟩ := five_of hqC
        obtain ⟨x0, x1, x2, x3, x4, f0, f1, f2, f3, f4⟩ := five_of hnC
        go_wp2_with fail
        have z := set5_heap (.string m) (.string ⟨#[]⟩) (.string tt) (.string vv) (.string ⟨#[]⟩) (set1_other (i := 3) (.string vv) hne hnC)
        have hb9 := (hbbC.trans ((Below.refl _ _).setCell (p := ⟨p, 3, none⟩) hwp (.string vv))).trans (set5_below _ (w.heap.size + 1) (.string m) (.string ⟨#[]⟩) (.string tt) (.string vv) (.string ⟨#[]⟩) (show w.heap.size ≤ w.heap.size + 1 by omega))
        generalize World.setCell (World.setCell (World.setCell (World.setCell (World.setCell _ _ _) _ _) _ _) _ _) _ _ = W9 at z hb9 ⊢
        obtain ⟨y0, y1, y2, y3, y4, _, _, _, _, _⟩ := five_of z
        exact bodyPost_ret (v := .tuple #[.agg #[.string m, .string ⟨#[]⟩, .string tt, .string vv, .string ⟨#[]⟩], .int .i64 0]) (by simp [results, Tryz.results9, go_sem, y0, y1, y2, y3, y4]) rfl ⟨by rw [hR.out, HVV.out]; rfl, hb9⟩
    have g4 := sFalse hDi
    rw [dia24_toList] at g4
    have HP3 := Lib.hid (HP2.out.trans (if_neg hDi))
    clear hDi
    have hbbS : Below w.heap.size w (wA.setCell ⟨p, 1, none⟩ (.string aa)) := hbb.trans ((Below.refl _ _).setCell (p := ⟨p, 1, none⟩) hwp (.string aa))
    have hnS := set1_other (i := 1) (.string aa) hne hnA
    have hqS : (wA.setCell ⟨p, 1, none⟩ (.string aa)).heap[p]? = some (.cells #[.string m, .string aa, .string tt, .string ⟨#[]⟩, .string ⟨#[]⟩] 33) := setCell_heap (i := 1) (.string aa) hqA
    have hbWS : Below W2.heap.size W2 (wA.setCell ⟨p, 1, none⟩ (.string aa)) := hb2A.trans ((Below.refl _ _).setCell (p := ⟨p, 1, none⟩) hg2p (.string aa))
    obtain ⟨WS, hWS⟩ : ∃ WS, WS = wA.setCell ⟨p, 1, none⟩ (.string aa) := ⟨_, rfl⟩
    rw [← hWS] at hbbS hnS hqS hbWS
    have HWS := Lib.hid hWS
    clear hWS
    have hDS := hD2.kept hbWS
    have k0 := cellK hbWS hlt2 d0
    obtain ⟨p0, p1, p2, p3, p4, r0, r1, r2, r3, r4⟩ := five_of hqA
    go_wp2_with fail
    rw [← HWS.out]
    refine (refKind24_any l _ (K : Nat) s hmax hfits _ hDS.nodes.nodes).mono ?_
    rintro e wB ⟨rfl, hbB⟩
    rw [HKN.out]
    have hbbB := bs hbbS hbB
    have hnB := blk_kept hbB hnS
    have hqB := blk_kept hbB hqS
    clear p0 p1 p2 p3 p4 r0 r1 r2 r3 r4 hnA hqA hbb hDA j0 j1
    by_cases h2 : kn = 2
    · have hP4 := HP3.out.trans (if_pos h2)
      subst h2
      cases hch : chosen es X with
      | none =>
        have hR := Lib.hid (hP4.trans (by rw [hch]))
        have HC := Lib.hid hch
        clear hch hP4
        go_wp2_with fail
        refine (refChoose_any es _ X _ (by omega) hS hX8 _ (hU.kept hbbB) (hV.kept hbbB)).mono ?_
        rintro e wC ⟨rfl, hbC⟩
        rw [HC.out]
        unfold chV
        have hnC := blk_kept hbC hnB
        have hbbC := bs hbbB hbC
        obtain ⟨x0, x1, x2, x3, x4, f0, f1, f2, f3, f4⟩ := five_of hnC
        go_wp2_with fail
        have z := set5_heap (.string ⟨#[]⟩) (.string ⟨#[]⟩) (.string ⟨#[]⟩) (.string ⟨#[]⟩) (.string ⟨#[]⟩) hnC
        have hb9 := hbbC.trans (set5_below _ (w.heap.size + 1) (.string ⟨#[]⟩) (.string ⟨#[]⟩) (.string ⟨#[]⟩) (.string ⟨#[]⟩) (.string ⟨#[]⟩) (show w.heap.size ≤ w.heap.size + 1 by omega))
        generalize World.setCell (World.setCell (World.setCell (World.setCell (World.setCell _ _ _) _ _) _ _) _ _) _ _ = W9 at z hb9 ⊢
        obtain ⟨y0, y1, y2, y3, y4, _, _, _, _, _⟩ := five_of z
        exact bodyPost_ret (v := .tuple #[.agg #[.string ⟨#[]⟩, .string ⟨#[]⟩, .string ⟨#[]⟩, .string ⟨#[]⟩, .string ⟨#[]⟩], .int .i64 10]) (by simp [results, Tryz.results9, go_sem, y0, y1, y2, y3, y4]) rfl ⟨by rw [hR.out]; rfl, hb9⟩
      | some c =>
        have hR0 : pp = (⟨m, aa, tt, (bodyT 2 es ⟨c.toArray⟩).1, (bodyT 2 es ⟨c.toArray⟩).2.1⟩, 0) := hP4.trans (by rw [hch])
        have HC := Lib.hid hch
        obtain ⟨hc70, _⟩ := chosen_size hch
        clear hch hP4
        obtain ⟨bb, hbb1⟩ : ∃ bb, (bodyT 2 es ⟨c.toArray⟩).1 = bb := ⟨_, rfl⟩
        obtain ⟨yy, hyy⟩ : ∃ yy, (bodyT 2 es ⟨c.toArray⟩).2.1 = yy := ⟨_, rfl⟩
        rw [hbb1, hyy] at hR0
        have hR := Lib.hid hR0
        have HB1 := Lib.hid hbb1
        have HB2 := Lib.hid hyy
        clear hR0 hbb1 hyy
        go_wp2_with fail
        refine (refChoose_any es _ X _ (by omega) hS hX8 _ (hU.kept hbbB) (hV.kept hbbB)).mono ?_
        rintro e wC ⟨rfl, hbC⟩
        rw [HC.out]
        unfold chV
        have hnC := blk_kept hbC hnB
        have hqC := blk_kept hbC hqB
        have hbbC := bs hbbB hbC
        go_wp2_with fail
        refine (refOf_any 2 es _ ⟨c.toArray⟩ (by rw [size_mk]; omega) hl hS _ (hU.kept hbbC)).mono ?_
        rintro e wD ⟨rfl, hbD⟩
        rw [HB1.out, HB2.out]
        have hnD := blk_kept hbD hnC
        have hqD := blk_kept hbD hqC
        have hbbD := bs hbbC hbD
        obtain ⟨zz, hzz⟩ : ∃ zz, (bodyT 2 es ⟨c.toArray⟩).2.2 = zz := ⟨_, rfl⟩
        rw [hzz]
        clear hzz
        have hbE := one_allocV (w := wD) (.cells #[.string bb, .string yy, .int .i64 zz] 70)
        have hqB3 := Go.heap_alloc_new wD (.cells #[.string bb, .string yy, .int .i64 zz] 70)
        have hgD : p < wD.heap.size := (Array.getElem?_eq_some_iff.1 hqD).1
        have hnp : wD.heap.size ≠ p := by omega
        have hpn : p ≠ wD.heap.size := by omega
        obtain ⟨WE, hWE⟩ : ∃ WE, WE = wD.alloc (.cells #[.string bb, .string yy, .int .i64 zz] 70) := ⟨_, rfl⟩
        rw [← hWE] at hbE hqB3
        have hnE := blk_kept hbE hnD
        have hqE := blk_kept hbE hqD
        have hbbE := bs hbbD hbE
        have HWE := Lib.hid hWE
        clear hWE hbE
        go_upto_region 23 with fail
        rw [← HWE.out]
        obtain ⟨b0, b1, b2, b3, b4, b5⟩ := three_of hqB3
        obtain ⟨p0, p1, p2, p3, p4, r0, r1, r2, r3, r4⟩ := five_of hqE
        obtain ⟨x0, x1, x2, x3, x4, f0, f1, f2, f3, f4⟩ := five_of hnE
        go_wp2_with fail
        have z := set5_heap (.string m) (.string aa) (.string tt) (.string bb) (.string yy) (set1_other (i := 4) (.string yy) hne (set1_other (i := 3) (.string bb) hne hnE))
        have hb9 := ((hbbE.trans ((Below.refl _ _).setCell (p := ⟨p, 3, none⟩) hwp (.string bb))).trans ((Below.refl _ _).setCell (p := ⟨p, 4, none⟩) hwp (.string yy))).trans (set5_below _ (w.heap.size + 1) (.string m) (.string aa) (.string tt) (.string bb) (.string yy) (show w.heap.size ≤ w.heap.size + 1 by omega))
        generalize World.setCell (World.setCell (World.setCell (World.setCell (World.setCell _ _ _) _ _) _ _) _ _) _ _ = W9 at z hb9 ⊢
        obtain ⟨y0, y1, y2, y3, y4, _, _, _, _, _⟩ := five_of z
        exact bodyPost_ret (v := .tuple #[.agg #[.string m, .string aa, .string tt, .string bb, .string yy], .int .i64 0]) (by simp [results, Tryz.results9, go_sem, y0, y1, y2, y3, y4]) rfl ⟨by rw [hR.out]; rfl, hb9⟩
    · have hR0 := HP3.out.trans (if_neg h2)
      have q2 := intNe h2
      clear h2
      have hnC := hnB
      have hqC := hqB
      have hbbC := hbbB
      obtain ⟨bb, hbb1⟩ : ∃ bb, (bodyT kn es ⟨#[]⟩).1 = bb := ⟨_, rfl⟩
      obtain ⟨yy, hyy⟩ : ∃ yy, (bodyT kn es ⟨#[]⟩).2.1 = yy := ⟨_, rfl⟩
      rw [hbb1, hyy] at hR0
      have hR := Lib.hid hR0
      have HB1 := Lib.hid hbb1
      have HB2 := Lib.hid hyy
      clear hR0 hbb1 hyy
      go_wp2_with fail
      refine (refOf_any kn es _ ⟨#[]⟩ (show (0 : Nat) ≤ 1000000 by omega) hl hS _ (hU.kept hbbC)).mono ?_
      rintro e wD ⟨rfl, hbD⟩
      rw [HB1.out, HB2.out]
      have hnD := blk_kept hbD hnC
      have hqD := blk_kept hbD hqC
      have hbbD := bs hbbC hbD
      obtain ⟨zz, hzz⟩ : ∃ zz, (bodyT kn es ⟨#[]⟩).2.2 = zz := ⟨_, rfl⟩
      rw [hzz]
      clear hzz
      have hbE := one_allocV (w := wD) (.cells #[.string bb, .string yy, .int .i64 zz] 70)
      have hqB3 := Go.heap_alloc_new wD (.cells #[.string bb, .string yy, .int .i64 zz] 70)
      have hgD : p < wD.heap.size := (Array.getElem?_eq_some_iff.1 hqD).1
      have hnp : wD.heap.size ≠ p := by omega
      have hpn : p ≠ wD.heap.size := by omega
      obtain ⟨WE, hWE⟩ : ∃ WE, WE = wD.alloc (.cells #[.string bb, .string yy, .int .i64 zz] 70) := ⟨_, rfl⟩
      rw [← hWE] at hbE hqB3
      have hnE := blk_kept hbE hnD
      have hqE := blk_kept hbE hqD
      have hbbE := bs hbbD hbE
      have HWE := Lib.hid hWE
      clear hWE hbE
      go_upto_region 23 with fail
      rw [← HWE.out]
      obtain ⟨b0, b1, b2, b3, b4, b5⟩ := three_of hqB3
      obtain ⟨p0, p1, p2, p3, p4, r0, r1, r2, r3, r4⟩ := five_of hqE
      obtain ⟨x0, x1, x2, x3, x4, f0, f1, f2, f3, f4⟩ := five_of hnE
      go_wp2_with fail
      have z := set5_heap (.string m) (.string aa) (.string tt) (.string bb) (.string yy) (set1_other (i := 4) (.string yy) hne (set1_other (i := 3) (.string bb) hne hnE))
      have hb9 := ((hbbE.trans ((Below.refl _ _).setCell (p := ⟨p, 3, none⟩) hwp (.string bb))).trans ((Below.refl _ _).setCell (p := ⟨p, 4, none⟩) hwp (.string yy))).trans (set5_below _ (w.heap.size + 1) (.string m) (.string aa) (.string tt) (.string bb) (.string yy) (show w.heap.size ≤ w.heap.size + 1 by omega))
      generalize World.setCell (World.setCell (World.setCell (World.setCell (World.setCell _ _ _) _ _) _ _) _ _) _ _ = W9 at z hb9 ⊢
      obtain ⟨y0, y1, y2, y3, y4, _, _, _, _, _⟩ := five_of z
      exact bodyPost_ret (v := .tuple #[.agg #[.string m, .string aa, .string tt, .string bb, .string yy], .int .i64 0]) (by simp [results, Tryz.results9, go_sem, y0, y1, y2, y3, y4]) rfl ⟨by rw [hR.out]; rfl, hb9⟩
end Go.Proofs.YtafbghlldlconaaGreatDoor

/-
  Are there more entries and draws, or longer ones, than a statement takes? (the law's long): the walk.
-/
namespace Go.Proofs.YtafbghlldlconaaGreatDoor
set_option linter.unusedVariables false
set_option linter.unusedSimpArgs false
open Go.RowKit PT

def longX (X : List (List UInt8)) : Bool := decide (20 < X.length) || X.any fun x => decide (500 < x.length)
theorem longX_no {X : List (List UInt8)} (h : longX X = false) : X.length ≤ 20 ∧ ∀ x ∈ X, x.length ≤ 500 := by
  unfold longX at h
  simp only [Bool.or_eq_false_iff, decide_eq_false_iff_not, List.any_eq_false, decide_eq_true_eq] at h
  exact ⟨by omega, fun x hx => by have := h.2 x hx; omega⟩
set_option maxHeartbeats 1000000 in
set_option maxRecDepth 100000 in
theorem long24_any (es : List Ent) (u : Value) (X : List (List UInt8)) (v : Value) (w : World) (hU : Ents es u w) (hV : Txts X v w) :
    Calls Tryz.prog 6 #[u, v] w fun e w' => e = .returned (.bool (longB es || longX X)) ∧ w = w' := by
  obtain ⟨a, cap, rfl⟩ := hV.len
  cases hl : longB es
  case true =>
    have HL := Lib.hid hl
    clear hl
    go_enter Tryz.func6, Tryz.ntmps6
    go_wp2_with fail
    refine (long19_any es u _ hU).mono ?_
    rintro e w1 ⟨rfl, rfl⟩
    rw [HL.out]
    go_wp2_with fail
    go_ret
    exact ⟨rfl, rfl⟩
  have HL := Lib.hid hl
  clear hl
  by_cases h20 : 20 < X.length
  · have hR := Lib.hid (show longX X = true by unfold longX; rw [decide_eq_true h20]; rfl)
    have q : decide ((20 : Int) < (X.length : Int)) = true := decide_eq_true (by omega)
    go_enter Tryz.func6, Tryz.ntmps6
    go_wp2_with fail
    refine (long19_any es u _ hU).mono ?_
    rintro e w1 ⟨rfl, rfl⟩
    rw [HL.out]
    go_wp2_with fail
    go_ret
    exact ⟨ret_bool (by rw [hR.out]; rfl), rfl⟩
  have q : decide ((20 : Int) < (X.length : Int)) = false := decide_eq_false (by omega)
  go_enter Tryz.func6, Tryz.ntmps6
  go_wp2_with fail
  refine (long19_any es u _ hU).mono ?_
  rintro e w1 ⟨rfl, rfl⟩
  rw [HL.out]
  go_wp2_with fail
  go_loopw [15] (fun i wr => ∃ k : Nat, k ≤ X.length ∧ i = .int .i64 k ∧ Hid (∀ x ∈ X.take k, x.length ≤ 500) ∧ w = wr) (fun i _ => X.length - (intOf i).toNat)
  case atStart => exact ⟨0, Nat.zero_le _, rfl, Lib.hid (by simp), rfl⟩
  case round =>
    obtain ⟨k, hk, rfl, hA, rfl⟩ := hrel
    by_cases hlt : k < X.length
    · obtain ⟨b, o, cap', hv, hb, hc⟩ := hV.at hlt
      cases hv
      have hk0 : (0 : Int) ≤ (k : Int) := by omega
      have hk1 : (k : Int) < (X.length : Int) := by omega
      have hall := Lib.hid (fun (h : X[k].length ≤ 500) => show ∀ x ∈ X.take (k + 1), x.length ≤ 500 by
        rw [List.take_succ_eq_append_getElem hlt]
        intro x hx
        rcases List.mem_append.1 hx with hx | hx
        · exact hA.out x hx
        · rw [List.mem_singleton] at hx
          rw [hx]; exact h)
      have hany := Lib.hid (fun (h : 500 < X[k].length) => show longX X = true by
        unfold longX
        rw [List.any_eq_true.2 ⟨X[k], List.getElem_mem hlt, decide_eq_true h⟩, Bool.or_true])
      obtain ⟨P, hx⟩ := some_bytes20 X[k]
      rw [hx] at hc hall hany
      rw [txt_of20] at hc
      clear hx
      have hsz : P.data.toList.length = P.size := by rw [Array.length_toList]; rfl
      by_cases h5 : 500 < P.size
      · have hR := Lib.hid (hany.out (by omega))
        have q5 : decide ((500 : Int) < (P.size : Int)) = true := decide_eq_true (by omega)
        clear hany hall hsz
        go_wp2_with fail
        try rw [Exit.noGoto_ret]
        go_ret
        exact ⟨ret_bool (by rw [hR.out]; rfl), rfl⟩
      · have hN := Lib.hid (hall.out (by omega))
        have q5 : decide ((500 : Int) < (P.size : Int)) = false := decide_eq_false (by omega)
        clear hany hall hsz
        go_wp2_with fail
        go_roundw
        case rel => exact ⟨k + 1, by omega, by go_num, hN, by trivial⟩
        case measure => simp [intOf]; omega
    · obtain rfl : k = X.length := by omega
      have hR := Lib.hid (show longX X = false by
        unfold longX
        rw [decide_eq_false h20, Bool.false_or, List.any_eq_false]
        intro x hx
        have := hA.out x (by rw [List.take_length]; exact hx)
        simp; omega)
      go_wp2_with fail
      try rw [Exit.noGoto_ret]
      go_ret
      exact ⟨ret_bool (by rw [hR.out]; rfl), rfl⟩
end Go.Proofs.YtafbghlldlconaaGreatDoor

/-
  The laws of chapter 24: the example (wakes): the walk.
-/
namespace Go.Proofs.YtafbghlldlconaaGreatDoor
set_option linter.unusedVariables false
set_option linter.unusedSimpArgs false
open Go.RowKit PT

theorem qry_abc : qry [47, 97, 63, 98, 35, 99] [100, 61, 49] = [47, 97, 63, 100, 61, 49, 35, 99] := by decide

theorem wakes24_any (w : World) :
    Calls Tryz.prog 5 #[] w fun e w' => e = .returned (.bool true) ∧ Below w.heap.size w w' := by
  go_enter Tryz.func5, Tryz.ntmps5
  go_wp2_with fail
  refine (query_any _ _ (by decide) (by decide) _).mono ?_
  rintro e w1 ⟨rfl, hb1⟩
  rw [show qry (ByteArray.mk #[47, 97, 63, 98, 35, 99]).data.toList (ByteArray.mk #[100, 61, 49]).data.toList = _ from qry_abc]
  go_wp2_with fail
  go_ret
  exact ⟨rfl, hb1⟩
end Go.Proofs.YtafbghlldlconaaGreatDoor
