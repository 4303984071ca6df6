import Derived.Test.YtafbghlldlconaaGreatDoorPart18
import Derived.Test.YtafbghlldlconaaGreatDoorPart17
import Derived.Test.YtafbghlldlconaaGreatDoorPart15
import Derived.Test.YtafbghlldlconaaGreatDoorPart3
import Derived.Test.YtafbghlldlconaaGreatDoorPart2
import Derived.Test.YtafbghlldlconaaGreatDoorPart14
/-
  The entries of parts by the document: ref20.Decode: the walk.
-/
namespace Go.Proofs.YtafbghlldlconaaGreatDoor
set_option linter.unusedVariables false
set_option linter.unusedSimpArgs false
open Go.RowKit PT

end Go.Proofs.YtafbghlldlconaaGreatDoor

/-
  What is told of entries: parts.Told, ref20.Told: the walks.
-/
namespace Go.Proofs.YtafbghlldlconaaGreatDoor
set_option linter.unusedVariables false
set_option linter.unusedSimpArgs false
open Go.RowKit PT

/-- what is told of an entry -/
def tld (x : Ent) : Ent := ⟨⟨(unn (nm x.n.data.toList)).toArray⟩, ⟨(carr x.f x.v.data.toList).toArray⟩, x.f, if x.f then ⟨(unn (nm x.fn.data.toList)).toArray⟩ else ⟨#[]⟩, if x.f then ⟨(typ x.t.data.toList).toArray⟩ else ⟨#[]⟩⟩
end Go.Proofs.YtafbghlldlconaaGreatDoor

/-
  What is told of entries: ref20.Told: the walk.
-/
namespace Go.Proofs.YtafbghlldlconaaGreatDoor
set_option linter.unusedVariables false
set_option linter.unusedSimpArgs false
open Go.RowKit PT

theorem rtS_kept {b p q : Nat} {c0 c1 : Value} {w1 W W' : World} (h : W.cell? ⟨b, p, none⟩ = some c0 ∧ W.cell? ⟨b, q, none⟩ = some c1 ∧ b < w1.heap.size ∧ Below w1.heap.size w1 W) (hb : Below W.heap.size W W') :
    W'.cell? ⟨b, p, none⟩ = some c0 ∧ W'.cell? ⟨b, q, none⟩ = some c1 ∧ b < w1.heap.size ∧ Below w1.heap.size w1 W' := by
  obtain ⟨h0, h1, he, hbe⟩ := h
  have hs := hbe.size
  exact ⟨cellK hb (by omega) h0, cellK hb (by omega) h1, he, hbe.trans (hb.mono hs)⟩
theorem rtS_drew {b p q : Nat} {c0 c1 : Value} {w1 W : World} (h : W.cell? ⟨b, p, none⟩ = some c0 ∧ W.cell? ⟨b, q, none⟩ = some c1 ∧ b < w1.heap.size ∧ Below w1.heap.size w1 W) :
    W.drew.cell? ⟨b, p, none⟩ = some c0 ∧ W.drew.cell? ⟨b, q, none⟩ = some c1 ∧ b < w1.heap.size ∧ Below w1.heap.size w1 W.drew := rtS_kept h ⟨rfl, rfl, rfl, Nat.le_refl _, fun _ _ => rfl⟩
theorem rtS_alloc {b p q : Nat} {c0 c1 : Value} {w1 W : World} (o : Obj) (h : W.cell? ⟨b, p, none⟩ = some c0 ∧ W.cell? ⟨b, q, none⟩ = some c1 ∧ b < w1.heap.size ∧ Below w1.heap.size w1 W) :
    (W.alloc o).cell? ⟨b, p, none⟩ = some c0 ∧ (W.alloc o).cell? ⟨b, q, none⟩ = some c1 ∧ b < w1.heap.size ∧ Below w1.heap.size w1 (W.alloc o) := rtS_kept h ((Below.refl W.heap.size W).alloc (Nat.le_refl _) o)
theorem rtS_at {b p q : Nat} {c0 c1 : Value} {w1 W W' : World} (h : W.cell? ⟨b, p, none⟩ = some c0 ∧ W.cell? ⟨b, q, none⟩ = some c1 ∧ b < w1.heap.size ∧ Below w1.heap.size w1 W) (hb : Below w1.heap.size W W') :
    W'.cell? ⟨b, p, none⟩ = some c0 ∧ W'.cell? ⟨b, q, none⟩ = some c1 ∧ b < w1.heap.size ∧ Below w1.heap.size w1 W' := by
  obtain ⟨h0, h1, he, hbe⟩ := h
  exact ⟨cellK hb he h0, cellK hb he h1, he, hbe.trans hb⟩
theorem rtS_sz {b p q : Nat} {c0 c1 : Value} {w1 W : World} (h : W.cell? ⟨b, p, none⟩ = some c0 ∧ W.cell? ⟨b, q, none⟩ = some c1 ∧ b < w1.heap.size ∧ Below w1.heap.size w1 W) : w1.heap.size ≤ W.heap.size := h.2.2.2.size
theorem set2_at {W : World} {g : Nat} {a0 b0 c0 d0 e0 : Value} {t : TypeId} (b c : Value) (h : W.heap[g]? = some (.cells #[a0, b0, c0, d0, e0] t (0, 0))) :
    ((W.setCell ⟨g, 2, none⟩ c).setCell ⟨g, 1, none⟩ b).heap[g]? = some (.cells #[a0, b, c, d0, e0] t (0, 0)) := by
  rw [setCell_heap b (setCell_heap c h)]
  rfl
theorem set1_at3 {W : World} {g : Nat} {a0 b0 c0 d0 e0 : Value} {t : TypeId} (d : Value) (h : W.heap[g]? = some (.cells #[a0, b0, c0, d0, e0] t (0, 0))) :
    (W.setCell ⟨g, 3, none⟩ d).heap[g]? = some (.cells #[a0, b0, c0, d, e0] t (0, 0)) := by
  rw [setCell_heap d h]; rfl
theorem set1_at4 {W : World} {g : Nat} {a0 b0 c0 d0 e0 : Value} {t : TypeId} (e : Value) (h : W.heap[g]? = some (.cells #[a0, b0, c0, d0, e0] t (0, 0))) :
    (W.setCell ⟨g, 4, none⟩ e).heap[g]? = some (.cells #[a0, b0, c0, d0, e] t (0, 0)) := by
  rw [setCell_heap e h]; rfl
theorem set_below {B : Nat} (W : World) (g i : Nat) (u : Value) (hB : B ≤ g) : Below B W (W.setCell ⟨g, i, none⟩ u) := (Below.refl B W).setCell (p := ⟨g, i, none⟩) hB u
set_option maxHeartbeats 8000000 in
set_option maxRecDepth 100000 in
theorem refTold_any (es : List Ent) (v : Value) (w : World) (hE : Ents es v w) (hl : es.length ≤ 1000) (hS : ∀ x ∈ es, Brief x) :
    Calls Tryz.prog 14 #[v] w fun e w' => (∃ v', e = .returned v' ∧ OE w.heap.size (es.map tld) v' w') ∧ Below w.heap.size w w' := by
  obtain ⟨a, cap, rfl⟩ := hE.len
  go_enter Tryz.func14, Tryz.ntmps14
  go_wp2_with fail
  go_loopw [4, 3] (fun i v wr => ∃ k : Nat, k ≤ es.length ∧ i = .int .i64 k ∧ OE w.heap.size ((es.take k).map tld) v wr ∧ Below w.heap.size w wr) (fun i _ _ => es.length - (intOf i).toNat)
  case atStart => exact ⟨0, Nat.zero_le _, rfl, OE.nil _ _, Below.refl _ _⟩
  case round =>
    obtain ⟨k, hk, rfl, hown, hbel⟩ := hrel
    have hsz := hbel.size
    by_cases hlt : k < es.length
    · obtain ⟨b, o, cap', hv, hb, hc0, hc1, hc2, hc3, hc4⟩ := (hE.kept hbel).five hlt
      have hSk := hS es[k] (List.getElem_mem hlt)
      have hTk := Lib.hid (List.take_succ_eq_append_getElem hlt)
      cases hv
      generalize es[k] = x at *
      obtain ⟨n, v, f, fn, t⟩ := x
      obtain ⟨s1, s2, s3, s4⟩ := hSk
      simp only at hc0 hc1 hc2 hc3 hc4 s1 s2 s3 s4
      have hml := nm_len n.data.toList
      rw [size_list] at hml
      have hk0 : (0 : Int) ≤ (k : Int) := by omega
      have hk1 : (k : Int) < (es.length : Int) := by omega
      have hS1 := And.intro hc0 (And.intro hc1 (And.intro hb (Below.refl wr.heap.size wr)))
      go_upto_region 5 with fail
      go_cut [5] (fun s5 wx => ∃ g, s5 = .pointer (some ⟨g, 0, none⟩) ∧ wx.heap[g]? = some (.cells #[.string ⟨(unn (nm n.data.toList)).toArray⟩, .string ⟨(carr false v.data.toList).toArray⟩, .bool false, .string ⟨#[]⟩, .string ⟨#[]⟩] 73) ∧ wr.heap.size ≤ g ∧ Below wr.heap.size wr wx)
      case first =>
        clear hown hE hc0 hc1 hc2 hc3 hc4 hTk hbel hS hl hlt hk s3 s4
        go_region_held3 (fun W => W.cell? ⟨b, o + k * 5, none⟩ = some (.string n) ∧ W.cell? ⟨b, o + k * 5 + 1, none⟩ = some (.string v) ∧ b < wr.heap.size ∧ Below wr.heap.size wr W) (with_reducible first | assumption | exact rtS_drew (by assumption) | exact rtS_alloc _ (by assumption) | exact rtS_drew (rtS_alloc _ hS1) | exact rtS_alloc _ (rtS_drew hS1) | exact rtS_kept (by assumption) (by assumption) | exact rtS_at (by assumption) (below_re _ _ _ (by assumption)) | exact rtS_at (by assumption) (set5_below _ _ _ _ _ _ _ (by first | assumption | exact Nat.le_refl _))) ((first
          | (go_at_call 51; refine (refName_any n (by omega) _).mono ?_; rintro e w2 ⟨rfl, hb2⟩; have y2 := Nat.le_trans (rtS_sz (by assumption)) hb2.size; (first | have z := fresh_kept_d hb2 | have z := fresh_kept hb2 | have z := blk_kept hb2 z | skip); (try (have zz := five_of z; obtain ⟨_, _, _, _, _, _, _, _, _, _⟩ := zz)))
          | (go_at_call 50; refine (refUnname_any ⟨(nm n.data.toList).toArray⟩ (by rw [size_mk]; omega) _).mono ?_; rintro e w3 ⟨rfl, hb3⟩; have y3 := Nat.le_trans (rtS_sz (by assumption)) hb3.size; (first | have z := fresh_kept_d hb3 | have z := fresh_kept hb3 | have z := blk_kept hb3 z | skip); (try (have zz := five_of z; obtain ⟨_, _, _, _, _, _, _, _, _, _⟩ := zz)))
          | (go_at_call 44; refine (refPairs_any v (by omega) _).mono ?_; rintro e w4 ⟨rfl, hb4⟩; have y4 := Nat.le_trans (rtS_sz (by assumption)) hb4.size; (first | have z := fresh_kept_d hb4 | have z := fresh_kept hb4 | have z := blk_kept hb4 z | skip); (try (have zz := five_of z; obtain ⟨_, _, _, _, _, _, _, _, _, _⟩ := zz)))))
        · go_wp2_with fail
          go_meet
          exact ⟨_, rfl, Go.heap_alloc_new _ _, y4, (by assumption : _ ∧ _ ∧ _ ∧ _).2.2.2⟩
        all_goals
          go_wp2_with fail
          go_meet
          exact ⟨_, rfl, set5_heap _ _ _ _ _ z, by first | assumption | exact Nat.le_refl _, (by assumption : _ ∧ _ ∧ _ ∧ _).2.2.2⟩
      case rest =>
        obtain ⟨g, rfl, hg, hWg, hbc⟩ := hcut
        have q1 := cellK hbc hb hc1
        have q2 := cellK hbc hb hc2
        have q3 := cellK hbc hb hc3
        have hownc := hown.kept hbc
        have hll : ((es.take k).map tld).length ≤ 1000 := by rw [List.length_map, List.length_take]; omega
        have hgs := (Array.getElem?_eq_some_iff.1 hg).1
        have hne : b ≠ g := by omega
        have hne' : g ≠ b := by omega
        cases f
        · obtain ⟨x0, x1, x2, x3, x4, f0, f1, f2, f3, f4⟩ := five_of hg
          clear hc0 hc1 hc2 hc3 hc4
          go_wp2_with (at_builtin; refine wpList_append_ent rfl _ _ rfl rfl rfl (tld ⟨n, v, false, fn, t⟩) hownc (by omega) (by have := hbc.size; omega) ?_; intro v' w3 hown3 hb3)
          go_roundw
          case rel => exact ⟨k + 1, by omega, by go_num, by rw [hTk.out, List.map_append]; exact hown3, (hbel.trans (hbc.mono hsz)).trans hb3⟩
          case measure => simp [intOf]; omega
        · obtain ⟨x0, x1, x2, x3, x4, f0, f1, f2, f3, f4⟩ := five_of hg
          have hz0 := set2_at (.string v) (.bool true) hg
          have hbA := (hbc.trans (set_below _ g 2 (.bool true) hWg)).trans (set_below _ g 1 (.string v) hWg)
          have hmf := nm_len fn.data.toList
          rw [size_list] at hmf
          have HC := Lib.hid (And.intro hc3 hc4)
          clear hc0 hc1 hc2 hc3 hc4
          go_wp2_with fail
          refine (refName_any fn (by omega) _).mono ?_
          rintro e w2 ⟨rfl, hb2⟩
          have z2 := blk_kept hb2 hz0
          have hbB := bs hbA hb2
          clear x0 x1 x2 x3 x4 f0 f1 f2 f3 f4 q1 q2 q3 hz0 hb2 hg hbc hownc hbA
          go_wp2_with fail
          refine (refUnname_any ⟨(nm fn.data.toList).toArray⟩ (by rw [size_mk]; omega) _).mono ?_
          rintro e w3 ⟨rfl, hb3⟩
          have z3 := blk_kept hb3 z2
          have hbC := bs hbB hb3
          obtain ⟨x0, x1, x2, x3, x4, f0, f1, f2, f3, f4⟩ := five_of z3
          have q4 := cellK hbC hb HC.out.2
          have hz3 := set1_at3 (.string ⟨(unn (nm fn.data.toList)).toArray⟩) z3
          have hbD := hbC.trans (set_below _ g 3 (.string ⟨(unn (nm fn.data.toList)).toArray⟩) hWg)
          clear z2 hb3 hbB
          go_wp2_with fail
          refine (refType_any t (by omega) _).mono ?_
          rintro e w4 ⟨rfl, rfl⟩
          have hz4 := set1_at4 (.string ⟨(typ t.data.toList).toArray⟩) hz3
          have hbE := hbD.trans (set_below _ g 4 (.string ⟨(typ t.data.toList).toArray⟩) hWg)
          go_upto_region 11 with fail
          generalize hW9 : (w3.setCell _ _).setCell _ _ = W9 at hbE hz4 ⊢
          have hown9 := hown.kept hbE
          have hs9 := hbE.size
          clear x0 x1 x2 x3 x4 f0 f1 f2 f3 f4 z3 hz3 hbC hbD hW9 q4
          obtain ⟨x0, x1, x2, x3, x4, f0, f1, f2, f3, f4⟩ := five_of hz4
          go_wp2_with (at_builtin; refine wpList_append_ent rfl _ _ rfl rfl rfl ⟨⟨(unn (nm n.data.toList)).toArray⟩, v, true, ⟨(unn (nm fn.data.toList)).toArray⟩, ⟨(typ t.data.toList).toArray⟩⟩ hown9 (by omega) (by omega) ?_; intro v' w9 hown3 hb9)
          go_roundw
          case rel => exact ⟨k + 1, by omega, by go_num, by rw [hTk.out, List.map_append]; exact hown3, (hbel.trans (hbE.mono hsz)).trans hb9⟩
          case measure => simp [intOf]; omega
    · obtain rfl : k = es.length := by omega
      rw [List.take_of_length_le (Nat.le_refl _)] at hown
      go_wp2_with fail
      go_ret
      exact ⟨⟨_, rfl, hown⟩, hbel⟩
end Go.Proofs.YtafbghlldlconaaGreatDoor

/-
  PLAIN LAWS ON PARTS READ (chapter 20), third: what was told is read back. No program in sight.
-/
namespace Go.Proofs.YtafbghlldlconaaGreatDoor.PT
set_option linter.unusedVariables false
set_option linter.unusedSimpArgs false
open Go.Lib (occAt)

theorem escN_clean (l : List UInt8) : ∀ c ∈ l.flatMap escN, c ≠ 10 ∧ c ≠ 13 ∧ c ≠ 34 := by
  intro c h
  rw [List.mem_flatMap] at h
  obtain ⟨d, _, h⟩ := h
  unfold escN at h
  split at h
  · simp at h; rcases h with rfl | rfl | rfl <;> decide
  · split at h
    · simp at h; rcases h with rfl | rfl | rfl <;> decide
    · split at h
      · simp at h; rcases h with rfl | rfl <;> decide
      · rename_i h10 h13 h34
        simp at h; subst h; exact ⟨h10, h13, h34⟩
theorem nm_clean (l : List UInt8) : 10 ∉ nm l ∧ 13 ∉ nm l ∧ 34 ∉ nm l := by
  have h := escN_clean (ends [13, 10] l)
  exact ⟨fun m => (h _ m).1 rfl, fun m => (h _ m).2.1 rfl, fun m => (h _ m).2.2 rfl⟩
theorem typ_clean (l : List UInt8) : 13 ∉ typ l ∧ 10 ∉ typ l := by
  unfold typ
  split
  · rename_i h
    rw [Bool.and_eq_true, List.all_eq_true] at h
    exact ⟨fun m => absurd (h.1 _ m) (by decide), fun m => absurd (h.1 _ m) (by decide)⟩
  · decide
/-- a part's head -/
def hd (n : List UInt8) (f : Bool) (fn t : List UInt8) : List UInt8 :=
  head1 ++ nm n ++ [34] ++ (if f then head2 ++ nm fn ++ [34] ++ head3 ++ typ t else [])
theorem prtP_hd (n v : List UInt8) (f : Bool) (fn t : List UInt8) : prtP n v f fn t = hd n f fn t ++ (crlf2 ++ carr f v) := by
  unfold prtP hd crlf2
  simp only [List.append_assoc]
theorem idx_H1 (A v : List UInt8) (h : 13 ∉ A) : Lib.index (A ++ (crlf2 ++ v)) crlf2 = (A.length : Nat) := by
  refine idx_at A crlf2 v fun j hj => ?_
  cases ho : occAt (A ++ (crlf2 ++ v)) crlf2 j
  · rfl
  · exfalso
    have h1 := Lib.occAt_head (show crlf2 = 13 :: [10, 13, 10] from rfl) ho
    rw [List.getElem?_append_left hj] at h1
    exact h (List.mem_of_getElem? h1)
theorem idx_H2 (A T v : List UInt8) (hA : 13 ∉ A) (hT : 13 ∉ T) : Lib.index ((A ++ (head3 ++ T)) ++ (crlf2 ++ v)) crlf2 = ((A ++ (head3 ++ T)).length : Nat) := by
  refine idx_at (A ++ (head3 ++ T)) crlf2 v fun j hj => ?_
  cases ho : occAt ((A ++ (head3 ++ T)) ++ (crlf2 ++ v)) crlf2 j
  · rfl
  · exfalso
    have h1 := Lib.occAt_head (show crlf2 = 13 :: [10, 13, 10] from rfl) ho
    rw [List.getElem?_append_left hj] at h1
    rcases Nat.lt_trichotomy j A.length with hlt | heq | hgt
    · rw [List.getElem?_append_left hlt] at h1
      exact hA (List.mem_of_getElem? h1)
    · subst heq
      obtain ⟨q, hq⟩ := occ_iff.1 ho
      rw [List.append_assoc, List.drop_left] at hq
      simp only [head3, crlf2, List.cons_append] at hq
      injection hq with _ hq
      injection hq with _ hq
      injection hq with hq _
      exact absurd hq (by decide)
    · rw [List.getElem?_append_right (by omega)] at h1
      obtain ⟨m, hm⟩ : ∃ m, j - A.length = m + 1 := ⟨j - A.length - 1, by omega⟩
      rw [hm, show head3 ++ T = 13 :: ([10, 67, 111, 110, 116, 101, 110, 116, 45, 84, 121, 112, 101, 58, 32] ++ T) from rfl, List.getElem?_cons_succ] at h1
      rcases List.mem_append.1 (List.mem_of_getElem? h1) with e | e
      · revert e; decide
      · exact hT e
theorem pre_app (p r : List UInt8) : p.isPrefixOf (p ++ r) = true := List.isPrefixOf_iff_prefix.2 ⟨r, rfl⟩
theorem rd_part (n v : List UInt8) (f : Bool) (fn t : List UInt8) :
    rd (prtP n v f fn t) = some ⟨unn (nm n), carr f v, f, if f then unn (nm fn) else [], if f then typ t else []⟩ := by
  obtain ⟨n10, n13, n34⟩ := nm_clean n
  obtain ⟨f10, f13, f34⟩ := nm_clean fn
  obtain ⟨t13, t10⟩ := typ_clean t
  have hl1 : head1.length = 38 := rfl
  have hl2 : head2.length = 12 := rfl
  have hl3 : head3.length = 16 := rfl
  have hA0 : (13 : UInt8) ∉ head1 ++ nm n ++ [34] := by
    simp only [List.mem_append, not_or]
    exact ⟨⟨by decide, n13⟩, by decide⟩
  rw [prtP_hd]
  have hi : Lib.index (hd n f fn t ++ (crlf2 ++ carr f v)) crlf2 = ((hd n f fn t).length : Nat) := by
    cases f
    · refine idx_H1 _ _ ?_
      unfold hd
      simpa using hA0
    · have e : hd n true fn t = (head1 ++ nm n ++ [34] ++ (head2 ++ nm fn ++ [34])) ++ (head3 ++ typ t) := by
        unfold hd; simp only [if_true, List.append_assoc]
      rw [e]
      refine idx_H2 _ _ _ ?_ t13
      rw [List.mem_append, not_or]
      refine ⟨hA0, ?_⟩
      simp only [List.mem_append, not_or]
      exact ⟨⟨by decide, f13⟩, by decide⟩
  unfold rd
  rw [if_neg (by rw [hi]; omega), hi]
  have e1 : (hd n f fn t ++ (crlf2 ++ carr f v)).take ((hd n f fn t).length : Int).toNat = hd n f fn t := by rw [Int.toNat_natCast, List.take_left]
  have e2 : (hd n f fn t ++ (crlf2 ++ carr f v)).drop (((hd n f fn t).length : Int).toNat + 4) = carr f v := by
    rw [Int.toNat_natCast, ← List.drop_drop, List.drop_left]; rfl
  rw [e1, e2]
  unfold rdq
  have e3 : hd n f fn t = head1 ++ (nm n ++ 34 :: (if f then head2 ++ (nm fn ++ 34 :: (head3 ++ typ t)) else [])) := by
    unfold hd
    cases f <;> simp [List.append_assoc]
  rw [e3, if_pos (pre_app _ _), show 38 = head1.length from rfl, List.drop_left, qtd_yes (nm n) _ n34 n10 n13]
  cases f
  · simp
  · simp only [if_true]
    rw [if_neg (by simp [head2]), if_pos (pre_app _ _), show 12 = head2.length from rfl, List.drop_left, qtd_yes (nm fn) _ f34 f10 f13]
    simp only
    rw [if_pos (pre_app _ _), show 16 = head3.length from rfl, List.drop_left, if_neg (by rintro (e | e); exact t13 e; exact t10 e)]
/-- the texts of parts one behind the other, told from behind the first boundary -/
def tailE (b : List UInt8) : List UInt8 → List (List UInt8) → List UInt8
  | p, [] => p ++ last b
  | p, q :: r => p ++ (sep b ++ (crlf ++ tailE b q r))
theorem idx_clear (b p r : List UInt8) (hb : 13 ∉ b) (hb0 : b ≠ []) (hp : Lib.contains p b = false) : Lib.index (p ++ (sep b ++ r)) (sep b) = (p.length : Nat) := by
  refine idx_at p (sep b) r fun j hj => ?_
  cases ho : occAt (p ++ (sep b ++ r)) (sep b) j
  · rfl
  · exfalso
    have h2 : occAt (p ++ (sep b ++ r)) (sep b) p.length = true := occ_iff.2 ⟨r, by rw [List.drop_left]⟩
    have hg := occ_gap (sep_tail hb) (sep_cons b ▸ ho) (sep_cons b ▸ h2) hj
    rw [← sep_cons, sep_len] at hg
    obtain ⟨q, hq⟩ := occ_iff.1 ho
    have h3 : p.drop (j + 4) ++ (sep b ++ r) = b ++ q := by
      rw [← List.drop_append_of_le_length (by omega), ← List.drop_drop, hq, sep_cons]; rfl
    have h4 : b <+: p.drop (j + 4) := by
      refine List.prefix_of_prefix_length_le ⟨q, rfl⟩ (h3 ▸ List.prefix_append _ _) (by rw [List.length_drop]; omega)
    obtain ⟨q', hq'⟩ := h4
    have : p = p.take (j + 4) ++ (b ++ q') := by rw [hq', List.take_append_drop]
    rw [this, contains_at] at hp
    cases hp
theorem dec2_tailE (b : List UInt8) (hb : 13 ∉ b) (hb0 : b ≠ []) (g : List UInt8 → P5) : ∀ (ps : List (List UInt8)) (p : List UInt8), (∀ x ∈ p :: ps, Lib.contains x b = false) → (∀ x ∈ p :: ps, rd x = some (g x)) → dec2 b (tailE b p ps) = some ((p :: ps).map g)
  | [], p, hc, hr => by
    rw [show tailE b p [] = p ++ (sep b ++ (dash ++ crlf)) from rfl, dec2_at b p _ (idx_clear b p _ hb hb0 (hc p (by simp))), hr p (by simp)]
    simp
  | q :: r, p, hc, hr => by
    rw [show tailE b p (q :: r) = p ++ (sep b ++ (crlf ++ tailE b q r)) from rfl, dec2_at b p _ (idx_clear b p _ hb hb0 (hc p (by simp))), hr p (by simp)]
    have h1 := dec2_tailE b hb hb0 g r q (fun x hx => hc x (List.mem_cons_of_mem _ hx)) (fun x hx => hr x (List.mem_cons_of_mem _ hx))
    have h2 : crlf ++ tailE b q r ≠ dash ++ crlf := fun e => by
      simp only [crlf, dash, List.cons_append] at e
      injection e with e _
      exact absurd e (by decide)
    simp only [if_neg h2, if_pos (pre_app crlf _)]
    rw [show (crlf ++ tailE b q r).drop 2 = tailE b q r from rfl, h1]
    rfl
/-- each piece as it is told -/
def encL20 (b : List UInt8) (ps : List (List UInt8)) : List UInt8 := ps.flatMap (fun p => [45, 45] ++ b ++ [13, 10] ++ p ++ [13, 10]) ++ ([45, 45] ++ b ++ [45, 45, 13, 10])
theorem encL20_tail (b : List UInt8) : ∀ (ps : List (List UInt8)) (p : List UInt8), encL20 b (p :: ps) = (dash ++ b ++ crlf) ++ tailE b p ps
  | [], p => by simp [encL20, tailE, last, sep, dash, crlf]
  | q :: r, p => by
    have h := encL20_tail b r q
    have e : encL20 b (p :: q :: r) = ([45, 45] ++ b ++ [13, 10] ++ p ++ [13, 10]) ++ encL20 b (q :: r) := by simp [encL20]
    rw [e, h, tailE]
    simp [sep, dash, crlf]
theorem decE_back (b : List UInt8) (hb : fitB b = true) (g : List UInt8 → P5) (ps : List (List UInt8)) (hc : ∀ x ∈ ps, Lib.contains x b = false) (hr : ∀ x ∈ ps, rd x = some (g x)) : decE (encL20 b ps) b = some (ps.map g) := by
  obtain ⟨h13, _, h0⟩ := fitB_13 hb
  unfold decE
  rw [if_pos hb]
  cases ps with
  | nil => rw [if_pos (by simp [encL20, dash, crlf])]; rfl
  | cons p ps =>
    rw [encL20_tail, if_neg, if_pos (pre_app _ _), List.drop_left]
    · exact dec2_tailE b h13 h0 g ps p hc hr
    · intro e
      simp only [List.append_assoc] at e
      have e2 := List.append_cancel_left (List.append_cancel_left e)
      simp only [crlf, dash, List.cons_append] at e2
      injection e2 with e2 _
      exact absurd e2 (by decide)
/-- a name without % is read to what it is -/
theorem unn_esc : ∀ l : List UInt8, 37 ∉ l → unn (l.flatMap escN) = l
  | [], _ => by simp [unn]
  | c :: r, h => by
    simp only [List.mem_cons, not_or] at h
    have ih := unn_esc r h.2
    have hE : escN c = if c = 10 then [37, 48, 65] else if c = 13 then [37, 48, 68] else if c = 34 then [37, 50, 50] else [c] := rfl
    rw [List.flatMap_cons, hE]
    by_cases h10 : c = 10
    · subst h10
      rw [if_pos rfl, show ([37, 48, 65] : List UInt8) ++ r.flatMap escN = 37 :: (48 :: 65 :: r.flatMap escN) from rfl, unn, if_pos (by simp [List.isPrefixOf])]
      rw [show (48 :: 65 :: r.flatMap escN).drop 2 = r.flatMap escN from rfl, ih]
    · rw [if_neg h10]
      by_cases h13 : c = 13
      · subst h13
        rw [if_pos rfl, show ([37, 48, 68] : List UInt8) ++ r.flatMap escN = 37 :: (48 :: 68 :: r.flatMap escN) from rfl, unn, if_neg (by simp [List.isPrefixOf]), if_pos (by simp [List.isPrefixOf])]
        rw [show (48 :: 68 :: r.flatMap escN).drop 2 = r.flatMap escN from rfl, ih]
      · rw [if_neg h13]
        by_cases h34 : c = 34
        · subst h34
          rw [if_pos rfl, show ([37, 50, 50] : List UInt8) ++ r.flatMap escN = 37 :: (50 :: 50 :: r.flatMap escN) from rfl, unn, if_neg (by simp [List.isPrefixOf]), if_neg (by simp [List.isPrefixOf]), if_pos (by simp [List.isPrefixOf])]
          rw [show (50 :: 50 :: r.flatMap escN).drop 2 = r.flatMap escN from rfl, ih]
        · rw [if_neg h34, show [c] ++ r.flatMap escN = c :: r.flatMap escN from rfl, unn, if_neg (by simp [List.isPrefixOf, h.1]), if_neg (by simp [List.isPrefixOf, h.1]), if_neg (by simp [List.isPrefixOf, h.1]), ih]
theorem ends_37 (w : List UInt8) (hw : 37 ∉ w) (l : List UInt8) (h : 37 ∉ l) : 37 ∉ ends w l := by
  induction l using ends_cases with
  | h0 => simp [ends]
  | h2 r ih =>
    rw [ends_crlf, List.mem_append, not_or]
    simp only [List.mem_cons, not_or] at h
    exact ⟨hw, ih h.2.2⟩
  | h1 c r hc ih =>
    rw [ends_one _ _ _ hc, List.mem_append, not_or]
    simp only [List.mem_cons, not_or] at h
    refine ⟨?_, ih h.2⟩
    split
    · exact hw
    · simp [h.1]
theorem unn_nm (l : List UInt8) (h : 37 ∉ l) : unn (nm l) = ends [13, 10] l := unn_esc _ (ends_37 _ (by decide) l h)
end Go.Proofs.YtafbghlldlconaaGreatDoor.PT

/-
  What is told as parts is read back: the law on lists of entries (the same lines as ahead of the walks of chapter 20, for seats without that chapter's laws).
-/
namespace Go.Proofs.YtafbghlldlconaaGreatDoor
set_option linter.unusedVariables false
set_option linter.unusedSimpArgs false
open Go.RowKit PT

theorem long20_no {es : List Ent} (h : longB es = false) : es.length ≤ 60 ∧ ∀ x ∈ es, Brief x := by
  unfold longB at h
  rw [Bool.or_eq_false_iff] at h
  refine ⟨by have := of_decide_eq_false h.1; omega, fun x hx => ?_⟩
  have hx' := List.any_eq_false.1 h.2 x hx
  unfold longE at hx'
  simp only [Bool.or_eq_true, decide_eq_true_eq, not_or] at hx'
  exact ⟨by omega, by omega, by omega, by omega⟩
theorem encP_L20 (b : List UInt8) (es : List Ent) : encP20 b es = encL20 b (es.map partE) := by
  unfold encP20 encL20 pieces
  rw [List.flatMap_map]
  rfl
/-- what is told of an entry, as lists -/
def tld5 (x : Ent) : P5 := ⟨unn (nm x.n.data.toList), carr x.f x.v.data.toList, x.f, if x.f then unn (nm x.fn.data.toList) else [], if x.f then typ x.t.data.toList else []⟩
theorem tld5_ent (x : Ent) : entOf (tld5 x) = tld x := by
  unfold entOf tld5 tld
  cases x.f <;> rfl
theorem rd_partE (x : Ent) : rd (partE x) = some (tld5 x) := rd_part _ _ _ _ _
/-- what is told is read back -/
theorem decE_enc (b : List UInt8) (es : List Ent) (hc : clearB es b = true) : decE (encP20 b es) b = some (es.map tld5) := by
  unfold clearB at hc
  rw [Bool.and_eq_true] at hc
  have hno : ∀ x ∈ es, Lib.contains (partE x) b = false := fun x hx => by
    cases h : Lib.contains (partE x) b
    · rfl
    · have : es.any (fun x => Lib.contains (partE x) b) = true := List.any_eq_true.2 ⟨x, hx, h⟩
      rw [this] at hc
      exact absurd hc.2 (by decide)
  have hg : ∀ p ∈ es.map partE, rd p = some ((rd p).getD ⟨[], [], false, [], []⟩) := fun p hp => by
    obtain ⟨x, _, rfl⟩ := List.mem_map.1 hp
    rw [rd_partE]; rfl
  rw [encP_L20, decE_back b hc.1 (fun p => (rd p).getD ⟨[], [], false, [], []⟩) (es.map partE) (fun p hp => by
    obtain ⟨x, hx, rfl⟩ := List.mem_map.1 hp
    exact hno x hx) hg, List.map_map]
  refine congrArg some (List.map_congr_left fun x _ => ?_)
  simp only [Function.comp, rd_partE, Option.getD_some]
theorem encP20_len (b : List UInt8) (hb : b.length ≤ 70) (es : List Ent) (hl : es.length ≤ 60) (hS : ∀ x ∈ es, Brief x) : (encP20 b es).length ≤ 60 * 60076 + 76 := by
  have h1 := pieces_len b hb es hS
  have h2 := Nat.mul_le_mul_right 60076 hl
  have h3 : (encP20 b es).length = (pieces b es).length + (b.length + 6) := by
    unfold encP20
    rw [List.length_append, List.length_append, List.length_append]
    simp only [List.length_cons, List.length_nil]
    omega
  rw [h3]
  exact Nat.add_le_add (Nat.le_trans h1 h2) (Nat.add_le_add_right hb 6)
end Go.Proofs.YtafbghlldlconaaGreatDoor

/-
  urlenc.Decode, ref19.Decode: the walks.
-/
namespace Go.Proofs.YtafbghlldlconaaGreatDoor
set_option linter.unusedVariables false
set_option linter.unusedSimpArgs false
open Go.RowKit PT

theorem own_lower {base b2 : Nat} {es : List Ent} {v : Value} {w : World} (h : OE base es v w) (hb : b2 ≤ base) : OE b2 es v w := by
  obtain ⟨h1, ⟨rfl, hn⟩ | ⟨g, cap, cur, rfl, h2, h3⟩⟩ := h
  · exact ⟨h1, .inl ⟨rfl, hn⟩⟩
  · exact ⟨h1, .inr ⟨g, cap, cur, rfl, by omega, h3⟩⟩
def dEnt (p : List UInt8) : Ent := ⟨⟨(unform (upTo 61 p)).toArray⟩, ⟨(unform (aft 61 p)).toArray⟩, false, ⟨#[]⟩, ⟨#[]⟩⟩
def decU (X : List (List UInt8)) : List Ent := (X.filter fun p => !p.isEmpty).map dEnt
theorem decE_empty (X : List (List UInt8)) (k : Nat) (hk : k < X.length) (h : X[k] = []) : decU (X.take (k + 1)) = decU (X.take k) := by
  unfold decU
  rw [List.take_succ_eq_append_getElem hk, List.filter_append, h]; simp
theorem decE_full (X : List (List UInt8)) (k : Nat) (hk : k < X.length) (h : X[k].isEmpty = false) : decU (X.take (k + 1)) = decU (X.take k) ++ [dEnt X[k]] := by
  unfold decU
  rw [List.take_succ_eq_append_getElem hk, List.filter_append, List.filter_cons_of_pos (by rw [h]; rfl), List.filter_nil, List.map_append]; rfl
theorem decU_len (X : List (List UInt8)) (k : Nat) : (decU (X.take k)).length ≤ k := by
  unfold decU
  rw [List.length_map]
  have h1 := List.length_filter_le (fun p : List UInt8 => !p.isEmpty) (X.take k)
  have h2 : (X.take k).length ≤ k := by rw [List.length_take]; omega
  omega
theorem decE_decP (l : List UInt8) : decU (spl 38 [] l) = (decP l).map fun y => ⟨⟨y.1.toArray⟩, ⟨y.2.toArray⟩, false, ⟨#[]⟩, ⟨#[]⟩⟩ := by
  unfold decU decP
  rw [List.map_map]; rfl
theorem some_bytes (x : List UInt8) : ∃ P : ByteArray, x = P.data.toList := ⟨⟨x.toArray⟩, rfl⟩
theorem txt_of (P : ByteArray) : txt P.data.toList = .string P := rfl

set_option maxHeartbeats 1000000 in
set_option maxRecDepth 100000 in
theorem urlDecode_any (s : ByteArray) (hs : s.size < 900000000) (hP : ∀ p ∈ spl 38 [] s.data.toList, p.length ≤ 900000) (w : World) (hT : Tables w) :
    Calls Tryz.prog 11 #[.string s] w fun e w' => (∃ v', e = .returned v' ∧ OE w.heap.size (decU (spl 38 [] s.data.toList)) v' w') ∧ Below w.heap.size w w' := by
  have hcnt := spl_count 38 s.data.toList []
  rw [size_list] at hcnt
  go_enter Tryz.func11, Tryz.ntmps11
  go_wp2_with fail
  refine (split_any s 38 (by omega) _ hT.shape).mono ?_
  rintro e w1 ⟨⟨v1, rfl, hown1⟩, hb1⟩
  have hX1 := hown1.txts
  have hT1 := hT.kept hb1
  have hb1s := hb1.size
  generalize hXe : spl 38 [] s.data.toList = X at *
  have HX := Lib.hid hXe
  clear hXe
  obtain ⟨a, cap, rfl⟩ := hX1.len
  clear hown1
  go_wp2_with fail
  go_loopw [12, 3] (fun i v wr => ∃ k : Nat, k ≤ X.length ∧ i = .int .i64 k ∧ OE w1.heap.size (decU (X.take k)) v wr ∧ Below w1.heap.size w1 wr) (fun i _ _ => X.length - (intOf i).toNat)
  case atStart => exact ⟨0, Nat.zero_le _, rfl, OE.nil _ _, Below.refl _ _⟩
  case round =>
    obtain ⟨k, hk, rfl, hown, hbel⟩ := hrel
    have hsz := hbel.size
    by_cases hlt : k < X.length
    · obtain ⟨b, o, cap', hv, hb, hc⟩ := (hX1.kept hbel).at hlt
      have hPk := hP X[k] (List.getElem_mem hlt)
      have hEm := Lib.hid (decE_empty X k hlt)
      have hFu := Lib.hid (decE_full X k hlt)
      have hDl := decU_len X k
      cases hv
      obtain ⟨P, hx⟩ := some_bytes X[k]
      rw [hx] at hc hPk hEm hFu
      rw [txt_of] at hc
      rw [size_list] at hPk
      clear hx
      have hpe : P.toList.isEmpty = P.data.toList.isEmpty := by rw [ByteArray.toList_eq]
      cases he : P.data.toList.isEmpty
      · rw [he] at hpe
        have hN := Lib.hid (hFu.out he)
        clear he
        have hu1 : (upTo 61 P.data.toList).length ≤ 900000 := by have := upTo_len 61 P.data.toList; rw [size_list] at this; omega
        have hu2 : (aft 61 P.data.toList).length ≤ 900000 := by unfold aft; rw [List.length_drop, size_list]; omega
        have hC := cut_aft 61 P.data.toList
        go_wp2_with fail
        refine (cut_any P 61 (by omega) _).mono ?_
        rintro e w2 ⟨rfl, n2, rfl⟩
        rw [hC.1, hC.2]
        clear hC
        have hbd := below_draws wr n2
        have hT2 := (hT1.kept hbel).kept hbd
        generalize wr.drewN n2 = w2 at *
        go_wp2_with fail
        refine (unform_any ⟨(upTo 61 P.data.toList).toArray⟩ (by rw [size_mk]; omega) _ hT2).mono ?_
        rintro e w3 ⟨rfl, hb3⟩
        have hT3 := hT2.kept hb3
        go_wp2_with fail
        refine (unform_any ⟨(aft 61 P.data.toList).toArray⟩ (by rw [size_mk]; omega) _ hT3).mono ?_
        rintro e w4 ⟨rfl, hb4⟩
        have hb04 := bs (bs hbd hb3) hb4
        have hown4 := hown.kept hb04
        have hs4 := hb04.size
        go_wp2_with (at_builtin; refine wpList_append_ent rfl _ _ rfl rfl rfl (dEnt P.data.toList) hown4 (by omega) (by omega) ?_; intro v' w5 hown5 hb5)
        go_roundw
        case rel => exact ⟨k + 1, by omega, by go_num, by rw [hN.out]; exact hown5, (hbel.trans (hb04.mono hsz)).trans hb5⟩
        case measure => simp [intOf]; omega
      · rw [he] at hpe
        have hN := Lib.hid (hEm.out (List.isEmpty_iff.1 he))
        clear he
        go_wp2_with fail
        go_roundw
        case rel => exact ⟨k + 1, by omega, by go_num, by rw [hN.out]; exact hown, hbel⟩
        case measure => simp [intOf]; omega
    · obtain rfl : k = X.length := by omega
      rw [List.take_of_length_le (Nat.le_refl _)] at hown
      go_wp2_with fail
      go_ret
      exact ⟨⟨_, rfl, by rw [HX.out]; exact own_lower hown hb1s⟩, hb1.trans (hbel.mono hb1s)⟩
end Go.Proofs.YtafbghlldlconaaGreatDoor
