/-
  What is told of entries: ref20.Told: the walk.
-/
import Derived.Test.YtapbljaohhcpoaaDoorTold
namespace Go.Proofs.YtapbljaohhcpoaaDoor
open Go.RowKit PT

theorem rtS_kept {b p q : Nat} {c0 c1 : Value} {w1 W W' : World} (h : W.cell? ⟨b, p, none⟩ = some c0 ∧ W.cell? ⟨b, q, none⟩ = some c1 ∧ b < w1.heap.size ∧ Below w1.heap.size w1 W) (hb : Below W.heap.size W W') :
    W'.cell? ⟨b, p, none⟩ = some c0 ∧ W'.cell? ⟨b, q, none⟩ = some c1 ∧ b < w1.heap.size ∧ Below w1.heap.size w1 W' := by
  obtain ⟨h0, h1, he, hbe⟩ := h
  have hs := hbe.size
  exact ⟨cellK hb (by omega) h0, cellK hb (by omega) h1, he, hbe.trans (hb.mono hs)⟩
theorem rtS_drew {b p q : Nat} {c0 c1 : Value} {w1 W : World} (h : W.cell? ⟨b, p, none⟩ = some c0 ∧ W.cell? ⟨b, q, none⟩ = some c1 ∧ b < w1.heap.size ∧ Below w1.heap.size w1 W) :
    W.drew.cell? ⟨b, p, none⟩ = some c0 ∧ W.drew.cell? ⟨b, q, none⟩ = some c1 ∧ b < w1.heap.size ∧ Below w1.heap.size w1 W.drew := rtS_kept h ⟨rfl, rfl, rfl, Nat.le_refl _, fun _ _ => rfl⟩
theorem rtS_alloc {b p q : Nat} {c0 c1 : Value} {w1 W : World} (o : Obj) (h : W.cell? ⟨b, p, none⟩ = some c0 ∧ W.cell? ⟨b, q, none⟩ = some c1 ∧ b < w1.heap.size ∧ Below w1.heap.size w1 W) :
    (W.alloc o).cell? ⟨b, p, none⟩ = some c0 ∧ (W.alloc o).cell? ⟨b, q, none⟩ = some c1 ∧ b < w1.heap.size ∧ Below w1.heap.size w1 (W.alloc o) := rtS_kept h ((Below.refl W.heap.size W).alloc (Nat.le_refl _) o)
theorem rtS_at {b p q : Nat} {c0 c1 : Value} {w1 W W' : World} (h : W.cell? ⟨b, p, none⟩ = some c0 ∧ W.cell? ⟨b, q, none⟩ = some c1 ∧ b < w1.heap.size ∧ Below w1.heap.size w1 W) (hb : Below w1.heap.size W W') :
    W'.cell? ⟨b, p, none⟩ = some c0 ∧ W'.cell? ⟨b, q, none⟩ = some c1 ∧ b < w1.heap.size ∧ Below w1.heap.size w1 W' := by
  obtain ⟨h0, h1, he, hbe⟩ := h
  exact ⟨cellK hb he h0, cellK hb he h1, he, hbe.trans hb⟩
theorem rtS_sz {b p q : Nat} {c0 c1 : Value} {w1 W : World} (h : W.cell? ⟨b, p, none⟩ = some c0 ∧ W.cell? ⟨b, q, none⟩ = some c1 ∧ b < w1.heap.size ∧ Below w1.heap.size w1 W) : w1.heap.size ≤ W.heap.size := h.2.2.2.size
theorem set2_at {W : World} {g : Nat} {a0 b0 c0 d0 e0 : Value} {t : TypeId} (b c : Value) (h : W.heap[g]? = some (.cells #[a0, b0, c0, d0, e0] t (0, 0))) :
    ((W.setCell ⟨g, 2, none⟩ c).setCell ⟨g, 1, none⟩ b).heap[g]? = some (.cells #[a0, b, c, d0, e0] t (0, 0)) := by
  rw [setCell_heap b (setCell_heap c h)]
  rfl
theorem set1_at3 {W : World} {g : Nat} {a0 b0 c0 d0 e0 : Value} {t : TypeId} (d : Value) (h : W.heap[g]? = some (.cells #[a0, b0, c0, d0, e0] t (0, 0))) :
    (W.setCell ⟨g, 3, none⟩ d).heap[g]? = some (.cells #[a0, b0, c0, d, e0] t (0, 0)) := by
  rw [setCell_heap d h]; rfl
theorem set1_at4 {W : World} {g : Nat} {a0 b0 c0 d0 e0 : Value} {t : TypeId} (e : Value) (h : W.heap[g]? = some (.cells #[a0, b0, c0, d0, e0] t (0, 0))) :
    (W.setCell ⟨g, 4, none⟩ e).heap[g]? = some (.cells #[a0, b0, c0, d0, e] t (0, 0)) := by
  rw [setCell_heap e h]; rfl
theorem set_below {B : Nat} (W : World) (g i : Nat) (u : Value) (hB : B ≤ g) : Below B W (W.setCell ⟨g, i, none⟩ u) := (Below.refl B W).setCell (p := ⟨g, i, none⟩) hB u
set_option maxHeartbeats 8000000 in
set_option maxRecDepth 100000 in
theorem refTold_any (es : List Ent) (v : Value) (w : World) (hE : Ents es v w) (hl : es.length ≤ 1000) (hS : ∀ x ∈ es, Brief x) :
    Calls Tryd.prog 21 #[v] w fun e w' => (∃ v', e = .returned v' ∧ OE w.heap.size (es.map tld) v' w') ∧ Below w.heap.size w w' := by
  obtain ⟨a, cap, rfl⟩ := hE.len
  go_enter Tryd.func21, Tryd.ntmps21
  go_wp2_with fail
  go_loopw [4, 3] (fun i v wr => ∃ k : Nat, k ≤ es.length ∧ i = .int .i64 k ∧ OE w.heap.size ((es.take k).map tld) v wr ∧ Below w.heap.size w wr) (fun i _ _ => es.length - (intOf i).toNat)
  case atStart => exact ⟨0, Nat.zero_le _, rfl, OE.nil _ _, Below.refl _ _⟩
  case round =>
    obtain ⟨k, hk, rfl, hown, hbel⟩ := hrel
    have hsz := hbel.size
    by_cases hlt : k < es.length
    · obtain ⟨b, o, cap', hv, hb, hc0, hc1, hc2, hc3, hc4⟩ := (hE.kept hbel).five hlt
      have hSk := hS es[k] (List.getElem_mem hlt)
      have hTk := Lib.hid (List.take_succ_eq_append_getElem hlt)
      cases hv
      generalize es[k] = x at *
      obtain ⟨n, v, f, fn, t⟩ := x
      obtain ⟨s1, s2, s3, s4⟩ := hSk
      simp only at hc0 hc1 hc2 hc3 hc4 s1 s2 s3 s4
      have hml := nm_len n.data.toList
      rw [size_list] at hml
      have hk0 : (0 : Int) ≤ (k : Int) := by omega
      have hk1 : (k : Int) < (es.length : Int) := by omega
      have hS1 := And.intro hc0 (And.intro hc1 (And.intro hb (Below.refl wr.heap.size wr)))
      go_upto_region 5 with fail
      go_cut [5] (fun s5 wx => ∃ g, s5 = .pointer (some ⟨g, 0, none⟩) ∧ wx.heap[g]? = some (.cells #[.string ⟨(unn (nm n.data.toList)).toArray⟩, .string ⟨(carr false v.data.toList).toArray⟩, .bool false, .string ⟨#[]⟩, .string ⟨#[]⟩] 50) ∧ wr.heap.size ≤ g ∧ Below wr.heap.size wr wx)
      case first =>
        clear hown hE hc0 hc1 hc2 hc3 hc4 hTk hbel hS hl hlt hk s3 s4
        go_region_held3 (fun W => W.cell? ⟨b, o + k * 5, none⟩ = some (.string n) ∧ W.cell? ⟨b, o + k * 5 + 1, none⟩ = some (.string v) ∧ b < wr.heap.size ∧ Below wr.heap.size wr W) (with_reducible first | assumption | exact rtS_drew (by assumption) | exact rtS_alloc _ (by assumption) | exact rtS_drew (rtS_alloc _ hS1) | exact rtS_alloc _ (rtS_drew hS1) | exact rtS_kept (by assumption) (by assumption) | exact rtS_at (by assumption) (below_re _ _ _ (by assumption)) | exact rtS_at (by assumption) (set5_below _ _ _ _ _ _ _ (by first | assumption | exact Nat.le_refl _))) ((first
          | (go_at_call 43; refine (refName_any n (by omega) _).mono ?_; rintro e w2 ⟨rfl, hb2⟩; have y2 := Nat.le_trans (rtS_sz (by assumption)) hb2.size; (first | have z := fresh_kept_d hb2 | have z := fresh_kept hb2 | have z := blk_kept hb2 z | skip); (try (have zz := five_of z; obtain ⟨_, _, _, _, _, _, _, _, _, _⟩ := zz)))
          | (go_at_call 42; refine (refUnname_any ⟨(nm n.data.toList).toArray⟩ (by rw [size_mk]; omega) _).mono ?_; rintro e w3 ⟨rfl, hb3⟩; have y3 := Nat.le_trans (rtS_sz (by assumption)) hb3.size; (first | have z := fresh_kept_d hb3 | have z := fresh_kept hb3 | have z := blk_kept hb3 z | skip); (try (have zz := five_of z; obtain ⟨_, _, _, _, _, _, _, _, _, _⟩ := zz)))
          | (go_at_call 28; refine (refPairs_any v (by omega) _).mono ?_; rintro e w4 ⟨rfl, hb4⟩; have y4 := Nat.le_trans (rtS_sz (by assumption)) hb4.size; (first | have z := fresh_kept_d hb4 | have z := fresh_kept hb4 | have z := blk_kept hb4 z | skip); (try (have zz := five_of z; obtain ⟨_, _, _, _, _, _, _, _, _, _⟩ := zz)))))
        · go_wp2_with fail
          go_meet
          exact ⟨_, rfl, Go.heap_alloc_new _ _, y4, (by assumption : _ ∧ _ ∧ _ ∧ _).2.2.2⟩
        all_goals
          go_wp2_with fail
          go_meet
          exact ⟨_, rfl, set5_heap _ _ _ _ _ z, by first | assumption | exact Nat.le_refl _, (by assumption : _ ∧ _ ∧ _ ∧ _).2.2.2⟩
      case rest =>
        obtain ⟨g, rfl, hg, hWg, hbc⟩ := hcut
        have q1 := cellK hbc hb hc1
        have q2 := cellK hbc hb hc2
        have q3 := cellK hbc hb hc3
        have hownc := hown.kept hbc
        have hll : ((es.take k).map tld).length ≤ 1000 := by rw [List.length_map, List.length_take]; omega
        have hgs := (Array.getElem?_eq_some_iff.1 hg).1
        have hne : b ≠ g := by omega
        have hne' : g ≠ b := by omega
        cases f
        · obtain ⟨x0, x1, x2, x3, x4, f0, f1, f2, f3, f4⟩ := five_of hg
          clear hc0 hc1 hc2 hc3 hc4
          go_wp2_with (at_builtin; refine wpList_append_ent rfl _ _ rfl rfl rfl (tld ⟨n, v, false, fn, t⟩) hownc (by omega) (by have := hbc.size; omega) ?_; intro v' w3 hown3 hb3)
          go_roundw
          case rel => exact ⟨k + 1, by omega, by go_num, by rw [hTk.out, List.map_append]; exact hown3, (hbel.trans (hbc.mono hsz)).trans hb3⟩
          case measure => simp [intOf]; omega
        · obtain ⟨x0, x1, x2, x3, x4, f0, f1, f2, f3, f4⟩ := five_of hg
          have hz0 := set2_at (.string v) (.bool true) hg
          have hbA := (hbc.trans (set_below _ g 2 (.bool true) hWg)).trans (set_below _ g 1 (.string v) hWg)
          have hmf := nm_len fn.data.toList
          rw [size_list] at hmf
          have HC := Lib.hid (And.intro hc3 hc4)
          clear hc0 hc1 hc2 hc3 hc4
          go_wp2_with fail
          refine (refName_any fn (by omega) _).mono ?_
          rintro e w2 ⟨rfl, hb2⟩
          have z2 := blk_kept hb2 hz0
          have hbB := bs hbA hb2
          clear x0 x1 x2 x3 x4 f0 f1 f2 f3 f4 q1 q2 q3 hz0 hb2 hg hbc hownc hbA
          go_wp2_with fail
          refine (refUnname_any ⟨(nm fn.data.toList).toArray⟩ (by rw [size_mk]; omega) _).mono ?_
          rintro e w3 ⟨rfl, hb3⟩
          have z3 := blk_kept hb3 z2
          have hbC := bs hbB hb3
          obtain ⟨x0, x1, x2, x3, x4, f0, f1, f2, f3, f4⟩ := five_of z3
          have q4 := cellK hbC hb HC.out.2
          have hz3 := set1_at3 (.string ⟨(unn (nm fn.data.toList)).toArray⟩) z3
          have hbD := hbC.trans (set_below _ g 3 (.string ⟨(unn (nm fn.data.toList)).toArray⟩) hWg)
          clear z2 hb3 hbB
          go_wp2_with fail
          refine (refType_any t (by omega) _).mono ?_
          rintro e w4 ⟨rfl, rfl⟩
          have hz4 := set1_at4 (.string ⟨(typ t.data.toList).toArray⟩) hz3
          have hbE := hbD.trans (set_below _ g 4 (.string ⟨(typ t.data.toList).toArray⟩) hWg)
          go_upto_region 11 with fail
          generalize hW9 : (w3.setCell _ _).setCell _ _ = W9 at hbE hz4 ⊢
          have hown9 := hown.kept hbE
          have hs9 := hbE.size
          clear x0 x1 x2 x3 x4 f0 f1 f2 f3 f4 z3 hz3 hbC hbD hW9 q4
          obtain ⟨x0, x1, x2, x3, x4, f0, f1, f2, f3, f4⟩ := five_of hz4
          go_wp2_with (at_builtin; refine wpList_append_ent rfl _ _ rfl rfl rfl ⟨⟨(unn (nm n.data.toList)).toArray⟩, v, true, ⟨(unn (nm fn.data.toList)).toArray⟩, ⟨(typ t.data.toList).toArray⟩⟩ hown9 (by omega) (by omega) ?_; intro v' w9 hown3 hb9)
          go_roundw
          case rel => exact ⟨k + 1, by omega, by go_num, by rw [hTk.out, List.map_append]; exact hown3, (hbel.trans (hbE.mono hsz)).trans hb9⟩
          case measure => simp [intOf]; omega
    · obtain rfl : k = es.length := by omega
      rw [List.take_of_length_le (Nat.le_refl _)] at hown
      go_wp2_with fail
      go_ret
      exact ⟨⟨_, rfl, hown⟩, hbel⟩
end Go.Proofs.YtapbljaohhcpoaaDoor
