/-
  What is told of entries: parts.Told, ref20.Told: the walks.
-/
import Derived.Test.YtapbljaohhcpoaaDoorUnname
import Derived.Test.YtapbljaohhcpoaaDoorParts3
import Derived.Test.YtapbljaohhcpoaaDoorSteps
namespace Go.Proofs.YtapbljaohhcpoaaDoor
open Go.RowKit PT

/-- what is told of an entry -/
def tld (x : Ent) : Ent := ⟨⟨(unn (nm x.n.data.toList)).toArray⟩, ⟨(carr x.f x.v.data.toList).toArray⟩, x.f, if x.f then ⟨(unn (nm x.fn.data.toList)).toArray⟩ else ⟨#[]⟩, if x.f then ⟨(typ x.t.data.toList).toArray⟩ else ⟨#[]⟩⟩
theorem tldS_kept {e : Nat} {c0 c1 c2 c3 c4 : Value} {w1 W W' : World} (h : W.cell? ⟨e, 0, none⟩ = some c0 ∧ W.cell? ⟨e, 1, none⟩ = some c1 ∧ W.cell? ⟨e, 2, none⟩ = some c2 ∧ W.cell? ⟨e, 3, none⟩ = some c3 ∧ W.cell? ⟨e, 4, none⟩ = some c4 ∧ e < w1.heap.size ∧ Below w1.heap.size w1 W ∧ Tables W) (hb : Below W.heap.size W W') :
    W'.cell? ⟨e, 0, none⟩ = some c0 ∧ W'.cell? ⟨e, 1, none⟩ = some c1 ∧ W'.cell? ⟨e, 2, none⟩ = some c2 ∧ W'.cell? ⟨e, 3, none⟩ = some c3 ∧ W'.cell? ⟨e, 4, none⟩ = some c4 ∧ e < w1.heap.size ∧ Below w1.heap.size w1 W' ∧ Tables W' := by
  obtain ⟨h0, h1, h2, h3, h4, he, hbe, hT⟩ := h
  have hs := hbe.size
  exact ⟨cellK hb (by omega) h0, cellK hb (by omega) h1, cellK hb (by omega) h2, cellK hb (by omega) h3, cellK hb (by omega) h4, he, hbe.trans (hb.mono hs), hT.kept hb⟩
theorem tldS_drew {e : Nat} {c0 c1 c2 c3 c4 : Value} {w1 W : World} (h : W.cell? ⟨e, 0, none⟩ = some c0 ∧ W.cell? ⟨e, 1, none⟩ = some c1 ∧ W.cell? ⟨e, 2, none⟩ = some c2 ∧ W.cell? ⟨e, 3, none⟩ = some c3 ∧ W.cell? ⟨e, 4, none⟩ = some c4 ∧ e < w1.heap.size ∧ Below w1.heap.size w1 W ∧ Tables W) :
    W.drew.cell? ⟨e, 0, none⟩ = some c0 ∧ W.drew.cell? ⟨e, 1, none⟩ = some c1 ∧ W.drew.cell? ⟨e, 2, none⟩ = some c2 ∧ W.drew.cell? ⟨e, 3, none⟩ = some c3 ∧ W.drew.cell? ⟨e, 4, none⟩ = some c4 ∧ e < w1.heap.size ∧ Below w1.heap.size w1 W.drew ∧ Tables W.drew :=
  tldS_kept h ⟨rfl, rfl, rfl, Nat.le_refl _, fun _ _ => rfl⟩
theorem tldS_alloc {e : Nat} {c0 c1 c2 c3 c4 : Value} {w1 W : World} (o : Obj) (h : W.cell? ⟨e, 0, none⟩ = some c0 ∧ W.cell? ⟨e, 1, none⟩ = some c1 ∧ W.cell? ⟨e, 2, none⟩ = some c2 ∧ W.cell? ⟨e, 3, none⟩ = some c3 ∧ W.cell? ⟨e, 4, none⟩ = some c4 ∧ e < w1.heap.size ∧ Below w1.heap.size w1 W ∧ Tables W) :
    (W.alloc o).cell? ⟨e, 0, none⟩ = some c0 ∧ (W.alloc o).cell? ⟨e, 1, none⟩ = some c1 ∧ (W.alloc o).cell? ⟨e, 2, none⟩ = some c2 ∧ (W.alloc o).cell? ⟨e, 3, none⟩ = some c3 ∧ (W.alloc o).cell? ⟨e, 4, none⟩ = some c4 ∧ e < w1.heap.size ∧ Below w1.heap.size w1 (W.alloc o) ∧ Tables (W.alloc o) :=
  tldS_kept h ((Below.refl W.heap.size W).alloc (Nat.le_refl _) o)
theorem tldS_tab {e : Nat} {c0 c1 c2 c3 c4 : Value} {w1 W : World} (h : W.cell? ⟨e, 0, none⟩ = some c0 ∧ W.cell? ⟨e, 1, none⟩ = some c1 ∧ W.cell? ⟨e, 2, none⟩ = some c2 ∧ W.cell? ⟨e, 3, none⟩ = some c3 ∧ W.cell? ⟨e, 4, none⟩ = some c4 ∧ e < w1.heap.size ∧ Below w1.heap.size w1 W ∧ Tables W) : Tables W := h.2.2.2.2.2.2.2
theorem tldS_bel {e : Nat} {c0 c1 c2 c3 c4 : Value} {w1 W : World} (h : W.cell? ⟨e, 0, none⟩ = some c0 ∧ W.cell? ⟨e, 1, none⟩ = some c1 ∧ W.cell? ⟨e, 2, none⟩ = some c2 ∧ W.cell? ⟨e, 3, none⟩ = some c3 ∧ W.cell? ⟨e, 4, none⟩ = some c4 ∧ e < w1.heap.size ∧ Below w1.heap.size w1 W ∧ Tables W) : Below w1.heap.size w1 W := h.2.2.2.2.2.2.1
theorem partS_tab {b : Nat} {x y : Value} {w1 W : World} (h : W.cell? ⟨b, 3, none⟩ = some x ∧ W.cell? ⟨b, 4, none⟩ = some y ∧ b < w1.heap.size ∧ Below w1.heap.size w1 W ∧ Tables W) : Tables W := h.2.2.2.2
theorem partS_set {b g i : Nat} {x y u : Value} {w1 W : World} (hT1 : Tables w1) (hg : w1.heap.size ≤ g) (h : W.cell? ⟨b, 3, none⟩ = some x ∧ W.cell? ⟨b, 4, none⟩ = some y ∧ b < w1.heap.size ∧ Below w1.heap.size w1 W ∧ Tables W) :
    (W.setCell ⟨g, i, none⟩ u).cell? ⟨b, 3, none⟩ = some x ∧ (W.setCell ⟨g, i, none⟩ u).cell? ⟨b, 4, none⟩ = some y ∧ b < w1.heap.size ∧ Below w1.heap.size w1 (W.setCell ⟨g, i, none⟩ u) ∧ Tables (W.setCell ⟨g, i, none⟩ u) := by
  obtain ⟨h3, h4, hl, hb, _⟩ := h
  have hs : Below w1.heap.size W (W.setCell ⟨g, i, none⟩ u) := (Below.refl _ W).setCell (p := ⟨g, i, none⟩) hg u
  exact ⟨cellK hs hl h3, cellK hs hl h4, hl, hb.trans hs, hT1.kept (hb.trans hs)⟩
theorem set2_heap {W : World} {g : Nat} {a0 b0 c0 d0 e0 : Value} {t : TypeId} (d e : Value) (h : W.heap[g]? = some (.cells #[a0, b0, c0, d0, e0] t (0, 0))) :
    ((W.setCell ⟨g, 3, none⟩ d).setCell ⟨g, 4, none⟩ e).heap[g]? = some (.cells #[a0, b0, c0, d, e] t (0, 0)) := by
  rw [setCell_heap e (setCell_heap d h)]
  rfl
theorem tldS_sz {e : Nat} {c0 c1 c2 c3 c4 : Value} {w1 W : World} (h : W.cell? ⟨e, 0, none⟩ = some c0 ∧ W.cell? ⟨e, 1, none⟩ = some c1 ∧ W.cell? ⟨e, 2, none⟩ = some c2 ∧ W.cell? ⟨e, 3, none⟩ = some c3 ∧ W.cell? ⟨e, 4, none⟩ = some c4 ∧ e < w1.heap.size ∧ Below w1.heap.size w1 W ∧ Tables W) : w1.heap.size ≤ W.heap.size := h.2.2.2.2.2.2.1.size
theorem tldS_at {e : Nat} {c0 c1 c2 c3 c4 : Value} {w1 W W' : World} (h : W.cell? ⟨e, 0, none⟩ = some c0 ∧ W.cell? ⟨e, 1, none⟩ = some c1 ∧ W.cell? ⟨e, 2, none⟩ = some c2 ∧ W.cell? ⟨e, 3, none⟩ = some c3 ∧ W.cell? ⟨e, 4, none⟩ = some c4 ∧ e < w1.heap.size ∧ Below w1.heap.size w1 W ∧ Tables W) (hT1 : Tables w1) (hb : Below w1.heap.size W W') :
    W'.cell? ⟨e, 0, none⟩ = some c0 ∧ W'.cell? ⟨e, 1, none⟩ = some c1 ∧ W'.cell? ⟨e, 2, none⟩ = some c2 ∧ W'.cell? ⟨e, 3, none⟩ = some c3 ∧ W'.cell? ⟨e, 4, none⟩ = some c4 ∧ e < w1.heap.size ∧ Below w1.heap.size w1 W' ∧ Tables W' := by
  obtain ⟨h0, h1, h2, h3, h4, he, hbe, hT⟩ := h
  exact ⟨cellK hb he h0, cellK hb he h1, cellK hb he h2, cellK hb he h3, cellK hb he h4, he, hbe.trans hb, hT1.kept (hbe.trans hb)⟩
set_option maxHeartbeats 8000000 in
set_option maxRecDepth 100000 in
theorem told_any (es : List Ent) (v : Value) (w : World) (hE : Ents es v w) (hT : Tables w) (hl : es.length ≤ 1000) (hS : ∀ x ∈ es, Brief x) :
    Calls Tryd.prog 20 #[v] w fun e w' => (∃ v', e = .returned v' ∧ OE w.heap.size (es.map tld) v' w') ∧ Below w.heap.size w w' := by
  obtain ⟨a, cap, rfl⟩ := hE.len
  go_enter Tryd.func20, Tryd.ntmps20
  go_wp2_with fail
  go_loopw [9, 3] (fun i v wr => ∃ k : Nat, k ≤ es.length ∧ i = .int .i64 k ∧ OE w.heap.size ((es.take k).map tld) v wr ∧ Below w.heap.size w wr) (fun i _ _ => es.length - (intOf i).toNat)
  case atStart => exact ⟨0, Nat.zero_le _, rfl, OE.nil _ _, Below.refl _ _⟩
  case round =>
    obtain ⟨k, hk, rfl, hown, hbel⟩ := hrel
    have hsz := hbel.size
    by_cases hlt : k < es.length
    · obtain ⟨b, o, cap', hv, hb, hc0, hc1, hc2, hc3, hc4⟩ := (hE.kept hbel).five hlt
      have hSk := hS es[k] (List.getElem_mem hlt)
      have hTk := Lib.hid (List.take_succ_eq_append_getElem hlt)
      cases hv
      generalize es[k] = x at *
      obtain ⟨n, v, f, fn, t⟩ := x
      obtain ⟨s1, s2, s3, s4⟩ := hSk
      simp only at hc0 hc1 hc2 hc3 hc4 s1 s2 s3 s4
      have hb0 := (Below.refl wr.heap.size wr).alloc (Nat.le_refl _) (.cells #[.string n, .string v, .bool f, .string fn, .string t] 50)
      have hT0 := hT.kept (hbel.trans (hb0.mono hsz))
      have hs0 : (wr.alloc (.cells #[.string n, .string v, .bool f, .string fn, .string t] 50)).heap.size = wr.heap.size + 1 := by simp
      have hn0 := Go.heap_alloc_new wr (.cells #[.string n, .string v, .bool f, .string fn, .string t] 50)
      have hml := nm_len n.data.toList
      rw [size_list] at hml
      go_upto_region 5 with fail
      generalize hW0 : wr.alloc (.cells #[.string n, .string v, .bool f, .string fn, .string t] 50) = W0 at *
      have q0 : W0.cell? ⟨wr.heap.size, 0, none⟩ = some (.string n) := by simp [World.cell?, hn0]
      have q1 : W0.cell? ⟨wr.heap.size, 1, none⟩ = some (.string v) := by simp [World.cell?, hn0]
      have q2 : W0.cell? ⟨wr.heap.size, 2, none⟩ = some (.bool f) := by simp [World.cell?, hn0]
      have q3 : W0.cell? ⟨wr.heap.size, 3, none⟩ = some (.string fn) := by simp [World.cell?, hn0]
      have q4 : W0.cell? ⟨wr.heap.size, 4, none⟩ = some (.string t) := by simp [World.cell?, hn0]
      have hS1 : W0.cell? ⟨wr.heap.size, 0, none⟩ = some (.string n) ∧ W0.cell? ⟨wr.heap.size, 1, none⟩ = some (.string v) ∧ W0.cell? ⟨wr.heap.size, 2, none⟩ = some (.bool f) ∧ W0.cell? ⟨wr.heap.size, 3, none⟩ = some (.string fn) ∧ W0.cell? ⟨wr.heap.size, 4, none⟩ = some (.string t) ∧ wr.heap.size < W0.heap.size ∧ Below W0.heap.size W0 W0 ∧ Tables W0 := ⟨q0, q1, q2, q3, q4, by omega, Below.refl _ _, hT0⟩
      have hw0 : wr.heap.size < W0.heap.size := by omega
      clear hn0 hs0 hW0
      have hTL := typ_len t.data.toList
      go_cut [6] (fun s6 wx => ∃ g, s6 = .pointer (some ⟨g, 0, none⟩) ∧ wx.heap[g]? = some (.cells #[.string ⟨(unn (nm n.data.toList)).toArray⟩, .string ⟨(carr f v.data.toList).toArray⟩, .bool f, .string ⟨#[]⟩, .string ⟨#[]⟩] 50) ∧ W0.heap.size ≤ g ∧ Below W0.heap.size W0 wx)
      case first =>
        clear hown hE hc0 hc1 hc2 hc3 hc4 hTk hbel hS hl hTL hb hsz hlt hk s3 s4 hb0 hT
        go_region_held3 (fun W => W.cell? ⟨wr.heap.size, 0, none⟩ = some (.string n) ∧ W.cell? ⟨wr.heap.size, 1, none⟩ = some (.string v) ∧ W.cell? ⟨wr.heap.size, 2, none⟩ = some (.bool f) ∧ W.cell? ⟨wr.heap.size, 3, none⟩ = some (.string fn) ∧ W.cell? ⟨wr.heap.size, 4, none⟩ = some (.string t) ∧ wr.heap.size < W0.heap.size ∧ Below W0.heap.size W0 W ∧ Tables W) (with_reducible first | assumption | exact tldS_drew (by assumption) | exact tldS_alloc _ (by assumption) | exact tldS_drew (tldS_alloc _ hS1) | exact tldS_alloc _ (tldS_drew hS1) | exact tldS_kept (by assumption) (by assumption) | exact tldS_at (by assumption) hT0 (below_re _ _ _ (by assumption)) | exact tldS_at (by assumption) hT0 (set5_below _ _ _ _ _ _ _ (by first | assumption | exact Nat.le_refl _))) ((first
          | (go_at_call 39; refine (name_any n (by omega) _ (tldS_tab (by assumption))).mono ?_; rintro e w2 ⟨rfl, hb2⟩; have y2 := Nat.le_trans (tldS_sz (by assumption)) hb2.size; (first | have z := fresh_kept_d hb2 | have z := fresh_kept hb2 | have z := blk_kept hb2 z | skip); (try (have zz := five_of z; obtain ⟨_, _, _, _, _, _, _, _, _, _⟩ := zz)))
          | (go_at_call 38; refine (unname_any ⟨(nm n.data.toList).toArray⟩ (by rw [size_mk]; omega) _ (tldS_tab (by assumption))).mono ?_; rintro e w3 ⟨rfl, hb3⟩; have y3 := Nat.le_trans (tldS_sz (by assumption)) hb3.size; (first | have z := fresh_kept_d hb3 | have z := fresh_kept hb3 | have z := blk_kept hb3 z | skip); (try (have zz := five_of z; obtain ⟨_, _, _, _, _, _, _, _, _, _⟩ := zz)))
          | (go_at_call 40; refine (carried_any ⟨n, v, f, fn, t⟩ (by simp only; omega) _ (tldS_tab (by assumption))).mono ?_; rintro e w4 ⟨rfl, hb4⟩; have y4 := Nat.le_trans (tldS_sz (by assumption)) hb4.size; (first | have z := fresh_kept_d hb4 | have z := fresh_kept hb4 | have z := blk_kept hb4 z | skip); (try (have zz := five_of z; obtain ⟨_, _, _, _, _, _, _, _, _, _⟩ := zz)))))
        · go_wp2_with fail
          go_meet
          exact ⟨_, rfl, Go.heap_alloc_new _ _, y4, tldS_bel (by assumption)⟩
        all_goals
          go_wp2_with fail
          go_meet
          exact ⟨_, rfl, set5_heap _ _ _ _ _ z, by first | assumption | exact Nat.le_refl _, tldS_bel (by assumption)⟩
      case rest =>
        obtain ⟨g, rfl, hg, hWg, hbc⟩ := hcut
        have q2c := cellK hbc (by assumption) q2
        have q3c := cellK hbc (by assumption) q3
        have q4c := cellK hbc (by assumption) q4
        have hb0c := hb0.trans (hbc.mono (by omega))
        have hownc := hown.kept hb0c
        have hll : ((es.take k).map tld).length ≤ 1000 := by rw [List.length_map, List.length_take]; omega
        have hgs := (Array.getElem?_eq_some_iff.1 hg).1
        have hTc := hT0.kept hbc
        cases f
        · obtain ⟨x0, x1, x2, x3, x4, f0, f1, f2, f3, f4⟩ := five_of hg
          go_wp2_with (at_builtin; refine wpList_append_ent rfl _ _ rfl rfl rfl (tld ⟨n, v, false, fn, t⟩) hownc (by omega) (by have := hb0c.size; omega) ?_; intro v' w3 hown3 hb3)
          go_roundw
          case rel => exact ⟨k + 1, by omega, by go_num, by rw [hTk.out, List.map_append]; exact hown3, (hbel.trans (hb0c.mono hsz)).trans hb3⟩
          case measure => simp [intOf]; omega
        · have hS7 := And.intro q3c (And.intro q4c (And.intro hw0 (And.intro hbc hTc)))
          have hmf := nm_len fn.data.toList
          rw [size_list] at hmf
          go_wp2_with fail
          go_region_held3 (fun W => W.cell? ⟨wr.heap.size, 3, none⟩ = some (.string fn) ∧ W.cell? ⟨wr.heap.size, 4, none⟩ = some (.string t) ∧ wr.heap.size < W0.heap.size ∧ Below W0.heap.size W0 W ∧ Tables W) (with_reducible first | assumption | exact partS_drew (by assumption) | exact partS_set hT0 hWg (by assumption) | exact partS_set hT0 hWg (partS_set hT0 hWg (by assumption)) | exact partS_kept (by assumption) (by assumption)) ((first
            | (go_at_call 39; refine (name_any fn (by omega) _ (partS_tab (by assumption))).mono ?_; rintro e w2 ⟨rfl, hb2⟩; have z := blk_kept hb2 hg)
            | (go_at_call 38; refine (unname_any ⟨(nm fn.data.toList).toArray⟩ (by rw [size_mk]; omega) _ (partS_tab (by assumption))).mono ?_; rintro e w3 ⟨rfl, hb3⟩; have z3 := blk_kept hb3 z; obtain ⟨_, _, _, _, _, _, _, _, _, _⟩ := five_of z3)
            | (go_at_call 41; refine (kind_any t (by omega) _).mono ?_; rintro e w4 ⟨rfl, rfl⟩)))
          all_goals
            refine take_world (fun W => W.cell? ⟨wr.heap.size, 3, none⟩ = some (.string fn) ∧ W.cell? ⟨wr.heap.size, 4, none⟩ = some (.string t) ∧ wr.heap.size < W0.heap.size ∧ Below W0.heap.size W0 W ∧ Tables W) (by assumption) ?_
            rintro ⟨_, _, _, hbW, hTW⟩
            have z9 := set2_heap (.string ⟨(unn (nm fn.data.toList)).toArray⟩) (.string ⟨(typ t.data.toList).toArray⟩) z3
            generalize hW9 : (w3.setCell _ _).setCell _ _ = W9 at hbW hTW z9 ⊢
            clear hownc hb0c
            have hb9 := hb0.trans (hbW.mono (by omega))
            have hown9 := hown.kept hb9
            have hs9 := hb9.size
            obtain ⟨x0, x1, x2, x3, x4, f0, f1, f2, f3, f4⟩ := five_of z9
            clear z z3 hW9
            go_wp2_with (at_builtin; refine wpList_append_ent rfl _ _ rfl rfl rfl (tld ⟨n, v, true, fn, t⟩) hown9 (by omega) (by omega) ?_; intro v' w9 hown3 hb3)
            go_roundw
            case rel => exact ⟨k + 1, by omega, by go_num, by rw [hTk.out, List.map_append]; exact hown3, (hbel.trans (hb9.mono hsz)).trans hb3⟩
            case measure => simp [intOf]; omega
    · obtain rfl : k = es.length := by omega
      rw [List.take_of_length_le (Nat.le_refl _)] at hown
      go_wp2_with fail
      go_ret
      exact ⟨⟨_, rfl, hown⟩, hbel⟩
end Go.Proofs.YtapbljaohhcpoaaDoor
