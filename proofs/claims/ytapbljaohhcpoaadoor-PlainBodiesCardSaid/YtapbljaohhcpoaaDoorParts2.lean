/-
  ref20.find; slices.ContainsFunc over entries; parts.Clear, Choose, ref20.Clear, Choose: the walks.
-/
import Derived.Test.YtapbljaohhcpoaaDoorRefParts1
import Derived.Test.YtapbljaohhcpoaaDoorShelf
import Derived.Test.YtapbljaohhcpoaaDoorDraws
import Derived.Lib.IndexLaws
namespace Go.Proofs.YtapbljaohhcpoaaDoor
open Go.RowKit PT

/-- the first place of a text, from a place on -/
def fnd (l t : List UInt8) (from_ : Nat) : Int := if Lib.index (l.drop from_) t = -1 then -1 else (from_ : Int) + Lib.index (l.drop from_) t
theorem occ_at (s t : ByteArray) (f j : Nat) (h : f + j + t.size ≤ s.size) : Lib.occAt (s.data.toList.drop f) t.data.toList j = decide (s.extract (f + j) (f + j + t.size) = t) := by
  have e : (s.extract (f + j) (f + j + t.size)).data.toList = (s.data.toList.drop (f + j)).take t.size := by
    rw [Lib.extract_data, show f + j + t.size - (f + j) = t.size by omega]
  unfold Lib.occAt
  rw [List.drop_drop, Bool.eq_iff_iff, decide_eq_true_iff, List.isPrefixOf_iff_prefix, List.prefix_iff_eq_take, size_list]
  constructor
  · intro h
    apply ByteArray.ext
    apply Array.toList_inj.1
    rw [e, ← h]
  · intro h
    rw [← e, h]
set_option maxHeartbeats 1000000 in
set_option maxRecDepth 100000 in
theorem find_any (s t : ByteArray) (f : Nat) (hs : s.size ≤ 1000000000) (ht : 1 ≤ t.size) (ht2 : t.size ≤ 1000000000) (hf : f ≤ s.size) (w : World) :
    Calls Tryd.prog 34 #[.string s, .string t, .int .i64 f] w fun e w' => e = .returned (.int .i64 (fnd s.data.toList t.data.toList f)) ∧ Below w.heap.size w w' := by
  have htn : t.data.toList ≠ [] := by
    intro e
    have := congrArg List.length e
    rw [size_list, List.length_nil] at this
    omega
  go_enter Tryd.func34, Tryd.ntmps34
  go_wp2_with fail
  go_loopw [7] (fun i wr => ∃ j : Nat, f + j ≤ s.size + 1 ∧ i = .int .i64 ((f + j : Nat) : Int) ∧ Hid (Lib.NoOcc (s.data.toList.drop f) t.data.toList j) ∧ Below w.heap.size w wr) (fun i _ => s.size + 1 - (intOf i).toNat)
  case atStart => exact ⟨0, by omega, by simp, Lib.hid (fun _ h => absurd h (Nat.not_lt_zero _)), Below.refl _ _⟩
  case round =>
    obtain ⟨j, hj, rfl, hNo, hbel⟩ := hrel
    by_cases hlt : f + j + t.size ≤ s.size
    · have hlt' : ((f : Int) + (j : Int)) + (t.size : Int) ≤ (s.size : Int) := by omega
      have hO := Lib.hid (occ_at s t f j hlt)
      by_cases he : s.extract (f + j) (f + j + t.size) = t
      · have hR := Lib.hid (show fnd s.data.toList t.data.toList f = ((f + j : Nat) : Int) by
          unfold fnd
          rw [Lib.index_hit hNo.out (by rw [List.length_drop, size_list]; omega) (by rw [hO.out, he]; exact decide_eq_true rfl), if_neg (by omega)]
          omega)
        go_wp2_with fail
        go_ret
        exact ⟨ret_int hR.out.symm, hbel⟩
      · have hN := Lib.hid (show Lib.NoOcc (s.data.toList.drop f) t.data.toList (j + 1) by
          intro k hk
          by_cases e : k = j
          · rw [e, hO.out]; exact decide_eq_false he
          · exact hNo.out k (by omega))
        have hE : ((s.extract (f + j) (f + j + t.size)).toList == t.toList) = false := by
          rw [beq_eq_false_iff_ne, ByteArray.toList_eq, ByteArray.toList_eq]
          intro e
          exact he (ByteArray.ext (Array.toList_inj.1 e))
        go_wp2_with fail
        go_roundw
        case rel => exact ⟨j + 1, by omega, by go_num, hN, hbel⟩
        case measure => simp [intOf]; omega
    · have hlt' : decide (((f : Int) + (j : Int)) + (t.size : Int) ≤ (s.size : Int)) = false := by simp; omega
      have hR := Lib.hid (show fnd s.data.toList t.data.toList f = -1 by
        unfold fnd
        rw [Lib.index_past htn hNo.out (by rw [List.length_drop, size_list, size_list]; omega), if_pos rfl])
      go_wp2_with fail
      go_ret
      exact ⟨ret_int hR.out.symm, hbel⟩
set_option maxHeartbeats 1000000 in
set_option maxRecDepth 100000 in
theorem indexFuncE_any (es : List Ent) (f : Ent → Bool) (u : Value) (g : Nat) (lb : Array Value) (eg : ∀ args w, (callFunc g args).run Tryd.prog w = .ok (.enter g args) w) (hl : es.length ≤ 1000000000) (w : World) (hU : Ents es u w)
    (hp : ∀ W, Below w.heap.size w W → ∀ x ∈ es, Calls Tryd.prog g (#[entV x] ++ lb) W fun e w' => e = .returned (.bool (f x)) ∧ Below W.heap.size W w') :
    Calls Tryd.prog 55 #[u, .func (.func g) #[] lb] w fun e w' => (∃ z : Int, e = .returned (.int .i64 z) ∧ decide (0 ≤ z) = es.any f) ∧ Below w.heap.size w w' := by
  obtain ⟨a, cap, rfl⟩ := hU.len
  go_enter Tryd.func55, Tryd.ntmps55
  go_wp2_with fail
  go_loopw [8] (fun i wr => ∃ k : Nat, k ≤ es.length ∧ i = .int .i64 k ∧ Hid ((es.take k).any f = false) ∧ Below w.heap.size w wr) (fun i _ => es.length - (intOf i).toNat)
  case atStart => exact ⟨0, Nat.zero_le _, rfl, Lib.hid rfl, Below.refl _ _⟩
  case round =>
    obtain ⟨k, hk, rfl, hA, hbel⟩ := hrel
    by_cases hlt : k < es.length
    · obtain ⟨b, o, cap', hv, hb, hc0, hc1, hc2, hc3, hc4⟩ := (hU.kept hbel).five hlt
      cases hv
      have hT := Lib.hid (List.take_succ_eq_append_getElem hlt)
      have hM := List.getElem_mem hlt
      have hcall := hp wr hbel es[k] hM
      generalize es[k] = x at *
      unfold entV at hcall
      have HC := Lib.hid hcall
      clear hcall
      go_wp2_with fail
      refine HC.out.mono ?_
      rintro e w2 ⟨rfl, hb2⟩
      cases hf : f x
      · have hN := Lib.hid (show (es.take (k + 1)).any f = false by rw [hT.out, List.any_append, hA.out]; simp [hf])
        clear hf
        go_wp2_with fail
        go_roundw
        case rel => exact ⟨k + 1, by omega, by go_num, hN, hbel.trans (hb2.mono hbel.size)⟩
        case measure => simp [intOf]; omega
      · have hN := Lib.hid (show es.any f = true from List.any_eq_true.2 ⟨x, hM, hf⟩)
        clear hf
        go_wp2_with fail
        go_ret
        exact ⟨⟨k, rfl, by rw [hN.out]; simp⟩, hbel.trans (hb2.mono hbel.size)⟩
    · obtain rfl : k = es.length := by omega
      have hN := Lib.hid (show es.any f = false by have := hA.out; rwa [List.take_of_length_le (Nat.le_refl _)] at this)
      go_wp2_with fail
      go_ret
      exact ⟨⟨-1, rfl, by rw [hN.out]; decide⟩, hbel⟩
set_option maxHeartbeats 1000000 in
set_option maxRecDepth 100000 in
theorem containsFuncE_any (es : List Ent) (f : Ent → Bool) (u : Value) (g : Nat) (lb : Array Value) (eg : ∀ args w, (callFunc g args).run Tryd.prog w = .ok (.enter g args) w) (hl : es.length ≤ 1000000000) (w : World) (hU : Ents es u w)
    (hp : ∀ W, Below w.heap.size w W → ∀ x ∈ es, Calls Tryd.prog g (#[entV x] ++ lb) W fun e w' => e = .returned (.bool (f x)) ∧ Below W.heap.size W w') :
    Calls Tryd.prog 30 #[u, .func (.func g) #[] lb] w fun e w' => e = .returned (.bool (es.any f)) ∧ Below w.heap.size w w' := by
  go_enter Tryd.func30, Tryd.ntmps30
  go_wp2_with fail
  refine (indexFuncE_any es f u g lb eg hl _ hU hp).mono ?_
  rintro e w2 ⟨⟨z, rfl, hz⟩, hb2⟩
  have HZ := Lib.hid hz
  clear hz
  go_wp2_with fail
  go_ret
  exact ⟨ret_bool HZ.out, hb2⟩
def partE (x : Ent) : List UInt8 := prtP x.n.data.toList x.v.data.toList x.f x.fn.data.toList x.t.data.toList
theorem partE_len (x : Ent) (h1 : x.n.size ≤ 2000) (h2 : x.v.size ≤ 2000) (h3 : x.fn.size ≤ 2000) (h4 : x.t.size ≤ 2000) : (partE x).length ≤ 60000 := by
  obtain ⟨n, v, f, fn, t⟩ := x
  simp only at h1 h2 h3 h4
  have a1 := nm_len n.data.toList
  have a2 := nm_len fn.data.toList
  have a3 := typ_len t.data.toList
  have a4 := ends_len [13, 10] v.data.toList
  rw [size_list] at a1 a2 a3 a4
  simp only [List.length_cons, List.length_nil] at a4
  have b1 : head1.length = 38 := rfl
  have b2 : head2.length = 12 := rfl
  have b3 : head3.length = 16 := rfl
  have hv : v.data.toList.length ≤ 2000 := by rw [size_list]; exact h2
  unfold partE prtP carr
  cases f
  · simp only [List.length_append, List.length_cons, List.length_nil, Bool.false_eq_true, if_false]
    omega
  · simp only [List.length_append, List.length_cons, List.length_nil, if_true]
    omega
/-- what is held of the world while a part is made and searched -/
theorem clrS_kept {e B : Nat} {c0 c1 c2 c3 c4 y : Value} {w1 W W' : World} (h : W.cell? ⟨e, 0, none⟩ = some c0 ∧ W.cell? ⟨e, 1, none⟩ = some c1 ∧ W.cell? ⟨e, 2, none⟩ = some c2 ∧ W.cell? ⟨e, 3, none⟩ = some c3 ∧ W.cell? ⟨e, 4, none⟩ = some c4 ∧ W.cell? ⟨B, 0, none⟩ = some y ∧ e < w1.heap.size ∧ B < w1.heap.size ∧ Below w1.heap.size w1 W ∧ Tables W) (hb : Below W.heap.size W W') :
    W'.cell? ⟨e, 0, none⟩ = some c0 ∧ W'.cell? ⟨e, 1, none⟩ = some c1 ∧ W'.cell? ⟨e, 2, none⟩ = some c2 ∧ W'.cell? ⟨e, 3, none⟩ = some c3 ∧ W'.cell? ⟨e, 4, none⟩ = some c4 ∧ W'.cell? ⟨B, 0, none⟩ = some y ∧ e < w1.heap.size ∧ B < w1.heap.size ∧ Below w1.heap.size w1 W' ∧ Tables W' := by
  obtain ⟨h0, h1, h2, h3, h4, hy, he, hB, hbe, hT⟩ := h
  have hs := hbe.size
  exact ⟨cellK hb (by omega) h0, cellK hb (by omega) h1, cellK hb (by omega) h2, cellK hb (by omega) h3, cellK hb (by omega) h4, cellK hb (by omega) hy, he, hB, hbe.trans (hb.mono hs), hT.kept hb⟩
theorem clrS_drew {e B : Nat} {c0 c1 c2 c3 c4 y : Value} {w1 W : World} (h : W.cell? ⟨e, 0, none⟩ = some c0 ∧ W.cell? ⟨e, 1, none⟩ = some c1 ∧ W.cell? ⟨e, 2, none⟩ = some c2 ∧ W.cell? ⟨e, 3, none⟩ = some c3 ∧ W.cell? ⟨e, 4, none⟩ = some c4 ∧ W.cell? ⟨B, 0, none⟩ = some y ∧ e < w1.heap.size ∧ B < w1.heap.size ∧ Below w1.heap.size w1 W ∧ Tables W) :
    W.drew.cell? ⟨e, 0, none⟩ = some c0 ∧ W.drew.cell? ⟨e, 1, none⟩ = some c1 ∧ W.drew.cell? ⟨e, 2, none⟩ = some c2 ∧ W.drew.cell? ⟨e, 3, none⟩ = some c3 ∧ W.drew.cell? ⟨e, 4, none⟩ = some c4 ∧ W.drew.cell? ⟨B, 0, none⟩ = some y ∧ e < w1.heap.size ∧ B < w1.heap.size ∧ Below w1.heap.size w1 W.drew ∧ Tables W.drew :=
  clrS_kept h ⟨rfl, rfl, rfl, Nat.le_refl _, fun _ _ => rfl⟩
theorem clrS_tab {e B : Nat} {c0 c1 c2 c3 c4 y : Value} {w1 W : World} (h : W.cell? ⟨e, 0, none⟩ = some c0 ∧ W.cell? ⟨e, 1, none⟩ = some c1 ∧ W.cell? ⟨e, 2, none⟩ = some c2 ∧ W.cell? ⟨e, 3, none⟩ = some c3 ∧ W.cell? ⟨e, 4, none⟩ = some c4 ∧ W.cell? ⟨B, 0, none⟩ = some y ∧ e < w1.heap.size ∧ B < w1.heap.size ∧ Below w1.heap.size w1 W ∧ Tables W) : Tables W := h.2.2.2.2.2.2.2.2.2
set_option maxHeartbeats 2000000 in
set_option maxRecDepth 100000 in
theorem clearFn_any (x : Ent) (h1 : x.n.size ≤ 2000) (h2 : x.v.size ≤ 2000) (h3 : x.fn.size ≤ 2000) (h4 : x.t.size ≤ 2000) (b : ByteArray) (B : Nat) (w : World) (hT : Tables w) (hB : B < w.heap.size) (hc : w.cell? ⟨B, 0, none⟩ = some (.string b)) :
    Calls Tryd.prog 31 #[entV x, .pointer (some ⟨B, 0, none⟩)] w fun e w' => e = .returned (.bool (Lib.contains (partE x) b.data.toList)) ∧ Below w.heap.size w w' := by
  have hpl := partE_len x h1 h2 h3 h4
  obtain ⟨n, v, f, fn, t⟩ := x
  unfold entV
  simp only at h1 h2 h3 h4 ⊢
  have hb0 := (Below.refl w.heap.size w).alloc (Nat.le_refl _) (.cells #[.string n, .string v, .bool f, .string fn, .string t] 50)
  have hT0 := hT.kept hb0
  have hc0 := cellK hb0 hB hc
  have hs0 : (w.alloc (.cells #[.string n, .string v, .bool f, .string fn, .string t] 50)).heap.size = w.heap.size + 1 := by simp
  have hn0 := Go.heap_alloc_new w (.cells #[.string n, .string v, .bool f, .string fn, .string t] 50)
  go_enter Tryd.func31, Tryd.ntmps31
  go_wp2_with fail
  generalize hW0 : w.alloc (.cells #[.string n, .string v, .bool f, .string fn, .string t] 50) = W0 at *
  have q0 : W0.cell? ⟨w.heap.size, 0, none⟩ = some (.string n) := by simp [World.cell?, hn0]
  have q1 : W0.cell? ⟨w.heap.size, 1, none⟩ = some (.string v) := by simp [World.cell?, hn0]
  have q2 : W0.cell? ⟨w.heap.size, 2, none⟩ = some (.bool f) := by simp [World.cell?, hn0]
  have q3 : W0.cell? ⟨w.heap.size, 3, none⟩ = some (.string fn) := by simp [World.cell?, hn0]
  have q4 : W0.cell? ⟨w.heap.size, 4, none⟩ = some (.string t) := by simp [World.cell?, hn0]
  have hS1 : W0.cell? ⟨w.heap.size, 0, none⟩ = some (.string n) ∧ W0.cell? ⟨w.heap.size, 1, none⟩ = some (.string v) ∧ W0.cell? ⟨w.heap.size, 2, none⟩ = some (.bool f) ∧ W0.cell? ⟨w.heap.size, 3, none⟩ = some (.string fn) ∧ W0.cell? ⟨w.heap.size, 4, none⟩ = some (.string t) ∧ W0.cell? ⟨B, 0, none⟩ = some (.string b) ∧ w.heap.size < W0.heap.size ∧ B < W0.heap.size ∧ Below W0.heap.size W0 W0 ∧ Tables W0 := ⟨q0, q1, q2, q3, q4, hc0, by omega, by omega, Below.refl _ _, hT0⟩
  clear hn0 hs0 hW0
  go_region_held3 (fun W => W.cell? ⟨w.heap.size, 0, none⟩ = some (.string n) ∧ W.cell? ⟨w.heap.size, 1, none⟩ = some (.string v) ∧ W.cell? ⟨w.heap.size, 2, none⟩ = some (.bool f) ∧ W.cell? ⟨w.heap.size, 3, none⟩ = some (.string fn) ∧ W.cell? ⟨w.heap.size, 4, none⟩ = some (.string t) ∧ W.cell? ⟨B, 0, none⟩ = some (.string b) ∧ w.heap.size < W0.heap.size ∧ B < W0.heap.size ∧ Below W0.heap.size W0 W ∧ Tables W) (first | assumption | exact clrS_drew (by assumption) | exact clrS_kept (by assumption) (by assumption)) ((first
    | (go_at_call 33; refine (part_any ⟨n, v, f, fn, t⟩ h1 h2 h3 h4 _ (clrS_tab (by assumption))).mono ?_; rintro e w2 ⟨rfl, hb2⟩)
    | (go_at_call 32; refine (Tryd.strings_Contains_shaped _ _ _ (Tables.shape (clrS_tab (by assumption))) (by rw [size_mk]; exact Nat.lt_of_le_of_lt hpl (by decide))).mono ?_; rintro e w3 ⟨rfl, rfl⟩)))
  all_goals
    refine take_world (fun W => W.cell? ⟨w.heap.size, 0, none⟩ = some (.string n) ∧ W.cell? ⟨w.heap.size, 1, none⟩ = some (.string v) ∧ W.cell? ⟨w.heap.size, 2, none⟩ = some (.bool f) ∧ W.cell? ⟨w.heap.size, 3, none⟩ = some (.string fn) ∧ W.cell? ⟨w.heap.size, 4, none⟩ = some (.string t) ∧ W.cell? ⟨B, 0, none⟩ = some (.string b) ∧ w.heap.size < W0.heap.size ∧ B < W0.heap.size ∧ Below W0.heap.size W0 W ∧ Tables W) (by assumption) ?_
    rintro ⟨_, _, _, _, _, _, _, _, hbW, hTW⟩
    go_wp2_with fail
    go_ret
    exact ⟨rfl, bs hb0 hbW⟩
end Go.Proofs.YtapbljaohhcpoaaDoor
