/-
  A part read: (*parts.reader).sign, quoted; parts.read: the walks.
-/
import Derived.Test.YtapbljaohhcpoaaDoorUnname
import Derived.Test.YtapbljaohhcpoaaDoorSteps
import Derived.Test.YtapbljaohhcpoaaDoorPlainDec2
import Derived.Test.YtapbljaohhcpoaaDoorTexts
namespace Go.Proofs.YtapbljaohhcpoaaDoor
set_option linter.unusedVariables false
set_option linter.unusedSimpArgs false
open Go.RowKit PT

/-- all blocks but one are as they were -/
def Aside (r : Nat) (w w' : World) : Prop := Below r w w' ∧ ∀ k, k < w.heap.size → k ≠ r → w'.heap[k]? = w.heap[k]?
theorem Aside.refl (r : Nat) (w : World) : Aside r w w := ⟨Below.refl _ _, fun _ _ _ => rfl⟩
theorem Aside.trans {r : Nat} {a b c : World} (h : Aside r a b) (k : Aside r b c) : Aside r a c :=
  ⟨h.1.trans k.1, fun i hi hr => (k.2 i (Nat.lt_of_lt_of_le hi h.1.size) hr).trans (h.2 i hi hr)⟩
theorem Aside.of_below {r : Nat} {a b : World} (hr : r ≤ a.heap.size) (h : Below a.heap.size a b) : Aside r a b := ⟨h.mono hr, fun k hk _ => h.block k hk⟩
theorem Aside.set (r i : Nat) (w : World) (u : Value) : Aside r w (w.setCell ⟨r, i, none⟩ u) := 
  ⟨(Below.refl r w).setCell (p := ⟨r, i, none⟩) (Nat.le_refl _) u, fun k _ hk => heap_setCell_other w ⟨r, i, none⟩ k u hk⟩
theorem two_of {W : World} {g : Nat} {a b : Value} {t : TypeId} (h : W.heap[g]? = some (.cells #[a, b] t (0, 0))) :
    W.cell? ⟨g, 0, none⟩ = some a ∧ W.cell? ⟨g, 1, none⟩ = some b ∧ W.frozen? ⟨g, 0, none⟩ = false ∧ W.frozen? ⟨g, 1, none⟩ = false := by
  simp [World.cell?, World.frozen?, h]
theorem set0_two {W : World} {g : Nat} {a b : Value} {t : TypeId} (u : Value) (h : W.heap[g]? = some (.cells #[a, b] t (0, 0))) : (W.setCell ⟨g, 0, none⟩ u).heap[g]? = some (.cells #[u, b] t (0, 0)) := by
  rw [setCell_heap u h]; rfl
theorem set1_two {W : World} {g : Nat} {a b : Value} {t : TypeId} (u : Value) (h : W.heap[g]? = some (.cells #[a, b] t (0, 0))) : (W.setCell ⟨g, 1, none⟩ u).heap[g]? = some (.cells #[a, u] t (0, 0)) := by
  rw [setCell_heap u h]; rfl
set_option maxHeartbeats 1000000 in
set_option maxRecDepth 100000 in
theorem sign_any (s p : ByteArray) (bad : Bool) (r : Nat) (w : World) (hr : w.heap[r]? = some (.cells #[.string s, .bool bad] 86 (0, 0))) :
    Calls Tryd.prog 70 #[.pointer (some ⟨r, 0, none⟩), .string p] w fun e w' => e = .returned (.bool (p.data.toList.isPrefixOf s.data.toList)) ∧
      w'.heap[r]? = some (.cells #[.string (if p.data.toList.isPrefixOf s.data.toList then ⟨(s.data.toList.drop p.data.toList.length).toArray⟩ else s), .bool bad] 86 (0, 0)) ∧ Aside r w w' := by
  obtain ⟨x0, x1, f0, f1⟩ := two_of hr
  cases hp : p.data.toList.isPrefixOf s.data.toList
  · have h1 : Lib.hasPrefix s.data.toList p.data.toList = false := hp
    have h2 : Lib.trimPrefix s.data.toList p.data.toList = s.data.toList := by unfold Lib.trimPrefix; rw [h1]; rfl
    have H := Lib.hid (And.intro h1 h2)
    clear h1 h2 hp
    simp only [Bool.false_eq_true, if_false]
    go_enter Tryd.func70, Tryd.ntmps70
    go_wp2_with fail
    refine (Tryd.strings_CutPrefix _ _ _).mono ?_
    rintro e w1 ⟨rfl, hw⟩
    rw [hw, H.out.1, H.out.2]
    clear hw
    go_wp2_with fail
    go_ret
    exact ⟨rfl, hr, Aside.refl _ _⟩
  · have h1 : Lib.hasPrefix s.data.toList p.data.toList = true := hp
    have h2 : Lib.trimPrefix s.data.toList p.data.toList = s.data.toList.drop p.data.toList.length := by unfold Lib.trimPrefix; rw [h1]; rfl
    have H := Lib.hid (And.intro h1 h2)
    clear h1 h2 hp
    simp only [if_true]
    go_enter Tryd.func70, Tryd.ntmps70
    go_wp2_with fail
    refine (Tryd.strings_CutPrefix _ _ _).mono ?_
    rintro e w1 ⟨rfl, hw⟩
    rw [hw, H.out.1, H.out.2]
    clear hw
    go_wp2_with fail
    go_ret
    exact ⟨rfl, set0_two _ hr, Aside.set _ _ _ _⟩
/-- is what is ahead not in quotes? -/
def qbad (l : List UInt8) : Bool := !(Lib.cut l [34]).2.2 || ((Lib.cut l [34]).1.contains 13 || (Lib.cut l [34]).1.contains 10)
theorem qtd_qbad (l : List UInt8) : qtd l = if qbad l then none else some ((Lib.cut l [34]).1, (Lib.cut l [34]).2.1) := by
  rw [qtd_cut]
  unfold qbad
  by_cases h : (Lib.cut l [34]).2.2 = false ∨ 10 ∈ (Lib.cut l [34]).1 ∨ 13 ∈ (Lib.cut l [34]).1
  · rw [if_pos h, if_pos]
    rcases h with h | h | h
    · rw [h]; rfl
    · simp [h]
    · simp [h]
  · rw [if_neg h, if_neg]
    intro k
    rw [Bool.or_eq_true, Bool.or_eq_true] at k
    rcases k with k | k | k
    · exact h (.inl (by simpa using k))
    · exact h (.inr (.inr (by simpa using k)))
    · exact h (.inr (.inl (by simpa using k)))
theorem contains_byte (l : List UInt8) (c : UInt8) : Lib.contains l [c] = l.contains c := by
  unfold Lib.contains
  induction l with
  | nil => rfl
  | cons d l ih =>
    by_cases h : d = c
    · subst h
      rw [index_hit]; simp
    · rw [index_miss c d l h]
      have e : (d :: l).contains c = l.contains c := by simp; intro e; exact absurd e.symm h
      rw [e, ← ih]
      split
      · rename_i h1; rw [show Lib.index l [c] = -1 by simpa using h1]
      · have := Lib.index_ge l [c]
        rename_i h1
        have h2 : Lib.index l [c] ≠ -1 := by simpa using h1
        rw [decide_eq_true (show (0 : Int) ≤ Lib.index l [c] + 1 by omega), decide_eq_true (show (0 : Int) ≤ Lib.index l [c] by omega)]
theorem cut_le (l : List UInt8) (c : UInt8) : (Lib.cut l [c]).1.length ≤ l.length ∧ (Lib.cut l [c]).2.1.length ≤ l.length := by
  unfold Lib.cut
  split
  · simp only [List.length_take, List.length_drop]; omega
  · simp
theorem cutL_le (l c : List UInt8) : (Lib.cut l c).1.length ≤ l.length ∧ (Lib.cut l c).2.1.length ≤ l.length := by
  unfold Lib.cut
  split
  · simp only [List.length_take, List.length_drop]; omega
  · simp
set_option maxHeartbeats 2000000 in
set_option maxRecDepth 100000 in
theorem quoted_any (s : ByteArray) (hs : s.size ≤ 9000000) (bad : Bool) (r : Nat) (w : World) (hT : Tables w) (hr : w.heap[r]? = some (.cells #[.string s, .bool bad] 86 (0, 0))) (hTr : ∀ W, Aside r w W → Tables W) :
    Calls Tryd.prog 71 #[.pointer (some ⟨r, 0, none⟩)] w fun e w' => e = .returned (.string ⟨(unn (Lib.cut s.data.toList [34]).1).toArray⟩) ∧
      w'.heap[r]? = some (.cells #[.string ⟨(Lib.cut s.data.toList [34]).2.1.toArray⟩, .bool (bad || qbad s.data.toList)] 86 (0, 0)) ∧ Aside r w w' := by
  obtain ⟨x0, x1, f0, f1⟩ := two_of hr
  have hrs := (Array.getElem?_eq_some_iff.1 hr).1
  have hcl := cut_le s.data.toList 34
  rw [size_list] at hcl
  obtain ⟨a, b, ok, hcut⟩ : ∃ a b ok, Lib.cut s.data.toList [34] = (a, b, ok) := ⟨_, _, _, rfl⟩
  unfold qbad
  rw [hcut] at hcl ⊢
  simp only at hcl ⊢
  have HC := Lib.hid hcut
  clear hcut
  obtain ⟨hc1, hc2⟩ := hcl
  go_enter Tryd.func71, Tryd.ntmps71
  go_wp2_with fail
  refine (Tryd.strings_Cut_shaped _ _ _ hT.shape (by omega)).mono ?_
  rintro e w1 ⟨rfl, n, rfl⟩
  rw [show Lib.cut s.data.toList (ByteArray.mk #[34]).data.toList = (a, b, ok) from HC.out]
  have hb1 : Below w.heap.size w (w.drewN n) := below_draws w n
  have hr1 := blk_kept hb1 hr
  have hA1 := Aside.of_below (r := r) (by omega) hb1
  generalize w.drewN n = w1 at *
  clear x0 x1 f0 f1
  obtain ⟨x0, x1, f0, f1⟩ := two_of hr1
  have hsh := hTr _ hA1
  have hz1 : (w1.setCell ⟨r, 1, none⟩ (.bool true)).heap[r]? = some (.cells #[.string s, .bool true] 86 (0, 0)) := set1_two _ hr1
  have hAb : Aside r w (w1.setCell ⟨r, 1, none⟩ (.bool true)) := hA1.trans (Aside.set r 1 w1 (.bool true))
  have hz2 : ((w1.setCell ⟨r, 1, none⟩ (.bool true)).setCell ⟨r, 0, none⟩ (.string ⟨b.toArray⟩)).heap[r]? = some (.cells #[.string ⟨b.toArray⟩, .bool true] 86 (0, 0)) := set0_two _ hz1
  have hAc : Aside r w ((w1.setCell ⟨r, 1, none⟩ (.bool true)).setCell ⟨r, 0, none⟩ (.string ⟨b.toArray⟩)) := hAb.trans (Aside.set r 0 _ (.string ⟨b.toArray⟩))
  have hz3 : (w1.setCell ⟨r, 0, none⟩ (.string ⟨b.toArray⟩)).heap[r]? = some (.cells #[.string ⟨b.toArray⟩, .bool bad] 86 (0, 0)) := set0_two _ hr1
  have hAd : Aside r w (w1.setCell ⟨r, 0, none⟩ (.string ⟨b.toArray⟩)) := hA1.trans (Aside.set r 0 w1 (.string ⟨b.toArray⟩))
  have hTc := hTr _ hAc
  have hTd := hTr _ hAd
  have H := Lib.hid (And.intro hz2 (And.intro hAc (And.intro hz3 (And.intro hAd (And.intro hTc hTd)))))
  clear hz2 hAc hz3 hAd hTc hTd hz1 hAb hr1 hr
  have hc13 := contains_byte a 13
  have hc10 := contains_byte a 10
  cases ok
  · go_wp2_with fail
    obtain ⟨hz2, hAc, hz3, hAd, hTc, hTd⟩ := H.out
    generalize hW : (w1.setCell _ _).setCell _ _ = W at hz2 hAc hTc ⊢
    have hsz := hAc.1.size
    clear hW hz3 hAd hTd H x0 x1 f0 f1
    refine (unname_any ⟨a.toArray⟩ (by rw [size_mk]; omega) _ hTc).mono ?_
    rintro e w3 ⟨rfl, hb3⟩
    go_wp2_with fail
    go_ret
    exact ⟨rfl, by rw [blk_kept hb3 hz2]; simp, hAc.trans (Aside.of_below (by omega) hb3)⟩
  · go_wp2_with fail
    refine (Tryd.strings_Contains_shaped ⟨a.toArray⟩ ⟨#[13]⟩ _ hsh.shape (by rw [size_mk]; omega)).mono ?_
    rintro e w' ⟨rfl, hw⟩
    rw [hw, show Lib.contains (ByteArray.mk a.toArray).data.toList (ByteArray.mk #[13]).data.toList = a.contains 13 from hc13]
    clear hw hc13
    cases h13 : a.contains 13
    all_goals
      have H13 := Lib.hid h13
      clear h13
    · go_wp2_with fail
      refine (Tryd.strings_Contains_shaped ⟨a.toArray⟩ ⟨#[10]⟩ _ hsh.shape (by rw [size_mk]; omega)).mono ?_
      rintro e w' ⟨rfl, hw⟩
      rw [hw, show Lib.contains (ByteArray.mk a.toArray).data.toList (ByteArray.mk #[10]).data.toList = a.contains 10 from hc10]
      clear hw hc10
      cases h10 : a.contains 10
      all_goals
        have H10 := Lib.hid h10
        clear h10
      · go_wp2_with fail
        obtain ⟨hz2, hAc, hz3, hAd, hTc, hTd⟩ := H.out
        generalize hW : (w1.setCell _ _) = W at hz3 hAd hTd ⊢
        have hsz := hAd.1.size
        clear hW hz2 hAc hTc H x0 x1 f0 f1
        refine (unname_any ⟨a.toArray⟩ (by rw [size_mk]; omega) _ hTd).mono ?_
        rintro e w3 ⟨rfl, hb3⟩
        go_wp2_with fail
        go_ret
        exact ⟨rfl, by rw [blk_kept hb3 hz3, H13.out, H10.out]; cases bad <;> rfl, hAd.trans (Aside.of_below (by omega) hb3)⟩
      · go_wp2_with fail
        obtain ⟨hz2, hAc, hz3, hAd, hTc, hTd⟩ := H.out
        generalize hW : (w1.setCell _ _).setCell _ _ = W at hz2 hAc hTc ⊢
        have hsz := hAc.1.size
        clear hW hz3 hAd hTd H x0 x1 f0 f1
        refine (unname_any ⟨a.toArray⟩ (by rw [size_mk]; omega) _ hTc).mono ?_
        rintro e w3 ⟨rfl, hb3⟩
        go_wp2_with fail
        go_ret
        exact ⟨rfl, by rw [blk_kept hb3 hz2, H13.out, H10.out]; cases bad <;> rfl, hAc.trans (Aside.of_below (by omega) hb3)⟩
    · go_wp2_with fail
      obtain ⟨hz2, hAc, hz3, hAd, hTc, hTd⟩ := H.out
      generalize hW : (w1.setCell _ _).setCell _ _ = W at hz2 hAc hTc ⊢
      have hsz := hAc.1.size
      clear hW hz3 hAd hTd H x0 x1 f0 f1
      refine (unname_any ⟨a.toArray⟩ (by rw [size_mk]; omega) _ hTc).mono ?_
      rintro e w3 ⟨rfl, hb3⟩
      go_wp2_with fail
      go_ret
      exact ⟨rfl, by rw [blk_kept hb3 hz2, H13.out]; cases bad <;> rfl, hAc.trans (Aside.of_below (by omega) hb3)⟩

/-- a part's reading on its way: the blocks of the result (b0), of the reader (r), of the entry (e) -/
structure RS (w : World) (b0 r e : Nat) (W : World) (s : ByteArray) (bad : Bool) (x0 x1 x2 x3 x4 : Value) : Prop where
  bel : Below w.heap.size w W
  res : W.heap[b0]? = some (.cells #[.string ⟨#[]⟩, .string ⟨#[]⟩, .bool false, .string ⟨#[]⟩, .string ⟨#[]⟩] 50 (0, 0))
  red : W.heap[r]? = some (.cells #[.string s, .bool bad] 86 (0, 0))
  ent : W.heap[e]? = some (.cells #[x0, x1, x2, x3, x4] 50 (0, 0))
  o1 : w.heap.size ≤ b0
  o2 : b0 < r
  o3 : r < e
theorem RS.aside {w : World} {b0 r e : Nat} {W W' : World} {s s' : ByteArray} {bad bad' : Bool} {x0 x1 x2 x3 x4 : Value} (h : RS w b0 r e W s bad x0 x1 x2 x3 x4) (ha : Aside r W W')
    (hr : W'.heap[r]? = some (.cells #[.string s', .bool bad'] 86 (0, 0))) : RS w b0 r e W' s' bad' x0 x1 x2 x3 x4 := by
  have h1 := h.o1
  have h2 := h.o2
  have h3 := h.o3
  exact ⟨h.bel.trans (ha.1.mono (by omega)), (ha.2 b0 (Array.getElem?_eq_some_iff.1 h.res).1 (by omega)).trans h.res, hr, (ha.2 e (Array.getElem?_eq_some_iff.1 h.ent).1 (by omega)).trans h.ent, h1, h2, h3⟩
theorem RS.setE {w : World} {b0 r e : Nat} {W : World} {s : ByteArray} {bad : Bool} {x0 x1 x2 x3 x4 y0 y1 y2 y3 y4 : Value} (i : Nat) (u : Value) (h : RS w b0 r e W s bad x0 x1 x2 x3 x4)
    (hy : (#[x0, x1, x2, x3, x4] : Array Value).setIfInBounds i u = #[y0, y1, y2, y3, y4]) : RS w b0 r e (W.setCell ⟨e, i, none⟩ u) s bad y0 y1 y2 y3 y4 := by
  have h1 := h.o1
  have h2 := h.o2
  have h3 := h.o3
  refine ⟨h.bel.setCell (p := ⟨e, i, none⟩) (by show w.heap.size ≤ e; omega) u, ?_, ?_, ?_, h1, h2, h3⟩
  · rw [heap_setCell_other W ⟨e, i, none⟩ b0 u (by show b0 ≠ e; omega)]; exact h.res
  · rw [heap_setCell_other W ⟨e, i, none⟩ r u (by show r ≠ e; omega)]; exact h.red
  · rw [setCell_heap u h.ent, hy]
theorem RS.setR {w : World} {b0 r e : Nat} {W : World} {s s' : ByteArray} {bad bad' : Bool} {x0 x1 x2 x3 x4 : Value} (i : Nat) (u : Value) (h : RS w b0 r e W s bad x0 x1 x2 x3 x4)
    (hy : (#[.string s, .bool bad] : Array Value).setIfInBounds i u = #[.string s', .bool bad']) : RS w b0 r e (W.setCell ⟨r, i, none⟩ u) s' bad' x0 x1 x2 x3 x4 :=
  h.aside (Aside.set r i W u) (by rw [setCell_heap u h.red, hy])
theorem RS.tab {w : World} {b0 r e : Nat} {W : World} {s : ByteArray} {bad : Bool} {x0 x1 x2 x3 x4 : Value} (h : RS w b0 r e W s bad x0 x1 x2 x3 x4) (hT : Tables w) : Tables W := hT.kept h.bel
/-- what the walk asks of the cells -/
def RSf (b0 r e : Nat) (W : World) (s : ByteArray) (bad : Bool) (x0 x1 x2 x3 x4 : Value) : Prop :=
  (W.cell? ⟨r, 0, none⟩ = some (.string s) ∧ W.cell? ⟨r, 1, none⟩ = some (.bool bad) ∧ W.frozen? ⟨r, 0, none⟩ = false ∧ W.frozen? ⟨r, 1, none⟩ = false) ∧
  (W.cell? ⟨e, 0, none⟩ = some x0 ∧ W.cell? ⟨e, 1, none⟩ = some x1 ∧ W.cell? ⟨e, 2, none⟩ = some x2 ∧ W.cell? ⟨e, 3, none⟩ = some x3 ∧ W.cell? ⟨e, 4, none⟩ = some x4 ∧
    W.frozen? ⟨e, 0, none⟩ = false ∧ W.frozen? ⟨e, 1, none⟩ = false ∧ W.frozen? ⟨e, 2, none⟩ = false ∧ W.frozen? ⟨e, 3, none⟩ = false ∧ W.frozen? ⟨e, 4, none⟩ = false) ∧
  (W.cell? ⟨b0, 0, none⟩ = some (.string ⟨#[]⟩) ∧ W.cell? ⟨b0, 1, none⟩ = some (.string ⟨#[]⟩) ∧ W.cell? ⟨b0, 2, none⟩ = some (.bool false) ∧ W.cell? ⟨b0, 3, none⟩ = some (.string ⟨#[]⟩) ∧ W.cell? ⟨b0, 4, none⟩ = some (.string ⟨#[]⟩) ∧
    W.frozen? ⟨b0, 0, none⟩ = false ∧ W.frozen? ⟨b0, 1, none⟩ = false ∧ W.frozen? ⟨b0, 2, none⟩ = false ∧ W.frozen? ⟨b0, 3, none⟩ = false ∧ W.frozen? ⟨b0, 4, none⟩ = false)
theorem RS.facts {w : World} {b0 r e : Nat} {W : World} {s : ByteArray} {bad : Bool} {x0 x1 x2 x3 x4 : Value} (h : RS w b0 r e W s bad x0 x1 x2 x3 x4) : RSf b0 r e W s bad x0 x1 x2 x3 x4 :=
  ⟨two_of h.red, five_of h.ent, five_of h.res⟩
/-- a list's entry -/
def entOf (x : P5) : Ent := ⟨⟨x.n.toArray⟩, ⟨x.v.toArray⟩, x.f, ⟨x.fn.toArray⟩, ⟨x.t.toArray⟩⟩
def zeroE : Value := .agg #[.string ⟨#[]⟩, .string ⟨#[]⟩, .bool false, .string ⟨#[]⟩, .string ⟨#[]⟩]
def rdV : Option P5 → Value
  | none => .tuple #[zeroE, .bool false]
  | some x => .tuple #[entV (entOf x), .bool true]
theorem rd_cut (s : List UInt8) : rd s = if (Lib.cut s crlf2).2.2 then rdq (Lib.cut s crlf2).1 (Lib.cut s crlf2).2.1 else none := by
  unfold rd Lib.cut
  have hg := Lib.index_ge s crlf2
  by_cases h : Lib.index s crlf2 = -1
  · have h0 : ¬ 0 ≤ Lib.index s crlf2 := by omega
    rw [if_pos h, if_neg h0]; rfl
  · have h0 : 0 ≤ Lib.index s crlf2 := by omega
    rw [if_neg h, if_pos h0]
    rfl
theorem rdq_no1 {h v : List UInt8} (h1 : head1.isPrefixOf h = false) : rdq h v = none := by unfold rdq; rw [if_neg (by rw [h1]; exact Bool.false_ne_true)]
theorem rdq_bad1 {h v : List UInt8} (hq : qbad (h.drop 38) = true) : rdq h v = none := by
  unfold rdq
  rw [qtd_qbad, if_pos hq]
  split <;> rfl
theorem rdq_end {h v a : List UInt8} (h1 : head1.isPrefixOf h = true) (hq : qbad (h.drop 38) = false) (ha : (Lib.cut (h.drop 38) [34]).1 = a) (hb : (Lib.cut (h.drop 38) [34]).2.1 = []) : rdq h v = some ⟨unn a, v, false, [], []⟩ := by
  unfold rdq
  rw [if_pos h1, qtd_qbad, hq, ha, hb]
  simp
theorem rdq_no2 {h v b : List UInt8} (hb : (Lib.cut (h.drop 38) [34]).2.1 = b) (hne : b ≠ []) (h2 : head2.isPrefixOf b = false) : rdq h v = none := by
  unfold rdq
  rw [qtd_qbad, hb]
  split
  · cases qbad (h.drop 38)
    · simp [hne, h2]
    · rfl
  · rfl
theorem rdq_bad2 {h v b : List UInt8} (hb : (Lib.cut (h.drop 38) [34]).2.1 = b) (h2 : head2.isPrefixOf b = true) (hq : qbad (b.drop 12) = true) : rdq h v = none := by
  have hne : b ≠ [] := by rintro rfl; exact absurd h2 (by decide)
  unfold rdq
  rw [qtd_qbad, hb]
  split
  · cases qbad (h.drop 38)
    · simp [hne, h2, qtd_qbad, hq]
    · rfl
  · rfl
theorem rdq_no3 {h v b q : List UInt8} (hb : (Lib.cut (h.drop 38) [34]).2.1 = b) (h2 : head2.isPrefixOf b = true) (hq : (Lib.cut (b.drop 12) [34]).2.1 = q) (h3 : head3.isPrefixOf q = false) : rdq h v = none := by
  have hne : b ≠ [] := by rintro rfl; exact absurd h2 (by decide)
  unfold rdq
  rw [qtd_qbad, hb]
  split
  · cases qbad (h.drop 38)
    · cases hx : qbad (b.drop 12) <;> simp [hne, h2, qtd_qbad, hx, hq, h3]
    · rfl
  · rfl
theorem rdq_brk {h v b q : List UInt8} (hb : (Lib.cut (h.drop 38) [34]).2.1 = b) (h2 : head2.isPrefixOf b = true) (hq : (Lib.cut (b.drop 12) [34]).2.1 = q) (hk : 13 ∈ q.drop 16 ∨ 10 ∈ q.drop 16) : rdq h v = none := by
  have hne : b ≠ [] := by rintro rfl; exact absurd h2 (by decide)
  unfold rdq
  rw [qtd_qbad, hb]
  split
  · cases qbad (h.drop 38)
    · cases hx : qbad (b.drop 12) <;> simp [hne, h2, qtd_qbad, hx, hq, hk]
    · rfl
  · rfl
theorem rdq_file {h v a b f q : List UInt8} (h1 : head1.isPrefixOf h = true) (hq1 : qbad (h.drop 38) = false) (ha : (Lib.cut (h.drop 38) [34]).1 = a) (hb : (Lib.cut (h.drop 38) [34]).2.1 = b) (h2 : head2.isPrefixOf b = true) (hq2 : qbad (b.drop 12) = false)
    (hf : (Lib.cut (b.drop 12) [34]).1 = f) (hq : (Lib.cut (b.drop 12) [34]).2.1 = q) (h3 : head3.isPrefixOf q = true) (k13 : 13 ∉ q.drop 16) (k10 : 10 ∉ q.drop 16) : rdq h v = some ⟨unn a, v, true, unn f, q.drop 16⟩ := by
  have hne : b ≠ [] := by rintro rfl; exact absurd h2 (by decide)
  unfold rdq
  rw [if_pos h1, qtd_qbad, hq1, ha, hb]
  simp [hne, h2, qtd_qbad, hq2, hf, hq, h3, k13, k10]
end Go.Proofs.YtapbljaohhcpoaaDoor
