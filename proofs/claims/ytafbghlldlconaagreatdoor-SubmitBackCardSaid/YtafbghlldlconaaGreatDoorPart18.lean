import Derived.Test.YtafbghlldlconaaGreatDoorPart17
import Derived.Test.YtafbghlldlconaaGreatDoorPart3
import Derived.Test.YtafbghlldlconaaGreatDoorPart11
import Derived.Test.YtafbghlldlconaaGreatDoorPart2
import Derived.Test.YtafbghlldlconaaGreatDoorPart15
/-
  A part read: (*parts.reader).sign, quoted; parts.read: the walks.
-/
namespace Go.Proofs.YtafbghlldlconaaGreatDoor
set_option linter.unusedVariables false
set_option linter.unusedSimpArgs false
open Go.RowKit PT

/-- all blocks but one are as they were -/
def Aside (r : Nat) (w w' : World) : Prop := Below r w w' ∧ ∀ k, k < w.heap.size → k ≠ r → w'.heap[k]? = w.heap[k]?
theorem Aside.refl (r : Nat) (w : World) : Aside r w w := ⟨Below.refl _ _, fun _ _ _ => rfl⟩
theorem Aside.trans {r : Nat} {a b c : World} (h : Aside r a b) (k : Aside r b c) : Aside r a c :=
  ⟨h.1.trans k.1, fun i hi hr => (k.2 i (Nat.lt_of_lt_of_le hi h.1.size) hr).trans (h.2 i hi hr)⟩
theorem Aside.of_below {r : Nat} {a b : World} (hr : r ≤ a.heap.size) (h : Below a.heap.size a b) : Aside r a b := ⟨h.mono hr, fun k hk _ => h.block k hk⟩
theorem Aside.set (r i : Nat) (w : World) (u : Value) : Aside r w (w.setCell ⟨r, i, none⟩ u) := 
  ⟨(Below.refl r w).setCell (p := ⟨r, i, none⟩) (Nat.le_refl _) u, fun k _ hk => heap_setCell_other w ⟨r, i, none⟩ k u hk⟩
theorem two_of {W : World} {g : Nat} {a b : Value} {t : TypeId} (h : W.heap[g]? = some (.cells #[a, b] t (0, 0))) :
    W.cell? ⟨g, 0, none⟩ = some a ∧ W.cell? ⟨g, 1, none⟩ = some b ∧ W.frozen? ⟨g, 0, none⟩ = false ∧ W.frozen? ⟨g, 1, none⟩ = false := by
  simp [World.cell?, World.frozen?, h]
theorem set0_two {W : World} {g : Nat} {a b : Value} {t : TypeId} (u : Value) (h : W.heap[g]? = some (.cells #[a, b] t (0, 0))) : (W.setCell ⟨g, 0, none⟩ u).heap[g]? = some (.cells #[u, b] t (0, 0)) := by
  rw [setCell_heap u h]; rfl
theorem set1_two {W : World} {g : Nat} {a b : Value} {t : TypeId} (u : Value) (h : W.heap[g]? = some (.cells #[a, b] t (0, 0))) : (W.setCell ⟨g, 1, none⟩ u).heap[g]? = some (.cells #[a, u] t (0, 0)) := by
  rw [setCell_heap u h]; rfl
set_option maxHeartbeats 1000000 in
set_option maxRecDepth 100000 in
theorem sign_any (s p : ByteArray) (bad : Bool) (r : Nat) (w : World) (hr : w.heap[r]? = some (.cells #[.string s, .bool bad] 110 (0, 0))) :
    Calls Tryz.prog 88 #[.pointer (some ⟨r, 0, none⟩), .string p] w fun e w' => e = .returned (.bool (p.data.toList.isPrefixOf s.data.toList)) ∧
      w'.heap[r]? = some (.cells #[.string (if p.data.toList.isPrefixOf s.data.toList then ⟨(s.data.toList.drop p.data.toList.length).toArray⟩ else s), .bool bad] 110 (0, 0)) ∧ Aside r w w' := by
  obtain ⟨x0, x1, f0, f1⟩ := two_of hr
  cases hp : p.data.toList.isPrefixOf s.data.toList
  · have h1 : Lib.hasPrefix s.data.toList p.data.toList = false := hp
    have h2 : Lib.trimPrefix s.data.toList p.data.toList = s.data.toList := by unfold Lib.trimPrefix; rw [h1]; rfl
    have H := Lib.hid (And.intro h1 h2)
    clear h1 h2 hp
    simp only [Bool.false_eq_true, if_false]
    go_enter Tryz.func88, Tryz.ntmps88
    go_wp2_with fail
    refine (Tryz.strings_CutPrefix _ _ _).mono ?_
    rintro e w1 ⟨rfl, hw⟩
    rw [hw, H.out.1, H.out.2]
    clear hw
    go_wp2_with fail
    go_ret
    exact ⟨rfl, hr, Aside.refl _ _⟩
  · have h1 : Lib.hasPrefix s.data.toList p.data.toList = true := hp
    have h2 : Lib.trimPrefix s.data.toList p.data.toList = s.data.toList.drop p.data.toList.length := by unfold Lib.trimPrefix; rw [h1]; rfl
    have H := Lib.hid (And.intro h1 h2)
    clear h1 h2 hp
    simp only [if_true]
    go_enter Tryz.func88, Tryz.ntmps88
    go_wp2_with fail
    refine (Tryz.strings_CutPrefix _ _ _).mono ?_
    rintro e w1 ⟨rfl, hw⟩
    rw [hw, H.out.1, H.out.2]
    clear hw
    go_wp2_with fail
    go_ret
    exact ⟨rfl, set0_two _ hr, Aside.set _ _ _ _⟩
/-- is what is ahead not in quotes? -/
def qbad (l : List UInt8) : Bool := !(Lib.cut l [34]).2.2 || ((Lib.cut l [34]).1.contains 13 || (Lib.cut l [34]).1.contains 10)
theorem qtd_qbad (l : List UInt8) : qtd l = if qbad l then none else some ((Lib.cut l [34]).1, (Lib.cut l [34]).2.1) := by
  rw [qtd_cut]
  unfold qbad
  by_cases h : (Lib.cut l [34]).2.2 = false ∨ 10 ∈ (Lib.cut l [34]).1 ∨ 13 ∈ (Lib.cut l [34]).1
  · rw [if_pos h, if_pos]
    rcases h with h | h | h
    · rw [h]; rfl
    · simp [h]
    · simp [h]
  · rw [if_neg h, if_neg]
    intro k
    rw [Bool.or_eq_true, Bool.or_eq_true] at k
    rcases k with k | k | k
    · exact h (.inl (by simpa using k))
    · exact h (.inr (.inr (by simpa using k)))
    · exact h (.inr (.inl (by simpa using k)))
theorem contains_byte (l : List UInt8) (c : UInt8) : Lib.contains l [c] = l.contains c := by
  unfold Lib.contains
  induction l with
  | nil => rfl
  | cons d l ih =>
    by_cases h : d = c
    · subst h
      rw [index_hit]; simp
    · rw [index_miss c d l h]
      have e : (d :: l).contains c = l.contains c := by simp; intro e; exact absurd e.symm h
      rw [e, ← ih]
      split
      · rename_i h1; rw [show Lib.index l [c] = -1 by simpa using h1]
      · have := Lib.index_ge l [c]
        rename_i h1
        have h2 : Lib.index l [c] ≠ -1 := by simpa using h1
        rw [decide_eq_true (show (0 : Int) ≤ Lib.index l [c] + 1 by omega), decide_eq_true (show (0 : Int) ≤ Lib.index l [c] by omega)]
theorem cut_le (l : List UInt8) (c : UInt8) : (Lib.cut l [c]).1.length ≤ l.length ∧ (Lib.cut l [c]).2.1.length ≤ l.length := by
  unfold Lib.cut
  split
  · simp only [List.length_take, List.length_drop]; omega
  · simp
theorem cutL_le (l c : List UInt8) : (Lib.cut l c).1.length ≤ l.length ∧ (Lib.cut l c).2.1.length ≤ l.length := by
  unfold Lib.cut
  split
  · simp only [List.length_take, List.length_drop]; omega
  · simp
set_option maxHeartbeats 2000000 in
set_option maxRecDepth 100000 in
theorem quoted_any (s : ByteArray) (hs : s.size ≤ 9000000) (bad : Bool) (r : Nat) (w : World) (hT : Tables w) (hr : w.heap[r]? = some (.cells #[.string s, .bool bad] 110 (0, 0))) (hTr : ∀ W, Aside r w W → Tables W) :
    Calls Tryz.prog 89 #[.pointer (some ⟨r, 0, none⟩)] w fun e w' => e = .returned (.string ⟨(unn (Lib.cut s.data.toList [34]).1).toArray⟩) ∧
      w'.heap[r]? = some (.cells #[.string ⟨(Lib.cut s.data.toList [34]).2.1.toArray⟩, .bool (bad || qbad s.data.toList)] 110 (0, 0)) ∧ Aside r w w' := by
  obtain ⟨x0, x1, f0, f1⟩ := two_of hr
  have hrs := (Array.getElem?_eq_some_iff.1 hr).1
  have hcl := cut_le s.data.toList 34
  rw [size_list] at hcl
  obtain ⟨a, b, ok, hcut⟩ : ∃ a b ok, Lib.cut s.data.toList [34] = (a, b, ok) := ⟨_, _, _, rfl⟩
  unfold qbad
  rw [hcut] at hcl ⊢
  simp only at hcl ⊢
  have HC := Lib.hid hcut
  clear hcut
  obtain ⟨hc1, hc2⟩ := hcl
  go_enter Tryz.func89, Tryz.ntmps89
  go_wp2_with fail
  refine (Tryz.strings_Cut_shaped _ _ _ hT.shape (by omega)).mono ?_
  rintro e w1 ⟨rfl, n, rfl⟩
  rw [show Lib.cut s.data.toList (ByteArray.mk #[34]).data.toList = (a, b, ok) from HC.out]
  have hb1 : Below w.heap.size w (w.drewN n) := below_draws w n
  have hr1 := blk_kept hb1 hr
  have hA1 := Aside.of_below (r := r) (by omega) hb1
  generalize w.drewN n = w1 at *
  clear x0 x1 f0 f1
  obtain ⟨x0, x1, f0, f1⟩ := two_of hr1
  have hsh := hTr _ hA1
  have hz1 : (w1.setCell ⟨r, 1, none⟩ (.bool true)).heap[r]? = some (.cells #[.string s, .bool true] 110 (0, 0)) := set1_two _ hr1
  have hAb : Aside r w (w1.setCell ⟨r, 1, none⟩ (.bool true)) := hA1.trans (Aside.set r 1 w1 (.bool true))
  have hz2 : ((w1.setCell ⟨r, 1, none⟩ (.bool true)).setCell ⟨r, 0, none⟩ (.string ⟨b.toArray⟩)).heap[r]? = some (.cells #[.string ⟨b.toArray⟩, .bool true] 110 (0, 0)) := set0_two _ hz1
  have hAc : Aside r w ((w1.setCell ⟨r, 1, none⟩ (.bool true)).setCell ⟨r, 0, none⟩ (.string ⟨b.toArray⟩)) := hAb.trans (Aside.set r 0 _ (.string ⟨b.toArray⟩))
  have hz3 : (w1.setCell ⟨r, 0, none⟩ (.string ⟨b.toArray⟩)).heap[r]? = some (.cells #[.string ⟨b.toArray⟩, .bool bad] 110 (0, 0)) := set0_two _ hr1
  have hAd : Aside r w (w1.setCell ⟨r, 0, none⟩ (.string ⟨b.toArray⟩)) := hA1.trans (Aside.set r 0 w1 (.string ⟨b.toArray⟩))
  have hTc := hTr _ hAc
  have hTd := hTr _ hAd
  have H := Lib.hid (And.intro hz2 (And.intro hAc (And.intro hz3 (And.intro hAd (And.intro hTc hTd)))))
  clear hz2 hAc hz3 hAd hTc hTd hz1 hAb hr1 hr
  have hc13 := contains_byte a 13
  have hc10 := contains_byte a 10
  cases ok
  · go_wp2_with fail
    obtain ⟨hz2, hAc, hz3, hAd, hTc, hTd⟩ := H.out
    generalize hW : (w1.setCell _ _).setCell _ _ = W at hz2 hAc hTc ⊢
    have hsz := hAc.1.size
    clear hW hz3 hAd hTd H x0 x1 f0 f1
    refine (unname_any ⟨a.toArray⟩ (by rw [size_mk]; omega) _ hTc).mono ?_
    rintro e w3 ⟨rfl, hb3⟩
    go_wp2_with fail
    go_ret
    exact ⟨rfl, by rw [blk_kept hb3 hz2]; simp, hAc.trans (Aside.of_below (by omega) hb3)⟩
  · go_wp2_with fail
    refine (Tryz.strings_Contains_shaped ⟨a.toArray⟩ ⟨#[13]⟩ _ hsh.shape (by rw [size_mk]; omega)).mono ?_
    rintro e w' ⟨rfl, hw⟩
    rw [hw, show Lib.contains (ByteArray.mk a.toArray).data.toList (ByteArray.mk #[13]).data.toList = a.contains 13 from hc13]
    clear hw hc13
    cases h13 : a.contains 13
    all_goals
      have H13 := Lib.hid h13
      clear h13
    · go_wp2_with fail
      refine (Tryz.strings_Contains_shaped ⟨a.toArray⟩ ⟨#[10]⟩ _ hsh.shape (by rw [size_mk]; omega)).mono ?_
      rintro e w' ⟨rfl, hw⟩
      rw [hw, show Lib.contains (ByteArray.mk a.toArray).data.toList (ByteArray.mk #[10]).data.toList = a.contains 10 from hc10]
      clear hw hc10
      cases h10 : a.contains 10
      all_goals
        have H10 := Lib.hid h10
        clear h10
      · go_wp2_with fail
        obtain ⟨hz2, hAc, hz3, hAd, hTc, hTd⟩ := H.out
        generalize hW : (w1.setCell _ _) = W at hz3 hAd hTd ⊢
        have hsz := hAd.1.size
        clear hW hz2 hAc hTc H x0 x1 f0 f1
        refine (unname_any ⟨a.toArray⟩ (by rw [size_mk]; omega) _ hTd).mono ?_
        rintro e w3 ⟨rfl, hb3⟩
        go_wp2_with fail
        go_ret
        exact ⟨rfl, by rw [blk_kept hb3 hz3, H13.out, H10.out]; cases bad <;> rfl, hAd.trans (Aside.of_below (by omega) hb3)⟩
      · go_wp2_with fail
        obtain ⟨hz2, hAc, hz3, hAd, hTc, hTd⟩ := H.out
        generalize hW : (w1.setCell _ _).setCell _ _ = W at hz2 hAc hTc ⊢
        have hsz := hAc.1.size
        clear hW hz3 hAd hTd H x0 x1 f0 f1
        refine (unname_any ⟨a.toArray⟩ (by rw [size_mk]; omega) _ hTc).mono ?_
        rintro e w3 ⟨rfl, hb3⟩
        go_wp2_with fail
        go_ret
        exact ⟨rfl, by rw [blk_kept hb3 hz2, H13.out, H10.out]; cases bad <;> rfl, hAc.trans (Aside.of_below (by omega) hb3)⟩
    · go_wp2_with fail
      obtain ⟨hz2, hAc, hz3, hAd, hTc, hTd⟩ := H.out
      generalize hW : (w1.setCell _ _).setCell _ _ = W at hz2 hAc hTc ⊢
      have hsz := hAc.1.size
      clear hW hz3 hAd hTd H x0 x1 f0 f1
      refine (unname_any ⟨a.toArray⟩ (by rw [size_mk]; omega) _ hTc).mono ?_
      rintro e w3 ⟨rfl, hb3⟩
      go_wp2_with fail
      go_ret
      exact ⟨rfl, by rw [blk_kept hb3 hz2, H13.out]; cases bad <;> rfl, hAc.trans (Aside.of_below (by omega) hb3)⟩

/-- a part's reading on its way: the blocks of the result (b0), of the reader (r), of the entry (e) -/
structure RS (w : World) (b0 r e : Nat) (W : World) (s : ByteArray) (bad : Bool) (x0 x1 x2 x3 x4 : Value) : Prop where
  bel : Below w.heap.size w W
  res : W.heap[b0]? = some (.cells #[.string ⟨#[]⟩, .string ⟨#[]⟩, .bool false, .string ⟨#[]⟩, .string ⟨#[]⟩] 73 (0, 0))
  red : W.heap[r]? = some (.cells #[.string s, .bool bad] 110 (0, 0))
  ent : W.heap[e]? = some (.cells #[x0, x1, x2, x3, x4] 73 (0, 0))
  o1 : w.heap.size ≤ b0
  o2 : b0 < r
  o3 : r < e
theorem RS.aside {w : World} {b0 r e : Nat} {W W' : World} {s s' : ByteArray} {bad bad' : Bool} {x0 x1 x2 x3 x4 : Value} (h : RS w b0 r e W s bad x0 x1 x2 x3 x4) (ha : Aside r W W')
    (hr : W'.heap[r]? = some (.cells #[.string s', .bool bad'] 110 (0, 0))) : RS w b0 r e W' s' bad' x0 x1 x2 x3 x4 := by
  have h1 := h.o1
  have h2 := h.o2
  have h3 := h.o3
  exact ⟨h.bel.trans (ha.1.mono (by omega)), (ha.2 b0 (Array.getElem?_eq_some_iff.1 h.res).1 (by omega)).trans h.res, hr, (ha.2 e (Array.getElem?_eq_some_iff.1 h.ent).1 (by omega)).trans h.ent, h1, h2, h3⟩
theorem RS.setE {w : World} {b0 r e : Nat} {W : World} {s : ByteArray} {bad : Bool} {x0 x1 x2 x3 x4 y0 y1 y2 y3 y4 : Value} (i : Nat) (u : Value) (h : RS w b0 r e W s bad x0 x1 x2 x3 x4)
    (hy : (#[x0, x1, x2, x3, x4] : Array Value).setIfInBounds i u = #[y0, y1, y2, y3, y4]) : RS w b0 r e (W.setCell ⟨e, i, none⟩ u) s bad y0 y1 y2 y3 y4 := by
  have h1 := h.o1
  have h2 := h.o2
  have h3 := h.o3
  refine ⟨h.bel.setCell (p := ⟨e, i, none⟩) (by show w.heap.size ≤ e; omega) u, ?_, ?_, ?_, h1, h2, h3⟩
  · rw [heap_setCell_other W ⟨e, i, none⟩ b0 u (by show b0 ≠ e; omega)]; exact h.res
  · rw [heap_setCell_other W ⟨e, i, none⟩ r u (by show r ≠ e; omega)]; exact h.red
  · rw [setCell_heap u h.ent, hy]
theorem RS.setR {w : World} {b0 r e : Nat} {W : World} {s s' : ByteArray} {bad bad' : Bool} {x0 x1 x2 x3 x4 : Value} (i : Nat) (u : Value) (h : RS w b0 r e W s bad x0 x1 x2 x3 x4)
    (hy : (#[.string s, .bool bad] : Array Value).setIfInBounds i u = #[.string s', .bool bad']) : RS w b0 r e (W.setCell ⟨r, i, none⟩ u) s' bad' x0 x1 x2 x3 x4 :=
  h.aside (Aside.set r i W u) (by rw [setCell_heap u h.red, hy])
theorem RS.tab {w : World} {b0 r e : Nat} {W : World} {s : ByteArray} {bad : Bool} {x0 x1 x2 x3 x4 : Value} (h : RS w b0 r e W s bad x0 x1 x2 x3 x4) (hT : Tables w) : Tables W := hT.kept h.bel
/-- what the walk asks of the cells -/
def RSf (b0 r e : Nat) (W : World) (s : ByteArray) (bad : Bool) (x0 x1 x2 x3 x4 : Value) : Prop :=
  (W.cell? ⟨r, 0, none⟩ = some (.string s) ∧ W.cell? ⟨r, 1, none⟩ = some (.bool bad) ∧ W.frozen? ⟨r, 0, none⟩ = false ∧ W.frozen? ⟨r, 1, none⟩ = false) ∧
  (W.cell? ⟨e, 0, none⟩ = some x0 ∧ W.cell? ⟨e, 1, none⟩ = some x1 ∧ W.cell? ⟨e, 2, none⟩ = some x2 ∧ W.cell? ⟨e, 3, none⟩ = some x3 ∧ W.cell? ⟨e, 4, none⟩ = some x4 ∧
    W.frozen? ⟨e, 0, none⟩ = false ∧ W.frozen? ⟨e, 1, none⟩ = false ∧ W.frozen? ⟨e, 2, none⟩ = false ∧ W.frozen? ⟨e, 3, none⟩ = false ∧ W.frozen? ⟨e, 4, none⟩ = false) ∧
  (W.cell? ⟨b0, 0, none⟩ = some (.string ⟨#[]⟩) ∧ W.cell? ⟨b0, 1, none⟩ = some (.string ⟨#[]⟩) ∧ W.cell? ⟨b0, 2, none⟩ = some (.bool false) ∧ W.cell? ⟨b0, 3, none⟩ = some (.string ⟨#[]⟩) ∧ W.cell? ⟨b0, 4, none⟩ = some (.string ⟨#[]⟩) ∧
    W.frozen? ⟨b0, 0, none⟩ = false ∧ W.frozen? ⟨b0, 1, none⟩ = false ∧ W.frozen? ⟨b0, 2, none⟩ = false ∧ W.frozen? ⟨b0, 3, none⟩ = false ∧ W.frozen? ⟨b0, 4, none⟩ = false)
theorem RS.facts {w : World} {b0 r e : Nat} {W : World} {s : ByteArray} {bad : Bool} {x0 x1 x2 x3 x4 : Value} (h : RS w b0 r e W s bad x0 x1 x2 x3 x4) : RSf b0 r e W s bad x0 x1 x2 x3 x4 :=
  ⟨two_of h.red, five_of h.ent, five_of h.res⟩
/-- a list's entry -/
def entOf (x : P5) : Ent := ⟨⟨x.n.toArray⟩, ⟨x.v.toArray⟩, x.f, ⟨x.fn.toArray⟩, ⟨x.t.toArray⟩⟩
def zeroE : Value := .agg #[.string ⟨#[]⟩, .string ⟨#[]⟩, .bool false, .string ⟨#[]⟩, .string ⟨#[]⟩]
def rdV : Option P5 → Value
  | none => .tuple #[zeroE, .bool false]
  | some x => .tuple #[entV (entOf x), .bool true]
theorem rd_cut (s : List UInt8) : rd s = if (Lib.cut s crlf2).2.2 then rdq (Lib.cut s crlf2).1 (Lib.cut s crlf2).2.1 else none := by
  unfold rd Lib.cut
  have hg := Lib.index_ge s crlf2
  by_cases h : Lib.index s crlf2 = -1
  · have h0 : ¬ 0 ≤ Lib.index s crlf2 := by omega
    rw [if_pos h, if_neg h0]; rfl
  · have h0 : 0 ≤ Lib.index s crlf2 := by omega
    rw [if_neg h, if_pos h0]
    rfl
theorem rdq_no1 {h v : List UInt8} (h1 : head1.isPrefixOf h = false) : rdq h v = none := by unfold rdq; rw [if_neg (by rw [h1]; exact Bool.false_ne_true)]
theorem rdq_bad1 {h v : List UInt8} (hq : qbad (h.drop 38) = true) : rdq h v = none := by
  unfold rdq
  rw [qtd_qbad, if_pos hq]
  split <;> rfl
theorem rdq_end {h v a : List UInt8} (h1 : head1.isPrefixOf h = true) (hq : qbad (h.drop 38) = false) (ha : (Lib.cut (h.drop 38) [34]).1 = a) (hb : (Lib.cut (h.drop 38) [34]).2.1 = []) : rdq h v = some ⟨unn a, v, false, [], []⟩ := by
  unfold rdq
  rw [if_pos h1, qtd_qbad, hq, ha, hb]
  simp
theorem rdq_no2 {h v b : List UInt8} (hb : (Lib.cut (h.drop 38) [34]).2.1 = b) (hne : b ≠ []) (h2 : head2.isPrefixOf b = false) : rdq h v = none := by
  unfold rdq
  rw [qtd_qbad, hb]
  split
  · cases qbad (h.drop 38)
    · simp [hne, h2]
    · rfl
  · rfl
theorem rdq_bad2 {h v b : List UInt8} (hb : (Lib.cut (h.drop 38) [34]).2.1 = b) (h2 : head2.isPrefixOf b = true) (hq : qbad (b.drop 12) = true) : rdq h v = none := by
  have hne : b ≠ [] := by rintro rfl; exact absurd h2 (by decide)
  unfold rdq
  rw [qtd_qbad, hb]
  split
  · cases qbad (h.drop 38)
    · simp [hne, h2, qtd_qbad, hq]
    · rfl
  · rfl
theorem rdq_no3 {h v b q : List UInt8} (hb : (Lib.cut (h.drop 38) [34]).2.1 = b) (h2 : head2.isPrefixOf b = true) (hq : (Lib.cut (b.drop 12) [34]).2.1 = q) (h3 : head3.isPrefixOf q = false) : rdq h v = none := by
  have hne : b ≠ [] := by rintro rfl; exact absurd h2 (by decide)
  unfold rdq
  rw [qtd_qbad, hb]
  split
  · cases qbad (h.drop 38)
    · cases hx : qbad (b.drop 12) <;> simp [hne, h2, qtd_qbad, hx, hq, h3]
    · rfl
  · rfl
theorem rdq_brk {h v b q : List UInt8} (hb : (Lib.cut (h.drop 38) [34]).2.1 = b) (h2 : head2.isPrefixOf b = true) (hq : (Lib.cut (b.drop 12) [34]).2.1 = q) (hk : 13 ∈ q.drop 16 ∨ 10 ∈ q.drop 16) : rdq h v = none := by
  have hne : b ≠ [] := by rintro rfl; exact absurd h2 (by decide)
  unfold rdq
  rw [qtd_qbad, hb]
  split
  · cases qbad (h.drop 38)
    · cases hx : qbad (b.drop 12) <;> simp [hne, h2, qtd_qbad, hx, hq, hk]
    · rfl
  · rfl
theorem rdq_file {h v a b f q : List UInt8} (h1 : head1.isPrefixOf h = true) (hq1 : qbad (h.drop 38) = false) (ha : (Lib.cut (h.drop 38) [34]).1 = a) (hb : (Lib.cut (h.drop 38) [34]).2.1 = b) (h2 : head2.isPrefixOf b = true) (hq2 : qbad (b.drop 12) = false)
    (hf : (Lib.cut (b.drop 12) [34]).1 = f) (hq : (Lib.cut (b.drop 12) [34]).2.1 = q) (h3 : head3.isPrefixOf q = true) (k13 : 13 ∉ q.drop 16) (k10 : 10 ∉ q.drop 16) : rdq h v = some ⟨unn a, v, true, unn f, q.drop 16⟩ := by
  have hne : b ≠ [] := by rintro rfl; exact absurd h2 (by decide)
  unfold rdq
  rw [if_pos h1, qtd_qbad, hq1, ha, hb]
  simp [hne, h2, qtd_qbad, hq2, hf, hq, h3, k13, k10]
end Go.Proofs.YtafbghlldlconaaGreatDoor

/-
  A part read: parts.read: the walk.
-/
namespace Go.Proofs.YtafbghlldlconaaGreatDoor
set_option linter.unusedVariables false
set_option linter.unusedSimpArgs false
open Go.RowKit PT

theorem sign_list (l p : List UInt8) (bad : Bool) (r : Nat) (w : World) (hr : w.heap[r]? = some (.cells #[.string ⟨l.toArray⟩, .bool bad] 110 (0, 0))) :
    Calls Tryz.prog 88 #[.pointer (some ⟨r, 0, none⟩), .string ⟨p.toArray⟩] w fun e w' => e = .returned (.bool (p.isPrefixOf l)) ∧
      w'.heap[r]? = some (.cells #[.string (if p.isPrefixOf l then ⟨(l.drop p.length).toArray⟩ else ⟨l.toArray⟩), .bool bad] 110 (0, 0)) ∧ Aside r w w' := sign_any ⟨l.toArray⟩ ⟨p.toArray⟩ bad r w hr
theorem quoted_list (l : List UInt8) (hs : l.length ≤ 9000000) (bad : Bool) (r : Nat) (w : World) (hT : Tables w) (hr : w.heap[r]? = some (.cells #[.string ⟨l.toArray⟩, .bool bad] 110 (0, 0))) (hTr : ∀ W, Aside r w W → Tables W) :
    Calls Tryz.prog 89 #[.pointer (some ⟨r, 0, none⟩)] w fun e w' => e = .returned (.string ⟨(unn (Lib.cut l [34]).1).toArray⟩) ∧
      w'.heap[r]? = some (.cells #[.string ⟨(Lib.cut l [34]).2.1.toArray⟩, .bool (bad || qbad l)] 110 (0, 0)) ∧ Aside r w w' := quoted_any ⟨l.toArray⟩ (by rw [size_mk]; exact hs) bad r w hT hr hTr
theorem RS.tabs {w : World} {b0 r e : Nat} {W : World} {s : ByteArray} {bad : Bool} {x0 x1 x2 x3 x4 : Value} (h : RS w b0 r e W s bad x0 x1 x2 x3 x4) (hT : Tables w) : ∀ W', Aside r W W' → Tables W' := fun W' ha => hT.kept (h.bel.trans (ha.1.mono (by have := h.o1; have := h.o2; omega)))
set_option maxHeartbeats 8000000 in
set_option maxRecDepth 100000 in
theorem read_any (s : ByteArray) (hs : s.size ≤ 9000000) (w : World) (hT : Tables w) :
    Calls Tryz.prog 48 #[.string s] w fun e w' => e = .returned (rdV (rd s.data.toList)) ∧ Below w.heap.size w w' := by
  rw [rd_cut]
  have hcl := cutL_le s.data.toList crlf2
  rw [size_list] at hcl
  obtain ⟨h, v, ok, hcut⟩ : ∃ h v ok, Lib.cut s.data.toList crlf2 = (h, v, ok) := ⟨_, _, _, rfl⟩
  rw [hcut] at hcl ⊢
  simp only at hcl ⊢
  obtain ⟨hc1, hc2⟩ := hcl
  have HC := Lib.hid hcut
  clear hcut
  have hb0 := (Below.refl w.heap.size w).alloc (Nat.le_refl _) (.cells #[.string ⟨#[]⟩, .string ⟨#[]⟩, .bool false, .string ⟨#[]⟩, .string ⟨#[]⟩] 73)
  have hn0 := Go.heap_alloc_new w (.cells #[.string ⟨#[]⟩, .string ⟨#[]⟩, .bool false, .string ⟨#[]⟩, .string ⟨#[]⟩] 73)
  have hs0 : (w.alloc (.cells #[.string ⟨#[]⟩, .string ⟨#[]⟩, .bool false, .string ⟨#[]⟩, .string ⟨#[]⟩] 73)).heap.size = w.heap.size + 1 := by simp
  have hT0 := hT.kept hb0
  go_enter Tryz.func48, Tryz.ntmps48
  go_wp2_with fail
  refine (Tryz.strings_Cut_shaped _ _ _ hT0.shape (by omega)).mono ?_
  rintro e w1 ⟨rfl, n, rfl⟩
  rw [show Lib.cut s.data.toList (ByteArray.mk #[13, 10, 13, 10]).data.toList = (h, v, ok) from HC.out]
  have hb1 := below_draws (w.alloc (.cells #[.string ⟨#[]⟩, .string ⟨#[]⟩, .bool false, .string ⟨#[]⟩, .string ⟨#[]⟩] 73)) n
  have hn1 := blk_kept hb1 hn0
  have hs1 := hb1.size
  have hss : ((w.alloc (.cells #[.string ⟨#[]⟩, .string ⟨#[]⟩, .bool false, .string ⟨#[]⟩, .string ⟨#[]⟩] 73)).drewN n).heap.size = w.heap.size + 1 := hs0
  have hbb := hb0.trans (hb1.mono (by omega))
  generalize (w.alloc (.cells #[.string ⟨#[]⟩, .string ⟨#[]⟩, .bool false, .string ⟨#[]⟩, .string ⟨#[]⟩] 73)).drewN n = W1 at *
  clear hb0 hn0 hs0 hT0 hb1 hs1
  cases ok
  · obtain ⟨x0, x1, x2, x3, x4, f0, f1, f2, f3, f4⟩ := five_of hn1
    go_wp2_with fail
    have z := set5_heap (.string ⟨#[]⟩) (.string ⟨#[]⟩) (.bool false) (.string ⟨#[]⟩) (.string ⟨#[]⟩) hn1
    have hb9 := hbb.trans (set5_below _ w.heap.size (.string ⟨#[]⟩) (.string ⟨#[]⟩) (.bool false) (.string ⟨#[]⟩) (.string ⟨#[]⟩) (Nat.le_refl w.heap.size))
    generalize World.setCell (World.setCell (World.setCell (World.setCell (World.setCell _ _ _) _ _) _ _) _ _) _ _ = W9 at z hb9 ⊢
    obtain ⟨y0, y1, y2, y3, y4, _, _, _, _, _⟩ := five_of z
    exact bodyPost_ret (v := .tuple #[zeroE, .bool false]) (by simp [results, Tryz.results48, go_sem, zeroE, y0, y1, y2, y3, y4]) rfl ⟨rfl, hb9⟩
  · have hS : RS w w.heap.size (w.heap.size + 1) (w.heap.size + 1 + 1) ((W1.alloc (.cells #[.string ⟨h.toArray⟩, .bool false] 110)).alloc (.cells #[.string ⟨#[]⟩, .string ⟨v.toArray⟩, .bool false, .string ⟨#[]⟩, .string ⟨#[]⟩] 73)) ⟨h.toArray⟩ false (.string ⟨#[]⟩) (.string ⟨v.toArray⟩) (.bool false) (.string ⟨#[]⟩) (.string ⟨#[]⟩) := by
      have ha := (Below.refl W1.heap.size W1).alloc (Nat.le_refl _) (.cells #[.string ⟨h.toArray⟩, .bool false] 110)
      have hb := ha.alloc (by simp) (.cells #[.string ⟨#[]⟩, .string ⟨v.toArray⟩, .bool false, .string ⟨#[]⟩, .string ⟨#[]⟩] 73)
      have hr := Go.heap_alloc_new W1 (.cells #[.string ⟨h.toArray⟩, .bool false] 110)
      rw [← hss]
      refine ⟨hbb.trans (hb.mono (by omega)), blk_kept hb hn1, ?_, ?_, Nat.le_refl _, by omega, by omega⟩
      · rw [Below.heap_alloc _ _ _ (by simp)]; exact hr
      · have := Go.heap_alloc_new (W1.alloc (.cells #[.string ⟨h.toArray⟩, .bool false] 110)) (.cells #[.string ⟨#[]⟩, .string ⟨v.toArray⟩, .bool false, .string ⟨#[]⟩, .string ⟨#[]⟩] 73)
        simpa using this
    go_upto_region 6 with fail
    generalize World.alloc (World.alloc _ _) _ = W2 at hS ⊢
    clear hn1 hss hbb HC
    generalize w.heap.size + 1 + 1 = e9 at hS ⊢
    generalize w.heap.size + 1 = r at hS ⊢
    have hre : r ≠ e9 := Nat.ne_of_lt hS.o3
    have her : e9 ≠ r := Ne.symm hre
    go_wp2_with fail
    refine (sign_list h head1 false _ _ hS.red).mono ?_
    rintro e wA ⟨rfl, hrA, hA⟩
    have hSA := hS.aside hA hrA
    clear hrA hA hS
    cases h1 : head1.isPrefixOf h
    · rw [h1] at hSA
      simp only [Bool.false_eq_true, if_false] at hSA
      obtain ⟨⟨x0, x1, f0, f1⟩, ⟨e0, e1, e2, e3, e4, g0, g1, g2, g3, g4⟩, ⟨b0, b1, b2, b3, b4, k0, k1, k2, k3, k4⟩⟩ := hSA.facts
      have HR := Lib.hid (rdq_no1 (v := v) h1)
      clear h1
      go_wp2_with fail
      have z := set5_heap (.string ⟨#[]⟩) (.string ⟨#[]⟩) (.bool false) (.string ⟨#[]⟩) (.string ⟨#[]⟩) hSA.res
      have hb9 := hSA.bel.trans (set5_below _ w.heap.size (.string ⟨#[]⟩) (.string ⟨#[]⟩) (.bool false) (.string ⟨#[]⟩) (.string ⟨#[]⟩) (Nat.le_refl w.heap.size))
      generalize World.setCell (World.setCell (World.setCell (World.setCell (World.setCell _ _ _) _ _) _ _) _ _) _ _ = W9 at z hb9 ⊢
      obtain ⟨y0, y1, y2, y3, y4, _, _, _, _, _⟩ := five_of z
      exact bodyPost_ret (v := .tuple #[zeroE, .bool false]) (by simp [results, Tryz.results48, go_sem, zeroE, y0, y1, y2, y3, y4]) rfl ⟨by show _ = Ending.returned (rdV (rdq h v)); rw [HR.out]; rfl, hb9⟩
    · rw [h1] at hSA
      simp only [if_true] at hSA
      rw [show head1.length = 38 from rfl] at hSA
      have H1 := Lib.hid h1
      clear h1
      go_wp2_with fail
      refine (quoted_list (h.drop 38) (by rw [List.length_drop]; omega) false _ _ (hSA.tab hT) hSA.red (hSA.tabs hT)).mono ?_
      rintro e wB ⟨rfl, hrB, hB⟩
      have hSB := hSA.aside hB hrB
      have hcb := cut_le (h.drop 38) 34
      rw [List.length_drop] at hcb
      rw [Bool.false_or] at hSB
      revert hSB hcb
      generalize hga : (Lib.cut (h.drop 38) [34]).1 = a
      generalize hgb : (Lib.cut (h.drop 38) [34]).2.1 = b
      generalize hgq : qbad (h.drop 38) = q1
      intro hSB hcb
      have HA := Lib.hid hga
      have HB := Lib.hid hgb
      have HQ := Lib.hid hgq
      obtain ⟨hca, hcb⟩ := hcb
      clear hrB hB hSA hga hgb hgq
      obtain ⟨⟨x0, x1, f0, f1⟩, ⟨e0, e1, e2, e3, e4, g0, g1, g2, g3, g4⟩, ⟨b0, b1, b2, b3, b4, k0, k1, k2, k3, k4⟩⟩ := hSB.facts
      go_upto_region 9 with fail
      have hSC := hSB.setE 0 (.string ⟨(unn a).toArray⟩) rfl
      generalize World.setCell _ _ _ = WC at hSC ⊢
      clear hSB
      clear x0 x1 f0 f1 e0 e1 e2 e3 e4 g0 g1 g2 g3 g4 b0 b1 b2 b3 b4 k0 k1 k2 k3 k4
      go_wp2_with fail
      refine (sign_list b head2 q1 _ _ hSC.red).mono ?_
      rintro e wD ⟨rfl, hrD, hD⟩
      have hSD := hSC.aside hD hrD
      clear hrD hD hSC
      cases h2 : head2.isPrefixOf b
      · rw [h2] at hSD
        simp only [Bool.false_eq_true, if_false] at hSD
        have H2 := Lib.hid h2
        clear h2
        obtain ⟨⟨x0, x1, f0, f1⟩, ⟨e0, e1, e2, e3, e4, g0, g1, g2, g3, g4⟩, ⟨b0, b1, b2, b3, b4, k0, k1, k2, k3, k4⟩⟩ := hSD.facts
        cases q1
        · by_cases hb0 : b = []
          · have hR := Lib.hid (rdq_end (v := v) H1.out HQ.out HA.out (HB.out.trans hb0))
            subst hb0
            go_wp2_with fail
            refine (Tryz.strings_Contains_shaped ⟨#[]⟩ ⟨#[13]⟩ _ (hSD.tab hT).shape (by decide)).mono ?_
            rintro e w' ⟨rfl, hw⟩
            rw [hw, show Lib.contains (ByteArray.mk #[]).data.toList (ByteArray.mk #[13]).data.toList = false by decide]
            clear hw
            go_wp2_with fail
            refine (Tryz.strings_Contains_shaped ⟨#[]⟩ ⟨#[10]⟩ _ (hSD.tab hT).shape (by decide)).mono ?_
            rintro e w' ⟨rfl, hw⟩
            rw [hw, show Lib.contains (ByteArray.mk #[]).data.toList (ByteArray.mk #[10]).data.toList = false by decide]
            clear hw
            go_wp2_with fail
            have z := set5_heap (.string ⟨(unn a).toArray⟩) (.string ⟨v.toArray⟩) (.bool false) (.string ⟨#[]⟩) (.string ⟨#[]⟩) hSD.res
            have hb9 := hSD.bel.trans (set5_below _ w.heap.size (.string ⟨(unn a).toArray⟩) (.string ⟨v.toArray⟩) (.bool false) (.string ⟨#[]⟩) (.string ⟨#[]⟩) (Nat.le_refl w.heap.size))
            generalize World.setCell (World.setCell (World.setCell (World.setCell (World.setCell _ _ _) _ _) _ _) _ _) _ _ = W9 at z hb9 ⊢
            obtain ⟨y0, y1, y2, y3, y4, _, _, _, _, _⟩ := five_of z
            exact bodyPost_ret (v := .tuple #[.agg #[(.string ⟨(unn a).toArray⟩), (.string ⟨v.toArray⟩), (.bool false), (.string ⟨#[]⟩), (.string ⟨#[]⟩)], .bool true]) (by simp [results, Tryz.results48, go_sem, y0, y1, y2, y3, y4]) rfl ⟨by show _ = Ending.returned (rdV (rdq h v)); rw [hR.out]; rfl, hb9⟩
          · have hR := Lib.hid (rdq_no2 (v := v) HB.out hb0 H2.out)
            go_wp2_with fail
            have z := set5_heap (.string ⟨#[]⟩) (.string ⟨#[]⟩) (.bool false) (.string ⟨#[]⟩) (.string ⟨#[]⟩) hSD.res
            have hb9 := hSD.bel.trans (set5_below _ w.heap.size (.string ⟨#[]⟩) (.string ⟨#[]⟩) (.bool false) (.string ⟨#[]⟩) (.string ⟨#[]⟩) (Nat.le_refl w.heap.size))
            generalize World.setCell (World.setCell (World.setCell (World.setCell (World.setCell _ _ _) _ _) _ _) _ _) _ _ = W9 at z hb9 ⊢
            obtain ⟨y0, y1, y2, y3, y4, _, _, _, _, _⟩ := five_of z
            exact bodyPost_ret (v := .tuple #[zeroE, .bool false]) (by simp [results, Tryz.results48, go_sem, zeroE, y0, y1, y2, y3, y4]) rfl ⟨by show _ = Ending.returned (rdV (rdq h v)); rw [hR.out]; rfl, hb9⟩
        · have hR := Lib.hid (rdq_bad1 (v := v) HQ.out)
          go_wp2_with fail
          have z := set5_heap (.string ⟨#[]⟩) (.string ⟨#[]⟩) (.bool false) (.string ⟨#[]⟩) (.string ⟨#[]⟩) hSD.res
          have hb9 := hSD.bel.trans (set5_below _ w.heap.size (.string ⟨#[]⟩) (.string ⟨#[]⟩) (.bool false) (.string ⟨#[]⟩) (.string ⟨#[]⟩) (Nat.le_refl w.heap.size))
          generalize World.setCell (World.setCell (World.setCell (World.setCell (World.setCell _ _ _) _ _) _ _) _ _) _ _ = W9 at z hb9 ⊢
          obtain ⟨y0, y1, y2, y3, y4, _, _, _, _, _⟩ := five_of z
          exact bodyPost_ret (v := .tuple #[zeroE, .bool false]) (by simp [results, Tryz.results48, go_sem, zeroE, y0, y1, y2, y3, y4]) rfl ⟨by show _ = Ending.returned (rdV (rdq h v)); rw [hR.out]; rfl, hb9⟩
      · rw [h2] at hSD
        simp only [if_true] at hSD
        rw [show head2.length = 12 from rfl] at hSD
        have H2 := Lib.hid h2
        clear h2
        obtain ⟨⟨x0, x1, f0, f1⟩, ⟨e0, e1, e2, e3, e4, g0, g1, g2, g3, g4⟩, ⟨b0, b1, b2, b3, b4, k0, k1, k2, k3, k4⟩⟩ := hSD.facts
        go_upto_region 11 with fail
        have hSE := hSD.setE 2 (.bool true) rfl
        generalize World.setCell _ _ _ = WE at hSE ⊢
        clear hSD
        clear x0 x1 f0 f1 e0 e1 e2 e3 e4 g0 g1 g2 g3 g4 b0 b1 b2 b3 b4 k0 k1 k2 k3 k4
        go_wp2_with fail
        refine (quoted_list (b.drop 12) (by rw [List.length_drop]; omega) q1 _ _ (hSE.tab hT) hSE.red (hSE.tabs hT)).mono ?_
        rintro e wF ⟨rfl, hrF, hF⟩
        have hSF := hSE.aside hF hrF
        have hcd := cut_le (b.drop 12) 34
        rw [List.length_drop] at hcd
        revert hSF hcd
        generalize hgf : (Lib.cut (b.drop 12) [34]).1 = f
        generalize hgq : (Lib.cut (b.drop 12) [34]).2.1 = q
        generalize hgb : qbad (b.drop 12) = q2
        generalize hg2 : (q1 || q2) = bd
        intro hSF hcd
        have HF := Lib.hid hgf
        have HG := Lib.hid hgq
        have HP := Lib.hid hgb
        have HD := Lib.hid hg2
        obtain ⟨hce, hcd⟩ := hcd
        clear hrF hF hSE hgf hgq hgb hg2
        obtain ⟨⟨x0, x1, f0, f1⟩, ⟨e0, e1, e2, e3, e4, g0, g1, g2, g3, g4⟩, ⟨b0, b1, b2, b3, b4, k0, k1, k2, k3, k4⟩⟩ := hSF.facts
        go_upto_region 12 with fail
        have hSG := hSF.setE 3 (.string ⟨(unn f).toArray⟩) rfl
        generalize World.setCell _ _ _ = WG at hSG ⊢
        clear hSF
        clear x0 x1 f0 f1 e0 e1 e2 e3 e4 g0 g1 g2 g3 g4 b0 b1 b2 b3 b4 k0 k1 k2 k3 k4
        go_wp2_with fail
        refine (sign_list q head3 bd _ _ hSG.red).mono ?_
        rintro e wH ⟨rfl, hrH, hH⟩
        have hSH := hSG.aside hH hrH
        clear hrH hH hSG
        cases h3 : head3.isPrefixOf q
        · rw [h3] at hSH
          simp only [Bool.false_eq_true, if_false] at hSH
          have hR := Lib.hid (rdq_no3 (v := v) HB.out H2.out HG.out h3)
          clear h3
          obtain ⟨⟨x0, x1, f0, f1⟩, ⟨e0, e1, e2, e3, e4, g0, g1, g2, g3, g4⟩, ⟨b0, b1, b2, b3, b4, k0, k1, k2, k3, k4⟩⟩ := hSH.facts
          go_upto_region 16 with fail
          have hSI := ((hSH.setR 1 (.bool true) rfl).setE 4 (.string ⟨q.toArray⟩) rfl).setR 0 (.string ⟨#[]⟩) rfl
          generalize World.setCell (World.setCell (World.setCell _ _ _) _ _) _ _ = WI at hSI ⊢
          clear hSH
          clear x0 x1 f0 f1 e0 e1 e2 e3 e4 g0 g1 g2 g3 g4 b0 b1 b2 b3 b4 k0 k1 k2 k3 k4
          obtain ⟨⟨x0, x1, f0, f1⟩, ⟨e0, e1, e2, e3, e4, g0, g1, g2, g3, g4⟩, ⟨b0, b1, b2, b3, b4, k0, k1, k2, k3, k4⟩⟩ := hSI.facts
          go_wp2_with fail
          have z := set5_heap (.string ⟨#[]⟩) (.string ⟨#[]⟩) (.bool false) (.string ⟨#[]⟩) (.string ⟨#[]⟩) hSI.res
          have hb9 := hSI.bel.trans (set5_below _ w.heap.size (.string ⟨#[]⟩) (.string ⟨#[]⟩) (.bool false) (.string ⟨#[]⟩) (.string ⟨#[]⟩) (Nat.le_refl w.heap.size))
          generalize World.setCell (World.setCell (World.setCell (World.setCell (World.setCell _ _ _) _ _) _ _) _ _) _ _ = W9 at z hb9 ⊢
          obtain ⟨y0, y1, y2, y3, y4, _, _, _, _, _⟩ := five_of z
          exact bodyPost_ret (v := .tuple #[zeroE, .bool false]) (by simp [results, Tryz.results48, go_sem, zeroE, y0, y1, y2, y3, y4]) rfl ⟨by show _ = Ending.returned (rdV (rdq h v)); rw [hR.out]; rfl, hb9⟩
        · rw [h3] at hSH
          simp only [if_true] at hSH
          rw [show head3.length = 16 from rfl] at hSH
          have H3 := Lib.hid h3
          clear h3
          obtain ⟨⟨x0, x1, f0, f1⟩, ⟨e0, e1, e2, e3, e4, g0, g1, g2, g3, g4⟩, ⟨b0, b1, b2, b3, b4, k0, k1, k2, k3, k4⟩⟩ := hSH.facts
          go_upto_region 16 with fail
          have hSI := (hSH.setE 4 (.string ⟨(q.drop 16).toArray⟩) rfl).setR 0 (.string ⟨#[]⟩) rfl
          generalize World.setCell (World.setCell _ _ _) _ _ = WI at hSI ⊢
          clear hSH
          clear x0 x1 f0 f1 e0 e1 e2 e3 e4 g0 g1 g2 g3 g4 b0 b1 b2 b3 b4 k0 k1 k2 k3 k4
          obtain ⟨⟨x0, x1, f0, f1⟩, ⟨e0, e1, e2, e3, e4, g0, g1, g2, g3, g4⟩, ⟨b0, b1, b2, b3, b4, k0, k1, k2, k3, k4⟩⟩ := hSI.facts
          cases bd
          · have hqq : q1 = false ∧ q2 = false := by
              have := HD.out
              cases q1 <;> cases q2 <;> simp_all
            obtain ⟨rfl, rfl⟩ := hqq
            have hl16 : (q.drop 16).length ≤ 9000000 := by rw [List.length_drop]; omega
            have hc13 := contains_byte (q.drop 16) 13
            have hc10 := contains_byte (q.drop 16) 10
            go_wp2_with fail
            refine (Tryz.strings_Contains_shaped ⟨(q.drop 16).toArray⟩ ⟨#[13]⟩ _ (hSI.tab hT).shape (by rw [size_mk]; omega)).mono ?_
            rintro e w' ⟨rfl, hw⟩
            rw [hw, show Lib.contains (ByteArray.mk (q.drop 16).toArray).data.toList (ByteArray.mk #[13]).data.toList = (q.drop 16).contains 13 from hc13]
            clear hw hc13
            cases h13 : (q.drop 16).contains 13
            · have H13 := Lib.hid h13
              clear h13
              go_wp2_with fail
              refine (Tryz.strings_Contains_shaped ⟨(q.drop 16).toArray⟩ ⟨#[10]⟩ _ (hSI.tab hT).shape (by rw [size_mk]; omega)).mono ?_
              rintro e w' ⟨rfl, hw⟩
              rw [hw, show Lib.contains (ByteArray.mk (q.drop 16).toArray).data.toList (ByteArray.mk #[10]).data.toList = (q.drop 16).contains 10 from hc10]
              clear hw hc10
              cases h10 : (q.drop 16).contains 10
              · have hR := Lib.hid (rdq_file (v := v) H1.out HQ.out HA.out HB.out H2.out HP.out HF.out HG.out H3.out (by have := H13.out; simpa using this) (by simpa using h10))
                clear h10
                go_wp2_with fail
                have z := set5_heap (.string ⟨(unn a).toArray⟩) (.string ⟨v.toArray⟩) (.bool true) (.string ⟨(unn f).toArray⟩) (.string ⟨(q.drop 16).toArray⟩) hSI.res
                have hb9 := hSI.bel.trans (set5_below _ w.heap.size (.string ⟨(unn a).toArray⟩) (.string ⟨v.toArray⟩) (.bool true) (.string ⟨(unn f).toArray⟩) (.string ⟨(q.drop 16).toArray⟩) (Nat.le_refl w.heap.size))
                generalize World.setCell (World.setCell (World.setCell (World.setCell (World.setCell _ _ _) _ _) _ _) _ _) _ _ = W9 at z hb9 ⊢
                obtain ⟨y0, y1, y2, y3, y4, _, _, _, _, _⟩ := five_of z
                exact bodyPost_ret (v := .tuple #[.agg #[(.string ⟨(unn a).toArray⟩), (.string ⟨v.toArray⟩), (.bool true), (.string ⟨(unn f).toArray⟩), (.string ⟨(q.drop 16).toArray⟩)], .bool true]) (by simp [results, Tryz.results48, go_sem, y0, y1, y2, y3, y4]) rfl ⟨by show _ = Ending.returned (rdV (rdq h v)); rw [hR.out]; rfl, hb9⟩
              · have hR := Lib.hid (rdq_brk (v := v) HB.out H2.out HG.out (.inr (by simpa using h10)))
                clear h10
                go_wp2_with fail
                have z := set5_heap (.string ⟨#[]⟩) (.string ⟨#[]⟩) (.bool false) (.string ⟨#[]⟩) (.string ⟨#[]⟩) hSI.res
                have hb9 := hSI.bel.trans (set5_below _ w.heap.size (.string ⟨#[]⟩) (.string ⟨#[]⟩) (.bool false) (.string ⟨#[]⟩) (.string ⟨#[]⟩) (Nat.le_refl w.heap.size))
                generalize World.setCell (World.setCell (World.setCell (World.setCell (World.setCell _ _ _) _ _) _ _) _ _) _ _ = W9 at z hb9 ⊢
                obtain ⟨y0, y1, y2, y3, y4, _, _, _, _, _⟩ := five_of z
                exact bodyPost_ret (v := .tuple #[zeroE, .bool false]) (by simp [results, Tryz.results48, go_sem, zeroE, y0, y1, y2, y3, y4]) rfl ⟨by show _ = Ending.returned (rdV (rdq h v)); rw [hR.out]; rfl, hb9⟩
            · have hR := Lib.hid (rdq_brk (v := v) HB.out H2.out HG.out (.inl (by simpa using h13)))
              clear h13 hc10
              go_wp2_with fail
              have z := set5_heap (.string ⟨#[]⟩) (.string ⟨#[]⟩) (.bool false) (.string ⟨#[]⟩) (.string ⟨#[]⟩) hSI.res
              have hb9 := hSI.bel.trans (set5_below _ w.heap.size (.string ⟨#[]⟩) (.string ⟨#[]⟩) (.bool false) (.string ⟨#[]⟩) (.string ⟨#[]⟩) (Nat.le_refl w.heap.size))
              generalize World.setCell (World.setCell (World.setCell (World.setCell (World.setCell _ _ _) _ _) _ _) _ _) _ _ = W9 at z hb9 ⊢
              obtain ⟨y0, y1, y2, y3, y4, _, _, _, _, _⟩ := five_of z
              exact bodyPost_ret (v := .tuple #[zeroE, .bool false]) (by simp [results, Tryz.results48, go_sem, zeroE, y0, y1, y2, y3, y4]) rfl ⟨by show _ = Ending.returned (rdV (rdq h v)); rw [hR.out]; rfl, hb9⟩
          · have hR := Lib.hid (show rdq h v = none by
              have := HD.out
              cases q1
              · cases q2
                · cases this
                · exact rdq_bad2 HB.out H2.out HP.out
              · exact rdq_bad1 HQ.out)
            go_wp2_with fail
            have z := set5_heap (.string ⟨#[]⟩) (.string ⟨#[]⟩) (.bool false) (.string ⟨#[]⟩) (.string ⟨#[]⟩) hSI.res
            have hb9 := hSI.bel.trans (set5_below _ w.heap.size (.string ⟨#[]⟩) (.string ⟨#[]⟩) (.bool false) (.string ⟨#[]⟩) (.string ⟨#[]⟩) (Nat.le_refl w.heap.size))
            generalize World.setCell (World.setCell (World.setCell (World.setCell (World.setCell _ _ _) _ _) _ _) _ _) _ _ = W9 at z hb9 ⊢
            obtain ⟨y0, y1, y2, y3, y4, _, _, _, _, _⟩ := five_of z
            exact bodyPost_ret (v := .tuple #[zeroE, .bool false]) (by simp [results, Tryz.results48, go_sem, zeroE, y0, y1, y2, y3, y4]) rfl ⟨by show _ = Ending.returned (rdV (rdq h v)); rw [hR.out]; rfl, hb9⟩
end Go.Proofs.YtafbghlldlconaaGreatDoor

/-
  The entries of parts: strings.Split at any text; parts.Decode: the walks.
-/
namespace Go.Proofs.YtafbghlldlconaaGreatDoor
set_option linter.unusedVariables false
set_option linter.unusedSimpArgs false
open Go.RowKit PT

theorem split_len (sub : List UInt8) (hs : sub ≠ []) : ∀ (n : Nat) (l : List UInt8), l.length ≤ n → (Lib.split l sub).length ≤ l.length + 1 := by
  have hp := List.length_pos_iff.2 hs
  intro n
  induction n using Nat.strongRecOn with
  | ind n ih =>
  intro l hl
  rcases idx_cases l sub hs with ⟨h, _⟩ | ⟨p, r, e, h, _⟩
  · rw [split_miss _ _ h]; simp
  · rw [split_hit _ _ hs _ h, List.length_cons]
    have e2 : l.drop (p.length + sub.length) = r := by rw [e, ← List.append_assoc, ← List.length_append, List.drop_left]
    have hlen : l.length = p.length + (sub.length + r.length) := by rw [e]; simp
    have := ih r.length (by omega) r (Nat.le_refl _)
    rw [e2]
    omega
theorem split_parts (sub : List UInt8) (hs : sub ≠ []) : ∀ (n : Nat) (l : List UInt8), l.length ≤ n → ∀ x ∈ Lib.split l sub, x.length ≤ l.length := by
  have hp := List.length_pos_iff.2 hs
  intro n
  induction n using Nat.strongRecOn with
  | ind n ih =>
  intro l hl x hx
  rcases idx_cases l sub hs with ⟨h, _⟩ | ⟨p, r, e, h, _⟩
  · rw [split_miss _ _ h, List.mem_singleton] at hx
    rw [hx]; exact Nat.le_refl _
  · have e2 : l.drop (p.length + sub.length) = r := by rw [e, ← List.append_assoc, ← List.length_append, List.drop_left]
    have hlen : l.length = p.length + (sub.length + r.length) := by rw [e]; simp
    rw [split_hit _ _ hs _ h, e2] at hx
    rcases List.mem_cons.1 hx with rfl | hx
    · rw [List.length_take]; omega
    · have := ih r.length (by omega) r (Nat.le_refl _) x hx
      omega
theorem splitL_any (s t : ByteArray) (hs : s.size < 4294967281) (ht : 1 ≤ t.size) (w : World) (hS : w.ShapedOpen Tryz.prog) :
    Calls Tryz.prog 41 #[.string s, .string t] w fun e w' => (∃ v', e = .returned v' ∧ OT w.heap.size (Lib.split s.data.toList t.data.toList) v' w') ∧ Below w.heap.size w w' := by
  refine (Tryz.strings_Split_shaped s t w hS hs ht).mono fun e w' ⟨he, hw⟩ => ?_
  have hlen := Lib.splitB_all t ht 0 _ s rfl
  have hdat := Lib.splitB_data t 0 (Lib.countB s t) s
  rw [show Lib.splitK t.data.toList 0 (Lib.countB s t) s.data.toList = Lib.split s.data.toList t.data.toList from rfl] at hdat
  generalize Lib.splitB t 0 (Lib.countB s t) s = B at *
  have hcells : B.map Value.string = (Lib.split s.data.toList t.data.toList).map txt := by
    rw [← hdat, List.map_map]
    exact List.map_congr_left fun x _ => rfl
  have hl2 : (Lib.split s.data.toList t.data.toList).length = Lib.countB s t + 1 := by rw [← hdat, List.length_map, hlen]
  have htn : t.data.toList ≠ [] := by
    intro e
    have := congrArg List.length e
    rw [size_list, List.length_nil] at this
    omega
  have hle := split_len t.data.toList htn _ s.data.toList (Nat.le_refl _)
  rw [size_list] at hle
  subst hw
  rw [hcells]
  rw [← hl2] at he
  have hsz : (Lib.split s.data.toList t.data.toList).length ≤ 4294967291 := by omega
  clear hl2 hlen hdat hcells
  generalize Lib.split s.data.toList t.data.toList = X at *
  refine ⟨⟨_, he, ?_⟩, (Below.refl _ w).alloc (Nat.le_refl _) _⟩
  refine ⟨by simp, .inr ⟨w.heap.size, X.length, (X.map txt).toArray, by rw [List.length_map], Nat.le_refl _, Go.heap_alloc_new w _, by simp, by unfold maxLen; omega, by simp, ?_⟩⟩
  exact List.take_of_length_le (by simp)
/-- what is returned: the entries and 0, or nothing and 1 -/
def DecO (o : Option (List P5)) (e : Ending) (w : World) : Prop := ∃ v', e = .returned (.tuple #[v', .int .i64 (if o.isSome then 0 else 1)]) ∧ Ents ((o.getD []).map entOf) v' w
theorem DecO.no {o : Option (List P5)} {w : World} (h : o = none) : DecO o (.returned (.tuple #[.slice none 0 0, .int .i64 1])) w := by
  subst h
  exact ⟨_, rfl, .inl ⟨rfl, none, 0, rfl, fun _ => rfl⟩⟩
theorem DecO.yes {o : Option (List P5)} {w : World} {xs : List P5} {v : Value} (h : o = some xs) (hv : Ents (xs.map entOf) v w) : DecO o (.returned (.tuple #[v, .int .i64 0])) w := by
  subst h
  exact ⟨_, rfl, hv⟩
theorem suf_iff {l q : List UInt8} : Lib.hasSuffix l q = true ↔ ∃ p, l = p ++ q := by
  unfold Lib.hasSuffix
  rw [List.isSuffixOf_iff_suffix]
  exact ⟨fun ⟨p, h⟩ => ⟨p, h.symm⟩, fun ⟨p, h⟩ => ⟨p, h.symm⟩⟩
theorem decP_step (b : List UInt8) (X : List (List UInt8)) (acc : List P5) (k : Nat) (hk : k < X.length) (x : P5) (h1 : rd X[k] = some x) (h2 : Lib.contains X[k] (sep b) = false) (h : decPP b X = (decPP b (X.drop k)).map (acc ++ ·)) :
    decPP b X = (decPP b (X.drop (k + 1))).map ((acc ++ [x]) ++ ·) := by
  rw [h, List.drop_eq_getElem_cons hk, decPP, h1]
  simp only [h2, Bool.false_eq_true, if_false]
  rw [Option.map_map]
  congr 1
  funext y
  simp
theorem decP_stop1 (b : List UInt8) (X : List (List UInt8)) (acc : List P5) (k : Nat) (hk : k < X.length) (h1 : rd X[k] = none) (h : decPP b X = (decPP b (X.drop k)).map (acc ++ ·)) : decPP b X = none := by
  rw [h, List.drop_eq_getElem_cons hk, decPP, h1]; rfl
theorem decP_stop2 (b : List UInt8) (X : List (List UInt8)) (acc : List P5) (k : Nat) (hk : k < X.length) (h2 : Lib.contains X[k] (sep b) = true) (h : decPP b X = (decPP b (X.drop k)).map (acc ++ ·)) : decPP b X = none := by
  rw [h, List.drop_eq_getElem_cons hk, decP_has b _ _ h2]; rfl
set_option maxHeartbeats 4000000 in
set_option maxRecDepth 100000 in
theorem decode20_any (s b : ByteArray) (hs : s.size ≤ 5000000) (w : World) (hT : Tables w) :
    Calls Tryz.prog 13 #[.string s, .string b] w fun e w' => DecO (decE s.data.toList b.data.toList) e w' ∧ Below w.heap.size w w' := by
  go_enter Tryz.func13, Tryz.ntmps13
  go_wp2_with fail
  refine (partsFit_any b _).mono ?_
  rintro e w' ⟨rfl, rfl⟩
  cases hf : fitB b.data.toList
  · have hR := Lib.hid (show decE s.data.toList b.data.toList = none by unfold decE; rw [hf]; rfl)
    clear hf
    go_wp2_with fail
    go_ret2
    exact ⟨DecO.no hR.out, Below.refl _ _⟩
  · obtain ⟨n13, n10, nb⟩ := fitB_13 hf
    have HF := Lib.hid hf
    clear hf
    have hbz := fit_size b HF.out
    obtain ⟨hbz1, hbz2⟩ := hbz
    have hd1 : (ByteArray.mk #[45, 45] ++ b ++ ByteArray.mk #[45, 45] ++ ByteArray.mk #[13, 10]).data.toList = dash ++ b.data.toList ++ dash ++ crlf := by simp [dash, crlf]
    have hd2 : (ByteArray.mk #[45, 45] ++ b ++ ByteArray.mk #[13, 10]).data.toList = dash ++ b.data.toList ++ crlf := by simp [dash, crlf]
    have hd3 : (ByteArray.mk #[13, 10, 45, 45] ++ b ++ ByteArray.mk #[45, 45] ++ ByteArray.mk #[13, 10]).data.toList = last b.data.toList := by simp [last, sep, dash, crlf]
    have hd4 : (ByteArray.mk #[13, 10, 45, 45] ++ b ++ ByteArray.mk #[13, 10]).data.toList = sep b.data.toList ++ crlf := by simp [sep, dash, crlf]
    have hd5 : (ByteArray.mk #[13, 10, 45, 45] ++ b).data.toList = sep b.data.toList := by simp [sep, dash, crlf]
    have D2 := Lib.hid hd2
    have D3 := Lib.hid hd3
    have D4 := Lib.hid hd4
    have D5 := Lib.hid hd5
    clear hd2 hd3 hd4 hd5
    have N := Lib.hid (And.intro n13 nb)
    clear n13 n10 nb
    by_cases heq : s.data.toList = dash ++ b.data.toList ++ dash ++ crlf
    · have hR := Lib.hid (show decE s.data.toList b.data.toList = some [] by unfold decE; rw [if_pos HF.out, if_pos heq])
      have hq : (s.toList == (ByteArray.mk #[45, 45] ++ b ++ ByteArray.mk #[45, 45] ++ ByteArray.mk #[13, 10]).toList) = true := by
        rw [ByteArray.toList_eq, ByteArray.toList_eq, hd1, heq]; exact beq_self_eq_true _
      clear heq hd1
      go_wp2_with fail
      go_ret2
      exact ⟨DecO.yes hR.out (.inl ⟨rfl, none, 0, rfl, fun _ => rfl⟩), Below.refl _ _⟩
    · have hq : (s.toList == (ByteArray.mk #[45, 45] ++ b ++ ByteArray.mk #[45, 45] ++ ByteArray.mk #[13, 10]).toList) = false := by
        rw [ByteArray.toList_eq, ByteArray.toList_eq, hd1]; exact beq_eq_false_iff_ne.2 heq
      have hE0 := Lib.hid (show decE s.data.toList b.data.toList = if (dash ++ b.data.toList ++ crlf).isPrefixOf s.data.toList then dec2 b.data.toList (s.data.toList.drop (dash ++ b.data.toList ++ crlf).length) else none by
        unfold decE; rw [if_pos HF.out, if_neg heq])
      clear heq hd1
      go_wp2_with fail
      refine (Tryz.strings_CutPrefix _ _ _).mono ?_
      rintro e w1 ⟨rfl, hw⟩
      rw [hw, D2.out]
      clear hw
      cases hp : (dash ++ b.data.toList ++ crlf).isPrefixOf s.data.toList
      · have h1 : Lib.hasPrefix s.data.toList (dash ++ b.data.toList ++ crlf) = false := hp
        have h2 : Lib.trimPrefix s.data.toList (dash ++ b.data.toList ++ crlf) = s.data.toList := by unfold Lib.trimPrefix; rw [h1]; rfl
        have hR := Lib.hid (show decE s.data.toList b.data.toList = none by rw [hE0.out, hp]; rfl)
        rw [h1, h2]
        clear h1 h2 hp
        go_wp2_with fail
        refine (Tryz.strings_CutSuffix _ _ _ (by rw [size_mk, size_list]; omega)).mono ?_
        rintro e w1 ⟨rfl, hw⟩
        rw [hw]
        clear hw
        generalize Lib.hasSuffix _ _ = good
        generalize Lib.trimSuffix _ _ = tr
        go_wp2_with fail
        go_ret2
        exact ⟨DecO.no hR.out, Below.refl _ _⟩
      · have h1 : Lib.hasPrefix s.data.toList (dash ++ b.data.toList ++ crlf) = true := hp
        have h2 : Lib.trimPrefix s.data.toList (dash ++ b.data.toList ++ crlf) = s.data.toList.drop (dash ++ b.data.toList ++ crlf).length := by unfold Lib.trimPrefix; rw [h1]; rfl
        have hE1 := Lib.hid (show decE s.data.toList b.data.toList = dec2 b.data.toList (s.data.toList.drop (dash ++ b.data.toList ++ crlf).length) by rw [hE0.out, hp]; rfl)
        rw [h1, h2]
        have hll : (s.data.toList.drop (dash ++ b.data.toList ++ crlf).length).length ≤ s.size := by rw [List.length_drop, size_list]; omega
        clear h1 h2 hp
        generalize s.data.toList.drop (dash ++ b.data.toList ++ crlf).length = l at hE1 hll ⊢
        go_wp2_with fail
        refine (Tryz.strings_CutSuffix _ _ _ (by rw [size_mk]; omega)).mono ?_
        rintro e w1 ⟨rfl, hw⟩
        rw [hw, D3.out, show (ByteArray.mk l.toArray).data.toList = l from rfl]
        clear hw
        cases hsf : Lib.hasSuffix l (last b.data.toList)
        · have hR := Lib.hid (show decE s.data.toList b.data.toList = none by
            rw [hE1.out]
            refine dec2_no b.data.toList _ l (Nat.le_refl _) (fun h => ?_)
            rw [suf_iff.2 h] at hsf; cases hsf)
          clear hsf
          generalize Lib.trimSuffix _ _ = tr
          go_wp2_with fail
          go_ret2
          exact ⟨DecO.no hR.out, Below.refl _ _⟩
        · obtain ⟨q, hql⟩ := suf_iff.1 hsf
          have htr : Lib.trimSuffix l (last b.data.toList) = q := by
            unfold Lib.trimSuffix
            rw [hsf, if_pos rfl, hql, List.length_append, Nat.add_sub_cancel, List.take_left]
          have hE2 := Lib.hid (show decE s.data.toList b.data.toList = decPP b.data.toList (Lib.split q (sep b.data.toList ++ crlf)) by
            rw [hE1.out, hql]; exact dec2_suf b.data.toList N.out.1 N.out.2 _ q (Nat.le_refl _))
          rw [htr]
          have hqs : q.length ≤ s.size := by
            have := congrArg List.length hql
            rw [List.length_append] at this
            omega
          have hXl := split_len (sep b.data.toList ++ crlf) (by simp [sep_cons]) _ q (Nat.le_refl _)
          clear htr hsf hql
          go_wp2_with fail
          refine (splitL_any ⟨q.toArray⟩ (ByteArray.mk #[13, 10, 45, 45] ++ b ++ ByteArray.mk #[13, 10]) (by rw [size_mk]; omega) (by rw [← size_list, D4.out]; simp [sep_cons]) _ hT.shape).mono ?_
          rintro e w2 ⟨⟨v2, rfl, hO2⟩, hb2⟩
          rw [D4.out, show (ByteArray.mk q.toArray).data.toList = q from rfl] at hO2
          have hV := hO2.txts
          have hXb : ∀ x ∈ Lib.split q (sep b.data.toList ++ crlf), x.length ≤ q.length := split_parts _ (by simp [sep_cons]) _ q (Nat.le_refl _)
          have hT2 := hT.kept hb2
          generalize Lib.split q (sep b.data.toList ++ crlf) = X at *
          obtain ⟨a, cap, rfl⟩ := hV.len
          have hXl' : (X.length : Int) ≤ 5000002 := by omega
          clear hO2
          go_wp2_with fail
          go_loopw [52, 9] (fun i v wr => ∃ (k : Nat) (acc : List P5), k ≤ X.length ∧ i = .int .i64 k ∧ acc.length = k ∧ OE w2.heap.size (acc.map entOf) v wr ∧ Hid (decPP b.data.toList X = (decPP b.data.toList (X.drop k)).map (acc ++ ·)) ∧ Below w2.heap.size w2 wr) (fun i _ _ => X.length - (intOf i).toNat)
          case atStart => exact ⟨0, [], Nat.zero_le _, rfl, rfl, OE.nil _ _, Lib.hid (by simp), Below.refl _ _⟩
          case round =>
            obtain ⟨k, acc, hk, rfl, hal, hown, hH, hbel⟩ := hrel
            have hsz := hbel.size
            by_cases hlt : k < X.length
            · obtain ⟨bb, o, cap', hv, hbb, hc⟩ := (hV.kept hbel).at hlt
              cases hv
              have hxl := hXb X[k] (List.getElem_mem hlt)
              have S0 := Lib.hid (decP_stop1 b.data.toList X acc k hlt)
              have S1 := Lib.hid (decP_stop2 b.data.toList X acc k hlt)
              have S2 := Lib.hid (decP_step b.data.toList X acc k hlt)
              generalize X[k] = y at *
              unfold txt at hc
              have hTr := hT2.kept hbel
              go_wp2_with fail
              refine (read_any ⟨y.toArray⟩ (by rw [size_mk]; omega) _ hTr).mono ?_
              rintro e w3 ⟨rfl, hb3⟩
              rw [show (ByteArray.mk y.toArray).data.toList = y from rfl]
              have hown3 := hown.kept hb3
              have hbel3 := hbel.trans (hb3.mono hsz)
              have hbel3s := hbel3.size
              cases hr : rd y with
              | none =>
                have hR := Lib.hid (hE2.out.trans (S0.out hr hH.out))
                clear hr
                simp only [rdV, zeroE]
                go_wp2_with fail
                go_ret2
                exact ⟨DecO.no hR.out, hb2.trans ((hbel3.trans ((Below.refl w3.heap.size w3).alloc (Nat.le_refl _) _ |>.mono hbel3s)).mono hb2.size)⟩
              | some x =>
                have Hr := Lib.hid hr
                clear hr
                simp only [rdV, entV, entOf]
                have hb4 := hbel3.trans (((Below.refl w3.heap.size w3).alloc (Nat.le_refl _) (.cells #[.string ⟨x.n.toArray⟩, .string ⟨x.v.toArray⟩, .bool x.f, .string ⟨x.fn.toArray⟩, .string ⟨x.t.toArray⟩] 73)).mono hbel3s)
                have hown4 := hown3.alloc (.cells #[.string ⟨x.n.toArray⟩, .string ⟨x.v.toArray⟩, .bool x.f, .string ⟨x.fn.toArray⟩, .string ⟨x.t.toArray⟩] 73)
                have hT4 := hT2.kept hb4
                have hn4 := Go.heap_alloc_new w3 (.cells #[.string ⟨x.n.toArray⟩, .string ⟨x.v.toArray⟩, .bool x.f, .string ⟨x.fn.toArray⟩, .string ⟨x.t.toArray⟩] 73)
                go_upto_region 14 with fail
                generalize World.alloc _ _ = w4 at hb4 hown4 hT4 hn4 ⊢
                have hb4s := hb4.size
                obtain ⟨x0, x1, x2, x3, x4, f0, f1, f2, f3, f4⟩ := five_of hn4
                go_wp2_with fail
                refine (Tryz.strings_Contains_shaped ⟨y.toArray⟩ (ByteArray.mk #[13, 10, 45, 45] ++ b) _ hT4.shape (by rw [size_mk]; omega)).mono ?_
                rintro e w' ⟨rfl, hw⟩
                rw [hw, D5.out, show (ByteArray.mk y.toArray).data.toList = y from rfl]
                clear hw
                cases hk2 : Lib.contains y (sep b.data.toList)
                · have hN := Lib.hid (S2.out x Hr.out hk2 hH.out)
                  clear hk2
                  have hal' : (acc.map entOf).length < 1000000000 := by rw [List.length_map]; omega
                  go_wp2_with (at_builtin; refine wpList_append_ent rfl _ _ rfl rfl rfl ⟨⟨x.n.toArray⟩, ⟨x.v.toArray⟩, x.f, ⟨x.fn.toArray⟩, ⟨x.t.toArray⟩⟩ hown4 hal' hb4s ?_; intro v' w5 hown5 hb5)
                  go_roundw
                  case rel => exact ⟨k + 1, acc ++ [x], by omega, by go_num, by simp; omega, by rw [List.map_append]; exact hown5, hN, hb4.trans hb5⟩
                  case measure => simp [intOf]; omega
                · have hR := Lib.hid (hE2.out.trans (S1.out hk2 hH.out))
                  clear hk2
                  go_wp2_with fail
                  go_ret2
                  exact ⟨DecO.no hR.out, hb2.trans (hb4.mono hb2.size)⟩
            · obtain rfl : k = X.length := by omega
              have hR := Lib.hid (show decE s.data.toList b.data.toList = some acc by
                rw [hE2.out, hH.out, List.drop_eq_nil_of_le (Nat.le_refl _)]
                simp [decPP])
              go_wp2_with fail
              go_ret2
              exact ⟨DecO.yes hR.out hown.ents, hb2.trans (hbel.mono hb2.size)⟩
end Go.Proofs.YtafbghlldlconaaGreatDoor

/-
  A part read by the document: ref20.begins, quoted, read: the walks.
-/
namespace Go.Proofs.YtafbghlldlconaaGreatDoor
set_option linter.unusedVariables false
set_option linter.unusedSimpArgs false
open Go.RowKit PT

end Go.Proofs.YtafbghlldlconaaGreatDoor

/-
  A part read by the document: ref20.read: the walk.
-/
namespace Go.Proofs.YtafbghlldlconaaGreatDoor
set_option linter.unusedVariables false
set_option linter.unusedSimpArgs false
open Go.RowKit PT

end Go.Proofs.YtafbghlldlconaaGreatDoor

/-
  A part read by the document: ref20.read: the walk, whole.
-/
namespace Go.Proofs.YtafbghlldlconaaGreatDoor
set_option linter.unusedVariables false
set_option linter.unusedSimpArgs false
open Go.RowKit PT

end Go.Proofs.YtafbghlldlconaaGreatDoor
