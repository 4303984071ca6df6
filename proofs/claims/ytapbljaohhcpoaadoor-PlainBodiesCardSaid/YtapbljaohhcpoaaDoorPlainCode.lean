/-
  plain.Encode, ref21.Encode: the walks.
-/
import Derived.Test.YtapbljaohhcpoaaDoorUrlCode
import Derived.Test.YtapbljaohhcpoaaDoorBuilder
namespace Go.Proofs.YtapbljaohhcpoaaDoor
set_option linter.unusedVariables false
set_option linter.unusedSimpArgs false
open Go.RowKit PT
open Go.Lib (OthersKept)

/-- an entry's line -/
def line (x : Ent) : List UInt8 := telN x ++ 61 :: telV x
def lines21 (es : List Ent) : List UInt8 := es.flatMap fun x => line x ++ [13, 10]
theorem lines21_step (es : List Ent) (k : Nat) (hk : k < es.length) : lines21 (es.take (k + 1)) = lines21 (es.take k) ++ (line es[k] ++ [13, 10]) := by
  unfold lines21
  rw [List.take_succ_eq_append_getElem hk, List.flatMap_append]
  simp
theorem line_len (x : Ent) (h : Short x) : (line x).length ≤ 12001 := by
  have h1 := telN_len x h
  have h2 := telV_len x h
  unfold line
  rw [List.length_append, List.length_cons]
  omega
theorem lines21_len (es : List Ent) (hS : ∀ x ∈ es, Short x) : (lines21 es).length ≤ es.length * 12003 := by
  induction es with
  | nil => simp [lines21]
  | cons x r ih =>
    have h1 := line_len x (hS x (by simp))
    have h2 := ih (fun y hy => hS y (by simp [hy]))
    unfold lines21 at h2 ⊢
    rw [List.flatMap_cons, List.length_append, List.length_append, List.length_cons, List.length_cons, List.length_nil, List.length_cons, Nat.add_mul]
    omega
theorem OE.others {base b : Nat} {es : List Ent} {v : Value} {w w' : World} (h : OE base es v w) (hk : OthersKept 5 (some b) w w') (hb : b < base) : OE base es v w' := by
  obtain ⟨h1, ⟨rfl, hn⟩ | ⟨g, cap, cur, rfl, h2, h3, h4⟩⟩ := h
  · exact ⟨h1, .inl ⟨rfl, hn⟩⟩
  · exact ⟨h1, .inr ⟨g, cap, cur, rfl, h2, hk g _ h3 (by simp; omega) (fun c fz e => by cases e), h4⟩⟩
theorem line_cat (a b : List UInt8) : ByteArray.mk a.toArray ++ ByteArray.mk #[61] ++ ByteArray.mk b.toArray ++ ByteArray.mk #[13, 10] = ByteArray.mk (a ++ 61 :: b ++ [13, 10]).toArray := by
  rw [show ByteArray.mk #[61] = ByteArray.mk [61].toArray from rfl, show ByteArray.mk #[13, 10] = ByteArray.mk [13, 10].toArray from rfl, mk_append, mk_append, mk_append]
  simp

set_option maxHeartbeats 1000000 in
set_option maxRecDepth 100000 in
theorem plainEncode_any (es : List Ent) (v : Value) (w : World) (hE : Ents es v w) (hT : Tables w) (hl : es.length ≤ 1000) (hS : ∀ x ∈ es, Short x) :
    Calls Tryd.prog 44 #[v] w fun e w' => e = .returned (.string ⟨(lines21 es).toArray⟩) ∧ Below w.heap.size w w' := by
  have hb0 := (Below.refl w.heap.size w).alloc (Nat.le_refl _) (.cells #[.pointer none, .slice none 0 0] 60)
  have hB0 := SB.fresh w
  have hs0 : (w.alloc (.cells #[.pointer none, .slice none 0 0] 60)).heap.size = w.heap.size + 1 := by simp
  have hE0 := hE.kept hb0
  have hT0 := hT.kept hb0
  have Hs0 := Lib.hid hs0
  clear hs0
  go_enter Tryd.func44, Tryd.ntmps44
  go_wp2_with fail
  refine (plain_any es v _ hE0 hT0 hl hS).mono ?_
  rintro e w1 ⟨⟨v1, rfl, hP⟩, hb1⟩
  have hb01 := hb0.trans (hb1.mono (by rw [Hs0.out]; omega))
  have hs1 := hb01.size
  have hB1 : SB w.heap.size w.heap.size [] w1 := hB0.kept hb1
  have hml : (es.map tel).length = es.length := List.length_map _
  obtain ⟨a, cap, hv1⟩ := hP.ents.len
  rw [hml] at hv1
  subst hv1
  clear hB0 hE0 hT0 hE hb0
  go_wp2_with fail
  go_loopw [9] (fun i wr => ∃ k : Nat, k ≤ es.length ∧ i = .int .i64 k ∧ SB w.heap.size w.heap.size (lines21 (es.take k)) wr ∧ SK w.heap.size w.heap.size w1 wr) (fun i _ => es.length - (intOf i).toNat)
  case atStart => exact ⟨0, Nat.zero_le _, rfl, hB1, SK.refl _ _ _⟩
  case round =>
    obtain ⟨k, hk, rfl, hown, hsk⟩ := hrel
    have hsz := hsk.1.size
    by_cases hlt : k < es.length
    · obtain ⟨b, o, cap', hv, hb, hc0, hc1, hc2, hc3, hc4⟩ := (hP.others hsk.2 (by rw [Hs0.out]; omega)).ents.five (k := k) (by omega)
      rw [hml] at hv
      cases hv
      have hSk := hS es[k] (List.getElem_mem hlt)
      have hLk := Lib.hid (lines21_step es k hlt)
      have hLl := lines21_len (es.take k) (fun x hx => hS x (List.mem_of_mem_take hx))
      have hL2 : (lines21 (es.take k)).length ≤ 50000000 := by
        have : (es.take k).length ≤ 1000 := by rw [List.length_take]; omega
        omega
      rw [List.getElem_map] at hc0 hc1 hc2 hc3 hc4
      generalize es[k] = x at *
      have hn1 := telN_len x hSk
      have hn2 := telV_len x hSk
      have hc0' : wr.cell? ⟨b, o + k * 5, none⟩ = some (.string ⟨(telN x).toArray⟩) := hc0
      have hc1' : wr.cell? ⟨b, o + k * 5 + 1, none⟩ = some (.string ⟨(telV x).toArray⟩) := hc1
      have hc2' : wr.cell? ⟨b, o + k * 5 + 2, none⟩ = some (.bool false) := hc2
      have hc3' : wr.cell? ⟨b, o + k * 5 + 3, none⟩ = some (.string ⟨#[]⟩) := hc3
      have hc4' : wr.cell? ⟨b, o + k * 5 + 4, none⟩ = some (.string ⟨#[]⟩) := hc4
      clear hc0 hc1 hc2 hc3 hc4
      have hS0 : ∃ S : ByteArray, ByteArray.mk (telN x).toArray ++ ByteArray.mk #[61] ++ ByteArray.mk (telV x).toArray ++ ByteArray.mk #[13, 10] = S ∧ S.size = (telN x).length + (telV x).length + 3 ∧ lines21 (es.take k) ++ S.data.toList = lines21 (es.take (k + 1)) := by
        refine ⟨_, line_cat _ _, ?_, ?_⟩
        · rw [size_mk, List.length_append, List.length_append, List.length_cons, List.length_cons, List.length_cons, List.length_nil]; omega
        · rw [hLk.out]; rfl
      obtain ⟨S, hX, hSz, hl'⟩ := hS0
      have hown' := hown.alloc (.cells #[.string ⟨(telN x).toArray⟩, .string ⟨(telV x).toArray⟩, .bool false, .string ⟨#[]⟩, .string ⟨#[]⟩] 50)
      have hsk' := hsk.alloc (by omega) (.cells #[.string ⟨(telN x).toArray⟩, .string ⟨(telV x).toArray⟩, .bool false, .string ⟨#[]⟩, .string ⟨#[]⟩] 50)
      have hBw := Nat.le_trans hs1 hsk'.1.size
      have hq1 : (lines21 (es.take k)).length + S.size < 70368744177664 := by rw [hSz]; omega
      have hq2 : 1 ≤ S.size := by rw [hSz]; omega
      have HL := Lib.hid hl'
      have HX := Lib.hid hX
      clear hl' hX hSz
      go_wp2_with fail
      rw [HX.out]
      generalize wr.alloc (.cells #[.string ⟨(telN x).toArray⟩, .string ⟨(telV x).toArray⟩, .bool false, .string ⟨#[]⟩, .string ⟨#[]⟩] 50) = W0 at *
      refine (writeString_any _ _ _ S _ hown' hq1 hq2 hBw).mono ?_
      rintro e w2 ⟨rfl, hown2, hsk2⟩
      have hown3 : SB w.heap.size w.heap.size (lines21 (es.take (k + 1))) w2 := by rw [← HL.out]; exact hown2
      clear hown2
      go_wp2_with fail
      go_roundw
      case rel => exact ⟨k + 1, by omega, by go_num, hown3, hsk'.trans hsk2⟩
      case measure => simp [intOf]; omega
    · obtain rfl : k = es.length := by omega
      rw [List.take_of_length_le (Nat.le_refl _)] at hown
      go_wp2_with fail
      refine (string_any _ _ _ _ hown (Nat.le_trans hs1 hsz)).mono ?_
      rintro e w2 ⟨rfl, hown2, hsk2⟩
      go_wp2_with fail
      go_ret
      exact ⟨rfl, hb01.trans (hsk.1.trans hsk2.1)⟩
set_option maxHeartbeats 1000000 in
set_option maxRecDepth 100000 in
theorem refEncode21_any (es : List Ent) (v : Value) (w : World) (hE : Ents es v w) (hl : es.length ≤ 1000) (hS : ∀ x ∈ es, Short x) :
    Calls Tryd.prog 47 #[v] w fun e w' => e = .returned (.string ⟨(lines21 es).toArray⟩) ∧ Below w.heap.size w w' := by
  go_enter Tryd.func47, Tryd.ntmps47
  go_wp2_with fail
  refine (refPlain19_any es v _ hE hl hS).mono ?_
  rintro e w1 ⟨⟨v1, rfl, hP⟩, hb1⟩
  have hP1 := hP.ents
  have hml : (es.map tel).length = es.length := List.length_map _
  obtain ⟨a, cap, hv1⟩ := hP1.len
  rw [hml] at hv1
  subst hv1
  have hb1s := hb1.size
  go_wp2_with fail
  go_loopw [5, 3] (fun i v wr => ∃ k : Nat, k ≤ es.length ∧ i = .int .i64 k ∧ OB w1.heap.size (lines21 (es.take k)) v wr ∧ Below w1.heap.size w1 wr) (fun i _ _ => es.length - (intOf i).toNat)
  case atStart => exact ⟨0, Nat.zero_le _, rfl, OB.nil _ _, Below.refl _ _⟩
  case round =>
    obtain ⟨k, hk, rfl, hown, hbel⟩ := hrel
    have hsz := hbel.size
    by_cases hlt : k < es.length
    · obtain ⟨b, o, cap', hv, hb, hc0, hc1, hc2, hc3, hc4⟩ := hP1.five (k := k) (by omega)
      rw [hml] at hv
      have hSk := hS es[k] (List.getElem_mem hlt)
      have hLk := Lib.hid (lines21_step es k hlt)
      have hLl := lines21_len (es.take k) (fun x hx => hS x (List.mem_of_mem_take hx))
      have hL2 : (lines21 (es.take k)).length ≤ 50000000 := by
        have : (es.take k).length ≤ 1000 := by rw [List.length_take]; omega
        omega
      cases hv
      rw [List.getElem_map] at hc0 hc1
      generalize es[k] = x at *
      have hn1 := telN_len x hSk
      have hn2 := telV_len x hSk
      have Hn : Hid (w1.cell? ⟨b, o + k * 5, none⟩ = some (.string ⟨(telN x).toArray⟩)) := hc0
      have Hv : Hid (w1.cell? ⟨b, o + k * 5 + 1, none⟩ = some (.string ⟨(telV x).toArray⟩)) := hc1
      have hcA := cell_kept hbel hb Hn.out
      clear hc0 hc1 hc2 hc3 hc4 hP1 hE hP
      have hL3 : (lines21 (es.take k)).length + (ByteArray.mk (telN x).toArray).size < 70368744177664 := by rw [size_mk]; omega
      have hL4 : (lines21 (es.take k) ++ (telN x)).length < 70368744177664 := by rw [List.length_append]; omega
      have hL5 : (lines21 (es.take k) ++ (telN x) ++ [61]).length + (ByteArray.mk (telV x).toArray).size < 70368744177664 := by rw [size_mk, List.length_append, List.length_append, List.length_cons, List.length_nil]; omega
      have hL6 : (lines21 (es.take k) ++ (telN x) ++ [61] ++ (telV x)).length < 70368744177664 := by rw [List.length_append, List.length_append, List.length_append, List.length_cons, List.length_nil]; omega
      go_wp2_with (first | (at_builtin; refine wpList_append_text rfl _ _ rfl rfl rfl hown hL3 hsz ?_; intro v4 w4 hown4 hb4; have hs4 := hb4.size) | (at_builtin; refine wpList_append_byte rfl _ _ rfl rfl rfl 61 rfl hown4 hL4 (by omega) ?_; intro v5 w5 hown5 hb5; have hs5 := hb5.size; have hcB := cell_kept ((hbel.trans hb4).trans hb5) hb Hv.out) | (at_builtin; refine wpList_append_text rfl _ _ rfl rfl rfl hown5 hL5 (by omega) ?_; intro v6 w6 hown6 hb6; have hs6 := hb6.size) | (at_builtin; refine wpList_append_two rfl _ _ rfl rfl rfl 13 10 rfl rfl hown6 hL6 (by omega) ?_; intro v7 w7 hown7 hb7))
      go_roundw
      case rel => exact ⟨k + 1, by omega, by go_num, by rw [hLk.out]; unfold line; simp only [List.append_assoc, List.cons_append, List.nil_append] at hown7 ⊢; exact hown7, (((hbel.trans hb4).trans hb5).trans hb6).trans hb7⟩
      case measure => simp [intOf]; omega
    · obtain rfl : k = es.length := by omega
      rw [List.take_of_length_le (Nat.le_refl _)] at hown
      have hcb := hown.conv
      go_wp2_with fail
      go_ret
      exact ⟨rfl, bs hb1 hbel⟩
end Go.Proofs.YtapbljaohhcpoaaDoor
