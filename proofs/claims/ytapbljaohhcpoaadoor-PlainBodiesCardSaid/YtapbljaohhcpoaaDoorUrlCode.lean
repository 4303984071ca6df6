/-
  urlenc.Encode, urlenc.Decode, ref19.Encode, ref19.Decode: the walks.
-/
import Derived.Test.YtapbljaohhcpoaaDoorUrlPlain
import Derived.Test.YtapbljaohhcpoaaDoorTexts
import Derived.Test.YtapbljaohhcpoaaDoorCutOne
import Derived.Test.YtapbljaohhcpoaaDoorForm
import Derived.Test.YtapbljaohhcpoaaDoorPlainUrl
import Derived.StillTactics
namespace Go.Proofs.YtapbljaohhcpoaaDoor
set_option linter.unusedVariables false
set_option linter.unusedSimpArgs false
open Go.RowKit PT

/-- what entries tell, as pairs of texts -/
def told (es : List Ent) : List (List UInt8 × List UInt8) := es.map fun x => (telN x, telV x)
def prt (x : Ent) : List UInt8 := eqP (telN x) (telV x)
theorem encP_told (es : List Ent) : encP (told es) = jn 38 (es.map prt) := by
  unfold encP told
  rw [List.map_map]; rfl
theorem telN_len (x : Ent) (h : Short x) : (telN x).length ≤ 6000 := by
  have := ends_len [13, 10] x.n.data.toList
  have h1 := h.1
  unfold telN
  rw [size_list] at this
  simp only [List.length_cons, List.length_nil] at this
  omega
theorem telV_len (x : Ent) (h : Short x) : (telV x).length ≤ 6000 := by
  have := ends_len [13, 10] (if x.f then x.fn else x.v).data.toList
  have h1 : (if x.f then x.fn else x.v).size ≤ 2000 := by
    split
    · exact h.2.2.1
    · exact h.2.1
  unfold telV
  rw [size_list] at this
  simp only [List.length_cons, List.length_nil] at this
  omega
theorem prt_len (x : Ent) (h : Short x) : (prt x).length ≤ 40000 := by
  have h1 := telN_len x h
  have h2 := telV_len x h
  have h3 := form_len (telN x)
  have h4 := form_len (telV x)
  unfold prt eqP
  rw [List.length_append, List.length_cons]
  omega
theorem jn_prt_len (es : List Ent) (hS : ∀ x ∈ es, Short x) : (jn 38 (es.map prt)).length ≤ es.length * 40001 := by
  have h := jn_len 38 (es.map prt) 40000 (fun y hy => by
    obtain ⟨x, hx, rfl⟩ := List.mem_map.1 hy
    exact prt_len x (hS x hx))
  rwa [List.length_map] at h
theorem eq_cat (a b : List UInt8) : Value.string (ByteArray.mk a.toArray ++ ByteArray.mk #[61] ++ ByteArray.mk b.toArray) = txt (a ++ 61 :: b) := by
  unfold txt
  rw [show ByteArray.mk #[61] = ByteArray.mk [61].toArray from rfl, mk_append, mk_append]
  simp

theorem cell_kept {base b o : Nat} {w w' : World} (hb : Below base w w') (h : b < base) {u : Value} (hc : w.cell? ⟨b, o, none⟩ = some u) : w'.cell? ⟨b, o, none⟩ = some u := by
  rw [← hc]
  simp only [World.cell?, hb.block b h]
set_option maxHeartbeats 1000000 in
set_option maxRecDepth 100000 in
theorem urlEncode_any (es : List Ent) (v : Value) (w : World) (hE : Ents es v w) (hT : Tables w) (hl : es.length ≤ 1000) (hS : ∀ x ∈ es, Short x) :
    Calls Tryd.prog 45 #[v] w fun e w' => e = .returned (.string ⟨(encP (told es)).toArray⟩) ∧ Below w.heap.size w w' := by
  obtain ⟨a, cap, rfl⟩ := hE.len
  go_enter Tryd.func45, Tryd.ntmps45
  go_wp2_with fail
  go_loopw [10, 3] (fun i v wr => ∃ k : Nat, k ≤ es.length ∧ i = .int .i64 k ∧ OT w.heap.size ((es.take k).map prt) v wr ∧ Below w.heap.size w wr) (fun i _ _ => es.length - (intOf i).toNat)
  case atStart => exact ⟨0, Nat.zero_le _, rfl, OT.nil _ _, Below.refl _ _⟩
  case round =>
    obtain ⟨k, hk, rfl, hown, hbel⟩ := hrel
    have hsz := hbel.size
    by_cases hlt : k < es.length
    · obtain ⟨b, o, cap', hv, hb, hc0, hc1, hc2, hc3, hc4⟩ := (hE.kept hbel).five hlt
      have hSk := hS es[k] (List.getElem_mem hlt)
      have hTk := Lib.hid (List.take_succ_eq_append_getElem hlt)
      cases hv
      generalize es[k] = x at *
      have hb0 := (Below.refl wr.heap.size wr).alloc (Nat.le_refl _) (.cells #[.string x.n, .string x.v, .bool x.f, .string x.fn, .string x.t] 50)
      have hT0 := hT.kept (hbel.trans (hb0.mono hsz))
      go_wp2_with fail
      refine (tells_any x _ hT0 (by have := hSk.1; omega) (by have := hSk.2.1; omega) (by have := hSk.2.2.1; omega)).mono ?_
      rintro e w1 ⟨rfl, hb1⟩
      have hT1 := hT0.kept hb1
      have hn1 := telN_len x hSk
      have hn2 := telV_len x hSk
      have hf1 : (form (telN x)).length ≤ 18000 := by have := form_len (telN x); omega
      have hf2 : (form (telV x)).length ≤ 18000 := by have := form_len (telV x); omega
      go_wp2_with fail
      refine (form_any ⟨(telN x).toArray⟩ (by rw [size_mk]; omega) _ hT1).mono ?_
      rintro e w2 ⟨rfl, hb2⟩
      have hT2 := hT1.kept hb2
      go_wp2_with fail
      refine (form_any ⟨(telV x).toArray⟩ (by rw [size_mk]; omega) _ hT2).mono ?_
      rintro e w3 ⟨rfl, hb3⟩
      have hb03 := bs (bs (bs hb0 hb1) hb2) hb3
      have hown3 := hown.kept hb03
      have hov := hown3.ov
      have hsz3 := hb03.size
      have hxl' : (((es.take k).map prt).map txt).length < 17179869184 := by rw [List.length_map, List.length_map, List.length_take]; omega
      have hX := Lib.hid (eq_cat (form (telN x)) (form (telV x)))
      go_wp2_with (at_builtin; refine wpList_append_cell rfl _ _ 23 9 rfl Tryd.underlying23 info_str rfl (by decide) rfl rfl (.string (ByteArray.mk (form (telN x)).toArray ++ ByteArray.mk #[61] ++ ByteArray.mk (form (telV x)).toArray)) rfl hov hxl' (by omega) ?_; intro v' w4 hown' hb')
      have hT4 : OT w.heap.size ((es.take (k + 1)).map prt) v' w4 := by
        rw [hTk.out]
        unfold OT
        rw [List.map_append, List.map_append, List.map_cons, List.map_nil, List.map_cons, List.map_nil, show txt (prt x) = _ from hX.out.symm]
        exact hown'
      go_roundw
      case rel => exact ⟨k + 1, by omega, by go_num, hT4, (hbel.trans (hb03.mono hsz)).trans hb'⟩
      case measure => simp [intOf]; omega
    · obtain rfl : k = es.length := by omega
      rw [List.take_of_length_le (Nat.le_refl _)] at hown
      have hjl := jn_prt_len es hS
      have hR := Lib.hid (encP_told es)
      go_wp2_with fail
      refine (join_any _ 38 _ _ hown.txts (by rw [List.length_map]; omega) (by omega)).mono ?_
      rintro e w1 ⟨rfl, hb1⟩
      go_wp2_with fail
      go_ret
      exact ⟨ret_str hR.out.symm, hbel.trans (hb1.mono hbel.size)⟩
theorem jn_step (es : List Ent) (k : Nat) (hk : k < es.length) : jn 38 ((es.take (k + 1)).map prt) = (if k = 0 then [] else jn 38 ((es.take k).map prt) ++ [38]) ++ prt es[k] := by
  rw [List.take_succ_eq_append_getElem hk, List.map_append]
  by_cases h : k = 0
  · subst h; simp [jn]
  · rw [if_neg h, List.map_cons, List.map_nil, jn_snoc 38 _ _ (by
      intro e
      have := congrArg List.length e
      rw [List.length_map, List.length_take, List.length_nil] at this
      omega)]
    simp
set_option maxHeartbeats 1000000 in
set_option maxRecDepth 100000 in
theorem refEncode19_any (es : List Ent) (v : Value) (w : World) (hE : Ents es v w) (hl : es.length ≤ 1000) (hS : ∀ x ∈ es, Short x) :
    Calls Tryd.prog 46 #[v] w fun e w' => e = .returned (.string ⟨(encP (told es)).toArray⟩) ∧ Below w.heap.size w w' := by
  go_enter Tryd.func46, Tryd.ntmps46
  go_wp2_with fail
  refine (refPlain19_any es v _ hE hl hS).mono ?_
  rintro e w1 ⟨⟨v1, rfl, hP⟩, hb1⟩
  have hP1 := hP.ents
  have hml : (es.map tel).length = es.length := List.length_map _
  obtain ⟨a, cap, rfl⟩ := hP1.len
  have hb1s := hb1.size
  go_wp2_with fail
  go_loopw [5, 3] (fun i v wr => ∃ k : Nat, k ≤ es.length ∧ i = .int .i64 k ∧ OB w1.heap.size (jn 38 ((es.take k).map prt)) v wr ∧ Below w1.heap.size w1 wr) (fun i _ _ => es.length - (intOf i).toNat)
  case atStart => exact ⟨0, Nat.zero_le _, rfl, OB.nil _ _, Below.refl _ _⟩
  case round =>
    obtain ⟨k, hk, rfl, hown, hbel⟩ := hrel
    have hsz := hbel.size
    by_cases hlt : k < es.length
    · obtain ⟨b, o, cap', hv, hb, hc0, hc1, hc2, hc3, hc4⟩ := hP1.five (k := k) (by omega)
      have hSk := hS es[k] (List.getElem_mem hlt)
      have hJ := Lib.hid (jn_step es k hlt)
      have hJl := jn_prt_len (es.take k) (fun x hx => hS x (List.mem_of_mem_take hx))
      have hJ2 : (jn 38 ((es.take k).map prt)).length ≤ 50000000 := by
        have : (es.take k).length ≤ 1000 := by rw [List.length_take]; omega
        omega
      cases hv
      rw [List.getElem_map] at hc0 hc1
      generalize es[k] = x at *
      have hn1 := telN_len x hSk
      have hn2 := telV_len x hSk
      have hf1 : (form (telN x)).length ≤ 18000 := by have := form_len (telN x); omega
      have hf2 : (form (telV x)).length ≤ 18000 := by have := form_len (telV x); omega
      have Hn : Hid (w1.cell? ⟨b, o + k * 5, none⟩ = some (.string ⟨(telN x).toArray⟩)) := hc0
      have Hv : Hid (w1.cell? ⟨b, o + k * 5 + 1, none⟩ = some (.string ⟨(telV x).toArray⟩)) := hc1
      clear hc0 hc1 hc2 hc3 hc4
      have hP1' := Lib.hid hP1
      clear hP1 hE hP
      by_cases h0 : k = 0
      · have hz : decide (0 < k) = false := by simp; omega
        have hz2 : ¬ (0 < k) := by omega
        have hown' := hown
        rw [show jn 38 ((es.take k).map prt) = [] by rw [h0]; rfl] at hown'
        have H0 := Lib.hid h0
        clear h0 hown
        have hAL : ([] : List UInt8).length = 0 := rfl
        have hcA' := cell_kept hbel hb Hn.out
        go_wp2_with fail
        refine (refForm_any ⟨(telN x).toArray⟩ (by rw [size_mk]; omega) _).mono ?_
        rintro e w3 ⟨rfl, hb3⟩
        have hown3 := hown'.kept hb3
        have hs3 := hb3.size
        have hL3 : ([] : List UInt8).length + (ByteArray.mk (form (telN x)).toArray).size < 70368744177664 := by rw [size_mk, hAL]; omega
        have hL4 : (([] : List UInt8) ++ form (telN x)).length < 70368744177664 := by rw [List.length_append, hAL]; omega
        have hL5 : (([] : List UInt8) ++ form (telN x) ++ [61]).length + (ByteArray.mk (form (telV x)).toArray).size < 70368744177664 := by rw [size_mk, List.length_append, List.length_append, hAL, List.length_cons, List.length_nil]; omega
        go_wp2_with (first | (at_builtin; refine wpList_append_text rfl _ _ rfl rfl rfl hown3 hL3 (by omega) ?_; intro v4 w4 hown4 hb4; have hs4 := hb4.size) | (at_builtin; refine wpList_append_byte rfl _ _ rfl rfl rfl 61 rfl hown4 hL4 (by omega) ?_; intro v5 w5 hown5 hb5; have hs5 := hb5.size; have hcB := cell_kept ((((hbel).trans (hb3.mono (hsz))).trans hb4).trans hb5) hb Hv.out))
        refine (refForm_any ⟨(telV x).toArray⟩ (by rw [size_mk]; omega) _).mono ?_
        rintro e w6 ⟨rfl, hb6⟩
        have hown6 := hown5.kept hb6
        have hs6 := hb6.size
        go_wp2_with (at_builtin; refine wpList_append_text rfl _ _ rfl rfl rfl hown6 hL5 (by omega) ?_; intro v7 w7 hown7 hb7)
        go_roundw
        case rel => exact ⟨k + 1, by omega, by go_num, by rw [hJ.out, if_pos H0.out]; simp only [prt, eqP]; simp only [List.nil_append, List.append_assoc, List.cons_append] at hown7 ⊢; exact hown7, (((((hbel).trans (hb3.mono (hsz))).trans hb4).trans hb5).trans (hb6.mono (by omega))).trans hb7⟩
        case measure => simp [intOf]; omega
      · have hz : (0 : Int) < (k : Int) := by omega
        have H0 := Lib.hid h0
        clear h0
        have hAL : (jn 38 ((es.take k).map prt) ++ [38]).length = (jn 38 ((es.take k).map prt)).length + 1 := by rw [List.length_append]; rfl
        have hAJ : (jn 38 ((es.take k).map prt)).length < 70368744177664 := by omega
        go_wp2_with (at_builtin; refine wpList_append_byte rfl _ _ rfl rfl rfl 38 rfl hown hAJ hsz ?_; intro v2 w2 hown2 hb2; have hs2 := hb2.size; have hcA := cell_kept (hbel.trans hb2) hb Hn.out)
        refine (refForm_any ⟨(telN x).toArray⟩ (by rw [size_mk]; omega) _).mono ?_
        rintro e w3 ⟨rfl, hb3⟩
        have hown3 := hown2.kept hb3
        have hs3 := hb3.size
        have hL3 : ((jn 38 ((es.take k).map prt) ++ [38])).length + (ByteArray.mk (form (telN x)).toArray).size < 70368744177664 := by rw [size_mk, hAL]; omega
        have hL4 : ((jn 38 ((es.take k).map prt) ++ [38]) ++ form (telN x)).length < 70368744177664 := by rw [List.length_append, hAL]; omega
        have hL5 : ((jn 38 ((es.take k).map prt) ++ [38]) ++ form (telN x) ++ [61]).length + (ByteArray.mk (form (telV x)).toArray).size < 70368744177664 := by rw [size_mk, List.length_append, List.length_append, hAL, List.length_cons, List.length_nil]; omega
        go_wp2_with (first | (at_builtin; refine wpList_append_text rfl _ _ rfl rfl rfl hown3 hL3 (by omega) ?_; intro v4 w4 hown4 hb4; have hs4 := hb4.size) | (at_builtin; refine wpList_append_byte rfl _ _ rfl rfl rfl 61 rfl hown4 hL4 (by omega) ?_; intro v5 w5 hown5 hb5; have hs5 := hb5.size; have hcB := cell_kept ((((hbel.trans hb2).trans (hb3.mono (by omega))).trans hb4).trans hb5) hb Hv.out))
        refine (refForm_any ⟨(telV x).toArray⟩ (by rw [size_mk]; omega) _).mono ?_
        rintro e w6 ⟨rfl, hb6⟩
        have hown6 := hown5.kept hb6
        have hs6 := hb6.size
        go_wp2_with (at_builtin; refine wpList_append_text rfl _ _ rfl rfl rfl hown6 hL5 (by omega) ?_; intro v7 w7 hown7 hb7)
        go_roundw
        case rel => exact ⟨k + 1, by omega, by go_num, by rw [hJ.out, if_neg H0.out]; simp only [prt, eqP]; simp only [List.nil_append, List.append_assoc, List.cons_append] at hown7 ⊢; exact hown7, (((((hbel.trans hb2).trans (hb3.mono (by omega))).trans hb4).trans hb5).trans (hb6.mono (by omega))).trans hb7⟩
        case measure => simp [intOf]; omega
    · obtain rfl : k = es.length := by omega
      rw [List.take_of_length_le (Nat.le_refl _)] at hown
      have hcb := hown.conv
      have hR := Lib.hid (encP_told es)
      go_wp2_with fail
      go_ret
      exact ⟨ret_str hR.out.symm, bs hb1 hbel⟩
end Go.Proofs.YtapbljaohhcpoaaDoor
