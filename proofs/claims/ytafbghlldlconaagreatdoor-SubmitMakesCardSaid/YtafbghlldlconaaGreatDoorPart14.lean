import Derived.Test.YtafbghlldlconaaGreatDoorPart11
import Derived.Test.YtafbghlldlconaaGreatDoorPart13
import Derived.Test.YtafbghlldlconaaGreatDoorPart10
import Derived.StillTactics
import Derived.Deep.Slices
import Derived.Test.YtafbghlldlconaaGreatDoorPart2
/-
  PLAIN LAWS ON ENTRIES AS ONE TEXT OF ESCAPES (chapter 19): no program in sight.
-/
namespace Go.Proofs.YtafbghlldlconaaGreatDoor.PT
set_option linter.unusedVariables false
set_option linter.unusedSimpArgs false

/-- a byte that an escaped text may have -/
def okF (c : UInt8) : Bool := letterB c || (inB c plain7 || (decide (c = 37) || decide (c = 43)))
theorem okF_hexU (n : Nat) (h : n < 16) : okF (hexU n) = true := by
  have : ∀ i : Fin 16, okF (hexU i.val) = true := by decide
  exact this ⟨n, h⟩
theorem okF_form : ∀ l : List UInt8, ∀ c ∈ form l, okF c = true
  | [], c, h => by simp [form] at h
  | d :: r, c, h => by
    have hd : d.toNat < 256 := d.toNat_lt
    rw [show d :: r = [d] ++ r from rfl, form_append, List.mem_append] at h
    rcases h with h | h
    · by_cases h32 : d = 32
      · subst h32
        simp [form] at h
        subst h; decide
      · have e : form [d] = encL 7 [d] := by simp [form, h32]
        rw [e, encL_one] at h
        split at h
        · simp only [List.mem_cons, List.not_mem_nil, or_false] at h
          rcases h with h | h | h
          · subst h; decide
          · subst h; exact okF_hexU _ (by omega)
          · subst h; exact okF_hexU _ (by omega)
        · rename_i he
          simp only [List.mem_cons, List.not_mem_nil, or_false] at h
          subst h
          rw [escB_7] at he
          unfold okF
          cases h1 : letterB c
          · rw [h1] at he; simp at he; simp [he]
          · rfl
    · exact okF_form r c h
theorem okF_no (c : UInt8) (h : okF c = false) (l : List UInt8) : c ∉ form l := fun hc => by
  have := okF_form l c hc
  rw [h] at this; exact Bool.noConfusion this
/-- a name and a value with = between -/
def eqP (n v : List UInt8) : List UInt8 := form n ++ 61 :: form v
theorem eqP_no38 (n v : List UInt8) : 38 ∉ eqP n v := by
  unfold eqP
  rw [List.mem_append, List.mem_cons]
  rintro (h | h | h)
  · exact okF_no 38 (by decide) n h
  · exact absurd h (by decide)
  · exact okF_no 38 (by decide) v h
/-- behind a sign -/
def aft (c : UInt8) (l : List UInt8) : List UInt8 := l.drop ((upTo c l).length + 1)
theorem aft_at (c : UInt8) (a b : List UInt8) (h : c ∉ a) : aft c (a ++ c :: b) = b := by
  unfold aft
  rw [upTo_at c a b h, show a ++ c :: b = (a ++ [c]) ++ b by simp, show a.length + 1 = (a ++ [c]).length by simp, List.drop_left]
theorem aft_no (c : UInt8) (a : List UInt8) (h : c ∉ a) : aft c a = [] := by
  unfold aft
  rw [upTo_all c a h]
  exact List.drop_eq_nil_of_le (by omega)
theorem cut_aft (c : UInt8) (l : List UInt8) : (Lib.cut l [c]).1 = upTo c l ∧ (Lib.cut l [c]).2.1 = aft c l := by
  rcases upTo_split c l with h | ⟨b, h⟩
  · rw [cut_no c l h, upTo_all c l h, aft_no c l h]; exact ⟨rfl, rfl⟩
  · have hx := upTo_not c l
    have e1 : Lib.cut l [c] = (upTo c l, b, true) := by
      conv => lhs; rw [h]
      exact cut_yes c _ b hx
    have e2 : aft c l = b := by
      conv => lhs; rw [h]
      exact aft_at c _ b hx
    rw [e1, e2]; exact ⟨rfl, rfl⟩
theorem eqP_name (n v : List UInt8) : unform (upTo 61 (eqP n v)) = n := by
  unfold eqP
  rw [upTo_at 61 _ _ (okF_no 61 (by decide) n), unform_form]
theorem eqP_value (n v : List UInt8) : unform (aft 61 (eqP n v)) = v := by
  unfold eqP
  rw [aft_at 61 _ _ (okF_no 61 (by decide) n), unform_form]
/-- entries of a text: names and values -/
def decP (l : List UInt8) : List (List UInt8 × List UInt8) := ((spl 38 [] l).filter fun p => !p.isEmpty).map fun p => (unform (upTo 61 p), unform (aft 61 p))
def encP (xs : List (List UInt8 × List UInt8)) : List UInt8 := jn 38 (xs.map fun x => eqP x.1 x.2)
theorem decP_encP (xs : List (List UInt8 × List UInt8)) : decP (encP xs) = xs := by
  unfold decP encP
  by_cases h : xs = []
  · subst h; rfl
  · rw [spl_jn 38 _ (by
      intro x hx
      obtain ⟨y, _, rfl⟩ := List.mem_map.1 hx
      exact eqP_no38 _ _) (by simpa using h)]
    rw [List.filter_eq_self.2 (by
      intro x hx
      obtain ⟨y, _, rfl⟩ := List.mem_map.1 hx
      unfold eqP
      cases form y.1 <;> rfl), List.map_map]
    conv => rhs; rw [← List.map_id xs]
    refine List.map_congr_left fun x _ => ?_
    show (unform (upTo 61 (eqP x.1 x.2)), unform (aft 61 (eqP x.1 x.2))) = x
    rw [eqP_name, eqP_value]
/-- a byte that a text of entries may have -/
def okU (c : UInt8) : Bool := okF c || (decide (c = 38) || decide (c = 61))
theorem okU_encP (xs : List (List UInt8 × List UInt8)) : ∀ c ∈ encP xs, okU c = true := by
  have h1 : ∀ n v : List UInt8, ∀ c ∈ eqP n v, okU c = true := by
    intro n v c hc
    unfold eqP at hc
    rw [List.mem_append, List.mem_cons] at hc
    unfold okU
    rcases hc with h | h | h
    · rw [okF_form n c h]; rfl
    · subst h; decide
    · rw [okF_form v c h]; rfl
  have h2 : ∀ ys : List (List UInt8), (∀ y ∈ ys, ∀ c ∈ y, okU c = true) → ∀ c ∈ jn 38 ys, okU c = true := by
    intro ys hy c hc
    cases ys with
    | nil => simp [jn] at hc
    | cons y r =>
      rw [jn, List.mem_append] at hc
      rcases hc with h | h
      · exact hy y (by simp) c h
      · obtain ⟨z, hz, h⟩ := List.mem_flatMap.1 h
        rcases List.mem_cons.1 h with h | h
        · subst h; decide
        · exact hy z (by simp [hz]) c h
  refine h2 _ fun y hy => ?_
  obtain ⟨x, _, rfl⟩ := List.mem_map.1 hy
  exact h1 x.1 x.2
theorem encP_append (a b : List (List UInt8 × List UInt8)) (ha : a ≠ []) (hb : b ≠ []) : encP (a ++ b) = encP a ++ 38 :: encP b := by
  unfold encP
  rw [List.map_append, jn_append 38 _ _ (by simpa using ha) (by simpa using hb)]
end Go.Proofs.YtafbghlldlconaaGreatDoor.PT

/-
  urlenc.Encode, urlenc.Decode, ref19.Encode, ref19.Decode: the walks.
-/
namespace Go.Proofs.YtafbghlldlconaaGreatDoor
set_option linter.unusedVariables false
set_option linter.unusedSimpArgs false
open Go.RowKit PT

/-- what entries tell, as pairs of texts -/
def told (es : List Ent) : List (List UInt8 × List UInt8) := es.map fun x => (telN x, telV x)
def prt (x : Ent) : List UInt8 := eqP (telN x) (telV x)
theorem encP_told (es : List Ent) : encP (told es) = jn 38 (es.map prt) := by
  unfold encP told
  rw [List.map_map]; rfl
theorem telN_len (x : Ent) (h : Short x) : (telN x).length ≤ 6000 := by
  have := ends_len [13, 10] x.n.data.toList
  have h1 := h.1
  unfold telN
  rw [size_list] at this
  simp only [List.length_cons, List.length_nil] at this
  omega
theorem telV_len (x : Ent) (h : Short x) : (telV x).length ≤ 6000 := by
  have := ends_len [13, 10] (if x.f then x.fn else x.v).data.toList
  have h1 : (if x.f then x.fn else x.v).size ≤ 2000 := by
    split
    · exact h.2.2.1
    · exact h.2.1
  unfold telV
  rw [size_list] at this
  simp only [List.length_cons, List.length_nil] at this
  omega
theorem prt_len (x : Ent) (h : Short x) : (prt x).length ≤ 40000 := by
  have h1 := telN_len x h
  have h2 := telV_len x h
  have h3 := form_len (telN x)
  have h4 := form_len (telV x)
  unfold prt eqP
  rw [List.length_append, List.length_cons]
  omega
theorem jn_prt_len (es : List Ent) (hS : ∀ x ∈ es, Short x) : (jn 38 (es.map prt)).length ≤ es.length * 40001 := by
  have h := jn_len 38 (es.map prt) 40000 (fun y hy => by
    obtain ⟨x, hx, rfl⟩ := List.mem_map.1 hy
    exact prt_len x (hS x hx))
  rwa [List.length_map] at h
theorem eq_cat (a b : List UInt8) : Value.string (ByteArray.mk a.toArray ++ ByteArray.mk #[61] ++ ByteArray.mk b.toArray) = txt (a ++ 61 :: b) := by
  unfold txt
  rw [show ByteArray.mk #[61] = ByteArray.mk [61].toArray from rfl, mk_append, mk_append]
  simp

theorem cell_kept {base b o : Nat} {w w' : World} (hb : Below base w w') (h : b < base) {u : Value} (hc : w.cell? ⟨b, o, none⟩ = some u) : w'.cell? ⟨b, o, none⟩ = some u := by
  rw [← hc]
  simp only [World.cell?, hb.block b h]
set_option maxHeartbeats 1000000 in
set_option maxRecDepth 100000 in
theorem urlEncode_any (es : List Ent) (v : Value) (w : World) (hE : Ents es v w) (hT : Tables w) (hl : es.length ≤ 1000) (hS : ∀ x ∈ es, Short x) :
    Calls Tryz.prog 22 #[v] w fun e w' => e = .returned (.string ⟨(encP (told es)).toArray⟩) ∧ Below w.heap.size w w' := by
  obtain ⟨a, cap, rfl⟩ := hE.len
  go_enter Tryz.func22, Tryz.ntmps22
  go_wp2_with fail
  go_loopw [10, 3] (fun i v wr => ∃ k : Nat, k ≤ es.length ∧ i = .int .i64 k ∧ OT w.heap.size ((es.take k).map prt) v wr ∧ Below w.heap.size w wr) (fun i _ _ => es.length - (intOf i).toNat)
  case atStart => exact ⟨0, Nat.zero_le _, rfl, OT.nil _ _, Below.refl _ _⟩
  case round =>
    obtain ⟨k, hk, rfl, hown, hbel⟩ := hrel
    have hsz := hbel.size
    by_cases hlt : k < es.length
    · obtain ⟨b, o, cap', hv, hb, hc0, hc1, hc2, hc3, hc4⟩ := (hE.kept hbel).five hlt
      have hSk := hS es[k] (List.getElem_mem hlt)
      have hTk := Lib.hid (List.take_succ_eq_append_getElem hlt)
      cases hv
      generalize es[k] = x at *
      have hb0 := (Below.refl wr.heap.size wr).alloc (Nat.le_refl _) (.cells #[.string x.n, .string x.v, .bool x.f, .string x.fn, .string x.t] 73)
      have hT0 := hT.kept (hbel.trans (hb0.mono hsz))
      go_wp2_with fail
      refine (tells_any x _ hT0 (by have := hSk.1; omega) (by have := hSk.2.1; omega) (by have := hSk.2.2.1; omega)).mono ?_
      rintro e w1 ⟨rfl, hb1⟩
      have hT1 := hT0.kept hb1
      have hn1 := telN_len x hSk
      have hn2 := telV_len x hSk
      have hf1 : (form (telN x)).length ≤ 18000 := by have := form_len (telN x); omega
      have hf2 : (form (telV x)).length ≤ 18000 := by have := form_len (telV x); omega
      go_wp2_with fail
      refine (form_any ⟨(telN x).toArray⟩ (by rw [size_mk]; omega) _ hT1).mono ?_
      rintro e w2 ⟨rfl, hb2⟩
      have hT2 := hT1.kept hb2
      go_wp2_with fail
      refine (form_any ⟨(telV x).toArray⟩ (by rw [size_mk]; omega) _ hT2).mono ?_
      rintro e w3 ⟨rfl, hb3⟩
      have hb03 := bs (bs (bs hb0 hb1) hb2) hb3
      have hown3 := hown.kept hb03
      have hov := hown3.ov
      have hsz3 := hb03.size
      have hxl' : (((es.take k).map prt).map txt).length < 17179869184 := by rw [List.length_map, List.length_map, List.length_take]; omega
      have hX := Lib.hid (eq_cat (form (telN x)) (form (telV x)))
      go_wp2_with (at_builtin; refine wpList_append_cell rfl _ _ 26 9 rfl Tryz.underlying26 info_str rfl (by decide) rfl rfl (.string (ByteArray.mk (form (telN x)).toArray ++ ByteArray.mk #[61] ++ ByteArray.mk (form (telV x)).toArray)) rfl hov hxl' (by omega) ?_; intro v' w4 hown' hb')
      have hT4 : OT w.heap.size ((es.take (k + 1)).map prt) v' w4 := by
        rw [hTk.out]
        unfold OT
        rw [List.map_append, List.map_append, List.map_cons, List.map_nil, List.map_cons, List.map_nil, show txt (prt x) = _ from hX.out.symm]
        exact hown'
      go_roundw
      case rel => exact ⟨k + 1, by omega, by go_num, hT4, (hbel.trans (hb03.mono hsz)).trans hb'⟩
      case measure => simp [intOf]; omega
    · obtain rfl : k = es.length := by omega
      rw [List.take_of_length_le (Nat.le_refl _)] at hown
      have hjl := jn_prt_len es hS
      have hR := Lib.hid (encP_told es)
      go_wp2_with fail
      refine (join_any _ 38 _ _ hown.txts (by rw [List.length_map]; omega) (by omega)).mono ?_
      rintro e w1 ⟨rfl, hb1⟩
      go_wp2_with fail
      go_ret
      exact ⟨ret_str hR.out.symm, hbel.trans (hb1.mono hbel.size)⟩
theorem jn_step (es : List Ent) (k : Nat) (hk : k < es.length) : jn 38 ((es.take (k + 1)).map prt) = (if k = 0 then [] else jn 38 ((es.take k).map prt) ++ [38]) ++ prt es[k] := by
  rw [List.take_succ_eq_append_getElem hk, List.map_append]
  by_cases h : k = 0
  · subst h; simp [jn]
  · rw [if_neg h, List.map_cons, List.map_nil, jn_snoc 38 _ _ (by
      intro e
      have := congrArg List.length e
      rw [List.length_map, List.length_take, List.length_nil] at this
      omega)]
    simp
set_option maxHeartbeats 1000000 in
set_option maxRecDepth 100000 in
theorem refEncode19_any (es : List Ent) (v : Value) (w : World) (hE : Ents es v w) (hl : es.length ≤ 1000) (hS : ∀ x ∈ es, Short x) :
    Calls Tryz.prog 35 #[v] w fun e w' => e = .returned (.string ⟨(encP (told es)).toArray⟩) ∧ Below w.heap.size w w' := by
  go_enter Tryz.func35, Tryz.ntmps35
  go_wp2_with fail
  refine (refPlain19_any es v _ hE hl hS).mono ?_
  rintro e w1 ⟨⟨v1, rfl, hP⟩, hb1⟩
  have hP1 := hP.ents
  have hml : (es.map tel).length = es.length := List.length_map _
  obtain ⟨a, cap, rfl⟩ := hP1.len
  have hb1s := hb1.size
  go_wp2_with fail
  go_loopw [5, 3] (fun i v wr => ∃ k : Nat, k ≤ es.length ∧ i = .int .i64 k ∧ OB w1.heap.size (jn 38 ((es.take k).map prt)) v wr ∧ Below w1.heap.size w1 wr) (fun i _ _ => es.length - (intOf i).toNat)
  case atStart => exact ⟨0, Nat.zero_le _, rfl, OB.nil _ _, Below.refl _ _⟩
  case round =>
    obtain ⟨k, hk, rfl, hown, hbel⟩ := hrel
    have hsz := hbel.size
    by_cases hlt : k < es.length
    · obtain ⟨b, o, cap', hv, hb, hc0, hc1, hc2, hc3, hc4⟩ := hP1.five (k := k) (by omega)
      have hSk := hS es[k] (List.getElem_mem hlt)
      have hJ := Lib.hid (jn_step es k hlt)
      have hJl := jn_prt_len (es.take k) (fun x hx => hS x (List.mem_of_mem_take hx))
      have hJ2 : (jn 38 ((es.take k).map prt)).length ≤ 50000000 := by
        have : (es.take k).length ≤ 1000 := by rw [List.length_take]; omega
        omega
      cases hv
      rw [List.getElem_map] at hc0 hc1
      generalize es[k] = x at *
      have hn1 := telN_len x hSk
      have hn2 := telV_len x hSk
      have hf1 : (form (telN x)).length ≤ 18000 := by have := form_len (telN x); omega
      have hf2 : (form (telV x)).length ≤ 18000 := by have := form_len (telV x); omega
      have Hn : Hid (w1.cell? ⟨b, o + k * 5, none⟩ = some (.string ⟨(telN x).toArray⟩)) := hc0
      have Hv : Hid (w1.cell? ⟨b, o + k * 5 + 1, none⟩ = some (.string ⟨(telV x).toArray⟩)) := hc1
      clear hc0 hc1 hc2 hc3 hc4
      have hP1' := Lib.hid hP1
      clear hP1 hE hP
      by_cases h0 : k = 0
      · have hz : decide (0 < k) = false := by simp; omega
        have hz2 : ¬ (0 < k) := by omega
        have hown' := hown
        rw [show jn 38 ((es.take k).map prt) = [] by rw [h0]; rfl] at hown'
        have H0 := Lib.hid h0
        clear h0 hown
        have hAL : ([] : List UInt8).length = 0 := rfl
        have hcA' := cell_kept hbel hb Hn.out
        go_wp2_with fail
        refine (refForm02_any ⟨(telN x).toArray⟩ (by rw [size_mk]; omega) _).mono ?_
        rintro e w3 ⟨rfl, hb3⟩
        have hown3 := hown'.kept hb3
        have hs3 := hb3.size
        have hL3 : ([] : List UInt8).length + (ByteArray.mk (form (telN x)).toArray).size < 70368744177664 := by rw [size_mk, hAL]; omega
        have hL4 : (([] : List UInt8) ++ form (telN x)).length < 70368744177664 := by rw [List.length_append, hAL]; omega
        have hL5 : (([] : List UInt8) ++ form (telN x) ++ [61]).length + (ByteArray.mk (form (telV x)).toArray).size < 70368744177664 := by rw [size_mk, List.length_append, List.length_append, hAL, List.length_cons, List.length_nil]; omega
        go_wp2_with (first | (at_builtin; refine wpList_append_text rfl _ _ rfl rfl rfl hown3 hL3 (by omega) ?_; intro v4 w4 hown4 hb4; have hs4 := hb4.size) | (at_builtin; refine wpList_append_byte rfl _ _ rfl rfl rfl 61 rfl hown4 hL4 (by omega) ?_; intro v5 w5 hown5 hb5; have hs5 := hb5.size; have hcB := cell_kept ((((hbel).trans (hb3.mono (hsz))).trans hb4).trans hb5) hb Hv.out))
        refine (refForm02_any ⟨(telV x).toArray⟩ (by rw [size_mk]; omega) _).mono ?_
        rintro e w6 ⟨rfl, hb6⟩
        have hown6 := hown5.kept hb6
        have hs6 := hb6.size
        go_wp2_with (at_builtin; refine wpList_append_text rfl _ _ rfl rfl rfl hown6 hL5 (by omega) ?_; intro v7 w7 hown7 hb7)
        go_roundw
        case rel => exact ⟨k + 1, by omega, by go_num, by rw [hJ.out, if_pos H0.out]; simp only [prt, eqP]; simp only [List.nil_append, List.append_assoc, List.cons_append] at hown7 ⊢; exact hown7, (((((hbel).trans (hb3.mono (hsz))).trans hb4).trans hb5).trans (hb6.mono (by omega))).trans hb7⟩
        case measure => simp [intOf]; omega
      · have hz : (0 : Int) < (k : Int) := by omega
        have H0 := Lib.hid h0
        clear h0
        have hAL : (jn 38 ((es.take k).map prt) ++ [38]).length = (jn 38 ((es.take k).map prt)).length + 1 := by rw [List.length_append]; rfl
        have hAJ : (jn 38 ((es.take k).map prt)).length < 70368744177664 := by omega
        go_wp2_with (at_builtin; refine wpList_append_byte rfl _ _ rfl rfl rfl 38 rfl hown hAJ hsz ?_; intro v2 w2 hown2 hb2; have hs2 := hb2.size; have hcA := cell_kept (hbel.trans hb2) hb Hn.out)
        refine (refForm02_any ⟨(telN x).toArray⟩ (by rw [size_mk]; omega) _).mono ?_
        rintro e w3 ⟨rfl, hb3⟩
        have hown3 := hown2.kept hb3
        have hs3 := hb3.size
        have hL3 : ((jn 38 ((es.take k).map prt) ++ [38])).length + (ByteArray.mk (form (telN x)).toArray).size < 70368744177664 := by rw [size_mk, hAL]; omega
        have hL4 : ((jn 38 ((es.take k).map prt) ++ [38]) ++ form (telN x)).length < 70368744177664 := by rw [List.length_append, hAL]; omega
        have hL5 : ((jn 38 ((es.take k).map prt) ++ [38]) ++ form (telN x) ++ [61]).length + (ByteArray.mk (form (telV x)).toArray).size < 70368744177664 := by rw [size_mk, List.length_append, List.length_append, hAL, List.length_cons, List.length_nil]; omega
        go_wp2_with (first | (at_builtin; refine wpList_append_text rfl _ _ rfl rfl rfl hown3 hL3 (by omega) ?_; intro v4 w4 hown4 hb4; have hs4 := hb4.size) | (at_builtin; refine wpList_append_byte rfl _ _ rfl rfl rfl 61 rfl hown4 hL4 (by omega) ?_; intro v5 w5 hown5 hb5; have hs5 := hb5.size; have hcB := cell_kept ((((hbel.trans hb2).trans (hb3.mono (by omega))).trans hb4).trans hb5) hb Hv.out))
        refine (refForm02_any ⟨(telV x).toArray⟩ (by rw [size_mk]; omega) _).mono ?_
        rintro e w6 ⟨rfl, hb6⟩
        have hown6 := hown5.kept hb6
        have hs6 := hb6.size
        go_wp2_with (at_builtin; refine wpList_append_text rfl _ _ rfl rfl rfl hown6 hL5 (by omega) ?_; intro v7 w7 hown7 hb7)
        go_roundw
        case rel => exact ⟨k + 1, by omega, by go_num, by rw [hJ.out, if_neg H0.out]; simp only [prt, eqP]; simp only [List.nil_append, List.append_assoc, List.cons_append] at hown7 ⊢; exact hown7, (((((hbel.trans hb2).trans (hb3.mono (by omega))).trans hb4).trans hb5).trans (hb6.mono (by omega))).trans hb7⟩
        case measure => simp [intOf]; omega
    · obtain rfl : k = es.length := by omega
      rw [List.take_of_length_le (Nat.le_refl _)] at hown
      have hcb := hown.conv
      have hR := Lib.hid (encP_told es)
      go_wp2_with fail
      go_ret
      exact ⟨ret_str hR.out.symm, bs hb1 hbel⟩
end Go.Proofs.YtafbghlldlconaaGreatDoor

/-
  plain.Encode, ref21.Encode: the walks.
-/
namespace Go.Proofs.YtafbghlldlconaaGreatDoor
set_option linter.unusedVariables false
set_option linter.unusedSimpArgs false
open Go.RowKit PT
open Go.Lib (OthersKept)

/-- an entry's line -/
def line (x : Ent) : List UInt8 := telN x ++ 61 :: telV x
def lines21 (es : List Ent) : List UInt8 := es.flatMap fun x => line x ++ [13, 10]
theorem lines21_step (es : List Ent) (k : Nat) (hk : k < es.length) : lines21 (es.take (k + 1)) = lines21 (es.take k) ++ (line es[k] ++ [13, 10]) := by
  unfold lines21
  rw [List.take_succ_eq_append_getElem hk, List.flatMap_append]
  simp
theorem line_len (x : Ent) (h : Short x) : (line x).length ≤ 12001 := by
  have h1 := telN_len x h
  have h2 := telV_len x h
  unfold line
  rw [List.length_append, List.length_cons]
  omega
theorem lines21_len (es : List Ent) (hS : ∀ x ∈ es, Short x) : (lines21 es).length ≤ es.length * 12003 := by
  induction es with
  | nil => simp [lines21]
  | cons x r ih =>
    have h1 := line_len x (hS x (by simp))
    have h2 := ih (fun y hy => hS y (by simp [hy]))
    unfold lines21 at h2 ⊢
    rw [List.flatMap_cons, List.length_append, List.length_append, List.length_cons, List.length_cons, List.length_nil, List.length_cons, Nat.add_mul]
    omega
theorem OE.others {base b : Nat} {es : List Ent} {v : Value} {w w' : World} (h : OE base es v w) (hk : OthersKept 5 (some b) w w') (hb : b < base) : OE base es v w' := by
  obtain ⟨h1, ⟨rfl, hn⟩ | ⟨g, cap, cur, rfl, h2, h3, h4⟩⟩ := h
  · exact ⟨h1, .inl ⟨rfl, hn⟩⟩
  · exact ⟨h1, .inr ⟨g, cap, cur, rfl, h2, hk g _ h3 (by simp; omega) (fun c fz e => by cases e), h4⟩⟩
theorem line_cat (a b : List UInt8) : ByteArray.mk a.toArray ++ ByteArray.mk #[61] ++ ByteArray.mk b.toArray ++ ByteArray.mk #[13, 10] = ByteArray.mk (a ++ 61 :: b ++ [13, 10]).toArray := by
  rw [show ByteArray.mk #[61] = ByteArray.mk [61].toArray from rfl, show ByteArray.mk #[13, 10] = ByteArray.mk [13, 10].toArray from rfl, mk_append, mk_append, mk_append]
  simp

set_option maxHeartbeats 1000000 in
set_option maxRecDepth 100000 in
theorem plainEncode_any (es : List Ent) (v : Value) (w : World) (hE : Ents es v w) (hT : Tables w) (hl : es.length ≤ 1000) (hS : ∀ x ∈ es, Short x) :
    Calls Tryz.prog 67 #[v] w fun e w' => e = .returned (.string ⟨(lines21 es).toArray⟩) ∧ Below w.heap.size w w' := by
  have hb0 := (Below.refl w.heap.size w).alloc (Nat.le_refl _) (.cells #[.pointer none, .slice none 0 0] 123)
  have hB0 := SB.fresh w
  have hs0 : (w.alloc (.cells #[.pointer none, .slice none 0 0] 123)).heap.size = w.heap.size + 1 := by simp
  have hE0 := hE.kept hb0
  have hT0 := hT.kept hb0
  have Hs0 := Lib.hid hs0
  clear hs0
  go_enter Tryz.func67, Tryz.ntmps67
  go_wp2_with fail
  refine (plain_any es v _ hE0 hT0 hl hS).mono ?_
  rintro e w1 ⟨⟨v1, rfl, hP⟩, hb1⟩
  have hb01 := hb0.trans (hb1.mono (by rw [Hs0.out]; omega))
  have hs1 := hb01.size
  have hB1 : SB w.heap.size w.heap.size [] w1 := hB0.kept hb1
  have hml : (es.map tel).length = es.length := List.length_map _
  obtain ⟨a, cap, hv1⟩ := hP.ents.len
  rw [hml] at hv1
  subst hv1
  clear hB0 hE0 hT0 hE hb0
  go_wp2_with fail
  go_loopw [9] (fun i wr => ∃ k : Nat, k ≤ es.length ∧ i = .int .i64 k ∧ SB w.heap.size w.heap.size (lines21 (es.take k)) wr ∧ SK w.heap.size w.heap.size w1 wr) (fun i _ => es.length - (intOf i).toNat)
  case atStart => exact ⟨0, Nat.zero_le _, rfl, hB1, SK.refl _ _ _⟩
  case round =>
    obtain ⟨k, hk, rfl, hown, hsk⟩ := hrel
    have hsz := hsk.1.size
    by_cases hlt : k < es.length
    · obtain ⟨b, o, cap', hv, hb, hc0, hc1, hc2, hc3, hc4⟩ := (hP.others hsk.2 (by rw [Hs0.out]; omega)).ents.five (k := k) (by omega)
      rw [hml] at hv
      cases hv
      have hSk := hS es[k] (List.getElem_mem hlt)
      have hLk := Lib.hid (lines21_step es k hlt)
      have hLl := lines21_len (es.take k) (fun x hx => hS x (List.mem_of_mem_take hx))
      have hL2 : (lines21 (es.take k)).length ≤ 50000000 := by
        have : (es.take k).length ≤ 1000 := by rw [List.length_take]; omega
        omega
      rw [List.getElem_map] at hc0 hc1 hc2 hc3 hc4
      generalize es[k] = x at *
      have hn1 := telN_len x hSk
      have hn2 := telV_len x hSk
      have hc0' : wr.cell? ⟨b, o + k * 5, none⟩ = some (.string ⟨(telN x).toArray⟩) := hc0
      have hc1' : wr.cell? ⟨b, o + k * 5 + 1, none⟩ = some (.string ⟨(telV x).toArray⟩) := hc1
      have hc2' : wr.cell? ⟨b, o + k * 5 + 2, none⟩ = some (.bool false) := hc2
      have hc3' : wr.cell? ⟨b, o + k * 5 + 3, none⟩ = some (.string ⟨#[]⟩) := hc3
      have hc4' : wr.cell? ⟨b, o + k * 5 + 4, none⟩ = some (.string ⟨#[]⟩) := hc4
      clear hc0 hc1 hc2 hc3 hc4
      have hS0 : ∃ S : ByteArray, ByteArray.mk (telN x).toArray ++ ByteArray.mk #[61] ++ ByteArray.mk (telV x).toArray ++ ByteArray.mk #[13, 10] = S ∧ S.size = (telN x).length + (telV x).length + 3 ∧ lines21 (es.take k) ++ S.data.toList = lines21 (es.take (k + 1)) := by
        refine ⟨_, line_cat _ _, ?_, ?_⟩
        · rw [size_mk, List.length_append, List.length_append, List.length_cons, List.length_cons, List.length_cons, List.length_nil]; omega
        · rw [hLk.out]; rfl
      obtain ⟨S, hX, hSz, hl'⟩ := hS0
      have hown' := hown.alloc (.cells #[.string ⟨(telN x).toArray⟩, .string ⟨(telV x).toArray⟩, .bool false, .string ⟨#[]⟩, .string ⟨#[]⟩] 73)
      have hsk' := hsk.alloc (by omega) (.cells #[.string ⟨(telN x).toArray⟩, .string ⟨(telV x).toArray⟩, .bool false, .string ⟨#[]⟩, .string ⟨#[]⟩] 73)
      have hBw := Nat.le_trans hs1 hsk'.1.size
      have hq1 : (lines21 (es.take k)).length + S.size < 70368744177664 := by rw [hSz]; omega
      have hq2 : 1 ≤ S.size := by rw [hSz]; omega
      have HL := Lib.hid hl'
      have HX := Lib.hid hX
      clear hl' hX hSz
      go_wp2_with fail
      rw [HX.out]
      generalize wr.alloc (.cells #[.string ⟨(telN x).toArray⟩, .string ⟨(telV x).toArray⟩, .bool false, .string ⟨#[]⟩, .string ⟨#[]⟩] 73) = W0 at *
      refine (writeString_any _ _ _ S _ hown' hq1 hq2 hBw).mono ?_
      rintro e w2 ⟨rfl, hown2, hsk2⟩
      have hown3 : SB w.heap.size w.heap.size (lines21 (es.take (k + 1))) w2 := by rw [← HL.out]; exact hown2
      clear hown2
      go_wp2_with fail
      go_roundw
      case rel => exact ⟨k + 1, by omega, by go_num, hown3, hsk'.trans hsk2⟩
      case measure => simp [intOf]; omega
    · obtain rfl : k = es.length := by omega
      rw [List.take_of_length_le (Nat.le_refl _)] at hown
      go_wp2_with fail
      refine (string_any _ _ _ _ hown (Nat.le_trans hs1 hsz)).mono ?_
      rintro e w2 ⟨rfl, hown2, hsk2⟩
      go_wp2_with fail
      go_ret
      exact ⟨rfl, hb01.trans (hsk.1.trans hsk2.1)⟩
set_option maxHeartbeats 1000000 in
set_option maxRecDepth 100000 in
theorem refEncode21_any (es : List Ent) (v : Value) (w : World) (hE : Ents es v w) (hl : es.length ≤ 1000) (hS : ∀ x ∈ es, Short x) :
    Calls Tryz.prog 80 #[v] w fun e w' => e = .returned (.string ⟨(lines21 es).toArray⟩) ∧ Below w.heap.size w w' := by
  go_enter Tryz.func80, Tryz.ntmps80
  go_wp2_with fail
  refine (refPlain19_any es v _ hE hl hS).mono ?_
  rintro e w1 ⟨⟨v1, rfl, hP⟩, hb1⟩
  have hP1 := hP.ents
  have hml : (es.map tel).length = es.length := List.length_map _
  obtain ⟨a, cap, hv1⟩ := hP1.len
  rw [hml] at hv1
  subst hv1
  have hb1s := hb1.size
  go_wp2_with fail
  go_loopw [5, 3] (fun i v wr => ∃ k : Nat, k ≤ es.length ∧ i = .int .i64 k ∧ OB w1.heap.size (lines21 (es.take k)) v wr ∧ Below w1.heap.size w1 wr) (fun i _ _ => es.length - (intOf i).toNat)
  case atStart => exact ⟨0, Nat.zero_le _, rfl, OB.nil _ _, Below.refl _ _⟩
  case round =>
    obtain ⟨k, hk, rfl, hown, hbel⟩ := hrel
    have hsz := hbel.size
    by_cases hlt : k < es.length
    · obtain ⟨b, o, cap', hv, hb, hc0, hc1, hc2, hc3, hc4⟩ := hP1.five (k := k) (by omega)
      rw [hml] at hv
      have hSk := hS es[k] (List.getElem_mem hlt)
      have hLk := Lib.hid (lines21_step es k hlt)
      have hLl := lines21_len (es.take k) (fun x hx => hS x (List.mem_of_mem_take hx))
      have hL2 : (lines21 (es.take k)).length ≤ 50000000 := by
        have : (es.take k).length ≤ 1000 := by rw [List.length_take]; omega
        omega
      cases hv
      rw [List.getElem_map] at hc0 hc1
      generalize es[k] = x at *
      have hn1 := telN_len x hSk
      have hn2 := telV_len x hSk
      have Hn : Hid (w1.cell? ⟨b, o + k * 5, none⟩ = some (.string ⟨(telN x).toArray⟩)) := hc0
      have Hv : Hid (w1.cell? ⟨b, o + k * 5 + 1, none⟩ = some (.string ⟨(telV x).toArray⟩)) := hc1
      have hcA := cell_kept hbel hb Hn.out
      clear hc0 hc1 hc2 hc3 hc4 hP1 hE hP
      have hL3 : (lines21 (es.take k)).length + (ByteArray.mk (telN x).toArray).size < 70368744177664 := by rw [size_mk]; omega
      have hL4 : (lines21 (es.take k) ++ (telN x)).length < 70368744177664 := by rw [List.length_append]; omega
      have hL5 : (lines21 (es.take k) ++ (telN x) ++ [61]).length + (ByteArray.mk (telV x).toArray).size < 70368744177664 := by rw [size_mk, List.length_append, List.length_append, List.length_cons, List.length_nil]; omega
      have hL6 : (lines21 (es.take k) ++ (telN x) ++ [61] ++ (telV x)).length < 70368744177664 := by rw [List.length_append, List.length_append, List.length_append, List.length_cons, List.length_nil]; omega
      go_wp2_with (first | (at_builtin; refine wpList_append_text rfl _ _ rfl rfl rfl hown hL3 hsz ?_; intro v4 w4 hown4 hb4; have hs4 := hb4.size) | (at_builtin; refine wpList_append_byte rfl _ _ rfl rfl rfl 61 rfl hown4 hL4 (by omega) ?_; intro v5 w5 hown5 hb5; have hs5 := hb5.size; have hcB := cell_kept ((hbel.trans hb4).trans hb5) hb Hv.out) | (at_builtin; refine wpList_append_text rfl _ _ rfl rfl rfl hown5 hL5 (by omega) ?_; intro v6 w6 hown6 hb6; have hs6 := hb6.size) | (at_builtin; refine wpList_append_two rfl _ _ rfl rfl rfl 13 10 rfl rfl hown6 hL6 (by omega) ?_; intro v7 w7 hown7 hb7))
      go_roundw
      case rel => exact ⟨k + 1, by omega, by go_num, by rw [hLk.out]; unfold line; simp only [List.append_assoc, List.cons_append, List.nil_append] at hown7 ⊢; exact hown7, (((hbel.trans hb4).trans hb5).trans hb6).trans hb7⟩
      case measure => simp [intOf]; omega
    · obtain rfl : k = es.length := by omega
      rw [List.take_of_length_le (Nat.le_refl _)] at hown
      have hcb := hown.conv
      go_wp2_with fail
      go_ret
      exact ⟨rfl, bs hb1 hbel⟩
end Go.Proofs.YtafbghlldlconaaGreatDoor

/-
  PLAIN LAWS ON A TEXT's LINES (chapter 21): no program in sight.
-/
namespace Go.Proofs.YtafbghlldlconaaGreatDoor.PT
set_option linter.unusedVariables false
set_option linter.unusedSimpArgs false

/-- without an empty text at the end -/
def dropE (X : List (List UInt8)) : List (List UInt8) := if X.getLast? = some [] then X.dropLast else X
theorem dropE_cons (x : List UInt8) (X : List (List UInt8)) (h : X ≠ []) : dropE (x :: X) = x :: dropE X := by
  cases X with
  | nil => exact absurd rfl h
  | cons y r =>
    unfold dropE
    rw [List.getLast?_cons_cons]
    split
    · rw [List.dropLast_cons_of_ne_nil (by simp)]
    · rfl
/-- a text's lines, the one that has begun ahead -/
def rl (cur : List UInt8) : List UInt8 → List (List UInt8)
  | c :: d :: r => if c = 13 ∧ d = 10 then cur :: rl [] r else if brk c then cur :: rl [] (d :: r) else rl (cur ++ [c]) (d :: r)
  | [c] => if brk c then [cur] else [cur ++ [c]]
  | [] => if cur = [] then [] else [cur]
theorem rl_nil (cur : List UInt8) : rl cur [] = if cur = [] then [] else [cur] := by rw [rl]
theorem rl_crlf (cur r : List UInt8) : rl cur (13 :: 10 :: r) = cur :: rl [] r := by rw [rl, if_pos ⟨rfl, rfl⟩]
theorem rl_brk (cur : List UInt8) (c : UInt8) (r : List UInt8) (h : ¬ (c = 13 ∧ r.head? = some 10)) (hb : brk c = true) : rl cur (c :: r) = cur :: rl [] r := by
  cases r with
  | nil => rw [rl, if_pos hb, rl_nil, if_pos rfl]
  | cons d r => rw [rl, if_neg (fun e => h ⟨e.1, by rw [e.2]; rfl⟩), if_pos hb]
theorem rl_more (cur : List UInt8) (c : UInt8) (r : List UInt8) (hb : brk c = false) : rl cur (c :: r) = rl (cur ++ [c]) r := by
  cases r with
  | nil => simp [rl, hb]
  | cons d r =>
    rw [rl, if_neg (fun e => by rw [e.1] at hb; exact absurd hb (by decide)), hb]; rfl
theorem rl_lines (l : List UInt8) : ∀ cur, dropE (spl 10 cur (ends [10] l)) = rl cur l := by
  refine ends_cases (P := fun l => ∀ cur, dropE (spl 10 cur (ends [10] l)) = rl cur l) ?_ ?_ ?_ l
  · intro cur
    rw [show ends [10] [] = [] by rw [ends], rl_nil]
    unfold dropE spl
    by_cases h : cur = []
    · subst h; rfl
    · rw [if_neg h, if_neg (by simpa using h)]
  · intro r ih cur
    rw [ends_crlf, rl_crlf, show [10] ++ ends [10] r = 10 :: ends [10] r from rfl, spl, if_pos rfl, dropE_cons _ _ (spl_ne 10 _ _), ih]
  · intro c r hn ih cur
    rw [ends_one [10] c r hn]
    cases hb : brk c
    · have h10 : c ≠ 10 := fun e => by rw [e] at hb; exact absurd hb (by decide)
      rw [rl_more cur c r hb, if_neg (by simp), show [c] ++ ends [10] r = c :: ends [10] r from rfl, spl, if_neg h10, ih]
    · rw [rl_brk cur c r hn hb, if_pos rfl, show [10] ++ ends [10] r = 10 :: ends [10] r from rfl, spl, if_pos rfl, dropE_cons _ _ (spl_ne 10 _ _), ih]
theorem rl_word (x : List UInt8) (h : ∀ c ∈ x, brk c = false) : ∀ cur r, rl cur (x ++ r) = rl (cur ++ x) r := by
  induction x with
  | nil => intro cur r; simp
  | cons c x ih =>
    intro cur r
    rw [List.cons_append, rl_more cur c _ (h c (by simp)), ih (fun d hd => h d (by simp [hd]))]
    simp
theorem rl_all (X : List (List UInt8)) (h : ∀ x ∈ X, ∀ c ∈ x, brk c = false) : rl [] (X.flatMap fun x => x ++ [13, 10]) = X := by
  induction X with
  | nil => rw [List.flatMap_nil, rl_nil, if_pos rfl]
  | cons x r ih =>
    rw [List.flatMap_cons, List.append_assoc, rl_word x (h x (by simp)), List.nil_append, show [13, 10] ++ (r.flatMap fun x => x ++ [13, 10]) = 13 :: 10 :: (r.flatMap fun x => x ++ [13, 10]) from rfl, rl_crlf, ih (fun y hy => h y (by simp [hy]))]
end Go.Proofs.YtafbghlldlconaaGreatDoor.PT

/-
  plain.Split, ref21.Split, law21.same: the walks.
-/
namespace Go.Proofs.YtafbghlldlconaaGreatDoor
set_option linter.unusedVariables false
set_option linter.unusedSimpArgs false
open Go.RowKit PT

theorem Txts.init {X : List (List UInt8)} {v : Value} {w : World} (h : Txts X v w) {b o cap : Nat} (hv : v = .slice (some ⟨b, o, none⟩) X.length cap) (hb : b < w.heap.size) (hc : ∀ j x, X[j]? = some x → w.cell? ⟨b, o + j, none⟩ = some (txt x)) (hcap : X.length ≤ cap) : Txts X.dropLast (.slice (some ⟨b, o, none⟩) (X.length - 1) cap) w := by
  refine .inr ⟨b, o, cap, by rw [List.length_dropLast], hb, by rw [List.length_dropLast]; omega, fun j x hx => ?_⟩
  have hj : j < X.dropLast.length := (List.getElem?_eq_some_iff.1 hx).1
  rw [List.length_dropLast] at hj
  refine hc j x ?_
  rw [List.getElem?_dropLast, if_pos (by omega)] at hx
  exact hx
theorem some_bytes21 (x : List UInt8) : ∃ P : ByteArray, x = P.data.toList := ⟨⟨x.toArray⟩, rfl⟩
theorem txt_of21 (P : ByteArray) : txt P.data.toList = .string P := rfl
end Go.Proofs.YtafbghlldlconaaGreatDoor

/-
  The laws of chapter 21: wakes; the walks of PlainEncodes, PlainSplits.
-/
namespace Go.Proofs.YtafbghlldlconaaGreatDoor
set_option linter.unusedVariables false
set_option linter.unusedSimpArgs false
open Go.RowKit PT

theorem long21_no {es : List Ent} (h : longB es = false) : es.length ≤ 60 ∧ ∀ x ∈ es, Short x := by
  unfold longB at h
  rw [Bool.or_eq_false_iff] at h
  refine ⟨by have := of_decide_eq_false h.1; omega, fun x hx => ?_⟩
  have hx' := List.any_eq_false.1 h.2 x hx
  unfold longE at hx'
  simp only [Bool.or_eq_true, decide_eq_true_eq, not_or] at hx'
  exact ⟨by omega, by omega, by omega, by omega⟩
def exP : List Ent := [⟨⟨#[97]⟩, ⟨#[49]⟩, false, ⟨#[]⟩, ⟨#[]⟩⟩]
theorem exP_text : lines21 exP = [97, 61, 49, 13, 10] := by decide
theorem exP_ents (w : World) : Ents exP (.slice (some ⟨w.heap.size, 0, none⟩) 1 1) (w.alloc (.cells #[.string ⟨#[97]⟩, .string ⟨#[49]⟩, .bool false, .string ⟨#[]⟩, .string ⟨#[]⟩] 73)) := by
  have hn := Go.heap_alloc_new w (.cells #[.string ⟨#[97]⟩, .string ⟨#[49]⟩, .bool false, .string ⟨#[]⟩, .string ⟨#[]⟩] 73)
  refine .inr ⟨w.heap.size, 0, 1, rfl, by simp, fun j e he i u hu => ?_⟩
  have hf := flat_at exP j e he i u hu
  rw [Nat.zero_add]
  simp only [World.cell?, hn]
  simpa [exP, entCells] using hf
end Go.Proofs.YtafbghlldlconaaGreatDoor
