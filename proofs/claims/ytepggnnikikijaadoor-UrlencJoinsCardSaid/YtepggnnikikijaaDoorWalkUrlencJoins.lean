/-
  The law UrlencJoins: the walk.
-/
import Derived.Test.YtepggnnikikijaaDoorWalkUrlencBack
namespace Go.Proofs.YtepggnnikikijaaDoor
open Go.RowKit PT

theorem amp_cat (a b : List UInt8) : ByteArray.mk a.toArray ++ ByteArray.mk #[38] ++ ByteArray.mk b.toArray = ByteArray.mk (a ++ 38 :: b).toArray := by
  rw [show ByteArray.mk #[38] = ByteArray.mk [38].toArray from rfl, mk_append, mk_append]
  simp
theorem encP_len (es : List Ent) (h60 : es.length ≤ 60) (hS : ∀ x ∈ es, Short x) : (encP (told es)).length ≤ 2400060 := by
  rw [encP_told]
  have := jn_prt_len es hS
  have : es.length * 40001 ≤ 60 * 40001 := Nat.mul_le_mul_right _ h60
  omega
set_option maxHeartbeats 4000000 in
set_option maxRecDepth 100000 in
theorem urlencJoins_walk (es : List Ent) (v : Value) (ds : List Ent) (u : Value) (w : World) (hE : Ents es v w) (hD : Ents ds u w) (hT : Tables w) :
    Calls Tryd.prog 6 #[v, u] w fun e w' => e = .returned (.bool true) ∧ Below w.heap.size w w' := by
  obtain ⟨a, cap, rfl⟩ := hE.len
  obtain ⟨a', cap', rfl⟩ := hD.len
  go_enter Tryd.func6, Tryd.ntmps6
  go_wp2_with fail
  refine (wakes19_any _ hT).mono ?_
  rintro e w1 ⟨rfl, hb1⟩
  have hE1 := hE.kept hb1
  have hD1 := hD.kept hb1
  have hT1 := hT.kept hb1
  go_wp2_with fail
  refine (long19_any es _ _ hE1).mono ?_
  rintro e w' ⟨rfl, rfl⟩
  cases hl : longB es
  · obtain ⟨h60, hS⟩ := long19_no hl
    clear hl
    go_wp2_with fail
    refine (long19_any ds _ _ hD1).mono ?_
    rintro e w' ⟨rfl, rfl⟩
    cases hl2 : longB ds
    · obtain ⟨h602, hS2⟩ := long19_no hl2
      clear hl2
      by_cases he0 : es.length = 0
      · have he0' : ((es.length : Int) == 0) = true := by rw [he0]; rfl
        go_wp2_with fail
        go_ret
        exact ⟨rfl, hb1⟩
      · have he0' : ((es.length : Int) == 0) = false := intNe (by omega)
        by_cases hd0 : ds.length = 0
        · have hd0' : ((ds.length : Int) == 0) = true := by rw [hd0]; rfl
          go_wp2_with fail
          go_ret
          exact ⟨rfl, hb1⟩
        · have hd0' : ((ds.length : Int) == 0) = false := intNe (by omega)
          have hown0 := OE.lit w1
          have hb2 := (Below.refl w1.heap.size w1).alloc (Nat.le_refl _) (.cells #[] 32)
          have hE2 := hE1.kept hb2
          have hD2 := hD1.kept hb2
          have hs2 : w1.heap.size ≤ (w1.alloc (.cells #[] 32)).heap.size := hb2.size
          have hne0 : Value.slice (some ⟨w1.heap.size, 0, none⟩) 0 0 ≠ .slice none 0 0 := by simp
          have hl0 : ([] : List Ent).length + es.length < 1000000000 := by rw [List.length_nil]; omega
          have hl3 : ([] ++ es).length + ds.length < 1000000000 := by rw [List.nil_append]; omega
          have hX1 := encP_len es h60 hS
          have hX2 := encP_len ds h602 hS2
          have hTA : encP (told ([] ++ es ++ ds)) = encP (told es) ++ 38 :: encP (told ds) := by
            rw [List.nil_append, show told (es ++ ds) = told es ++ told ds from List.map_append]
            refine encP_append _ _ ?_ ?_
            · intro e; exact he0 (by have := congrArg List.length e; simpa [told] using this)
            · intro e; exact hd0 (by have := congrArg List.length e; simpa [told] using this)
          have HTA := Lib.hid hTA
          clear hTA
          go_wp2_with (first | (at_builtin; refine wpList_append_ents rfl _ _ rfl rfl rfl hE2 hown0 hl0 hs2 hne0 ?_; intro v3 w3 hown3 hne3 hb3; have hD3 := hD1.kept (hb2.trans hb3); have hs3 := hb3.size; have hs3' : w1.heap.size ≤ w3.heap.size := by omega) | (at_builtin; refine wpList_append_ents rfl _ _ rfl rfl rfl hD3 hown3 hl3 hs3' hne3 ?_; intro v4 w4 hown4 hne4 hb4))
          have hb04 : Below w1.heap.size w1 w4 := (hb2.trans hb3).trans hb4
          have hO4 := hown4.ents
          have hT4 := hT1.kept hb04
          have hE4 := hE1.kept hb04
          have hD4 := hD1.kept hb04
          refine (urlEncode_any _ v4 _ hO4 hT4 (by rw [List.length_append, List.nil_append]; omega) (fun x hx => by
            rw [List.nil_append, List.mem_append] at hx
            exact hx.elim (hS x) (hS2 x))).mono ?_
          rintro e w5 ⟨rfl, hb5⟩
          rw [HTA.out]
          clear hown4 hown3 hown0 hO4 hE2 hD2 hD3
          go_wp2_with fail
          refine (urlEncode_any es _ _ (hE4.kept hb5) (hT4.kept hb5) (by omega) hS).mono ?_
          rintro e w6 ⟨rfl, hb6⟩
          go_wp2_with fail
          refine (urlEncode_any ds _ _ ((hD4.kept hb5).kept hb6) ((hT4.kept hb5).kept hb6) (by omega) hS2).mono ?_
          rintro e w7 ⟨rfl, hb7⟩
          have hA := amp_cat (encP (told es)) (encP (told ds))
          generalize encP (told es) = A at *
          generalize encP (told ds) = B at *
          go_wp2_with fail
          go_ret
          exact ⟨rfl, bs (bs (bs (bs hb1 hb04) hb5) hb6) hb7⟩
    · go_wp2_with fail
      go_ret
      exact ⟨rfl, hb1⟩
  · go_wp2_with fail
    go_ret
    exact ⟨rfl, hb1⟩
end Go.Proofs.YtepggnnikikijaaDoor
