/-
  The law UrlencBack: the walk.
-/
import Derived.Test.YtepggnnikikijaaDoorWalkUrlencEncodes
namespace Go.Proofs.YtepggnnikikijaaDoor
open Go.RowKit PT

theorem encP_parts (es : List Ent) (hS : ∀ x ∈ es, Short x) (h60 : es.length ≤ 60) : ∀ p ∈ spl 38 [] (encP (told es)), p.length ≤ 900000 := by
  rw [encP_told]
  by_cases h : es = []
  · subst h
    intro p hp
    simp [jn, spl] at hp
    rw [hp]; simp
  · rw [spl_jn 38 _ (fun x hx => by
      obtain ⟨y, _, rfl⟩ := List.mem_map.1 hx
      exact eqP_no38 _ _) (by simpa using h)]
    intro p hp
    obtain ⟨y, hy, rfl⟩ := List.mem_map.1 hp
    have := prt_len y (hS y hy)
    omega
theorem decE_encP (es : List Ent) : decE (spl 38 [] (encP (told es))) = es.map tel := by
  rw [decE_decP, decP_encP]
  unfold told
  rw [List.map_map]
  rfl
set_option maxHeartbeats 1000000 in
set_option maxRecDepth 100000 in
theorem urlencBack_walk (es : List Ent) (v : Value) (w : World) (hE : Ents es v w) (hT : Tables w) :
    Calls Tryd.prog 10 #[v] w fun e w' => e = .returned (.bool true) ∧ Below w.heap.size w w' := by
  go_enter Tryd.func10, Tryd.ntmps10
  go_wp2_with fail
  refine (wakes19_any _ hT).mono ?_
  rintro e w1 ⟨rfl, hb1⟩
  have hE1 := hE.kept hb1
  have hT1 := hT.kept hb1
  go_wp2_with fail
  refine (long19_any es v _ hE1).mono ?_
  rintro e w' ⟨rfl, rfl⟩
  cases hl : longB es
  · obtain ⟨h60, hS⟩ := long19_no hl
    clear hl
    have hz : (encP (told es)).length ≤ 60 * 40001 := by
      rw [encP_told]
      have := jn_prt_len es hS
      have : es.length * 40001 ≤ 60 * 40001 := Nat.mul_le_mul_right _ h60
      omega
    go_wp2_with fail
    refine (urlEncode_any es v _ hE1 hT1 (by omega) hS).mono ?_
    rintro e w2 ⟨rfl, hb2⟩
    have hR := decE_encP es
    have hP := encP_parts es hS h60
    go_wp2_with fail
    refine (urlDecode_any ⟨(encP (told es)).toArray⟩ (by rw [size_mk]; omega) hP _ (hT1.kept hb2)).mono ?_
    rintro e w3 ⟨⟨v3, rfl, hO3⟩, hb3⟩
    have hO3' : Ents (es.map tel) v3 w3 := hR ▸ hO3.ents
    clear hR hO3 hP
    go_wp2_with fail
    refine (refPlain19_any es v _ ((hE1.kept hb2).kept hb3) (by omega) hS).mono ?_
    rintro e w4 ⟨⟨v4, rfl, hO4⟩, hb4⟩
    have hO4' := hO4.ents
    go_wp2_with fail
    refine (sameFiles_yes _ v3 v4 _ (hO3'.kept hb4) hO4' (by rw [List.length_map]; omega)).mono ?_
    rintro e w5 ⟨rfl, hb5⟩
    go_wp2_with fail
    go_ret
    exact ⟨rfl, bs (bs (bs (bs hb1 hb2) hb3) hb4) hb5⟩
  · go_wp2_with fail
    go_ret
    exact ⟨rfl, hb1⟩
end Go.Proofs.YtepggnnikikijaaDoor
