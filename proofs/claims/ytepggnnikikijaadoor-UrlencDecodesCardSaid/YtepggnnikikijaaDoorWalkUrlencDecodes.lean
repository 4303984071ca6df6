/-
  The law UrlencDecodes: the walk.
-/
import Derived.Test.YtepggnnikikijaaDoorWalkUrlencEncodes
namespace Go.Proofs.YtepggnnikikijaaDoor
open Go.RowKit PT

set_option maxHeartbeats 1000000 in
set_option maxRecDepth 100000 in
theorem urlencDecodes_walk (s : ByteArray) (_hs : s.size ≤ maxLen) (w : World) (hT : Tables w) :
    Calls Tryd.prog 9 #[.string s] w fun e w' => e = .returned (.bool true) ∧ Below w.heap.size w w' := by
  go_enter Tryd.func9, Tryd.ntmps9
  go_wp2_with fail
  refine (wakes19_any _ hT).mono ?_
  rintro e w1 ⟨rfl, hb1⟩
  have hT1 := hT.kept hb1
  by_cases hl : 8192 < s.size
  · have hl' : (8192 : Int) < (s.size : Int) := by omega
    go_wp2_with fail
    go_ret
    exact ⟨rfl, hb1⟩
  · have hl' : decide ((8192 : Int) < (s.size : Int)) = false := by simp; omega
    have hP : ∀ p ∈ spl 38 [] s.data.toList, p.length ≤ 900000 := fun p hp => by
      have := spl_small 38 _ _ p hp
      rw [size_list, List.length_nil] at this
      omega
    have hcnt : (decE (spl 38 [] s.data.toList)).length ≤ 4294967296 := by
      have h1 := decE_len (spl 38 [] s.data.toList) (spl 38 [] s.data.toList).length
      rw [List.take_of_length_le (Nat.le_refl _)] at h1
      have h2 := spl_count 38 s.data.toList []
      rw [size_list] at h2
      omega
    go_wp2_with fail
    refine (urlDecode_any s (by omega) hP _ hT1).mono ?_
    rintro e w2 ⟨⟨v2, rfl, hO2⟩, hb2⟩
    have hO2' := hO2.ents
    go_wp2_with fail
    refine (refDecode19_any s (by omega) hP _).mono ?_
    rintro e w3 ⟨⟨v3, rfl, hO3⟩, hb3⟩
    have hO3' := hO3.ents
    go_wp2_with fail
    refine (sameFiles_yes _ v2 v3 _ (hO2'.kept hb3) hO3' hcnt).mono ?_
    rintro e w4 ⟨rfl, hb4⟩
    go_wp2_with fail
    go_ret
    exact ⟨rfl, bs (bs (bs hb1 hb2) hb3) hb4⟩
end Go.Proofs.YtepggnnikikijaaDoor
