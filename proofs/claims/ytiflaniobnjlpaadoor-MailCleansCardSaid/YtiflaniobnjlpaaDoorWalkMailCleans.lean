/-
  The law MailCleans: the walk.
-/
import Derived.Test.YtiflaniobnjlpaaDoorWalkMailAddress
namespace Go.Proofs.YtiflaniobnjlpaaDoor
open Go.RowKit PT

theorem clean_ex : cleanM [32, 97, 32, 44, 32, 98] = [97, 44, 98] := by decide
theorem trim_ex : trimM [32, 97, 10] = [97] := by decide
theorem cleanM_short (s : ByteArray) (h : s.size ≤ 8192) : (cleanM s.data.toList).length ≤ 8192 := by
  have hm : ∀ (f : List UInt8 → List UInt8), (∀ x, (f x).length ≤ x.length) → ∀ X : List (List UInt8), (jn 44 (X.map f)).length ≤ (jn 44 X).length := by
    intro f hf X
    cases X with
    | nil => simp [jn]
    | cons x r =>
      simp only [List.map_cons, jn, List.length_append]
      have h1 := hf x
      have h2 : ((r.map f).flatMap fun y => (44 : UInt8) :: y).length ≤ (r.flatMap fun y => (44 : UInt8) :: y).length := by
        induction r with
        | nil => simp
        | cons y r ih =>
          have := hf y
          simp only [List.map_cons, List.flatMap_cons, List.length_append, List.length_cons]
          omega
      omega
  have h1 := hm strip strip_len (spl 44 [] s.data.toList)
  rw [jn_spl, List.nil_append, size_list] at h1
  unfold cleanM
  omega
theorem trimM_short (s : ByteArray) (h : s.size ≤ 8192) : (trimM s.data.toList).length ≤ 8192 := by
  unfold trimM
  have h1 := strip_len (ends [] s.data.toList)
  have h2 := ends_len [] s.data.toList
  rw [size_list] at h2
  simp only [List.length_nil] at h2
  omega
set_option maxHeartbeats 1000000 in
set_option maxRecDepth 100000 in
theorem mailCleans_walk (s : ByteArray) (_hs : s.size ≤ maxLen) (w : World) (hT : Tables w) :
    Calls Tryd.prog 9 #[.string s] w fun e w' => e = .returned (.bool true) ∧ Below w.heap.size w w' := by
  go_enter Tryd.func9, Tryd.ntmps9
  go_wp2_with fail
  refine (mailClean_any _ (by decide) _ hT).mono ?_
  rintro e w1 ⟨rfl, hb1⟩
  rw [show cleanM (ByteArray.mk #[32, 97, 32, 44, 32, 98]).data.toList = _ from clean_ex]
  have hT1 := hT.kept hb1
  go_wp2_with fail
  refine (mailTrim_any _ (by decide) _ hT1).mono ?_
  rintro e w2 ⟨rfl, hb2⟩
  rw [show trimM (ByteArray.mk #[32, 97, 10]).data.toList = _ from trim_ex]
  have hT2 := hT1.kept hb2
  go_wp2_with fail
  refine (long07_any s _).mono ?_
  rintro e w' ⟨rfl, rfl⟩
  by_cases hl : 8192 < s.size
  · rw [decide_eq_true hl]
    go_wp2_with fail
    go_ret
    exact ⟨rfl, bs hb1 hb2⟩
  · rw [decide_eq_false hl]
    have hcs := cleanM_short s (by omega)
    have hts := trimM_short s (by omega)
    go_wp2_with fail
    refine (mailClean_any s (by omega) _ hT2).mono ?_
    rintro e w3 ⟨rfl, hb3⟩
    have hT3 := hT2.kept hb3
    go_wp2_with fail
    refine (mailTrim_any s (by omega) _ hT3).mono ?_
    rintro e w4 ⟨rfl, hb4⟩
    have hT4 := hT3.kept hb4
    go_wp2_with fail
    refine (refClean07_any s (by omega) _).mono ?_
    rintro e w5 ⟨rfl, hb5⟩
    have hT5 := hT4.kept hb5
    go_wp2_with fail
    refine (refTrim_any s (by omega) _).mono ?_
    rintro e w6 ⟨rfl, hb6⟩
    have hT6 := hT5.kept hb6
    go_wp2_with fail
    refine (mailClean_any ⟨(cleanM s.data.toList).toArray⟩ (by rw [size_mk]; omega) _ hT6).mono ?_
    rintro e w7 ⟨rfl, hb7⟩
    rw [show cleanM (ByteArray.mk (cleanM s.data.toList).toArray).data.toList = _ from cleanM_twice _]
    have hT7 := hT6.kept hb7
    go_wp2_with fail
    refine (mailTrim_any ⟨(trimM s.data.toList).toArray⟩ (by rw [size_mk]; omega) _ hT7).mono ?_
    rintro e w8 ⟨rfl, hb8⟩
    rw [show trimM (ByteArray.mk (trimM s.data.toList).toArray).data.toList = _ from trimM_twice _]
    have hT8 := hT7.kept hb8
    have hb08 := bs (bs (bs (bs (bs (bs (bs hb1 hb2) hb3) hb4) hb5) hb6) hb7) hb8
    by_cases hz : (cleanM s.data.toList).length = 0
    · have hz' := intEq (a := ((cleanM s.data.toList).length : Int)) (b := 0) (by omega)
      have HZ := Lib.hid hz
      clear hz
      go_wp2_with fail
      go_ret
      exact ⟨rfl, hb08⟩
    · have hz' := intNe (a := ((cleanM s.data.toList).length : Int)) (b := 0) (by omega)
      have hLs := cleanM_list s.data.toList (by cases h : cleanM s.data.toList with | nil => rw [h] at hz; exact absurd rfl hz | cons _ _ => rfl)
      have HLs := Lib.hid hLs
      clear hLs
      go_wp2_with fail
      refine (mailList_any ⟨(cleanM s.data.toList).toArray⟩ (by rw [size_mk]; omega) _ hT8).mono ?_
      rintro e w9 ⟨rfl, hb9⟩
      rw [show isList (ByteArray.mk (cleanM s.data.toList).toArray).data.toList = _ from HLs.out]
      have hT9 := hT8.kept hb9
      go_wp2_with fail
      refine (mailList_any s (by omega) _ hT9).mono ?_
      rintro e w10 ⟨rfl, hb10⟩
      go_wp2_with fail
      go_ret
      exact ⟨rfl, bs (bs hb08 hb9) hb10⟩
end Go.Proofs.YtiflaniobnjlpaaDoor
