/-
  The law ColourParts: the walk.
-/
import Derived.Test.YtiflaniobnjlpaaDoorWalkColourCleans
namespace Go.Proofs.YtiflaniobnjlpaaDoor
open Go.RowKit PT

set_option maxHeartbeats 1000000 in
set_option maxRecDepth 100000 in
theorem colourParts_walk (s : ByteArray) (_hs : s.size ≤ maxLen) (w : World) (_hT : Tables w) :
    Calls Tryd.prog 6 #[.string s] w fun e w' => e = .returned (.bool true) ∧ Below w.heap.size w w' := by
  go_enter Tryd.func6, Tryd.ntmps6
  go_wp2_with fail
  cases hc : isCol s.data.toList
  · have HC := Lib.hid hc
    refine (parts_no s hc _).mono ?_
    rintro e w1 ⟨rfl, hb1⟩
    clear hc
    go_wp2_with fail
    refine (wakes06_any _).mono ?_
    rintro e w2 ⟨rfl, hb2⟩
    go_wp2_with fail
    refine (refSimple_any _ _).mono ?_
    rintro e w' ⟨rfl, rfl⟩
    rw [HC.out]
    go_wp2_with fail
    go_ret
    exact ⟨rfl, bs hb1 hb2⟩
  · have HC := Lib.hid hc
    have hz : s.size = 7 := by
      obtain ⟨r, hr, h6, _⟩ := isCol_shape _ hc
      rw [← size_list, hr]; simp [h6]
    refine (parts_yes s hc _).mono ?_
    rintro e w1 ⟨rfl, hb1⟩
    have hg : ∀ k (h : k < s.size), s.data.toList.getD k 0 = s[k] := fun k h => by simp [List.getD, h]; rfl
    have hd : ∀ k (h : k < s.size), 1 ≤ k → digN s[k] < 16 := fun k h h1 => by
      have := isCol_dig _ hc k h1 (by omega)
      rwa [hg k h] at this
    have hp : ∀ k (h : k + 1 < s.size), 1 ≤ k → ((digN s[k] * 16 + digN s[k + 1] : Nat) : Int) = (partN s.data.toList k : Int) := fun k h h1 => by
      unfold partN
      rw [hg k (by omega), hg (k + 1) h]
    have hB := partN_lt _ hc
    have Hsh : ∀ W : World, Calls Tryd.prog 21 #[.int .u8 (partN s.data.toList 1), .int .u8 (partN s.data.toList 3), .int .u8 (partN s.data.toList 5)] W fun e w' => e = .returned (.string ⟨(clean s.data.toList).toArray⟩) ∧ Below W.heap.size W w' := fun W => by
      have q : ∀ n : Nat, n < 256 → ((UInt8.ofNat n).toNat : Int) = n := fun n hn => by simp; omega
      have h := show_any (UInt8.ofNat (partN s.data.toList 1)) (UInt8.ofNat (partN s.data.toList 3)) (UInt8.ofNat (partN s.data.toList 5)) W
      rwa [q _ hB.1, q _ hB.2.1, q _ hB.2.2, show_parts _ hc] at h
    clear hc
    go_wp2_with fail
    refine (wakes06_any _).mono ?_
    rintro e w2 ⟨rfl, hb2⟩
    go_wp2_with fail
    refine (refSimple_any _ _).mono ?_
    rintro e w' ⟨rfl, rfl⟩
    rw [HC.out]
    go_wp2_with fail
    refine (pair_any s 1 (by omega) (by omega) (hd 1 (by omega) (by omega)) (hd 2 (by omega) (by omega)) _).mono ?_
    rintro e w3 ⟨rfl, hb3⟩
    rw [hp 1 (by omega) (by omega)]
    go_wp2_with fail
    refine (pair_any s 3 (by omega) (by omega) (hd 3 (by omega) (by omega)) (hd 4 (by omega) (by omega)) _).mono ?_
    rintro e w4 ⟨rfl, hb4⟩
    rw [hp 3 (by omega) (by omega)]
    go_wp2_with fail
    refine (pair_any s 5 (by omega) (by omega) (hd 5 (by omega) (by omega)) (hd 6 (by omega) (by omega)) _).mono ?_
    rintro e w5 ⟨rfl, hb5⟩
    rw [hp 5 (by omega) (by omega)]
    go_wp2_with fail
    refine (Hsh _).mono ?_
    rintro e w6 ⟨rfl, hb6⟩
    go_wp2_with fail
    refine (clean_any _ _).mono ?_
    rintro e w7 ⟨rfl, hb7⟩
    go_wp2_with fail
    go_ret
    exact ⟨rfl, bs (bs (bs (bs (bs (bs hb1 hb2) hb3) hb4) hb5) hb6) hb7⟩
end Go.Proofs.YtiflaniobnjlpaaDoor
