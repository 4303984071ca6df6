/-
  A ROW OF ONE'S OWN, SHORTENED BY ITS LAST: s = s[:len(s)-1].
-/
import Derived.Test.YtenicjebccdekaaRows1
namespace Go.Proofs.Ytenicjebccdekaa
set_option linter.unusedVariables false
set_option linter.unusedSimpArgs false
open Go.RowKit

theorem OV.pop {base : Nat} {T : TypeId} {xs : List Value} {u : Value} {g n cap : Nat} {w : World} (h : OV base T (xs ++ [u]) (.slice (some ⟨g, 0, none⟩) n cap) w) : OV base T xs (.slice (some ⟨g, 0, none⟩) xs.length cap) w := by
  obtain ⟨_, ⟨hv, _⟩ | ⟨g', cap', cur, hv, h2, h3, h4, h5, h6, h7⟩⟩ := h
  · cases hv
  · cases hv
    refine ⟨by omega, .inr ⟨g, cap, cur, rfl, h2, h3, ?_, h5, h6, ?_⟩⟩
    · rw [List.length_append] at h4; omega
    · have h8 := congrArg (List.take (xs.length * 1)) h7
      rw [List.take_take, List.length_append] at h8
      rw [show min (xs.length * 1) ((xs.length + [u].length) * 1) = xs.length * 1 by omega] at h8
      rw [h8, Nat.mul_one, List.take_left]
end Go.Proofs.Ytenicjebccdekaa
