/-
  The law OwnerElements: the walk.
-/
import Derived.Test.YtenicjebccdekaaWakes16
namespace Go.Proofs.Ytenicjebccdekaa
set_option linter.unusedVariables false
set_option linter.unusedSimpArgs false
open Go.RowKit PT

theorem elemsF_len (l : List Nd) (id : Int) : (elemsF l id).length ≤ l.length := Nat.le_trans (List.length_filter_le _ _) (inF_len id)
set_option maxHeartbeats 1000000 in
set_option maxRecDepth 100000 in
theorem ownerElements_walk (l : List Nd) (v : Value) (id : Int) (w : World) (hC : Came l v w) (hid : (Lit.int .i64 id).wf = true) :
    Calls Try.prog 4 #[v, .int .i64 id] w fun e w' => e = .returned (.bool true) ∧ Below w.heap.size w w' := by
  have hel := Nat.le_trans (elemsF_len l id) hC.len
  go_enter Try.func4, Try.ntmps4
  go_wp2_with fail
  refine (copied_nodes l v _ hC).mono ?_
  rintro e w1 ⟨vo, rfl, hD1, hb1⟩
  go_wp2_with fail
  refine (wakes16_any _).mono ?_
  rintro e w2 ⟨rfl, hb2⟩
  have hb02 := bs hb1 hb2
  have hD2 := hD1.kept hb2
  go_wp2_with fail
  refine (elements_any l vo id hD2.len hD2.fits _ hD2.nodes).mono ?_
  rintro e w3 ⟨v3, rfl, hov3, hb3⟩
  have hb03 := bs hb02 hb3
  have hC3 := hC.kept hb03
  go_wp2_with fail
  refine (refElements_any l v id hC3.len hC3.fits _ hC3.nodes).mono ?_
  rintro e w4 ⟨v4, rfl, hov4, hb4⟩
  have hb04 := bs hb03 hb4
  go_wp2_with fail
  refine (sameInts_any _ _ v3 v4 hel hel _ (hov3.nums.kept hb4) hov4.nums).mono ?_
  rintro e w5 ⟨rfl, hb5⟩
  rw [decide_eq_true rfl]
  have hb05 := bs hb04 hb5
  have hD5 := ((hD2.kept hb3).kept hb4).kept hb5
  go_wp2_with fail
  refine (default_any l vo id hD5.len hD5.fits _ hD5.nodes).mono ?_
  rintro e w6 ⟨rfl, hb6⟩
  have hb06 := bs hb05 hb6
  have hC6 := hC.kept hb06
  go_wp2_with fail
  refine (refDefault_any l v id hC6.len hC6.fits _ hC6.nodes).mono ?_
  generalize defF l id = z
  rintro e w7 ⟨rfl, hb7⟩
  go_wp2_with fail
  go_ret
  exact ⟨rfl, bs hb06 hb7⟩
end Go.Proofs.Ytenicjebccdekaa
