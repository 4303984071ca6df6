/-
  The law SubmitEnters: the walk.
-/
import Derived.Test.YtenicjebccdekaaEnter
import Derived.Test.YtenicjebccdekaaWakes24
import Derived.Test.YtenicjebccdekaaCopied
namespace Go.Proofs.Ytenicjebccdekaa
set_option linter.unusedVariables false
set_option linter.unusedSimpArgs false
open Go.RowKit PT

set_option maxHeartbeats 1000000 in
set_option maxRecDepth 100000 in
theorem submitEnters_walk (l : List Nd) (v : Value) (id : Int) (w : World) (hC : Came l v w) (hid : (Lit.int .i64 id).wf = true) :
    Calls Try.prog 13 #[v, .int .i64 id] w fun e w' => e = .returned (.bool true) ∧ Below w.heap.size w w' := by
  have hl := hC.len
  have hz := hC.fits
  go_enter Try.func13, Try.ntmps13
  go_wp2_with fail
  refine (wakes24_any _).mono ?_
  rintro e w1 ⟨rfl, hb1⟩
  have hC1 := hC.kept hb1
  go_wp2_with fail
  refine (copied_nodes l v _ hC1).mono ?_
  rintro e w2 ⟨vo, rfl, hD2, hb2⟩
  have hb02 := bs hb1 hb2
  go_wp2_with fail
  refine (enter_any l vo id hl hz _ hD2.nodes).mono ?_
  rintro e w3 ⟨rfl, hb3⟩
  have hb03 := bs hb02 hb3
  have hU3 := (hC.kept hb03).nodes
  unfold entT
  go_wp2_with fail
  refine (refEnter_any l v id hl hz _ hU3).mono ?_
  unfold entT
  generalize (entF l id).1 = p
  generalize (entF l id).2 = q
  rintro e w4 ⟨rfl, hb4⟩
  go_wp2_with fail
  go_ret
  exact ⟨rfl, bs hb03 hb4⟩
end Go.Proofs.Ytenicjebccdekaa
