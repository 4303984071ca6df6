/-
  The law OwnerDisabled: the walk.
-/
import Derived.Test.YtenicjebccdekaaWakes16
import Derived.Test.YtenicjebccdekaaRefDis
namespace Go.Proofs.Ytenicjebccdekaa
set_option linter.unusedVariables false
set_option linter.unusedSimpArgs false
open Go.RowKit PT

theorem Came.vals {l : List Nd} {v : Value} {w : World} (h : Came l v w) : ∀ x ∈ l, x.ats.length ≤ 1000000000000000 ∧ ∀ a ∈ x.ats, a.v.size ≤ 140737488351232 := fun x hx => ⟨(h.fits x hx).2.2.1, fun a ha => ((h.fits x hx).2.2.2.2 a ha).2⟩
set_option maxHeartbeats 1000000 in
set_option maxRecDepth 100000 in
theorem ownerDisabled_walk (l : List Nd) (v : Value) (id : Int) (w : World) (hC : Came l v w) (hid : (Lit.int .i64 id).wf = true) :
    Calls Try.prog 5 #[v, .int .i64 id] w fun e w' => e = .returned (.bool true) ∧ Below w.heap.size w w' := by
  go_enter Try.func5, Try.ntmps5
  go_wp2_with fail
  refine (wakes16_any _).mono ?_
  rintro e w1 ⟨rfl, hb1⟩
  have hC1 := hC.kept hb1
  go_wp2_with fail
  refine (copied_nodes l v _ hC1).mono ?_
  rintro e w2 ⟨vo, rfl, hC2, hb2⟩
  have hb02 := bs hb1 hb2
  go_wp2_with fail
  refine (disabled_any l vo id hC2.len hC2.fits hC2.vals _ hC2.nodes).mono ?_
  rintro e w3 ⟨rfl, hb3⟩
  have hb03 := bs hb02 hb3
  have hC3 := (hC1.kept hb2).kept hb3
  go_wp2_with fail
  refine (refDisabled_any l v id hC3.len hC3.fits _ hC3.nodes).mono ?_
  generalize disF l id = z
  rintro e w4 ⟨rfl, hb4⟩
  cases z
  · go_wp2_with fail
    go_ret
    exact ⟨rfl, bs hb03 hb4⟩
  · go_wp2_with fail
    go_ret
    exact ⟨rfl, bs hb03 hb4⟩
end Go.Proofs.Ytenicjebccdekaa
