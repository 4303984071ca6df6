/-
  The law SubmitSettings: the walk.
-/
import Derived.Test.YtenicjebccdekaaSettings
import Derived.Test.YtenicjebccdekaaWakes24
import Derived.Test.YtenicjebccdekaaCopied
namespace Go.Proofs.Ytenicjebccdekaa
set_option linter.unusedVariables false
set_option linter.unusedSimpArgs false
open Go.RowKit PT

set_option maxHeartbeats 1000000 in
set_option maxRecDepth 100000 in
theorem submitSettings_walk (l : List Nd) (v : Value) (f s : Int) (w : World) (hC : Came l v w) (hf : (Lit.int .i64 f).wf = true) (hs : (Lit.int .i64 s).wf = true) :
    Calls Try.prog 11 #[v, .int .i64 f, .int .i64 s] w fun e w' => e = .returned (.bool true) ∧ Below w.heap.size w w' := by
  have hl := hC.len
  have hz := hC.fits
  go_enter Try.func11, Try.ntmps11
  go_wp2_with fail
  refine (copied_nodes l v _ hC).mono ?_
  rintro e w1 ⟨vo, rfl, hD1, hb1⟩
  go_wp2_with fail
  refine (wakes24_any _).mono ?_
  rintro e w2 ⟨rfl, hb2⟩
  have hb02 := bs hb1 hb2
  have hD2 := (hD1.kept hb2).nodes
  go_wp2_with fail
  refine (method_any l vo f s hl hz _ hD2).mono ?_
  rintro e w3 ⟨rfl, hb3⟩
  have hb03 := bs hb02 hb3
  have hU3 := (hC.kept hb03).nodes
  have hD3 := hD2.kept hb3
  go_wp2_with fail
  refine (refMethod_any l v f s hl hz _ hU3).mono ?_
  generalize methF l f s = m
  rintro e w4 ⟨rfl, hb4⟩
  have hb04 := bs hb03 hb4
  have hD4 := hD3.kept hb4
  go_wp2_with fail
  refine (kind24_any l vo f s hl hz _ hD4).mono ?_
  rintro e w5 ⟨rfl, hb5⟩
  have hb05 := bs hb04 hb5
  have hU5 := (hC.kept hb05).nodes
  have hD5 := hD4.kept hb5
  go_wp2_with fail
  refine (refKind24_any l v f s hl hz _ hU5).mono ?_
  generalize kinF l f s = k
  rintro e w6 ⟨rfl, hb6⟩
  have hb06 := bs hb05 hb6
  have hD6 := hD5.kept hb6
  go_wp2_with fail
  refine (asks_any l vo f s hl hz _ hD6).mono ?_
  rintro e w7 ⟨rfl, hb7⟩
  have hb07 := bs hb06 hb7
  have hU7 := (hC.kept hb07).nodes
  go_wp2_with fail
  refine (refAsks_any l v f s hl hz _ hU7).mono ?_
  generalize asksF l f s = k9
  rintro e w8 ⟨rfl, hb8⟩
  cases k9
  · go_wp2_with fail
    go_ret
    exact ⟨rfl, bs hb07 hb8⟩
  · go_wp2_with fail
    go_ret
    exact ⟨rfl, bs hb07 hb8⟩
end Go.Proofs.Ytenicjebccdekaa
