/-
  AN ARGUMENT THAT IS A FORM's QUESTION (counterfoillaw24.Ask), opened.
-/
import Derived.Test.YtafbghlldlconaaGreatDoorOpenDoc
import Derived.Test.YtafbghlldlconaaGreatDoorPart17
namespace Go.Proofs.YtafbghlldlconaaGreatDoor
set_option linter.unusedVariables false
set_option linter.unusedSimpArgs false
open Go.RowKit Go.ChangeShapes Go.WideShapes Go.Deep

section
variable {H : Type} {enc : TypeId × Value → H} {w : World} {base : Nat} {spare : Nat → Bool} {held : Bool}
set_option maxRecDepth 100000 in
theorem open_txts_t {fuel : Nat} {v : Value} {x : DataW H × List MemPlace} (hf : DataW.trod enc Tryz.prog w base spare held fuel 26 [v] = some x) : ∃ X, Txts X v w := by
  rcases open_strs Tryz.underlying26 Tryz.underlying9 (by kernel_rfl) hf with ⟨hc, _⟩ | ⟨a', len', cap', m, Sx, hc, hb, hl, hm, hlm, hx, hi⟩
  · have hc' : v = .slice none 0 0 := (List.cons.inj hc).1
    exact ⟨[], .inl ⟨rfl, none, 0, hc', fun _ => rfl⟩⟩
  · have hc' : v = .slice (some a') len' cap' := (List.cons.inj hc).1
    subst hc'
    have hlm' : len' ≤ m := by rw [hlm]; split <;> omega
    obtain ⟨X, hlen, hes⟩ := list_of (α := List UInt8) (P := fun i x => w.cell? (a'.add i) = some (txt x)) len' (fun i hi' => ⟨(Sx i).data.toList, (hi i (by omega)).1⟩)
    by_cases h0 : len' = 0
    · exact ⟨[], .inl ⟨rfl, _, cap', by rw [h0], fun e => by cases e⟩⟩
    · have hn : 0 < X.length := by omega
      have h00 := hes 0 X[0] (List.getElem?_eq_getElem hn)
      obtain ⟨hsp, hbl⟩ := spot_none h00 rfl
      obtain ⟨b, o, sp⟩ := a'
      simp only at hsp hbl
      subst hsp
      refine ⟨X, .inr ⟨b, o, cap', by rw [hlen], hbl, by omega, fun j x hj => ?_⟩⟩
      have := hes j x hj
      rw [addr_add] at this
      exact this
set_option maxRecDepth 100000 in
theorem open_ask {r : Reach} {b0 : Nat} {v : Value} {d : DataW H} {p : List MemPlace} (hv : Value.okWide Tryz.prog w r b0 28 v) (h : DataW.Trod enc Tryz.prog w base spare held 28 v d p) (hw : WOk Tryz.prog 28 d) :
    ∃ f s X vx, v = .agg #[.int .i64 f, .int .i64 s, vx] ∧ Txts X vx w := by
  unfold Value.okWide at hv
  rw [Tryz.underlying28] at hv
  obtain ⟨cs, rfl, hsz, _⟩ := hv
  rw [show Tryz.prog.cellsOf 28 = 3 by kernel_rfl] at hsz
  obtain ⟨fuel, hf⟩ := h
  have hcs : cs = #[cs[0], cs[1], cs[2]] := by
    apply Array.ext
    · simpa using hsz
    · intro i h1 h2
      match i, h1 with
      | 0, _ => rfl
      | 1, _ => rfl
      | 2, _ => rfl
      | n + 3, h => omega
  generalize cs[0] = v0 at hcs
  generalize cs[1] = v1 at hcs
  generalize cs[2] = v2 at hcs
  subst hcs
  have hS := open_struct_w Tryz.underlying28 (by kernel_rfl) hf hw (by kernel_rfl)
  obtain ⟨n0, u0, y0, c0, t0, w0⟩ := hS 0 _ rfl
  obtain ⟨n1, u1, y1, c1, t1, w1⟩ := hS 1 _ rfl
  obtain ⟨n2, u2, y2, c2, t2, w2⟩ := hS 2 _ rfl
  cases c0
  cases c1
  cases c2
  obtain ⟨f, e0, _⟩ := DataW.trod_int Tryz.underlying3 t0
  obtain ⟨s, e1, _⟩ := DataW.trod_int Tryz.underlying3 t1
  obtain rfl := (List.cons.inj e0).1
  obtain rfl := (List.cons.inj e1).1
  obtain ⟨X, hX⟩ := open_txts_t t2
  exact ⟨f, s, X, _, rfl, hX⟩
end
end Go.Proofs.YtafbghlldlconaaGreatDoor
