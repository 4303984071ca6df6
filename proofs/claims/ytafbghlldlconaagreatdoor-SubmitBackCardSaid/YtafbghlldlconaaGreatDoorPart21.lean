import Derived.Test.YtafbghlldlconaaGreatDoorPart2
import Derived.Test.YtafbghlldlconaaGreatDoorPart20
/-
  AN ARGUMENT THAT IS A SLICE OF ENTRIES, opened to its entries; what arguments of any type read behind the call.
-/
namespace Go.Proofs.YtafbghlldlconaaGreatDoor
set_option linter.unusedVariables false
set_option linter.unusedSimpArgs false
open Go.RowKit Go.ChangeShapes Go.WideShapes Go.Deep

section
variable {H : Type} {enc : TypeId × Value → H} {P : Program} {w : World} {base : Nat} {spare : Nat → Bool} {held : Bool}
/-- a slice of structs of one-cell fields -/
theorem open_slice_fields {t e : TypeId} {fs : Array Field} {fuel : Nat} {cs : List Value} {x : DataW H × List MemPlace} (ht : P.underlying t = some (.slice e)) (he : P.underlying e = some (.struct fs))
    (hone : oneCellFields P fs = true) (hC : P.cellsOf e = fs.size) (h : DataW.trod enc P w base spare held fuel t cs = some x) :
    (cs = [.slice none 0 0] ∧ x = (.nil, [])) ∨
    ∃ (a : Addr) (len cap m : Nat), cs = [.slice (some a) len cap] ∧ len ≤ cap ∧ cap ≤ maxLen ∧ len ≤ m ∧
      ∀ i, i < m → ∃ n : Nat, ∀ (j : Nat) (f : Field), fs[j]? = some f → ∃ (v : Value) (y : DataW H × List MemPlace), w.cell? (a.add (i * fs.size + j)) = some v ∧ DataW.trod enc P w base spare held n f.type [v] = some y := by
  rcases open_slice ht h with h0 | ⟨a, len, cap, m, n, D, Pl, hcs, hb, hl, hm, hmm, hx, hi⟩
  · exact .inl h0
  · refine .inr ⟨a, len, cap, m, hcs, hl, hm, by rw [hmm]; split <;> omega, fun i him => ?_⟩
    obtain ⟨cs', hc, ht'⟩ := hi i him
    rw [hC] at hc
    obtain ⟨ys, n', hn', hy, hlen, hyl, hf⟩ := DataW.trod_struct he ht'
    obtain ⟨_, hcl, hat⟩ := World.cells?_some hc
    refine ⟨n', fun j f hj => ?_⟩
    obtain ⟨ho, hk⟩ := hone_of hone j f hj
    have hjl : j < fs.size := (Array.getElem?_eq_some_iff.1 hj).1
    have hcell := hat j hjl
    have hv : cs'[j]? = some (cs'[j]'(by omega)) := List.getElem?_eq_getElem (by omega)
    have h1 := hf j f hj
    rw [ho, hk] at h1
    have hone' : (cs'.drop j).take 1 = [cs'[j]'(by omega)] := by
      rw [List.drop_eq_getElem_cons (by omega)]
      rfl
    rw [hone'] at h1
    have hys : ys[j]? = some (ys[j]'(by omega)) := List.getElem?_eq_getElem (by omega)
    exact ⟨_, _, by rw [← Go.Deep.add_add, hcell, hv], h1.trans hys⟩
end
section
variable {H : Type} {enc : TypeId × Value → H} {w : World} {spare : Nat → Bool} {held : Bool}
set_option maxRecDepth 100000 in
/-- OPENED: a slice of entries -/
theorem open_ents {r : Reach} {b0 base : Nat} {v : Value} {d : DataW H} {p : List MemPlace} (hv : Value.okWide Tryz.prog w r b0 29 v) (h : DataW.Trod enc Tryz.prog w base spare held 29 v d p) : ∃ es, Ents es v w := by
  obtain ⟨a, len, cap, rfl⟩ := okWide_slice Tryz.underlying29 hv
  obtain ⟨fuel, hf⟩ := h
  rcases open_slice_fields Tryz.underlying29 Tryz.underlying73 (by kernel_rfl) (by kernel_rfl) hf with ⟨hc, _⟩ | ⟨a', len', cap', m, hc, hl, hm, hlm, hi⟩
  · have hc' : Value.slice a len cap = .slice none 0 0 := (List.cons.inj hc).1
    exact ⟨[], .inl ⟨rfl, none, 0, hc', fun _ => rfl⟩⟩
  · have hc' : Value.slice a len cap = .slice (some a') len' cap' := (List.cons.inj hc).1
    have hone : ∀ i, i < len' → ∃ e : Ent, ∀ j u, (entCells e)[j]? = some u → w.cell? (a'.add (i * 5 + j)) = some u := by
      intro i hil
      obtain ⟨n, hf⟩ := hi i (by omega)
      obtain ⟨v0, y0, c0, t0⟩ := hf 0 _ rfl
      obtain ⟨v1, y1, c1, t1⟩ := hf 1 _ rfl
      obtain ⟨v2, y2, c2, t2⟩ := hf 2 _ rfl
      obtain ⟨v3, y3, c3, t3⟩ := hf 3 _ rfl
      obtain ⟨v4, y4, c4, t4⟩ := hf 4 _ rfl
      obtain ⟨s0, e0, _⟩ := DataW.trod_string Tryz.underlying9 t0
      obtain ⟨s1, e1, _⟩ := DataW.trod_string Tryz.underlying9 t1
      obtain ⟨s2, e2, _⟩ := DataW.trod_bool Tryz.underlying4 t2
      obtain ⟨s3, e3, _⟩ := DataW.trod_string Tryz.underlying9 t3
      obtain ⟨s4, e4, _⟩ := DataW.trod_string Tryz.underlying9 t4
      obtain rfl := (List.cons.inj e0).1
      obtain rfl := (List.cons.inj e1).1
      obtain rfl := (List.cons.inj e2).1
      obtain rfl := (List.cons.inj e3).1
      obtain rfl := (List.cons.inj e4).1
      refine ⟨⟨s0, s1, s2, s3, s4⟩, fun j u hu => ?_⟩
      match j, hu with
      | 0, hu => cases hu; exact c0
      | 1, hu => cases hu; exact c1
      | 2, hu => cases hu; exact c2
      | 3, hu => cases hu; exact c3
      | 4, hu => cases hu; exact c4
    obtain ⟨es, hlen, hes⟩ := list_of len' hone
    cases hc'
    by_cases h0 : len = 0
    · exact ⟨[], .inl ⟨rfl, _, cap, by rw [h0], fun e => by cases e⟩⟩
    · have hn : 0 < es.length := by omega
      have h00 := hes 0 es[0] (List.getElem?_eq_getElem hn) 0 _ rfl
      obtain ⟨hsp, hb⟩ := spot_none h00 (by rfl)
      obtain ⟨b, o, sp⟩ := a'
      simp only at hsp hb
      subst hsp
      refine ⟨es, .inr ⟨b, o, cap, by rw [hlen], hb, fun j e he i u hu => ?_⟩⟩
      have := hes j e he i u hu
      rw [addr_add] at this
      rw [Nat.add_assoc]
      exact this
end
end Go.Proofs.YtafbghlldlconaaGreatDoor
