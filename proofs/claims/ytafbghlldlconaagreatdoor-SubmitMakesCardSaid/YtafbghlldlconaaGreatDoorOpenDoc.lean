/-
  AN ARGUMENT THAT IS A DOCUMENT WITH STATES, opened.
-/
import Derived.Test.YtafbghlldlconaaGreatDoorPart18
import Derived.Test.YtafbghlldlconaaGreatDoorPart8
namespace Go.Proofs.YtafbghlldlconaaGreatDoor
set_option linter.unusedVariables false
set_option linter.unusedSimpArgs false
open Go.RowKit Go.ChangeShapes Go.WideShapes Go.Deep

section
variable {H : Type} {enc : TypeId × Value → H} {w : World} {base : Nat} {spare : Nat → Bool} {held : Bool}
set_option maxRecDepth 100000 in
theorem open_ents_w {fuel : Nat} {v : Value} {x : DataW H × List MemPlace} (h : DataW.trod enc Tryz.prog w base spare held fuel 29 [v] = some x) (hw : WOk Tryz.prog 29 x.1) :
    ∃ l, Ents l v w ∧ l.length * 72 ≤ 140737488351232 := by
  rcases open_slice_w Tryz.underlying29 h hw with hc | ⟨a, len, cap, hc, hl, hby, hi⟩
  · have hc' : v = .slice none 0 0 := (List.cons.inj hc).1
    exact ⟨[], .inl ⟨rfl, none, 0, hc', fun _ => rfl⟩, by simp⟩
  · have hc' : v = .slice (some a) len cap := (List.cons.inj hc).1
    rw [show Tryz.prog.bytesOf 73 = 72 by kernel_rfl, show reachBytes = 140737488351232 by rfl] at hby
    rw [show Tryz.prog.cellsOf 73 = 5 by kernel_rfl] at hi
    obtain ⟨l, hlen, hes⟩ := list_of (α := Ent) (P := fun i e => ∀ j u, (entCells e)[j]? = some u → w.cell? (a.add (i * 5 + j)) = some u) len (fun i hil => by
      obtain ⟨cs', n, y, hcc, hty, hwy⟩ := hi i hil
      obtain ⟨_, hcl, hat⟩ := World.cells?_some hcc
      have hS := open_struct_w Tryz.underlying73 (by kernel_rfl) hty hwy (by kernel_rfl)
      obtain ⟨n0, v0, y0, c0, t0, w0⟩ := hS 0 _ rfl
      obtain ⟨n1, v1, y1, c1, t1, w1⟩ := hS 1 _ rfl
      obtain ⟨n2, v2, y2, c2, t2, w2⟩ := hS 2 _ rfl
      obtain ⟨n3, v3, y3, c3, t3, w3⟩ := hS 3 _ rfl
      obtain ⟨n4, v4, y4, c4, t4, w4⟩ := hS 4 _ rfl
      obtain ⟨s0, e0, _⟩ := DataW.trod_string Tryz.underlying9 t0
      obtain ⟨s1, e1, _⟩ := DataW.trod_string Tryz.underlying9 t1
      obtain ⟨s2, e2, _⟩ := DataW.trod_bool Tryz.underlying4 t2
      obtain ⟨s3, e3, _⟩ := DataW.trod_string Tryz.underlying9 t3
      obtain ⟨s4, e4, _⟩ := DataW.trod_string Tryz.underlying9 t4
      obtain rfl := (List.cons.inj e0).1
      obtain rfl := (List.cons.inj e1).1
      obtain rfl := (List.cons.inj e2).1
      obtain rfl := (List.cons.inj e3).1
      obtain rfl := (List.cons.inj e4).1
      have d0 := hat 0 (by omega)
      have d1 := hat 1 (by omega)
      have d2 := hat 2 (by omega)
      have d3 := hat 3 (by omega)
      have d4 := hat 4 (by omega)
      rw [Go.Deep.add_add, c0] at d0
      rw [Go.Deep.add_add, c1] at d1
      rw [Go.Deep.add_add, c2] at d2
      rw [Go.Deep.add_add, c3] at d3
      rw [Go.Deep.add_add, c4] at d4
      refine ⟨⟨s0, s1, s2, s3, s4⟩, fun j u hu => ?_⟩
      match j, hu with
      | 0, hu => cases hu; exact d0
      | 1, hu => cases hu; exact d1
      | 2, hu => cases hu; exact d2
      | 3, hu => cases hu; exact d3
      | 4, hu => cases hu; exact d4)
    subst hlen
    refine ⟨l, ?_, by omega⟩
    rcases slice_at (step := 5) (w := w) hc' (fun h => by
      have hn : 0 < l.length := List.length_pos_iff.2 h
      exact ⟨_, hes 0 l[0] (List.getElem?_eq_getElem hn) 0 _ rfl⟩) with h | ⟨b, o, rfl, hb⟩
    · exact .inl h
    · refine .inr ⟨b, o, cap, hc', hb, fun j e he i u hu => ?_⟩
      have hh := hes j e he i u hu
      rw [addr_add] at hh
      rw [Nat.add_assoc]
      exact hh
set_option maxHeartbeats 1000000 in
set_option maxRecDepth 100000 in
theorem open_ctls_w {fuel : Nat} {v : Value} {x : DataW H × List MemPlace} (h : DataW.trod enc Tryz.prog w base spare held fuel 23 [v] = some x) (hw : WOk Tryz.prog 23 x.1) :
    ∃ cs, Ctls cs v w ∧ SizedC cs := by
  rcases open_slice_w Tryz.underlying23 h hw with hc | ⟨a, len, cap, hc, hl, hby, hi⟩
  · have hc' : v = .slice none 0 0 := (List.cons.inj hc).1
    exact ⟨[], ⟨[], rfl, .inl ⟨rfl, none, 0, hc', fun _ => rfl⟩, by simp⟩, by simp, by simp⟩
  · have hc' : v = .slice (some a) len cap := (List.cons.inj hc).1
    rw [show Tryz.prog.bytesOf 104 = 64 by kernel_rfl, show reachBytes = 140737488351232 by rfl] at hby
    rw [show Tryz.prog.cellsOf 104 = 10 by kernel_rfl] at hi
    obtain ⟨L, hlen, hes⟩ := list_of (α := CtT) (P := fun i t => (∀ j u, (ctC t)[j]? = some u → w.cell? (a.add (i * 10 + j)) = some u) ∧ Ents t.1.fi t.2 w ∧ t.1.fi.length * 72 ≤ 140737488351232) len (fun i hil => by
      obtain ⟨cs', n, y, hcc, hty, hwy⟩ := hi i hil
      obtain ⟨_, hcl, hat⟩ := World.cells?_some hcc
      have hS := open_struct_w Tryz.underlying104 (by kernel_rfl) hty hwy (by kernel_rfl)
      obtain ⟨n0, v0, y0, c0, t0, w0⟩ := hS 0 _ rfl
      obtain ⟨n1, v1, y1, c1, t1, w1⟩ := hS 1 _ rfl
      obtain ⟨n2, v2, y2, c2, t2, w2⟩ := hS 2 _ rfl
      obtain ⟨n3, v3, y3, c3, t3, w3⟩ := hS 3 _ rfl
      obtain ⟨n4, v4, y4, c4, t4, w4⟩ := hS 4 _ rfl
      obtain ⟨n5, v5, y5, c5, t5, w5⟩ := hS 5 _ rfl
      obtain ⟨n6, v6, y6, c6, t6, w6⟩ := hS 6 _ rfl
      obtain ⟨n7, v7, y7, c7, t7, w7⟩ := hS 7 _ rfl
      obtain ⟨n8, v8, y8, c8, t8, w8⟩ := hS 8 _ rfl
      obtain ⟨n9, v9, y9, c9, t9, w9⟩ := hS 9 _ rfl
      obtain ⟨s0, e0, _⟩ := DataW.trod_string Tryz.underlying9 t0
      obtain ⟨s1, e1, _⟩ := DataW.trod_bool Tryz.underlying4 t1
      obtain ⟨s2, e2, _⟩ := DataW.trod_bool Tryz.underlying4 t2
      obtain ⟨s3, e3, _⟩ := DataW.trod_bool Tryz.underlying4 t3
      obtain ⟨s4, e4, _⟩ := DataW.trod_bool Tryz.underlying4 t4
      obtain ⟨s5, e5, _⟩ := DataW.trod_bool Tryz.underlying4 t5
      obtain ⟨s6, e6, _⟩ := DataW.trod_bool Tryz.underlying4 t6
      obtain ⟨s7, e7, _⟩ := DataW.trod_bool Tryz.underlying4 t7
      obtain ⟨s8, e8, _⟩ := DataW.trod_string Tryz.underlying9 t8
      obtain ⟨fi, hfi, hfl⟩ := open_ents_w t9 w9
      obtain rfl := (List.cons.inj e0).1
      obtain rfl := (List.cons.inj e1).1
      obtain rfl := (List.cons.inj e2).1
      obtain rfl := (List.cons.inj e3).1
      obtain rfl := (List.cons.inj e4).1
      obtain rfl := (List.cons.inj e5).1
      obtain rfl := (List.cons.inj e6).1
      obtain rfl := (List.cons.inj e7).1
      obtain rfl := (List.cons.inj e8).1
      have d0 := hat 0 (by omega)
      have d1 := hat 1 (by omega)
      have d2 := hat 2 (by omega)
      have d3 := hat 3 (by omega)
      have d4 := hat 4 (by omega)
      have d5 := hat 5 (by omega)
      have d6 := hat 6 (by omega)
      have d7 := hat 7 (by omega)
      have d8 := hat 8 (by omega)
      have d9 := hat 9 (by omega)
      rw [Go.Deep.add_add, c0] at d0
      rw [Go.Deep.add_add, c1] at d1
      rw [Go.Deep.add_add, c2] at d2
      rw [Go.Deep.add_add, c3] at d3
      rw [Go.Deep.add_add, c4] at d4
      rw [Go.Deep.add_add, c5] at d5
      rw [Go.Deep.add_add, c6] at d6
      rw [Go.Deep.add_add, c7] at d7
      rw [Go.Deep.add_add, c8] at d8
      rw [Go.Deep.add_add, c9] at d9
      refine ⟨(⟨s0, s1, s2, s3, s4, s5, s6, s7, s8, fi⟩, v9), fun j u hu => ?_, hfi, hfl⟩
      match j, hu with
      | 0, hu => cases hu; exact d0
      | 1, hu => cases hu; exact d1
      | 2, hu => cases hu; exact d2
      | 3, hu => cases hu; exact d3
      | 4, hu => cases hu; exact d4
      | 5, hu => cases hu; exact d5
      | 6, hu => cases hu; exact d6
      | 7, hu => cases hu; exact d7
      | 8, hu => cases hu; exact d8
      | 9, hu => cases hu; exact d9)
    subst hlen
    have hall : ∀ t ∈ L, Ents t.1.fi t.2 w ∧ t.1.fi.length * 72 ≤ 140737488351232 := fun t ht => by
      obtain ⟨j, hj, rfl⟩ := List.getElem_of_mem ht
      exact (hes j _ (List.getElem?_eq_getElem hj)).2
    refine ⟨L.map (·.1), ⟨L, rfl, ?_, fun t ht => (hall t ht).1⟩, by rw [List.length_map]; omega, fun c hc => ?_⟩
    · rcases slice_at (step := 10) (w := w) hc' (fun h => by
        have hn : 0 < L.length := List.length_pos_iff.2 h
        exact ⟨_, (hes 0 L[0] (List.getElem?_eq_getElem hn)).1 0 _ rfl⟩) with h | ⟨b, o, rfl, hb⟩
      · exact .inl h
      · refine .inr ⟨b, o, cap, hc', hl, hb, fun j e he i u hu => ?_⟩
        have hh := (hes j e he).1 i u hu
        rw [addr_add] at hh
        rw [Nat.add_assoc]
        exact hh
    · obtain ⟨t, ht, rfl⟩ := List.mem_map.1 hc
      exact (hall t ht).2
set_option maxRecDepth 100000 in
/-- OPENED: a document with states -/
theorem open_doc {r : Reach} {b0 : Nat} {v : Value} {d : DataW H} {p : List MemPlace} (hv : Value.okWide Tryz.prog w r b0 25 v) (h : DataW.Trod enc Tryz.prog w base spare held 25 v d p) (hw : WOk Tryz.prog 25 d) :
    ∃ l cs vn vc, v = .agg #[vn, vc] ∧ DocAt l cs vn vc w := by
  unfold Value.okWide at hv
  rw [Tryz.underlying25] at hv
  obtain ⟨cs, rfl, hsz, _⟩ := hv
  rw [show Tryz.prog.cellsOf 25 = 2 by kernel_rfl] at hsz
  obtain ⟨fuel, hf⟩ := h
  have hcs : cs = #[cs[0], cs[1]] := by
    apply Array.ext
    · simpa using hsz
    · intro i h1 h2
      match i, h1 with
      | 0, _ => rfl
      | 1, _ => rfl
      | n + 2, h => omega
  generalize cs[0] = v0 at hcs
  generalize cs[1] = v1 at hcs
  subst hcs
  have hS := open_struct_w Tryz.underlying25 (by kernel_rfl) hf hw (by kernel_rfl)
  obtain ⟨n0, u0, y0, c0, t0, w0⟩ := hS 0 _ rfl
  obtain ⟨n1, u1, y1, c1, t1, w1⟩ := hS 1 _ rfl
  cases c0
  cases c1
  obtain ⟨l, hl⟩ := open_nodes_trod t0 w0
  obtain ⟨cs, hc, hz⟩ := open_ctls_w t1 w1
  exact ⟨l, cs, v0, v1, rfl, ⟨hl, hc, hz⟩⟩
end
end Go.Proofs.YtafbghlldlconaaGreatDoor
