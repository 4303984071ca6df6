/-
  AN ARGUMENT THAT IS A DOCUMENT WITH STATES, opened where the statement bounds its bulk: no control has more files, or longer names of files, than that.
-/
import Derived.Test.YtafbghlldlconaaGreatOpenDoc
import Derived.Test.YtafbghlldlconaaGreatPart13
import Derived.Test.YtafbghlldlconaaGreatRows
namespace Go.Proofs.YtafbghlldlconaaGreat
set_option linter.unusedVariables false
set_option linter.unusedSimpArgs false
open Go.RowKit Go.ChangeShapes Go.WideShapes Go.Deep

section
variable {H : Type} {enc : TypeId × Value → H} {P : Program} {w : World} {base : Nat} {spare : Nat → Bool} {held : Bool}
theorem bulk_one (d : DataW H) : 1 ≤ Rows.uptoBulk d := by
  cases d with
  | lit l => cases l <;> simp [Rows.uptoBulk]
  | nil => simp [Rows.uptoBulk]
  | ptr d => simp [Rows.uptoBulk]
  | slice elems spare => simp [Rows.uptoBulk]
  | agg parts => simp [Rows.uptoBulk]
  | iface t d => simp [Rows.uptoBulk]
  | map entries => simp [Rows.uptoBulk]
  | held h => simp [Rows.uptoBulk]
theorem bulk_part {d : DataW H} : ∀ {l : List (DataW H)}, d ∈ l → Rows.uptoBulk d ≤ Rows.uptoBulkAll l
  | x :: r, h => by
    simp only [Rows.uptoBulkAll]
    rcases List.mem_cons.1 h with e | e
    · subst e; omega
    · have := bulk_part e; omega
theorem bulk_len : ∀ l : List (DataW H), l.length ≤ Rows.uptoBulkAll l
  | [] => by simp [Rows.uptoBulkAll]
  | x :: r => by have h1 := bulk_one x; have h2 := bulk_len r; simp only [Rows.uptoBulkAll, List.length_cons]; omega
theorem open_slice_b {N : Nat} {t e : TypeId} {fuel : Nat} {cs : List Value} {x : DataW H × List MemPlace} (ht : P.underlying t = some (.slice e)) (h : DataW.trod enc P w base spare held fuel t cs = some x) (hw : WOk P t x.1) (hbk : Rows.uptoBulk x.1 ≤ N) :
    cs = [.slice none 0 0] ∨
    ∃ (a : Addr) (len cap : Nat), cs = [.slice (some a) len cap] ∧ len ≤ cap ∧ len * P.bytesOf e ≤ reachBytes ∧ len ≤ N ∧
      ∀ i, i < len → ∃ (cs' : List Value) (n : Nat) (y : DataW H × List MemPlace), w.cells? base (a.add (i * P.cellsOf e)) (P.cellsOf e) = some cs' ∧ DataW.trod enc P w base spare held n e cs' = some y ∧ WOk P e y.1 ∧ Rows.uptoBulk y.1 ≤ N := by
  rcases open_slice ht h with ⟨h0, _⟩ | ⟨a, len, cap, m, n, D, Pl, hcs, hb, hl, hm, hmm, hx, hi⟩
  · exact .inl h0
  · have hbk2 := hbk
    rw [hx] at hbk2
    simp only [Rows.uptoBulk] at hbk2
    have hle := bulk_len ((List.range len).map D)
    rw [List.length_map, List.length_range] at hle
    refine .inr ⟨a, len, cap, hcs, hl, ?_, by omega, fun i him => ?_⟩
    · have h1 := hw ((((List.range len).map D).length + ((List.range (m - len)).map fun j => D (len + j)).length) * P.bytesOf e) (by rw [hx]; simp only [DataW.weights, ht]; exact List.mem_cons_self ..)
      rw [List.length_map, List.length_range] at h1
      exact Nat.le_trans (Nat.mul_le_mul_right _ (by omega)) h1
    · obtain ⟨cs', hc, ht'⟩ := hi i (by rw [hmm]; split <;> omega)
      have hmem : D i ∈ (List.range len).map D := List.mem_map.2 ⟨i, List.mem_range.2 him, rfl⟩
      have hp := bulk_part hmem
      refine ⟨cs', n, (D i, Pl i), hc, ht', fun k hk => hw k ?_, ?_⟩
      · rw [hx]
        simp only [DataW.weights, ht]
        exact List.mem_cons_of_mem _ (List.mem_append_left _ (weightsAll_mem hmem k hk))
      · show Rows.uptoBulk (D i) ≤ N
        omega
theorem open_struct_b {N : Nat} {t : TypeId} {fs : Array Field} {fuel : Nat} {cs : List Value} {x : DataW H × List MemPlace} (ht : P.underlying t = some (.struct fs)) (hone : oneCellFields P fs = true) (h : DataW.trod enc P w base spare held fuel t cs = some x) (hw : WOk P t x.1) (hC : P.cellsOf t = fs.size) (hbk : Rows.uptoBulk x.1 ≤ N) :
    ∀ (j : Nat) (f : Field), fs[j]? = some f → ∃ (n : Nat) (v : Value) (y : DataW H × List MemPlace), cs[j]? = some v ∧ DataW.trod enc P w base spare held n f.type [v] = some y ∧ WOk P f.type y.1 ∧ Rows.uptoBulk y.1 ≤ N := by
  intro j f hj
  obtain ⟨ys, n', hn', hy, hlen, hyl, hf⟩ := DataW.trod_struct ht h
  obtain ⟨ho, hk⟩ := hone_of hone j f hj
  have hjl : j < fs.size := (Array.getElem?_eq_some_iff.1 hj).1
  have hv : cs[j]? = some (cs[j]'(by omega)) := List.getElem?_eq_getElem (by omega)
  have h1 := hf j f hj
  rw [ho, hk] at h1
  have hone' : (cs.drop j).take 1 = [cs[j]'(by omega)] := by
    rw [List.drop_eq_getElem_cons (by omega)]
    rfl
  rw [hone'] at h1
  have hys : ys[j]? = some (ys[j]'(by omega)) := List.getElem?_eq_getElem (by omega)
  refine ⟨n', _, _, hv, h1.trans hys, fun k hk => hw k ?_, ?_⟩
  · rw [hy]
    simp only [DataW.weights, ht]
    refine DataW.weights_mem_each (j := j) (t := f.type) (d := (ys[j]'(by omega)).1) ?_ ?_ k hk
    · rw [List.getElem?_map, Array.getElem?_toList, hj]; rfl
    · rw [List.getElem?_map, hys]; rfl
  · rw [hy] at hbk
    simp only [Rows.uptoBulk] at hbk
    have hm : (ys[j]'(by omega)).1 ∈ ys.map (·.1) := List.mem_map.2 ⟨_, List.getElem_mem _, rfl⟩
    have := bulk_part hm
    omega
theorem bulk_str {s : ByteArray} {N : Nat} (h : Rows.uptoBulk (DataW.lit (H := H) (.string s.data.toList)) ≤ N) : s.size ≤ N := by
  simp only [Rows.uptoBulk] at h
  rw [Array.length_toList] at h
  have : s.data.size = s.size := rfl
  omega
theorem bulk_arg {N : Nat} {ds gs : List (DataW H)} {d : DataW H} (h : Rows.uptoBulkAll (ds ++ gs) ≤ N) (hm : d ∈ ds) : Rows.uptoBulk d ≤ N := by
  have h1 := bulk_part (l := ds ++ gs) (List.mem_append_left _ hm)
  omega
end
section
variable {H : Type} {enc : TypeId × Value → H} {w : World} {base : Nat} {spare : Nat → Bool} {held : Bool}
set_option maxRecDepth 100000 in
theorem open_ents_b {fuel : Nat} {v : Value} {x : DataW H × List MemPlace} (h : DataW.trod enc Tryz.prog w base spare held fuel 26 [v] = some x) (hw : WOk Tryz.prog 26 x.1) (hbk : Rows.uptoBulk x.1 ≤ 1048576) :
    ∃ l, Ents l v w ∧ l.length * 72 ≤ 140737488351232 ∧ l.length ≤ 1048576 ∧ ∀ e ∈ l, e.fn.size ≤ 1048576 := by
  rcases open_slice_b Tryz.underlying26 h hw hbk with hc | ⟨a, len, cap, hc, hl, hby, hln, hi⟩
  · have hc' : v = .slice none 0 0 := (List.cons.inj hc).1
    exact ⟨[], .inl ⟨rfl, none, 0, hc', fun _ => rfl⟩, by simp, by simp, by simp⟩
  · have hc' : v = .slice (some a) len cap := (List.cons.inj hc).1
    rw [show Tryz.prog.bytesOf 56 = 72 by kernel_rfl, show reachBytes = 140737488351232 by rfl] at hby
    rw [show Tryz.prog.cellsOf 56 = 5 by kernel_rfl] at hi
    obtain ⟨l, hlen, hes⟩ := list_of (α := Ent) (P := fun i e => (∀ j u, (entCells e)[j]? = some u → w.cell? (a.add (i * 5 + j)) = some u) ∧ e.fn.size ≤ 1048576) len (fun i hil => by
      obtain ⟨cs', n, y, hcc, hty, hwy, hbq⟩ := hi i hil
      obtain ⟨_, hcl, hat⟩ := World.cells?_some hcc
      have hS := open_struct_b Tryz.underlying56 (by kernel_rfl) hty hwy (by kernel_rfl) hbq
      obtain ⟨n0, v0, y0, c0, t0, w0, q0⟩ := hS 0 _ rfl
      obtain ⟨n1, v1, y1, c1, t1, w1, q1⟩ := hS 1 _ rfl
      obtain ⟨n2, v2, y2, c2, t2, w2, q2⟩ := hS 2 _ rfl
      obtain ⟨n3, v3, y3, c3, t3, w3, q3⟩ := hS 3 _ rfl
      obtain ⟨n4, v4, y4, c4, t4, w4, q4⟩ := hS 4 _ rfl
      obtain ⟨s0, e0, _⟩ := DataW.trod_string Tryz.underlying9 t0
      obtain ⟨s1, e1, _⟩ := DataW.trod_string Tryz.underlying9 t1
      obtain ⟨s2, e2, _⟩ := DataW.trod_bool Tryz.underlying4 t2
      obtain ⟨s3, e3, g3⟩ := DataW.trod_string Tryz.underlying9 t3
      obtain ⟨s4, e4, _⟩ := DataW.trod_string Tryz.underlying9 t4
      obtain rfl := (List.cons.inj e0).1
      obtain rfl := (List.cons.inj e1).1
      obtain rfl := (List.cons.inj e2).1
      obtain rfl := (List.cons.inj e3).1
      obtain rfl := (List.cons.inj e4).1
      have d0 := hat 0 (by omega)
      have d1 := hat 1 (by omega)
      have d2 := hat 2 (by omega)
      have d3 := hat 3 (by omega)
      have d4 := hat 4 (by omega)
      rw [Go.Deep.add_add, c0] at d0
      rw [Go.Deep.add_add, c1] at d1
      rw [Go.Deep.add_add, c2] at d2
      rw [Go.Deep.add_add, c3] at d3
      rw [Go.Deep.add_add, c4] at d4
      refine ⟨⟨s0, s1, s2, s3, s4⟩, fun j u hu => ?_, by
        rw [g3.1] at q3
        exact bulk_str q3⟩
      match j, hu with
      | 0, hu => cases hu; exact d0
      | 1, hu => cases hu; exact d1
      | 2, hu => cases hu; exact d2
      | 3, hu => cases hu; exact d3
      | 4, hu => cases hu; exact d4)
    subst hlen
    refine ⟨l, ?_, by omega, hln, fun e he => by
      obtain ⟨j, hj, rfl⟩ := List.getElem_of_mem he
      exact (hes j _ (List.getElem?_eq_getElem hj)).2⟩
    rcases slice_at (step := 5) (w := w) hc' (fun h => by
      have hn : 0 < l.length := List.length_pos_iff.2 h
      exact ⟨_, (hes 0 l[0] (List.getElem?_eq_getElem hn)).1 0 _ rfl⟩) with h | ⟨b, o, rfl, hb⟩
    · exact .inl h
    · refine .inr ⟨b, o, cap, hc', hb, fun j e he i u hu => ?_⟩
      have hh := (hes j e he).1 i u hu
      rw [addr_add] at hh
      rw [Nat.add_assoc]
      exact hh
set_option maxHeartbeats 1000000 in
set_option maxRecDepth 100000 in
theorem open_ctls_b {fuel : Nat} {v : Value} {x : DataW H × List MemPlace} (h : DataW.trod enc Tryz.prog w base spare held fuel 23 [v] = some x) (hw : WOk Tryz.prog 23 x.1) (hbk : Rows.uptoBulk x.1 ≤ 1048576) :
    ∃ cs, Ctls cs v w ∧ SizedC cs ∧ SmallC cs := by
  rcases open_slice_b Tryz.underlying23 h hw hbk with hc | ⟨a, len, cap, hc, hl, hby, hln, hi⟩
  · have hc' : v = .slice none 0 0 := (List.cons.inj hc).1
    exact ⟨[], ⟨[], rfl, .inl ⟨rfl, none, 0, hc', fun _ => rfl⟩, by simp⟩, ⟨by simp, by simp⟩, fun c hc => by cases hc⟩
  · have hc' : v = .slice (some a) len cap := (List.cons.inj hc).1
    rw [show Tryz.prog.bytesOf 54 = 64 by kernel_rfl, show reachBytes = 140737488351232 by rfl] at hby
    rw [show Tryz.prog.cellsOf 54 = 10 by kernel_rfl] at hi
    obtain ⟨L, hlen, hes⟩ := list_of (α := CtT) (P := fun i t => (∀ j u, (ctC t)[j]? = some u → w.cell? (a.add (i * 10 + j)) = some u) ∧ Ents t.1.fi t.2 w ∧ t.1.fi.length * 72 ≤ 140737488351232 ∧ t.1.fi.length ≤ 1048576 ∧ ∀ x ∈ t.1.fi, x.fn.size ≤ 1048576) len (fun i hil => by
      obtain ⟨cs', n, y, hcc, hty, hwy, hbq⟩ := hi i hil
      obtain ⟨_, hcl, hat⟩ := World.cells?_some hcc
      have hS := open_struct_b Tryz.underlying54 (by kernel_rfl) hty hwy (by kernel_rfl) hbq
      obtain ⟨n0, v0, y0, c0, t0, w0, q0⟩ := hS 0 _ rfl
      obtain ⟨n1, v1, y1, c1, t1, w1, q1⟩ := hS 1 _ rfl
      obtain ⟨n2, v2, y2, c2, t2, w2, q2⟩ := hS 2 _ rfl
      obtain ⟨n3, v3, y3, c3, t3, w3, q3⟩ := hS 3 _ rfl
      obtain ⟨n4, v4, y4, c4, t4, w4, q4⟩ := hS 4 _ rfl
      obtain ⟨n5, v5, y5, c5, t5, w5, q5⟩ := hS 5 _ rfl
      obtain ⟨n6, v6, y6, c6, t6, w6, q6⟩ := hS 6 _ rfl
      obtain ⟨n7, v7, y7, c7, t7, w7, q7⟩ := hS 7 _ rfl
      obtain ⟨n8, v8, y8, c8, t8, w8, q8⟩ := hS 8 _ rfl
      obtain ⟨n9, v9, y9, c9, t9, w9, q9⟩ := hS 9 _ rfl
      obtain ⟨s0, e0, _⟩ := DataW.trod_string Tryz.underlying9 t0
      obtain ⟨s1, e1, _⟩ := DataW.trod_bool Tryz.underlying4 t1
      obtain ⟨s2, e2, _⟩ := DataW.trod_bool Tryz.underlying4 t2
      obtain ⟨s3, e3, _⟩ := DataW.trod_bool Tryz.underlying4 t3
      obtain ⟨s4, e4, _⟩ := DataW.trod_bool Tryz.underlying4 t4
      obtain ⟨s5, e5, _⟩ := DataW.trod_bool Tryz.underlying4 t5
      obtain ⟨s6, e6, _⟩ := DataW.trod_bool Tryz.underlying4 t6
      obtain ⟨s7, e7, _⟩ := DataW.trod_bool Tryz.underlying4 t7
      obtain ⟨s8, e8, _⟩ := DataW.trod_string Tryz.underlying9 t8
      obtain ⟨fi, hfi, hfl, hfm, hfn⟩ := open_ents_b t9 w9 q9
      obtain rfl := (List.cons.inj e0).1
      obtain rfl := (List.cons.inj e1).1
      obtain rfl := (List.cons.inj e2).1
      obtain rfl := (List.cons.inj e3).1
      obtain rfl := (List.cons.inj e4).1
      obtain rfl := (List.cons.inj e5).1
      obtain rfl := (List.cons.inj e6).1
      obtain rfl := (List.cons.inj e7).1
      obtain rfl := (List.cons.inj e8).1
      have d0 := hat 0 (by omega)
      have d1 := hat 1 (by omega)
      have d2 := hat 2 (by omega)
      have d3 := hat 3 (by omega)
      have d4 := hat 4 (by omega)
      have d5 := hat 5 (by omega)
      have d6 := hat 6 (by omega)
      have d7 := hat 7 (by omega)
      have d8 := hat 8 (by omega)
      have d9 := hat 9 (by omega)
      rw [Go.Deep.add_add, c0] at d0
      rw [Go.Deep.add_add, c1] at d1
      rw [Go.Deep.add_add, c2] at d2
      rw [Go.Deep.add_add, c3] at d3
      rw [Go.Deep.add_add, c4] at d4
      rw [Go.Deep.add_add, c5] at d5
      rw [Go.Deep.add_add, c6] at d6
      rw [Go.Deep.add_add, c7] at d7
      rw [Go.Deep.add_add, c8] at d8
      rw [Go.Deep.add_add, c9] at d9
      refine ⟨(⟨s0, s1, s2, s3, s4, s5, s6, s7, s8, fi⟩, v9), fun j u hu => ?_, hfi, hfl, hfm, hfn⟩
      match j, hu with
      | 0, hu => cases hu; exact d0
      | 1, hu => cases hu; exact d1
      | 2, hu => cases hu; exact d2
      | 3, hu => cases hu; exact d3
      | 4, hu => cases hu; exact d4
      | 5, hu => cases hu; exact d5
      | 6, hu => cases hu; exact d6
      | 7, hu => cases hu; exact d7
      | 8, hu => cases hu; exact d8
      | 9, hu => cases hu; exact d9)
    subst hlen
    have hall : ∀ t ∈ L, Ents t.1.fi t.2 w ∧ t.1.fi.length * 72 ≤ 140737488351232 ∧ t.1.fi.length ≤ 1048576 ∧ ∀ x ∈ t.1.fi, x.fn.size ≤ 1048576 := fun t ht => by
      obtain ⟨j, hj, rfl⟩ := List.getElem_of_mem ht
      exact (hes j _ (List.getElem?_eq_getElem hj)).2
    refine ⟨L.map (·.1), ⟨L, rfl, ?_, fun t ht => (hall t ht).1⟩, ⟨by rw [List.length_map]; omega, fun c hc => ?_⟩, fun c hc => ?_⟩
    · rcases slice_at (step := 10) (w := w) hc' (fun h => by
        have hn : 0 < L.length := List.length_pos_iff.2 h
        exact ⟨_, (hes 0 L[0] (List.getElem?_eq_getElem hn)).1 0 _ rfl⟩) with h | ⟨b, o, rfl, hb⟩
      · exact .inl h
      · refine .inr ⟨b, o, cap, hc', hl, hb, fun j e he i u hu => ?_⟩
        have hh := (hes j e he).1 i u hu
        rw [addr_add] at hh
        rw [Nat.add_assoc]
        exact hh
    · obtain ⟨t, ht, rfl⟩ := List.mem_map.1 hc
      exact (hall t ht).2.1
    · obtain ⟨t, ht, rfl⟩ := List.mem_map.1 hc
      exact (hall t ht).2.2
set_option maxRecDepth 100000 in
theorem open_doc_b {r : Reach} {b0 : Nat} {v : Value} {d : DataW H} {p : List MemPlace} (hv : Value.okWide Tryz.prog w r b0 25 v) (h : DataW.Trod enc Tryz.prog w base spare held 25 v d p) (hw : WOk Tryz.prog 25 d) (hbk : Rows.uptoBulk d ≤ 1048576) :
    ∃ l cs vn vc, v = .agg #[vn, vc] ∧ DocAt l cs vn vc w ∧ SmallC cs := by
  unfold Value.okWide at hv
  rw [Tryz.underlying25] at hv
  obtain ⟨cs, rfl, hsz, _⟩ := hv
  rw [show Tryz.prog.cellsOf 25 = 2 by kernel_rfl] at hsz
  obtain ⟨fuel, hf⟩ := h
  have hcs : cs = #[cs[0], cs[1]] := by
    apply Array.ext
    · simpa using hsz
    · intro i h1 h2
      match i, h1 with
      | 0, _ => rfl
      | 1, _ => rfl
      | n + 2, h => omega
  generalize cs[0] = v0 at hcs
  generalize cs[1] = v1 at hcs
  subst hcs
  have hS := open_struct_b Tryz.underlying25 (by kernel_rfl) hf hw (by kernel_rfl) hbk
  obtain ⟨n0, u0, y0, c0, t0, w0, q0⟩ := hS 0 _ rfl
  obtain ⟨n1, u1, y1, c1, t1, w1, q1⟩ := hS 1 _ rfl
  cases c0
  cases c1
  obtain ⟨l, hl⟩ := open_nodes_trod t0 w0
  obtain ⟨cs, hc, hz, hs⟩ := open_ctls_b t1 w1 q1
  exact ⟨l, cs, v0, v1, rfl, ⟨hl, hc, hz⟩, hs⟩
set_option maxHeartbeats 1000000 in
set_option maxRecDepth 100000 in
/-- OPENED: a state -/
theorem open_ctl_b {r : Reach} {b0 : Nat} {v : Value} {d : DataW H} {p : List MemPlace} (hv : Value.okWide Tryz.prog w r b0 54 v) (h : DataW.Trod enc Tryz.prog w base spare held 54 v d p) (hw : WOk Tryz.prog 54 d) (hbk : Rows.uptoBulk d ≤ 1048576) :
    ∃ c vf, v = ctV (c, vf) ∧ Ents c.fi vf w ∧ SizedC [c] ∧ SmallC [c] := by
  unfold Value.okWide at hv
  rw [Tryz.underlying54] at hv
  obtain ⟨cs, rfl, hsz, _⟩ := hv
  rw [show Tryz.prog.cellsOf 54 = 10 by kernel_rfl] at hsz
  obtain ⟨fuel, hf⟩ := h
  have hcs : cs = #[cs[0], cs[1], cs[2], cs[3], cs[4], cs[5], cs[6], cs[7], cs[8], cs[9]] := by
    apply Array.ext
    · simpa using hsz
    · intro i h1 h2
      match i, h1 with
      | 0, _ => rfl
      | 1, _ => rfl
      | 2, _ => rfl
      | 3, _ => rfl
      | 4, _ => rfl
      | 5, _ => rfl
      | 6, _ => rfl
      | 7, _ => rfl
      | 8, _ => rfl
      | 9, _ => rfl
      | n + 10, h => omega
  generalize cs[0] = u0 at hcs
  generalize cs[1] = u1 at hcs
  generalize cs[2] = u2 at hcs
  generalize cs[3] = u3 at hcs
  generalize cs[4] = u4 at hcs
  generalize cs[5] = u5 at hcs
  generalize cs[6] = u6 at hcs
  generalize cs[7] = u7 at hcs
  generalize cs[8] = u8 at hcs
  generalize cs[9] = u9 at hcs
  subst hcs
  have hS := open_struct_b Tryz.underlying54 (by kernel_rfl) hf hw (by kernel_rfl) hbk
  obtain ⟨n0, v0, y0, c0, t0, w0, q0⟩ := hS 0 _ rfl
  obtain ⟨n1, v1, y1, c1, t1, w1, q1⟩ := hS 1 _ rfl
  obtain ⟨n2, v2, y2, c2, t2, w2, q2⟩ := hS 2 _ rfl
  obtain ⟨n3, v3, y3, c3, t3, w3, q3⟩ := hS 3 _ rfl
  obtain ⟨n4, v4, y4, c4, t4, w4, q4⟩ := hS 4 _ rfl
  obtain ⟨n5, v5, y5, c5, t5, w5, q5⟩ := hS 5 _ rfl
  obtain ⟨n6, v6, y6, c6, t6, w6, q6⟩ := hS 6 _ rfl
  obtain ⟨n7, v7, y7, c7, t7, w7, q7⟩ := hS 7 _ rfl
  obtain ⟨n8, v8, y8, c8, t8, w8, q8⟩ := hS 8 _ rfl
  obtain ⟨n9, v9, y9, c9, t9, w9, q9⟩ := hS 9 _ rfl
  cases c0
  cases c1
  cases c2
  cases c3
  cases c4
  cases c5
  cases c6
  cases c7
  cases c8
  cases c9
  obtain ⟨s0, e0, _⟩ := DataW.trod_string Tryz.underlying9 t0
  obtain ⟨s1, e1, _⟩ := DataW.trod_bool Tryz.underlying4 t1
  obtain ⟨s2, e2, _⟩ := DataW.trod_bool Tryz.underlying4 t2
  obtain ⟨s3, e3, _⟩ := DataW.trod_bool Tryz.underlying4 t3
  obtain ⟨s4, e4, _⟩ := DataW.trod_bool Tryz.underlying4 t4
  obtain ⟨s5, e5, _⟩ := DataW.trod_bool Tryz.underlying4 t5
  obtain ⟨s6, e6, _⟩ := DataW.trod_bool Tryz.underlying4 t6
  obtain ⟨s7, e7, _⟩ := DataW.trod_bool Tryz.underlying4 t7
  obtain ⟨s8, e8, _⟩ := DataW.trod_string Tryz.underlying9 t8
  obtain ⟨fi, hfi, hfl, hfm, hfn⟩ := open_ents_b t9 w9 q9
  obtain rfl := (List.cons.inj e0).1
  obtain rfl := (List.cons.inj e1).1
  obtain rfl := (List.cons.inj e2).1
  obtain rfl := (List.cons.inj e3).1
  obtain rfl := (List.cons.inj e4).1
  obtain rfl := (List.cons.inj e5).1
  obtain rfl := (List.cons.inj e6).1
  obtain rfl := (List.cons.inj e7).1
  obtain rfl := (List.cons.inj e8).1
  refine ⟨⟨s0, s1, s2, s3, s4, s5, s6, s7, s8, fi⟩, u9, rfl, hfi, ⟨by simp, fun c hc => ?_⟩, fun c hc => ?_⟩
  · rw [List.mem_singleton] at hc
    subst hc
    exact hfl
  · rw [List.mem_singleton] at hc
    subst hc
    exact ⟨hfm, hfn⟩
end
end Go.Proofs.YtafbghlldlconaaGreat
