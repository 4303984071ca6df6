import Derived.Test.YtafbghlldlconaaPart14
import Derived.Test.YtafbghlldlconaaPart7
/-
  AN ARGUMENT THAT IS A DOCUMENT's NODES, opened.
-/
namespace Go.Proofs.Ytafbghlldlconaa
set_option linter.unusedVariables false
set_option linter.unusedSimpArgs false
open Go.RowKit Go.ChangeShapes Go.WideShapes Go.Deep

section
variable {H : Type} {enc : TypeId × Value → H} {P : Program} {w : World} {base : Nat} {spare : Nat → Bool} {held : Bool}
def WOk (P : Program) (t : TypeId) (d : DataW H) : Prop := ∀ n ∈ d.weights P t, n ≤ reachBytes
theorem weightsAll_mem {e : TypeId} {d : DataW H} : ∀ {ds : List (DataW H)}, d ∈ ds → ∀ n ∈ d.weights P e, n ∈ DataW.weightsAll P e ds
  | d0 :: ds, hm, n, hn => by
    simp only [DataW.weightsAll, List.mem_append]
    rcases List.mem_cons.1 hm with rfl | hm
    · exact .inl hn
    · exact .inr (weightsAll_mem hm n hn)
theorem wok_arg {ts : List TypeId} {ds : List (DataW H)} (h : (DataW.weightsEach P ts ds).all (· ≤ reachBytes) = true) {j : Nat} {t : TypeId} {d : DataW H} (ht : ts[j]? = some t) (hd : ds[j]? = some d) : WOk P t d :=
  fun n hn => by simpa using List.all_eq_true.1 h _ (DataW.weights_mem_each ht hd n hn)
theorem open_slice_w {t e : TypeId} {fuel : Nat} {cs : List Value} {x : DataW H × List MemPlace} (ht : P.underlying t = some (.slice e)) (h : DataW.trod enc P w base spare held fuel t cs = some x) (hw : WOk P t x.1) :
    cs = [.slice none 0 0] ∨
    ∃ (a : Addr) (len cap : Nat), cs = [.slice (some a) len cap] ∧ len ≤ cap ∧ len * P.bytesOf e ≤ reachBytes ∧
      ∀ i, i < len → ∃ (cs' : List Value) (n : Nat) (y : DataW H × List MemPlace), w.cells? base (a.add (i * P.cellsOf e)) (P.cellsOf e) = some cs' ∧ DataW.trod enc P w base spare held n e cs' = some y ∧ WOk P e y.1 := by
  rcases open_slice ht h with ⟨h0, _⟩ | ⟨a, len, cap, m, n, D, Pl, hcs, hb, hl, hm, hmm, hx, hi⟩
  · exact .inl h0
  · refine .inr ⟨a, len, cap, hcs, hl, ?_, fun i him => ?_⟩
    · have h1 := hw ((((List.range len).map D).length + ((List.range (m - len)).map fun j => D (len + j)).length) * P.bytesOf e) (by rw [hx]; simp only [DataW.weights, ht]; exact List.mem_cons_self ..)
      rw [List.length_map, List.length_range] at h1
      exact Nat.le_trans (Nat.mul_le_mul_right _ (by omega)) h1
    · obtain ⟨cs', hc, ht'⟩ := hi i (by rw [hmm]; split <;> omega)
      refine ⟨cs', n, (D i, Pl i), hc, ht', fun k hk => hw k ?_⟩
      rw [hx]
      simp only [DataW.weights, ht]
      exact List.mem_cons_of_mem _ (List.mem_append_left _ (weightsAll_mem (List.mem_map.2 ⟨i, List.mem_range.2 him, rfl⟩) k hk))
theorem open_struct_w {t : TypeId} {fs : Array Field} {fuel : Nat} {cs : List Value} {x : DataW H × List MemPlace} (ht : P.underlying t = some (.struct fs)) (hone : oneCellFields P fs = true) (h : DataW.trod enc P w base spare held fuel t cs = some x) (hw : WOk P t x.1) (hC : P.cellsOf t = fs.size) :
    ∀ (j : Nat) (f : Field), fs[j]? = some f → ∃ (n : Nat) (v : Value) (y : DataW H × List MemPlace), cs[j]? = some v ∧ DataW.trod enc P w base spare held n f.type [v] = some y ∧ WOk P f.type y.1 := by
  intro j f hj
  obtain ⟨ys, n', hn', hy, hlen, hyl, hf⟩ := DataW.trod_struct ht h
  obtain ⟨ho, hk⟩ := hone_of hone j f hj
  have hjl : j < fs.size := (Array.getElem?_eq_some_iff.1 hj).1
  have hv : cs[j]? = some (cs[j]'(by omega)) := List.getElem?_eq_getElem (by omega)
  have h1 := hf j f hj
  rw [ho, hk] at h1
  have hone' : (cs.drop j).take 1 = [cs[j]'(by omega)] := by
    rw [List.drop_eq_getElem_cons (by omega)]
    rfl
  rw [hone'] at h1
  have hys : ys[j]? = some (ys[j]'(by omega)) := List.getElem?_eq_getElem (by omega)
  refine ⟨n', _, _, hv, h1.trans hys, fun k hk => hw k ?_⟩
  rw [hy]
  simp only [DataW.weights, ht]
  refine DataW.weights_mem_each (j := j) (t := f.type) (d := (ys[j]'(by omega)).1) ?_ ?_ k hk
  · rw [List.getElem?_map, Array.getElem?_toList, hj]; rfl
  · rw [List.getElem?_map, hys]; rfl
end
section
variable {H : Type} {enc : TypeId × Value → H} {w : World} {base : Nat} {spare : Nat → Bool} {held : Bool}
theorem wok_str {s : ByteArray} {t : TypeId} (h : WOk (H := H) Try.prog t (.lit (.string s.data.toList))) : s.size ≤ 140737488351232 := by
  have := h s.data.toList.length (by simp [DataW.weights])
  rw [Array.length_toList] at this
  exact this
theorem slice_at {α : Type} {l : List α} {a : Addr} {cap : Nat} {step : Nat} {v : Value} (hv : v = .slice (some a) l.length cap) (hst : l ≠ [] → ∃ u, w.cell? (a.add (0 * step)) = some u) :
    (l = [] ∧ ∃ a cap, v = .slice a 0 cap ∧ (a = none → cap = 0)) ∨ ∃ b o, a = ⟨b, o, none⟩ ∧ b < w.heap.size := by
  subst hv
  by_cases h : l = []
  · subst h
    exact .inl ⟨rfl, _, cap, rfl, fun e => by cases e⟩
  · obtain ⟨u, hu⟩ := hst h
    obtain ⟨hsp, hb⟩ := spot_none hu (Nat.zero_mul _)
    obtain ⟨b, o, sp⟩ := a
    simp only at hsp hb
    subst hsp
    exact .inr ⟨b, o, rfl, hb⟩
set_option maxRecDepth 100000 in
theorem open_atts {fuel : Nat} {v : Value} {x : DataW H × List MemPlace} (h : DataW.trod enc Try.prog w base spare held fuel 36 [v] = some x) (hw : WOk Try.prog 36 x.1) :
    ∃ l, Atts l v w ∧ l.length * 32 ≤ 140737488351232 ∧ ∀ a ∈ l, a.n.size ≤ 140737488351232 ∧ a.v.size ≤ 140737488351232 := by
  rcases open_slice_w Try.underlying36 h hw with hc | ⟨a, len, cap, hc, hl, hby, hi⟩
  · have hc' : v = .slice none 0 0 := (List.cons.inj hc).1
    exact ⟨[], .inl ⟨rfl, none, 0, hc', fun _ => rfl⟩, by simp, by simp⟩
  · have hc' : v = .slice (some a) len cap := (List.cons.inj hc).1
    rw [show Try.prog.bytesOf 50 = 32 by kernel_rfl, show reachBytes = 140737488351232 by rfl] at hby
    rw [show Try.prog.cellsOf 50 = 2 by kernel_rfl] at hi
    obtain ⟨l, hlen, hes⟩ := list_of (α := At) (P := fun i e => (w.cell? (a.add (i * 2)) = some (.string e.n) ∧ w.cell? (a.add (i * 2 + 1)) = some (.string e.v)) ∧ e.n.size ≤ 140737488351232 ∧ e.v.size ≤ 140737488351232) len (fun i hil => by
      obtain ⟨cs', n, y, hcc, hty, hwy⟩ := hi i hil
      obtain ⟨_, hcl, hat⟩ := World.cells?_some hcc
      have hS := open_struct_w Try.underlying50 (by kernel_rfl) hty hwy (by kernel_rfl)
      obtain ⟨n0, v0, y0, c0, t0, w0⟩ := hS 0 _ rfl
      obtain ⟨n1, v1, y1, c1, t1, w1⟩ := hS 1 _ rfl
      obtain ⟨s0, e0, rfl, _⟩ := DataW.trod_string Try.underlying9 t0
      obtain ⟨s1, e1, rfl, _⟩ := DataW.trod_string Try.underlying9 t1
      obtain rfl := (List.cons.inj e0).1
      obtain rfl := (List.cons.inj e1).1
      have d0 := hat 0 (by omega)
      have d1 := hat 1 (by omega)
      rw [Go.Deep.add_add, c0] at d0
      rw [Go.Deep.add_add, c1] at d1
      exact ⟨⟨s0, s1⟩, ⟨d0, d1⟩, wok_str w0, wok_str w1⟩)
    subst hlen
    refine ⟨l, ?_, by omega, fun e he => ?_⟩
    · rcases slice_at (step := 2) (w := w) hc' (fun h => by
        have hn : 0 < l.length := List.length_pos_iff.2 h
        exact ⟨_, (hes 0 l[0] (List.getElem?_eq_getElem hn)).1.1⟩) with h | ⟨b, o, rfl, hb⟩
      · exact .inl h
      · refine .inr ⟨b, o, cap, hc', hl, hb, fun j x hx => ?_⟩
        have hh := (hes j x hx).1
        rw [addr_add, addr_add] at hh
        exact hh
    · obtain ⟨j, hj, rfl⟩ := List.getElem_of_mem he
      exact (hes j _ (List.getElem?_eq_getElem hj)).2
set_option maxRecDepth 100000 in
theorem open_nums {fuel : Nat} {v : Value} {x : DataW H × List MemPlace} (h : DataW.trod enc Try.prog w base spare held fuel 37 [v] = some x) (hw : WOk Try.prog 37 x.1) :
    ∃ l, Nums l v w ∧ l.length * 8 ≤ 140737488351232 := by
  rcases open_slice_w Try.underlying37 h hw with hc | ⟨a, len, cap, hc, hl, hby, hi⟩
  · have hc' : v = .slice none 0 0 := (List.cons.inj hc).1
    exact ⟨[], .inl ⟨rfl, none, 0, hc', fun _ => rfl⟩, by simp⟩
  · have hc' : v = .slice (some a) len cap := (List.cons.inj hc).1
    rw [show Try.prog.bytesOf 3 = 8 by kernel_rfl, show reachBytes = 140737488351232 by rfl] at hby
    rw [show Try.prog.cellsOf 3 = 1 by kernel_rfl] at hi
    obtain ⟨l, hlen, hes⟩ := list_of (α := Int) (P := fun i e => w.cell? (a.add (i * 1)) = some (.int .i64 e)) len (fun i hil => by
      obtain ⟨cs', n, y, hcc, hty, hwy⟩ := hi i hil
      obtain ⟨_, hcl, hat⟩ := World.cells?_some hcc
      obtain ⟨s0, e0, rfl, _⟩ := DataW.trod_int Try.underlying3 hty
      subst e0
      have d0 := hat 0 (by omega)
      rw [Go.Deep.add_add] at d0
      exact ⟨s0, d0⟩)
    subst hlen
    refine ⟨l, ?_, by omega⟩
    rcases slice_at (step := 1) (w := w) hc' (fun h => by
      have hn : 0 < l.length := List.length_pos_iff.2 h
      exact ⟨_, hes 0 l[0] (List.getElem?_eq_getElem hn)⟩) with h | ⟨b, o, rfl, hb⟩
    · exact .inl h
    · refine .inr ⟨b, o, cap, hc', hl, hb, fun j x hx => ?_⟩
      have hh := hes j x hx
      rw [addr_add, Nat.mul_one] at hh
      exact hh
set_option maxRecDepth 100000 in
theorem open_nodes_trod {fuel : Nat} {v : Value} {x : DataW H × List MemPlace} (h : DataW.trod enc Try.prog w base spare held fuel 22 [v] = some x) (hw : WOk Try.prog 22 x.1) :
    ∃ l, Came l v w := by
  rcases open_slice_w Try.underlying22 h hw with hc | ⟨a, len, cap, hc, hl, hby, hi⟩
  · have hc' : v = .slice none 0 0 := (List.cons.inj hc).1
    exact ⟨[], .inl ⟨rfl, none, 0, hc', fun _ => rfl⟩, by simp, by simp, by simp, by simp⟩
  · have hc' : v = .slice (some a) len cap := (List.cons.inj hc).1
    rw [show Try.prog.bytesOf 39 = 88 by kernel_rfl, show reachBytes = 140737488351232 by rfl] at hby
    rw [show Try.prog.cellsOf 39 = 5 by kernel_rfl] at hi
    obtain ⟨l, hlen, hes⟩ := list_of (α := Nd) (P := fun i e => (∃ va vk, w.cell? (a.add (i * 5)) = some (.string e.nm) ∧ w.cell? (a.add (i * 5 + 1)) = some (.string e.tx) ∧ w.cell? (a.add (i * 5 + 2)) = some va ∧ w.cell? (a.add (i * 5 + 3)) = some (.int .i64 e.pa) ∧ w.cell? (a.add (i * 5 + 4)) = some vk ∧ Atts e.ats va w ∧ Nums e.ks vk w) ∧ Fits e ∧ e.ats.length * 32 ≤ 140737488351232 ∧ e.ks.length * 8 ≤ 140737488351232) len (fun i hil => by
      obtain ⟨cs', n, y, hcc, hty, hwy⟩ := hi i hil
      obtain ⟨_, hcl, hat⟩ := World.cells?_some hcc
      have hS := open_struct_w Try.underlying39 (by kernel_rfl) hty hwy (by kernel_rfl)
      obtain ⟨n0, v0, y0, c0, t0, w0⟩ := hS 0 _ rfl
      obtain ⟨n1, v1, y1, c1, t1, w1⟩ := hS 1 _ rfl
      obtain ⟨n2, v2, y2, c2, t2, w2⟩ := hS 2 _ rfl
      obtain ⟨n3, v3, y3, c3, t3, w3⟩ := hS 3 _ rfl
      obtain ⟨n4, v4, y4, c4, t4, w4⟩ := hS 4 _ rfl
      obtain ⟨s0, e0, rfl, _⟩ := DataW.trod_string Try.underlying9 t0
      obtain ⟨s1, e1, rfl, _⟩ := DataW.trod_string Try.underlying9 t1
      obtain ⟨s3, e3, rfl, _⟩ := DataW.trod_int Try.underlying3 t3
      obtain rfl := (List.cons.inj e0).1
      obtain rfl := (List.cons.inj e1).1
      obtain rfl := (List.cons.inj e3).1
      obtain ⟨l2, h2, f2, g2⟩ := open_atts t2 w2
      obtain ⟨l4, h4, f4⟩ := open_nums t4 w4
      have d0 := hat 0 (by omega)
      have d1 := hat 1 (by omega)
      have d2 := hat 2 (by omega)
      have d3 := hat 3 (by omega)
      have d4 := hat 4 (by omega)
      rw [Go.Deep.add_add, c0] at d0
      rw [Go.Deep.add_add, c1] at d1
      rw [Go.Deep.add_add, c2] at d2
      rw [Go.Deep.add_add, c3] at d3
      rw [Go.Deep.add_add, c4] at d4
      exact ⟨⟨s0, s1, l2, s3, l4⟩, ⟨v2, v4, d0, d1, d2, d3, d4, h2, h4⟩, ⟨wok_str w0, wok_str w1, by show l2.length ≤ _; omega, by show l4.length ≤ _; omega, g2⟩, f2, f4⟩)
    subst hlen
    have hall : ∀ e ∈ l, Fits e ∧ e.ats.length * 32 ≤ 140737488351232 ∧ e.ks.length * 8 ≤ 140737488351232 := fun e he => by
      obtain ⟨j, hj, rfl⟩ := List.getElem_of_mem he
      exact (hes j _ (List.getElem?_eq_getElem hj)).2
    refine ⟨l, ?_, fun e he => (hall e he).1, by omega, fun e he => (hall e he).2.1, fun e he => (hall e he).2.2⟩
    · rcases slice_at (step := 5) (w := w) hc' (fun h => by
        have hn : 0 < l.length := List.length_pos_iff.2 h
        obtain ⟨⟨_, _, c, _⟩, _⟩ := hes 0 l[0] (List.getElem?_eq_getElem hn)
        exact ⟨_, c⟩) with h | ⟨b, o, rfl, hb⟩
      · exact .inl h
      · refine .inr ⟨b, o, cap, hc', hl, hb, fun j x hx => ?_⟩
        have hh := (hes j x hx).1
        simp only [addr_add] at hh
        exact hh
set_option maxRecDepth 100000 in
/-- OPENED: a document's nodes -/
theorem open_nodes {r : Reach} {b0 : Nat} {v : Value} {d : DataW H} {p : List MemPlace} (hv : Value.okWide Try.prog w r b0 22 v) (h : DataW.Trod enc Try.prog w base spare held 22 v d p) (hw : WOk Try.prog 22 d) :
    ∃ l, Came l v w := by
  obtain ⟨a, len, cap, rfl⟩ := okWide_slice Try.underlying22 hv
  obtain ⟨fuel, hf⟩ := h
  exact open_nodes_trod hf hw
end
end Go.Proofs.Ytafbghlldlconaa
