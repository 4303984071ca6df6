/-
  A ROW OF NODES THAT THE CALL ITSELF BUILDS: the attributes and the children of each in rows of their own.
-/
import Derived.Test.YtenicjebccdekaaNodes
import Derived.Test.YtenicjebccdekaaRows1
import Derived.Laws.AppendOwnNone
namespace Go.Proofs.Ytenicjebccdekaa
set_option linter.unusedVariables false
set_option linter.unusedSimpArgs false
open Go.RowKit

theorem flat_get {α : Type} {f : α → List Value} {m : Nat} (hf : ∀ x, (f x).length = m) : ∀ (es : List α) (j : Nat) (e : α), es[j]? = some e → ∀ i u, (f e)[i]? = some u → (es.flatMap f)[j * m + i]? = some u
  | [], _, _, h => by simp at h
  | x :: r, 0, e, h => fun i u hu => by
    simp at h; subst h
    have hi : i < m := by rw [← hf x]; exact (List.getElem?_eq_some_iff.1 hu).1
    rw [List.flatMap_cons, List.getElem?_append_left (by rw [hf]; omega), Nat.zero_mul, Nat.zero_add]
    exact hu
  | x :: r, j + 1, e, h => fun i u hu => by
    simp at h
    have := flat_get hf r j e h i u hu
    rw [List.flatMap_cons, List.getElem?_append_right (by rw [hf, Nat.add_mul]; omega), hf, show (j + 1) * m + i - m = j * m + i by rw [Nat.add_mul]; omega]
    exact this
theorem flat_size {α : Type} {f : α → List Value} {m : Nat} (hf : ∀ x, (f x).length = m) (es : List α) : (es.flatMap f).length = es.length * m := by
  induction es with
  | nil => simp
  | cons e r ih => rw [List.flatMap_cons, List.length_append, ih, hf, List.length_cons, Nat.add_mul]; omega
/-- a source, cell by cell -/
theorem flat_src {α : Type} {f : α → List Value} {m : Nat} (hm : 0 < m) (hf : ∀ x, (f x).length = m) {es : List α} {b off : Nat} {W : World} (hc : ∀ j e, es[j]? = some e → ∀ i u, (f e)[i]? = some u → W.cell? ⟨b, off + j * m + i, none⟩ = some u) :
    ∀ j u, (es.flatMap f)[j]? = some u → W.cell? ((⟨b, off, none⟩ : Addr).add j) = some u := by
  intro j u hj
  have hjl : j < es.length * m := by rw [← flat_size hf]; exact (List.getElem?_eq_some_iff.1 hj).1
  have hq : j / m < es.length := Nat.div_lt_of_lt_mul (by rw [Nat.mul_comm]; exact hjl)
  have hr : j % m < m := Nat.mod_lt _ hm
  have hcell := hc (j / m) es[j / m] (List.getElem?_eq_getElem hq) (j % m) ((f es[j / m])[j % m]'(by rw [hf]; omega)) (List.getElem?_eq_getElem _)
  have hg := flat_get hf es (j / m) es[j / m] (List.getElem?_eq_getElem hq) (j % m) ((f es[j / m])[j % m]'(by rw [hf]; omega)) (List.getElem?_eq_getElem _)
  have e5 : j / m * m + j % m = j := by rw [Nat.mul_comm]; exact Nat.div_add_mod j m
  rw [e5, hj] at hg
  cases hg
  rw [addr_add, show off + j = off + j / m * m + j % m by omega]
  exact hcell
/-- an own row's cells -/
theorem own_cell {base : Nat} {T : TypeId} {sz n : Nat} {xs : List Value} {v : Value} {w : World} (h : w.ownsRow base T sz v n xs) (hn : xs ≠ []) : ∃ g cap, v = .slice (some ⟨g, 0, none⟩) n cap ∧ n ≤ cap ∧ base ≤ g ∧ g < w.heap.size ∧ ∀ j u, xs[j]? = some u → w.cell? ⟨g, j, none⟩ = some u := by
  have h0 := h
  obtain ⟨hl, ⟨rfl, h1⟩ | ⟨g, cap, cur, rfl, h2, h3, h4, _⟩⟩ := h
  · rw [h1, Nat.zero_mul] at hl
    exact absurd (List.length_eq_zero_iff.1 hl) hn
  · refine ⟨g, cap, rfl, h4, h2, (Array.getElem?_eq_some_iff.1 h3).1, fun j u hu => ?_⟩
    have := h0.cells (g := g) rfl j u hu
    rwa [addr_add, Nat.zero_add] at this
theorem own_form {base : Nat} {T : TypeId} {sz n : Nat} {xs : List Value} {v : Value} {w : World} (h : w.ownsRow base T sz v n xs) : ∃ a cap, v = .slice a n cap ∧ (a = none → cap = 0) := by
  obtain ⟨_, ⟨rfl, h1⟩ | ⟨g, cap, cur, rfl, _⟩⟩ := h
  · exact ⟨none, 0, by rw [h1], fun _ => rfl⟩
  · exact ⟨_, _, rfl, fun e => by cases e⟩
/-- rows of two types share no block -/
theorem own_ne {b1 b2 : Nat} {T1 T2 : TypeId} {z1 z2 n1 n2 : Nat} {x1 x2 : List Value} {v1 v2 : Value} {w : World} (h1 : w.ownsRow b1 T1 z1 v1 n1 x1) (h2 : w.ownsRow b2 T2 z2 v2 n2 x2) (hT : T1 ≠ T2) : v1.ownBlock = none ∨ v1.ownBlock ≠ v2.ownBlock := by
  obtain ⟨_, ⟨rfl, _⟩ | ⟨g, cap, cur, rfl, _, hg, _⟩⟩ := h1
  · exact .inl rfl
  · obtain ⟨_, ⟨rfl, _⟩ | ⟨g', cap', cur', rfl, _, hg', _⟩⟩ := h2
    · exact .inr (fun e => by cases e)
    · refine .inr (fun e => ?_)
      have e' : g = g' := by simpa [Value.ownBlock] using e
      subst e'
      rw [hg] at hg'
      cases hg'
      exact hT rfl
theorem own_keep {base : Nat} {T : TypeId} {sz n : Nat} {xs : List Value} {v : Value} {w w' : World} (h : w.ownsRow base T sz v n xs) (hb : Below w.heap.size w w') : w'.ownsRow base T sz v n xs := by
  obtain ⟨h1, ⟨rfl, hn⟩ | ⟨g, cap, cur, rfl, h2, h3, h4⟩⟩ := h
  · exact ⟨h1, .inl ⟨rfl, hn⟩⟩
  · refine ⟨h1, .inr ⟨g, cap, cur, rfl, h2, ?_, h4⟩⟩
    rw [hb.block g (Array.getElem?_eq_some_iff.1 h3).1]; exact h3
theorem grown_refl (w : World) (row : Option Nat) : w.grownBy w row := ⟨rfl, rfl, rfl, Nat.le_refl _, fun _ _ _ => rfl⟩
theorem own_below {base : Nat} {T : TypeId} {sz n : Nat} {xs : List Value} {w w' : World} {v : Value} (h : w.ownsRow base T sz v n xs) (hg : w.grownBy w' v.ownBlock) (hb : base ≤ w.heap.size) : Below base w w' :=
  (Below.refl base w).grown hg hb (fun k hk => (h.lt k hk).1)
/-- 'out = append(out, l...)' whatever l's elements are, and where it is nil -/
theorem wpList_append_any {W : World} {ops : Array Oper} {rest : List Oper} {o : Oper} {a : Act} {Q : Exit → Act → World → Prop} (hgd : o.guard = none) (s x : Operand) (S T : TypeId) {z : Value} {size bytes : Nat}
    (ho : o.op = .call { callee := .builtin .append, args := #[s, x], argTypes := #[S, S] }) (hS : Try.prog.underlying S = some (.slice T))
    (hinfo : (Try.prog.info? T).map (fun i => (i.zero, i.size, i.bytes)) = some (some z, size, bytes)) (hz : z.cells.size = size) (hsz : 0 < size)
    {base n : Nat} {xs : List Value} {v : Value} (hs : a.eval s = v) {ao : Option Addr} {m cap : Nat} {news : List Value} (hx : a.eval x = .slice ao m cap) (hao : ao = none → m = 0 ∧ cap = 0) (hl : news.length = m * size)
    (hnews : ∀ ad, ao = some ad → ∀ j u, news[j]? = some u → W.cell? (ad.add j) = some u) (hu : ∀ u ∈ news, u.oneCell' = true)
    (hown : W.ownsRow base T size v n xs) (hlen : n + m ≤ maxLen) (hby : (n + m) * bytes ≤ 140737488355328) (hbase : base ≤ W.heap.size)
    (h : ∀ v' w', w'.ownsRow base T size v' (n + m) (xs ++ news) → W.grownBy w' v.ownBlock → wpList Try.prog ops Q rest (a.put o.dst v') w') : wpList Try.prog ops Q (o :: rest) a W := by
  obtain ⟨i0, hi, hz0, hz1, hz2⟩ := info_parts hinfo
  cases ao with
  | none =>
    obtain ⟨rfl, rfl⟩ := hao rfl
    have hn : news = [] := List.length_eq_zero_iff.1 (by rw [hl, Nat.zero_mul])
    subst hn
    refine wpList_append_own_none hgd s x S ho base T i0 size hS hi v n xs hs hown hx (h v W ?_ (grown_refl _ _))
    rw [List.append_nil, Nat.add_zero]
    exact hown
  | some ad =>
    exact wpList_append_own _ hgd s x S ho base T i0 z size bytes hS hi hz0 hz1 hz2 hz hsz v n xs hs hown ad m cap news hx hl (hnews ad rfl) hu hlen hby hbase fun v' w1 h1 h2 _ => h v' w1 h1 h2

/-- the same in a region that draws its order -/
theorem step_append_any {W : World} {ops : Array Oper} {o : Oper} {a : Act} {K : Act → World → Prop} {Q : Exit → Act → World → Prop} {E : Prop} (hgd : o.guard = none) (s x : Operand) (S T : TypeId) {z : Value} {size bytes : Nat}
    (ho : o.op = .call { callee := .builtin .append, args := #[s, x], argTypes := #[S, S] }) (hS : Try.prog.underlying S = some (.slice T))
    (hinfo : (Try.prog.info? T).map (fun i => (i.zero, i.size, i.bytes)) = some (some z, size, bytes)) (hz : z.cells.size = size) (hsz : 0 < size)
    {base n : Nat} {xs : List Value} {v : Value} (hs : a.eval s = v) {ao : Option Addr} {m cap : Nat} {news : List Value} (hx : a.eval x = .slice ao m cap) (hao : ao = none → m = 0 ∧ cap = 0) (hl : news.length = m * size)
    (hnews : ∀ ad, ao = some ad → ∀ j u, news[j]? = some u → W.cell? (ad.add j) = some u) (hu : ∀ u ∈ news, u.oneCell' = true)
    (hown : W.ownsRow base T size v n xs) (hlen : n + m ≤ maxLen) (hby : (n + m) * bytes ≤ 140737488355328) (hbase : base ≤ W.heap.size)
    (h : ∀ v' w', w'.ownsRow base T size v' (n + m) (xs ++ news) → W.grownBy w' v.ownBlock → K (a.put o.dst v') w') : if Region.wanted o (yielded ops a.tmps) then o.wp Try.prog a W K Q else E := by
  have hw : Region.wanted o (yielded ops a.tmps) = true := by simp [Region.wanted, hgd]
  rw [if_pos hw]
  obtain ⟨i0, hi, hz0, hz1, hz2⟩ := info_parts hinfo
  cases ao with
  | none =>
    obtain ⟨rfl, rfl⟩ := hao rfl
    have hn : news = [] := List.length_eq_zero_iff.1 (by rw [hl, Nat.zero_mul])
    subst hn
    have hrun := run_append_owned_none (P := Try.prog) (w := W) base S o.type T i0 size hS hi v n xs hown
    unfold Oper.wp
    simp [execOp, ho, resolve, invoke, builtin, hs, hx, hrun, Result.andThen]
    refine h v W ?_ (grown_refl _ _)
    rw [List.append_nil, Nat.add_zero]
    exact hown
  | some ad =>
    exact wp_append_own _ s x S ho base T i0 z size bytes hS hi hz0 hz1 hz2 hz hsz v n xs hs hown ad m cap news hx hl (hnews ad rfl) hu hlen hby hbase fun v' w1 h1 h2 _ => h v' w1 h1 h2

/-! attributes, numbers -/
def attCells (a : At) : List Value := [.string a.n, .string a.v]
theorem attCells_len (a : At) : (attCells a).length = 2 := rfl
def OA (base : Nat) (l : List At) (v : Value) (w : World) : Prop := w.ownsRow base 65 2 v l.length (l.flatMap attCells)
def OI (base : Nat) (l : List Int) (v : Value) (w : World) : Prop := w.ownsRow base 3 1 v l.length (l.map (Value.int .i64))
theorem info_att : (Try.prog.info? 65).map (fun i => (i.zero, i.size, i.bytes)) = some (some (.agg #[.string ⟨#[]⟩, .string ⟨#[]⟩]), 2, 32) := by kernel_rfl
theorem info_int : (Try.prog.info? 3).map (fun i => (i.zero, i.size, i.bytes)) = some (some (.int .i64 0), 1, 8) := by kernel_rfl
theorem info_node : (Try.prog.info? 35).map (fun i => (i.zero, i.size, i.bytes)) = some (some (.agg #[.string ⟨#[]⟩, .string ⟨#[]⟩, .slice none 0 0, .int .i64 0, .slice none 0 0]), 5, 88) := by kernel_rfl
theorem OA.atts {base : Nat} {l : List At} {v : Value} {w : World} (h : OA base l v w) : Atts l v w := by
  by_cases hl : l = []
  · subst hl
    obtain ⟨a, cap, rfl, hc⟩ := own_form h
    exact .inl ⟨rfl, a, cap, rfl, hc⟩
  · obtain ⟨g, cap, rfl, hn, _, hg, hc⟩ := own_cell h (by rw [ne_eq, ← List.length_eq_zero_iff, flat_size attCells_len]; have := List.length_pos_iff.2 hl; omega)
    refine .inr ⟨g, 0, cap, rfl, hn, hg, fun j x hx => ?_⟩
    have h0 := hc _ _ (flat_get attCells_len l j x hx 0 _ rfl)
    have h1 := hc _ _ (flat_get attCells_len l j x hx 1 _ rfl)
    rw [Nat.zero_add]
    exact ⟨h0, h1⟩
theorem OI.nums {base : Nat} {l : List Int} {v : Value} {w : World} (h : OI base l v w) : Nums l v w := by
  by_cases hl : l = []
  · subst hl
    obtain ⟨a, cap, rfl, hc⟩ := own_form h
    exact .inl ⟨rfl, a, cap, rfl, hc⟩
  · obtain ⟨g, cap, rfl, hn, _, hg, hc⟩ := own_cell h (by simpa using hl)
    refine .inr ⟨g, 0, cap, rfl, hn, hg, fun j x hx => ?_⟩
    rw [Nat.zero_add]
    exact hc j _ (by rw [List.getElem?_map, hx]; rfl)
theorem Atts.none_cap {l : List At} {w : World} {ao : Option Addr} {m cap : Nat} (h : Atts l (.slice ao m cap) w) : ao = none → m = 0 ∧ cap = 0 := by
  rintro rfl
  rcases h with ⟨rfl, a, cap', hv, hc⟩ | ⟨b, o, cap', hv, _⟩
  · cases hv; exact ⟨rfl, hc rfl⟩
  · cases hv
theorem Nums.none_cap {l : List Int} {w : World} {ao : Option Addr} {m cap : Nat} (h : Nums l (.slice ao m cap) w) : ao = none → m = 0 ∧ cap = 0 := by
  rintro rfl
  rcases h with ⟨rfl, a, cap', hv, hc⟩ | ⟨b, o, cap', hv, _⟩
  · cases hv; exact ⟨rfl, hc rfl⟩
  · cases hv
theorem Atts.src {l : List At} {w : World} {ad : Addr} {m cap : Nat} (h : Atts l (.slice (some ad) m cap) w) : ∀ j u, (l.flatMap attCells)[j]? = some u → w.cell? (ad.add j) = some u := by
  rcases h with ⟨rfl, _⟩ | ⟨b, o, cap', hv, _, _, hc⟩
  · intro j u hu; simp at hu
  · cases hv
    refine flat_src (m := 2) (by omega) attCells_len (fun j e he i u hu => ?_)
    obtain ⟨c0, c1⟩ := hc j e he
    match i, hu with
    | 0, hu => cases hu; exact c0
    | 1, hu => cases hu; exact c1
theorem Nums.src {l : List Int} {w : World} {ad : Addr} {m cap : Nat} (h : Nums l (.slice (some ad) m cap) w) : ∀ j u, (l.map (Value.int .i64))[j]? = some u → w.cell? (ad.add j) = some u := by
  rcases h with ⟨rfl, _⟩ | ⟨b, o, cap', hv, _, _, hc⟩
  · intro j u hu; simp at hu
  · cases hv
    intro j u hu
    rw [List.getElem?_map] at hu
    cases hx : l[j]? with
    | none => rw [hx] at hu; cases hu
    | some x =>
      rw [hx] at hu
      cases hu
      rw [addr_add]
      exact hc j x hx
/-- 'n.Attrs = append(n.Attrs, l...)' -/
theorem wpList_append_atts {W : World} {ops : Array Oper} {rest : List Oper} {o : Oper} {a : Act} {Q : Exit → Act → World → Prop} (hgd : o.guard = none) (s x : Operand)
    (ho : o.op = .call { callee := .builtin .append, args := #[s, x], argTypes := #[33, 33] })
    {base : Nat} {l l2 : List At} {v : Value} (hs : a.eval s = v) {ao : Option Addr} {m cap : Nat} (hx : a.eval x = .slice ao m cap) (hl2 : Atts l2 (.slice ao m cap) W) (hm : m = l2.length)
    (hown : OA base l v W) (hby : (l.length + l2.length) * 32 ≤ 140737488355328) (hbase : base ≤ W.heap.size)
    (h : ∀ v' w', OA base (l ++ l2) v' w' → W.grownBy w' v.ownBlock → Below base W w' → wpList Try.prog ops Q rest (a.put o.dst v') w') : wpList Try.prog ops Q (o :: rest) a W := by
  subst hm
  refine wpList_append_any hgd s x 33 65 ho Try.underlying33 info_att rfl (by decide) hs hx hl2.none_cap (flat_size attCells_len l2) (fun ad had => ?_) (fun u hu => ?_) hown (by unfold maxLen; omega) hby hbase fun v' w' h1 h2 => h v' w' ?_ h2 (own_below hown h2 hbase)
  · subst had; exact hl2.src
  · obtain ⟨e, _, he⟩ := List.mem_flatMap.1 hu
    simp only [attCells, List.mem_cons, List.not_mem_nil, or_false] at he
    rcases he with rfl | rfl <;> rfl
  · unfold OA
    rw [List.length_append, List.flatMap_append]
    exact h1
theorem step_append_atts {W : World} {ops : Array Oper} {o : Oper} {a : Act} {K : Act → World → Prop} {Q : Exit → Act → World → Prop} {E : Prop} (hgd : o.guard = none) (s x : Operand)
    (ho : o.op = .call { callee := .builtin .append, args := #[s, x], argTypes := #[33, 33] })
    {base : Nat} {l l2 : List At} {v : Value} (hs : a.eval s = v) {ao : Option Addr} {m cap : Nat} (hx : a.eval x = .slice ao m cap) (hl2 : Atts l2 (.slice ao m cap) W) (hm : m = l2.length)
    (hown : OA base l v W) (hby : (l.length + l2.length) * 32 ≤ 140737488355328) (hbase : base ≤ W.heap.size)
    (h : ∀ v' w', OA base (l ++ l2) v' w' → W.grownBy w' v.ownBlock → Below base W w' → K (a.put o.dst v') w') : if Region.wanted o (yielded ops a.tmps) then o.wp Try.prog a W K Q else E := by
  subst hm
  refine step_append_any hgd s x 33 65 ho Try.underlying33 info_att rfl (by decide) hs hx hl2.none_cap (flat_size attCells_len l2) (fun ad had => ?_) (fun u hu => ?_) hown (by unfold maxLen; omega) hby hbase fun v' w' h1 h2 => h v' w' ?_ h2 (own_below hown h2 hbase)
  · subst had; exact hl2.src
  · obtain ⟨e, _, he⟩ := List.mem_flatMap.1 hu
    simp only [attCells, List.mem_cons, List.not_mem_nil, or_false] at he
    rcases he with rfl | rfl <;> rfl
  · unfold OA
    rw [List.length_append, List.flatMap_append]
    exact h1
theorem wpList_append_nums {W : World} {ops : Array Oper} {rest : List Oper} {o : Oper} {a : Act} {Q : Exit → Act → World → Prop} (hgd : o.guard = none) (s x : Operand)
    (ho : o.op = .call { callee := .builtin .append, args := #[s, x], argTypes := #[28, 28] })
    {base : Nat} {l l2 : List Int} {v : Value} (hs : a.eval s = v) {ao : Option Addr} {m cap : Nat} (hx : a.eval x = .slice ao m cap) (hl2 : Nums l2 (.slice ao m cap) W) (hm : m = l2.length)
    (hown : OI base l v W) (hby : (l.length + l2.length) * 8 ≤ 140737488355328) (hbase : base ≤ W.heap.size)
    (h : ∀ v' w', OI base (l ++ l2) v' w' → W.grownBy w' v.ownBlock → Below base W w' → wpList Try.prog ops Q rest (a.put o.dst v') w') : wpList Try.prog ops Q (o :: rest) a W := by
  subst hm
  refine wpList_append_any hgd s x 28 3 ho Try.underlying28 info_int rfl (by decide) (news := l2.map (Value.int .i64)) hs hx hl2.none_cap (by simp) (fun ad had => ?_) (fun u hu => ?_) hown (by unfold maxLen; omega) hby hbase fun v' w' h1 h2 => h v' w' ?_ h2 (own_below hown h2 hbase)
  · subst had; exact hl2.src
  · obtain ⟨e, _, rfl⟩ := List.mem_map.1 hu
    rfl
  · unfold OI
    rw [List.length_append, List.map_append]
    exact h1

theorem step_append_nums {W : World} {ops : Array Oper} {o : Oper} {a : Act} {K : Act → World → Prop} {Q : Exit → Act → World → Prop} {E : Prop} (hgd : o.guard = none) (s x : Operand)
    (ho : o.op = .call { callee := .builtin .append, args := #[s, x], argTypes := #[28, 28] })
    {base : Nat} {l l2 : List Int} {v : Value} (hs : a.eval s = v) {ao : Option Addr} {m cap : Nat} (hx : a.eval x = .slice ao m cap) (hl2 : Nums l2 (.slice ao m cap) W) (hm : m = l2.length)
    (hown : OI base l v W) (hby : (l.length + l2.length) * 8 ≤ 140737488355328) (hbase : base ≤ W.heap.size)
    (h : ∀ v' w', OI base (l ++ l2) v' w' → W.grownBy w' v.ownBlock → Below base W w' → K (a.put o.dst v') w') : if Region.wanted o (yielded ops a.tmps) then o.wp Try.prog a W K Q else E := by
  subst hm
  refine step_append_any hgd s x 28 3 ho Try.underlying28 info_int rfl (by decide) (news := l2.map (Value.int .i64)) hs hx hl2.none_cap (by simp) (fun ad had => ?_) (fun u hu => ?_) hown (by unfold maxLen; omega) hby hbase fun v' w' h1 h2 => h v' w' ?_ h2 (own_below hown h2 hbase)
  · subst had; exact hl2.src
  · obtain ⟨e, _, rfl⟩ := List.mem_map.1 hu
    rfl
  · unfold OI
    rw [List.length_append, List.map_append]
    exact h1

/-! nodes: each with the values of its two rows -/
abbrev NdT := Nd × Value × Value
def ndCells (t : NdT) : List Value := [.string t.1.nm, .string t.1.tx, t.2.1, .int .i64 t.1.pa, t.2.2]
theorem ndCells_len (t : NdT) : (ndCells t).length = 5 := rfl
structure ON (base : Nat) (L : List NdT) (v : Value) (w : World) : Prop where
  row : w.ownsRow base 35 5 v L.length (L.flatMap ndCells)
  at' : ∀ t ∈ L, OA base t.1.ats t.2.1 w
  ki' : ∀ t ∈ L, OI base t.1.ks t.2.2 w
theorem ON.nil (base : Nat) (w : World) : ON base [] (.slice none 0 0) w := ⟨World.ownsRow_nil w base _ _, by simp, by simp⟩
theorem ON.kept {base : Nat} {L : List NdT} {v : Value} {w w' : World} (h : ON base L v w) (hb : Below w.heap.size w w') : ON base L v w' :=
  ⟨own_keep h.row hb, fun t ht => own_keep (h.at' t ht) hb, fun t ht => own_keep (h.ki' t ht) hb⟩
theorem ON.nodes {base : Nat} {L : List NdT} {v : Value} {w : World} (h : ON base L v w) : Nodes (L.map (·.1)) v w := by
  by_cases hl : L = []
  · subst hl
    obtain ⟨a, cap, rfl, hc⟩ := own_form h.row
    exact .inl ⟨rfl, a, cap, rfl, hc⟩
  · obtain ⟨g, cap, rfl, hn, _, hg, hc⟩ := own_cell h.row (by rw [ne_eq, ← List.length_eq_zero_iff, flat_size ndCells_len]; have := List.length_pos_iff.2 hl; omega)
    refine .inr ⟨g, 0, cap, by rw [List.length_map], by rw [List.length_map]; exact hn, hg, fun j x hx => ?_⟩
    rw [List.getElem?_map] at hx
    cases ht : L[j]? with
    | none => rw [ht] at hx; cases hx
    | some t =>
      rw [ht] at hx
      cases hx
      have hm := List.mem_of_getElem? ht
      have f := fun i u hu => hc _ _ (flat_get ndCells_len L j t ht i u hu)
      rw [Nat.zero_add]
      exact ⟨t.2.1, t.2.2, f 0 _ rfl, f 1 _ rfl, f 2 _ rfl, f 3 _ rfl, f 4 _ rfl, (h.at' t hm).atts, (h.ki' t hm).nums⟩
/-- 'out = append(out, n)': the node lies in a block of its own, laid just ahead -/
theorem wpList_append_node {W : World} {ops : Array Oper} {rest : List Oper} {o : Oper} {a : Act} {Q : Exit → Act → World → Prop} (hgd : o.guard = none) (s x : Operand)
    (ho : o.op = .call { callee := .builtin .append, args := #[s, x], argTypes := #[22, 22] })
    {base : Nat} {L : List NdT} {v : Value} (hs : a.eval s = v) (hx : a.eval x = .slice (some ⟨W.heap.size, 0, none⟩) 1 1) (y : Nd) (va vk : Value)
    (hown : ON base L v W) (hA : OA base y.ats va W) (hK : OI base y.ks vk W) (hby : (L.length + 1) * 88 ≤ 140737488355328) (hbase : base ≤ W.heap.size)
    (h : ∀ v' w', ON base (L ++ [(y, va, vk)]) v' w' → Below base W w' → wpList Try.prog ops Q rest (a.put o.dst v') w') : wpList Try.prog ops Q (o :: rest) a (W.alloc (.cells #[.string y.nm, .string y.tx, va, .int .i64 y.pa, vk] 35)) := by
  have hR := World.ownsRow.alloc hown.row (.cells #[.string y.nm, .string y.tx, va, .int .i64 y.pa, vk] 35)
  have hn := Go.heap_alloc_new W (.cells #[.string y.nm, .string y.tx, va, .int .i64 y.pa, vk] 35)
  refine wpList_append_any hgd s x 22 35 ho Try.underlying22 info_node rfl (by decide) hs hx (fun e => by cases e) (news := ndCells (y, va, vk)) rfl (fun ad had j u hj => ?_) (fun u hu => ?_) hR (by unfold maxLen; omega) hby (by simp; omega) fun v' w' h1 h2 => h v' w' ⟨?_, fun t ht => ?_, fun t ht => ?_⟩ (((Below.refl base W).alloc hbase _).trans (own_below hR h2 (by simp; omega)))
  · cases had
    rw [addr_add, Nat.zero_add]
    simp only [World.cell?, hn]
    simpa [ndCells] using hj
  · obtain ⟨a1, c1, rfl, _⟩ := own_form hA
    obtain ⟨a2, c2, rfl, _⟩ := own_form hK
    simp only [ndCells, List.mem_cons, List.not_mem_nil, or_false] at hu
    rcases hu with rfl | rfl | rfl | rfl | rfl <;> rfl
  · rw [List.length_append, List.flatMap_append, List.flatMap_cons, List.flatMap_nil, List.append_nil]
    exact h1
  · have key : ∀ {q : NdT}, OA base q.1.ats q.2.1 W → OA base q.1.ats q.2.1 w' := fun hq => by
      have hq' := World.ownsRow.alloc hq (.cells #[.string y.nm, .string y.tx, va, .int .i64 y.pa, vk] 35)
      exact World.ownsRow.kept hq' h2 (own_ne hq' hR (by decide))
    rcases List.mem_append.1 ht with ht | ht
    · exact key (hown.at' t ht)
    · obtain rfl := List.mem_singleton.1 ht
      exact key hA
  · have key : ∀ {q : NdT}, OI base q.1.ks q.2.2 W → OI base q.1.ks q.2.2 w' := fun hq => by
      have hq' := World.ownsRow.alloc hq (.cells #[.string y.nm, .string y.tx, va, .int .i64 y.pa, vk] 35)
      exact World.ownsRow.kept hq' h2 (own_ne hq' hR (by decide))
    rcases List.mem_append.1 ht with ht | ht
    · exact key (hown.ki' t ht)
    · obtain rfl := List.mem_singleton.1 ht
      exact key hK
theorem grown_set {w : World} {g i : Nat} (u : Value) : w.grownBy (w.setCell ⟨g, i, none⟩ u) (some g) := by
  refine ⟨rfl, rfl, rfl, by simp [World.setCell], fun k hk hne => ?_⟩
  simp only [World.setCell, Array.getElem?_modify]
  rw [if_neg (fun e => hne (by rw [e]))]
/-- a store into a block of another type -/
theorem own_set {base : Nat} {T T2 : TypeId} {sz n : Nat} {xs : List Value} {v u : Value} {w : World} {g i : Nat} {cur : Array Value} (h : w.ownsRow base T sz v n xs) (hg : w.heap[g]? = some (.cells cur T2 (0, 0))) (hT : T ≠ T2) : (w.setCell ⟨g, i, none⟩ u).ownsRow base T sz v n xs := by
  refine World.ownsRow.kept h (grown_set u) ?_
  obtain ⟨_, ⟨rfl, _⟩ | ⟨g', cap, cur', rfl, _, hg', _⟩⟩ := h
  · exact .inl rfl
  · refine .inr (fun e => ?_)
    have e' : g' = g := by simpa [Value.ownBlock] using e
    subst e'
    rw [hg] at hg'
    cases hg'
    exact hT rfl
end Go.Proofs.Ytenicjebccdekaa
