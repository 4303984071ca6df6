import Derived.Test.YtafbghlldlconaaGreatDoorPart1
import Derived.Laws.AppendOwnNone
import Derived.Laws.CopyRow
import Derived.Deep.RegionHeld3
import Derived.Deep.CutRange
import Derived.Deep.DeepCutAuto
/-
  A SLICE OF ONE-CELL ELEMENTS (texts, numbers, pointers) THAT THE CALL ITSELF BUILDS, told by its list of cells.
-/
namespace Go.Proofs.YtafbghlldlconaaGreatDoor
set_option linter.unusedVariables false
set_option linter.unusedSimpArgs false
open Go.RowKit

/-- the value v is a slice of one-cell elements of type T that holds xs, made since 'base' blocks lay -/
def OV (base : Nat) (T : TypeId) (xs : List Value) (v : Value) (w : World) : Prop := w.ownsRow base T 1 v xs.length xs
theorem OV.nil (base : Nat) (T : TypeId) (w : World) : OV base T [] (.slice none 0 0) w := World.ownsRow_nil w base _ _
theorem OV.alloc {base : Nat} {T : TypeId} {l : List Value} {v : Value} {w : World} (h : OV base T l v w) (o : Obj) : OV base T l v (w.alloc o) := World.ownsRow.alloc h o
theorem OV.form {base : Nat} {T : TypeId} {l : List Value} {v : Value} {w : World} (h : OV base T l v w) : ∃ a cap, v = .slice a l.length cap ∧ (a = none → l = []) := by
  obtain ⟨_, ⟨rfl, hn⟩ | ⟨g, cap, cur, rfl, _⟩⟩ := h
  · exact ⟨none, 0, by rw [hn], fun _ => List.length_eq_zero_iff.1 hn⟩
  · exact ⟨_, _, rfl, fun h => by cases h⟩
theorem OV.kept {base : Nat} {T : TypeId} {l : List Value} {v : Value} {w w' : World} (h : OV base T l v w) (hb : Below w.heap.size w w') : OV base T l v w' := by
  obtain ⟨h1, ⟨rfl, hn⟩ | ⟨g, cap, cur, rfl, h2, h3, h4⟩⟩ := h
  · exact ⟨h1, .inl ⟨rfl, hn⟩⟩
  · refine ⟨h1, .inr ⟨g, cap, cur, rfl, h2, ?_, h4⟩⟩
    have hlt : g < w.heap.size := by
      rcases Nat.lt_or_ge g w.heap.size with h | h
      · exact h
      · rw [Array.getElem?_eq_none h] at h3; cases h3
    rw [hb.block g hlt]; exact h3
theorem OV.cell {base : Nat} {T : TypeId} {l : List Value} {a : Addr} {n cap : Nat} {w : World} (h : OV base T l (.slice (some a) n cap) w) : ∀ j u, l[j]? = some u → w.cell? (a.add j) = some u := by
  intro j u hu
  obtain ⟨_, ⟨h1, hn⟩ | ⟨g, cap', cur, h1, h2, h3, h4, h5, h6, h7⟩⟩ := h
  · cases h1
  · cases h1
    have hj : j < l.length := (List.getElem?_eq_some_iff.1 hu).1
    rw [addr_add, Nat.zero_add]
    simp only [World.cell?, h3]
    rw [← h7, List.getElem?_take_of_lt (by omega)] at hu
    simpa using hu
theorem OV.at {base : Nat} {T : TypeId} {l : List Value} {v : Value} {w : World} (h : OV base T l v w) (hn : l ≠ []) : ∃ g cap, v = .slice (some ⟨g, 0, none⟩) l.length cap ∧ base ≤ g ∧ ∀ j u, l[j]? = some u → w.cell? ⟨g, j, none⟩ = some u := by
  have h0 := h
  obtain ⟨_, ⟨rfl, h1⟩ | ⟨g, cap, cur, rfl, h2, _⟩⟩ := h
  · exact absurd (List.length_eq_zero_iff.1 h1) hn
  · refine ⟨g, cap, rfl, h2, fun j u hu => ?_⟩
    have := h0.cell j u hu
    rwa [addr_add, Nat.zero_add] at this
theorem ov_below {base : Nat} {T : TypeId} {l : List Value} {w w' : World} {v : Value} (h : OV base T l v w) (hg : w.grownBy w' v.ownBlock) (hb : base ≤ w.heap.size) : Below base w w' :=
  (Below.refl base w).grown hg hb (fun k hk => (h.lt k hk).1)

/-- 'out = append(out, u)': the element lies in a block of its own, laid just ahead -/
theorem wpList_append_cell {W : World} {ops : Array Oper} {rest : List Oper} {o : Oper} {a : Act} {Q : Exit → Act → World → Prop} (hgd : o.guard = none) (s x : Operand) (S T : TypeId) {z : Value} {bytes : Nat}
    (ho : o.op = .call { callee := .builtin .append, args := #[s, x], argTypes := #[S, S] }) (hS : Tryz.prog.underlying S = some (.slice T))
    (hinfo : (Tryz.prog.info? T).map (fun i => (i.zero, i.size, i.bytes)) = some (some z, 1, bytes)) (hz : z.cells.size = 1) (hby : bytes ≤ 4096)
    {base : Nat} {l : List Value} {v : Value} (hs : a.eval s = v) (hx : a.eval x = .slice (some ⟨W.heap.size, 0, none⟩) 1 1) (u : Value) (hu : u.oneCell' = true)
    (hown : OV base T l v W) (hlen : l.length < 17179869184) (hbase : base ≤ W.heap.size)
    (h : ∀ v' w', OV base T (l ++ [u]) v' w' → Below base W w' → wpList Tryz.prog ops Q rest (a.put o.dst v') w') : wpList Tryz.prog ops Q (o :: rest) a (W.alloc (.cells #[u] T)) := by
  obtain ⟨i0, hi, hz0, hz1, hz2⟩ := info_parts hinfo
  refine wpList_append_own _ hgd s x S ho base T i0 z 1 bytes hS hi hz0 hz1 hz2 hz (by decide) v l.length l hs (World.ownsRow.alloc hown _) ⟨W.heap.size, 0, none⟩ 1 1 [u] hx rfl ?_ ?_ ?_ ?_ ?_ ?_
  · intro j y hj
    match j, hj with
    | 0, hj => simp at hj; subst hj; simp [addr_add]
  · intro y hy; simp at hy; subst hy; exact hu
  · unfold maxLen; omega
  · have : (l.length + 1) * bytes ≤ (l.length + 1) * 4096 := Nat.mul_le_mul_left _ hby
    omega
  · simp; omega
  · intro v' w1 h1 h2 _
    refine h v' w1 ?_ (((Below.refl base W).alloc hbase _).trans (ov_below (World.ownsRow.alloc hown _) h2 (by simp; omega)))
    unfold OV
    rw [List.length_append]
    exact h1
end Go.Proofs.YtafbghlldlconaaGreatDoor

/-
  A ROW OF NODES THAT THE CALL ITSELF BUILDS: the attributes and the children of each in rows of their own.
-/
namespace Go.Proofs.YtafbghlldlconaaGreatDoor
set_option linter.unusedVariables false
set_option linter.unusedSimpArgs false
open Go.RowKit

theorem flat_get {α : Type} {f : α → List Value} {m : Nat} (hf : ∀ x, (f x).length = m) : ∀ (es : List α) (j : Nat) (e : α), es[j]? = some e → ∀ i u, (f e)[i]? = some u → (es.flatMap f)[j * m + i]? = some u
  | [], _, _, h => by simp at h
  | x :: r, 0, e, h => fun i u hu => by
    simp at h; subst h
    have hi : i < m := by rw [← hf x]; exact (List.getElem?_eq_some_iff.1 hu).1
    rw [List.flatMap_cons, List.getElem?_append_left (by rw [hf]; omega), Nat.zero_mul, Nat.zero_add]
    exact hu
  | x :: r, j + 1, e, h => fun i u hu => by
    simp at h
    have := flat_get hf r j e h i u hu
    rw [List.flatMap_cons, List.getElem?_append_right (by rw [hf, Nat.add_mul]; omega), hf, show (j + 1) * m + i - m = j * m + i by rw [Nat.add_mul]; omega]
    exact this
theorem flat_size {α : Type} {f : α → List Value} {m : Nat} (hf : ∀ x, (f x).length = m) (es : List α) : (es.flatMap f).length = es.length * m := by
  induction es with
  | nil => simp
  | cons e r ih => rw [List.flatMap_cons, List.length_append, ih, hf, List.length_cons, Nat.add_mul]; omega
/-- a source, cell by cell -/
theorem flat_src {α : Type} {f : α → List Value} {m : Nat} (hm : 0 < m) (hf : ∀ x, (f x).length = m) {es : List α} {b off : Nat} {W : World} (hc : ∀ j e, es[j]? = some e → ∀ i u, (f e)[i]? = some u → W.cell? ⟨b, off + j * m + i, none⟩ = some u) :
    ∀ j u, (es.flatMap f)[j]? = some u → W.cell? ((⟨b, off, none⟩ : Addr).add j) = some u := by
  intro j u hj
  have hjl : j < es.length * m := by rw [← flat_size hf]; exact (List.getElem?_eq_some_iff.1 hj).1
  have hq : j / m < es.length := Nat.div_lt_of_lt_mul (by rw [Nat.mul_comm]; exact hjl)
  have hr : j % m < m := Nat.mod_lt _ hm
  have hcell := hc (j / m) es[j / m] (List.getElem?_eq_getElem hq) (j % m) ((f es[j / m])[j % m]'(by rw [hf]; omega)) (List.getElem?_eq_getElem _)
  have hg := flat_get hf es (j / m) es[j / m] (List.getElem?_eq_getElem hq) (j % m) ((f es[j / m])[j % m]'(by rw [hf]; omega)) (List.getElem?_eq_getElem _)
  have e5 : j / m * m + j % m = j := by rw [Nat.mul_comm]; exact Nat.div_add_mod j m
  rw [e5, hj] at hg
  cases hg
  rw [addr_add, show off + j = off + j / m * m + j % m by omega]
  exact hcell
/-- an own row's cells -/
theorem own_cell {base : Nat} {T : TypeId} {sz n : Nat} {xs : List Value} {v : Value} {w : World} (h : w.ownsRow base T sz v n xs) (hn : xs ≠ []) : ∃ g cap, v = .slice (some ⟨g, 0, none⟩) n cap ∧ n ≤ cap ∧ base ≤ g ∧ g < w.heap.size ∧ ∀ j u, xs[j]? = some u → w.cell? ⟨g, j, none⟩ = some u := by
  have h0 := h
  obtain ⟨hl, ⟨rfl, h1⟩ | ⟨g, cap, cur, rfl, h2, h3, h4, _⟩⟩ := h
  · rw [h1, Nat.zero_mul] at hl
    exact absurd (List.length_eq_zero_iff.1 hl) hn
  · refine ⟨g, cap, rfl, h4, h2, (Array.getElem?_eq_some_iff.1 h3).1, fun j u hu => ?_⟩
    have := h0.cells (g := g) rfl j u hu
    rwa [addr_add, Nat.zero_add] at this
theorem own_form {base : Nat} {T : TypeId} {sz n : Nat} {xs : List Value} {v : Value} {w : World} (h : w.ownsRow base T sz v n xs) : ∃ a cap, v = .slice a n cap ∧ (a = none → cap = 0) := by
  obtain ⟨_, ⟨rfl, h1⟩ | ⟨g, cap, cur, rfl, _⟩⟩ := h
  · exact ⟨none, 0, by rw [h1], fun _ => rfl⟩
  · exact ⟨_, _, rfl, fun e => by cases e⟩
/-- rows of two types share no block -/
theorem own_ne {b1 b2 : Nat} {T1 T2 : TypeId} {z1 z2 n1 n2 : Nat} {x1 x2 : List Value} {v1 v2 : Value} {w : World} (h1 : w.ownsRow b1 T1 z1 v1 n1 x1) (h2 : w.ownsRow b2 T2 z2 v2 n2 x2) (hT : T1 ≠ T2) : v1.ownBlock = none ∨ v1.ownBlock ≠ v2.ownBlock := by
  obtain ⟨_, ⟨rfl, _⟩ | ⟨g, cap, cur, rfl, _, hg, _⟩⟩ := h1
  · exact .inl rfl
  · obtain ⟨_, ⟨rfl, _⟩ | ⟨g', cap', cur', rfl, _, hg', _⟩⟩ := h2
    · exact .inr (fun e => by cases e)
    · refine .inr (fun e => ?_)
      have e' : g = g' := by simpa [Value.ownBlock] using e
      subst e'
      rw [hg] at hg'
      cases hg'
      exact hT rfl
theorem own_keep {base : Nat} {T : TypeId} {sz n : Nat} {xs : List Value} {v : Value} {w w' : World} (h : w.ownsRow base T sz v n xs) (hb : Below w.heap.size w w') : w'.ownsRow base T sz v n xs := by
  obtain ⟨h1, ⟨rfl, hn⟩ | ⟨g, cap, cur, rfl, h2, h3, h4⟩⟩ := h
  · exact ⟨h1, .inl ⟨rfl, hn⟩⟩
  · refine ⟨h1, .inr ⟨g, cap, cur, rfl, h2, ?_, h4⟩⟩
    rw [hb.block g (Array.getElem?_eq_some_iff.1 h3).1]; exact h3
theorem grown_refl (w : World) (row : Option Nat) : w.grownBy w row := ⟨rfl, rfl, rfl, Nat.le_refl _, fun _ _ _ => rfl⟩
theorem own_below {base : Nat} {T : TypeId} {sz n : Nat} {xs : List Value} {w w' : World} {v : Value} (h : w.ownsRow base T sz v n xs) (hg : w.grownBy w' v.ownBlock) (hb : base ≤ w.heap.size) : Below base w w' :=
  (Below.refl base w).grown hg hb (fun k hk => (h.lt k hk).1)
/-- 'out = append(out, l...)' whatever l's elements are, and where it is nil -/
theorem wpList_append_any {W : World} {ops : Array Oper} {rest : List Oper} {o : Oper} {a : Act} {Q : Exit → Act → World → Prop} (hgd : o.guard = none) (s x : Operand) (S T : TypeId) {z : Value} {size bytes : Nat}
    (ho : o.op = .call { callee := .builtin .append, args := #[s, x], argTypes := #[S, S] }) (hS : Tryz.prog.underlying S = some (.slice T))
    (hinfo : (Tryz.prog.info? T).map (fun i => (i.zero, i.size, i.bytes)) = some (some z, size, bytes)) (hz : z.cells.size = size) (hsz : 0 < size)
    {base n : Nat} {xs : List Value} {v : Value} (hs : a.eval s = v) {ao : Option Addr} {m cap : Nat} {news : List Value} (hx : a.eval x = .slice ao m cap) (hao : ao = none → m = 0 ∧ cap = 0) (hl : news.length = m * size)
    (hnews : ∀ ad, ao = some ad → ∀ j u, news[j]? = some u → W.cell? (ad.add j) = some u) (hu : ∀ u ∈ news, u.oneCell' = true)
    (hown : W.ownsRow base T size v n xs) (hlen : n + m ≤ maxLen) (hby : (n + m) * bytes ≤ 140737488355328) (hbase : base ≤ W.heap.size)
    (h : ∀ v' w', w'.ownsRow base T size v' (n + m) (xs ++ news) → W.grownBy w' v.ownBlock → wpList Tryz.prog ops Q rest (a.put o.dst v') w') : wpList Tryz.prog ops Q (o :: rest) a W := by
  obtain ⟨i0, hi, hz0, hz1, hz2⟩ := info_parts hinfo
  cases ao with
  | none =>
    obtain ⟨rfl, rfl⟩ := hao rfl
    have hn : news = [] := List.length_eq_zero_iff.1 (by rw [hl, Nat.zero_mul])
    subst hn
    refine wpList_append_own_none hgd s x S ho base T i0 size hS hi v n xs hs hown hx (h v W ?_ (grown_refl _ _))
    rw [List.append_nil, Nat.add_zero]
    exact hown
  | some ad =>
    exact wpList_append_own _ hgd s x S ho base T i0 z size bytes hS hi hz0 hz1 hz2 hz hsz v n xs hs hown ad m cap news hx hl (hnews ad rfl) hu hlen hby hbase fun v' w1 h1 h2 _ => h v' w1 h1 h2

/-- the same in a region that draws its order -/
theorem step_append_any {W : World} {ops : Array Oper} {o : Oper} {a : Act} {K : Act → World → Prop} {Q : Exit → Act → World → Prop} {E : Prop} (hgd : o.guard = none) (s x : Operand) (S T : TypeId) {z : Value} {size bytes : Nat}
    (ho : o.op = .call { callee := .builtin .append, args := #[s, x], argTypes := #[S, S] }) (hS : Tryz.prog.underlying S = some (.slice T))
    (hinfo : (Tryz.prog.info? T).map (fun i => (i.zero, i.size, i.bytes)) = some (some z, size, bytes)) (hz : z.cells.size = size) (hsz : 0 < size)
    {base n : Nat} {xs : List Value} {v : Value} (hs : a.eval s = v) {ao : Option Addr} {m cap : Nat} {news : List Value} (hx : a.eval x = .slice ao m cap) (hao : ao = none → m = 0 ∧ cap = 0) (hl : news.length = m * size)
    (hnews : ∀ ad, ao = some ad → ∀ j u, news[j]? = some u → W.cell? (ad.add j) = some u) (hu : ∀ u ∈ news, u.oneCell' = true)
    (hown : W.ownsRow base T size v n xs) (hlen : n + m ≤ maxLen) (hby : (n + m) * bytes ≤ 140737488355328) (hbase : base ≤ W.heap.size)
    (h : ∀ v' w', w'.ownsRow base T size v' (n + m) (xs ++ news) → W.grownBy w' v.ownBlock → K (a.put o.dst v') w') : if Region.wanted o (yielded ops a.tmps) then o.wp Tryz.prog a W K Q else E := by
  have hw : Region.wanted o (yielded ops a.tmps) = true := by simp [Region.wanted, hgd]
  rw [if_pos hw]
  obtain ⟨i0, hi, hz0, hz1, hz2⟩ := info_parts hinfo
  cases ao with
  | none =>
    obtain ⟨rfl, rfl⟩ := hao rfl
    have hn : news = [] := List.length_eq_zero_iff.1 (by rw [hl, Nat.zero_mul])
    subst hn
    have hrun := run_append_owned_none (P := Tryz.prog) (w := W) base S o.type T i0 size hS hi v n xs hown
    unfold Oper.wp
    simp [execOp, ho, resolve, invoke, builtin, hs, hx, hrun, Result.andThen]
    refine h v W ?_ (grown_refl _ _)
    rw [List.append_nil, Nat.add_zero]
    exact hown
  | some ad =>
    exact wp_append_own _ s x S ho base T i0 z size bytes hS hi hz0 hz1 hz2 hz hsz v n xs hs hown ad m cap news hx hl (hnews ad rfl) hu hlen hby hbase fun v' w1 h1 h2 _ => h v' w1 h1 h2

/-! attributes, numbers -/
def attCells (a : At) : List Value := [.string a.n, .string a.v]
theorem attCells_len (a : At) : (attCells a).length = 2 := rfl
def OA (base : Nat) (l : List At) (v : Value) (w : World) : Prop := w.ownsRow base 117 2 v l.length (l.flatMap attCells)
def OI (base : Nat) (l : List Int) (v : Value) (w : World) : Prop := w.ownsRow base 3 1 v l.length (l.map (Value.int .i64))
theorem info_att : (Tryz.prog.info? 117).map (fun i => (i.zero, i.size, i.bytes)) = some (some (.agg #[.string ⟨#[]⟩, .string ⟨#[]⟩]), 2, 32) := by kernel_rfl
theorem info_int : (Tryz.prog.info? 3).map (fun i => (i.zero, i.size, i.bytes)) = some (some (.int .i64 0), 1, 8) := by kernel_rfl
theorem info_node : (Tryz.prog.info? 54).map (fun i => (i.zero, i.size, i.bytes)) = some (some (.agg #[.string ⟨#[]⟩, .string ⟨#[]⟩, .slice none 0 0, .int .i64 0, .slice none 0 0]), 5, 88) := by kernel_rfl
theorem OA.atts {base : Nat} {l : List At} {v : Value} {w : World} (h : OA base l v w) : Atts l v w := by
  by_cases hl : l = []
  · subst hl
    obtain ⟨a, cap, rfl, hc⟩ := own_form h
    exact .inl ⟨rfl, a, cap, rfl, hc⟩
  · obtain ⟨g, cap, rfl, hn, _, hg, hc⟩ := own_cell h (by rw [ne_eq, ← List.length_eq_zero_iff, flat_size attCells_len]; have := List.length_pos_iff.2 hl; omega)
    refine .inr ⟨g, 0, cap, rfl, hn, hg, fun j x hx => ?_⟩
    have h0 := hc _ _ (flat_get attCells_len l j x hx 0 _ rfl)
    have h1 := hc _ _ (flat_get attCells_len l j x hx 1 _ rfl)
    rw [Nat.zero_add]
    exact ⟨h0, h1⟩
theorem OI.nums {base : Nat} {l : List Int} {v : Value} {w : World} (h : OI base l v w) : Nums l v w := by
  by_cases hl : l = []
  · subst hl
    obtain ⟨a, cap, rfl, hc⟩ := own_form h
    exact .inl ⟨rfl, a, cap, rfl, hc⟩
  · obtain ⟨g, cap, rfl, hn, _, hg, hc⟩ := own_cell h (by simpa using hl)
    refine .inr ⟨g, 0, cap, rfl, hn, hg, fun j x hx => ?_⟩
    rw [Nat.zero_add]
    exact hc j _ (by rw [List.getElem?_map, hx]; rfl)
theorem Atts.none_cap {l : List At} {w : World} {ao : Option Addr} {m cap : Nat} (h : Atts l (.slice ao m cap) w) : ao = none → m = 0 ∧ cap = 0 := by
  rintro rfl
  rcases h with ⟨rfl, a, cap', hv, hc⟩ | ⟨b, o, cap', hv, _⟩
  · cases hv; exact ⟨rfl, hc rfl⟩
  · cases hv
theorem Nums.none_cap {l : List Int} {w : World} {ao : Option Addr} {m cap : Nat} (h : Nums l (.slice ao m cap) w) : ao = none → m = 0 ∧ cap = 0 := by
  rintro rfl
  rcases h with ⟨rfl, a, cap', hv, hc⟩ | ⟨b, o, cap', hv, _⟩
  · cases hv; exact ⟨rfl, hc rfl⟩
  · cases hv
theorem Atts.src {l : List At} {w : World} {ad : Addr} {m cap : Nat} (h : Atts l (.slice (some ad) m cap) w) : ∀ j u, (l.flatMap attCells)[j]? = some u → w.cell? (ad.add j) = some u := by
  rcases h with ⟨rfl, _⟩ | ⟨b, o, cap', hv, _, _, hc⟩
  · intro j u hu; simp at hu
  · cases hv
    refine flat_src (m := 2) (by omega) attCells_len (fun j e he i u hu => ?_)
    obtain ⟨c0, c1⟩ := hc j e he
    match i, hu with
    | 0, hu => cases hu; exact c0
    | 1, hu => cases hu; exact c1
theorem Nums.src {l : List Int} {w : World} {ad : Addr} {m cap : Nat} (h : Nums l (.slice (some ad) m cap) w) : ∀ j u, (l.map (Value.int .i64))[j]? = some u → w.cell? (ad.add j) = some u := by
  rcases h with ⟨rfl, _⟩ | ⟨b, o, cap', hv, _, _, hc⟩
  · intro j u hu; simp at hu
  · cases hv
    intro j u hu
    rw [List.getElem?_map] at hu
    cases hx : l[j]? with
    | none => rw [hx] at hu; cases hu
    | some x =>
      rw [hx] at hu
      cases hu
      rw [addr_add]
      exact hc j x hx
/-- 'n.Attrs = append(n.Attrs, l...)' -/
theorem wpList_append_atts {W : World} {ops : Array Oper} {rest : List Oper} {o : Oper} {a : Act} {Q : Exit → Act → World → Prop} (hgd : o.guard = none) (s x : Operand)
    (ho : o.op = .call { callee := .builtin .append, args := #[s, x], argTypes := #[51, 51] })
    {base : Nat} {l l2 : List At} {v : Value} (hs : a.eval s = v) {ao : Option Addr} {m cap : Nat} (hx : a.eval x = .slice ao m cap) (hl2 : Atts l2 (.slice ao m cap) W) (hm : m = l2.length)
    (hown : OA base l v W) (hby : (l.length + l2.length) * 32 ≤ 140737488355328) (hbase : base ≤ W.heap.size)
    (h : ∀ v' w', OA base (l ++ l2) v' w' → W.grownBy w' v.ownBlock → Below base W w' → wpList Tryz.prog ops Q rest (a.put o.dst v') w') : wpList Tryz.prog ops Q (o :: rest) a W := by
  subst hm
  refine wpList_append_any hgd s x 51 117 ho Tryz.underlying51 info_att rfl (by decide) hs hx hl2.none_cap (flat_size attCells_len l2) (fun ad had => ?_) (fun u hu => ?_) hown (by unfold maxLen; omega) hby hbase fun v' w' h1 h2 => h v' w' ?_ h2 (own_below hown h2 hbase)
  · subst had; exact hl2.src
  · obtain ⟨e, _, he⟩ := List.mem_flatMap.1 hu
    simp only [attCells, List.mem_cons, List.not_mem_nil, or_false] at he
    rcases he with rfl | rfl <;> rfl
  · unfold OA
    rw [List.length_append, List.flatMap_append]
    exact h1
theorem step_append_atts {W : World} {ops : Array Oper} {o : Oper} {a : Act} {K : Act → World → Prop} {Q : Exit → Act → World → Prop} {E : Prop} (hgd : o.guard = none) (s x : Operand)
    (ho : o.op = .call { callee := .builtin .append, args := #[s, x], argTypes := #[51, 51] })
    {base : Nat} {l l2 : List At} {v : Value} (hs : a.eval s = v) {ao : Option Addr} {m cap : Nat} (hx : a.eval x = .slice ao m cap) (hl2 : Atts l2 (.slice ao m cap) W) (hm : m = l2.length)
    (hown : OA base l v W) (hby : (l.length + l2.length) * 32 ≤ 140737488355328) (hbase : base ≤ W.heap.size)
    (h : ∀ v' w', OA base (l ++ l2) v' w' → W.grownBy w' v.ownBlock → Below base W w' → K (a.put o.dst v') w') : if Region.wanted o (yielded ops a.tmps) then o.wp Tryz.prog a W K Q else E := by
  subst hm
  refine step_append_any hgd s x 51 117 ho Tryz.underlying51 info_att rfl (by decide) hs hx hl2.none_cap (flat_size attCells_len l2) (fun ad had => ?_) (fun u hu => ?_) hown (by unfold maxLen; omega) hby hbase fun v' w' h1 h2 => h v' w' ?_ h2 (own_below hown h2 hbase)
  · subst had; exact hl2.src
  · obtain ⟨e, _, he⟩ := List.mem_flatMap.1 hu
    simp only [attCells, List.mem_cons, List.not_mem_nil, or_false] at he
    rcases he with rfl | rfl <;> rfl
  · unfold OA
    rw [List.length_append, List.flatMap_append]
    exact h1
theorem wpList_append_nums {W : World} {ops : Array Oper} {rest : List Oper} {o : Oper} {a : Act} {Q : Exit → Act → World → Prop} (hgd : o.guard = none) (s x : Operand)
    (ho : o.op = .call { callee := .builtin .append, args := #[s, x], argTypes := #[52, 52] })
    {base : Nat} {l l2 : List Int} {v : Value} (hs : a.eval s = v) {ao : Option Addr} {m cap : Nat} (hx : a.eval x = .slice ao m cap) (hl2 : Nums l2 (.slice ao m cap) W) (hm : m = l2.length)
    (hown : OI base l v W) (hby : (l.length + l2.length) * 8 ≤ 140737488355328) (hbase : base ≤ W.heap.size)
    (h : ∀ v' w', OI base (l ++ l2) v' w' → W.grownBy w' v.ownBlock → Below base W w' → wpList Tryz.prog ops Q rest (a.put o.dst v') w') : wpList Tryz.prog ops Q (o :: rest) a W := by
  subst hm
  refine wpList_append_any hgd s x 52 3 ho Tryz.underlying52 info_int rfl (by decide) (news := l2.map (Value.int .i64)) hs hx hl2.none_cap (by simp) (fun ad had => ?_) (fun u hu => ?_) hown (by unfold maxLen; omega) hby hbase fun v' w' h1 h2 => h v' w' ?_ h2 (own_below hown h2 hbase)
  · subst had; exact hl2.src
  · obtain ⟨e, _, rfl⟩ := List.mem_map.1 hu
    rfl
  · unfold OI
    rw [List.length_append, List.map_append]
    exact h1

theorem step_append_nums {W : World} {ops : Array Oper} {o : Oper} {a : Act} {K : Act → World → Prop} {Q : Exit → Act → World → Prop} {E : Prop} (hgd : o.guard = none) (s x : Operand)
    (ho : o.op = .call { callee := .builtin .append, args := #[s, x], argTypes := #[52, 52] })
    {base : Nat} {l l2 : List Int} {v : Value} (hs : a.eval s = v) {ao : Option Addr} {m cap : Nat} (hx : a.eval x = .slice ao m cap) (hl2 : Nums l2 (.slice ao m cap) W) (hm : m = l2.length)
    (hown : OI base l v W) (hby : (l.length + l2.length) * 8 ≤ 140737488355328) (hbase : base ≤ W.heap.size)
    (h : ∀ v' w', OI base (l ++ l2) v' w' → W.grownBy w' v.ownBlock → Below base W w' → K (a.put o.dst v') w') : if Region.wanted o (yielded ops a.tmps) then o.wp Tryz.prog a W K Q else E := by
  subst hm
  refine step_append_any hgd s x 52 3 ho Tryz.underlying52 info_int rfl (by decide) (news := l2.map (Value.int .i64)) hs hx hl2.none_cap (by simp) (fun ad had => ?_) (fun u hu => ?_) hown (by unfold maxLen; omega) hby hbase fun v' w' h1 h2 => h v' w' ?_ h2 (own_below hown h2 hbase)
  · subst had; exact hl2.src
  · obtain ⟨e, _, rfl⟩ := List.mem_map.1 hu
    rfl
  · unfold OI
    rw [List.length_append, List.map_append]
    exact h1

/-! nodes: each with the values of its two rows -/
abbrev NdT := Nd × Value × Value
def ndCells (t : NdT) : List Value := [.string t.1.nm, .string t.1.tx, t.2.1, .int .i64 t.1.pa, t.2.2]
theorem ndCells_len (t : NdT) : (ndCells t).length = 5 := rfl
structure ON (base : Nat) (L : List NdT) (v : Value) (w : World) : Prop where
  row : w.ownsRow base 54 5 v L.length (L.flatMap ndCells)
  at' : ∀ t ∈ L, OA base t.1.ats t.2.1 w
  ki' : ∀ t ∈ L, OI base t.1.ks t.2.2 w
theorem ON.nil (base : Nat) (w : World) : ON base [] (.slice none 0 0) w := ⟨World.ownsRow_nil w base _ _, by simp, by simp⟩
theorem ON.kept {base : Nat} {L : List NdT} {v : Value} {w w' : World} (h : ON base L v w) (hb : Below w.heap.size w w') : ON base L v w' :=
  ⟨own_keep h.row hb, fun t ht => own_keep (h.at' t ht) hb, fun t ht => own_keep (h.ki' t ht) hb⟩
theorem ON.nodes {base : Nat} {L : List NdT} {v : Value} {w : World} (h : ON base L v w) : Nodes (L.map (·.1)) v w := by
  by_cases hl : L = []
  · subst hl
    obtain ⟨a, cap, rfl, hc⟩ := own_form h.row
    exact .inl ⟨rfl, a, cap, rfl, hc⟩
  · obtain ⟨g, cap, rfl, hn, _, hg, hc⟩ := own_cell h.row (by rw [ne_eq, ← List.length_eq_zero_iff, flat_size ndCells_len]; have := List.length_pos_iff.2 hl; omega)
    refine .inr ⟨g, 0, cap, by rw [List.length_map], by rw [List.length_map]; exact hn, hg, fun j x hx => ?_⟩
    rw [List.getElem?_map] at hx
    cases ht : L[j]? with
    | none => rw [ht] at hx; cases hx
    | some t =>
      rw [ht] at hx
      cases hx
      have hm := List.mem_of_getElem? ht
      have f := fun i u hu => hc _ _ (flat_get ndCells_len L j t ht i u hu)
      rw [Nat.zero_add]
      exact ⟨t.2.1, t.2.2, f 0 _ rfl, f 1 _ rfl, f 2 _ rfl, f 3 _ rfl, f 4 _ rfl, (h.at' t hm).atts, (h.ki' t hm).nums⟩
/-- 'out = append(out, n)': the node lies in a block of its own, laid just ahead -/
theorem wpList_append_node {W : World} {ops : Array Oper} {rest : List Oper} {o : Oper} {a : Act} {Q : Exit → Act → World → Prop} (hgd : o.guard = none) (s x : Operand)
    (ho : o.op = .call { callee := .builtin .append, args := #[s, x], argTypes := #[22, 22] })
    {base : Nat} {L : List NdT} {v : Value} (hs : a.eval s = v) (hx : a.eval x = .slice (some ⟨W.heap.size, 0, none⟩) 1 1) (y : Nd) (va vk : Value)
    (hown : ON base L v W) (hA : OA base y.ats va W) (hK : OI base y.ks vk W) (hby : (L.length + 1) * 88 ≤ 140737488355328) (hbase : base ≤ W.heap.size)
    (h : ∀ v' w', ON base (L ++ [(y, va, vk)]) v' w' → Below base W w' → wpList Tryz.prog ops Q rest (a.put o.dst v') w') : wpList Tryz.prog ops Q (o :: rest) a (W.alloc (.cells #[.string y.nm, .string y.tx, va, .int .i64 y.pa, vk] 54)) := by
  have hR := World.ownsRow.alloc hown.row (.cells #[.string y.nm, .string y.tx, va, .int .i64 y.pa, vk] 54)
  have hn := Go.heap_alloc_new W (.cells #[.string y.nm, .string y.tx, va, .int .i64 y.pa, vk] 54)
  refine wpList_append_any hgd s x 22 54 ho Tryz.underlying22 info_node rfl (by decide) hs hx (fun e => by cases e) (news := ndCells (y, va, vk)) rfl (fun ad had j u hj => ?_) (fun u hu => ?_) hR (by unfold maxLen; omega) hby (by simp; omega) fun v' w' h1 h2 => h v' w' ⟨?_, fun t ht => ?_, fun t ht => ?_⟩ (((Below.refl base W).alloc hbase _).trans (own_below hR h2 (by simp; omega)))
  · cases had
    rw [addr_add, Nat.zero_add]
    simp only [World.cell?, hn]
    simpa [ndCells] using hj
  · obtain ⟨a1, c1, rfl, _⟩ := own_form hA
    obtain ⟨a2, c2, rfl, _⟩ := own_form hK
    simp only [ndCells, List.mem_cons, List.not_mem_nil, or_false] at hu
    rcases hu with rfl | rfl | rfl | rfl | rfl <;> rfl
  · rw [List.length_append, List.flatMap_append, List.flatMap_cons, List.flatMap_nil, List.append_nil]
    exact h1
  · have key : ∀ {q : NdT}, OA base q.1.ats q.2.1 W → OA base q.1.ats q.2.1 w' := fun hq => by
      have hq' := World.ownsRow.alloc hq (.cells #[.string y.nm, .string y.tx, va, .int .i64 y.pa, vk] 54)
      exact World.ownsRow.kept hq' h2 (own_ne hq' hR (by decide))
    rcases List.mem_append.1 ht with ht | ht
    · exact key (hown.at' t ht)
    · obtain rfl := List.mem_singleton.1 ht
      exact key hA
  · have key : ∀ {q : NdT}, OI base q.1.ks q.2.2 W → OI base q.1.ks q.2.2 w' := fun hq => by
      have hq' := World.ownsRow.alloc hq (.cells #[.string y.nm, .string y.tx, va, .int .i64 y.pa, vk] 54)
      exact World.ownsRow.kept hq' h2 (own_ne hq' hR (by decide))
    rcases List.mem_append.1 ht with ht | ht
    · exact key (hown.ki' t ht)
    · obtain rfl := List.mem_singleton.1 ht
      exact key hK
theorem grown_set {w : World} {g i : Nat} (u : Value) : w.grownBy (w.setCell ⟨g, i, none⟩ u) (some g) := by
  refine ⟨rfl, rfl, rfl, by simp [World.setCell], fun k hk hne => ?_⟩
  simp only [World.setCell, Array.getElem?_modify]
  rw [if_neg (fun e => hne (by rw [e]))]
/-- a store into a block of another type -/
theorem own_set {base : Nat} {T T2 : TypeId} {sz n : Nat} {xs : List Value} {v u : Value} {w : World} {g i : Nat} {cur : Array Value} (h : w.ownsRow base T sz v n xs) (hg : w.heap[g]? = some (.cells cur T2 (0, 0))) (hT : T ≠ T2) : (w.setCell ⟨g, i, none⟩ u).ownsRow base T sz v n xs := by
  refine World.ownsRow.kept h (grown_set u) ?_
  obtain ⟨_, ⟨rfl, _⟩ | ⟨g', cap, cur', rfl, _, hg', _⟩⟩ := h
  · exact .inl rfl
  · refine .inr (fun e => ?_)
    have e' : g' = g := by simpa [Value.ownBlock] using e
    subst e'
    rw [hg] at hg'
    cases hg'
    exact hT rfl
end Go.Proofs.YtafbghlldlconaaGreatDoor

/-
  NAMES of elements and attributes: tree.named, ref10.Name: the walks.
-/
namespace Go.Proofs.YtafbghlldlconaaGreatDoor
set_option linter.unusedVariables false
set_option linter.unusedSimpArgs false
open Go.RowKit PT

def smB (c : UInt8) : Bool := decide (97 ≤ c.toNat) && decide (c.toNat ≤ 122)
def otB (c : UInt8) : Bool := (decide (48 ≤ c.toNat) && decide (c.toNat ≤ 57)) || decide (c.toNat = 45)
def snB (c : UInt8) : Bool := smB c || otB c
/-- is a text a name? -/
def nmB (l : List UInt8) : Bool := decide (0 < l.length) && (decide (l.length ≤ 20) && ((match l.head? with | none => false | some c => smB c) && l.all snB))
theorem smB_no {c : UInt8} (h : smB c = false) : c.toNat < 97 ∨ 122 < c.toNat := by
  unfold smB at h
  rcases Bool.and_eq_false_iff.1 h with h | h
  · have := of_decide_eq_false h; omega
  · have := of_decide_eq_false h; omega
theorem smB_yes {c : UInt8} (h : smB c = true) : 97 ≤ c.toNat ∧ c.toNat ≤ 122 := by
  unfold smB at h
  rw [Bool.and_eq_true] at h
  exact ⟨of_decide_eq_true h.1, of_decide_eq_true h.2⟩
theorem otB_yes {c : UInt8} (h : otB c = true) : (48 ≤ c.toNat ∧ c.toNat ≤ 57) ∨ c.toNat = 45 := by
  unfold otB at h
  rw [Bool.or_eq_true, Bool.and_eq_true] at h
  rcases h with h | h
  · exact .inl ⟨of_decide_eq_true h.1, of_decide_eq_true h.2⟩
  · exact .inr (of_decide_eq_true h)
theorem otB_no {c : UInt8} (h : otB c = false) : (c.toNat < 48 ∨ 57 < c.toNat) ∧ c.toNat ≠ 45 := by
  unfold otB at h
  rw [Bool.or_eq_false_iff] at h
  refine ⟨?_, of_decide_eq_false h.2⟩
  rcases Bool.and_eq_false_iff.1 h.1 with h | h
  · have := of_decide_eq_false h; omega
  · have := of_decide_eq_false h; omega
theorem nmB_head {s : ByteArray} (h : 0 < s.size) : s.data.toList.head? = some s[0] := by
  have : s.data.toList = s[0] :: s.data.toList.drop 1 := by have := drop_cons' s 0 h; simpa using this
  rw [this]; rfl
theorem nmB_no0 {s : ByteArray} (h : s.size = 0) : nmB s.data.toList = false := by
  unfold nmB; rw [size_list, decide_eq_false (by omega)]; rfl
theorem nmB_long {s : ByteArray} (h : 20 < s.size) : nmB s.data.toList = false := by
  unfold nmB; rw [size_list, decide_eq_false (show ¬ s.size ≤ 20 by omega)]; simp
theorem nmB_first {s : ByteArray} (h : 0 < s.size) (hn : smB s[0] = false) : nmB s.data.toList = false := by
  unfold nmB; rw [nmB_head h]; simp only; rw [hn]; simp
theorem nmB_at {s : ByteArray} {k : Nat} (h : k < s.size) (hn : snB s[k] = false) : nmB s.data.toList = false := by
  unfold nmB
  have : s.data.toList.all snB = false := by
    rw [← List.take_append_drop k s.data.toList, List.all_append, drop_cons' s k h, List.all_cons, hn]; simp
  rw [this]; simp
theorem nmB_yes {s : ByteArray} (h : 0 < s.size) (h20 : s.size ≤ 20) (hs : smB s[0] = true) (ha : ∀ c ∈ s.data.toList, snB c = true) : nmB s.data.toList = true := by
  unfold nmB
  rw [nmB_head h, size_list, decide_eq_true h, decide_eq_true h20]
  simp only
  rw [hs, List.all_eq_true.2 ha]; rfl
theorem snB_snoc (s : ByteArray) (k : Nat) (h : k < s.size) (ha : ∀ c ∈ s.data.toList.take k, snB c = true) (hc : snB s[k] = true) : ∀ c ∈ s.data.toList.take (k + 1), snB c = true := by
  rw [take_snoc s k h]
  intro c hm
  rcases List.mem_append.1 hm with hm | hm
  · exact ha c hm
  · rw [List.mem_singleton] at hm; rw [hm]; exact hc
set_option maxHeartbeats 4000000 in
set_option maxRecDepth 100000 in
theorem named_any (s : ByteArray) (w : World) :
    Calls Tryz.prog 128 #[.string s] w fun e w' => e = .returned (.bool (nmB s.data.toList)) ∧ w = w' := by
  by_cases h0 : s.size = 0
  · have hR := Lib.hid (nmB_no0 h0)
    have hs : s = ⟨#[]⟩ := by
      apply ByteArray.ext
      apply Array.eq_empty_of_size_eq_zero
      exact h0
    subst hs
    clear h0
    go_enter Tryz.func128, Tryz.ntmps128
    go_wp2_with fail
    go_ret
    exact ⟨ret_bool hR.out.symm, rfl⟩
  · have hp : 0 < s.size := by omega
    have he : (s.toList == []) = false := by
      rw [beq_eq_false_iff_ne, ByteArray.toList_eq]
      intro e
      have := congrArg List.length e
      rw [size_list, List.length_nil] at this
      omega
    have he2 : s.toList.isEmpty = false := by
      rw [ByteArray.toList_eq]
      cases hl : s.data.toList with
      | nil => have := congrArg List.length hl; rw [size_list, List.length_nil] at this; omega
      | cons _ _ => rfl
    by_cases h20 : s.size ≤ 20
    · have h20' : decide ((20 : Int) < (s.size : Int)) = false := by simp; omega
      cases hsm : smB s[0]
      · have hR := Lib.hid (nmB_first hp hsm)
        rcases smB_no hsm with h1 | h1
        · have h1' : (s[0].toNat : Int) < 97 := by omega
          clear hsm h0
          go_enter Tryz.func128, Tryz.ntmps128
          go_wp2_with fail
          go_ret
          exact ⟨ret_bool hR.out.symm, rfl⟩
        · have h1' : (122 : Int) < (s[0].toNat : Int) := by omega
          clear hsm h0
          go_enter Tryz.func128, Tryz.ntmps128
          go_wp2_with fail
          go_ret
          exact ⟨ret_bool hR.out.symm, rfl⟩
      · obtain ⟨h1, h2⟩ := smB_yes hsm
        have HS := Lib.hid hsm
        have h1' : decide ((s[0].toNat : Int) < 97) = false := by simp; omega
        have h2' : decide ((122 : Int) < (s[0].toNat : Int)) = false := by simp; omega
        clear hsm h0
        go_enter Tryz.func128, Tryz.ntmps128
        go_wp2_with fail
        clear h1 h2 h1' h2' he he2
        go_loop [24] (fun i => ∃ k : Nat, k ≤ s.size ∧ i = .int .i64 k ∧ Hid (∀ c ∈ s.data.toList.take k, snB c = true)) (fun i => s.size - (intOf i).toNat)
        case atStart => exact ⟨0, Nat.zero_le _, rfl, Lib.hid (by simp)⟩
        case round =>
          obtain ⟨k, hk, rfl, hA⟩ := hrel
          by_cases hlt : k < s.size
          · have hT := Lib.hid (snB_snoc s k hlt hA.out)
            have hF := Lib.hid (@nmB_at s k hlt)
            generalize hg : s[k] = c at *
            have HG := Lib.hid hg
            cases hsm : smB c
            · cases hot : otB c
              · have hR := Lib.hid (hF.out (by unfold snB; rw [hsm, hot]; rfl))
                have a1 := smB_no hsm
                obtain ⟨a2, a3⟩ := otB_no hot
                have a3' : ((c.toNat : Int) != 45) = true := by simp only [bne_iff_ne, ne_eq]; omega
                clear hsm hot
                rcases a1 with a1 | a1 <;> rcases a2 with a2 | a2
                all_goals (try (exfalso; omega))
                all_goals
                  (try have b1 : (c.toNat : Int) < 97 := by omega)
                  (try have b1 : (122 : Int) < (c.toNat : Int) := by omega)
                  (try have b2 : (c.toNat : Int) < 48 := by omega)
                  (try have b2 : (57 : Int) < (c.toNat : Int) := by omega)
                  go_wp2_with fail
                  go_ret
                  exact ⟨ret_bool hR.out.symm, rfl⟩
              · have hN := Lib.hid (hT.out (by unfold snB; rw [hsm, hot]; rfl))
                have a1 := smB_no hsm
                have a2 := otB_yes hot
                clear hsm hot
                rcases a2 with ⟨a2, a3⟩ | a2
                · have b1 : (c.toNat : Int) < 97 := by omega
                  have b2 : decide ((c.toNat : Int) < 48) = false := by simp; omega
                  have b3 : decide ((57 : Int) < (c.toNat : Int)) = false := by simp; omega
                  go_wp2_with fail
                  go_round
                  case rel => exact ⟨k + 1, by omega, by go_num, hN⟩
                  case measure => simp [intOf]; omega
                · have b1 : (c.toNat : Int) < 97 := by omega
                  have b2 : (c.toNat : Int) < 48 := by omega
                  have b3 : ((c.toNat : Int) != 45) = false := by simp; omega
                  go_wp2_with fail
                  go_round
                  case rel => exact ⟨k + 1, by omega, by go_num, hN⟩
                  case measure => simp [intOf]; omega
            · have hN := Lib.hid (hT.out (by unfold snB; rw [hsm]; rfl))
              obtain ⟨a1, a2⟩ := smB_yes hsm
              have b1 : decide ((c.toNat : Int) < 97) = false := by simp; omega
              have b2 : decide ((122 : Int) < (c.toNat : Int)) = false := by simp; omega
              clear hsm
              go_wp2_with fail
              go_round
              case rel => exact ⟨k + 1, by omega, by go_num, hN⟩
              case measure => simp [intOf]; omega
          · obtain rfl : k = s.size := by omega
            have hA' := hA.out
            rw [List.take_of_length_le (by rw [size_list]; exact Nat.le_refl _)] at hA'
            have hR := Lib.hid (nmB_yes hp h20 HS.out hA')
            clear hA'
            go_wp2_with fail
            go_ret
            exact ⟨ret_bool hR.out.symm, rfl⟩
    · have hR := Lib.hid (nmB_long (s := s) (by omega))
      have h20' : (20 : Int) < (s.size : Int) := by omega
      clear h0
      go_enter Tryz.func128, Tryz.ntmps128
      go_wp2_with fail
      go_ret
      exact ⟨ret_bool hR.out.symm, rfl⟩
set_option maxHeartbeats 4000000 in
set_option maxRecDepth 100000 in
theorem refName10_any (s : ByteArray) (hs : s.size ≤ 140737488351232) (w : World) :
    Calls Tryz.prog 145 #[.string s] w fun e w' => e = .returned (.bool (nmB s.data.toList)) ∧ w = w' := by
  go_enter Tryz.func145, Tryz.ntmps145
  go_wp2_with fail
  go_loop [3] (fun i => ∃ k : Nat, k ≤ s.size ∧ i = .int .i64 k ∧ Hid ((∀ c ∈ s.data.toList.take k, snB c = true) ∧ (0 < k → ∀ h : 0 < s.size, smB s[0] = true))) (fun i => s.size - (intOf i).toNat)
  case atStart => exact ⟨0, Nat.zero_le _, rfl, Lib.hid ⟨by simp, fun h => by omega⟩⟩
  case round =>
    obtain ⟨k, hk, rfl, hA⟩ := hrel
    by_cases hlt : k < s.size
    · have hT := Lib.hid (snB_snoc s k hlt hA.out.1)
      have hF := Lib.hid (@nmB_at s k hlt)
      have hF0 := Lib.hid (fun (e : k = 0) (h : smB s[k] = false) => nmB_first (s := s) (by omega) (by subst e; exact h))
      have hS0 := Lib.hid (fun (h : k ≠ 0 ∨ smB s[k] = true) => show 0 < k + 1 → ∀ h : 0 < s.size, smB s[0] = true from fun _ h' => by
        rcases h with h | h
        · exact hA.out.2 (by omega) h'
        · by_cases e : k = 0
          · subst e; exact h
          · exact hA.out.2 (by omega) h')
      generalize hg : s[k] = c at *
      have HG := Lib.hid hg
      cases hsm : smB c
      · have a1 := smB_no hsm
        have b1 : ((97 : Int) ≤ (c.toNat : Int)) ∨ ((c.toNat : Int) < 97) := by omega
        by_cases hk0 : k = 0
        · have hR := Lib.hid (hF0.out hk0 hsm)
          clear hsm hF0 hS0
          subst hk0
          cases hot : otB c
          · obtain ⟨a2, a3⟩ := otB_no hot
            have a3' : ((c.toNat : Int) == 45) = false := intNe (by omega)
            clear hot b1
            rcases a1 with a1 | a1 <;> rcases a2 with a2 | a2
            all_goals (try (exfalso; omega))
            all_goals
              (try have b1 : decide ((97 : Int) ≤ (c.toNat : Int)) = false := by simp; omega)
              (try have b1 : (97 : Int) ≤ (c.toNat : Int) := by omega)
              (try have b2 : decide ((c.toNat : Int) ≤ 122) = false := by simp; omega)
              (try have b3 : decide ((48 : Int) ≤ (c.toNat : Int)) = false := by simp; omega)
              (try have b3 : (48 : Int) ≤ (c.toNat : Int) := by omega)
              (try have b4 : decide ((c.toNat : Int) ≤ 57) = false := by simp; omega)
              (try have b4 : (c.toNat : Int) ≤ 57 := by omega)
              go_wp2_with fail
              go_ret
              exact ⟨ret_bool hR.out.symm, rfl⟩
          · have a2 := otB_yes hot
            clear hot b1
            rcases a2 with ⟨a2, a3⟩ | a2
            · have b1 : decide ((97 : Int) ≤ (c.toNat : Int)) = false := by simp; omega
              have b3 : (48 : Int) ≤ (c.toNat : Int) := by omega
              have b4 : (c.toNat : Int) ≤ 57 := by omega
              go_wp2_with fail
              go_ret
              exact ⟨ret_bool hR.out.symm, rfl⟩
            · have b1 : decide ((97 : Int) ≤ (c.toNat : Int)) = false := by simp; omega
              have b3 : decide ((48 : Int) ≤ (c.toNat : Int)) = false := by simp; omega
              have b5 : ((c.toNat : Int) == 45) = true := by simp; omega
              go_wp2_with fail
              go_ret
              exact ⟨ret_bool hR.out.symm, rfl⟩
        · have hk0' : ((k : Int) == 0) = false := intNe (by omega)
          cases hot : otB c
          · have hR := Lib.hid (hF.out (by unfold snB; rw [hsm, hot]; rfl))
            obtain ⟨a2, a3⟩ := otB_no hot
            have a3' : ((c.toNat : Int) == 45) = false := intNe (by omega)
            clear hot hsm b1 hF0 hS0
            rcases a1 with a1 | a1 <;> rcases a2 with a2 | a2
            all_goals (try (exfalso; omega))
            all_goals
              (try have b1 : decide ((97 : Int) ≤ (c.toNat : Int)) = false := by simp; omega)
              (try have b1 : (97 : Int) ≤ (c.toNat : Int) := by omega)
              (try have b2 : decide ((c.toNat : Int) ≤ 122) = false := by simp; omega)
              (try have b3 : decide ((48 : Int) ≤ (c.toNat : Int)) = false := by simp; omega)
              (try have b3 : (48 : Int) ≤ (c.toNat : Int) := by omega)
              (try have b4 : decide ((c.toNat : Int) ≤ 57) = false := by simp; omega)
              (try have b4 : (c.toNat : Int) ≤ 57 := by omega)
              go_wp2_with fail
              go_ret
              exact ⟨ret_bool hR.out.symm, rfl⟩
          · have hN := Lib.hid (And.intro (hT.out (by unfold snB; rw [hsm, hot]; rfl)) (hS0.out (.inl hk0)))
            have a2 := otB_yes hot
            clear hot hsm b1 hF0 hS0 hk0
            rcases a2 with ⟨a2, a3⟩ | a2
            · have b1 : decide ((97 : Int) ≤ (c.toNat : Int)) = false := by simp; omega
              have b3 : (48 : Int) ≤ (c.toNat : Int) := by omega
              have b4 : (c.toNat : Int) ≤ 57 := by omega
              go_wp2_with fail
              go_round
              case rel => exact ⟨k + 1, by omega, by go_num, hN⟩
              case measure => simp [intOf]; omega
            · have b1 : decide ((97 : Int) ≤ (c.toNat : Int)) = false := by simp; omega
              have b3 : decide ((48 : Int) ≤ (c.toNat : Int)) = false := by simp; omega
              have b5 : ((c.toNat : Int) == 45) = true := by simp; omega
              go_wp2_with fail
              go_round
              case rel => exact ⟨k + 1, by omega, by go_num, hN⟩
              case measure => simp [intOf]; omega
      · have hN := Lib.hid (And.intro (hT.out (by unfold snB; rw [hsm]; rfl)) (hS0.out (.inr hsm)))
        obtain ⟨a1, a2⟩ := smB_yes hsm
        have b1 : (97 : Int) ≤ (c.toNat : Int) := by omega
        have b2 : (c.toNat : Int) ≤ 122 := by omega
        clear hsm hF0 hS0
        by_cases c1 : 48 ≤ c.toNat ∧ c.toNat ≤ 57
        · omega
        · have b4 : decide ((c.toNat : Int) ≤ 57) = false := by simp; omega
          have b3 : (48 : Int) ≤ (c.toNat : Int) := by omega
          have b5 : ((c.toNat : Int) == 45) = false := intNe (by omega)
          clear c1
          go_wp2_with fail
          go_round
          case rel => exact ⟨k + 1, by omega, by go_num, hN⟩
          case measure => simp [intOf]; omega
    · obtain rfl : k = s.size := by omega
      obtain ⟨hA1, hA2⟩ := hA.out
      rw [List.take_of_length_le (by rw [size_list]; exact Nat.le_refl _)] at hA1
      by_cases h0 : s.size = 0
      · have hR := Lib.hid (nmB_no0 h0)
        have h0' : decide (0 < s.size) = false := decide_eq_false (by omega)
        have h0'' : s.size ≤ 0 := by omega
        clear h0 hA1 hA2
        go_wp2_with fail
        go_ret
        exact ⟨ret_bool hR.out.symm, rfl⟩
      · have h0' : (0 : Int) < (s.size : Int) := by omega
        by_cases h20 : s.size ≤ 20
        · have hR := Lib.hid (nmB_yes (by omega) h20 (hA2 (by omega) (by omega)) hA1)
          have h20' : (s.size : Int) ≤ 20 := by omega
          clear hA1 hA2 h0
          go_wp2_with fail
          go_ret
          exact ⟨ret_bool hR.out.symm, rfl⟩
        · have hR := Lib.hid (nmB_long (s := s) (by omega))
          have h20' : decide ((s.size : Int) ≤ 20) = false := decide_eq_false (by omega)
          clear hA1 hA2 h0
          go_wp2_with fail
          go_ret
          exact ⟨ret_bool hR.out.symm, rfl⟩
end Go.Proofs.YtafbghlldlconaaGreatDoor

/-
  A STORE INTO A BLOCK OF ONE'S OWN, in a region and in a region that draws its order: the world behind it is a letter, of which one knows the block and Below.
-/
namespace Go.Proofs.YtafbghlldlconaaGreatDoor
set_option linter.unusedVariables false
set_option linter.unusedSimpArgs false
open Go.RowKit

theorem below_setRow {B : Nat} (W : World) (g : Nat) (cs : Array Value) (hB : B ≤ g) : Below B W (W.setRow g cs) := by
  refine ⟨rfl, rfl, rfl, by simp [World.setRow], fun k hk => ?_⟩
  simp only [World.setRow, Array.getElem?_modify]
  rw [if_neg (by omega)]
theorem fresh_kept {W w' : World} {o : Obj} (hb : Below (W.alloc o).heap.size (W.alloc o) w') : w'.heap[W.heap.size]? = some o := by
  rw [hb.block _ (by simp), Go.heap_alloc_new]
theorem fresh_kept_d {W w' : World} {o : Obj} (hb : Below (W.alloc o).drew.heap.size (W.alloc o).drew w') : w'.heap[W.heap.size]? = some o := by
  have h : (W.alloc o).drew.heap[W.heap.size]? = some o := Go.heap_alloc_new W o
  rw [hb.block _ (Array.getElem?_eq_some_iff.1 h).1, h]
theorem run_store_at (W : World) (ty : TypeId) (g i : Nat) (v : Value) (old : Array Value) (t : TypeId) (hg : W.heap[g]? = some (.cells old t (0, 0)))
    (hsz : (Tryz.prog.info? ty).map (·.size) = some v.cells.size) (hle : i + v.cells.size ≤ old.size) (h1 : v.cells.all (·.oneCell') = true) :
    (storeVar ty ⟨g, i, none⟩ v).run Tryz.prog W = .ok () (W.setRow g (old.toList.take i ++ v.cells.toList ++ old.toList.drop (i + v.cells.toList.length)).toArray) := by
  have := run_storeCells_at (P := Tryz.prog) g i t v.cells.toList 0 old W hg (by simpa using hle) (fun u hu => (Array.all_eq_true_iff_forall_mem.1 h1) u (by simpa using hu))
  cases hq : Tryz.prog.info? ty with
  | none => simp [hq] at hsz
  | some z =>
    have hs : v.cells.size = z.size := by simp [hq] at hsz; omega
    simp only [Nat.add_zero] at this
    simp [storeVar, sizeOf, typeInfo, hq, hs, this]
theorem wp_store_at {W : World} {o : Oper} {a : Act} {K : Act → World → Prop} {Q : Exit → Act → World → Prop} (ty : TypeId) (x y : Operand) (ho : o.op = .store ty x y)
    (g i : Nat) (hx : a.eval x = .pointer (some ⟨g, i, none⟩)) (v : Value) (hy : a.eval y = v) (old new : Array Value) (t : TypeId) (hg : W.heap[g]? = some (.cells old t (0, 0)))
    (hsz : (Tryz.prog.info? ty).map (·.size) = some v.cells.size) (hle : i + v.cells.size ≤ old.size) (h1 : v.cells.all (·.oneCell') = true)
    (hnew : (old.toList.take i ++ v.cells.toList ++ old.toList.drop (i + v.cells.toList.length)).toArray = new) {B : Nat} (hB : B ≤ g)
    (h : ∀ w', w'.heap[g]? = some (.cells new t (0, 0)) → Below B W w' → K (a.put o.dst undef) w') : o.wp Tryz.prog a W K Q := by
  unfold Oper.wp execOp
  simp only [ho, hx, hy, Instr.storeAt, Instr.sureAddr, Sem.run_bind, Sem.run_pure, Result.andThen_ok, run_store_at W ty g i v old t hg hsz hle h1]
  rw [hnew]
  exact h _ (setRow_heap W g old new t (0, 0) hg) (below_setRow W g new hB)
theorem step_store_at {W : World} {ops : Array Oper} {o : Oper} {a : Act} {K : Act → World → Prop} {Q : Exit → Act → World → Prop} {E : Prop} (hgd : o.guard = none) (ty : TypeId) (x y : Operand) (ho : o.op = .store ty x y)
    (g i : Nat) (hx : a.eval x = .pointer (some ⟨g, i, none⟩)) (v : Value) (hy : a.eval y = v) (old new : Array Value) (t : TypeId) (hg : W.heap[g]? = some (.cells old t (0, 0)))
    (hsz : (Tryz.prog.info? ty).map (·.size) = some v.cells.size) (hle : i + v.cells.size ≤ old.size) (h1 : v.cells.all (·.oneCell') = true)
    (hnew : (old.toList.take i ++ v.cells.toList ++ old.toList.drop (i + v.cells.toList.length)).toArray = new) {B : Nat} (hB : B ≤ g)
    (h : ∀ w', w'.heap[g]? = some (.cells new t (0, 0)) → Below B W w' → K (a.put o.dst undef) w') : if Region.wanted o (yielded ops a.tmps) then o.wp Tryz.prog a W K Q else E := by
  have hw : Region.wanted o (yielded ops a.tmps) = true := by simp [Region.wanted, hgd]
  rw [if_pos hw]
  exact wp_store_at ty x y ho g i hx v hy old new t hg hsz hle h1 hnew hB h
theorem wpList_store_at {W : World} {ops : Array Oper} {rest : List Oper} {o : Oper} {a : Act} {Q : Exit → Act → World → Prop} (hgd : o.guard = none) (ty : TypeId) (x y : Operand) (ho : o.op = .store ty x y)
    (g i : Nat) (hx : a.eval x = .pointer (some ⟨g, i, none⟩)) (v : Value) (hy : a.eval y = v) (old new : Array Value) (t : TypeId) (hg : W.heap[g]? = some (.cells old t (0, 0)))
    (hsz : (Tryz.prog.info? ty).map (·.size) = some v.cells.size) (hle : i + v.cells.size ≤ old.size) (h1 : v.cells.all (·.oneCell') = true)
    (hnew : (old.toList.take i ++ v.cells.toList ++ old.toList.drop (i + v.cells.toList.length)).toArray = new) {B : Nat} (hB : B ≤ g)
    (h : ∀ w', w'.heap[g]? = some (.cells new t (0, 0)) → Below B W w' → wpList Tryz.prog ops Q rest (a.put o.dst undef) w') : wpList Tryz.prog ops Q (o :: rest) a W :=
  wpList_plain hgd fun _ hK => wp_store_at ty x y ho g i hx v hy old new t hg hsz hle h1 hnew hB fun w' h2 h3 => hK _ _ (h w' h2 h3)
/-- five cells of a block, each as the walk asks for it -/
theorem five_of {W : World} {g : Nat} {a b c d e : Value} {t : TypeId} (h : W.heap[g]? = some (.cells #[a, b, c, d, e] t (0, 0))) :
    W.cell? ⟨g, 0, none⟩ = some a ∧ W.cell? ⟨g, 1, none⟩ = some b ∧ W.cell? ⟨g, 2, none⟩ = some c ∧ W.cell? ⟨g, 3, none⟩ = some d ∧ W.cell? ⟨g, 4, none⟩ = some e ∧
    W.frozen? ⟨g, 0, none⟩ = false ∧ W.frozen? ⟨g, 1, none⟩ = false ∧ W.frozen? ⟨g, 2, none⟩ = false ∧ W.frozen? ⟨g, 3, none⟩ = false ∧ W.frozen? ⟨g, 4, none⟩ = false := by
  simp [World.cell?, World.frozen?, h]
theorem set5_below {B : Nat} (W : World) (g : Nat) (a b c d e : Value) (hB : B ≤ g) : Below B W (((((W.setCell ⟨g, 0, none⟩ a).setCell ⟨g, 1, none⟩ b).setCell ⟨g, 2, none⟩ c).setCell ⟨g, 3, none⟩ d).setCell ⟨g, 4, none⟩ e) :=
  (((((Below.refl B W).setCell (p := ⟨g, 0, none⟩) hB a).setCell (p := ⟨g, 1, none⟩) hB b).setCell (p := ⟨g, 2, none⟩) hB c).setCell (p := ⟨g, 3, none⟩) hB d).setCell (p := ⟨g, 4, none⟩) hB e
theorem setCell_heap {W : World} {g i : Nat} {cur : Array Value} {t : TypeId} (u : Value) (h : W.heap[g]? = some (.cells cur t (0, 0))) : (W.setCell ⟨g, i, none⟩ u).heap[g]? = some (.cells (cur.setIfInBounds i u) t (0, 0)) := by
  rw [setCell_eq_setRow W g i cur t (0, 0) u h]
  exact setRow_heap W g cur _ t (0, 0) h
theorem set5_heap {W : World} {g : Nat} {a0 b0 c0 d0 e0 : Value} {t : TypeId} (a b c d e : Value) (h : W.heap[g]? = some (.cells #[a0, b0, c0, d0, e0] t (0, 0))) :
    (((((W.setCell ⟨g, 0, none⟩ a).setCell ⟨g, 1, none⟩ b).setCell ⟨g, 2, none⟩ c).setCell ⟨g, 3, none⟩ d).setCell ⟨g, 4, none⟩ e).heap[g]? = some (.cells #[a, b, c, d, e] t (0, 0)) := by
  rw [setCell_heap e (setCell_heap d (setCell_heap c (setCell_heap b (setCell_heap a h))))]
  rfl
theorem below_re {B : Nat} (W : World) (o o' : Obj) (h : B ≤ W.heap.size) : Below B (W.alloc o) (W.alloc o') := by
  refine ⟨rfl, rfl, rfl, by simp, fun k hk => ?_⟩
  rw [Below.heap_alloc W o k (by omega), Below.heap_alloc W o' k (by omega)]
end Go.Proofs.YtafbghlldlconaaGreatDoor

/-
  A NODE BY ITSELF: tree.one, ref10.alone: the walks.
-/
namespace Go.Proofs.YtafbghlldlconaaGreatDoor
set_option linter.unusedVariables false
set_option linter.unusedSimpArgs false
open Go.RowKit PT

/-- is an attribute right, at its place? -/
def atB (l : List At) (i : Nat) : Bool := match l[i]? with
  | none => true
  | some a => nmB a.n.data.toList && (decide (a.v.size ≤ 4000) && decide (fi (l.take i) (isN a.n) = -1))
/-- may a node be, by itself? -/
def oneB (x : Nd) : Bool :=
  if x.nm = ⟨#[]⟩ then decide (x.ats.length = 0) && (decide (x.ks.length = 0) && decide (x.tx.size ≤ 4000))
  else nmB x.nm.data.toList && (decide (x.tx.size = 0) && (decide (x.ats.length ≤ 40) && (List.range x.ats.length).all (atB x.ats)))
theorem size0 {s : ByteArray} : s = ⟨#[]⟩ ↔ s.size = 0 := by
  constructor
  · rintro rfl; rfl
  · intro h
    apply ByteArray.ext
    exact Array.eq_empty_of_size_eq_zero h
theorem emp_yes {s : ByteArray} (h : s.size = 0) : (s.toList == []) = true := by rw [size0.2 h, ByteArray.toList_eq]; rfl
theorem emp_no {s : ByteArray} (h : s.size ≠ 0) : (s.toList == []) = false := by
  rw [beq_eq_false_iff_ne, ByteArray.toList_eq]
  intro e
  have := congrArg List.length e
  rw [size_list, List.length_nil] at this
  omega
theorem empt_no {s : ByteArray} (h : s.size ≠ 0) : s.toList.isEmpty = false := by
  rw [ByteArray.toList_eq]
  cases hl : s.data.toList with
  | nil => have := congrArg List.length hl; rw [size_list, List.length_nil] at this; omega
  | cons _ _ => rfl
theorem empt_yes {s : ByteArray} (h : s.size = 0) : s.toList.isEmpty = true := by rw [size0.2 h, ByteArray.toList_eq]; rfl
/-- the places of a row's cells, n cells each -/
def szAt (n : Nat) (l : List At) : Prop := l.length ≤ n ∧ ∀ a ∈ l, a.n.size ≤ 140737488351232 ∧ a.v.size ≤ 140737488351232
theorem take_world {Q : Exit → Act → World → Prop} {e : Exit} {a : Act} {W : World} (S : World → Prop) (h : S W) (k : S W → Q e a W) : Q e a W := k h
theorem oneS_kept {e c : Nat} {x0 x2 y0 y1 : Value} {w1 W W' : World}
    (h : W.cell? ⟨e, 0, none⟩ = some x0 ∧ W.cell? ⟨e, 2, none⟩ = some x2 ∧ W.cell? ⟨c, 0, none⟩ = some y0 ∧ W.cell? ⟨c, 1, none⟩ = some y1 ∧ e < w1.heap.size ∧ c < w1.heap.size ∧ Below w1.heap.size w1 W) (hb : Below W.heap.size W W') :
    W'.cell? ⟨e, 0, none⟩ = some x0 ∧ W'.cell? ⟨e, 2, none⟩ = some x2 ∧ W'.cell? ⟨c, 0, none⟩ = some y0 ∧ W'.cell? ⟨c, 1, none⟩ = some y1 ∧ e < w1.heap.size ∧ c < w1.heap.size ∧ Below w1.heap.size w1 W' := by
  obtain ⟨h0, h2, k0, k1, he, hc, hbe⟩ := h
  have hs := hbe.size
  exact ⟨cellK hb (by omega) h0, cellK hb (by omega) h2, cellK hb (by omega) k0, cellK hb (by omega) k1, he, hc, hbe.trans (hb.mono hs)⟩
theorem oneS_drew {e c : Nat} {x0 x2 y0 y1 : Value} {w1 W : World}
    (h : W.cell? ⟨e, 0, none⟩ = some x0 ∧ W.cell? ⟨e, 2, none⟩ = some x2 ∧ W.cell? ⟨c, 0, none⟩ = some y0 ∧ W.cell? ⟨c, 1, none⟩ = some y1 ∧ e < w1.heap.size ∧ c < w1.heap.size ∧ Below w1.heap.size w1 W) :
    W.drew.cell? ⟨e, 0, none⟩ = some x0 ∧ W.drew.cell? ⟨e, 2, none⟩ = some x2 ∧ W.drew.cell? ⟨c, 0, none⟩ = some y0 ∧ W.drew.cell? ⟨c, 1, none⟩ = some y1 ∧ e < w1.heap.size ∧ c < w1.heap.size ∧ Below w1.heap.size w1 W.drew := oneS_kept h ⟨rfl, rfl, rfl, Nat.le_refl _, fun _ _ => rfl⟩
set_option maxHeartbeats 4000000 in
set_option maxRecDepth 100000 in
theorem one_any (x : Nd) (va vk : Value) (hl : x.ats.length ≤ 1000000000000000) (hk : x.ks.length ≤ 1000000000000000000) (ht : x.tx.size ≤ 140737488351232) (w : World) (hU : Atts x.ats va w) (hV : Nums x.ks vk w) (hz : ∀ a ∈ x.ats, a.v.size ≤ 140737488351232) :
    Calls Tryz.prog 91 #[NdV x va vk] w fun e w' => e = .returned (.bool (oneB x)) ∧ Below w.heap.size w w' := by
  have hb0 := (Below.refl w.heap.size w).alloc (Nat.le_refl _) (.cells #[.string x.nm, .string x.tx, va, .int .i64 x.pa, vk] 54)
  have hn0 := Go.heap_alloc_new w (.cells #[.string x.nm, .string x.tx, va, .int .i64 x.pa, vk] 54)
  have hs0 : (w.alloc (.cells #[.string x.nm, .string x.tx, va, .int .i64 x.pa, vk] 54)).heap.size = w.heap.size + 1 := by simp
  have hU0 := hU.kept hb0
  obtain ⟨a, cap, rfl⟩ := hU.len
  obtain ⟨ka, kcap, rfl⟩ := hV.len
  unfold NdV
  have hO : oneB x = if x.nm = ⟨#[]⟩ then decide (x.ats.length = 0) && (decide (x.ks.length = 0) && decide (x.tx.size ≤ 4000)) else nmB x.nm.data.toList && (decide (x.tx.size = 0) && (decide (x.ats.length ≤ 40) && (List.range x.ats.length).all (atB x.ats))) := rfl
  by_cases h0 : x.nm.size = 0
  · have he := emp_yes h0
    have he2 := empt_yes h0
    rw [if_pos (size0.2 h0)] at hO
    have HO := Lib.hid hO
    clear hO
    by_cases c1 : x.ats.length = 0
    · by_cases c2 : x.ks.length = 0
      · by_cases c3 : x.tx.size ≤ 4000
        · have hR := Lib.hid (show oneB x = true by rw [HO.out, decide_eq_true c1, decide_eq_true c2, decide_eq_true c3]; rfl)
          have c3' : (x.tx.size : Int) ≤ 4000 := by omega
          rw [c1, c2] at hb0 ⊢
          clear h0 c1 c2
          go_enter Tryz.func91, Tryz.ntmps91
          go_wp2_with fail
          go_ret
          exact ⟨ret_bool hR.out.symm, hb0⟩
        · have hR := Lib.hid (show oneB x = false by rw [HO.out, decide_eq_true c1, decide_eq_true c2, decide_eq_false c3]; rfl)
          have c3' : decide ((x.tx.size : Int) ≤ 4000) = false := decide_eq_false (by omega)
          rw [c1, c2] at hb0 ⊢
          clear h0 c1 c2
          go_enter Tryz.func91, Tryz.ntmps91
          go_wp2_with fail
          go_ret
          exact ⟨ret_bool hR.out.symm, hb0⟩
      · have hR := Lib.hid (show oneB x = false by rw [HO.out, decide_eq_true c1, decide_eq_false c2]; rfl)
        have c2' : ((x.ks.length : Int) == 0) = false := intNe (by omega)
        rw [c1] at hb0 ⊢
        clear h0 c1
        go_enter Tryz.func91, Tryz.ntmps91
        go_wp2_with fail
        go_ret
        exact ⟨ret_bool hR.out.symm, hb0⟩
    · have hR := Lib.hid (show oneB x = false by rw [HO.out, decide_eq_false c1]; rfl)
      have c1' : ((x.ats.length : Int) == 0) = false := intNe (by omega)
      clear h0
      go_enter Tryz.func91, Tryz.ntmps91
      go_wp2_with fail
      go_ret
      exact ⟨ret_bool hR.out.symm, hb0⟩
  · have he := emp_no h0
    have he2 := empt_no h0
    rw [if_neg (fun e => h0 (size0.1 e))] at hO
    have HO := Lib.hid hO
    clear hO h0
    cases hnm : nmB x.nm.data.toList
    · have hR := Lib.hid (show oneB x = false by rw [HO.out, hnm]; rfl)
      have HN := Lib.hid hnm
      clear hnm
      go_enter Tryz.func91, Tryz.ntmps91
      go_upto_region 1 with fail
      generalize World.alloc _ _ = W0 at hb0 hn0 hU0 hs0 ⊢
      obtain ⟨x0, x1, x2, x3, x4, f0, f1, f2, f3, f4⟩ := five_of hn0
      go_wp2_with fail
      refine (named_any x.nm _).mono ?_
      rintro e w' ⟨rfl, rfl⟩
      rw [HN.out]
      go_wp2_with fail
      go_ret
      exact ⟨ret_bool hR.out.symm, hb0⟩
    · have HN := Lib.hid hnm
      by_cases d1 : x.tx.size = 0
      · have de := emp_yes d1
        have de2 := empt_yes d1
        by_cases d2 : x.ats.length ≤ 40
        · have HO2 := Lib.hid (show oneB x = (List.range x.ats.length).all (atB x.ats) by rw [HO.out, hnm, decide_eq_true d1, decide_eq_true d2]; rfl)
          have d2' : decide ((40 : Int) < (x.ats.length : Int)) = false := decide_eq_false (by omega)
          have d1' : (x.tx.toList != []) = false := by rw [bne, de]; rfl
          clear hnm d1 HO
          go_enter Tryz.func91, Tryz.ntmps91
          go_upto_region 1 with fail
          generalize World.alloc _ _ = W0 at hb0 hn0 hU0 hs0 ⊢
          obtain ⟨x0, x1, x2, x3, x4, f0, f1, f2, f3, f4⟩ := five_of hn0
          have hx0 : w.heap.size < W0.heap.size := by omega
          clear hs0
          go_wp2_with fail
          refine (named_any x.nm _).mono ?_
          rintro e w' ⟨rfl, rfl⟩
          rw [HN.out]
          go_wp2_with fail
          go_loopw [42] (fun i wr => ∃ k : Nat, k ≤ x.ats.length ∧ i = .int .i64 k ∧ Hid (∀ j, j < k → atB x.ats j = true) ∧ Below W0.heap.size W0 wr) (fun i _ => x.ats.length - (intOf i).toNat)
          case atStart => exact ⟨0, Nat.zero_le _, rfl, Lib.hid (fun j hj => by omega), Below.refl _ _⟩
          case round =>
            obtain ⟨k, hk', rfl, hA, hbel⟩ := hrel
            have hsz := hbel.size
            by_cases hlt : k < x.ats.length
            · obtain ⟨b, o, cap', hv, hcap, hb, hc0, hc1⟩ := (hU0.kept hbel).at hlt
              cases hv
              have hy := Lib.hid (show atB x.ats k = (nmB x.ats[k].n.data.toList && (decide (x.ats[k].v.size ≤ 4000) && decide (fi (x.ats.take k) (isN x.ats[k].n) = -1))) by unfold atB; rw [List.getElem?_eq_getElem hlt])
              have hTk := ((hU0.kept hbel).take (i := k) hlt)
              have hvz := hz _ (List.getElem_mem hlt)
              have hF := Lib.hid (fun (h : atB x.ats k = false) => show oneB x = false from HO2.out.trans (by
                rw [List.all_eq_false]
                exact ⟨k, List.mem_range.2 hlt, by rw [h]; exact Bool.false_ne_true⟩))
              have hN := Lib.hid (fun (h : atB x.ats k = true) => show ∀ j, j < k + 1 → atB x.ats j = true from fun j hj => by
                by_cases e : j = k
                · rw [e]; exact h
                · exact hA.out j (by omega))
              generalize x.ats[k] = y at *
              have q0 := cellK hbel hx0 x0
              have q2 := cellK hbel hx0 x2
              have hn1 := Go.heap_alloc_new wr (.cells #[.string y.n, .string y.v] 117)
              have hba := (Below.refl wr.heap.size wr).alloc (Nat.le_refl _) (.cells #[.string y.n, .string y.v] 117)
              have hs1 : (wr.alloc (.cells #[.string y.n, .string y.v] 117)).heap.size = wr.heap.size + 1 := by simp
              have hT1 := hTk.kept hba
              have hbel1 := hbel.trans (hba.mono hsz)
              have p0 := cellK hba (by omega) q0
              have p2 := cellK hba (by omega) q2
              have hk0 : (0 : Int) ≤ (k : Int) := by omega
              have hk1 : (k : Int) ≤ (x.ats.length : Int) := by omega
              have hk2 : (k : Int) ≤ (cap : Int) := by omega
              go_upto_region 8 with fail
              generalize World.alloc _ _ = W1 at hn1 hba hs1 hT1 hbel1 p0 p2 ⊢
              have p3 : W1.cell? ⟨wr.heap.size, 0, none⟩ = some (.string y.n) := by simp [World.cell?, hn1]
              have p4 : W1.cell? ⟨wr.heap.size, 1, none⟩ = some (.string y.v) := by simp [World.cell?, hn1]
              have hbw := hb0.trans (hbel1.mono (by omega))
              have hw1 : w.heap.size < W1.heap.size := by omega
              have hw2 : wr.heap.size < W1.heap.size := by omega
              have hbel1s := hbel1.size
              clear hs1 hn1 q0 q2 hc0 hc1 hTk hba hbel
              cases hnn : nmB y.n.data.toList
              · have hR := Lib.hid (hF.out (by rw [hy.out, hnn]; rfl))
                have HNN := Lib.hid hnn
                clear hnn
                first | go_quiet ((go_at_call 128; exact Calls.quiet_of_same ((named_any y.n _).mono fun _ _ h => ⟨h.1.trans (by rw [HNN.out]), h.2.symm⟩))) | fail
                go_wp2_with fail
                go_ret
                exact ⟨ret_bool hR.out.symm, hbw.trans ((below_draws W1 _).mono (by omega))⟩
              · have HNN := Lib.hid hnn
                by_cases h4 : y.v.size ≤ 4000
                · have h4' : decide ((4000 : Int) < (y.v.size : Int)) = false := decide_eq_false (by omega)
                  have hS1 := And.intro p0 (And.intro p2 (And.intro p3 (And.intro p4 (And.intro hw1 (And.intro hw2 (Below.refl W1.heap.size W1))))))
                  have hfc := fi_cases (x.ats.take k) (isN y.n)
                  have HFI := Lib.hid (Eq.refl (fi (x.ats.take k) (isN y.n)))
                  rcases hfc with ⟨hfi, _⟩ | ⟨j, _, hfi, _⟩
                  · have hN2 := Lib.hid (hN.out (by rw [hy.out, hnn, decide_eq_true h4, decide_eq_true hfi]; rfl))
                    have HF := Lib.hid hfi
                    clear hfi hnn h4
                    go_region_held3 (fun W => W.cell? ⟨w.heap.size, 0, none⟩ = some (.string x.nm) ∧ W.cell? ⟨w.heap.size, 2, none⟩ = some (.slice (some ⟨b, o, none⟩) x.ats.length cap) ∧ W.cell? ⟨wr.heap.size, 0, none⟩ = some (.string y.n) ∧ W.cell? ⟨wr.heap.size, 1, none⟩ = some (.string y.v) ∧ w.heap.size < W1.heap.size ∧ wr.heap.size < W1.heap.size ∧ Below W1.heap.size W1 W) (with_reducible first | assumption | exact oneS_drew (by assumption) | exact oneS_kept (by assumption) (by assumption)) ((first
                      | (go_at_call 128; (with_reducible refine (named_any y.n _).mono ?_); rintro e w' ⟨rfl, rfl⟩; rw [HNN.out])
                      | (go_at_call 95; refine (find_at (x.ats.take k) _ y.n (by rw [List.length_take]; omega) _ (hT1.kept (by assumption : _ ∧ _ ∧ _ ∧ _ ∧ _ ∧ _ ∧ _).2.2.2.2.2.2)).mono ?_; rintro e w5 ⟨rfl, hb5⟩; rw [HF.out])))
                    refine take_world (fun W => W.cell? ⟨w.heap.size, 0, none⟩ = some (.string x.nm) ∧ W.cell? ⟨w.heap.size, 2, none⟩ = some (.slice (some ⟨b, o, none⟩) x.ats.length cap) ∧ W.cell? ⟨wr.heap.size, 0, none⟩ = some (.string y.n) ∧ W.cell? ⟨wr.heap.size, 1, none⟩ = some (.string y.v) ∧ w.heap.size < W1.heap.size ∧ wr.heap.size < W1.heap.size ∧ Below W1.heap.size W1 W) (by assumption) ?_
                    rintro ⟨_, _, _, _, _, _, hb9⟩
                    go_wp2_with fail
                    go_roundw
                    case rel => exact ⟨k + 1, by omega, by go_num, hN2, hbel1.trans (hb9.mono hbel1s)⟩
                    case measure => simp [intOf]; omega
                  · have hR := Lib.hid (hF.out (by rw [hy.out, decide_eq_false (show ¬ fi (x.ats.take k) (isN y.n) = -1 by rw [hfi]; omega)]; simp))
                    have HF := Lib.hid hfi
                    clear hfi hnn h4
                    go_region_held3 (fun W => W.cell? ⟨w.heap.size, 0, none⟩ = some (.string x.nm) ∧ W.cell? ⟨w.heap.size, 2, none⟩ = some (.slice (some ⟨b, o, none⟩) x.ats.length cap) ∧ W.cell? ⟨wr.heap.size, 0, none⟩ = some (.string y.n) ∧ W.cell? ⟨wr.heap.size, 1, none⟩ = some (.string y.v) ∧ w.heap.size < W1.heap.size ∧ wr.heap.size < W1.heap.size ∧ Below W1.heap.size W1 W) (with_reducible first | assumption | exact oneS_drew (by assumption) | exact oneS_kept (by assumption) (by assumption)) ((first
                      | (go_at_call 128; (with_reducible refine (named_any y.n _).mono ?_); rintro e w' ⟨rfl, rfl⟩; rw [HNN.out])
                      | (go_at_call 95; refine (find_at (x.ats.take k) _ y.n (by rw [List.length_take]; omega) _ (hT1.kept (by assumption : _ ∧ _ ∧ _ ∧ _ ∧ _ ∧ _ ∧ _).2.2.2.2.2.2)).mono ?_; rintro e w5 ⟨rfl, hb5⟩; rw [HF.out])))
                    refine take_world (fun W => W.cell? ⟨w.heap.size, 0, none⟩ = some (.string x.nm) ∧ W.cell? ⟨w.heap.size, 2, none⟩ = some (.slice (some ⟨b, o, none⟩) x.ats.length cap) ∧ W.cell? ⟨wr.heap.size, 0, none⟩ = some (.string y.n) ∧ W.cell? ⟨wr.heap.size, 1, none⟩ = some (.string y.v) ∧ w.heap.size < W1.heap.size ∧ wr.heap.size < W1.heap.size ∧ Below W1.heap.size W1 W) (by assumption) ?_
                    rintro ⟨_, _, _, _, _, _, hb9⟩
                    go_wp2_with fail
                    go_ret
                    exact ⟨ret_bool hR.out.symm, hbw.trans (hb9.mono (by omega))⟩
                · have h4' : (4000 : Int) < (y.v.size : Int) := by omega
                  have hR := Lib.hid (hF.out (by rw [hy.out, decide_eq_false h4]; simp))
                  clear hnn h4
                  first | go_quiet ((go_at_call 128; exact Calls.quiet_of_same ((named_any y.n _).mono fun _ _ h => ⟨h.1.trans (by rw [HNN.out]), h.2.symm⟩))) | fail
                  go_wp2_with fail
                  go_ret
                  exact ⟨ret_bool hR.out.symm, hbw.trans ((below_draws W1 _).mono (by omega))⟩
            · obtain rfl : k = x.ats.length := by omega
              have hR := Lib.hid (show oneB x = true from HO2.out.trans (List.all_eq_true.2 fun j hj => hA.out j (List.mem_range.1 hj)))
              go_wp2_with fail
              go_ret
              exact ⟨ret_bool hR.out.symm, hb0.trans (hbel.mono (by omega))⟩
        · have hR := Lib.hid (show oneB x = false by rw [HO.out, hnm, decide_eq_true d1, decide_eq_false d2]; rfl)
          have d2' : (40 : Int) < (x.ats.length : Int) := by omega
          have d1' : (x.tx.toList != []) = false := by rw [bne, de]; rfl
          clear hnm d1
          go_enter Tryz.func91, Tryz.ntmps91
          go_upto_region 1 with fail
          generalize World.alloc _ _ = W0 at hb0 hn0 hU0 hs0 ⊢
          obtain ⟨x0, x1, x2, x3, x4, f0, f1, f2, f3, f4⟩ := five_of hn0
          go_wp2_with fail
          refine (named_any x.nm _).mono ?_
          rintro e w' ⟨rfl, rfl⟩
          rw [HN.out]
          go_wp2_with fail
          go_ret
          exact ⟨ret_bool hR.out.symm, hb0⟩
      · have hR := Lib.hid (show oneB x = false by rw [HO.out, hnm, decide_eq_false d1]; rfl)
        have de := emp_no d1
        have de2 := empt_no d1
        have d1' : (x.tx.toList != []) = true := by rw [bne, de]; rfl
        clear hnm
        go_enter Tryz.func91, Tryz.ntmps91
        go_upto_region 1 with fail
        generalize World.alloc _ _ = W0 at hb0 hn0 hU0 hs0 ⊢
        obtain ⟨x0, x1, x2, x3, x4, f0, f1, f2, f3, f4⟩ := five_of hn0
        go_wp2_with fail
        refine (named_any x.nm _).mono ?_
        rintro e w' ⟨rfl, rfl⟩
        rw [HN.out]
        go_wp2_with fail
        go_ret
        exact ⟨ret_bool hR.out.symm, hb0⟩
end Go.Proofs.YtafbghlldlconaaGreatDoor

/-
  RIGHT DOCUMENTS: plain laws.
-/
namespace Go.Proofs.YtafbghlldlconaaGreatDoor
set_option linter.unusedVariables false
set_option linter.unusedSimpArgs false
open Go.RowKit PT

/-- a node's parent -/
def paOf (l : List Nd) (i : Int) : Int := match l[i.toNat]? with
  | some x => x.pa
  | none => -1
/-- its children -/
def ksOf (l : List Nd) (i : Int) : List Int := match l[i.toNat]? with
  | some x => x.ks
  | none => []
/-- so many steps upward; below 0 one stays -/
def upN (l : List Nd) : Nat → Int → Int
  | 0, i => i
  | n + 1, i => if i < 0 then i else upN l n (paOf l i)
theorem upN_neg (l : List Nd) {i : Int} (h : i < 0) : ∀ n, upN l n i = i
  | 0 => rfl
  | n + 1 => if_pos h
theorem upN_step (l : List Nd) {i : Int} (h : 0 ≤ i) (n : Nat) : upN l (n + 1) i = upN l n (paOf l i) := if_neg (by omega)
theorem paOf_at {l : List Nd} {k : Nat} (hk : k < l.length) : paOf l k = l[k].pa := by
  unfold paOf; rw [Int.toNat_natCast, List.getElem?_eq_getElem hk]
theorem ksOf_at {l : List Nd} {k : Nat} (hk : k < l.length) : ksOf l k = l[k].ks := by
  unfold ksOf; rw [Int.toNat_natCast, List.getElem?_eq_getElem hk]
/-- a right document -/
structure RightP (l : List Nd) : Prop where
  pos : 0 < l.length
  max : l.length ≤ 400
  top : ∀ x, l[0]? = some x → x.nm.size ≠ 0 ∧ x.pa = -1
  node : ∀ (i : Nat) x, l[i]? = some x → oneB x = true ∧ -1 ≤ x.pa ∧ x.pa < l.length
  kids : ∀ (i : Nat) x, l[i]? = some x → ∀ c ∈ x.ks, 0 ≤ c ∧ c < l.length ∧ paOf l c = i
  once : ∀ (i : Nat) x, l[i]? = some x → 0 ≤ x.pa → (ksOf l x.pa).count (i : Int) = 1
  climb : ∀ i : Nat, i < l.length → upN l (l.length + 1) i < 0
noncomputable def rightB (l : List Nd) : Bool := @decide (RightP l) (Classical.propDecidable _)
theorem rightB_iff (l : List Nd) : rightB l = true ↔ RightP l := by
  unfold rightB
  exact @decide_eq_true_iff (RightP l) (Classical.propDecidable _)
theorem rightB_yes {l : List Nd} (h : RightP l) : rightB l = true := (rightB_iff l).2 h
theorem rightB_no {l : List Nd} (h : ¬ RightP l) : rightB l = false := by
  cases e : rightB l
  · rfl
  · exact absurd ((rightB_iff l).1 e) h

/-! sums -/
def S : Nat → (Nat → Nat) → Nat
  | 0, _ => 0
  | n + 1, f => S n f + f n
theorem S_congr {f g : Nat → Nat} : ∀ {n : Nat}, (∀ i, i < n → f i = g i) → S n f = S n g
  | 0, _ => rfl
  | n + 1, h => by
    show S n f + f n = S n g + g n
    rw [S_congr (fun i hi => h i (by omega)), h n (by omega)]
theorem S_add (f g : Nat → Nat) : ∀ n, S n (fun i => f i + g i) = S n f + S n g
  | 0 => rfl
  | n + 1 => by
    show S n (fun i => f i + g i) + (f n + g n) = (S n f + f n) + (S n g + g n)
    rw [S_add f g n]; omega
theorem S_zero : ∀ n, S n (fun _ => 0) = 0
  | 0 => rfl
  | n + 1 => S_zero n
theorem S_swap (f : Nat → Nat → Nat) : ∀ n m, S n (fun i => S m (f i)) = S m (fun j => S n (fun i => f i j))
  | 0, m => (S_zero m).symm
  | n + 1, m => by
    show S n (fun i => S m (f i)) + S m (f n) = S m (fun j => S n (fun i => f i j) + f n j)
    rw [S_swap f n m, S_add]
theorem S_le {f g : Nat → Nat} : ∀ {n : Nat}, (∀ i, i < n → f i ≤ g i) → S n f ≤ S n g
  | 0, _ => Nat.le_refl _
  | n + 1, h => by
    have := S_le (f := f) (g := g) (n := n) (fun i hi => h i (by omega))
    have := h n (by omega)
    show S n f + f n ≤ S n g + g n
    omega
theorem S_eq {f g : Nat → Nat} : ∀ {n : Nat}, (∀ i, i < n → f i ≤ g i) → S n f = S n g → ∀ i, i < n → f i = g i
  | 0, _, _, i, hi => by omega
  | n + 1, h, e, i, hi => by
    have h1 := S_le (f := f) (g := g) (n := n) (fun i hi => h i (by omega))
    have h2 := h n (by omega)
    have e' : S n f + f n = S n g + g n := e
    by_cases hn : i = n
    · subst hn; omega
    · exact S_eq (n := n) (fun i hi => h i (by omega)) (by omega) i (by omega)
theorem S_one (c : Int) : ∀ n : Nat, 0 ≤ c → S n (fun i => if (i : Int) = c then 1 else 0) = if c < (n : Int) then 1 else 0
  | 0, h => by rw [if_neg (by omega)]; rfl
  | n + 1, h => by
    show S n (fun i => if (i : Int) = c then 1 else 0) + (if (n : Int) = c then 1 else 0) = if c < ((n + 1 : Nat) : Int) then 1 else 0
    rw [S_one c n h]
    by_cases e : (n : Int) = c
    · rw [if_neg (by omega), if_pos e, if_pos (by omega)]
    · rw [if_neg e]
      by_cases e2 : c < (n : Int)
      · rw [if_pos e2, if_pos (by omega)]
      · rw [if_neg e2, if_neg (by omega)]
theorem len_S (n : Nat) : ∀ (ks : List Int), (∀ c ∈ ks, 0 ≤ c ∧ c < (n : Int)) → ks.length = S n (fun i => ks.count (i : Int))
  | [], _ => by
    show 0 = S n (fun _ => 0)
    rw [S_zero]
  | c :: t, h => by
    have hc := h c (List.mem_cons_self ..)
    rw [S_congr (g := fun i => t.count (i : Int) + (if (i : Int) = c then 1 else 0)) (fun i _ => by
      rw [List.count_cons]
      by_cases e : (i : Int) = c
      · simp [e]
      · rw [if_neg e, if_neg (by simpa using fun x => e x.symm)]), S_add, ← len_S n t (fun x hx => h x (List.mem_cons_of_mem _ hx)), S_one c n hc.1, if_pos hc.2]
    rfl
/-- so many nodes have a parent -/
def paS (l : List Nd) (n : Nat) : Nat := S n (fun i => if 0 ≤ paOf l i then 1 else 0)
/-- so many children do they have -/
def ksS (l : List Nd) (n : Nat) : Nat := S n (fun i => (ksOf l i).length)
/-- children of all nodes, told by their parents -/
theorem ksS_eq (l : List Nd) (hk : ∀ (i : Nat) x, l[i]? = some x → ∀ c ∈ x.ks, 0 ≤ c ∧ c < l.length ∧ paOf l c = i) (hp : ∀ (i : Nat) x, l[i]? = some x → x.pa < l.length) :
    ksS l l.length = S l.length (fun c => if 0 ≤ paOf l c then (ksOf l (paOf l c)).count (c : Int) else 0) := by
  unfold ksS
  rw [S_congr (g := fun i => S l.length (fun c => (ksOf l i).count (c : Int))) (fun i hi => by
    rw [ksOf_at hi]
    exact len_S _ _ (fun c hc => ⟨(hk i _ (List.getElem?_eq_getElem hi) c hc).1, (hk i _ (List.getElem?_eq_getElem hi) c hc).2.1⟩)), S_swap]
  refine S_congr fun c hc => ?_
  have hz : ∀ i, i < l.length → (i : Int) ≠ paOf l c → (ksOf l i).count (c : Int) = 0 := fun i hi hne => by
    rw [List.count_eq_zero, ksOf_at hi]
    exact fun hm => hne (hk i _ (List.getElem?_eq_getElem hi) c hm).2.2.symm
  by_cases h0 : 0 ≤ paOf l c
  · rw [if_pos h0]
    have hlt : paOf l c < l.length := by rw [paOf_at hc]; exact hp c _ (List.getElem?_eq_getElem hc)
    obtain ⟨p, hpp⟩ := Int.eq_ofNat_of_zero_le h0
    rw [S_congr (g := fun i => (if (i : Int) = paOf l c then 1 else 0) * (ksOf l (paOf l c)).count (c : Int)) (fun i hi => by
      by_cases e : (i : Int) = paOf l c
      · rw [if_pos e, e, Nat.one_mul]
      · rw [if_neg e, hz i hi e, Nat.zero_mul])]
    have hm : ∀ (k : Nat) (f : Nat → Nat) (n : Nat), S n (fun i => f i * k) = S n f * k := fun k f n => by
      induction n with
      | zero => show 0 = 0 * k; rw [Nat.zero_mul]
      | succ n ih =>
        show S n (fun i => f i * k) + f n * k = (S n f + f n) * k
        rw [ih, Nat.add_mul]
    rw [hm, S_one _ _ h0, if_pos hlt, Nat.one_mul]
  · rw [if_neg h0, S_congr (g := fun _ => 0) (fun i hi => hz i hi (by omega)), S_zero]
/-- the program's way: no child twice, and as many children as nodes with a parent -/
theorem once_iff (l : List Nd) (hk : ∀ (i : Nat) x, l[i]? = some x → ∀ c ∈ x.ks, 0 ≤ c ∧ c < l.length ∧ paOf l c = i) (hp : ∀ (i : Nat) x, l[i]? = some x → x.pa < l.length) :
    (∀ (i : Nat) x, l[i]? = some x → 0 ≤ x.pa → (ksOf l x.pa).count (i : Int) = 1) ↔ (∀ (i : Nat) x, l[i]? = some x → ∀ c : Nat, x.ks.count (c : Int) ≤ 1) ∧ paS l l.length = ksS l l.length := by
  rw [ksS_eq l hk hp]
  constructor
  · intro h
    constructor
    · intro i x hx c
      by_cases hm : (c : Int) ∈ x.ks
      · obtain ⟨h1, h2, h3⟩ := hk i x hx c hm
        have hc : c < l.length := by omega
        have hi : i < l.length := (List.getElem?_eq_some_iff.1 hx).1
        rw [paOf_at hc] at h3
        have := h c _ (List.getElem?_eq_getElem hc) (by omega)
        rw [h3] at this
        have hke : ksOf l i = x.ks := by unfold ksOf; rw [Int.toNat_natCast, hx]
        rw [hke] at this
        omega
      · rw [List.count_eq_zero.2 hm]; omega
    · refine S_congr fun c hc => ?_
      by_cases h0 : 0 ≤ paOf l c
      · rw [if_pos h0, if_pos h0, paOf_at hc]
        rw [paOf_at hc] at h0
        exact (h c _ (List.getElem?_eq_getElem hc) h0).symm
      · rw [if_neg h0, if_neg h0]
  · rintro ⟨h, he⟩ i x hx h0
    have hi : i < l.length := (List.getElem?_eq_some_iff.1 hx).1
    have hpa : paOf l i = x.pa := by unfold paOf; rw [Int.toNat_natCast, hx]
    have hle : ∀ c, c < l.length → (if 0 ≤ paOf l c then (ksOf l (paOf l c)).count (c : Int) else 0) ≤ if 0 ≤ paOf l c then 1 else 0 := fun c hc => by
      by_cases h1 : 0 ≤ paOf l c
      · rw [if_pos h1, if_pos h1]
        have hlt : paOf l c < l.length := by rw [paOf_at hc]; exact hp c _ (List.getElem?_eq_getElem hc)
        obtain ⟨p, hpp⟩ := Int.eq_ofNat_of_zero_le h1
        have hpl : p < l.length := by omega
        rw [hpp, ksOf_at hpl]
        exact h p _ (List.getElem?_eq_getElem hpl) c
      · rw [if_neg h1, if_neg h1]; omega
    have := S_eq hle he.symm i hi
    rw [if_pos (by omega), if_pos (by omega), hpa] at this
    exact this
end Go.Proofs.YtafbghlldlconaaGreatDoor
