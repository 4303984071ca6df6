import Derived.Test.YtafbghlldlconaaGreatPart7
import Derived.Laws.OwnMore
import Derived.Lib.SliceRun
import Derived.Lib.SlTrimSet
import Derived.Test.YtafbghlldlconaaGreatPart1
import Derived.Test.YtafbghlldlconaaGreatPart3
import Derived.Deep.RegionHeld3
import Derived.Deep.RegionWith
import Derived.StillTail
import Derived.StillTailTactics
/-
  STATES (api.Ctl): rows that came in, rows that the call itself builds; slices.Clone of both; ref15.Copied.
-/
namespace Go.Proofs.YtafbghlldlconaaGreat
set_option linter.unusedVariables false
set_option linter.unusedSimpArgs false
open Go.RowKit

structure Ct where
  va : ByteArray
  di : Bool
  ty : Bool
  ch : Bool
  dc : Bool
  mi : Bool
  se : Bool
  ds : Bool
  cu : ByteArray
  fi : List Ent
/-- a state, and the value of its files -/
abbrev CtT := Ct × Value
def ctC (t : CtT) : List Value := [.string t.1.va, .bool t.1.di, .bool t.1.ty, .bool t.1.ch, .bool t.1.dc, .bool t.1.mi, .bool t.1.se, .bool t.1.ds, .string t.1.cu, t.2]
def ctV (t : CtT) : Value := .agg #[.string t.1.va, .bool t.1.di, .bool t.1.ty, .bool t.1.ch, .bool t.1.dc, .bool t.1.mi, .bool t.1.se, .bool t.1.ds, .string t.1.cu, t.2]
theorem ctC_len (t : CtT) : (ctC t).length = 10 := rfl
theorem Ents.none_cap {l : List Ent} {w : World} {ao : Option Addr} {m cap : Nat} (h : Ents l (.slice ao m cap) w) : ao = none → m = 0 ∧ cap = 0 := by
  rintro rfl
  rcases h with ⟨rfl, a, cap', hv, hc⟩ | ⟨b, o, cap', hv, _⟩
  · cases hv; exact ⟨rfl, hc rfl⟩
  · cases hv
theorem Ents.src {l : List Ent} {w : World} {ad : Addr} {m cap : Nat} (h : Ents l (.slice (some ad) m cap) w) : ∀ j u, (l.flatMap entCells)[j]? = some u → w.cell? (ad.add j) = some u := by
  rcases h with ⟨rfl, _⟩ | ⟨b, o, cap', hv, _, hc⟩
  · intro j u hu; simp at hu
  · cases hv
    exact flat_src (m := 5) (by omega) entCells_len hc
/-- files whose block is older than 'base', or a row of entries -/
def Fil (base : Nat) (es : List Ent) (v : Value) (w : World) : Prop := Ents es v w ∧ ∀ b o s n c, v = .slice (some ⟨b, o, s⟩) n c → es ≠ [] → b < base ∨ ∃ cur, w.heap[b]? = some (.cells cur 56 (0, 0))
theorem Ents.blk {es : List Ent} {w : World} {b o n c : Nat} {s} (h : Ents es (.slice (some ⟨b, o, s⟩) n c) w) (hn : es ≠ []) : b < w.heap.size := by
  rcases h with ⟨rfl, _⟩ | ⟨b', o', cap', hv, hb, _⟩
  · exact absurd rfl hn
  · cases hv; exact hb
theorem Fil.kept {base : Nat} {es : List Ent} {v : Value} {w w' : World} (h : Fil base es v w) (hb : Below w.heap.size w w') : Fil base es v w' := by
  refine ⟨h.1.kept hb, fun b o s n c hv hn => ?_⟩
  rcases h.2 b o s n c hv hn with h2 | ⟨cur, h2⟩
  · exact .inl h2
  · exact .inr ⟨cur, blk_kept hb h2⟩
theorem Fil.mono {base base' : Nat} {es : List Ent} {v : Value} {w : World} (h : Fil base es v w) (hb : base ≤ base') : Fil base' es v w :=
  ⟨h.1, fun b o s n c hv hn => (h.2 b o s n c hv hn).imp (fun h => Nat.lt_of_lt_of_le h hb) id⟩
theorem Ents.fil {es : List Ent} {v : Value} {w : World} (h : Ents es v w) : Fil w.heap.size es v w := by
  refine ⟨h, fun b o s n c hv hn => .inl ?_⟩
  subst hv
  exact h.blk hn
theorem OE.fil {base base' : Nat} {es : List Ent} {v : Value} {w : World} (h : OE base es v w) : Fil base' es v w := by
  refine ⟨h.ents, fun b o s n c hv hn => .inr ?_⟩
  subst hv
  obtain ⟨_, ⟨hv, _⟩ | ⟨g, cap, cur, hv, h2, h3, _⟩⟩ := h
  · cases hv
  · cases hv; exact ⟨cur, h3⟩
/-- a store into a row of states leaves the files -/
theorem Fil.setT {base : Nat} {es : List Ent} {v u : Value} {w : World} {g i : Nat} {cur : Array Value} {T : TypeId} (hT : 56 ≠ T) (h : Fil base es v w) (hg : w.heap[g]? = some (.cells cur T (0, 0))) (hb : base ≤ g) : Fil base es v (w.setCell ⟨g, i, none⟩ u) := by
  have hne : ∀ b o s n c, v = .slice (some ⟨b, o, s⟩) n c → es ≠ [] → b ≠ g := by
    intro b o s n c hv hn e
    subst e
    rcases h.2 b o s n c hv hn with h2 | ⟨cur', h2⟩
    · omega
    · rw [hg] at h2
      injection h2 with h2
      injection h2 with _ h2
      exact absurd h2.symm hT
  have hk : ∀ b o s n c, v = .slice (some ⟨b, o, s⟩) n c → es ≠ [] → (w.setCell ⟨g, i, none⟩ u).heap[b]? = w.heap[b]? := fun b o s n c hv hn => heap_setCell_other w ⟨g, i, none⟩ b u (hne b o s n c hv hn)
  refine ⟨?_, fun b o s n c hv hn => ?_⟩
  · rcases h.1 with h1 | ⟨b, o, cap, hv, h1, h4⟩
    · exact .inl h1
    · by_cases hn : es = []
      · subst hn; subst hv
        exact .inl ⟨rfl, _, cap, rfl, fun e => by cases e⟩
      · refine .inr ⟨b, o, cap, hv, by simpa [World.setCell] using h1, fun j e he i' u' hu => ?_⟩
        rw [← h4 j e he i' u' hu]
        simp only [World.cell?, hk b o none _ _ hv hn]
  · rw [hk b o s n c hv hn]
    exact h.2 b o s n c hv hn

theorem Fil.set {base : Nat} {es : List Ent} {v u : Value} {w : World} {g i : Nat} {cur : Array Value} (h : Fil base es v w) (hg : w.heap[g]? = some (.cells cur 54 (0, 0))) (hb : base ≤ g) : Fil base es v (w.setCell ⟨g, i, none⟩ u) := h.setT (by decide) hg hb
/-- the value v is a slice of states -/
def CtR (L : List CtT) (v : Value) (w : World) : Prop :=
  (L = [] ∧ ∃ a cap, v = .slice a 0 cap ∧ (a = none → cap = 0)) ∨ ∃ b o cap, v = .slice (some ⟨b, o, none⟩) L.length cap ∧ L.length ≤ cap ∧ b < w.heap.size ∧ ∀ j t, L[j]? = some t → ∀ i u, (ctC t)[i]? = some u → w.cell? ⟨b, o + j * 10 + i, none⟩ = some u
def Ctls (cs : List Ct) (v : Value) (w : World) : Prop := ∃ L : List CtT, L.map (·.1) = cs ∧ CtR L v w ∧ ∀ t ∈ L, Ents t.1.fi t.2 w
/-- states whose files lie in blocks older than 'base' (or in rows of entries) -/
def CtlsB (base : Nat) (cs : List Ct) (v : Value) (w : World) : Prop := ∃ L : List CtT, L.map (·.1) = cs ∧ CtR L v w ∧ ∀ t ∈ L, Fil base t.1.fi t.2 w
theorem Ctls.at_base {cs : List Ct} {v : Value} {w : World} (h : Ctls cs v w) : CtlsB w.heap.size cs v w := by
  obtain ⟨L, h1, h2, h3⟩ := h
  exact ⟨L, h1, h2, fun t ht => (h3 t ht).fil⟩
theorem CtlsB.ctls {base : Nat} {cs : List Ct} {v : Value} {w : World} (h : CtlsB base cs v w) : Ctls cs v w := by
  obtain ⟨L, h1, h2, h3⟩ := h
  exact ⟨L, h1, h2, fun t ht => (h3 t ht).1⟩
theorem grown_below {W w' : World} (h : W.grownBy w' none) : Below W.heap.size W w' := (Below.refl _ W).grown h (Nat.le_refl _) (fun k hk => by cases hk)
theorem CtR.kept {L : List CtT} {v : Value} {w w' : World} (h : CtR L v w) (hb : Below w.heap.size w w') : CtR L v w' := by
  rcases h with h | ⟨b, o, cap, rfl, h0, h1, h4⟩
  · exact .inl h
  · refine .inr ⟨b, o, cap, rfl, h0, by have := hb.size; omega, fun j e he i u hu => ?_⟩
    rw [← h4 j e he i u hu]
    simp only [World.cell?, hb.block b h1]
theorem Ctls.kept {cs : List Ct} {v : Value} {w w' : World} (h : Ctls cs v w) (hb : Below w.heap.size w w') : Ctls cs v w' := by
  obtain ⟨L, h1, h2, h3⟩ := h
  exact ⟨L, h1, h2.kept hb, fun t ht => (h3 t ht).kept hb⟩
theorem CtlsB.kept {base : Nat} {cs : List Ct} {v : Value} {w w' : World} (h : CtlsB base cs v w) (hb : Below w.heap.size w w') : CtlsB base cs v w' := by
  obtain ⟨L, h1, h2, h3⟩ := h
  exact ⟨L, h1, h2.kept hb, fun t ht => (h3 t ht).kept hb⟩
theorem CtR.len {L : List CtT} {v : Value} {w : World} (h : CtR L v w) : ∃ a cap, v = .slice a L.length cap := by
  rcases h with ⟨rfl, a, cap, rfl, _⟩ | ⟨b, o, cap, rfl, _⟩
  · exact ⟨_, _, rfl⟩
  · exact ⟨_, _, rfl⟩
theorem Ctls.len {cs : List Ct} {v : Value} {w : World} (h : Ctls cs v w) : ∃ a cap, v = .slice a cs.length cap := by
  obtain ⟨L, rfl, h2, _⟩ := h
  rw [List.length_map]
  exact h2.len
theorem CtR.none_cap {L : List CtT} {w : World} {ao : Option Addr} {m cap : Nat} (h : CtR L (.slice ao m cap) w) : ao = none → m = 0 ∧ cap = 0 := by
  rintro rfl
  rcases h with ⟨rfl, a, cap', hv, hc⟩ | ⟨b, o, cap', hv, _⟩
  · cases hv; exact ⟨rfl, hc rfl⟩
  · cases hv
theorem CtR.src {L : List CtT} {w : World} {ad : Addr} {m cap : Nat} (h : CtR L (.slice (some ad) m cap) w) : ∀ j u, (L.flatMap ctC)[j]? = some u → w.cell? (ad.add j) = some u := by
  rcases h with ⟨rfl, _⟩ | ⟨b, o, cap', hv, _, _, hc⟩
  · intro j u hu; simp at hu
  · cases hv
    exact flat_src (m := 10) (by omega) ctC_len hc
/-- the ten cells of a state -/
def Ten (b o : Nat) (c : Ct) (vf : Value) (w : World) : Prop :=
  w.cell? ⟨b, o, none⟩ = some (.string c.va) ∧ w.cell? ⟨b, o + 1, none⟩ = some (.bool c.di) ∧ w.cell? ⟨b, o + 2, none⟩ = some (.bool c.ty) ∧ w.cell? ⟨b, o + 3, none⟩ = some (.bool c.ch) ∧ w.cell? ⟨b, o + 4, none⟩ = some (.bool c.dc) ∧
  w.cell? ⟨b, o + 5, none⟩ = some (.bool c.mi) ∧ w.cell? ⟨b, o + 6, none⟩ = some (.bool c.se) ∧ w.cell? ⟨b, o + 7, none⟩ = some (.bool c.ds) ∧ w.cell? ⟨b, o + 8, none⟩ = some (.string c.cu) ∧ w.cell? ⟨b, o + 9, none⟩ = some vf
theorem Ctls.at {cs : List Ct} {v : Value} {w : World} (h : Ctls cs v w) {k : Nat} (hk : k < cs.length) : ∃ b o cap vf, v = .slice (some ⟨b, o, none⟩) cs.length cap ∧ b < w.heap.size ∧ Ten b (o + k * 10) cs[k] vf w ∧ Ents cs[k].fi vf w := by
  obtain ⟨L, rfl, h2, h3⟩ := h
  rw [List.length_map] at hk
  rw [List.length_map, List.getElem_map]
  rcases h2 with ⟨rfl, _⟩ | ⟨b, o, cap, rfl, h0, h1, h4⟩
  · simp at hk
  · have hc := h4 k L[k] (List.getElem?_eq_getElem hk)
    exact ⟨b, o, cap, L[k].2, rfl, h1, ⟨hc 0 _ rfl, hc 1 _ rfl, hc 2 _ rfl, hc 3 _ rfl, hc 4 _ rfl, hc 5 _ rfl, hc 6 _ rfl, hc 7 _ rfl, hc 8 _ rfl, hc 9 _ rfl⟩, h3 _ (List.getElem_mem hk)⟩

/-- a row of states that the call itself has built since 'base' blocks lay -/
structure OC (base : Nat) (L : List CtT) (v : Value) (w : World) : Prop where
  row : w.ownsRow base 54 10 v L.length (L.flatMap ctC)
  fil : ∀ t ∈ L, Fil base t.1.fi t.2 w
theorem OC.nil (base : Nat) (w : World) : OC base [] (.slice none 0 0) w := ⟨World.ownsRow_nil w base _ _, by simp⟩
theorem OC.kept {base : Nat} {L : List CtT} {v : Value} {w w' : World} (h : OC base L v w) (hb : Below w.heap.size w w') : OC base L v w' := ⟨own_keep h.row hb, fun t ht => (h.fil t ht).kept hb⟩
theorem OC.ctr {base : Nat} {L : List CtT} {v : Value} {w : World} (h : OC base L v w) : CtR L v w := by
  by_cases hl : L = []
  · subst hl
    obtain ⟨a, cap, rfl, hc⟩ := own_form h.row
    exact .inl ⟨rfl, a, cap, rfl, hc⟩
  · obtain ⟨g, cap, rfl, hn, _, hg, hc⟩ := own_cell h.row (by rw [ne_eq, ← List.length_eq_zero_iff, flat_size ctC_len]; have := List.length_pos_iff.2 hl; omega)
    refine .inr ⟨g, 0, cap, rfl, hn, hg, fun j t ht i u hu => ?_⟩
    rw [Nat.zero_add]
    exact hc _ _ (flat_get ctC_len L j t ht i u hu)
theorem OC.ctls {base : Nat} {L : List CtT} {v : Value} {w : World} (h : OC base L v w) : Ctls (L.map (·.1)) v w := ⟨L, rfl, h.ctr, fun t ht => (h.fil t ht).1⟩
theorem OC.blk {base : Nat} {L : List CtT} {v : Value} {w : World} (h : OC base L v w) (hl : L ≠ []) : ∃ g cap cur, v = .slice (some ⟨g, 0, none⟩) L.length cap ∧ base ≤ g ∧ w.heap[g]? = some (.cells cur 54 (0, 0)) := by
  obtain ⟨_, ⟨rfl, h1⟩ | ⟨g, cap, cur, rfl, h2, h3, _⟩⟩ := h.row
  · exact absurd (List.length_eq_zero_iff.1 h1) hl
  · exact ⟨g, cap, cur, rfl, h2, h3⟩
theorem flat_set {α : Type} {f : α → List Value} {m : Nat} (hf : ∀ x, (f x).length = m) : ∀ (es : List α) (k : Nat) (e e' : α) (i : Nat) (u : Value), es[k]? = some e → i < m → f e' = (f e).set i u → (es.set k e').flatMap f = (es.flatMap f).set (k * m + i) u
  | [], _, _, _, _, _, h, _, _ => by simp at h
  | x :: r, 0, e, e', i, u, h, hi, he => by
    simp at h; subst h
    rw [List.set_cons_zero, List.flatMap_cons, List.flatMap_cons, he, Nat.zero_mul, Nat.zero_add, List.set_append_left _ _ (by rw [hf]; exact hi)]
  | x :: r, k + 1, e, e', i, u, h, hi, he => by
    simp at h
    rw [List.set_cons_succ, List.flatMap_cons, List.flatMap_cons, flat_set hf r k e e' i u h hi he, List.set_append_right _ _ (by rw [hf, Nat.add_mul]; omega), hf, show (k + 1) * m + i - m = k * m + i by rw [Nat.add_mul]; omega]
/-- a store of one field -/
theorem OC.set {base : Nat} {L : List CtT} {g n cap : Nat} {w : World} (h : OC base L (.slice (some ⟨g, 0, none⟩) n cap) w) {k i : Nat} {t t' : CtT} {u : Value} (hk : L[k]? = some t) (hi : i < 10) (he : ctC t' = (ctC t).set i u) (hf : Fil base t'.1.fi t'.2 w) :
    OC base (L.set k t') (.slice (some ⟨g, 0, none⟩) n cap) (w.setCell ⟨g, k * 10 + i, none⟩ u) ∧ Below base w (w.setCell ⟨g, k * 10 + i, none⟩ u) := by
  have hl : L ≠ [] := by rintro rfl; simp at hk
  obtain ⟨g', cap', cur, hv, hb, hg⟩ := h.blk hl
  cases hv
  refine ⟨⟨?_, fun q hq => ?_⟩, (Below.refl base w).setCell hb _⟩
  · have := (World.ownsRow.stored h.row (k * 10 + i) u).1
    rw [← flat_set ctC_len L k t t' i u hk hi he] at this
    rw [List.length_set]
    exact this
  · rcases List.mem_or_eq_of_mem_set hq with hq | rfl
    · exact (h.fil q hq).set hg hb
    · exact hf.set hg hb

theorem info_ctl : (Tryz.prog.info? 54).map (fun i => (i.zero, i.size, i.bytes)) = some (some (.agg #[.string ⟨#[]⟩, .bool false, .bool false, .bool false, .bool false, .bool false, .bool false, .bool false, .string ⟨#[]⟩, .slice none 0 0]), 10, 64) := by kernel_rfl
/-- sizes of states that came in -/
structure SizedC (cs : List Ct) : Prop where
  len : cs.length * 64 ≤ 140737488351232
  fi' : ∀ c ∈ cs, c.fi.length * 72 ≤ 140737488351232
theorem CtR.one {L : List CtT} {w : World} (h : ∀ t ∈ L, Ents t.1.fi t.2 w) : ∀ u ∈ L.flatMap ctC, u.oneCell' = true := by
  intro u hu
  obtain ⟨t, ht, hc⟩ := List.mem_flatMap.1 hu
  obtain ⟨a, cap, hv⟩ := (h t ht).len
  simp only [ctC, List.mem_cons, List.not_mem_nil, or_false, hv] at hc
  rcases hc with rfl | rfl | rfl | rfl | rfl | rfl | rfl | rfl | rfl | rfl <;> rfl
/-- 'append(out, l...)', where out is empty -/
theorem wpList_append_ctls {W : World} {ops : Array Oper} {rest : List Oper} {o : Oper} {a : Act} {Q : Exit → Act → World → Prop} (hgd : o.guard = none) (s x : Operand)
    (ho : o.op = .call { callee := .builtin .append, args := #[s, x], argTypes := #[23, 23] })
    {base : Nat} {L : List CtT} {v : Value} (hs : a.eval s = v) {ao : Option Addr} {m cap : Nat} (hx : a.eval x = .slice ao m cap) (hL : CtR L (.slice ao m cap) W) (hE : ∀ t ∈ L, Ents t.1.fi t.2 W) (hF : ∀ t ∈ L, Fil base t.1.fi t.2 W) (hm : m = L.length)
    (hown : W.ownsRow base 54 10 v 0 []) (hby : L.length * 64 ≤ 140737488355328) (hbase : base ≤ W.heap.size)
    (h : ∀ v' w', OC base L v' w' → W.grownBy w' v.ownBlock → Below base W w' → wpList Tryz.prog ops Q rest (a.put o.dst v') w') (hvb : ∀ g, v.ownBlock = some g → ∃ cur, W.heap[g]? = some (.cells cur 54 (0, 0))) : wpList Tryz.prog ops Q (o :: rest) a W := by
  subst hm
  refine wpList_append_any hgd s x 23 54 ho Tryz.underlying23 info_ctl rfl (by decide) (n := 0) (xs := []) (news := L.flatMap ctC) hs hx hL.none_cap (flat_size ctC_len L) (fun ad had => ?_) (CtR.one hE) hown (by unfold maxLen; omega) (by rw [Nat.zero_add]; exact hby) hbase fun v' w' h1 h2 => h v' w' ⟨?_, fun t ht => ?_⟩ h2 (own_below hown h2 hbase)
  · subst had; exact hL.src
  · rw [Nat.zero_add, List.nil_append] at h1
    exact h1
  · obtain ⟨h3, h4⟩ := hF t ht
    have hbk : ∀ b o s n c, t.2 = .slice (some ⟨b, o, s⟩) n c → t.1.fi ≠ [] → w'.heap[b]? = W.heap[b]? := by
      intro b o s n c hv hn
      refine h2.block b (by rw [hv] at h3; exact h3.blk hn) (fun e => ?_)
      obtain ⟨cur, hg⟩ := hvb b e.symm
      rcases h4 b o s n c hv hn with h5 | ⟨cur', h5⟩
      · have := (hown.lt b e.symm).1
        omega
      · rw [hg] at h5
        injection h5 with h5
        injection h5 with _ h5
        exact absurd h5 (by decide)
    refine ⟨?_, fun b o s n c hv hn => ?_⟩
    · rcases h3 with h1 | ⟨b, o, cap, hv, h1, h6⟩
      · exact .inl h1
      · by_cases hn : t.1.fi = []
        · rw [hn] at hv ⊢
          exact .inl ⟨rfl, _, cap, hv, fun e => by cases e⟩
        · refine .inr ⟨b, o, cap, hv, Nat.lt_of_lt_of_le h1 h2.size, fun j e he i' u' hu => ?_⟩
          rw [← h6 j e he i' u' hu]
          simp only [World.cell?, hbk b o none _ _ hv hn]
    · rw [hbk b o s n c hv hn]
      exact h4 b o s n c hv hn
set_option maxHeartbeats 1000000 in
set_option maxRecDepth 100000 in
theorem refCopied15_at (cs : List Ct) (v : Value) (w : World) {base : Nat} (hbase : base ≤ w.heap.size) (hZ : SizedC cs) (hU : CtlsB base cs v w) :
    Calls Tryz.prog 17 #[v] w fun e w' => ∃ L vo, e = .returned vo ∧ Hid (L.map (·.1) = cs) ∧ OC base L vo w' ∧ Below w.heap.size w w' := by
  obtain ⟨L, hL, h2, h3⟩ := hU
  have HL := Lib.hid hL
  have hz := hZ.len
  rw [← hL, List.length_map] at hz
  have hby : L.length * 64 ≤ 140737488355328 := by omega
  obtain ⟨a, cap, rfl⟩ := h2.len
  clear hL hZ hz
  go_enter Tryz.func17, Tryz.ntmps17
  go_wp2_with (at_builtin; refine wpList_append_ctls rfl _ _ rfl rfl rfl h2 (fun t ht => (h3 t ht).1) h3 rfl (World.ownsRow_nil _ base _ _) hby hbase ?_ (fun g e => by cases e); intro v' w' hOC hgr hb)
  go_ret
  exact ⟨L, _, rfl, HL, hOC, grown_below hgr⟩
theorem refCopied15_any (cs : List Ct) (v : Value) (w : World) (hZ : SizedC cs) (hU : Ctls cs v w) :
    Calls Tryz.prog 17 #[v] w fun e w' => ∃ L vo, e = .returned vo ∧ Hid (L.map (·.1) = cs) ∧ OC w.heap.size L vo w' ∧ Below w.heap.size w w' := refCopied15_at cs v w (Nat.le_refl _) hZ hU.at_base
end Go.Proofs.YtafbghlldlconaaGreat

/-
  A CONTROL's VALUE: control.attr, control.Value, ref14.Value: the walks.
-/
namespace Go.Proofs.YtafbghlldlconaaGreat
set_option linter.unusedVariables false
set_option linter.unusedSimpArgs false
open Go.RowKit PT

def vAt : ByteArray := ⟨#[118, 97, 108, 117, 101]⟩
def pathS : ByteArray := ⟨#[67, 58, 92, 102, 97, 107, 101, 112, 97, 116, 104, 92]⟩
def fstF : List Ent → ByteArray
  | [] => ⟨#[]⟩
  | x :: _ => pathS ++ x.fn
def valF (k : Int) (c : Ct) (ats : List At) : ByteArray :=
  if modeF k = 1 then c.va else if modeF k = 3 then (atO ats vAt).getD ⟨#[111, 110]⟩ else if modeF k = 2 then (atO ats vAt).getD ⟨#[]⟩ else if modeF k = 4 then fstF c.fi else if pushB k = true then (atO ats vAt).getD ⟨#[]⟩ else ⟨#[]⟩
theorem mode4 {k : Int} (h : modeF k = 4) : k = 18 := by
  unfold modeF at h
  split at h
  · omega
  · split at h
    · omega
    · split at h
      · omega
      · split at h
        · assumption
        · omega
set_option maxHeartbeats 1000000 in
set_option maxRecDepth 100000 in
theorem ctlAttrFn_any (x : At) (s : ByteArray) (B : Nat) (w : World) (hB : B < w.heap.size) (hc : w.cell? ⟨B, 0, none⟩ = some (.string s)) :
    Calls Tryz.prog 85 #[atV x, .pointer (some ⟨B, 0, none⟩)] w fun e w' => e = .returned (.bool (isN s x)) ∧ Below w.heap.size w w' := by
  unfold atV
  have hb0 := (Below.refl w.heap.size w).alloc (Nat.le_refl _) (.cells #[.string x.n, .string x.v] 52)
  by_cases h : x.n = s
  · have hR := Lib.hid (show isN s x = true from decide_eq_true h)
    have hq := sTrue h
    clear h
    go_enter Tryz.func85, Tryz.ntmps85
    go_wp2_with fail
    go_ret
    exact ⟨ret_bool hR.out.symm, hb0⟩
  · have hR := Lib.hid (show isN s x = false from decide_eq_false h)
    have hq := sFalse h
    clear h
    go_enter Tryz.func85, Tryz.ntmps85
    go_wp2_with fail
    go_ret
    exact ⟨ret_bool hR.out.symm, hb0⟩
set_option maxHeartbeats 1000000 in
set_option maxRecDepth 100000 in
theorem ctlAttr_any (l : List At) (u : Value) (s : ByteArray) (hl : l.length ≤ 1000000000000000) (w : World) (hU : Atts l u w) :
    Calls Tryz.prog 63 #[u, .string s] w fun e w' => e = .returned (atT (atO l s)) ∧ Below w.heap.size w w' := by
  have hb0 := (Below.refl w.heap.size w).alloc (Nat.le_refl _) (.cells #[.string s] 9)
  have hn0 := Go.heap_alloc_new w (.cells #[.string s] 9)
  have hs0 : (w.alloc (.cells #[.string s] 9)).heap.size = w.heap.size + 1 := by simp
  have hU0 := hU.kept hb0
  have hc0 : (w.alloc (.cells #[.string s] 9)).cell? ⟨w.heap.size, 0, none⟩ = some (.string s) := by simp only [World.cell?, hn0]; rfl
  have hp : ∀ W, Below (w.alloc (.cells #[.string s] 9)).heap.size (w.alloc (.cells #[.string s] 9)) W → ∀ x ∈ l, Calls Tryz.prog 85 (#[atV x] ++ #[.pointer (some ⟨w.heap.size, 0, none⟩)]) W fun e w' => e = .returned (.bool (isN s x)) ∧ Below W.heap.size W w' := by
    intro W hW x hx
    have hWs := hW.size
    exact ctlAttrFn_any x s w.heap.size W (by omega) (cellK hW (by omega) hc0)
  have HP := Lib.hid hp
  obtain ⟨a, cap, rfl⟩ := hU.len
  have hcase := fi_cases l (isN s)
  clear hp hs0
  rcases hcase with ⟨h, _⟩ | ⟨k, hk, h, _⟩
  · have hR := Lib.hid (show atO l s = none from atO_none h)
    have H := Lib.hid h
    clear h
    go_enter Tryz.func63, Tryz.ntmps63
    go_wp2_with fail
    refine (indexFuncA_any l (isN s) _ 85 #[.pointer (some ⟨w.heap.size, 0, none⟩)] (enters_of Tryz.func85 (by kernel_rfl) rfl) hl _ hU0 HP.out).mono ?_
    rintro e w2 ⟨rfl, hb2⟩
    rw [H.out]
    go_wp2_with fail
    go_ret2
    exact ⟨by rw [hR.out]; rfl, bs hb0 hb2⟩
  · have hR := Lib.hid (show atO l s = some l[k].v from atO_some hk h)
    have H := Lib.hid h
    obtain ⟨b, o, cap', hv, _, hb, e0, e1⟩ := hU0.at hk
    cases hv
    have hk0 : (0 : Int) ≤ (k : Int) := by omega
    have hk1 : (k : Int) < (l.length : Int) := by omega
    generalize l[k] = x at *
    clear h
    go_enter Tryz.func63, Tryz.ntmps63
    go_wp2_with fail
    refine (indexFuncA_any l (isN s) _ 85 #[.pointer (some ⟨w.heap.size, 0, none⟩)] (enters_of Tryz.func85 (by kernel_rfl) rfl) hl _ hU0 HP.out).mono ?_
    rintro e w2 ⟨rfl, hb2⟩
    rw [H.out]
    have g0 := cellK hb2 hb e0
    have g1 := cellK hb2 hb e1
    go_wp2_with fail
    go_ret2
    exact ⟨by rw [hR.out]; rfl, bs hb0 hb2⟩
theorem ctv_box {T : TypeId} {c : Ct} {a : Option Addr} {cap : Nat} {w : World} : ∀ W, W = w.alloc (.cells #[.string c.va, .bool c.di, .bool c.ty, .bool c.ch, .bool c.dc, .bool c.mi, .bool c.se, .bool c.ds, .string c.cu, .slice a c.fi.length cap] T) →
    W.cell? ⟨w.heap.size, 0, none⟩ = some (.string c.va) ∧ W.cell? ⟨w.heap.size, 9, none⟩ = some (.slice a c.fi.length cap) ∧ W.heap.size = w.heap.size + 1 ∧ Below w.heap.size w W := by
  rintro W rfl
  have hn := Go.heap_alloc_new w (.cells #[.string c.va, .bool c.di, .bool c.ty, .bool c.ch, .bool c.dc, .bool c.mi, .bool c.se, .bool c.ds, .string c.cu, .slice a c.fi.length cap] T)
  refine ⟨?_, ?_, by simp, (Below.refl w.heap.size w).alloc (Nat.le_refl _) _⟩
  · simp only [World.cell?, hn]; rfl
  · simp only [World.cell?, hn]; rfl
set_option maxHeartbeats 2000000 in
set_option maxRecDepth 100000 in
theorem ctlValue_any (k : Int) (h0 : 0 ≤ k) (h1 : k ≤ 35) (c : Ct) (vf : Value) (ats : List At) (va : Value) (hl : ats.length ≤ 1000000000000000) (hF : modeF k = 4 → ∀ x ∈ c.fi, x.fn.size ≤ 140737488351232) (w : World) (hE : Ents c.fi vf w) (hA : Atts ats va w) :
    Calls Tryz.prog 37 #[.int .i64 k, ctV (c, vf), va] w fun e w' => e = .returned (.string (valF k c ats)) ∧ Below w.heap.size w w' := by
  obtain ⟨a1, cap1, rfl⟩ := hE.len
  obtain ⟨a2, cap2, rfl⟩ := hA.len
  obtain ⟨c0, c9, hs1, hb1⟩ := ctv_box (T := 54) (c := c) (a := a1) (cap := cap1) (w := w) _ rfl
  have hE1 := hE.kept hb1
  have hA1 := hA.kept hb1
  have hm := modeF_cases k
  have hV := show valF k c ats = (if modeF k = 1 then c.va else if modeF k = 3 then (atO ats vAt).getD ⟨#[111, 110]⟩ else if modeF k = 2 then (atO ats vAt).getD ⟨#[]⟩ else if modeF k = 4 then fstF c.fi else if pushB k = true then (atO ats vAt).getD ⟨#[]⟩ else ⟨#[]⟩) from rfl
  have h18 : modeF k = 4 → pushB k = false := fun h => by rw [mode4 h]; rfl
  unfold ctV
  obtain ⟨ov, hov⟩ : ∃ ov, atO ats vAt = ov := ⟨_, rfl⟩
  have HO := Lib.hid hov
  rw [hov] at hV
  clear hov
  rcases hm with hm | hm | hm | hm | hm
  · rw [hm] at hV
    have HM := Lib.hid hm
    clear h18 hm
    cases hp : pushB k
    · rw [hp] at hV
      have hR := Lib.hid hV
      have HP := Lib.hid hp
      clear hV hp
      go_enter Tryz.func37, Tryz.ntmps37
      go_wp2_with fail
      generalize World.alloc _ _ = W1 at c0 c9 hs1 hb1 hE1 hA1 ⊢
      refine (ctlAttr_any ats _ vAt hl _ hA1).mono ?_
      rw [HO.out]
      unfold atT
      rintro e w2 ⟨rfl, hb2⟩
      go_wp2_with fail
      refine (kindsMode_any k h0 h1 _).mono ?_
      rintro e w3 ⟨rfl, rfl⟩
      rw [HM.out]
      go_wp2_with fail
      refine (ctlButton_any k h0 h1 _).mono ?_
      rintro e w3 ⟨rfl, rfl⟩
      rw [HP.out]
      go_wp2_with fail
      go_ret
      exact ⟨by rw [hR.out]; rfl, bs hb1 hb2⟩
    · rw [hp] at hV
      have hR := Lib.hid hV
      have HP := Lib.hid hp
      clear hV hp
      go_enter Tryz.func37, Tryz.ntmps37
      go_wp2_with fail
      generalize World.alloc _ _ = W1 at c0 c9 hs1 hb1 hE1 hA1 ⊢
      refine (ctlAttr_any ats _ vAt hl _ hA1).mono ?_
      rw [HO.out]
      unfold atT
      rintro e w2 ⟨rfl, hb2⟩
      go_wp2_with fail
      refine (kindsMode_any k h0 h1 _).mono ?_
      rintro e w3 ⟨rfl, rfl⟩
      rw [HM.out]
      go_wp2_with fail
      refine (ctlButton_any k h0 h1 _).mono ?_
      rintro e w3 ⟨rfl, rfl⟩
      rw [HP.out]
      go_wp2_with fail
      go_ret
      exact ⟨by rw [hR.out]; rfl, bs hb1 hb2⟩
  · rw [hm] at hV
    have HM := Lib.hid hm
    have hR := Lib.hid hV
    clear h18 hm hV
    go_enter Tryz.func37, Tryz.ntmps37
    go_wp2_with fail
    generalize World.alloc _ _ = W1 at c0 c9 hs1 hb1 hE1 hA1 ⊢
    refine (ctlAttr_any ats _ vAt hl _ hA1).mono ?_
    rw [HO.out]
    unfold atT
    rintro e w2 ⟨rfl, hb2⟩
    have d0 := cellK hb2 (by omega) c0
    go_wp2_with fail
    refine (kindsMode_any k h0 h1 _).mono ?_
    rintro e w3 ⟨rfl, rfl⟩
    rw [HM.out]
    go_wp2_with fail
    go_ret
    exact ⟨by rw [hR.out]; rfl, bs hb1 hb2⟩
  · rw [hm] at hV
    have HM := Lib.hid hm
    have hR := Lib.hid hV
    clear h18 hm hV
    go_enter Tryz.func37, Tryz.ntmps37
    go_wp2_with fail
    generalize World.alloc _ _ = W1 at c0 c9 hs1 hb1 hE1 hA1 ⊢
    refine (ctlAttr_any ats _ vAt hl _ hA1).mono ?_
    rw [HO.out]
    unfold atT
    rintro e w2 ⟨rfl, hb2⟩
    go_wp2_with fail
    refine (kindsMode_any k h0 h1 _).mono ?_
    rintro e w3 ⟨rfl, rfl⟩
    rw [HM.out]
    go_wp2_with fail
    go_ret
    exact ⟨by rw [hR.out]; rfl, bs hb1 hb2⟩
  · rw [hm] at hV
    have HM := Lib.hid hm
    clear h18 hm
    cases ov with
    | none =>
      have hR := Lib.hid hV
      clear hV
      go_enter Tryz.func37, Tryz.ntmps37
      go_wp2_with fail
      generalize World.alloc _ _ = W1 at c0 c9 hs1 hb1 hE1 hA1 ⊢
      refine (ctlAttr_any ats _ vAt hl _ hA1).mono ?_
      rw [HO.out]
      unfold atT
      rintro e w2 ⟨rfl, hb2⟩
      go_wp2_with fail
      refine (kindsMode_any k h0 h1 _).mono ?_
      rintro e w3 ⟨rfl, rfl⟩
      rw [HM.out]
      go_wp2_with fail
      go_ret
      exact ⟨by rw [hR.out]; rfl, bs hb1 hb2⟩
    | some s =>
      have hR := Lib.hid hV
      clear hV
      go_enter Tryz.func37, Tryz.ntmps37
      go_wp2_with fail
      generalize World.alloc _ _ = W1 at c0 c9 hs1 hb1 hE1 hA1 ⊢
      refine (ctlAttr_any ats _ vAt hl _ hA1).mono ?_
      rw [HO.out]
      unfold atT
      rintro e w2 ⟨rfl, hb2⟩
      go_wp2_with fail
      refine (kindsMode_any k h0 h1 _).mono ?_
      rintro e w3 ⟨rfl, rfl⟩
      rw [HM.out]
      go_wp2_with fail
      go_ret
      exact ⟨by rw [hR.out]; rfl, bs hb1 hb2⟩
  · rw [hm] at hV
    have HM := Lib.hid hm
    have HP := Lib.hid (h18 hm)
    clear h18 hm
    by_cases hf : c.fi.length = 0
    · have hf1 : c.fi = [] := List.length_eq_zero_iff.1 hf
      rw [show fstF c.fi = ⟨#[]⟩ by rw [hf1]; rfl] at hV
      have hR := Lib.hid hV
      have hq : decide ((0 : Int) < (c.fi.length : Int)) = false := decide_eq_false (by omega)
      have hq3 : decide (0 < c.fi.length) = false := decide_eq_false (by omega)
      have hq4 : ¬ (0 < c.fi.length) := by omega
      clear hV hf hf1
      go_enter Tryz.func37, Tryz.ntmps37
      go_wp2_with fail
      generalize World.alloc _ _ = W1 at c0 c9 hs1 hb1 hA1 ⊢
      refine (ctlAttr_any ats _ vAt hl _ hA1).mono ?_
      rw [HO.out]
      unfold atT
      rintro e w2 ⟨rfl, hb2⟩
      have d9 := cellK hb2 (by omega) c9
      go_wp2_with fail
      refine (kindsMode_any k h0 h1 _).mono ?_
      rintro e w3 ⟨rfl, rfl⟩
      rw [HM.out]
      go_wp2_with fail
      refine (ctlButton_any k h0 h1 _).mono ?_
      rintro e w3 ⟨rfl, rfl⟩
      rw [HP.out]
      go_wp2_with fail
      go_ret
      exact ⟨by rw [hR.out]; rfl, bs hb1 hb2⟩
    · obtain ⟨x, r, hx⟩ : ∃ x r, c.fi = x :: r := by
        cases he : c.fi with
        | nil => rw [he] at hf; exact absurd rfl hf
        | cons x r => exact ⟨x, r, rfl⟩
      have hpos : 0 < c.fi.length := by omega
      have hsz := hF HM.out x (by rw [hx]; exact List.mem_cons_self ..)
      obtain ⟨b, o, c1, hv, hb, e0, e1, e2, e3, e4⟩ := hE1.five hpos
      cases hv
      have hx0 : c.fi[0] = x := by simp [hx]
      rw [hx0] at e0 e1 e2 e3 e4
      rw [hx] at hV
      have hR := Lib.hid hV
      have hq : (0 : Int) < (c.fi.length : Int) := by omega
      have hq2 : decide ((0 : Int) < (c.fi.length : Int)) = true := decide_eq_true hq
      clear hV hf hx hx0
      go_enter Tryz.func37, Tryz.ntmps37
      go_wp2_with fail
      generalize World.alloc _ _ = W1 at *
      refine (ctlAttr_any ats _ vAt hl _ hA1).mono ?_
      rw [HO.out]
      unfold atT
      rintro e w2 ⟨rfl, hb2⟩
      have d9 := cellK hb2 (by omega) c9
      have g0 := cellK hb2 hb e0
      have g1 := cellK hb2 hb e1
      have g2 := cellK hb2 hb e2
      have g3 := cellK hb2 hb e3
      have g4 := cellK hb2 hb e4
      go_wp2_with fail
      refine (kindsMode_any k h0 h1 _).mono ?_
      rintro e w3 ⟨rfl, rfl⟩
      rw [HM.out]
      go_wp2_with fail
      refine (ctlButton_any k h0 h1 _).mono ?_
      rintro e w3 ⟨rfl, rfl⟩
      rw [HP.out]
      go_wp2_with fail
      go_ret
      exact ⟨by rw [hR.out]; rfl, bs hb1 hb2⟩
set_option maxHeartbeats 2000000 in
set_option maxRecDepth 100000 in
theorem refValue14_any (k : Int) (h0 : 0 ≤ k) (h1 : k ≤ 35) (c : Ct) (vf : Value) (ats : List At) (va : Value) (hl : ats.length ≤ 1000000000000000) (hF : modeF k = 4 → ∀ x ∈ c.fi, x.fn.size ≤ 140737488351232) (w : World) (hE : Ents c.fi vf w) (hA : Atts ats va w) :
    Calls Tryz.prog 55 #[.int .i64 k, ctV (c, vf), va] w fun e w' => e = .returned (.string (valF k c ats)) ∧ Below w.heap.size w w' := by
  obtain ⟨a1, cap1, rfl⟩ := hE.len
  obtain ⟨a2, cap2, rfl⟩ := hA.len
  obtain ⟨c0, c9, hs1, hb1⟩ := ctv_box (T := 54) (c := c) (a := a1) (cap := cap1) (w := w) _ rfl
  have hE1 := hE.kept hb1
  have hA1 := hA.kept hb1
  have hm := modeF_cases k
  have hV := show valF k c ats = (if modeF k = 1 then c.va else if modeF k = 3 then (atO ats vAt).getD ⟨#[111, 110]⟩ else if modeF k = 2 then (atO ats vAt).getD ⟨#[]⟩ else if modeF k = 4 then fstF c.fi else if pushB k = true then (atO ats vAt).getD ⟨#[]⟩ else ⟨#[]⟩) from rfl
  have h18 : modeF k = 4 → pushB k = false := fun h => by rw [mode4 h]; rfl
  unfold ctV
  obtain ⟨ov, hov⟩ : ∃ ov, atO ats vAt = ov := ⟨_, rfl⟩
  have HO := Lib.hid hov
  rw [hov] at hV
  clear hov
  rcases hm with hm | hm | hm | hm | hm
  · rw [hm] at hV
    have HM := Lib.hid hm
    clear h18 hm
    cases hp : pushB k
    · rw [hp] at hV
      have hR := Lib.hid hV
      have HP := Lib.hid hp
      clear hV hp
      go_enter Tryz.func55, Tryz.ntmps55
      go_wp2_with fail
      generalize World.alloc _ _ = W1 at c0 c9 hs1 hb1 hE1 hA1 ⊢
      refine (refAttr14_any ats _ vAt hl _ hA1).mono ?_
      rw [HO.out]
      unfold atT
      rintro e w2 ⟨rfl, hw2⟩
      subst hw2
      have hb2 := Below.refl W1.heap.size W1
      go_wp2_with fail
      refine (refMode_any k h0 h1 _).mono ?_
      rintro e w3 ⟨rfl, rfl⟩
      rw [HM.out]
      go_wp2_with fail
      refine (refPushes_any k h0 h1 _).mono ?_
      rintro e w3 ⟨rfl, rfl⟩
      rw [HP.out]
      go_wp2_with fail
      go_ret
      exact ⟨by rw [hR.out]; rfl, bs hb1 hb2⟩
    · rw [hp] at hV
      have hR := Lib.hid hV
      have HP := Lib.hid hp
      clear hV hp
      go_enter Tryz.func55, Tryz.ntmps55
      go_wp2_with fail
      generalize World.alloc _ _ = W1 at c0 c9 hs1 hb1 hE1 hA1 ⊢
      refine (refAttr14_any ats _ vAt hl _ hA1).mono ?_
      rw [HO.out]
      unfold atT
      rintro e w2 ⟨rfl, hw2⟩
      subst hw2
      have hb2 := Below.refl W1.heap.size W1
      go_wp2_with fail
      refine (refMode_any k h0 h1 _).mono ?_
      rintro e w3 ⟨rfl, rfl⟩
      rw [HM.out]
      go_wp2_with fail
      refine (refPushes_any k h0 h1 _).mono ?_
      rintro e w3 ⟨rfl, rfl⟩
      rw [HP.out]
      go_wp2_with fail
      go_ret
      exact ⟨by rw [hR.out]; rfl, bs hb1 hb2⟩
  · rw [hm] at hV
    have HM := Lib.hid hm
    have hR := Lib.hid hV
    clear h18 hm hV
    go_enter Tryz.func55, Tryz.ntmps55
    go_wp2_with fail
    generalize World.alloc _ _ = W1 at c0 c9 hs1 hb1 hE1 hA1 ⊢
    refine (refAttr14_any ats _ vAt hl _ hA1).mono ?_
    rw [HO.out]
    unfold atT
    rintro e w2 ⟨rfl, hw2⟩
    subst hw2
    have hb2 := Below.refl W1.heap.size W1
    have d0 := cellK hb2 (by omega) c0
    go_wp2_with fail
    refine (refMode_any k h0 h1 _).mono ?_
    rintro e w3 ⟨rfl, rfl⟩
    rw [HM.out]
    go_wp2_with fail
    go_ret
    exact ⟨by rw [hR.out]; rfl, bs hb1 hb2⟩
  · rw [hm] at hV
    have HM := Lib.hid hm
    have hR := Lib.hid hV
    clear h18 hm hV
    go_enter Tryz.func55, Tryz.ntmps55
    go_wp2_with fail
    generalize World.alloc _ _ = W1 at c0 c9 hs1 hb1 hE1 hA1 ⊢
    refine (refAttr14_any ats _ vAt hl _ hA1).mono ?_
    rw [HO.out]
    unfold atT
    rintro e w2 ⟨rfl, hw2⟩
    subst hw2
    have hb2 := Below.refl W1.heap.size W1
    go_wp2_with fail
    refine (refMode_any k h0 h1 _).mono ?_
    rintro e w3 ⟨rfl, rfl⟩
    rw [HM.out]
    go_wp2_with fail
    go_ret
    exact ⟨by rw [hR.out]; rfl, bs hb1 hb2⟩
  · rw [hm] at hV
    have HM := Lib.hid hm
    clear h18 hm
    cases ov with
    | none =>
      have hR := Lib.hid hV
      clear hV
      go_enter Tryz.func55, Tryz.ntmps55
      go_wp2_with fail
      generalize World.alloc _ _ = W1 at c0 c9 hs1 hb1 hE1 hA1 ⊢
      refine (refAttr14_any ats _ vAt hl _ hA1).mono ?_
      rw [HO.out]
      unfold atT
      rintro e w2 ⟨rfl, hw2⟩
      subst hw2
      have hb2 := Below.refl W1.heap.size W1
      go_wp2_with fail
      refine (refMode_any k h0 h1 _).mono ?_
      rintro e w3 ⟨rfl, rfl⟩
      rw [HM.out]
      go_wp2_with fail
      go_ret
      exact ⟨by rw [hR.out]; rfl, bs hb1 hb2⟩
    | some s =>
      have hR := Lib.hid hV
      clear hV
      go_enter Tryz.func55, Tryz.ntmps55
      go_wp2_with fail
      generalize World.alloc _ _ = W1 at c0 c9 hs1 hb1 hE1 hA1 ⊢
      refine (refAttr14_any ats _ vAt hl _ hA1).mono ?_
      rw [HO.out]
      unfold atT
      rintro e w2 ⟨rfl, hw2⟩
      subst hw2
      have hb2 := Below.refl W1.heap.size W1
      go_wp2_with fail
      refine (refMode_any k h0 h1 _).mono ?_
      rintro e w3 ⟨rfl, rfl⟩
      rw [HM.out]
      go_wp2_with fail
      go_ret
      exact ⟨by rw [hR.out]; rfl, bs hb1 hb2⟩
  · rw [hm] at hV
    have HM := Lib.hid hm
    have HP := Lib.hid (h18 hm)
    clear h18 hm
    by_cases hf : c.fi.length = 0
    · have hf1 : c.fi = [] := List.length_eq_zero_iff.1 hf
      rw [show fstF c.fi = ⟨#[]⟩ by rw [hf1]; rfl] at hV
      have hR := Lib.hid hV
      have hq : decide ((0 : Int) < (c.fi.length : Int)) = false := decide_eq_false (by omega)
      have hq3 : decide (0 < c.fi.length) = false := decide_eq_false (by omega)
      have hq4 : ¬ (0 < c.fi.length) := by omega
      clear hV hf hf1
      go_enter Tryz.func55, Tryz.ntmps55
      go_wp2_with fail
      generalize World.alloc _ _ = W1 at c0 c9 hs1 hb1 hA1 ⊢
      refine (refAttr14_any ats _ vAt hl _ hA1).mono ?_
      rw [HO.out]
      unfold atT
      rintro e w2 ⟨rfl, hw2⟩
      subst hw2
      have hb2 := Below.refl W1.heap.size W1
      have d9 := cellK hb2 (by omega) c9
      go_wp2_with fail
      refine (refMode_any k h0 h1 _).mono ?_
      rintro e w3 ⟨rfl, rfl⟩
      rw [HM.out]
      go_wp2_with fail
      go_ret
      exact ⟨by rw [hR.out]; rfl, bs hb1 hb2⟩
    · obtain ⟨x, r, hx⟩ : ∃ x r, c.fi = x :: r := by
        cases he : c.fi with
        | nil => rw [he] at hf; exact absurd rfl hf
        | cons x r => exact ⟨x, r, rfl⟩
      have hpos : 0 < c.fi.length := by omega
      have hsz := hF HM.out x (by rw [hx]; exact List.mem_cons_self ..)
      obtain ⟨b, o, c1, hv, hb, e0, e1, e2, e3, e4⟩ := hE1.five hpos
      cases hv
      have hx0 : c.fi[0] = x := by simp [hx]
      rw [hx0] at e0 e1 e2 e3 e4
      rw [hx] at hV
      have hR := Lib.hid hV
      have hq : (0 : Int) < (c.fi.length : Int) := by omega
      have hq2 : decide ((0 : Int) < (c.fi.length : Int)) = true := decide_eq_true hq
      clear hV hf hx hx0
      go_enter Tryz.func55, Tryz.ntmps55
      go_wp2_with fail
      generalize World.alloc _ _ = W1 at *
      refine (refAttr14_any ats _ vAt hl _ hA1).mono ?_
      rw [HO.out]
      unfold atT
      rintro e w2 ⟨rfl, hw2⟩
      subst hw2
      have hb2 := Below.refl W1.heap.size W1
      have d9 := cellK hb2 (by omega) c9
      have g0 := cellK hb2 hb e0
      have g1 := cellK hb2 hb e1
      have g2 := cellK hb2 hb e2
      have g3 := cellK hb2 hb e3
      have g4 := cellK hb2 hb e4
      go_wp2_with fail
      refine (refMode_any k h0 h1 _).mono ?_
      rintro e w3 ⟨rfl, rfl⟩
      rw [HM.out]
      go_wp2_with fail
      go_ret
      exact ⟨by rw [hR.out]; rfl, bs hb1 hb2⟩
end Go.Proofs.YtafbghlldlconaaGreat

/-
  PLAIN LAWS ON BLANKS: Strip and Collapse: no program in sight.
-/
namespace Go.Proofs.YtafbghlldlconaaGreat.PT
set_option linter.unusedVariables false
set_option linter.unusedSimpArgs false

def blanks : List UInt8 := [9, 10, 12, 13, 32]
def blk (c : UInt8) : Bool := blanks.contains c
def strip (l : List UInt8) : List UInt8 := Lib.trimS l blanks

/-- m is what is left of l without the blanks at its ends -/
def IsStrip (l m : List UInt8) : Prop := ∃ a b, l = a ++ m ++ b ∧ (∀ c ∈ a, blk c = true) ∧ (∀ c ∈ b, blk c = true) ∧ (∀ c, m.head? = some c → blk c = false) ∧ (∀ c, m.getLast? = some c → blk c = false)

theorem last_app (x y : List UInt8) (h : y ≠ []) : (x ++ y).getLast? = y.getLast? := by
  rw [List.getLast?_append]
  cases hy : y.getLast? with
  | none => exact absurd (List.getLast?_eq_none_iff.1 hy) h
  | some c => rfl
theorem dropWhile_all {p : UInt8 → Bool} {a : List UInt8} (h : ∀ c ∈ a, p c = true) (x : List UInt8) : (a ++ x).dropWhile p = x.dropWhile p := by
  induction a with
  | nil => rfl
  | cons c a ih =>
    rw [List.cons_append, List.dropWhile_cons_of_pos (h c (List.mem_cons_self ..))]
    exact ih (fun d hd => h d (List.mem_cons_of_mem _ hd))
theorem dropWhile_head {p : UInt8 → Bool} {x : List UInt8} (h : ∀ c, x.head? = some c → p c = false) : x.dropWhile p = x := by
  cases x with
  | nil => rfl
  | cons c x => rw [List.dropWhile_cons_of_neg (by rw [h c rfl]; simp)]
theorem strip_of {l m : List UInt8} (h : IsStrip l m) : strip l = m := by
  obtain ⟨a, b, rfl, ha, hb, hh, hl⟩ := h
  have hR : ∀ x, (∀ c, x.getLast? = some c → blk c = false) → Lib.trimRightS (x ++ b) blanks = x := by
    intro x hx
    unfold Lib.trimRightS
    rw [List.reverse_append, dropWhile_all (p := fun c => blanks.contains c) (fun c hc => hb c (List.mem_reverse.1 hc)), dropWhile_head, List.reverse_reverse]
    intro c hc
    rw [List.head?_reverse] at hc
    exact hx c hc
  unfold strip Lib.trimS
  by_cases hm : m = []
  · subst hm
    have e : Lib.trimRightS (a ++ [] ++ b) blanks = [] := by
      unfold Lib.trimRightS
      rw [List.reverse_eq_nil_iff]
      have : ∀ c ∈ (a ++ [] ++ b).reverse, blk c = true := by
        intro c hc
        rw [List.mem_reverse, List.append_nil, List.mem_append] at hc
        exact hc.elim (ha c) (hb c)
      have h := dropWhile_all (p := fun c => blanks.contains c) this []
      rw [List.append_nil] at h
      exact h
    rw [e]; rfl
  · rw [hR (a ++ m) (fun c hc => hl c (by rwa [last_app _ _ hm] at hc))]
    unfold Lib.trimLeftS
    rw [dropWhile_all (p := fun c => blanks.contains c) ha, dropWhile_head (p := fun c => blanks.contains c) hh]
theorem isStrip_strip (l : List UInt8) : IsStrip l (strip l) := by
  have hd : ∀ (p : UInt8 → Bool) (x : List UInt8), (∀ c, (x.dropWhile p).head? = some c → p c = false) := by
    intro p x c hc
    have := List.head?_dropWhile_not p x
    rw [hc] at this
    simpa using this
  have hsplit : ∀ x : List UInt8, x = x.takeWhile blk ++ x.dropWhile blk := fun x => (List.takeWhile_append_dropWhile).symm
  have hall : ∀ x : List UInt8, ∀ c ∈ x.takeWhile blk, blk c = true := fun x c hc => by
    have := List.all_takeWhile (p := blk) (l := x)
    rw [List.all_eq_true] at this
    exact this c hc
  let r := Lib.trimRightS l blanks
  have hr : l = r ++ (l.reverse.takeWhile blk).reverse := by
    have := congrArg List.reverse (hsplit l.reverse)
    rw [List.reverse_reverse, List.reverse_append] at this
    exact this
  have hs : r = r.takeWhile blk ++ strip l := hsplit r
  refine ⟨r.takeWhile blk, (l.reverse.takeWhile blk).reverse, ?_, hall r, fun c hc => hall _ c (List.mem_reverse.1 hc), hd blk r, ?_⟩
  · rw [← hs]; exact hr
  · intro c hc
    have : r.getLast? = some c := by
      rw [hs, last_app]
      · exact hc
      · intro e; rw [e] at hc; cases hc
    have h2 := hd blk l.reverse c
    apply h2
    have e : r = (l.reverse.dropWhile blk).reverse := rfl
    rw [e, List.getLast?_reverse] at this
    exact this
theorem strip_strip (l : List UInt8) : strip (strip l) = strip l := by
  obtain ⟨_, _, _, _, _, h1, h2⟩ := isStrip_strip l
  exact strip_of ⟨[], [], by simp, by simp, by simp, h1, h2⟩
theorem strip_wide (a b l : List UInt8) (ha : ∀ c ∈ a, blk c = true) (hb : ∀ c ∈ b, blk c = true) : strip (a ++ l ++ b) = strip l := by
  obtain ⟨a', b', e, ha', hb', h1, h2⟩ := isStrip_strip l
  refine strip_of ⟨a ++ a', b' ++ b, ?_, ?_, ?_, h1, h2⟩
  · generalize strip l = m at e
    rw [e]; simp
  · intro c hc; exact (List.mem_append.1 hc).elim (ha c) (ha' c)
  · intro c hc; exact (List.mem_append.1 hc).elim (hb' c) (hb c)
theorem strip_len (l : List UInt8) : (strip l).length ≤ l.length := by
  obtain ⟨a, b, e, _⟩ := isStrip_strip l
  have := congrArg List.length e
  simp only [List.length_append] at this
  omega

/-- the runs of bytes that are no blanks, the one that has begun ahead -/
def wds (cur : List UInt8) : List UInt8 → List (List UInt8)
  | [] => if cur = [] then [] else [cur]
  | c :: r => if blk c then (if cur = [] then wds [] r else cur :: wds [] r) else wds (cur ++ [c]) r
def join : List (List UInt8) → List UInt8
  | [] => []
  | x :: l => x ++ l.flatMap (fun y => 32 :: y)
def Word (x : List UInt8) : Prop := x ≠ [] ∧ ∀ c ∈ x, blk c = false
def collapse (l : List UInt8) : List UInt8 := join (wds [] l)

theorem wds_words : ∀ (l cur : List UInt8), (∀ c ∈ cur, blk c = false) → ∀ x ∈ wds cur l, Word x
  | [], cur, hc => by
    unfold wds
    split
    · simp
    · rename_i h; intro x hx; simp at hx; subst hx; exact ⟨h, hc⟩
  | c :: r, cur, hc => by
    unfold wds
    split
    · split
      · exact wds_words r [] (by simp)
      · rename_i h
        intro x hx
        rcases List.mem_cons.1 hx with rfl | hx
        · exact ⟨h, hc⟩
        · exact wds_words r [] (by simp) x hx
    · rename_i h
      exact wds_words r (cur ++ [c]) (fun d hd => (List.mem_append.1 hd).elim (hc d) (fun e => by simp at e; subst e; simpa using h))
theorem wds_blank (b : List UInt8) (hb : ∀ c ∈ b, blk c = true) : ∀ cur x, wds cur (x ++ b) = wds cur x := by
  have h0 : ∀ cur, wds cur b = if cur = [] then [] else [cur] := by
    induction b with
    | nil => intro cur; rfl
    | cons c b ih =>
      intro cur
      have hb' := ih (fun d hd => hb d (List.mem_cons_of_mem _ hd))
      rw [wds, if_pos (hb c (List.mem_cons_self ..)), hb' []]
      simp
  intro cur x
  induction x generalizing cur with
  | nil => rw [List.nil_append, h0, wds]
  | cons c x ih => simp only [List.cons_append, wds, ih]
theorem wds_lead (a : List UInt8) (ha : ∀ c ∈ a, blk c = true) (x : List UInt8) : wds [] (a ++ x) = wds [] x := by
  induction a with
  | nil => rfl
  | cons c a ih =>
    rw [List.cons_append, wds, if_pos (ha c (List.mem_cons_self ..)), if_pos rfl]
    exact ih (fun d hd => ha d (List.mem_cons_of_mem _ hd))
theorem wds_strip (l : List UInt8) : wds [] (strip l) = wds [] l := by
  obtain ⟨a, b, e, ha, hb, _, _⟩ := isStrip_strip l
  generalize strip l = m at e
  rw [e, wds_blank b hb, wds_lead a ha]
theorem wds_word (x : List UInt8) (hx : ∀ c ∈ x, blk c = false) : ∀ cur r, wds cur (x ++ r) = wds (cur ++ x) r := by
  induction x with
  | nil => intro cur r; simp
  | cons c x ih =>
    intro cur r
    rw [List.cons_append, wds, if_neg (by rw [hx c (List.mem_cons_self ..)]; simp), ih (fun d hd => hx d (List.mem_cons_of_mem _ hd))]
    simp
theorem wds_tail : ∀ ws : List (List UInt8), (∀ x ∈ ws, Word x) → ∀ cur, cur ≠ [] → wds cur (ws.flatMap (fun y => 32 :: y)) = cur :: ws
  | [], _, cur, hc => by rw [List.flatMap_nil, wds, if_neg hc]
  | x :: ws, h, cur, hc => by
    rw [List.flatMap_cons, List.cons_append, wds, if_pos (show blk 32 = true from rfl), if_neg hc, wds_word x (h x (List.mem_cons_self ..)).2, List.nil_append, wds_tail ws (fun y hy => h y (List.mem_cons_of_mem _ hy)) x (h x (List.mem_cons_self ..)).1]
theorem wds_join (ws : List (List UInt8)) (h : ∀ x ∈ ws, Word x) : wds [] (join ws) = ws := by
  cases ws with
  | nil => rfl
  | cons x ws =>
    rw [join, wds_word x (h x (List.mem_cons_self ..)).2, List.nil_append, wds_tail ws (fun y hy => h y (List.mem_cons_of_mem _ hy)) x (h x (List.mem_cons_self ..)).1]
theorem words_of (l : List UInt8) : ∀ x ∈ wds [] l, Word x := wds_words l [] (by simp)
theorem collapse_twice (l : List UInt8) : collapse (collapse l) = collapse l := by
  unfold collapse
  rw [wds_join _ (words_of l)]
theorem collapse_strip (l : List UInt8) : collapse (strip l) = collapse l := by
  unfold collapse
  rw [wds_strip]
theorem join_head (ws : List (List UInt8)) (h : ∀ x ∈ ws, Word x) : ∀ c, (join ws).head? = some c → blk c = false := by
  intro c hc
  cases ws with
  | nil => cases hc
  | cons x ws =>
    obtain ⟨h1, h2⟩ := h x (List.mem_cons_self ..)
    cases x with
    | nil => exact absurd rfl h1
    | cons d x =>
      simp [join] at hc
      subst hc
      exact h2 _ (List.mem_cons_self ..)
theorem tail_last : ∀ (ws : List (List UInt8)), (∀ x ∈ ws, Word x) → ∀ x, Word x → ∀ c, (x ++ ws.flatMap (fun y => 32 :: y)).getLast? = some c → blk c = false
  | [], _, x, hx, c, hc => by
    rw [List.flatMap_nil, List.append_nil] at hc
    exact hx.2 c (List.mem_of_getLast? hc)
  | y :: ws, h, x, _, c, hc => by
    rw [List.flatMap_cons, List.cons_append] at hc
    have h1 := h y (List.mem_cons_self ..)
    have hne : y ++ ws.flatMap (fun y => 32 :: y) ≠ [] := by
      intro e
      exact h1.1 (List.append_eq_nil_iff.1 e).1
    rw [last_app _ _ (by simp), show (32 :: (y ++ ws.flatMap (fun y => 32 :: y))) = [32] ++ (y ++ ws.flatMap (fun y => 32 :: y)) from rfl, last_app _ _ hne] at hc
    exact tail_last ws (fun z hz => h z (List.mem_cons_of_mem _ hz)) y h1 c hc
theorem strip_collapse (l : List UInt8) : strip (collapse l) = collapse l := by
  unfold collapse
  have hw := words_of l
  refine strip_of ⟨[], [], by simp, by simp, by simp, join_head _ hw, ?_⟩
  intro c hc
  cases hws : wds [] l with
  | nil => rw [hws] at hc; cases hc
  | cons x ws =>
    rw [hws] at hc hw
    exact tail_last ws (fun y hy => hw y (List.mem_cons_of_mem _ hy)) x (hw x (List.mem_cons_self ..)) c hc
end Go.Proofs.YtafbghlldlconaaGreat.PT

/-
  PLAIN LAWS: Collapse byte by byte is the runs with one blank between: no program in sight.
-/
namespace Go.Proofs.YtafbghlldlconaaGreat.PT
set_option linter.unusedVariables false
set_option linter.unusedSimpArgs false

/-- what Collapse makes of what is still to come: 'out' so far, 'a': a blank was met ahead -/
def col (out : List UInt8) (a : Bool) : List UInt8 → List UInt8
  | [] => out
  | c :: r => if blk c then col out (decide (0 < out.length)) r else col ((if a then out ++ [32] else out) ++ [c]) false r
theorem col_in (l : List UInt8) : ∀ (pre cur : List UInt8), cur ≠ [] → col (pre ++ cur) false l = pre ++ join (wds cur l) ∧ (∀ out, out ≠ [] → col out true l = out ++ (wds [] l).flatMap (fun y => 32 :: y)) := by
  induction l with
  | nil =>
    intro pre cur hc
    refine ⟨?_, ?_⟩
    · rw [wds, if_neg hc]; simp [col, join]
    · intro out _; simp [col, wds]
  | cons c r ih =>
    intro pre cur hc
    by_cases hb : blk c = true
    · refine ⟨?_, ?_⟩
      · have hp : 0 < (pre ++ cur).length := by
          rw [List.length_append]
          have := List.length_pos_iff.2 hc
          omega
        have h2 := (ih [] [0] (by simp)).2 (pre ++ cur) (by intro e; exact hc (List.append_eq_nil_iff.1 e).2)
        rw [col, if_pos hb, decide_eq_true hp, h2, wds, if_pos hb, if_neg hc, join, List.append_assoc]
      · intro out ho
        have hp : 0 < out.length := List.length_pos_iff.2 ho
        rw [col, if_pos hb, decide_eq_true hp, (ih [] [0] (by simp)).2 out ho, wds, if_pos hb, if_pos rfl]
    · refine ⟨?_, ?_⟩
      · have h1 := (ih pre (cur ++ [c]) (by simp)).1
        rw [col, if_neg hb, if_neg (by simp), wds, if_neg hb, ← h1, List.append_assoc]
      · intro out ho
        have h1 := (ih (out ++ [32]) [c] (by simp)).1
        rw [col, if_neg hb, if_pos rfl, h1, wds, if_neg hb, List.nil_append]
        cases hw : wds [c] r with
        | nil =>
          exfalso
          have : ∀ (x : List UInt8) (y : List UInt8), y ≠ [] → wds y x ≠ [] := by
            intro x
            induction x with
            | nil => intro y hy; rw [wds, if_neg hy]; simp
            | cons d x ihx =>
              intro y hy
              rw [wds]
              split
              · first | simp | (rw [if_neg hy]; simp)
              · exact ihx _ (by simp)
          exact this r [c] (by simp) hw
        | cons x ws => simp [join]
theorem col_start : ∀ l : List UInt8, col [] false l = collapse l
  | [] => rfl
  | c :: r => by
    unfold collapse
    by_cases hb : blk c = true
    · rw [col, if_pos hb, wds, if_pos hb, if_pos rfl]
      exact col_start r
    · rw [col, if_neg hb, if_neg (by simp), wds, if_neg hb]
      have := (col_in r [] [c] (by simp)).1
      simpa using this
end Go.Proofs.YtafbghlldlconaaGreat.PT

/-
  STATES (api.Ctl): slices.Clone, group.copied: the walks; a state's cells in an own row; stores of one field.
-/
namespace Go.Proofs.YtafbghlldlconaaGreat
set_option linter.unusedVariables false
set_option linter.unusedSimpArgs false
open Go.RowKit

theorem set_same {α : Type} (l : List α) (k : Nat) (x : α) (h : l[k]? = some x) : l.set k x = l := by
  obtain ⟨h1, h2⟩ := List.getElem?_eq_some_iff.1 h
  subst h2
  exact List.set_getElem_self h1
theorem OC.len {base : Nat} {L : List CtT} {v : Value} {w : World} (h : OC base L v w) : ∃ a cap, v = .slice a L.length cap ∧ (a = none → cap = 0) := own_form h.row
theorem OC.at {base : Nat} {L : List CtT} {v : Value} {w : World} (h : OC base L v w) {k : Nat} (hk : k < L.length) : ∃ g cap cur, v = .slice (some ⟨g, 0, none⟩) L.length cap ∧ base ≤ g ∧ w.heap[g]? = some (.cells cur 54 (0, 0)) ∧ Ten g (k * 10) L[k].1 L[k].2 w ∧ Ents L[k].1.fi L[k].2 w := by
  obtain ⟨g, cap, cur, hv, hb, hg⟩ := h.blk (by rintro rfl; simp at hk)
  refine ⟨g, cap, cur, hv, hb, hg, ?_, (h.fil _ (List.getElem_mem hk)).1⟩
  obtain ⟨g', cap', hv', _, _, _, hc⟩ := own_cell h.row (by rw [ne_eq, ← List.length_eq_zero_iff, flat_size ctC_len]; omega)
  rw [hv] at hv'
  cases hv'
  have f := fun i u (hu : (ctC (L[k]'hk))[i]? = some u) => hc _ _ (flat_get ctC_len L k (L[k]'hk) (List.getElem?_eq_getElem hk) i u hu)
  exact ⟨f 0 _ rfl, f 1 _ rfl, f 2 _ rfl, f 3 _ rfl, f 4 _ rfl, f 5 _ rfl, f 6 _ rfl, f 7 _ rfl, f 8 _ rfl, f 9 _ rfl⟩
/-- 'out[k].Checked = b' -/
theorem OC.setCh {base : Nat} {L : List CtT} {g n cap : Nat} {w : World} (h : OC base L (.slice (some ⟨g, 0, none⟩) n cap) w) {k : Nat} (hk : k < L.length) (b : Bool) :
    ∃ L', L'.map (·.1) = (L.map (·.1)).set k { L[k].1 with ch := b } ∧ OC base L' (.slice (some ⟨g, 0, none⟩) n cap) (w.setCell ⟨g, k * 10 + 3, none⟩ (.bool b)) ∧ Below base w (w.setCell ⟨g, k * 10 + 3, none⟩ (.bool b)) := by
  have hf := h.fil L[k] (List.getElem_mem hk)
  obtain ⟨h1, h2⟩ := h.set (k := k) (i := 3) (t := L[k]) (t' := ({ L[k].1 with ch := b }, L[k].2)) (u := .bool b) (List.getElem?_eq_getElem hk) (by omega) rfl hf
  exact ⟨_, List.map_set, h1, h2⟩
/-- 'out[k].DirtyChecked = b' -/
theorem OC.setDc {base : Nat} {L : List CtT} {g n cap : Nat} {w : World} (h : OC base L (.slice (some ⟨g, 0, none⟩) n cap) w) {k : Nat} (hk : k < L.length) (b : Bool) :
    ∃ L', L'.map (·.1) = (L.map (·.1)).set k { L[k].1 with dc := b } ∧ OC base L' (.slice (some ⟨g, 0, none⟩) n cap) (w.setCell ⟨g, k * 10 + 4, none⟩ (.bool b)) ∧ Below base w (w.setCell ⟨g, k * 10 + 4, none⟩ (.bool b)) := by
  have hf := h.fil L[k] (List.getElem_mem hk)
  obtain ⟨h1, h2⟩ := h.set (k := k) (i := 4) (t := L[k]) (t' := ({ L[k].1 with dc := b }, L[k].2)) (u := .bool b) (List.getElem?_eq_getElem hk) (by omega) rfl hf
  exact ⟨_, List.map_set, h1, h2⟩
theorem cells_not_frozen {w : World} {g i : Nat} {cur : Array Value} {T : TypeId} (h : w.heap[g]? = some (.cells cur T (0, 0))) : w.frozen? ⟨g, i, none⟩ = false := by
  simp [World.frozen?, h]
theorem SizedC.ents {cs : List Ct} (h : SizedC cs) {L : List CtT} (hL : L.map (·.1) = cs) {t : CtT} (ht : t ∈ L) : t.1.fi.length * 72 ≤ 140737488351232 :=
  h.fi' _ (by rw [← hL]; exact List.mem_map_of_mem ht)

end Go.Proofs.YtafbghlldlconaaGreat

/-
  A DOCUMENT WITH STATES (api.Doc) as a parameter: option.Right, ref15.Right, the law's copied; ref14.Same, ref15.Same on states that read the same: the walks.
-/
namespace Go.Proofs.YtafbghlldlconaaGreat
set_option linter.unusedVariables false
set_option linter.unusedSimpArgs false
open Go.RowKit

/-- a document with states that came in -/
structure DocAt (l : List Nd) (cs : List Ct) (vn vc : Value) (w : World) : Prop where
  nodes : Came l vn w
  ctls : Ctls cs vc w
  sz : SizedC cs
theorem DocAt.kept {l : List Nd} {cs : List Ct} {vn vc : Value} {w w' : World} (h : DocAt l cs vn vc w) (hb : Below w.heap.size w w') : DocAt l cs vn vc w' := ⟨h.nodes.kept hb, h.ctls.kept hb, h.sz⟩
noncomputable def okD (l : List Nd) (cs : List Ct) : Bool := rightB l && decide (l.length = cs.length)
/-- the variable that the parameter is laid in -/
theorem doc_box {T : TypeId} {l : List Nd} {cs : List Ct} {vn vc : Value} {w : World} (h : DocAt l cs vn vc w) :
    DocAt l cs vn vc (w.alloc (.cells #[vn, vc] T)) ∧ Below w.heap.size w (w.alloc (.cells #[vn, vc] T)) ∧ (w.alloc (.cells #[vn, vc] T)).heap.size = w.heap.size + 1 ∧
      (w.alloc (.cells #[vn, vc] T)).cell? ⟨w.heap.size, 0, none⟩ = some vn ∧ (w.alloc (.cells #[vn, vc] T)).cell? ⟨w.heap.size, 1, none⟩ = some vc := by
  have hb := (Below.refl w.heap.size w).alloc (Nat.le_refl _) (.cells #[vn, vc] T)
  have hn := Go.heap_alloc_new w (.cells #[vn, vc] T)
  exact ⟨h.kept hb, hb, by simp, by simp only [World.cell?, hn]; rfl, by simp only [World.cell?, hn]; rfl⟩
set_option maxHeartbeats 1000000 in
set_option maxRecDepth 100000 in
theorem optRight_any (l : List Nd) (cs : List Ct) (vn vc : Value) (w : World) (hD : DocAt l cs vn vc w) :
    Calls Tryz.prog 9 #[.agg #[vn, vc]] w fun e w' => e = .returned (.bool (okD l cs)) ∧ Below w.heap.size w w' := by
  obtain ⟨a1, cap1, rfl⟩ := hD.nodes.nodes.len
  obtain ⟨a2, cap2, rfl⟩ := hD.ctls.len
  obtain ⟨hD1, hb1, hs1, _, _⟩ := doc_box (T := 25) hD
  by_cases hll : l.length = cs.length
  · have hr := Lib.hid (show okD l cs = rightB l by unfold okD; rw [decide_eq_true hll, Bool.and_true])
    have h1 : ((l.length : Int) == (cs.length : Int)) = true := by rw [hll]; exact beq_self_eq_true _
    clear hll
    go_enter Tryz.func9, Tryz.ntmps9
    go_wp2_with fail
    refine (right_any l _ hD1.nodes.len hD1.nodes.fits _ hD1.nodes.nodes).mono ?_
    rintro e w2 ⟨rfl, hb2⟩
    go_wp2_with fail
    go_ret
    exact ⟨ret_bool hr.out.symm, bs hb1 hb2⟩
  · have hr := Lib.hid (show okD l cs = false by unfold okD; rw [decide_eq_false hll, Bool.and_false])
    have h1 : ((l.length : Int) == (cs.length : Int)) = false := intNe (by omega)
    go_enter Tryz.func9, Tryz.ntmps9
    go_wp2_with fail
    go_ret
    exact ⟨ret_bool hr.out.symm, hb1⟩
set_option maxHeartbeats 1000000 in
set_option maxRecDepth 100000 in
theorem refRight15_any (l : List Nd) (cs : List Ct) (vn vc : Value) (w : World) (hD : DocAt l cs vn vc w) :
    Calls Tryz.prog 18 #[.agg #[vn, vc]] w fun e w' => e = .returned (.bool (okD l cs)) ∧ Below w.heap.size w w' := by
  obtain ⟨a1, cap1, rfl⟩ := hD.nodes.nodes.len
  obtain ⟨a2, cap2, rfl⟩ := hD.ctls.len
  obtain ⟨hD1, hb1, hs1, c0, c1⟩ := doc_box (T := 25) hD
  cases hR : rightB l
  · have hr := Lib.hid (show okD l cs = false by unfold okD; rw [hR]; rfl)
    have HR := Lib.hid hR
    clear hR
    go_enter Tryz.func18, Tryz.ntmps18
    go_wp2_with fail
    refine (refRight_any l _ hD1.nodes.len hD1.nodes.fits _ hD1.nodes.nodes).mono ?_
    rintro e w2 ⟨rfl, hb2⟩
    rw [HR.out]
    go_wp2_with fail
    go_ret
    exact ⟨ret_bool hr.out.symm, bs hb1 hb2⟩
  have HR := Lib.hid hR
  by_cases hll : l.length = cs.length
  · have hr := Lib.hid (show okD l cs = true by unfold okD; rw [hR, decide_eq_true hll]; rfl)
    have h1 : ((l.length : Int) == (cs.length : Int)) = true := by rw [hll]; exact beq_self_eq_true _
    clear hR hll
    go_enter Tryz.func18, Tryz.ntmps18
    go_wp2_with fail
    refine (refRight_any l _ hD1.nodes.len hD1.nodes.fits _ hD1.nodes.nodes).mono ?_
    rintro e w2 ⟨rfl, hb2⟩
    rw [HR.out]
    have d0 := cellK hb2 (by omega) c0
    have d1 := cellK hb2 (by omega) c1
    go_wp2_with fail
    go_ret
    exact ⟨ret_bool hr.out.symm, bs hb1 hb2⟩
  · have hr := Lib.hid (show okD l cs = false by unfold okD; rw [hR, decide_eq_false hll]; rfl)
    have h1 : ((l.length : Int) == (cs.length : Int)) = false := intNe (by omega)
    clear hR
    go_enter Tryz.func18, Tryz.ntmps18
    go_wp2_with fail
    refine (refRight_any l _ hD1.nodes.len hD1.nodes.fits _ hD1.nodes.nodes).mono ?_
    rintro e w2 ⟨rfl, hb2⟩
    rw [HR.out]
    have d0 := cellK hb2 (by omega) c0
    have d1 := cellK hb2 (by omega) c1
    go_wp2_with fail
    go_ret
    exact ⟨ret_bool hr.out.symm, bs hb1 hb2⟩
theorem doc2_of {W : World} {b : Nat} {T : TypeId} {u0 u1 : Value} (h : W.heap[b]? = some (.cells #[u0, u1] T (0, 0))) : W.cell? ⟨b, 0, none⟩ = some u0 ∧ W.cell? ⟨b, 1, none⟩ = some u1 ∧ W.frozen? ⟨b, 0, none⟩ = false ∧ W.frozen? ⟨b, 1, none⟩ = false := by
  refine ⟨?_, ?_, ?_, ?_⟩
  · simp only [World.cell?, h]; rfl
  · simp only [World.cell?, h]; rfl
  · simp [World.frozen?, h]
  · simp [World.frozen?, h]
theorem doc2_heap {W : World} {b : Nat} {T : TypeId} {u0 u1 : Value} (v0 v1 : Value) (h : W.heap[b]? = some (.cells #[u0, u1] T (0, 0))) : ((W.setCell ⟨b, 0, none⟩ v0).setCell ⟨b, 1, none⟩ v1).heap[b]? = some (.cells #[v0, v1] T (0, 0)) := by
  simp [World.setCell, Array.getElem?_modify, h]
theorem doc2_below (W : World) (b : Nat) (v0 v1 : Value) {base : Nat} (h : base ≤ b) : Below base W ((W.setCell ⟨b, 0, none⟩ v0).setCell ⟨b, 1, none⟩ v1) := ((Below.refl base W).setCell h _).setCell h _
theorem doc1_heap {W : World} {b : Nat} {T : TypeId} {u0 u1 : Value} (v0 : Value) (h : W.heap[b]? = some (.cells #[u0, u1] T (0, 0))) : (W.setCell ⟨b, 0, none⟩ v0).heap[b]? = some (.cells #[v0, u1] T (0, 0)) := by
  simp [World.setCell, Array.getElem?_modify, h]
theorem ON.set {base : Nat} {L : List NdT} {v : Value} {w : World} {g : Nat} {cur : Array Value} {T : TypeId} (h : ON base L v w) (hg : w.heap[g]? = some (.cells cur T (0, 0))) (h1 : 41 ≠ T) (h2 : 52 ≠ T) (h3 : 3 ≠ T) (i : Nat) (u : Value) : ON base L v (w.setCell ⟨g, i, none⟩ u) :=
  ⟨own_set h.row hg h1, fun t ht => own_set (h.at' t ht) hg h2, fun t ht => own_set (h.ki' t ht) hg h3⟩
theorem OC.setT {base : Nat} {L : List CtT} {v : Value} {w : World} {g : Nat} {cur : Array Value} {T : TypeId} (h : OC base L v w) (hg : w.heap[g]? = some (.cells cur T (0, 0))) (hb : base ≤ g) (h1 : 54 ≠ T) (h2 : 56 ≠ T) (i : Nat) (u : Value) : OC base L v (w.setCell ⟨g, i, none⟩ u) :=
  ⟨own_set h.row hg h1, fun t ht => (h.fil t ht).setT h2 hg hb⟩
end Go.Proofs.YtafbghlldlconaaGreat
