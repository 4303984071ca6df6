import Derived.Test.YtafbghlldlconaaGreatPart4
import Derived.Laws.Cells
import Derived.Test.YtafbghlldlconaaGreatPart1
import Derived.Deep.AppendSrc
import Derived.Test.YtafbghlldlconaaGreatPart3
import Derived.Laws.AppendOwnNone
import Derived.Test.YtafbghlldlconaaGreatPart2
import Derived.Deep.RegionLaw
/-
  HOW A KIND HAS ITS VALUE: kinds.Mode, ref11.Mode, control.button, ref14.pushes: the walks (printed by a program: 36 kinds each).
-/
namespace Go.Proofs.YtafbghlldlconaaGreat
set_option linter.unusedVariables false
set_option linter.unusedSimpArgs false
open Go.RowKit PT

def modeF (k : Int) : Int := if k ∈ ([2, 3, 4, 5, 6, 7, 8, 9, 10, 11, 12, 13, 14, 15, 24, 28] : List Int) then 1 else if k ∈ ([1, 19, 20, 21, 22] : List Int) then 2 else if k = 16 ∨ k = 17 then 3 else if k = 18 then 4 else 0
def pushB (k : Int) : Bool := decide (k ∈ ([25, 26, 27] : List Int))
theorem modeF_cases (k : Int) : modeF k = 0 ∨ modeF k = 1 ∨ modeF k = 2 ∨ modeF k = 3 ∨ modeF k = 4 := by
  unfold modeF
  split
  · simp
  · split
    · simp
    · split
      · simp
      · split <;> simp
set_option maxHeartbeats 4000000 in
set_option maxRecDepth 100000 in
theorem kindsMode_any (k : Int) (h0 : 0 ≤ k) (h1 : k ≤ 35) (w : World) : Calls Tryz.prog 64 #[.int .i64 k] w fun e w' => e = .returned (.int .i64 (modeF k)) ∧ w = w' := by
  rcases kinds36 k h0 h1 with rfl | rfl | rfl | rfl | rfl | rfl | rfl | rfl | rfl | rfl | rfl | rfl | rfl | rfl | rfl | rfl | rfl | rfl | rfl | rfl | rfl | rfl | rfl | rfl | rfl | rfl | rfl | rfl | rfl | rfl | rfl | rfl | rfl | rfl | rfl | rfl
  all_goals
    go_enter Tryz.func64, Tryz.ntmps64
    go_wp2
    go_ret
    exact ⟨rfl, rfl⟩
set_option maxHeartbeats 4000000 in
set_option maxRecDepth 100000 in
theorem refMode_any (k : Int) (h0 : 0 ≤ k) (h1 : k ≤ 35) (w : World) : Calls Tryz.prog 81 #[.int .i64 k] w fun e w' => e = .returned (.int .i64 (modeF k)) ∧ w = w' := by
  rcases kinds36 k h0 h1 with rfl | rfl | rfl | rfl | rfl | rfl | rfl | rfl | rfl | rfl | rfl | rfl | rfl | rfl | rfl | rfl | rfl | rfl | rfl | rfl | rfl | rfl | rfl | rfl | rfl | rfl | rfl | rfl | rfl | rfl | rfl | rfl | rfl | rfl | rfl | rfl
  all_goals
    go_enter Tryz.func81, Tryz.ntmps81
    go_wp2
    go_ret
    exact ⟨rfl, rfl⟩
set_option maxHeartbeats 4000000 in
set_option maxRecDepth 100000 in
theorem ctlButton_any (k : Int) (h0 : 0 ≤ k) (h1 : k ≤ 35) (w : World) : Calls Tryz.prog 65 #[.int .i64 k] w fun e w' => e = .returned (.bool (pushB k)) ∧ w = w' := by
  rcases kinds36 k h0 h1 with rfl | rfl | rfl | rfl | rfl | rfl | rfl | rfl | rfl | rfl | rfl | rfl | rfl | rfl | rfl | rfl | rfl | rfl | rfl | rfl | rfl | rfl | rfl | rfl | rfl | rfl | rfl | rfl | rfl | rfl | rfl | rfl | rfl | rfl | rfl | rfl
  all_goals
    go_enter Tryz.func65, Tryz.ntmps65
    go_wp2
    go_ret
    exact ⟨rfl, rfl⟩
set_option maxHeartbeats 4000000 in
set_option maxRecDepth 100000 in
theorem refPushes_any (k : Int) (h0 : 0 ≤ k) (h1 : k ≤ 35) (w : World) : Calls Tryz.prog 82 #[.int .i64 k] w fun e w' => e = .returned (.bool (pushB k)) ∧ w = w' := by
  rcases kinds36 k h0 h1 with rfl | rfl | rfl | rfl | rfl | rfl | rfl | rfl | rfl | rfl | rfl | rfl | rfl | rfl | rfl | rfl | rfl | rfl | rfl | rfl | rfl | rfl | rfl | rfl | rfl | rfl | rfl | rfl | rfl | rfl | rfl | rfl | rfl | rfl | rfl | rfl
  all_goals
    go_enter Tryz.func82, Tryz.ntmps82
    go_wp2
    go_ret
    exact ⟨rfl, rfl⟩
end Go.Proofs.YtafbghlldlconaaGreat

/-
  ROWS OF ENTRIES (api.Entry): one that came in, and one that the call itself builds.
-/
namespace Go.Proofs.YtafbghlldlconaaGreat
set_option linter.unusedVariables false
set_option linter.unusedSimpArgs false
open Go.RowKit Go.Lib

structure Ent where
  n : ByteArray
  v : ByteArray
  f : Bool
  fn : ByteArray
  t : ByteArray
def entCells (e : Ent) : List Value := [.string e.n, .string e.v, .bool e.f, .string e.fn, .string e.t]
def entV (e : Ent) : Value := .agg #[.string e.n, .string e.v, .bool e.f, .string e.fn, .string e.t]
/-- the value v is a slice of entries that reads es in the world w -/
def Ents (es : List Ent) (v : Value) (w : World) : Prop :=
  (es = [] ∧ ∃ a cap, v = .slice a 0 cap ∧ (a = none → cap = 0)) ∨ ∃ b o cap, v = .slice (some ⟨b, o, none⟩) es.length cap ∧ b < w.heap.size ∧ ∀ j e, es[j]? = some e → ∀ i u, (entCells e)[i]? = some u → w.cell? ⟨b, o + j * 5 + i, none⟩ = some u
theorem Ents.kept {es : List Ent} {v : Value} {w w' : World} (h : Ents es v w) (hb : Below w.heap.size w w') : Ents es v w' := by
  rcases h with h | ⟨b, o, cap, rfl, h1, h4⟩
  · exact .inl h
  · refine .inr ⟨b, o, cap, rfl, by have := hb.size; omega, fun j e he i u hu => ?_⟩
    rw [← h4 j e he i u hu]
    simp only [World.cell?, hb.block b h1]
theorem Ents.len {es : List Ent} {v : Value} {w : World} (h : Ents es v w) : ∃ a cap, v = .slice a es.length cap := by
  rcases h with ⟨rfl, a, cap, rfl, _⟩ | ⟨b, o, cap, rfl, _⟩
  · exact ⟨_, _, rfl⟩
  · exact ⟨_, _, rfl⟩
/-- the five cells of an entry -/
theorem Ents.five {es : List Ent} {v : Value} {w : World} (h : Ents es v w) {k : Nat} (hk : k < es.length) : ∃ b o cap, v = .slice (some ⟨b, o, none⟩) es.length cap ∧ b < w.heap.size ∧
    w.cell? ⟨b, o + k * 5, none⟩ = some (.string es[k].n) ∧ w.cell? ⟨b, o + k * 5 + 1, none⟩ = some (.string es[k].v) ∧ w.cell? ⟨b, o + k * 5 + 2, none⟩ = some (.bool es[k].f) ∧
    w.cell? ⟨b, o + k * 5 + 3, none⟩ = some (.string es[k].fn) ∧ w.cell? ⟨b, o + k * 5 + 4, none⟩ = some (.string es[k].t) := by
  rcases h with ⟨rfl, _⟩ | ⟨b, o, cap, rfl, h1, h4⟩
  · simp at hk
  · have hc := h4 k es[k] (List.getElem?_eq_getElem hk)
    exact ⟨b, o, cap, rfl, h1, hc 0 _ rfl, hc 1 _ rfl, hc 2 _ rfl, hc 3 _ rfl, hc 4 _ rfl⟩

theorem info_ent : (Tryz.prog.info? 56).map (fun i => (i.zero, i.size, i.bytes)) = some (some (.agg #[.string ⟨#[]⟩, .string ⟨#[]⟩, .bool false, .string ⟨#[]⟩, .string ⟨#[]⟩]), 5, 72) := by kernel_rfl
/-- the value v is a slice of entries that the call itself has built since 'base' blocks lay -/
def OE (base : Nat) (es : List Ent) (v : Value) (w : World) : Prop := w.ownsRow base 56 5 v es.length (es.flatMap entCells)
theorem OE.nil (base : Nat) (w : World) : OE base [] (.slice none 0 0) w := World.ownsRow_nil w base _ _
theorem OE.alloc {base : Nat} {l : List Ent} {v : Value} {w : World} (h : OE base l v w) (o : Obj) : OE base l v (w.alloc o) := World.ownsRow.alloc h o
theorem own_kept {base : Nat} {e : TypeId} {n m : Nat} {xs : List Value} {v : Value} {w w' : World} (h : w.ownsRow base e n v m xs) (hb : Below w.heap.size w w') : w'.ownsRow base e n v m xs := by
  obtain ⟨h1, ⟨rfl, hn⟩ | ⟨g, cap, cur, rfl, h2, h3, h4⟩⟩ := h
  · exact ⟨h1, .inl ⟨rfl, hn⟩⟩
  · refine ⟨h1, .inr ⟨g, cap, cur, rfl, h2, ?_, h4⟩⟩
    have hlt : g < w.heap.size := (Array.getElem?_eq_some_iff.1 h3).1
    rw [hb.block g hlt]; exact h3
theorem OE.kept {base : Nat} {l : List Ent} {v : Value} {w w' : World} (h : OE base l v w) (hb : Below w.heap.size w w') : OE base l v w' := own_kept h hb
theorem entCells_len (e : Ent) : (entCells e).length = 5 := rfl
theorem flat_at : ∀ (es : List Ent) (j : Nat) (e : Ent), es[j]? = some e → ∀ i u, (entCells e)[i]? = some u → (es.flatMap entCells)[j * 5 + i]? = some u
  | [], _, _, h => by simp at h
  | x :: r, 0, e, h => fun i u hu => by
    simp at h; subst h
    have hi : i < 5 := (List.getElem?_eq_some_iff.1 hu).1
    rw [List.flatMap_cons, List.getElem?_append_left (by rw [entCells_len]; omega), Nat.zero_mul, Nat.zero_add]
    exact hu
  | x :: r, j + 1, e, h => fun i u hu => by
    simp at h
    have := flat_at r j e h i u hu
    rw [List.flatMap_cons, List.getElem?_append_right (by rw [entCells_len]; omega), entCells_len, show (j + 1) * 5 + i - 5 = j * 5 + i by omega]
    exact this
theorem entflat_len (es : List Ent) : (es.flatMap entCells).length = es.length * 5 := by
  induction es with
  | nil => rfl
  | cons e r ih => rw [List.flatMap_cons, List.length_append, ih, entCells_len, List.length_cons]; omega
theorem OE.ents {base : Nat} {es : List Ent} {v : Value} {w : World} (h : OE base es v w) : Ents es v w := by
  obtain ⟨_, ⟨rfl, hn⟩ | ⟨g, cap, cur, rfl, h2, h3, h4, h5, h6, h7⟩⟩ := h
  · exact .inl ⟨List.length_eq_zero_iff.1 hn, none, 0, rfl, fun _ => rfl⟩
  · refine .inr ⟨g, 0, cap, rfl, (Array.getElem?_eq_some_iff.1 h3).1, fun j e he i u hu => ?_⟩
    have hf := flat_at es j e he i u hu
    have hj : j * 5 + i < es.length * 5 := by
      rw [← entflat_len]; exact (List.getElem?_eq_some_iff.1 hf).1
    rw [← h7, List.getElem?_take_of_lt hj] at hf
    rw [Nat.zero_add]
    simp only [World.cell?, h3]
    simpa using hf

/-- 'out = append(out, e)': the entry lies in a block of its own, laid just ahead -/
theorem wpList_append_ent {W : World} {ops : Array Oper} {rest : List Oper} {o : Oper} {a : Act} {Q : Exit → Act → World → Prop} (hgd : o.guard = none) (s x : Operand)
    (ho : o.op = .call { callee := .builtin .append, args := #[s, x], argTypes := #[26, 26] })
    {base : Nat} {l : List Ent} {v : Value} (hs : a.eval s = v) (hx : a.eval x = .slice (some ⟨W.heap.size, 0, none⟩) 1 1) (e : Ent)
    (hown : OE base l v W) (hlen : l.length < 1000000000) (hbase : base ≤ W.heap.size)
    (h : ∀ v' w', OE base (l ++ [e]) v' w' → Below base W w' → wpList Tryz.prog ops Q rest (a.put o.dst v') w') : wpList Tryz.prog ops Q (o :: rest) a (W.alloc (.cells #[.string e.n, .string e.v, .bool e.f, .string e.fn, .string e.t] 56)) := by
  obtain ⟨i0, hi, hz0, hz1, hz2⟩ := info_parts info_ent
  have hA : (W.alloc (.cells #[.string e.n, .string e.v, .bool e.f, .string e.fn, .string e.t] 56)).ownsRow base 56 5 v l.length (l.flatMap entCells) := World.ownsRow.alloc hown _
  refine wpList_append_own _ hgd s x 26 ho base 56 i0 _ 5 72 Tryz.underlying26 hi hz0 hz1 hz2 rfl (by decide) v l.length (l.flatMap entCells) hs hA ⟨W.heap.size, 0, none⟩ 1 1 (entCells e) hx rfl ?_ ?_ ?_ ?_ ?_ ?_
  · intro j u hj
    have hn := Go.heap_alloc_new W (.cells #[.string e.n, .string e.v, .bool e.f, .string e.fn, .string e.t] 56)
    rw [addr_add, Nat.zero_add]
    simp only [World.cell?, hn]
    simpa [entCells] using hj
  · intro u hu
    simp only [entCells, List.mem_cons, List.not_mem_nil, or_false] at hu
    rcases hu with rfl | rfl | rfl | rfl | rfl <;> rfl
  · unfold maxLen; omega
  · omega
  · simp; omega
  · intro v' w1 h1 h2 _
    have hg : Below base (W.alloc (.cells #[.string e.n, .string e.v, .bool e.f, .string e.fn, .string e.t] 56)) w1 := by
      refine (Below.refl base _).grown h2 (by simp; omega) (fun k hk => (hA.lt k hk).1)
    refine h v' w1 ?_ (((Below.refl base W).alloc hbase _).trans hg)
    unfold OE
    rw [List.length_append, List.flatMap_append, List.flatMap_cons, List.flatMap_nil, List.append_nil]
    exact h1
/-- the same, the block's number being told otherwise -/
theorem wpList_append_ent_at {W : World} {ops : Array Oper} {rest : List Oper} {o : Oper} {a : Act} {Q : Exit → Act → World → Prop} (hgd : o.guard = none) (s x : Operand)
    (ho : o.op = .call { callee := .builtin .append, args := #[s, x], argTypes := #[26, 26] })
    {base : Nat} {l : List Ent} {v : Value} (g : Nat) (hg : g = W.heap.size) (hs : a.eval s = v) (hx : a.eval x = .slice (some ⟨g, 0, none⟩) 1 1) (e : Ent)
    (hown : OE base l v W) (hlen : l.length < 1000000000) (hbase : base ≤ W.heap.size)
    (h : ∀ v' w', OE base (l ++ [e]) v' w' → Below base W w' → wpList Tryz.prog ops Q rest (a.put o.dst v') w') : wpList Tryz.prog ops Q (o :: rest) a (W.alloc (.cells #[.string e.n, .string e.v, .bool e.f, .string e.fn, .string e.t] 56)) := by
  subst hg
  exact wpList_append_ent hgd s x ho hs hx e hown hlen hbase h
end Go.Proofs.YtafbghlldlconaaGreat

/-
  ref14.SameFiles (two rows that read the same), ref19.Long, append(l, more..): the walks.
-/
namespace Go.Proofs.YtafbghlldlconaaGreat
set_option linter.unusedVariables false
set_option linter.unusedSimpArgs false
open Go.RowKit Go.Lib

/-- an operation whose guard holds -/
theorem wpList_unguard {P : Program} {ops : Array Oper} {Q : Exit → Act → World → Prop} {a : Act} {w : World} {rest : List Oper} {o : Oper} (hw : Region.wanted o (yielded ops a.tmps) = true)
    (h : wpList P ops Q ({ o with guard := none } :: rest) a w) : wpList P ops Q (o :: rest) a w := by
  unfold wpList at h ⊢
  rw [if_pos hw]
  rw [if_pos (by simp [Region.wanted])] at h
  exact h
theorem OE.lit (w : World) : OE w.heap.size [] (.slice (some ⟨w.heap.size, 0, none⟩) 0 0) (w.alloc (.cells #[] 56)) := World.ownsRow_made w #[] 0 (Nat.le_refl _) (Nat.zero_le _) rfl
/-- 'append(out, l...)' -/
theorem wpList_append_ents {W : World} {ops : Array Oper} {rest : List Oper} {o : Oper} {a : Act} {Q : Exit → Act → World → Prop} (hgd : o.guard = none) (s x : Operand)
    (ho : o.op = .call { callee := .builtin .append, args := #[s, x], argTypes := #[26, 26] })
    {base : Nat} {l es : List Ent} {v u : Value} (hs : a.eval s = v) (hx : a.eval x = u) (hE : Ents es u W)
    (hown : OE base l v W) (hlen : l.length + es.length < 1000000000) (hbase : base ≤ W.heap.size) (hn : v ≠ .slice none 0 0)
    (h : ∀ v' w', OE base (l ++ es) v' w' → v' ≠ .slice none 0 0 → Below base W w' → wpList Tryz.prog ops Q rest (a.put o.dst v') w') : wpList Tryz.prog ops Q (o :: rest) a W := by
  obtain ⟨i0, hi, hz0, hz1, hz2⟩ := info_parts info_ent
  have key : ∀ (ad : Addr) (c : Nat) (_hu : u = .slice (some ad) es.length c) (_hnews : ∀ j y, (es.flatMap entCells)[j]? = some y → W.cell? (ad.add j) = some y), wpList Tryz.prog ops Q (o :: rest) a W := by
    intro ad c hu hnews
    subst hu
    refine wpList_append_own _ hgd s x 26 ho base 56 i0 _ 5 72 Tryz.underlying26 hi hz0 hz1 hz2 rfl (by decide) v l.length (l.flatMap entCells) hs hown ad es.length c (es.flatMap entCells) hx (entflat_len es) hnews ?_ ?_ ?_ hbase ?_
    · intro u hu
      rw [List.mem_flatMap] at hu
      obtain ⟨e, _, hu⟩ := hu
      simp only [entCells, List.mem_cons, List.not_mem_nil, or_false] at hu
      rcases hu with rfl | rfl | rfl | rfl | rfl <;> rfl
    · unfold maxLen; omega
    · omega
    · intro v' w1 h1 h2 h3
      refine h v' w1 ?_ (fun e => hn (h3.1 e).1) ((Below.refl base W).grown h2 hbase (fun k hk => (World.ownsRow.lt hown k hk).1))
      unfold OE
      rw [List.length_append, List.flatMap_append]
      exact h1
  rcases hE with ⟨rfl, ad, c, rfl, hcz⟩ | ⟨b, off, c, rfl, hb, hc⟩
  · cases ad with
    | some ad => exact key ad c rfl (fun j y hj => by simp at hj)
    | none =>
      obtain ⟨h1, ⟨rfl, _⟩ | ⟨g, cap, cur, rfl, h2, h3, h4, h5⟩⟩ := hown
      · exact absurd rfl hn
      · have hr := Go.run_append_room_src (P := Tryz.prog) W 26 26 o.type 56 i0 Tryz.underlying26 hi g 0 l.length cap (.slice none 0 c) 0 [] (Go.Src.ofNil W Tryz.underlying26 c) (by omega) (fun j hj => by simp at hj) (fun j hj => by simp at hj)
        refine wpList_plain hgd fun K hK => ?_
        unfold Oper.wp execOp
        simp only [ho, resolve, invoke, builtin, Sem.run_bind, Sem.run_pure, Result.andThen_ok, List.map_toArray, List.map_cons, List.map_nil, hs, hx, hr]
        refine hK _ _ (h _ _ ?_ (by simp) ?_)
        · rw [List.append_nil]
          exact ⟨h1, .inr ⟨g, cap, cur, rfl, h2, h3, h4, h5⟩⟩
        · exact Below.refl _ _
  · refine key ⟨b, off, none⟩ c rfl (fun j y hj => ?_)
    have hjl : j < es.length * 5 := by rw [← entflat_len]; exact (List.getElem?_eq_some_iff.1 hj).1
    have hq : j / 5 < es.length := by omega
    have hcell := hc (j / 5) es[j / 5] (List.getElem?_eq_getElem hq) (j % 5) ((entCells es[j / 5])[j % 5]'(by rw [entCells_len]; omega)) (List.getElem?_eq_getElem _)
    have hf := flat_at es (j / 5) es[j / 5] (List.getElem?_eq_getElem hq) (j % 5) ((entCells es[j / 5])[j % 5]'(by rw [entCells_len]; omega)) (List.getElem?_eq_getElem _)
    have e5 : j / 5 * 5 + j % 5 = j := by omega
    rw [e5, hj] at hf
    cases hf
    rw [addr_add, show off + j = off + j / 5 * 5 + j % 5 by omega]
    exact hcell

set_option maxHeartbeats 1000000 in
set_option maxRecDepth 100000 in
theorem sameFiles_yes (es : List Ent) (u v : Value) (w : World) (hU : Ents es u w) (hV : Ents es v w) (hl : es.length ≤ 1000000000000000000) :
    Calls Tryz.prog 8 #[u, v] w fun e w' => e = .returned (.bool true) ∧ Below w.heap.size w w' := by
  obtain ⟨a, cap, rfl⟩ := hU.len
  obtain ⟨a', cap', rfl⟩ := hV.len
  go_enter Tryz.func8, Tryz.ntmps8
  go_wp2_with fail
  go_loopw [5] (fun i wr => ∃ k : Nat, k ≤ es.length ∧ i = .int .i64 k ∧ Below w.heap.size w wr) (fun i _ => es.length - (intOf i).toNat)
  case atStart => exact ⟨0, Nat.zero_le _, rfl, Below.refl _ _⟩
  case round =>
    obtain ⟨k, hk, rfl, hbel⟩ := hrel
    by_cases hlt : k < es.length
    · obtain ⟨b, o, c1, hv, hb, hc0, hc1, hc2, hc3, hc4⟩ := (hU.kept hbel).five hlt
      obtain ⟨b', o', c1', hv', hb', hc0', hc1', hc2', hc3', hc4'⟩ := (hV.kept hbel).five hlt
      cases hv
      cases hv'
      generalize es[k] = x at *
      go_wp2_with fail
      go_quiet (fail)
      go_wp2_with fail
      go_roundw
      case rel => exact ⟨k + 1, by omega, by go_num, hbel.trans ((below_draws wr _).mono hbel.size)⟩
      case measure => simp [intOf]; omega
    · obtain rfl : k = es.length := by omega
      go_wp2_with fail
      go_ret
      exact ⟨rfl, hbel⟩
def longE (x : Ent) : Bool := decide (2000 < x.n.size) || (decide (2000 < x.v.size) || (decide (2000 < x.fn.size) || decide (2000 < x.t.size)))
def longB (es : List Ent) : Bool := decide (60 < es.length) || es.any longE
end Go.Proofs.YtafbghlldlconaaGreat

/-
  A ROW OF NODES THAT THE CALL ITSELF BUILDS: the attributes and the children of each in rows of their own.
-/
namespace Go.Proofs.YtafbghlldlconaaGreat
set_option linter.unusedVariables false
set_option linter.unusedSimpArgs false
open Go.RowKit

theorem flat_get {α : Type} {f : α → List Value} {m : Nat} (hf : ∀ x, (f x).length = m) : ∀ (es : List α) (j : Nat) (e : α), es[j]? = some e → ∀ i u, (f e)[i]? = some u → (es.flatMap f)[j * m + i]? = some u
  | [], _, _, h => by simp at h
  | x :: r, 0, e, h => fun i u hu => by
    simp at h; subst h
    have hi : i < m := by rw [← hf x]; exact (List.getElem?_eq_some_iff.1 hu).1
    rw [List.flatMap_cons, List.getElem?_append_left (by rw [hf]; omega), Nat.zero_mul, Nat.zero_add]
    exact hu
  | x :: r, j + 1, e, h => fun i u hu => by
    simp at h
    have := flat_get hf r j e h i u hu
    rw [List.flatMap_cons, List.getElem?_append_right (by rw [hf, Nat.add_mul]; omega), hf, show (j + 1) * m + i - m = j * m + i by rw [Nat.add_mul]; omega]
    exact this
theorem flat_size {α : Type} {f : α → List Value} {m : Nat} (hf : ∀ x, (f x).length = m) (es : List α) : (es.flatMap f).length = es.length * m := by
  induction es with
  | nil => simp
  | cons e r ih => rw [List.flatMap_cons, List.length_append, ih, hf, List.length_cons, Nat.add_mul]; omega
/-- a source, cell by cell -/
theorem flat_src {α : Type} {f : α → List Value} {m : Nat} (hm : 0 < m) (hf : ∀ x, (f x).length = m) {es : List α} {b off : Nat} {W : World} (hc : ∀ j e, es[j]? = some e → ∀ i u, (f e)[i]? = some u → W.cell? ⟨b, off + j * m + i, none⟩ = some u) :
    ∀ j u, (es.flatMap f)[j]? = some u → W.cell? ((⟨b, off, none⟩ : Addr).add j) = some u := by
  intro j u hj
  have hjl : j < es.length * m := by rw [← flat_size hf]; exact (List.getElem?_eq_some_iff.1 hj).1
  have hq : j / m < es.length := Nat.div_lt_of_lt_mul (by rw [Nat.mul_comm]; exact hjl)
  have hr : j % m < m := Nat.mod_lt _ hm
  have hcell := hc (j / m) es[j / m] (List.getElem?_eq_getElem hq) (j % m) ((f es[j / m])[j % m]'(by rw [hf]; omega)) (List.getElem?_eq_getElem _)
  have hg := flat_get hf es (j / m) es[j / m] (List.getElem?_eq_getElem hq) (j % m) ((f es[j / m])[j % m]'(by rw [hf]; omega)) (List.getElem?_eq_getElem _)
  have e5 : j / m * m + j % m = j := by rw [Nat.mul_comm]; exact Nat.div_add_mod j m
  rw [e5, hj] at hg
  cases hg
  rw [addr_add, show off + j = off + j / m * m + j % m by omega]
  exact hcell
/-- an own row's cells -/
theorem own_cell {base : Nat} {T : TypeId} {sz n : Nat} {xs : List Value} {v : Value} {w : World} (h : w.ownsRow base T sz v n xs) (hn : xs ≠ []) : ∃ g cap, v = .slice (some ⟨g, 0, none⟩) n cap ∧ n ≤ cap ∧ base ≤ g ∧ g < w.heap.size ∧ ∀ j u, xs[j]? = some u → w.cell? ⟨g, j, none⟩ = some u := by
  have h0 := h
  obtain ⟨hl, ⟨rfl, h1⟩ | ⟨g, cap, cur, rfl, h2, h3, h4, _⟩⟩ := h
  · rw [h1, Nat.zero_mul] at hl
    exact absurd (List.length_eq_zero_iff.1 hl) hn
  · refine ⟨g, cap, rfl, h4, h2, (Array.getElem?_eq_some_iff.1 h3).1, fun j u hu => ?_⟩
    have := h0.cells (g := g) rfl j u hu
    rwa [addr_add, Nat.zero_add] at this
theorem own_form {base : Nat} {T : TypeId} {sz n : Nat} {xs : List Value} {v : Value} {w : World} (h : w.ownsRow base T sz v n xs) : ∃ a cap, v = .slice a n cap ∧ (a = none → cap = 0) := by
  obtain ⟨_, ⟨rfl, h1⟩ | ⟨g, cap, cur, rfl, _⟩⟩ := h
  · exact ⟨none, 0, by rw [h1], fun _ => rfl⟩
  · exact ⟨_, _, rfl, fun e => by cases e⟩
/-- rows of two types share no block -/
theorem own_ne {b1 b2 : Nat} {T1 T2 : TypeId} {z1 z2 n1 n2 : Nat} {x1 x2 : List Value} {v1 v2 : Value} {w : World} (h1 : w.ownsRow b1 T1 z1 v1 n1 x1) (h2 : w.ownsRow b2 T2 z2 v2 n2 x2) (hT : T1 ≠ T2) : v1.ownBlock = none ∨ v1.ownBlock ≠ v2.ownBlock := by
  obtain ⟨_, ⟨rfl, _⟩ | ⟨g, cap, cur, rfl, _, hg, _⟩⟩ := h1
  · exact .inl rfl
  · obtain ⟨_, ⟨rfl, _⟩ | ⟨g', cap', cur', rfl, _, hg', _⟩⟩ := h2
    · exact .inr (fun e => by cases e)
    · refine .inr (fun e => ?_)
      have e' : g = g' := by simpa [Value.ownBlock] using e
      subst e'
      rw [hg] at hg'
      cases hg'
      exact hT rfl
theorem own_keep {base : Nat} {T : TypeId} {sz n : Nat} {xs : List Value} {v : Value} {w w' : World} (h : w.ownsRow base T sz v n xs) (hb : Below w.heap.size w w') : w'.ownsRow base T sz v n xs := by
  obtain ⟨h1, ⟨rfl, hn⟩ | ⟨g, cap, cur, rfl, h2, h3, h4⟩⟩ := h
  · exact ⟨h1, .inl ⟨rfl, hn⟩⟩
  · refine ⟨h1, .inr ⟨g, cap, cur, rfl, h2, ?_, h4⟩⟩
    rw [hb.block g (Array.getElem?_eq_some_iff.1 h3).1]; exact h3
theorem grown_refl (w : World) (row : Option Nat) : w.grownBy w row := ⟨rfl, rfl, rfl, Nat.le_refl _, fun _ _ _ => rfl⟩
theorem own_below {base : Nat} {T : TypeId} {sz n : Nat} {xs : List Value} {w w' : World} {v : Value} (h : w.ownsRow base T sz v n xs) (hg : w.grownBy w' v.ownBlock) (hb : base ≤ w.heap.size) : Below base w w' :=
  (Below.refl base w).grown hg hb (fun k hk => (h.lt k hk).1)
/-- 'out = append(out, l...)' whatever l's elements are, and where it is nil -/
theorem wpList_append_any {W : World} {ops : Array Oper} {rest : List Oper} {o : Oper} {a : Act} {Q : Exit → Act → World → Prop} (hgd : o.guard = none) (s x : Operand) (S T : TypeId) {z : Value} {size bytes : Nat}
    (ho : o.op = .call { callee := .builtin .append, args := #[s, x], argTypes := #[S, S] }) (hS : Tryz.prog.underlying S = some (.slice T))
    (hinfo : (Tryz.prog.info? T).map (fun i => (i.zero, i.size, i.bytes)) = some (some z, size, bytes)) (hz : z.cells.size = size) (hsz : 0 < size)
    {base n : Nat} {xs : List Value} {v : Value} (hs : a.eval s = v) {ao : Option Addr} {m cap : Nat} {news : List Value} (hx : a.eval x = .slice ao m cap) (hao : ao = none → m = 0 ∧ cap = 0) (hl : news.length = m * size)
    (hnews : ∀ ad, ao = some ad → ∀ j u, news[j]? = some u → W.cell? (ad.add j) = some u) (hu : ∀ u ∈ news, u.oneCell' = true)
    (hown : W.ownsRow base T size v n xs) (hlen : n + m ≤ maxLen) (hby : (n + m) * bytes ≤ 140737488355328) (hbase : base ≤ W.heap.size)
    (h : ∀ v' w', w'.ownsRow base T size v' (n + m) (xs ++ news) → W.grownBy w' v.ownBlock → wpList Tryz.prog ops Q rest (a.put o.dst v') w') : wpList Tryz.prog ops Q (o :: rest) a W := by
  obtain ⟨i0, hi, hz0, hz1, hz2⟩ := info_parts hinfo
  cases ao with
  | none =>
    obtain ⟨rfl, rfl⟩ := hao rfl
    have hn : news = [] := List.length_eq_zero_iff.1 (by rw [hl, Nat.zero_mul])
    subst hn
    refine wpList_append_own_none hgd s x S ho base T i0 size hS hi v n xs hs hown hx (h v W ?_ (grown_refl _ _))
    rw [List.append_nil, Nat.add_zero]
    exact hown
  | some ad =>
    exact wpList_append_own _ hgd s x S ho base T i0 z size bytes hS hi hz0 hz1 hz2 hz hsz v n xs hs hown ad m cap news hx hl (hnews ad rfl) hu hlen hby hbase fun v' w1 h1 h2 _ => h v' w1 h1 h2

/-- the same in a region that draws its order -/
theorem step_append_any {W : World} {ops : Array Oper} {o : Oper} {a : Act} {K : Act → World → Prop} {Q : Exit → Act → World → Prop} {E : Prop} (hgd : o.guard = none) (s x : Operand) (S T : TypeId) {z : Value} {size bytes : Nat}
    (ho : o.op = .call { callee := .builtin .append, args := #[s, x], argTypes := #[S, S] }) (hS : Tryz.prog.underlying S = some (.slice T))
    (hinfo : (Tryz.prog.info? T).map (fun i => (i.zero, i.size, i.bytes)) = some (some z, size, bytes)) (hz : z.cells.size = size) (hsz : 0 < size)
    {base n : Nat} {xs : List Value} {v : Value} (hs : a.eval s = v) {ao : Option Addr} {m cap : Nat} {news : List Value} (hx : a.eval x = .slice ao m cap) (hao : ao = none → m = 0 ∧ cap = 0) (hl : news.length = m * size)
    (hnews : ∀ ad, ao = some ad → ∀ j u, news[j]? = some u → W.cell? (ad.add j) = some u) (hu : ∀ u ∈ news, u.oneCell' = true)
    (hown : W.ownsRow base T size v n xs) (hlen : n + m ≤ maxLen) (hby : (n + m) * bytes ≤ 140737488355328) (hbase : base ≤ W.heap.size)
    (h : ∀ v' w', w'.ownsRow base T size v' (n + m) (xs ++ news) → W.grownBy w' v.ownBlock → K (a.put o.dst v') w') : if Region.wanted o (yielded ops a.tmps) then o.wp Tryz.prog a W K Q else E := by
  have hw : Region.wanted o (yielded ops a.tmps) = true := by simp [Region.wanted, hgd]
  rw [if_pos hw]
  obtain ⟨i0, hi, hz0, hz1, hz2⟩ := info_parts hinfo
  cases ao with
  | none =>
    obtain ⟨rfl, rfl⟩ := hao rfl
    have hn : news = [] := List.length_eq_zero_iff.1 (by rw [hl, Nat.zero_mul])
    subst hn
    have hrun := run_append_owned_none (P := Tryz.prog) (w := W) base S o.type T i0 size hS hi v n xs hown
    unfold Oper.wp
    simp [execOp, ho, resolve, invoke, builtin, hs, hx, hrun, Result.andThen]
    refine h v W ?_ (grown_refl _ _)
    rw [List.append_nil, Nat.add_zero]
    exact hown
  | some ad =>
    exact wp_append_own _ s x S ho base T i0 z size bytes hS hi hz0 hz1 hz2 hz hsz v n xs hs hown ad m cap news hx hl (hnews ad rfl) hu hlen hby hbase fun v' w1 h1 h2 _ => h v' w1 h1 h2

/-! attributes, numbers -/
def attCells (a : At) : List Value := [.string a.n, .string a.v]
theorem attCells_len (a : At) : (attCells a).length = 2 := rfl
def OA (base : Nat) (l : List At) (v : Value) (w : World) : Prop := w.ownsRow base 52 2 v l.length (l.flatMap attCells)
def OI (base : Nat) (l : List Int) (v : Value) (w : World) : Prop := w.ownsRow base 3 1 v l.length (l.map (Value.int .i64))
theorem info_att : (Tryz.prog.info? 52).map (fun i => (i.zero, i.size, i.bytes)) = some (some (.agg #[.string ⟨#[]⟩, .string ⟨#[]⟩]), 2, 32) := by kernel_rfl
theorem info_int : (Tryz.prog.info? 3).map (fun i => (i.zero, i.size, i.bytes)) = some (some (.int .i64 0), 1, 8) := by kernel_rfl
theorem info_node : (Tryz.prog.info? 41).map (fun i => (i.zero, i.size, i.bytes)) = some (some (.agg #[.string ⟨#[]⟩, .string ⟨#[]⟩, .slice none 0 0, .int .i64 0, .slice none 0 0]), 5, 88) := by kernel_rfl
theorem OA.atts {base : Nat} {l : List At} {v : Value} {w : World} (h : OA base l v w) : Atts l v w := by
  by_cases hl : l = []
  · subst hl
    obtain ⟨a, cap, rfl, hc⟩ := own_form h
    exact .inl ⟨rfl, a, cap, rfl, hc⟩
  · obtain ⟨g, cap, rfl, hn, _, hg, hc⟩ := own_cell h (by rw [ne_eq, ← List.length_eq_zero_iff, flat_size attCells_len]; have := List.length_pos_iff.2 hl; omega)
    refine .inr ⟨g, 0, cap, rfl, hn, hg, fun j x hx => ?_⟩
    have h0 := hc _ _ (flat_get attCells_len l j x hx 0 _ rfl)
    have h1 := hc _ _ (flat_get attCells_len l j x hx 1 _ rfl)
    rw [Nat.zero_add]
    exact ⟨h0, h1⟩
theorem OI.nums {base : Nat} {l : List Int} {v : Value} {w : World} (h : OI base l v w) : Nums l v w := by
  by_cases hl : l = []
  · subst hl
    obtain ⟨a, cap, rfl, hc⟩ := own_form h
    exact .inl ⟨rfl, a, cap, rfl, hc⟩
  · obtain ⟨g, cap, rfl, hn, _, hg, hc⟩ := own_cell h (by simpa using hl)
    refine .inr ⟨g, 0, cap, rfl, hn, hg, fun j x hx => ?_⟩
    rw [Nat.zero_add]
    exact hc j _ (by rw [List.getElem?_map, hx]; rfl)
theorem Atts.none_cap {l : List At} {w : World} {ao : Option Addr} {m cap : Nat} (h : Atts l (.slice ao m cap) w) : ao = none → m = 0 ∧ cap = 0 := by
  rintro rfl
  rcases h with ⟨rfl, a, cap', hv, hc⟩ | ⟨b, o, cap', hv, _⟩
  · cases hv; exact ⟨rfl, hc rfl⟩
  · cases hv
theorem Nums.none_cap {l : List Int} {w : World} {ao : Option Addr} {m cap : Nat} (h : Nums l (.slice ao m cap) w) : ao = none → m = 0 ∧ cap = 0 := by
  rintro rfl
  rcases h with ⟨rfl, a, cap', hv, hc⟩ | ⟨b, o, cap', hv, _⟩
  · cases hv; exact ⟨rfl, hc rfl⟩
  · cases hv
theorem Atts.src {l : List At} {w : World} {ad : Addr} {m cap : Nat} (h : Atts l (.slice (some ad) m cap) w) : ∀ j u, (l.flatMap attCells)[j]? = some u → w.cell? (ad.add j) = some u := by
  rcases h with ⟨rfl, _⟩ | ⟨b, o, cap', hv, _, _, hc⟩
  · intro j u hu; simp at hu
  · cases hv
    refine flat_src (m := 2) (by omega) attCells_len (fun j e he i u hu => ?_)
    obtain ⟨c0, c1⟩ := hc j e he
    match i, hu with
    | 0, hu => cases hu; exact c0
    | 1, hu => cases hu; exact c1
theorem Nums.src {l : List Int} {w : World} {ad : Addr} {m cap : Nat} (h : Nums l (.slice (some ad) m cap) w) : ∀ j u, (l.map (Value.int .i64))[j]? = some u → w.cell? (ad.add j) = some u := by
  rcases h with ⟨rfl, _⟩ | ⟨b, o, cap', hv, _, _, hc⟩
  · intro j u hu; simp at hu
  · cases hv
    intro j u hu
    rw [List.getElem?_map] at hu
    cases hx : l[j]? with
    | none => rw [hx] at hu; cases hu
    | some x =>
      rw [hx] at hu
      cases hu
      rw [addr_add]
      exact hc j x hx
/-- 'n.Attrs = append(n.Attrs, l...)' -/
theorem wpList_append_atts {W : World} {ops : Array Oper} {rest : List Oper} {o : Oper} {a : Act} {Q : Exit → Act → World → Prop} (hgd : o.guard = none) (s x : Operand)
    (ho : o.op = .call { callee := .builtin .append, args := #[s, x], argTypes := #[38, 38] })
    {base : Nat} {l l2 : List At} {v : Value} (hs : a.eval s = v) {ao : Option Addr} {m cap : Nat} (hx : a.eval x = .slice ao m cap) (hl2 : Atts l2 (.slice ao m cap) W) (hm : m = l2.length)
    (hown : OA base l v W) (hby : (l.length + l2.length) * 32 ≤ 140737488355328) (hbase : base ≤ W.heap.size)
    (h : ∀ v' w', OA base (l ++ l2) v' w' → W.grownBy w' v.ownBlock → Below base W w' → wpList Tryz.prog ops Q rest (a.put o.dst v') w') : wpList Tryz.prog ops Q (o :: rest) a W := by
  subst hm
  refine wpList_append_any hgd s x 38 52 ho Tryz.underlying38 info_att rfl (by decide) hs hx hl2.none_cap (flat_size attCells_len l2) (fun ad had => ?_) (fun u hu => ?_) hown (by unfold maxLen; omega) hby hbase fun v' w' h1 h2 => h v' w' ?_ h2 (own_below hown h2 hbase)
  · subst had; exact hl2.src
  · obtain ⟨e, _, he⟩ := List.mem_flatMap.1 hu
    simp only [attCells, List.mem_cons, List.not_mem_nil, or_false] at he
    rcases he with rfl | rfl <;> rfl
  · unfold OA
    rw [List.length_append, List.flatMap_append]
    exact h1
theorem step_append_atts {W : World} {ops : Array Oper} {o : Oper} {a : Act} {K : Act → World → Prop} {Q : Exit → Act → World → Prop} {E : Prop} (hgd : o.guard = none) (s x : Operand)
    (ho : o.op = .call { callee := .builtin .append, args := #[s, x], argTypes := #[38, 38] })
    {base : Nat} {l l2 : List At} {v : Value} (hs : a.eval s = v) {ao : Option Addr} {m cap : Nat} (hx : a.eval x = .slice ao m cap) (hl2 : Atts l2 (.slice ao m cap) W) (hm : m = l2.length)
    (hown : OA base l v W) (hby : (l.length + l2.length) * 32 ≤ 140737488355328) (hbase : base ≤ W.heap.size)
    (h : ∀ v' w', OA base (l ++ l2) v' w' → W.grownBy w' v.ownBlock → Below base W w' → K (a.put o.dst v') w') : if Region.wanted o (yielded ops a.tmps) then o.wp Tryz.prog a W K Q else E := by
  subst hm
  refine step_append_any hgd s x 38 52 ho Tryz.underlying38 info_att rfl (by decide) hs hx hl2.none_cap (flat_size attCells_len l2) (fun ad had => ?_) (fun u hu => ?_) hown (by unfold maxLen; omega) hby hbase fun v' w' h1 h2 => h v' w' ?_ h2 (own_below hown h2 hbase)
  · subst had; exact hl2.src
  · obtain ⟨e, _, he⟩ := List.mem_flatMap.1 hu
    simp only [attCells, List.mem_cons, List.not_mem_nil, or_false] at he
    rcases he with rfl | rfl <;> rfl
  · unfold OA
    rw [List.length_append, List.flatMap_append]
    exact h1
theorem wpList_append_nums {W : World} {ops : Array Oper} {rest : List Oper} {o : Oper} {a : Act} {Q : Exit → Act → World → Prop} (hgd : o.guard = none) (s x : Operand)
    (ho : o.op = .call { callee := .builtin .append, args := #[s, x], argTypes := #[39, 39] })
    {base : Nat} {l l2 : List Int} {v : Value} (hs : a.eval s = v) {ao : Option Addr} {m cap : Nat} (hx : a.eval x = .slice ao m cap) (hl2 : Nums l2 (.slice ao m cap) W) (hm : m = l2.length)
    (hown : OI base l v W) (hby : (l.length + l2.length) * 8 ≤ 140737488355328) (hbase : base ≤ W.heap.size)
    (h : ∀ v' w', OI base (l ++ l2) v' w' → W.grownBy w' v.ownBlock → Below base W w' → wpList Tryz.prog ops Q rest (a.put o.dst v') w') : wpList Tryz.prog ops Q (o :: rest) a W := by
  subst hm
  refine wpList_append_any hgd s x 39 3 ho Tryz.underlying39 info_int rfl (by decide) (news := l2.map (Value.int .i64)) hs hx hl2.none_cap (by simp) (fun ad had => ?_) (fun u hu => ?_) hown (by unfold maxLen; omega) hby hbase fun v' w' h1 h2 => h v' w' ?_ h2 (own_below hown h2 hbase)
  · subst had; exact hl2.src
  · obtain ⟨e, _, rfl⟩ := List.mem_map.1 hu
    rfl
  · unfold OI
    rw [List.length_append, List.map_append]
    exact h1

theorem step_append_nums {W : World} {ops : Array Oper} {o : Oper} {a : Act} {K : Act → World → Prop} {Q : Exit → Act → World → Prop} {E : Prop} (hgd : o.guard = none) (s x : Operand)
    (ho : o.op = .call { callee := .builtin .append, args := #[s, x], argTypes := #[39, 39] })
    {base : Nat} {l l2 : List Int} {v : Value} (hs : a.eval s = v) {ao : Option Addr} {m cap : Nat} (hx : a.eval x = .slice ao m cap) (hl2 : Nums l2 (.slice ao m cap) W) (hm : m = l2.length)
    (hown : OI base l v W) (hby : (l.length + l2.length) * 8 ≤ 140737488355328) (hbase : base ≤ W.heap.size)
    (h : ∀ v' w', OI base (l ++ l2) v' w' → W.grownBy w' v.ownBlock → Below base W w' → K (a.put o.dst v') w') : if Region.wanted o (yielded ops a.tmps) then o.wp Tryz.prog a W K Q else E := by
  subst hm
  refine step_append_any hgd s x 39 3 ho Tryz.underlying39 info_int rfl (by decide) (news := l2.map (Value.int .i64)) hs hx hl2.none_cap (by simp) (fun ad had => ?_) (fun u hu => ?_) hown (by unfold maxLen; omega) hby hbase fun v' w' h1 h2 => h v' w' ?_ h2 (own_below hown h2 hbase)
  · subst had; exact hl2.src
  · obtain ⟨e, _, rfl⟩ := List.mem_map.1 hu
    rfl
  · unfold OI
    rw [List.length_append, List.map_append]
    exact h1

/-! nodes: each with the values of its two rows -/
abbrev NdT := Nd × Value × Value
def ndCells (t : NdT) : List Value := [.string t.1.nm, .string t.1.tx, t.2.1, .int .i64 t.1.pa, t.2.2]
theorem ndCells_len (t : NdT) : (ndCells t).length = 5 := rfl
structure ON (base : Nat) (L : List NdT) (v : Value) (w : World) : Prop where
  row : w.ownsRow base 41 5 v L.length (L.flatMap ndCells)
  at' : ∀ t ∈ L, OA base t.1.ats t.2.1 w
  ki' : ∀ t ∈ L, OI base t.1.ks t.2.2 w
theorem ON.nil (base : Nat) (w : World) : ON base [] (.slice none 0 0) w := ⟨World.ownsRow_nil w base _ _, by simp, by simp⟩
theorem ON.kept {base : Nat} {L : List NdT} {v : Value} {w w' : World} (h : ON base L v w) (hb : Below w.heap.size w w') : ON base L v w' :=
  ⟨own_keep h.row hb, fun t ht => own_keep (h.at' t ht) hb, fun t ht => own_keep (h.ki' t ht) hb⟩
theorem ON.nodes {base : Nat} {L : List NdT} {v : Value} {w : World} (h : ON base L v w) : Nodes (L.map (·.1)) v w := by
  by_cases hl : L = []
  · subst hl
    obtain ⟨a, cap, rfl, hc⟩ := own_form h.row
    exact .inl ⟨rfl, a, cap, rfl, hc⟩
  · obtain ⟨g, cap, rfl, hn, _, hg, hc⟩ := own_cell h.row (by rw [ne_eq, ← List.length_eq_zero_iff, flat_size ndCells_len]; have := List.length_pos_iff.2 hl; omega)
    refine .inr ⟨g, 0, cap, by rw [List.length_map], by rw [List.length_map]; exact hn, hg, fun j x hx => ?_⟩
    rw [List.getElem?_map] at hx
    cases ht : L[j]? with
    | none => rw [ht] at hx; cases hx
    | some t =>
      rw [ht] at hx
      cases hx
      have hm := List.mem_of_getElem? ht
      have f := fun i u hu => hc _ _ (flat_get ndCells_len L j t ht i u hu)
      rw [Nat.zero_add]
      exact ⟨t.2.1, t.2.2, f 0 _ rfl, f 1 _ rfl, f 2 _ rfl, f 3 _ rfl, f 4 _ rfl, (h.at' t hm).atts, (h.ki' t hm).nums⟩
/-- 'out = append(out, n)': the node lies in a block of its own, laid just ahead -/
theorem wpList_append_node {W : World} {ops : Array Oper} {rest : List Oper} {o : Oper} {a : Act} {Q : Exit → Act → World → Prop} (hgd : o.guard = none) (s x : Operand)
    (ho : o.op = .call { callee := .builtin .append, args := #[s, x], argTypes := #[22, 22] })
    {base : Nat} {L : List NdT} {v : Value} (hs : a.eval s = v) (hx : a.eval x = .slice (some ⟨W.heap.size, 0, none⟩) 1 1) (y : Nd) (va vk : Value)
    (hown : ON base L v W) (hA : OA base y.ats va W) (hK : OI base y.ks vk W) (hby : (L.length + 1) * 88 ≤ 140737488355328) (hbase : base ≤ W.heap.size)
    (h : ∀ v' w', ON base (L ++ [(y, va, vk)]) v' w' → Below base W w' → wpList Tryz.prog ops Q rest (a.put o.dst v') w') : wpList Tryz.prog ops Q (o :: rest) a (W.alloc (.cells #[.string y.nm, .string y.tx, va, .int .i64 y.pa, vk] 41)) := by
  have hR := World.ownsRow.alloc hown.row (.cells #[.string y.nm, .string y.tx, va, .int .i64 y.pa, vk] 41)
  have hn := Go.heap_alloc_new W (.cells #[.string y.nm, .string y.tx, va, .int .i64 y.pa, vk] 41)
  refine wpList_append_any hgd s x 22 41 ho Tryz.underlying22 info_node rfl (by decide) hs hx (fun e => by cases e) (news := ndCells (y, va, vk)) rfl (fun ad had j u hj => ?_) (fun u hu => ?_) hR (by unfold maxLen; omega) hby (by simp; omega) fun v' w' h1 h2 => h v' w' ⟨?_, fun t ht => ?_, fun t ht => ?_⟩ (((Below.refl base W).alloc hbase _).trans (own_below hR h2 (by simp; omega)))
  · cases had
    rw [addr_add, Nat.zero_add]
    simp only [World.cell?, hn]
    simpa [ndCells] using hj
  · obtain ⟨a1, c1, rfl, _⟩ := own_form hA
    obtain ⟨a2, c2, rfl, _⟩ := own_form hK
    simp only [ndCells, List.mem_cons, List.not_mem_nil, or_false] at hu
    rcases hu with rfl | rfl | rfl | rfl | rfl <;> rfl
  · rw [List.length_append, List.flatMap_append, List.flatMap_cons, List.flatMap_nil, List.append_nil]
    exact h1
  · have key : ∀ {q : NdT}, OA base q.1.ats q.2.1 W → OA base q.1.ats q.2.1 w' := fun hq => by
      have hq' := World.ownsRow.alloc hq (.cells #[.string y.nm, .string y.tx, va, .int .i64 y.pa, vk] 41)
      exact World.ownsRow.kept hq' h2 (own_ne hq' hR (by decide))
    rcases List.mem_append.1 ht with ht | ht
    · exact key (hown.at' t ht)
    · obtain rfl := List.mem_singleton.1 ht
      exact key hA
  · have key : ∀ {q : NdT}, OI base q.1.ks q.2.2 W → OI base q.1.ks q.2.2 w' := fun hq => by
      have hq' := World.ownsRow.alloc hq (.cells #[.string y.nm, .string y.tx, va, .int .i64 y.pa, vk] 41)
      exact World.ownsRow.kept hq' h2 (own_ne hq' hR (by decide))
    rcases List.mem_append.1 ht with ht | ht
    · exact key (hown.ki' t ht)
    · obtain rfl := List.mem_singleton.1 ht
      exact key hK
theorem grown_set {w : World} {g i : Nat} (u : Value) : w.grownBy (w.setCell ⟨g, i, none⟩ u) (some g) := by
  refine ⟨rfl, rfl, rfl, by simp [World.setCell], fun k hk hne => ?_⟩
  simp only [World.setCell, Array.getElem?_modify]
  rw [if_neg (fun e => hne (by rw [e]))]
/-- a store into a block of another type -/
theorem own_set {base : Nat} {T T2 : TypeId} {sz n : Nat} {xs : List Value} {v u : Value} {w : World} {g i : Nat} {cur : Array Value} (h : w.ownsRow base T sz v n xs) (hg : w.heap[g]? = some (.cells cur T2 (0, 0))) (hT : T ≠ T2) : (w.setCell ⟨g, i, none⟩ u).ownsRow base T sz v n xs := by
  refine World.ownsRow.kept h (grown_set u) ?_
  obtain ⟨_, ⟨rfl, _⟩ | ⟨g', cap, cur', rfl, _, hg', _⟩⟩ := h
  · exact .inl rfl
  · refine .inr (fun e => ?_)
    have e' : g' = g := by simpa [Value.ownBlock] using e
    subst e'
    rw [hg] at hg'
    cases hg'
    exact hT rfl
end Go.Proofs.YtafbghlldlconaaGreat

/-
  DOCUMENTS THAT CAME IN: what the row's reach says of their sizes.
-/
namespace Go.Proofs.YtafbghlldlconaaGreat
set_option linter.unusedVariables false
set_option linter.unusedSimpArgs false
open Go.RowKit

/-- what the row's reach says of a document -/
structure Sized (l : List Nd) : Prop where
  len : l.length * 88 ≤ 140737488351232
  at' : ∀ x ∈ l, x.ats.length * 32 ≤ 140737488351232
  ki' : ∀ x ∈ l, x.ks.length * 8 ≤ 140737488351232
/-- a document that came in -/
structure Came (l : List Nd) (v : Value) (w : World) : Prop where
  nodes : Nodes l v w
  fits : ∀ x ∈ l, Fits x
  sized : Sized l
theorem Came.len {l : List Nd} {v : Value} {w : World} (h : Came l v w) : l.length ≤ 1000000000000000000 := by
  have := h.sized.len
  omega
theorem Came.kept {l : List Nd} {v : Value} {w w' : World} (h : Came l v w) (hb : Below w.heap.size w w') : Came l v w' := ⟨h.nodes.kept hb, h.fits, h.sized⟩
end Go.Proofs.YtafbghlldlconaaGreat

/-
  A DOCUMENT OF ITS OWN: ref10.Copied: the walk.
-/
namespace Go.Proofs.YtafbghlldlconaaGreat
set_option linter.unusedVariables false
set_option linter.unusedSimpArgs false
open Go.RowKit

theorem cpS_kept {b o : Nat} {c0 c1 c2 : Value} {w1 W W' : World} (h : W.cell? ⟨b, o, none⟩ = some c0 ∧ W.cell? ⟨b, o + 1, none⟩ = some c1 ∧ W.cell? ⟨b, o + 3, none⟩ = some c2 ∧ b < w1.heap.size ∧ Below w1.heap.size w1 W) (hb : Below W.heap.size W W') :
    W'.cell? ⟨b, o, none⟩ = some c0 ∧ W'.cell? ⟨b, o + 1, none⟩ = some c1 ∧ W'.cell? ⟨b, o + 3, none⟩ = some c2 ∧ b < w1.heap.size ∧ Below w1.heap.size w1 W' := by
  obtain ⟨h0, h1, h2, he, hbe⟩ := h
  have hs := hbe.size
  exact ⟨cellK hb (by omega) h0, cellK hb (by omega) h1, cellK hb (by omega) h2, he, hbe.trans (hb.mono hs)⟩
theorem cpS_drew {b o : Nat} {c0 c1 c2 : Value} {w1 W : World} (h : W.cell? ⟨b, o, none⟩ = some c0 ∧ W.cell? ⟨b, o + 1, none⟩ = some c1 ∧ W.cell? ⟨b, o + 3, none⟩ = some c2 ∧ b < w1.heap.size ∧ Below w1.heap.size w1 W) :
    W.drew.cell? ⟨b, o, none⟩ = some c0 ∧ W.drew.cell? ⟨b, o + 1, none⟩ = some c1 ∧ W.drew.cell? ⟨b, o + 3, none⟩ = some c2 ∧ b < w1.heap.size ∧ Below w1.heap.size w1 W.drew :=
  cpS_kept h ⟨rfl, rfl, rfl, Nat.le_refl _, fun _ _ => rfl⟩
theorem cpS_alloc {b o : Nat} {c0 c1 c2 : Value} {w1 W : World} (ob : Obj) (h : W.cell? ⟨b, o, none⟩ = some c0 ∧ W.cell? ⟨b, o + 1, none⟩ = some c1 ∧ W.cell? ⟨b, o + 3, none⟩ = some c2 ∧ b < w1.heap.size ∧ Below w1.heap.size w1 W) :
    (W.alloc ob).cell? ⟨b, o, none⟩ = some c0 ∧ (W.alloc ob).cell? ⟨b, o + 1, none⟩ = some c1 ∧ (W.alloc ob).cell? ⟨b, o + 3, none⟩ = some c2 ∧ b < w1.heap.size ∧ Below w1.heap.size w1 (W.alloc ob) :=
  cpS_kept h ((Below.refl W.heap.size W).alloc (Nat.le_refl _) ob)
theorem cpS_at {b o : Nat} {c0 c1 c2 : Value} {w1 W W' : World} (h : W.cell? ⟨b, o, none⟩ = some c0 ∧ W.cell? ⟨b, o + 1, none⟩ = some c1 ∧ W.cell? ⟨b, o + 3, none⟩ = some c2 ∧ b < w1.heap.size ∧ Below w1.heap.size w1 W) (hb : Below w1.heap.size W W') :
    W'.cell? ⟨b, o, none⟩ = some c0 ∧ W'.cell? ⟨b, o + 1, none⟩ = some c1 ∧ W'.cell? ⟨b, o + 3, none⟩ = some c2 ∧ b < w1.heap.size ∧ Below w1.heap.size w1 W' := by
  obtain ⟨h0, h1, h2, he, hbe⟩ := h
  exact ⟨cellK hb he h0, cellK hb he h1, cellK hb he h2, he, hbe.trans hb⟩
/-- a world that has no name gets one -/
theorem name_world {W : World} {g : Nat} {o : Obj} (_h : W.heap[g]? = some o) : ∃ W' : World, W' = W := ⟨W, rfl⟩
theorem grown_none {W w' : World} (h : W.grownBy w' none) : Below W.heap.size W w' := (Below.refl _ W).grown h (Nat.le_refl _) (fun k hk => by cases hk)
set_option maxHeartbeats 4000000 in
set_option maxRecDepth 100000 in
theorem copied_any (l : List Nd) (v : Value) (w : World) (hZ : Sized l) (hU : Nodes l v w) :
    Calls Tryz.prog 16 #[v] w fun e w' => ∃ L vo, e = .returned vo ∧ Hid (L.map (·.1) = l) ∧ ON w.heap.size L vo w' ∧ Below w.heap.size w w' := by
  obtain ⟨a, cap, rfl⟩ := hU.len
  have hll := hZ.len
  go_enter Tryz.func16, Tryz.ntmps16
  go_wp2_with fail
  go_loopw [3, 4] (fun vo i wr => ∃ k L, k ≤ l.length ∧ i = .int .i64 (k : Nat) ∧ Hid (L.map (·.1) = l.take k) ∧ ON w.heap.size L vo wr ∧ Below w.heap.size w wr) (fun _ i _ => l.length - (intOf i).toNat)
  case atStart => exact ⟨0, [], Nat.zero_le _, rfl, Lib.hid rfl, ON.nil _ _, Below.refl _ _⟩
  case round =>
    obtain ⟨k, L, hk, rfl, hL, hON, hbel⟩ := hrel
    have hsz := hbel.size
    by_cases hlt : k < l.length
    · have hUr := hU.kept hbel
      obtain ⟨b, o, cap', va, vk, hv, hb, c0, c1, c2, c3, c4, hat, hks⟩ := hUr.at hlt
      cases hv
      have hza := hZ.at' _ (List.getElem_mem hlt)
      have hzk := hZ.ki' _ (List.getElem_mem hlt)
      have hLk := Lib.hid (show L.map (·.1) ++ [l[k]] = l.take (k + 1) by rw [hL.out, List.take_succ_eq_append_getElem hlt])
      have hLl := Lib.hid (show L.length = k by have := congrArg List.length hL.out; rw [List.length_map, List.length_take] at this; omega)
      generalize l[k] = x at *
      have hk0 : (0 : Int) ≤ (k : Int) := by omega
      have hk1 : (k : Int) < (l.length : Int) := by omega
      have hS1 := And.intro c0 (And.intro c1 (And.intro c3 (And.intro hb (Below.refl wr.heap.size wr))))
      obtain ⟨a1, cap1, rfl⟩ := hat.len
      obtain ⟨a2, cap2, rfl⟩ := hks.len
      go_upto_region 5 with fail
      go_cut [5] (fun s5 wx => ∃ g, s5 = .pointer (some ⟨g, 0, none⟩) ∧ wx.heap[g]? = some (.cells #[.string x.nm, .string x.tx, .slice none 0 0, .int .i64 x.pa, .slice none 0 0] 41 (0, 0)) ∧ wr.heap.size ≤ g ∧ Below wr.heap.size wr wx)
      case first =>
        go_region_held3 (fun W => W.cell? ⟨b, o + k * 5, none⟩ = some (.string x.nm) ∧ W.cell? ⟨b, o + k * 5 + 1, none⟩ = some (.string x.tx) ∧ W.cell? ⟨b, o + k * 5 + 3, none⟩ = some (.int .i64 x.pa) ∧ b < wr.heap.size ∧ Below wr.heap.size wr W) (with_reducible first | assumption | exact cpS_drew (by assumption) | exact cpS_alloc _ (by assumption) | exact cpS_drew (cpS_alloc _ hS1) | exact cpS_alloc _ (cpS_drew hS1) | exact cpS_kept (by assumption) (by assumption) | exact cpS_at (by assumption) (below_re _ _ _ (by assumption)) | exact cpS_at (by assumption) (set5_below _ _ _ _ _ _ _ (by first | assumption | exact Nat.le_refl _))) ((first
          | fail))
        all_goals
          go_wp2_with fail
          go_meet
          exact ⟨_, rfl, Go.heap_alloc_new _ _, Nat.le_refl _, (by assumption : _ ∧ _ ∧ _ ∧ _ ∧ _).2.2.2.2⟩
      case rest =>
        obtain ⟨g, rfl, hg, hgw, hb1⟩ := hcut
        obtain ⟨W1, rfl⟩ := name_world hg
        have hgs := (Array.getElem?_eq_some_iff.1 hg).1
        have hs1 := hb1.size
        obtain ⟨x0, x1, x2, x3, x4, f0, f1, f2, f3, f4⟩ := five_of hg
        have d2 := cellK hb1 hb c2
        have d4 := cellK hb1 hb c4
        have hat1 := hat.kept hb1
        have hks1 := hks.kept hb1
        have hON1 := hON.kept hb1
        have hsb : w.heap.size ≤ W1.heap.size := by omega
        have hby1 : (([] : List At).length + x.ats.length) * 32 ≤ 140737488355328 := by rw [List.length_nil]; omega
        go_upto_region 6 with fail
        go_cut [] (fun wy => ∃ aq capq, wy.heap[g]? = some (.cells #[.string x.nm, .string x.tx, .slice aq x.ats.length capq, .int .i64 x.pa, .slice none 0 0] 41 (0, 0)) ∧ OA w.heap.size x.ats (.slice aq x.ats.length capq) wy ∧ Below wr.heap.size wr wy)
        case first =>
          first | go_region_law ((first
            | (refine step_append_atts (W := W1.drew) (base := w.heap.size) (l := []) rfl _ _ rfl rfl rfl hat1 rfl (World.ownsRow_nil _ _ _ _) hby1 hsb ?_; intro v' w3 hA3 hg3 _; obtain ⟨aq, capq, rfl, _⟩ := own_form hA3; have hb3 : Below W1.heap.size W1 w3 := ((Below.refl _ W1).drew).trans (grown_none hg3); have zz := blk_kept hb3 hg; obtain ⟨_, _, _, _, _, _, _, _, _, _⟩ := five_of zz))) | fail
          all_goals
            go_wp2_with fail
            go_meet
            exact ⟨aq, capq, setCell_heap (i := 2) _ zz, own_set hA3 zz (by decide), (hb1.trans (hb3.mono hs1)).setCell hgw _⟩
        case rest =>
          obtain ⟨aq, capq, hg2, hA2, hb2⟩ := hcut
          obtain ⟨W2, rfl⟩ := name_world hg2
          have hgs2 := (Array.getElem?_eq_some_iff.1 hg2).1
          have hs2 := hb2.size
          clear x0 x1 x2 x3 x4 f0 f1 f2 f3 f4 d2 d4 hat1 hks1 hON1 hg hs1
          obtain ⟨x0, x1, x2, x3, x4, f0, f1, f2, f3, f4⟩ := five_of hg2
          have d4 := cellK hb2 hb c4
          have hks2 := hks.kept hb2
          have hsb2 : w.heap.size ≤ W2.heap.size := by omega
          have hby2 : (([] : List Int).length + x.ks.length) * 8 ≤ 140737488355328 := by rw [List.length_nil]; omega
          go_upto_region 7 with fail
          go_cut [] (fun wy => ∃ aq' capq', wy.heap[g]? = some (.cells #[.string x.nm, .string x.tx, .slice aq x.ats.length capq, .int .i64 x.pa, .slice aq' x.ks.length capq'] 41 (0, 0)) ∧ OA w.heap.size x.ats (.slice aq x.ats.length capq) wy ∧ OI w.heap.size x.ks (.slice aq' x.ks.length capq') wy ∧ Below wr.heap.size wr wy)
          case first =>
            first | go_region_law ((first
              | (refine step_append_nums (W := W2.drew) (base := w.heap.size) (l := []) rfl _ _ rfl rfl rfl hks2 rfl (World.ownsRow_nil _ _ _ _) hby2 hsb2 ?_; intro v' w3 hI3 hg3 _; obtain ⟨ap, capp, rfl, _⟩ := own_form hI3; have hb3 : Below W2.heap.size W2 w3 := ((Below.refl _ W2).drew).trans (grown_none hg3); have hA3 := own_keep hA2 hb3; have zz := blk_kept hb3 hg2; obtain ⟨_, _, _, _, _, _, _, _, _, _⟩ := five_of zz))) | fail
            all_goals
              go_wp2_with fail
              go_meet
              exact ⟨ap, capp, setCell_heap (i := 4) _ zz, own_set hA3 zz (by decide), own_set hI3 zz (by decide), (hb2.trans (hb3.mono hs2)).setCell hgw _⟩
          case rest =>
            obtain ⟨ap, capp, hg3, hA3, hI3, hb3⟩ := hcut
            obtain ⟨W3, rfl⟩ := name_world hg3
            have hs3 := hb3.size
            clear x0 x1 x2 x3 x4 f0 f1 f2 f3 f4 d4 hks2 hA2 hb2
            obtain ⟨x0, x1, x2, x3, x4, f0, f1, f2, f3, f4⟩ := five_of hg3
            have hON3 := hON.kept hb3
            have hby3 : (L.length + 1) * 88 ≤ 140737488355328 := by rw [hLl.out]; omega
            have hsb3 : w.heap.size ≤ W3.heap.size := by omega
            clear f0 f1 f2 f3 f4 c0 c1 c2 c3 c4 hat hks
            go_wp2_with (at_builtin; refine wpList_append_node rfl _ _ rfl rfl rfl x _ _ hON3 hA3 hI3 hby3 hsb3 ?_; intro v5 w5 hON5 hb5)
            go_roundw
            case rel => exact ⟨k + 1, L ++ [(x, _, _)], by omega, by go_num, Lib.hid (by rw [List.map_append, ← hLk.out]; rfl), hON5, (hbel.trans (hb3.mono hsz)).trans hb5⟩
            case measure => simp [intOf]; omega
    · obtain rfl : k = l.length := by omega
      have hR := Lib.hid (show L.map (·.1) = l by rw [hL.out, List.take_of_length_le (Nat.le_refl _)])
      go_wp2_with fail
      go_ret
      exact ⟨L, _, rfl, hR, hON, hbel⟩
/-- what the copy reads -/
theorem copied_nodes (l : List Nd) (v : Value) (w : World) (hC : Came l v w) :
    Calls Tryz.prog 16 #[v] w fun e w' => ∃ vo, e = .returned vo ∧ Came l vo w' ∧ Below w.heap.size w w' :=
  (copied_any l v w hC.sized hC.nodes).mono fun _ _ ⟨L, vo, he, hL, hON, hb⟩ => ⟨vo, he, ⟨by have := hON.nodes; rwa [hL.out] at this, hC.fits, hC.sized⟩, hb⟩
end Go.Proofs.YtafbghlldlconaaGreat
