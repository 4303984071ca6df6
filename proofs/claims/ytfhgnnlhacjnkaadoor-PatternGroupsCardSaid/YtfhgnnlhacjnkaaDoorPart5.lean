import Derived.Test.YtfhgnnlhacjnkaaDoorPart3
import Derived.Deep.OwnRows
import Derived.Test.YtfhgnnlhacjnkaaDoorPart4
import Derived.Laws.Runes
import Derived.Deep.QuietTactic
import Derived.StillTactics
import Derived.StillTailTactics
/-
  A SLICE OF ONE-CELL ELEMENTS (texts, numbers, pointers) THAT THE CALL ITSELF BUILDS, told by its list of cells.
-/
namespace Go.Proofs.YtfhgnnlhacjnkaaDoor
set_option linter.unusedVariables false
set_option linter.unusedSimpArgs false
open Go.RowKit

/-- the value v is a slice of one-cell elements of type T that holds xs, made since 'base' blocks lay -/
def OV (base : Nat) (T : TypeId) (xs : List Value) (v : Value) (w : World) : Prop := w.ownsRow base T 1 v xs.length xs
theorem OV.nil (base : Nat) (T : TypeId) (w : World) : OV base T [] (.slice none 0 0) w := World.ownsRow_nil w base _ _
theorem OV.alloc {base : Nat} {T : TypeId} {l : List Value} {v : Value} {w : World} (h : OV base T l v w) (o : Obj) : OV base T l v (w.alloc o) := World.ownsRow.alloc h o
theorem OV.form {base : Nat} {T : TypeId} {l : List Value} {v : Value} {w : World} (h : OV base T l v w) : ∃ a cap, v = .slice a l.length cap ∧ (a = none → l = []) := by
  obtain ⟨_, ⟨rfl, hn⟩ | ⟨g, cap, cur, rfl, _⟩⟩ := h
  · exact ⟨none, 0, by rw [hn], fun _ => List.length_eq_zero_iff.1 hn⟩
  · exact ⟨_, _, rfl, fun h => by cases h⟩
theorem OV.kept {base : Nat} {T : TypeId} {l : List Value} {v : Value} {w w' : World} (h : OV base T l v w) (hb : Below w.heap.size w w') : OV base T l v w' := by
  obtain ⟨h1, ⟨rfl, hn⟩ | ⟨g, cap, cur, rfl, h2, h3, h4⟩⟩ := h
  · exact ⟨h1, .inl ⟨rfl, hn⟩⟩
  · refine ⟨h1, .inr ⟨g, cap, cur, rfl, h2, ?_, h4⟩⟩
    have hlt : g < w.heap.size := by
      rcases Nat.lt_or_ge g w.heap.size with h | h
      · exact h
      · rw [Array.getElem?_eq_none h] at h3; cases h3
    rw [hb.block g hlt]; exact h3
theorem OV.cell {base : Nat} {T : TypeId} {l : List Value} {a : Addr} {n cap : Nat} {w : World} (h : OV base T l (.slice (some a) n cap) w) : ∀ j u, l[j]? = some u → w.cell? (a.add j) = some u := by
  intro j u hu
  obtain ⟨_, ⟨h1, hn⟩ | ⟨g, cap', cur, h1, h2, h3, h4, h5, h6, h7⟩⟩ := h
  · cases h1
  · cases h1
    have hj : j < l.length := (List.getElem?_eq_some_iff.1 hu).1
    rw [addr_add, Nat.zero_add]
    simp only [World.cell?, h3]
    rw [← h7, List.getElem?_take_of_lt (by omega)] at hu
    simpa using hu
theorem OV.at {base : Nat} {T : TypeId} {l : List Value} {v : Value} {w : World} (h : OV base T l v w) (hn : l ≠ []) : ∃ g cap, v = .slice (some ⟨g, 0, none⟩) l.length cap ∧ base ≤ g ∧ ∀ j u, l[j]? = some u → w.cell? ⟨g, j, none⟩ = some u := by
  have h0 := h
  obtain ⟨_, ⟨rfl, h1⟩ | ⟨g, cap, cur, rfl, h2, _⟩⟩ := h
  · exact absurd (List.length_eq_zero_iff.1 h1) hn
  · refine ⟨g, cap, rfl, h2, fun j u hu => ?_⟩
    have := h0.cell j u hu
    rwa [addr_add, Nat.zero_add] at this
theorem ov_below {base : Nat} {T : TypeId} {l : List Value} {w w' : World} {v : Value} (h : OV base T l v w) (hg : w.grownBy w' v.ownBlock) (hb : base ≤ w.heap.size) : Below base w w' :=
  (Below.refl base w).grown hg hb (fun k hk => (h.lt k hk).1)

/-- 'out = append(out, u)': the element lies in a block of its own, laid just ahead -/
theorem wpList_append_cell {W : World} {ops : Array Oper} {rest : List Oper} {o : Oper} {a : Act} {Q : Exit → Act → World → Prop} (hgd : o.guard = none) (s x : Operand) (S T : TypeId) {z : Value} {bytes : Nat}
    (ho : o.op = .call { callee := .builtin .append, args := #[s, x], argTypes := #[S, S] }) (hS : Tryd.prog.underlying S = some (.slice T))
    (hinfo : (Tryd.prog.info? T).map (fun i => (i.zero, i.size, i.bytes)) = some (some z, 1, bytes)) (hz : z.cells.size = 1) (hby : bytes ≤ 4096)
    {base : Nat} {l : List Value} {v : Value} (hs : a.eval s = v) (hx : a.eval x = .slice (some ⟨W.heap.size, 0, none⟩) 1 1) (u : Value) (hu : u.oneCell' = true)
    (hown : OV base T l v W) (hlen : l.length < 17179869184) (hbase : base ≤ W.heap.size)
    (h : ∀ v' w', OV base T (l ++ [u]) v' w' → Below base W w' → wpList Tryd.prog ops Q rest (a.put o.dst v') w') : wpList Tryd.prog ops Q (o :: rest) a (W.alloc (.cells #[u] T)) := by
  obtain ⟨i0, hi, hz0, hz1, hz2⟩ := info_parts hinfo
  refine wpList_append_own _ hgd s x S ho base T i0 z 1 bytes hS hi hz0 hz1 hz2 hz (by decide) v l.length l hs (World.ownsRow.alloc hown _) ⟨W.heap.size, 0, none⟩ 1 1 [u] hx rfl ?_ ?_ ?_ ?_ ?_ ?_
  · intro j y hj
    match j, hj with
    | 0, hj => simp at hj; subst hj; simp [addr_add]
  · intro y hy; simp at hy; subst hy; exact hu
  · unfold maxLen; omega
  · have : (l.length + 1) * bytes ≤ (l.length + 1) * 4096 := Nat.mul_le_mul_left _ hby
    omega
  · simp; omega
  · intro v' w1 h1 h2 _
    refine h v' w1 ?_ (((Below.refl base W).alloc hbase _).trans (ov_below (World.ownsRow.alloc hown _) h2 (by simp; omega)))
    unfold OV
    rw [List.length_append]
    exact h1
end Go.Proofs.YtfhgnnlhacjnkaaDoor

/-
  SIGNS AND PLACES in the memory (chapter 09): rows of numbers, rows of marks: how they read, how marks are set.
-/
namespace Go.Proofs.YtfhgnnlhacjnkaaDoor
set_option linter.unusedVariables false
set_option linter.unusedSimpArgs false
open Go.RowKit PT

/-- a slice of signs, each told as a number of kind k -/
def Sg (k : IntKind) (l : List Nat) (v : Value) (w : World) : Prop :=
  (l = [] ∧ ∃ a cap, v = .slice a 0 cap) ∨ ∃ b o cap, v = .slice (some ⟨b, o, none⟩) l.length cap ∧ b < w.heap.size ∧ ∀ (j x : Nat), l[j]? = some x → w.cell? ⟨b, o + j, none⟩ = some (.int k (x : Int))
theorem Sg.kept {k : IntKind} {l : List Nat} {v : Value} {w w' : World} (h : Sg k l v w) (hb : Below w.heap.size w w') : Sg k l v w' := by
  rcases h with h | ⟨b, o, cap, rfl, h1, h4⟩
  · exact .inl h
  · exact .inr ⟨b, o, cap, rfl, by have := hb.size; omega, fun j e he => cellK hb h1 (h4 j e he)⟩
theorem Sg.len {k : IntKind} {l : List Nat} {v : Value} {w : World} (h : Sg k l v w) : ∃ a cap, v = .slice a l.length cap := by
  rcases h with ⟨rfl, a, cap, rfl⟩ | ⟨b, o, cap, rfl, _⟩ <;> exact ⟨_, _, rfl⟩
theorem Sg.at {k : IntKind} {l : List Nat} {v : Value} {w : World} (h : Sg k l v w) (hn : 0 < l.length) : ∃ b o cap, v = .slice (some ⟨b, o, none⟩) l.length cap ∧ b < w.heap.size ∧ ∀ j (hj : j < l.length), w.cell? ⟨b, o + j, none⟩ = some (.int k (l[j] : Int)) := by
  rcases h with ⟨rfl, _⟩ | ⟨b, o, cap, rfl, h1, h4⟩
  · simp at hn
  · exact ⟨b, o, cap, rfl, h1, fun j hj => h4 j l[j] (List.getElem?_eq_getElem hj)⟩
/-- an own row of such numbers reads them -/
theorem Sg.of_ov {k : IntKind} {base : Nat} {T : TypeId} {l : List Nat} {v : Value} {w : World} (h : OV base T (l.map fun (x : Nat) => Value.int k (x : Int)) v w) : Sg k l v w := by
  by_cases hl : l = []
  · subst hl
    obtain ⟨a, cap, rfl, _⟩ := h.form
    exact .inl ⟨rfl, a, cap, rfl⟩
  · obtain ⟨g, cap, rfl, _, hc⟩ := h.at (by simpa using hl)
    refine .inr ⟨g, 0, cap, by rw [List.length_map], ?_, fun j x hx => ?_⟩
    · have h0 := hc 0 _ (by rw [List.getElem?_map, List.getElem?_eq_getElem (List.length_pos_iff.2 hl)]; rfl)
      simp only [World.cell?] at h0
      rcases Nat.lt_or_ge g w.heap.size with hg | hg
      · exact hg
      · rw [Array.getElem?_eq_none hg] at h0; cases h0
    · have := hc j (.int k (x : Int)) (by rw [List.getElem?_map, hx]; rfl)
      rw [Nat.zero_add]
      exact this
/-- a slice of marks -/
def Bl (l : List Bool) (v : Value) (w : World) : Prop := ∃ b o cap, v = .slice (some ⟨b, o, none⟩) l.length cap ∧ b < w.heap.size ∧ ∀ (j : Nat) (x : Bool), l[j]? = some x → w.cell? ⟨b, o + j, none⟩ = some (.bool x)
theorem Bl.kept {l : List Bool} {v : Value} {w w' : World} (h : Bl l v w) (hb : Below w.heap.size w w') : Bl l v w' := by
  obtain ⟨b, o, cap, rfl, h1, h4⟩ := h
  exact ⟨b, o, cap, rfl, by have := hb.size; omega, fun j e he => cellK hb h1 (h4 j e he)⟩
/-- the marks of an own block -/
def blA (l : List Bool) : Array Value := (l.map Value.bool).toArray
theorem blA_size (l : List Bool) : (blA l).size = l.length := by simp [blA]
theorem blA_get {l : List Bool} {j : Nat} (h : j < l.length) : (blA l)[j]? = some (.bool l[j]) := by simp [blA, h]
theorem blA_set (l : List Bool) (j : Nat) (x : Bool) : (blA l).setIfInBounds j (.bool x) = blA (l.set j x) := by
  unfold blA
  rw [List.setIfInBounds_toArray, List.map_set]
theorem blA_made (n : Nat) : madeCells #[.bool false] n = blA (List.replicate n false) := by
  apply Array.ext_getElem?
  intro j
  by_cases hj : j < n
  · simp [blA, madeCells, hj, Nat.mod_one]
  · simp [blA, madeCells, hj]
theorem set_getD (l : List Bool) (k : Nat) (x : Bool) (j : Nat) (hk : k < l.length) : (l.set k x).getD j false = if j = k then x else l.getD j false := by
  simp only [List.getD_eq_getElem?_getD, List.getElem?_set]
  by_cases e : k = j
  · subst e; simp [hk]
  · rw [if_neg e, if_neg (fun h => e h.symm)]
theorem Bl.of_own {l : List Bool} {g n cap : Nat} {T : TypeId} {w : World} (h : w.heap[g]? = some (.cells (blA l) T (0, 0))) (hn : n = l.length) : Bl l (.slice (some ⟨g, 0, none⟩) n cap) w := by
  subst hn
  refine ⟨g, 0, cap, rfl, (Array.getElem?_eq_some_iff.1 h).1, fun j x hx => ?_⟩
  have hj := (List.getElem?_eq_some_iff.1 hx).1
  simp only [World.cell?, h, Nat.zero_add]
  rw [blA_get hj]
  rw [List.getElem?_eq_getElem hj] at hx
  cases hx
  rfl
theorem mark_cell {l : List Bool} {g : Nat} {T : TypeId} {w : World} (h : w.heap[g]? = some (.cells (blA l) T (0, 0))) {j : Nat} (hj : j < l.length) : w.cell? ⟨g, j, none⟩ = some (.bool (l.getD j false)) := by
  simp only [World.cell?, h]
  rw [blA_get hj, List.getD_eq_getElem?_getD, List.getElem?_eq_getElem hj]
  rfl
theorem Bl.at {l : List Bool} {v : Value} {w : World} (h : Bl l v w) : ∃ b o cap, v = .slice (some ⟨b, o, none⟩) l.length cap ∧ b < w.heap.size ∧ ∀ j, j < l.length → w.cell? ⟨b, o + j, none⟩ = some (.bool (l.getD j false)) := by
  obtain ⟨b, o, cap, rfl, h1, h4⟩ := h
  refine ⟨b, o, cap, rfl, h1, fun j hj => ?_⟩
  rw [List.getD_eq_getElem?_getD, List.getElem?_eq_getElem hj]
  exact h4 j _ (List.getElem?_eq_getElem hj)
theorem make_marks (n : Nat) (hn : n ≤ 100000) (W : World) : (Instr.makeSlice 38 (.int .i64 (n : Int)) (.int .i64 (n : Int))).run Tryd.prog W = .ok (.slice (some ⟨W.heap.size, 0, none⟩) n n) (W.alloc (.cells (blA (List.replicate n false)) 4)) := by
  rw [← blA_made]
  exact run_make_row' (P := Tryd.prog) 38 4 (.bool false) 1 (by kernel_rfl) (by kernel_rfl) rfl .i64 .i64 n (by omega) (by omega) W
end Go.Proofs.YtfhgnnlhacjnkaaDoor

/-
  A pattern read by the document: ref09.in, named, behind, item: the walks.
-/
namespace Go.Proofs.YtfhgnnlhacjnkaaDoor
set_option linter.unusedVariables false
set_option linter.unusedSimpArgs false
open Go.RowKit PT

def inN (c : Nat) (l : List UInt8) : Bool := l.any fun b => decide (b.toNat = c)
theorem natEq_yes {a b : Nat} (h : a = b) : ((a : Int) == (b : Int)) = true := by subst h; simp
theorem natEq_no {a b : Nat} (h : a ≠ b) : ((a : Int) == (b : Int)) = false := by rw [beq_eq_false_iff_ne]; omega
theorem natNe_yes {a b : Nat} (h : a = b) : ((a : Int) != (b : Int)) = false := by subst h; simp
theorem natNe_no {a b : Nat} (h : a ≠ b) : ((a : Int) != (b : Int)) = true := by rw [bne, natEq_no h]; rfl
set_option maxHeartbeats 400000 in
set_option maxRecDepth 100000 in
theorem in9_any (c : Nat) (s : ByteArray) (hs : s.size ≤ 4294967296) (w : World) :
    Calls Tryd.prog 41 #[.int .i64 c, .string s] w fun e w' => e = .returned (.bool (inN c s.data.toList)) ∧ w = w' := by
  go_enter Tryd.func41, Tryd.ntmps41
  go_wp2_with fail
  go_loop [5] (fun i => ∃ k : Nat, k ≤ s.size ∧ i = .int .i64 k ∧ Hid (inN c s.data.toList = inN c (s.data.toList.drop k))) (fun i => s.size - (intOf i).toNat)
  case atStart => exact ⟨0, Nat.zero_le _, rfl, Lib.hid rfl⟩
  case round =>
    obtain ⟨k, hk, rfl, hI⟩ := hrel
    by_cases hlt : k < s.size
    · have hd := Lib.hid (drop_cons' s k hlt)
      by_cases e : s[k].toNat = c
      · have hR := Lib.hid (show inN c s.data.toList = true by rw [hI.out, hd.out]; unfold inN; rw [List.any_cons, decide_eq_true e, Bool.true_or])
        have e' : (wrap64 (s[k].toNat : Int) == (c : Int)) = true := by rw [show wrap64 (s[k].toNat : Int) = (s[k].toNat : Int) by have := s[k].toNat_lt; unfold wrap64; omega]; exact natEq_yes e
        clear e
        go_wp2_with fail
        go_ret
        exact ⟨ret_bool hR.out.symm, rfl⟩
      · have hR := Lib.hid (show inN c s.data.toList = inN c (s.data.toList.drop (k + 1)) by rw [hI.out, hd.out]; unfold inN; rw [List.any_cons, decide_eq_false e, Bool.false_or])
        have e' : (wrap64 (s[k].toNat : Int) == (c : Int)) = false := by rw [show wrap64 (s[k].toNat : Int) = (s[k].toNat : Int) by have := s[k].toNat_lt; unfold wrap64; omega]; exact natEq_no e
        clear e
        go_wp2_with fail
        go_round
        case rel => exact ⟨k + 1, by omega, by go_num, hR⟩
        case measure => simp [intOf]; omega
    · have hR := Lib.hid (show inN c s.data.toList = false by rw [hI.out, List.drop_eq_nil_of_le (by rw [size_list]; omega)]; rfl)
      go_wp2_with fail
      go_ret
      exact ⟨ret_bool hR.out.symm, rfl⟩
theorem named_any (e c : Nat) (w : World) :
    Calls Tryd.prog 50 #[.int .i64 e, .int .i64 c] w fun x w' => x = .returned (.bool (namedP e c)) ∧ w = w' := by
  by_cases h1 : e = 100
  · have hR := Lib.hid (show namedP e c = digB c by unfold namedP; rw [if_pos h1])
    have h1' : ((e : Int) == 100) = true := natEq_yes h1
    clear h1
    go_enter Tryd.func50, Tryd.ntmps50
    go_wp2
    all_goals
      go_ret
      refine ⟨ret_bool ?_, rfl⟩
      rw [hR.out, Bool.eq_iff_iff]
      simp [digB]
      try omega
  · have h1' : ((e : Int) == 100) = false := natEq_no h1
    by_cases h2 : e = 119
    · have hR := Lib.hid (show namedP e c = (digB c || ((decide (97 ≤ c) && decide (c ≤ 122)) || ((decide (65 ≤ c) && decide (c ≤ 90)) || decide (c = 95)))) by unfold namedP; rw [if_neg h1, if_pos h2])
      have h2' : ((e : Int) == 119) = true := natEq_yes h2
      clear h1 h2
      go_enter Tryd.func50, Tryd.ntmps50
      go_wp2
      all_goals
        go_ret
        refine ⟨ret_bool ?_, rfl⟩
        rw [hR.out, Bool.eq_iff_iff]
        simp [digB]
        try omega
    · have hR := Lib.hid (show namedP e c = (decide (c = 9) || (decide (c = 10) || (decide (c = 12) || (decide (c = 13) || decide (c = 32))))) by unfold namedP; rw [if_neg h1, if_neg h2])
      have h2' : ((e : Int) == 119) = false := natEq_no h2
      clear h1 h2
      go_enter Tryd.func50, Tryd.ntmps50
      go_wp2
      all_goals
        go_ret
        refine ⟨ret_bool ?_, rfl⟩
        rw [hR.out, Bool.eq_iff_iff]
        simp
        try omega
end Go.Proofs.YtfhgnnlhacjnkaaDoor

/-
  A pattern read by the document: ref09.behind, item: the walks.
-/
namespace Go.Proofs.YtfhgnnlhacjnkaaDoor
set_option linter.unusedVariables false
set_option linter.unusedSimpArgs false
open Go.RowKit PT

theorem inN_of {c : Nat} {l : List UInt8} {m : List Nat} (h : l.map (·.toNat) = m) : inN c l = decide (c ∈ m) := by
  subst h
  induction l with
  | nil => rfl
  | cons b l ih =>
    unfold inN at ih ⊢
    rw [List.any_cons, ih, Bool.eq_iff_iff, Bool.or_eq_true, decide_eq_true_eq, decide_eq_true_eq, decide_eq_true_eq, List.map_cons, List.mem_cons]
    exact ⟨fun h => h.imp Eq.symm id, fun h => h.imp Eq.symm id⟩
theorem in_1 (c : Nat) : inN c (ByteArray.mk #[91, 93, 94, 45]).data.toList = decide (c ∈ [91, 93, 94, 45]) := inN_of rfl
theorem in_2 (c : Nat) : inN c (ByteArray.mk #[92, 91, 93, 94, 45, 47, 46, 100, 119, 115]).data.toList = decide (c ∈ [92, 91, 93, 94, 45, 47, 46, 100, 119, 115]) := inN_of rfl
theorem in_3 (c : Nat) : inN c (ByteArray.mk #[100, 119, 115]).data.toList = decide (c ∈ [100, 119, 115]) := inN_of rfl
theorem signP_cons (c : Nat) (r : List Nat) (h : c ≠ 92) : signP (c :: r) = if c ∈ [91, 93, 94, 45] then none else some ([(c, c)], true, r) := by
  show (if c = 92 then _ else _) = _
  rw [if_neg h]
theorem signP_esc (r : List Nat) : signP (92 :: r) = (match r with
    | [] => none
    | e :: r2 => if e = 100 ∨ e = 119 ∨ e = 115 then some ((someP e).getD [], false, r2) else if e ∈ [92, 91, 93, 94, 45, 47, 46] then some ([(e, e)], true, r2) else none) := by
  rw [signP.eq_def]
  exact if_pos rfl
/-- the place behind a sign -/
def sgR (l : List Nat) : Option (List Nat) := (signP l).map (·.2.2)
theorem sgR_esc (e : Nat) (r : List Nat) : sgR (92 :: e :: r) = if e ∈ [92, 91, 93, 94, 45, 47, 46, 100, 119, 115] then some r else none := by
  unfold sgR
  rw [signP_esc]
  simp only
  by_cases h : e = 100 ∨ e = 119 ∨ e = 115
  · rw [if_pos h, if_pos (by simp; omega)]; rfl
  · rw [if_neg h]
    by_cases h2 : e ∈ [92, 91, 93, 94, 45, 47, 46]
    · rw [if_pos h2, if_pos (by simp at h2 ⊢; omega)]; rfl
    · rw [if_neg h2, if_neg (by simp at h2 ⊢; omega)]; rfl
set_option maxHeartbeats 1000000 in
set_option maxRecDepth 100000 in
theorem behind_any (l : List Nat) (v : Value) (hl : l.length ≤ 1000000) (k : Nat) (hk : k ≤ l.length) (w : World) (hS : Sg .i64 l v w) :
    Calls Tryd.prog 55 #[v, .int .i64 k] w fun e w' => e = .returned (.int .i64 (endV l.length (sgR (l.drop k)))) ∧ w = w' := by
  obtain ⟨a, cap, rfl⟩ := hS.len
  by_cases hlt : k < l.length
  case neg =>
    have h1 : (l.length : Int) ≤ (k : Int) := by omega
    have hR := Lib.hid (show endV l.length (sgR (l.drop k)) = -1 by rw [List.drop_eq_nil_of_le (by omega)]; rfl)
    go_enter Tryd.func55, Tryd.ntmps55
    go_wp2_with fail
    go_ret
    exact ⟨ret_int hR.out.symm, rfl⟩
  have h1 : decide ((l.length : Int) ≤ (k : Int)) = false := decide_eq_false (by omega)
  have h1' : (k : Int) < (l.length : Int) := by omega
  obtain ⟨b, o, cap', hv, hb, hc⟩ := hS.at (by omega)
  cases hv
  have c0 := hc k hlt
  replace hc := Lib.hid hc
  have hd := Lib.hid (drop_at hlt)
  go_enter Tryd.func55, Tryd.ntmps55
  generalize l[k] = c at *
  go_wp2_with fail
  refine (in9_any c _ (by decide) _).mono ?_
  rintro e w' ⟨rfl, rfl⟩
  rw [in_1]
  by_cases h2 : c ∈ [91, 93, 94, 45]
  · have hR := Lib.hid (show endV l.length (sgR (l.drop k)) = -1 by
      rw [hd.out]
      unfold sgR
      rw [signP_cons c _ (by simp at h2; omega), if_pos h2]; rfl)
    rw [decide_eq_true h2]
    clear h2
    go_wp2_with fail
    go_ret
    exact ⟨ret_int hR.out.symm, rfl⟩
  · rw [decide_eq_false h2]
    by_cases h3 : c = 92
    case neg =>
      have hR := Lib.hid (show endV l.length (sgR (l.drop k)) = (k : Int) + 1 by
        rw [hd.out]
        unfold sgR
        rw [signP_cons c _ h3, if_neg h2]
        show endV l.length (some (l.drop (k + 1))) = _
        rw [endV_at (n := k + 1) (by rw [List.length_drop]; omega)]
        omega)
      have h3' := natNe_no h3
      clear h2 h3
      go_wp2_with fail
      go_ret
      exact ⟨ret_int hR.out.symm, rfl⟩
    subst h3
    clear h2
    have h3' : (((92 : Nat) : Int) != (92 : Int)) = false := rfl
    by_cases hlt2 : k + 1 < l.length
    case neg =>
      have h4 : (l.length : Int) ≤ (k : Int) + 1 := by omega
      have hR := Lib.hid (show endV l.length (sgR (l.drop k)) = -1 by
        rw [hd.out, List.drop_eq_nil_of_le (by omega)]; rfl)
      go_wp2_with fail
      go_ret
      exact ⟨ret_int hR.out.symm, rfl⟩
    have h4 : decide ((l.length : Int) ≤ (k : Int) + 1) = false := decide_eq_false (by omega)
    have h4' : (k : Int) + 1 < (l.length : Int) := by omega
    have c1 := hc.out (k + 1) hlt2
    have hd2 := Lib.hid (drop_at hlt2)
    generalize l[k + 1] = e at *
    go_wp2_with fail
    refine (in9_any e _ (by decide) _).mono ?_
    rintro e' w' ⟨rfl, rfl⟩
    rw [in_2]
    by_cases h5 : e ∈ [92, 91, 93, 94, 45, 47, 46, 100, 119, 115]
    · have hR := Lib.hid (show endV l.length (sgR (l.drop k)) = (k : Int) + 2 by
        rw [hd.out, hd2.out, sgR_esc, if_pos h5, endV_at (n := k + 2) (by rw [List.length_drop]; omega)]
        omega)
      rw [decide_eq_true h5]
      clear h5
      go_wp2_with fail
      go_ret
      exact ⟨ret_int hR.out.symm, rfl⟩
    · have hR := Lib.hid (show endV l.length (sgR (l.drop k)) = -1 by
        rw [hd.out, hd2.out, sgR_esc, if_neg h5]; rfl)
      rw [decide_eq_false h5]
      clear h5
      go_wp2_with fail
      go_ret
      exact ⟨ret_int hR.out.symm, rfl⟩
end Go.Proofs.YtfhgnnlhacjnkaaDoor

/-
  strings.ContainsRune on a short text of ASCII, for any sign: the walk.
-/
namespace Go.Proofs.YtfhgnnlhacjnkaaDoor
set_option linter.unusedVariables false
set_option linter.unusedSimpArgs false
open Go.RowKit PT
open Go.Lib (decodeN decodeL validD)

theorem inText9 (s : ByteArray) (k : Nat) (h : k < s.size) : s[k] ∈ s.data.toList := by
  have : s[k] = s.data.toList[k]'(by simpa using h) := rfl
  rw [this]
  exact List.getElem_mem _
/-- a byte that is not in a text -/
theorem inN_index (c : Nat) (l : List UInt8) (h : c < 128) : decide (0 ≤ Lib.indexByte l (c : Int).toNat.toUInt8) = inN c l := by
  have e : ((c : Int).toNat.toUInt8).toNat = c := by
    rw [Int.toNat_natCast]
    show c % 256 = c
    omega
  generalize (c : Int).toNat.toUInt8 = b at *
  subst e
  induction l with
  | nil => rfl
  | cons x l ih =>
    rw [Lib.indexByte]
    unfold inN at ih ⊢
    rw [List.any_cons, ← ih]
    by_cases hx : x = b
    · subst hx; simp
    · have : ¬ x.toNat = b.toNat := fun e => hx (UInt8.toNat_inj.1 e)
      rw [if_neg (by simpa using hx), decide_eq_false this, Bool.false_or]
      have hge := Lib.indexByte_ge l b
      by_cases h0 : Lib.indexByte l b = -1
      · rw [if_pos (by rw [h0]; rfl), h0]
      · rw [if_neg (by simpa using h0), decide_eq_true (by omega), decide_eq_true (by omega)]
theorem asc_index (s : ByteArray) (hasc : ∀ b ∈ s.data.toList, b.toNat < 128) (c : UInt8) (hc : 128 ≤ c.toNat) (a e : Nat) : Lib.indexByte (s.extract a e).data.toList c = -1 :=
  indexByte_no fun h => by have := hasc c (mem_extract h); omega
theorem indexByte_high (s : ByteArray) (hasc : ∀ b ∈ s.data.toList, b.toNat < 128) (a e : Nat) (c : UInt8) (hc : 128 ≤ c.toNat) (w : World) :
    Calls Tryd.prog 56 #[.string (s.extract a e), .int .u8 (c.toNat : Int)] w fun x w' => x = .returned (.int .i64 (-1)) ∧ w' = w := by
  refine (Tryd.strings_IndexByte (s.extract a e) (c.toNat : Int) w).mono ?_
  rintro x w' ⟨rfl, rfl⟩
  have : (c.toNat : Int).toNat.toUInt8 = c := by
    rw [Int.toNat_natCast]
    apply UInt8.toNat_inj.1
    show c.toNat % 256 = c.toNat
    have := c.toNat_lt
    omega
  rw [this, asc_index s hasc c hc]
  exact ⟨rfl, rfl⟩
theorem asc_decode (s : ByteArray) (hasc : ∀ b ∈ s.data.toList, b.toNat < 128) (k : Nat) (hk : k < s.size) : Utf8.decode s k = (s[k].toNat, 1) := by
  have hm := hasc s[k] (inText9 s k hk)
  rw [← Lib.decodeL_drop, drop_cons' s k hk, decodeL_low _ _ hm]
set_option maxHeartbeats 2000000 in
set_option maxRecDepth 100000 in
theorem indexRune_high (s : ByteArray) (hs : s.size ≤ 100) (hasc : ∀ b ∈ s.data.toList, b.toNat < 128) (c : Nat) (h1 : 128 ≤ c) (h2 : c ≤ 1114111) (w : World) :
    Calls Tryd.prog 54 #[.string s, .int .i32 c] w fun e w' => e = .returned (.int .i64 (-1)) ∧ Below w.heap.size w w' := by
  have q1 : (0 : Int) ≤ (c : Int) := by omega
  have q2 : decide ((c : Int) < 128) = false := decide_eq_false (by omega)
  have q22 : (128 : Int) ≤ (c : Int) := by omega
  go_enter Tryd.func54, Tryd.ntmps54
  by_cases h3 : c = 65533
  · have q3 : ((c : Int) == 65533) = true := natEq_yes h3
    clear h3
    go_wp2_with fail
    go_loopw [] (fun wr => ∃ k : Nat, k ≤ s.size ∧ wr = w.iter s k) (fun wr => s.size - wr.iterPos w.heap.size)
    case atStart => exact ⟨0, Nat.zero_le _, rfl⟩
    case round =>
      obtain ⟨k, hk, rfl⟩ := hrel
      by_cases hlt : k < s.size
      · have hnx : ∀ ty, (Instr.next (.pointer (some ⟨w.heap.size, 0, none⟩)) true ty).run Tryd.prog (w.iter s k) = _ := fun ty => run_next_any w s k ty hlt
        have hm := hasc s[k] (inText9 s k hlt)
        rw [asc_decode s hasc k hlt] at hnx
        have p1 : ((s[k].toNat : Int) == 65533) = false := intNe (by omega)
        generalize s[k].toNat = y at *
        go_wp2_with fail
        go_roundw
        case rel => exact ⟨k + 1, by omega, rfl⟩
        case measure => simp; omega
      · have hnx : ∀ ty, (Instr.next (.pointer (some ⟨w.heap.size, 0, none⟩)) true ty).run Tryd.prog (w.iter s k) = _ := fun ty => run_next_end w s k ty hlt
        obtain rfl : k = s.size := by omega
        go_wp2_with fail
        go_ret
        exact ⟨rfl, (Below.refl _ _).alloc (Nat.le_refl _) _⟩
  have q3 : ((c : Int) == 65533) = false := natEq_no h3
  go_wp2_with fail
  refine (Tryd.utf8_ValidRune _ _).mono ?_
  rintro e w1 ⟨rfl, rfl⟩
  cases hvr : Lib.validRune (c : Int)
  · go_wp2_with fail
    go_ret
    exact ⟨rfl, Below.refl _ _⟩
  · have hval : Utf8.valid (c : Int) = true := by rw [Go.validRune_eq]; exact hvr
    obtain ⟨z2, z4, zlast⟩ := encode_facts (c : Int) hval (by omega)
    clear hvr hval h3
    go_wp2_with fail
    go_step3
    go_upto_region 2 with fail
    obtain ⟨rs, hrs⟩ : ∃ rs, Utf8.encode (c : Int) = rs := ⟨_, rfl⟩
    rw [hrs] at z2 z4 zlast ⊢
    clear hrs
    obtain ⟨m, hm⟩ : ∃ m, rs.size = m + 1 := ⟨rs.size - 1, by omega⟩
    have hms : m < rs.size := by omega
    have hrl : 128 ≤ (rs[m]).toNat := by
      have := zlast (by omega)
      simpa [hm] using this
    have e9 : (rs.size : Int) - 1 = (m : Int) := by omega
    have hmm := Lib.hid e9
    clear zlast hm e9
    go_upto_region 5 with fail
    rw [hmm.out]
    go_wp2_with fail
    go_loopw [9] (fun i wr => i = .int .i64 m ∧ wr = w1) (fun _ _ => 0)
    case atStart => exact ⟨rfl, rfl⟩
    case round =>
      obtain ⟨rfl, rfl⟩ := hrel
      by_cases hlt : m < s.size
      · have l1 : (m : Int) < (s.size : Int) := by omega
        have l11 : (m : Int) < (rs.size : Int) := by omega
        have hsl := hasc s[m] (inText9 s _ hlt)
        have hne : ((s[m].toNat : Int) != (rs[m].toNat : Int)) = true := by rw [bne, intNe (by omega)]; rfl
        have l3 : (m : Int) + 1 ≤ (s.size : Int) := by omega
        have l4 : (0 : Int) ≤ (m : Int) + 1 := by omega
        have l5 : m + 1 ≤ s.size := by omega
        have l6 : ((m : Int) + 1).toNat = m + 1 := by omega
        have l7 : IntKind.i64.wrap ((m : Int) + 1) = (m : Int) + 1 := Go.wrap_small _ (by omega) (by omega)
        clear hsl
        go_wp2_with fail
        go_step3
        go_wp2_with fail
        go_quiet (fail)
        go_wp2_with fail
        refine wp_region_still_lit (by kernel_rfl) (by kernel_rfl) ?_
        repeat still_step
        still_call ((indexByte_high s hasc _ _ rs[m] hrl _).mono fun e w' ⟨he, hw⟩ => ⟨he, hw⟩)
        repeat still_step
        refine wpStill_nil ?_
        go_wp2_with fail
        simp +zetaDelta only [Exit.noGoto, Exit.inBlock, Exit.then]
        go_ret
        exact ⟨rfl, ⟨rfl, rfl, rfl, Nat.le_refl _, fun _ _ => rfl⟩⟩
      · have l1 : decide ((m : Int) < (s.size : Int)) = false := decide_eq_false (by omega)
        go_wp2_with fail
        try rw [Exit.noGoto_ret]
        go_ret
        exact ⟨rfl, Below.refl _ _⟩
/-- any sign in a short text of ASCII -/
theorem containsRune_any (s : ByteArray) (hs : s.size ≤ 100) (hasc : ∀ b ∈ s.data.toList, b.toNat < 128) (c : Nat) (h2 : c ≤ 1114111) (w : World) :
    Calls Tryd.prog 46 #[.string s, .int .i32 c] w fun e w' => e = .returned (.bool (inN c s.data.toList)) ∧ Below w.heap.size w w' := by
  by_cases h1 : c < 128
  · refine (Tryd.strings_ContainsRune_ascii s (c : Int) w (by omega) (by omega)).mono ?_
    rintro e w' ⟨rfl, rfl⟩
    exact ⟨ret_bool (inN_index c _ h1), Below.refl _ _⟩
  · have hR := Lib.hid (show inN c s.data.toList = false by
      rw [Bool.eq_false_iff]
      intro h
      unfold inN at h
      obtain ⟨b, hb, hc⟩ := List.any_eq_true.1 h
      have := hasc b hb
      have := of_decide_eq_true hc
      omega)
    go_enter Tryd.func46, Tryd.ntmps46
    go_wp2_with fail
    refine (indexRune_high s hs hasc c (by omega) h2 _).mono ?_
    rintro e w1 ⟨rfl, hb1⟩
    go_wp2_with fail
    go_ret
    exact ⟨ret_bool hR.out.symm, hb1⟩
end Go.Proofs.YtfhgnnlhacjnkaaDoor

/-
  The pattern's reader: some, sign: the walks.
-/
namespace Go.Proofs.YtfhgnnlhacjnkaaDoor
set_option linter.unusedVariables false
set_option linter.unusedSimpArgs false
open Go.RowKit PT

/-- the cells of spans (numbers of 32 bits) -/
def spanV (p : Int × Int) : List Value := [.int .i32 p.1, .int .i32 p.2]
def spA (sp : List (Int × Int)) : Array Value := (sp.flatMap spanV).toArray
def spI (sp : List (Nat × Nat)) : List (Int × Int) := sp.map fun p => ((p.1 : Int), (p.2 : Int))
/-- a slice of spans that lies in a block of its own, from block number B on -/
def Fresh (B : Nat) (sp : List (Int × Int)) (v : Value) (w : World) : Prop := ∃ g cap, v = .slice (some ⟨g, 0, none⟩) sp.length cap ∧ B ≤ g ∧ sp ≠ [] ∧ sp.length ≤ 4 ∧ w.heap[g]? = some (.cells (spA sp) 77 (0, 0))
theorem some_none {c : Nat} (h : someP c = none) : c ≠ 100 ∧ c ≠ 68 ∧ c ≠ 119 ∧ c ≠ 87 ∧ c ≠ 115 ∧ c ≠ 83 := by
  unfold someP at h
  split at h
  · cases h
  · split at h
    · cases h
    · split at h
      · cases h
      · omega
set_option maxHeartbeats 1000000 in
set_option maxRecDepth 100000 in
theorem some_any (c : Int) (w : World) :
    Calls Tryd.prog 52 #[.int .i32 c] w fun e w' => (((c < 0 ∨ someP c.toNat = none) ∧ e = .returned (.slice none 0 0)) ∨ (∃ (sp : List (Nat × Nat)) (v : Value), 0 ≤ c ∧ someP c.toNat = some sp ∧ e = .returned v ∧ Fresh w.heap.size (spI sp) v w')) ∧ Below w.heap.size w w' := by
  by_cases hneg : c < 0 ∨ someP c.toNat = none
  · have hn : c ≠ 100 ∧ c ≠ 68 ∧ c ≠ 119 ∧ c ≠ 87 ∧ c ≠ 115 ∧ c ≠ 83 := by
      rcases hneg with h | h
      · omega
      · have := some_none h; omega
    obtain ⟨n1, n2, n3, n4, n5, n6⟩ := hn
    have q1 : (c == 100) = false := intNe n1
    have q2 : (c == 68) = false := intNe n2
    have q3 : (c == 119) = false := intNe n3
    have q4 : (c == 87) = false := intNe n4
    have q5 : (c == 115) = false := intNe n5
    have q6 : (c == 83) = false := intNe n6
    have hneg2 := Lib.hid hneg
    clear hneg n1 n2 n3 n4 n5 n6
    go_enter Tryd.func52, Tryd.ntmps52
    go_wp2_with fail
    go_ret
    exact ⟨.inl ⟨hneg2.out, rfl⟩, Below.refl _ _⟩
  have h0 : 0 ≤ c := by omega
  have hc : c = 100 ∨ c = 68 ∨ c = 119 ∨ c = 87 ∨ c = 115 ∨ c = 83 := by
    have h2 : someP c.toNat ≠ none := fun h => hneg (.inr h)
    unfold someP at h2
    by_cases a : c.toNat = 100 ∨ c.toNat = 68
    · omega
    · rw [if_neg a] at h2
      by_cases b : c.toNat = 119 ∨ c.toNat = 87
      · omega
      · rw [if_neg b] at h2
        by_cases d : c.toNat = 115 ∨ c.toNat = 83
        · omega
        · rw [if_neg d] at h2; exact absurd rfl h2
  clear hneg h0
  rcases hc with rfl | rfl | rfl | rfl | rfl | rfl
  · have hn0 := Go.heap_alloc_new w (.cells #[.int .i32 48, .int .i32 57] 77)
    have hb0 := (Below.refl w.heap.size w).alloc (Nat.le_refl _) (.cells #[.int .i32 48, .int .i32 57] 77)
    go_enter Tryd.func52, Tryd.ntmps52
    go_wp2_with fail
    go_ret
    exact ⟨.inr ⟨[(48, 57)], _, by decide, rfl, rfl, ⟨w.heap.size, _, rfl, Nat.le_refl _, by decide, by decide, hn0⟩⟩, hb0⟩
  · have hn0 := Go.heap_alloc_new w (.cells #[.int .i32 48, .int .i32 57] 77)
    have hb0 := (Below.refl w.heap.size w).alloc (Nat.le_refl _) (.cells #[.int .i32 48, .int .i32 57] 77)
    go_enter Tryd.func52, Tryd.ntmps52
    go_wp2_with fail
    go_ret
    exact ⟨.inr ⟨[(48, 57)], _, by decide, rfl, rfl, ⟨w.heap.size, _, rfl, Nat.le_refl _, by decide, by decide, hn0⟩⟩, hb0⟩
  · have hn0 := Go.heap_alloc_new w (.cells #[.int .i32 48, .int .i32 57, .int .i32 65, .int .i32 90, .int .i32 95, .int .i32 95, .int .i32 97, .int .i32 122] 77)
    have hb0 := (Below.refl w.heap.size w).alloc (Nat.le_refl _) (.cells #[.int .i32 48, .int .i32 57, .int .i32 65, .int .i32 90, .int .i32 95, .int .i32 95, .int .i32 97, .int .i32 122] 77)
    go_enter Tryd.func52, Tryd.ntmps52
    go_wp2_with fail
    go_ret
    exact ⟨.inr ⟨[(48, 57), (65, 90), (95, 95), (97, 122)], _, by decide, rfl, rfl, ⟨w.heap.size, _, rfl, Nat.le_refl _, by decide, by decide, hn0⟩⟩, hb0⟩
  · have hn0 := Go.heap_alloc_new w (.cells #[.int .i32 48, .int .i32 57, .int .i32 65, .int .i32 90, .int .i32 95, .int .i32 95, .int .i32 97, .int .i32 122] 77)
    have hb0 := (Below.refl w.heap.size w).alloc (Nat.le_refl _) (.cells #[.int .i32 48, .int .i32 57, .int .i32 65, .int .i32 90, .int .i32 95, .int .i32 95, .int .i32 97, .int .i32 122] 77)
    go_enter Tryd.func52, Tryd.ntmps52
    go_wp2_with fail
    go_ret
    exact ⟨.inr ⟨[(48, 57), (65, 90), (95, 95), (97, 122)], _, by decide, rfl, rfl, ⟨w.heap.size, _, rfl, Nat.le_refl _, by decide, by decide, hn0⟩⟩, hb0⟩
  · have hn0 := Go.heap_alloc_new w (.cells #[.int .i32 9, .int .i32 10, .int .i32 12, .int .i32 13, .int .i32 32, .int .i32 32] 77)
    have hb0 := (Below.refl w.heap.size w).alloc (Nat.le_refl _) (.cells #[.int .i32 9, .int .i32 10, .int .i32 12, .int .i32 13, .int .i32 32, .int .i32 32] 77)
    go_enter Tryd.func52, Tryd.ntmps52
    go_wp2_with fail
    go_ret
    exact ⟨.inr ⟨[(9, 10), (12, 13), (32, 32)], _, by decide, rfl, rfl, ⟨w.heap.size, _, rfl, Nat.le_refl _, by decide, by decide, hn0⟩⟩, hb0⟩
  · have hn0 := Go.heap_alloc_new w (.cells #[.int .i32 9, .int .i32 10, .int .i32 12, .int .i32 13, .int .i32 32, .int .i32 32] 77)
    have hb0 := (Below.refl w.heap.size w).alloc (Nat.le_refl _) (.cells #[.int .i32 9, .int .i32 10, .int .i32 12, .int .i32 13, .int .i32 32, .int .i32 32] 77)
    go_enter Tryd.func52, Tryd.ntmps52
    go_wp2_with fail
    go_ret
    exact ⟨.inr ⟨[(9, 10), (12, 13), (32, 32)], _, by decide, rfl, rfl, ⟨w.heap.size, _, rfl, Nat.le_refl _, by decide, by decide, hn0⟩⟩, hb0⟩
end Go.Proofs.YtfhgnnlhacjnkaaDoor
