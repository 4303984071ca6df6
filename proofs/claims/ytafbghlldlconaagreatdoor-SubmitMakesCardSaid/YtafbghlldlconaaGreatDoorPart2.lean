import Derived.Test.YtafbghlldlconaaGreatDoorPart1
import Derived.Lib.UnsafeStr
import Derived.Laws.IdiomStrings
import Derived.Laws.Cells
import Derived.Deep.AppendSrc
/-
  A []byte THAT THE CALL ITSELF BUILDS, told as a list of bytes; the laws by which a walk appends a byte, a text, and makes the text of it.
-/
namespace Go.Proofs.YtafbghlldlconaaGreatDoor
set_option linter.unusedVariables false
set_option linter.unusedSimpArgs false
open Go.RowKit Go.Lib

theorem info_u8 : (Tryz.prog.info? 5).map (fun i => (i.zero, i.size, i.bytes)) = some (some (.int .u8 0), 1, 1) := by kernel_rfl

/-- the value v is a []byte that holds l, made since 'base' blocks lay -/
def OB (base : Nat) (l : List UInt8) (v : Value) (w : World) : Prop := w.ownsRow base 5 1 v l.length (Lib.byteCells l)

theorem OB.nil (base : Nat) (w : World) : OB base [] (.slice none 0 0) w := World.ownsRow_nil w base _ _
theorem OB.alloc {base : Nat} {l : List UInt8} {v : Value} {w : World} (h : OB base l v w) (o : Obj) : OB base l v (w.alloc o) := World.ownsRow.alloc h o
theorem OB.out {base : Nat} {l : List UInt8} {v : Value} {w : World} (h : OB base l v w) : w.ownsRow base 5 1 v l.length (Lib.byteCells l) := h
theorem OB.form {base : Nat} {l : List UInt8} {v : Value} {w : World} (h : OB base l v w) : ∃ a cap, v = .slice a l.length cap := by
  obtain ⟨_, ⟨rfl, hn⟩ | ⟨g, cap, cur, rfl, _⟩⟩ := h
  · exact ⟨none, 0, by rw [hn]⟩
  · exact ⟨_, _, rfl⟩
/-- what is older stays: a world that keeps all blocks at and above 'base' too -/
theorem OB.kept {base : Nat} {l : List UInt8} {v : Value} {w w' : World} (h : OB base l v w) (hb : Below w.heap.size w w') : OB base l v w' := by
  obtain ⟨h1, ⟨rfl, hn⟩ | ⟨g, cap, cur, rfl, h2, h3, h4⟩⟩ := h
  · exact ⟨h1, .inl ⟨rfl, hn⟩⟩
  · refine ⟨h1, .inr ⟨g, cap, cur, rfl, h2, ?_, h4⟩⟩
    have hlt : g < w.heap.size := by
      rcases Nat.lt_or_ge g w.heap.size with h | h
      · exact h
      · rw [Array.getElem?_eq_none h] at h3; cases h3
    rw [hb.block g hlt]; exact h3

theorem run_nil_bytes {P : Program} (w : World) (src dst e : TypeId) (c : Nat) (hs : P.underlying src = some (.slice e)) (he : P.underlying e = some (.int .u8)) (hd : P.underlying dst = some .string) :
    (convert src dst (.slice none 0 c)).run P w = .ok (.string ⟨#[]⟩) w := by
  rw [run_convert_bytes_string w src dst e none 0 c hs he hd]
  simp [Conv.bytesToString]
  rfl
theorem row_bytes {w : World} {g : Nat} {cur : Array Value} {T : TypeId} {fr : Nat × Nat} {l : List UInt8} (hg : w.heap[g]? = some (.cells cur T fr)) (htk : cur.toList.take l.length = Lib.byteCells l) :
    ∀ j (hj : j < l.length), w.cell? ((⟨g, 0, none⟩ : Addr).add j) = some (.int .u8 (l[j].toNat : Int)) := fun j hj => by
  have h : (cur.toList.take l.length)[j]? = some (.int .u8 (l[j].toNat : Int)) := by rw [htk]; simp [Lib.byteCells, hj]
  rw [List.getElem?_take_of_lt hj] at h
  rw [addr_add, Nat.zero_add]
  simp only [World.cell?, hg]
  simpa using h

theorem OB.cell {base : Nat} {l : List UInt8} {a : Addr} {n cap : Nat} {w : World} (h : OB base l (.slice (some a) n cap) w) : ∀ j (hj : j < l.length), w.cell? (a.add j) = some (.int .u8 (l[j].toNat : Int)) := by
  obtain ⟨_, ⟨h1, hn⟩ | ⟨g, cap', cur, h1, h2, h3, h4, h5, h6, h7⟩⟩ := h
  · cases h1
  · cases h1
    exact row_bytes h3 (by simpa using h7)

/-- 'string(out)' -/
theorem OB.conv {base : Nat} {l : List UInt8} {v : Value} {w : World} (h : OB base l v w) :
    (convert 100 9 v).run Tryz.prog w = .ok (.string ⟨l.toArray⟩) w := by
  have h0 := h
  obtain ⟨h1, ⟨rfl, hn⟩ | ⟨g, cap, cur, rfl, h2, h3, h4⟩⟩ := h
  · have : l = [] := by simpa using hn
    subst this
    exact run_nil_bytes w _ _ _ 0 Tryz.underlying100 Tryz.underlying5 Tryz.underlying9
  · exact run_convert_bytes_back w _ _ _ _ cap l Tryz.underlying100 Tryz.underlying5 Tryz.underlying9 h0.cell

theorem below_grown {base : Nat} {w w' : World} {v : Value} {e : TypeId} {size n : Nat} {xs : List Value} (h : w.ownsRow base e size v n xs) (hg : w.grownBy w' v.ownBlock) (hb : base ≤ w.heap.size) : Below base w w' :=
  (Below.refl base w).grown hg hb (fun k hk => (h.lt k hk).1)

theorem byteCells_one (c : UInt8) : Lib.byteCells [c] = [.int .u8 c.toNat] := rfl

/-- 'out = append(out, c)': the element lies in a block of its own, laid just ahead -/
theorem wpList_append_byte {W : World} {ops : Array Oper} {rest : List Oper} {o : Oper} {a : Act} {Q : Exit → Act → World → Prop} (hgd : o.guard = none) (s x : Operand)
    (ho : o.op = .call { callee := .builtin .append, args := #[s, x], argTypes := #[100, 100] })
    {base : Nat} {l : List UInt8} {v : Value} (hs : a.eval s = v) (hx : a.eval x = .slice (some ⟨W.heap.size, 0, none⟩) 1 1) (c : UInt8) {n : Int} (hn : n = (c.toNat : Int))
    (hown : OB base l v W) (hlen : l.length < 70368744177664) (hbase : base ≤ W.heap.size)
    (h : ∀ v' w', OB base (l ++ [c]) v' w' → Below base W w' → wpList Tryz.prog ops Q rest (a.put o.dst v') w') : wpList Tryz.prog ops Q (o :: rest) a (W.alloc (.cells #[.int .u8 n] 5)) := by
  subst hn
  obtain ⟨i0, hi, hz0, hz1, hz2⟩ := info_parts info_u8
  refine wpList_append_own _ hgd s x 100 ho base 5 i0 (.int .u8 0) 1 1 Tryz.underlying100 hi hz0 hz1 hz2 rfl (by decide) v l.length (Lib.byteCells l) hs (World.ownsRow.alloc hown _) ⟨W.heap.size, 0, none⟩ 1 1 [.int .u8 c.toNat] hx rfl ?_ ?_ ?_ ?_ ?_ ?_
  · intro j u hj
    match j, hj with
    | 0, hj => simp at hj; subst hj; simp [addr_add]
  · intro u hu; simp at hu; subst hu; rfl
  · unfold maxLen; omega
  · omega
  · simp; omega
  · intro v' w1 h1 h2 _
    refine h v' w1 ?_ (((Below.refl base W).alloc hbase _).trans (below_grown (World.ownsRow.alloc hown _) h2 (by simp; omega)))
    have e : Lib.byteCells (l ++ [c]) = Lib.byteCells l ++ [.int .u8 c.toNat] := by rw [byteCells_append, byteCells_one]
    unfold OB
    rw [e, List.length_append]
    exact h1

/-- the same at a region that draws its order -/
theorem step_append_byte {W : World} {ops : Array Oper} {o : Oper} {a : Act} {K : Act → World → Prop} {Q : Exit → Act → World → Prop} {E : Prop} (hgd : o.guard = none) (s x : Operand)
    (ho : o.op = .call { callee := .builtin .append, args := #[s, x], argTypes := #[100, 100] })
    {base : Nat} {l : List UInt8} {v : Value} (hs : a.eval s = v) (g : Nat) (hx : a.eval x = .slice (some ⟨g, 0, none⟩) 1 1) (c : UInt8) (hc : W.cell? ⟨g, 0, none⟩ = some (.int .u8 c.toNat))
    (hown : OB base l v W) (hlen : l.length < 70368744177664) (hbase : base ≤ W.heap.size)
    (h : ∀ v' w', OB base (l ++ [c]) v' w' → Below base W w' → K (a.put o.dst v') w') : if Region.wanted o (yielded ops a.tmps) then o.wp Tryz.prog a W K Q else E := by
  have hw : Region.wanted o (yielded ops a.tmps) = true := by simp [Region.wanted, hgd]
  rw [if_pos hw]
  obtain ⟨i0, hi, hz0, hz1, hz2⟩ := info_parts info_u8
  refine wp_append_own _ s x 100 ho base 5 i0 (.int .u8 0) 1 1 Tryz.underlying100 hi hz0 hz1 hz2 rfl (by decide) v l.length (Lib.byteCells l) hs hown ⟨g, 0, none⟩ 1 1 [.int .u8 c.toNat] hx rfl ?_ ?_ ?_ ?_ hbase ?_
  · intro j u hj
    match j, hj with
    | 0, hj => simp at hj; subst hj; rw [addr_add]; exact hc
  · intro u hu; simp at hu; subst hu; rfl
  · unfold maxLen; omega
  · omega
  · intro v' w1 h1 h2 _
    refine h v' w1 ?_ (below_grown hown h2 hbase)
    have e : Lib.byteCells (l ++ [c]) = Lib.byteCells l ++ [.int .u8 c.toNat] := by rw [byteCells_append, byteCells_one]
    unfold OB
    rw [e, List.length_append]
    exact h1

/-- 'out = append(out, t...)', t a text -/
theorem wpList_append_text {W : World} {ops : Array Oper} {rest : List Oper} {o : Oper} {a : Act} {Q : Exit → Act → World → Prop} (hgd : o.guard = none) (s x : Operand)
    (ho : o.op = .call { callee := .builtin .append, args := #[s, x], argTypes := #[100, 9] })
    {base : Nat} {l : List UInt8} {v : Value} (hs : a.eval s = v) {t : ByteArray} (hx : a.eval x = .string t)
    (hown : OB base l v W) (hlen : l.length + t.size < 70368744177664) (hbase : base ≤ W.heap.size)
    (h : ∀ v' w', OB base (l ++ t.data.toList) v' w' → Below base W w' → wpList Tryz.prog ops Q rest (a.put o.dst v') w') : wpList Tryz.prog ops Q (o :: rest) a W := by
  obtain ⟨i0, hi, hz0, hz1, hz2⟩ := info_parts info_u8
  refine wpList_append_own_string _ hgd s x 100 9 ho base 5 i0 Tryz.underlying100 Tryz.underlying9 hi hz0 hz1 hz2 v l.length (Lib.byteCells l) hs hown t hx (by unfold maxLen; omega) (by omega) hbase ?_
  intro v' w1 h1 h2 _
  refine h v' w1 ?_ (below_grown hown h2 hbase)
  have e : Lib.byteCells (l ++ t.data.toList) = Lib.byteCells l ++ strCells t := by rw [byteCells_append, strCells_eq]
  unfold OB
  rw [e, List.length_append]
  exact h1
/-- 'out = append(out, c, d)': the two lie in a block of their own, laid just ahead -/
theorem wpList_append_two {W : World} {ops : Array Oper} {rest : List Oper} {o : Oper} {a : Act} {Q : Exit → Act → World → Prop} (hgd : o.guard = none) (s x : Operand)
    (ho : o.op = .call { callee := .builtin .append, args := #[s, x], argTypes := #[100, 100] })
    {base : Nat} {l : List UInt8} {v : Value} (hs : a.eval s = v) (hx : a.eval x = .slice (some ⟨W.heap.size, 0, none⟩) 2 2) (c d : UInt8) {n m : Int} (hn : n = (c.toNat : Int)) (hm : m = (d.toNat : Int))
    (hown : OB base l v W) (hlen : l.length < 70368744177664) (hbase : base ≤ W.heap.size)
    (h : ∀ v' w', OB base (l ++ [c, d]) v' w' → Below base W w' → wpList Tryz.prog ops Q rest (a.put o.dst v') w') : wpList Tryz.prog ops Q (o :: rest) a (W.alloc (.cells #[.int .u8 n, .int .u8 m] 5)) := by
  subst hn hm
  obtain ⟨i0, hi, hz0, hz1, hz2⟩ := info_parts info_u8
  have hA : OB base l v (W.alloc (.cells #[.int .u8 (c.toNat : Int), .int .u8 (d.toNat : Int)] 5)) := hown.alloc _
  refine wpList_append_own _ hgd s x 100 ho base 5 i0 (.int .u8 0) 1 1 Tryz.underlying100 hi hz0 hz1 hz2 rfl (by decide) v l.length (Lib.byteCells l) hs hA.out ⟨W.heap.size, 0, none⟩ 2 2 [.int .u8 c.toNat, .int .u8 d.toNat] hx rfl ?_ ?_ ?_ ?_ ?_ ?_
  · intro j u hj
    match j, hj with
    | 0, hj => simp at hj; subst hj; simp [addr_add]
    | 1, hj => simp at hj; subst hj; simp [addr_add]
  · intro u hu
    simp only [List.mem_cons, List.not_mem_nil, or_false] at hu
    rcases hu with rfl | rfl <;> rfl
  · unfold maxLen; omega
  · omega
  · simp; omega
  · intro v' w1 h1 h2 _
    refine h v' w1 ?_ (((Below.refl base W).alloc hbase _).trans (below_grown hA.out h2 (by simp; omega)))
    have e : Lib.byteCells (l ++ [c, d]) = Lib.byteCells l ++ [.int .u8 c.toNat, .int .u8 d.toNat] := by rw [byteCells_append]; rfl
    unfold OB
    rw [e, List.length_append]
    exact h1
end Go.Proofs.YtafbghlldlconaaGreatDoor

/-
  text.Lower, ref01.Lower, text.Same, law01.long: the walks.
-/
namespace Go.Proofs.YtafbghlldlconaaGreatDoor
set_option linter.unusedVariables false
set_option linter.unusedSimpArgs false
open Go.RowKit PT

/-- the cell of the row behind so many rounds -/
def lowAt (s : ByteArray) (k j : Nat) : Int := if j < k then ((lowB (s.data.toList.getD j 0)).toNat : Int) else ((s.data.toList.getD j 0).toNat : Int)
theorem lowAt_ge (s : ByteArray) (k j : Nat) (h : k ≤ j) : lowAt s k j = ((s.data.toList.getD j 0).toNat : Int) := by unfold lowAt; rw [if_neg (by omega)]
theorem lowAt_lt (s : ByteArray) (k j : Nat) (h : j < k) : lowAt s k j = ((lowB (s.data.toList.getD j 0)).toNat : Int) := by unfold lowAt; rw [if_pos h]
theorem lowAt_ne (s : ByteArray) (k j : Nat) (h : j ≠ k) : lowAt s (k + 1) j = lowAt s k j := by
  unfold lowAt
  by_cases h1 : j < k
  · rw [if_pos h1, if_pos (by omega)]
  · rw [if_neg h1, if_neg (by omega)]

/-- what the row holds behind k rounds -/
def LowRow (s : ByteArray) (b k : Nat) (wr : World) : Prop := ∀ j, j < s.size → wr.cell? ⟨b, j, none⟩ = some (.int .u8 (lowAt s k j)) ∧ wr.frozen? ⟨b, j, none⟩ = false

theorem LowRow.put {s : ByteArray} {b k : Nat} {wr : World} (h : LowRow s b k wr) (hk : k < s.size) (n : Int) (hn : n = ((lowB (s.data.toList.getD k 0)).toNat : Int)) :
    LowRow s b (k + 1) (wr.setCell ⟨b, k, none⟩ (.int .u8 n)) := by
  intro j hj
  by_cases e : j = k
  · subst e
    rw [lowAt_lt s (j + 1) j (by omega), ← hn]
    obtain ⟨hc, hf⟩ := h j hj
    exact ⟨World.cell?_setCell_same _ _ _ hc, by rw [World.frozen?_setCell]; exact hf⟩
  · obtain ⟨hc, hf⟩ := h j hj
    rw [lowAt_ne s k j e]
    exact ⟨by rw [World.cell?_setCell_other]; exact hc; (intro h; simp only [Addr.mk.injEq] at h; exact e h.2.1.symm), by rw [World.frozen?_setCell]; exact hf⟩
theorem LowRow.keep {s : ByteArray} {b k : Nat} {wr : World} (h : LowRow s b k wr) (hn : lowB (s.data.toList.getD k 0) = s.data.toList.getD k 0) : LowRow s b (k + 1) wr := by
  intro j hj
  obtain ⟨hc, hf⟩ := h j hj
  refine ⟨?_, hf⟩
  by_cases e : j = k
  · subst e
    rw [lowAt_lt s (j + 1) j (by omega), hn, hc, lowAt_ge _ _ _ (Nat.le_refl _)]
  · rw [lowAt_ne s k j e]; exact hc

set_option maxHeartbeats 800000 in
set_option maxRecDepth 100000 in
theorem lower_any (s : ByteArray) (w : World) (hs : s.size ≤ 140737488351232) :
    Calls Tryz.prog 54 #[.string s] w fun e w' => e = .returned (.string ⟨(low s.data.toList).toArray⟩) ∧ Below w.heap.size w w' := by
  have hcv := Lib.run_convert_string_bytes (P := Tryz.prog) w 9 100 5 s Tryz.underlying9 Tryz.underlying100 Tryz.underlying5
  go_enter Tryz.func54, Tryz.ntmps54
  go_wp2
  go_loopw [10] (fun i wr => ∃ k : Nat, k ≤ s.size ∧ i = .int .i64 k ∧ LowRow s w.heap.size k wr ∧ Below w.heap.size w wr) (fun i _ => s.size - (intOf i).toNat)
  case atStart =>
    refine ⟨0, Nat.zero_le _, rfl, fun j hj => ⟨?_, frozen_bytesWorld w _ s j hj⟩, bytesWorld_below w _ s⟩
    rw [Lib.bytesWorld_cell w _ s j hj, lowAt_ge _ _ _ (Nat.zero_le _)]
  case round =>
    obtain ⟨k, hk, rfl, hrow, hbel⟩ := hrel
    by_cases hlt : k < s.size
    · obtain ⟨hc, hf⟩ := hrow k hlt
      have hg : s.data.toList.getD k 0 = s.data[k] := by simp [List.getD, hlt]
      rw [lowAt_ge _ _ _ (Nat.le_refl _), hg] at hc
      have HG := Lib.hid hg
      clear hg
      by_cases hl : 65 ≤ s.data[k].toNat ∧ s.data[k].toNat ≤ 90
      · have h1 : (65 : Int) ≤ (s.data[k].toNat : Int) := by omega
        have h2 : (s.data[k].toNat : Int) ≤ (90 : Int) := by omega
        have hy := Lib.hid (lowB_yes s.data[k] hl.1 hl.2)
        have hR := hrow.put hlt ((s.data[k].toNat : Int) + 97 - 65) (by rw [HG.out, hy.out]; omega)
        clear hl
        go_wp2
        go_roundw
        case rel => exact ⟨k + 1, by omega, by go_num, hR, hbel.setCell (Nat.le_refl _) _⟩
        case measure => simp [intOf]; omega
      · have hR := hrow.keep (by rw [HG.out]; exact lowB_no _ hl)
        go_wp2
        all_goals
          go_roundw
          case rel => exact ⟨k + 1, by omega, by go_num, hR, hbel⟩
          case measure => simp [intOf]; omega
    · have hL : (low s.data.toList).length = s.size := by simp [low]
      have hcb := run_convert_bytes_back (P := Tryz.prog) wr 100 9 5 ⟨w.heap.size, 0, none⟩ (grownCap w s.size 0 5) (low s.data.toList) Tryz.underlying100 Tryz.underlying5 Tryz.underlying9 (fun j hj => by
        have hj' : j < s.size := by omega
        have := (hrow j hj').1
        rw [lowAt_lt s k j (by omega)] at this
        rw [addr_add, Nat.zero_add, this]
        simp [low, List.getD, hj'])
      rw [hL] at hcb
      clear hL
      go_wp2
      go_ret
      exact ⟨rfl, hbel⟩

theorem low_take (s : ByteArray) (k : Nat) (h : k < s.size) : low (s.data.toList.take (k + 1)) = low (s.data.toList.take k) ++ [lowB s[k]] := by
  rw [List.take_succ_eq_append_getElem (by simpa using h)]
  simp [low]; rfl

set_option maxHeartbeats 800000 in
set_option maxRecDepth 100000 in
theorem refLower_any (s : ByteArray) (w : World) (hs : s.size ≤ 65536) :
    Calls Tryz.prog 69 #[.string s] w fun e w' => e = .returned (.string ⟨(low s.data.toList).toArray⟩) ∧ Below w.heap.size w w' := by
  go_enter Tryz.func69, Tryz.ntmps69
  go_wp2
  go_loopw [4, 3] (fun i v wr => ∃ k : Nat, k ≤ s.size ∧ i = .int .i64 k ∧ OB w.heap.size (low (s.data.toList.take k)) v wr ∧ Below w.heap.size w wr) (fun i _ _ => s.size - (intOf i).toNat)
  case atStart => exact ⟨0, Nat.zero_le _, rfl, OB.nil _ _, Below.refl _ _⟩
  case round =>
    obtain ⟨k, hk, rfl, hown, hbel⟩ := hrel
    by_cases hlt : k < s.size
    · have hT := Lib.hid (low_take s k hlt)
      have hlen : (low (s.data.toList.take k)).length ≤ 65536 := by simp [low]; omega
      have hz := hbel.size
      by_cases hl : 65 ≤ s[k].toNat ∧ s[k].toNat ≤ 90
      · have h1 : (65 : Int) ≤ (s[k].toNat : Int) := by omega
        have h2 : (s[k].toNat : Int) ≤ (90 : Int) := by omega
        have hy := Lib.hid (lowB_yes s[k] hl.1 hl.2)
        clear hl
        go_wp2_with (at_builtin; refine wpList_append_byte rfl _ _ rfl rfl rfl (lowB s[k]) hy.out.symm hown (by omega) hz ?_; intro v' w1 hown' hb')
        go_roundw
        case rel => exact ⟨k + 1, by omega, by go_num, by rw [hT.out]; exact hown', hbel.trans hb'⟩
        case measure => simp [intOf]; omega
      · have hy := Lib.hid (lowB_no s[k] hl)
        go_wp2_with (at_builtin; refine wpList_append_byte rfl _ _ rfl rfl rfl s[k] rfl hown (by omega) hz ?_; intro v' w1 hown' hb')
        all_goals
          go_roundw
          case rel => exact ⟨k + 1, by omega, by go_num, by rw [hT.out, hy.out]; exact hown', hbel.trans hb'⟩
          case measure => simp [intOf]; omega
    · have hcb := hown.conv
      go_wp2
      go_ret
      exact ⟨by rw [List.take_of_length_le (by simp; omega)]; rfl, hbel⟩
end Go.Proofs.YtafbghlldlconaaGreatDoor

/-
  KINDS OF NODES: kinds.attr, kinds.Of, ref11.Of; what goes with a kind: the walks.
-/
namespace Go.Proofs.YtafbghlldlconaaGreatDoor
set_option linter.unusedVariables false
set_option linter.unusedSimpArgs false
open Go.RowKit PT

theorem kinds36 (k : Int) (h0 : 0 ≤ k) (h1 : k ≤ 35) : k = 0 ∨ k = 1 ∨ k = 2 ∨ k = 3 ∨ k = 4 ∨ k = 5 ∨ k = 6 ∨ k = 7 ∨ k = 8 ∨ k = 9 ∨ k = 10 ∨ k = 11 ∨ k = 12 ∨ k = 13 ∨ k = 14 ∨ k = 15 ∨ k = 16 ∨ k = 17 ∨ k = 18 ∨ k = 19 ∨ k = 20 ∨ k = 21 ∨ k = 22 ∨ k = 23 ∨ k = 24 ∨ k = 25 ∨ k = 26 ∨ k = 27 ∨ k = 28 ∨ k = 29 ∨ k = 30 ∨ k = 31 ∨ k = 32 ∨ k = 33 ∨ k = 34 ∨ k = 35 := by omega
def submB (k : Int) : Bool := decide (k ∈ ([1, 2, 3, 4, 5, 6, 7, 8, 9, 10, 11, 12, 13, 14, 15, 16, 17, 18, 19, 20, 21, 22, 23, 24, 25, 26, 27] : List Int))
def listB (k : Int) : Bool := decide (k ∈ ([1, 2, 3, 4, 5, 6, 7, 8, 9, 10, 11, 12, 13, 14, 15, 16, 17, 18, 19, 21, 22, 23, 24, 25, 26, 27, 28, 29] : List Int))
def labelB (k : Int) : Bool := decide (k ∈ ([2, 3, 4, 5, 6, 7, 8, 9, 10, 11, 12, 13, 14, 15, 16, 17, 18, 19, 20, 21, 22, 23, 24, 25, 26, 27, 28] : List Int))
def firesB (k : Int) : Bool := decide (k ∈ ([19, 20, 25] : List Int))
set_option maxHeartbeats 4000000 in
set_option maxRecDepth 100000 in
theorem kindsFires_any (k : Int) (h0 : 0 ≤ k) (h1 : k ≤ 35) (w : World) : Calls Tryz.prog 62 #[.int .i64 k] w fun e w' => e = .returned (.bool (firesB k)) ∧ w = w' := by
  rcases kinds36 k h0 h1 with rfl | rfl | rfl | rfl | rfl | rfl | rfl | rfl | rfl | rfl | rfl | rfl | rfl | rfl | rfl | rfl | rfl | rfl | rfl | rfl | rfl | rfl | rfl | rfl | rfl | rfl | rfl | rfl | rfl | rfl | rfl | rfl | rfl | rfl | rfl | rfl
  all_goals
    go_enter Tryz.func62, Tryz.ntmps62
    go_wp2
    go_ret
    exact ⟨rfl, rfl⟩
def blocksB (k : Int) : Bool := decide (k ∈ ([2, 3, 4, 5, 6, 7, 8, 9, 10, 11, 12, 13] : List Int))
set_option maxHeartbeats 4000000 in
set_option maxRecDepth 100000 in
theorem refIs1_any (k : Int) (h0 : 0 ≤ k) (h1 : k ≤ 35) (w : World) : Calls Tryz.prog 74 #[.int .i64 1, .int .i64 k] w fun e w' => e = .returned (.bool (listB k)) ∧ w = w' := by
  rcases kinds36 k h0 h1 with rfl | rfl | rfl | rfl | rfl | rfl | rfl | rfl | rfl | rfl | rfl | rfl | rfl | rfl | rfl | rfl | rfl | rfl | rfl | rfl | rfl | rfl | rfl | rfl | rfl | rfl | rfl | rfl | rfl | rfl | rfl | rfl | rfl | rfl | rfl | rfl
  all_goals
    go_enter Tryz.func74, Tryz.ntmps74
    go_wp2
    go_ret
    exact ⟨rfl, rfl⟩
set_option maxHeartbeats 4000000 in
set_option maxRecDepth 100000 in
theorem refIs2_any (k : Int) (h0 : 0 ≤ k) (h1 : k ≤ 35) (w : World) : Calls Tryz.prog 74 #[.int .i64 2, .int .i64 k] w fun e w' => e = .returned (.bool (submB k)) ∧ w = w' := by
  rcases kinds36 k h0 h1 with rfl | rfl | rfl | rfl | rfl | rfl | rfl | rfl | rfl | rfl | rfl | rfl | rfl | rfl | rfl | rfl | rfl | rfl | rfl | rfl | rfl | rfl | rfl | rfl | rfl | rfl | rfl | rfl | rfl | rfl | rfl | rfl | rfl | rfl | rfl | rfl
  all_goals
    go_enter Tryz.func74, Tryz.ntmps74
    go_wp2
    go_ret
    exact ⟨rfl, rfl⟩
set_option maxHeartbeats 4000000 in
set_option maxRecDepth 100000 in
theorem refIs4_any (k : Int) (h0 : 0 ≤ k) (h1 : k ≤ 35) (w : World) : Calls Tryz.prog 74 #[.int .i64 4, .int .i64 k] w fun e w' => e = .returned (.bool (labelB k)) ∧ w = w' := by
  rcases kinds36 k h0 h1 with rfl | rfl | rfl | rfl | rfl | rfl | rfl | rfl | rfl | rfl | rfl | rfl | rfl | rfl | rfl | rfl | rfl | rfl | rfl | rfl | rfl | rfl | rfl | rfl | rfl | rfl | rfl | rfl | rfl | rfl | rfl | rfl | rfl | rfl | rfl | rfl
  all_goals
    go_enter Tryz.func74, Tryz.ntmps74
    go_wp2
    go_ret
    exact ⟨rfl, rfl⟩
set_option maxHeartbeats 4000000 in
set_option maxRecDepth 100000 in
theorem refIs5_any (k : Int) (h0 : 0 ≤ k) (h1 : k ≤ 35) (w : World) : Calls Tryz.prog 74 #[.int .i64 5, .int .i64 k] w fun e w' => e = .returned (.bool (firesB k)) ∧ w = w' := by
  rcases kinds36 k h0 h1 with rfl | rfl | rfl | rfl | rfl | rfl | rfl | rfl | rfl | rfl | rfl | rfl | rfl | rfl | rfl | rfl | rfl | rfl | rfl | rfl | rfl | rfl | rfl | rfl | rfl | rfl | rfl | rfl | rfl | rfl | rfl | rfl | rfl | rfl | rfl | rfl
  all_goals
    go_enter Tryz.func74, Tryz.ntmps74
    go_wp2
    go_ret
    exact ⟨rfl, rfl⟩
set_option maxHeartbeats 4000000 in
set_option maxRecDepth 100000 in
theorem refIs6_any (k : Int) (h0 : 0 ≤ k) (h1 : k ≤ 35) (w : World) : Calls Tryz.prog 74 #[.int .i64 6, .int .i64 k] w fun e w' => e = .returned (.bool (blocksB k)) ∧ w = w' := by
  rcases kinds36 k h0 h1 with rfl | rfl | rfl | rfl | rfl | rfl | rfl | rfl | rfl | rfl | rfl | rfl | rfl | rfl | rfl | rfl | rfl | rfl | rfl | rfl | rfl | rfl | rfl | rfl | rfl | rfl | rfl | rfl | rfl | rfl | rfl | rfl | rfl | rfl | rfl | rfl
  all_goals
    go_enter Tryz.func74, Tryz.ntmps74
    go_wp2
    go_ret
    exact ⟨rfl, rfl⟩
end Go.Proofs.YtafbghlldlconaaGreatDoor

/-
  HOW A KIND HAS ITS VALUE: kinds.Mode, ref11.Mode, control.button, ref14.pushes: the walks (printed by a program: 36 kinds each).
-/
namespace Go.Proofs.YtafbghlldlconaaGreatDoor
set_option linter.unusedVariables false
set_option linter.unusedSimpArgs false
open Go.RowKit PT

def modeF (k : Int) : Int := if k ∈ ([2, 3, 4, 5, 6, 7, 8, 9, 10, 11, 12, 13, 14, 15, 24, 28] : List Int) then 1 else if k ∈ ([1, 19, 20, 21, 22] : List Int) then 2 else if k = 16 ∨ k = 17 then 3 else if k = 18 then 4 else 0
def pushB (k : Int) : Bool := decide (k ∈ ([25, 26, 27] : List Int))
theorem modeF_cases (k : Int) : modeF k = 0 ∨ modeF k = 1 ∨ modeF k = 2 ∨ modeF k = 3 ∨ modeF k = 4 := by
  unfold modeF
  split
  · simp
  · split
    · simp
    · split
      · simp
      · split <;> simp
set_option maxHeartbeats 4000000 in
set_option maxRecDepth 100000 in
theorem kindsMode_any (k : Int) (h0 : 0 ≤ k) (h1 : k ≤ 35) (w : World) : Calls Tryz.prog 136 #[.int .i64 k] w fun e w' => e = .returned (.int .i64 (modeF k)) ∧ w = w' := by
  rcases kinds36 k h0 h1 with rfl | rfl | rfl | rfl | rfl | rfl | rfl | rfl | rfl | rfl | rfl | rfl | rfl | rfl | rfl | rfl | rfl | rfl | rfl | rfl | rfl | rfl | rfl | rfl | rfl | rfl | rfl | rfl | rfl | rfl | rfl | rfl | rfl | rfl | rfl | rfl
  all_goals
    go_enter Tryz.func136, Tryz.ntmps136
    go_wp2
    go_ret
    exact ⟨rfl, rfl⟩
set_option maxHeartbeats 4000000 in
set_option maxRecDepth 100000 in
theorem refMode_any (k : Int) (h0 : 0 ≤ k) (h1 : k ≤ 35) (w : World) : Calls Tryz.prog 114 #[.int .i64 k] w fun e w' => e = .returned (.int .i64 (modeF k)) ∧ w = w' := by
  rcases kinds36 k h0 h1 with rfl | rfl | rfl | rfl | rfl | rfl | rfl | rfl | rfl | rfl | rfl | rfl | rfl | rfl | rfl | rfl | rfl | rfl | rfl | rfl | rfl | rfl | rfl | rfl | rfl | rfl | rfl | rfl | rfl | rfl | rfl | rfl | rfl | rfl | rfl | rfl
  all_goals
    go_enter Tryz.func114, Tryz.ntmps114
    go_wp2
    go_ret
    exact ⟨rfl, rfl⟩
set_option maxHeartbeats 4000000 in
set_option maxRecDepth 100000 in
theorem ctlButton_any (k : Int) (h0 : 0 ≤ k) (h1 : k ≤ 35) (w : World) : Calls Tryz.prog 137 #[.int .i64 k] w fun e w' => e = .returned (.bool (pushB k)) ∧ w = w' := by
  rcases kinds36 k h0 h1 with rfl | rfl | rfl | rfl | rfl | rfl | rfl | rfl | rfl | rfl | rfl | rfl | rfl | rfl | rfl | rfl | rfl | rfl | rfl | rfl | rfl | rfl | rfl | rfl | rfl | rfl | rfl | rfl | rfl | rfl | rfl | rfl | rfl | rfl | rfl | rfl
  all_goals
    go_enter Tryz.func137, Tryz.ntmps137
    go_wp2
    go_ret
    exact ⟨rfl, rfl⟩
set_option maxHeartbeats 4000000 in
set_option maxRecDepth 100000 in
theorem refPushes_any (k : Int) (h0 : 0 ≤ k) (h1 : k ≤ 35) (w : World) : Calls Tryz.prog 115 #[.int .i64 k] w fun e w' => e = .returned (.bool (pushB k)) ∧ w = w' := by
  rcases kinds36 k h0 h1 with rfl | rfl | rfl | rfl | rfl | rfl | rfl | rfl | rfl | rfl | rfl | rfl | rfl | rfl | rfl | rfl | rfl | rfl | rfl | rfl | rfl | rfl | rfl | rfl | rfl | rfl | rfl | rfl | rfl | rfl | rfl | rfl | rfl | rfl | rfl | rfl
  all_goals
    go_enter Tryz.func115, Tryz.ntmps115
    go_wp2
    go_ret
    exact ⟨rfl, rfl⟩
end Go.Proofs.YtafbghlldlconaaGreatDoor

/-
  ROWS OF ENTRIES (api.Entry): one that came in, and one that the call itself builds.
-/
namespace Go.Proofs.YtafbghlldlconaaGreatDoor
set_option linter.unusedVariables false
set_option linter.unusedSimpArgs false
open Go.RowKit Go.Lib

structure Ent where
  n : ByteArray
  v : ByteArray
  f : Bool
  fn : ByteArray
  t : ByteArray
def entCells (e : Ent) : List Value := [.string e.n, .string e.v, .bool e.f, .string e.fn, .string e.t]
def entV (e : Ent) : Value := .agg #[.string e.n, .string e.v, .bool e.f, .string e.fn, .string e.t]
/-- the value v is a slice of entries that reads es in the world w -/
def Ents (es : List Ent) (v : Value) (w : World) : Prop :=
  (es = [] ∧ ∃ a cap, v = .slice a 0 cap ∧ (a = none → cap = 0)) ∨ ∃ b o cap, v = .slice (some ⟨b, o, none⟩) es.length cap ∧ b < w.heap.size ∧ ∀ j e, es[j]? = some e → ∀ i u, (entCells e)[i]? = some u → w.cell? ⟨b, o + j * 5 + i, none⟩ = some u
theorem Ents.kept {es : List Ent} {v : Value} {w w' : World} (h : Ents es v w) (hb : Below w.heap.size w w') : Ents es v w' := by
  rcases h with h | ⟨b, o, cap, rfl, h1, h4⟩
  · exact .inl h
  · refine .inr ⟨b, o, cap, rfl, by have := hb.size; omega, fun j e he i u hu => ?_⟩
    rw [← h4 j e he i u hu]
    simp only [World.cell?, hb.block b h1]
theorem Ents.len {es : List Ent} {v : Value} {w : World} (h : Ents es v w) : ∃ a cap, v = .slice a es.length cap := by
  rcases h with ⟨rfl, a, cap, rfl, _⟩ | ⟨b, o, cap, rfl, _⟩
  · exact ⟨_, _, rfl⟩
  · exact ⟨_, _, rfl⟩
/-- the five cells of an entry -/
theorem Ents.five {es : List Ent} {v : Value} {w : World} (h : Ents es v w) {k : Nat} (hk : k < es.length) : ∃ b o cap, v = .slice (some ⟨b, o, none⟩) es.length cap ∧ b < w.heap.size ∧
    w.cell? ⟨b, o + k * 5, none⟩ = some (.string es[k].n) ∧ w.cell? ⟨b, o + k * 5 + 1, none⟩ = some (.string es[k].v) ∧ w.cell? ⟨b, o + k * 5 + 2, none⟩ = some (.bool es[k].f) ∧
    w.cell? ⟨b, o + k * 5 + 3, none⟩ = some (.string es[k].fn) ∧ w.cell? ⟨b, o + k * 5 + 4, none⟩ = some (.string es[k].t) := by
  rcases h with ⟨rfl, _⟩ | ⟨b, o, cap, rfl, h1, h4⟩
  · simp at hk
  · have hc := h4 k es[k] (List.getElem?_eq_getElem hk)
    exact ⟨b, o, cap, rfl, h1, hc 0 _ rfl, hc 1 _ rfl, hc 2 _ rfl, hc 3 _ rfl, hc 4 _ rfl⟩

theorem info_ent : (Tryz.prog.info? 73).map (fun i => (i.zero, i.size, i.bytes)) = some (some (.agg #[.string ⟨#[]⟩, .string ⟨#[]⟩, .bool false, .string ⟨#[]⟩, .string ⟨#[]⟩]), 5, 72) := by kernel_rfl
/-- the value v is a slice of entries that the call itself has built since 'base' blocks lay -/
def OE (base : Nat) (es : List Ent) (v : Value) (w : World) : Prop := w.ownsRow base 73 5 v es.length (es.flatMap entCells)
theorem OE.nil (base : Nat) (w : World) : OE base [] (.slice none 0 0) w := World.ownsRow_nil w base _ _
theorem OE.alloc {base : Nat} {l : List Ent} {v : Value} {w : World} (h : OE base l v w) (o : Obj) : OE base l v (w.alloc o) := World.ownsRow.alloc h o
theorem own_kept {base : Nat} {e : TypeId} {n m : Nat} {xs : List Value} {v : Value} {w w' : World} (h : w.ownsRow base e n v m xs) (hb : Below w.heap.size w w') : w'.ownsRow base e n v m xs := by
  obtain ⟨h1, ⟨rfl, hn⟩ | ⟨g, cap, cur, rfl, h2, h3, h4⟩⟩ := h
  · exact ⟨h1, .inl ⟨rfl, hn⟩⟩
  · refine ⟨h1, .inr ⟨g, cap, cur, rfl, h2, ?_, h4⟩⟩
    have hlt : g < w.heap.size := (Array.getElem?_eq_some_iff.1 h3).1
    rw [hb.block g hlt]; exact h3
theorem OE.kept {base : Nat} {l : List Ent} {v : Value} {w w' : World} (h : OE base l v w) (hb : Below w.heap.size w w') : OE base l v w' := own_kept h hb
theorem entCells_len (e : Ent) : (entCells e).length = 5 := rfl
theorem flat_at : ∀ (es : List Ent) (j : Nat) (e : Ent), es[j]? = some e → ∀ i u, (entCells e)[i]? = some u → (es.flatMap entCells)[j * 5 + i]? = some u
  | [], _, _, h => by simp at h
  | x :: r, 0, e, h => fun i u hu => by
    simp at h; subst h
    have hi : i < 5 := (List.getElem?_eq_some_iff.1 hu).1
    rw [List.flatMap_cons, List.getElem?_append_left (by rw [entCells_len]; omega), Nat.zero_mul, Nat.zero_add]
    exact hu
  | x :: r, j + 1, e, h => fun i u hu => by
    simp at h
    have := flat_at r j e h i u hu
    rw [List.flatMap_cons, List.getElem?_append_right (by rw [entCells_len]; omega), entCells_len, show (j + 1) * 5 + i - 5 = j * 5 + i by omega]
    exact this
theorem entflat_len (es : List Ent) : (es.flatMap entCells).length = es.length * 5 := by
  induction es with
  | nil => rfl
  | cons e r ih => rw [List.flatMap_cons, List.length_append, ih, entCells_len, List.length_cons]; omega
theorem OE.ents {base : Nat} {es : List Ent} {v : Value} {w : World} (h : OE base es v w) : Ents es v w := by
  obtain ⟨_, ⟨rfl, hn⟩ | ⟨g, cap, cur, rfl, h2, h3, h4, h5, h6, h7⟩⟩ := h
  · exact .inl ⟨List.length_eq_zero_iff.1 hn, none, 0, rfl, fun _ => rfl⟩
  · refine .inr ⟨g, 0, cap, rfl, (Array.getElem?_eq_some_iff.1 h3).1, fun j e he i u hu => ?_⟩
    have hf := flat_at es j e he i u hu
    have hj : j * 5 + i < es.length * 5 := by
      rw [← entflat_len]; exact (List.getElem?_eq_some_iff.1 hf).1
    rw [← h7, List.getElem?_take_of_lt hj] at hf
    rw [Nat.zero_add]
    simp only [World.cell?, h3]
    simpa using hf

/-- 'out = append(out, e)': the entry lies in a block of its own, laid just ahead -/
theorem wpList_append_ent {W : World} {ops : Array Oper} {rest : List Oper} {o : Oper} {a : Act} {Q : Exit → Act → World → Prop} (hgd : o.guard = none) (s x : Operand)
    (ho : o.op = .call { callee := .builtin .append, args := #[s, x], argTypes := #[29, 29] })
    {base : Nat} {l : List Ent} {v : Value} (hs : a.eval s = v) (hx : a.eval x = .slice (some ⟨W.heap.size, 0, none⟩) 1 1) (e : Ent)
    (hown : OE base l v W) (hlen : l.length < 1000000000) (hbase : base ≤ W.heap.size)
    (h : ∀ v' w', OE base (l ++ [e]) v' w' → Below base W w' → wpList Tryz.prog ops Q rest (a.put o.dst v') w') : wpList Tryz.prog ops Q (o :: rest) a (W.alloc (.cells #[.string e.n, .string e.v, .bool e.f, .string e.fn, .string e.t] 73)) := by
  obtain ⟨i0, hi, hz0, hz1, hz2⟩ := info_parts info_ent
  have hA : (W.alloc (.cells #[.string e.n, .string e.v, .bool e.f, .string e.fn, .string e.t] 73)).ownsRow base 73 5 v l.length (l.flatMap entCells) := World.ownsRow.alloc hown _
  refine wpList_append_own _ hgd s x 29 ho base 73 i0 _ 5 72 Tryz.underlying29 hi hz0 hz1 hz2 rfl (by decide) v l.length (l.flatMap entCells) hs hA ⟨W.heap.size, 0, none⟩ 1 1 (entCells e) hx rfl ?_ ?_ ?_ ?_ ?_ ?_
  · intro j u hj
    have hn := Go.heap_alloc_new W (.cells #[.string e.n, .string e.v, .bool e.f, .string e.fn, .string e.t] 73)
    rw [addr_add, Nat.zero_add]
    simp only [World.cell?, hn]
    simpa [entCells] using hj
  · intro u hu
    simp only [entCells, List.mem_cons, List.not_mem_nil, or_false] at hu
    rcases hu with rfl | rfl | rfl | rfl | rfl <;> rfl
  · unfold maxLen; omega
  · omega
  · simp; omega
  · intro v' w1 h1 h2 _
    have hg : Below base (W.alloc (.cells #[.string e.n, .string e.v, .bool e.f, .string e.fn, .string e.t] 73)) w1 := by
      refine (Below.refl base _).grown h2 (by simp; omega) (fun k hk => (hA.lt k hk).1)
    refine h v' w1 ?_ (((Below.refl base W).alloc hbase _).trans hg)
    unfold OE
    rw [List.length_append, List.flatMap_append, List.flatMap_cons, List.flatMap_nil, List.append_nil]
    exact h1
/-- the same, the block's number being told otherwise -/
theorem wpList_append_ent_at {W : World} {ops : Array Oper} {rest : List Oper} {o : Oper} {a : Act} {Q : Exit → Act → World → Prop} (hgd : o.guard = none) (s x : Operand)
    (ho : o.op = .call { callee := .builtin .append, args := #[s, x], argTypes := #[29, 29] })
    {base : Nat} {l : List Ent} {v : Value} (g : Nat) (hg : g = W.heap.size) (hs : a.eval s = v) (hx : a.eval x = .slice (some ⟨g, 0, none⟩) 1 1) (e : Ent)
    (hown : OE base l v W) (hlen : l.length < 1000000000) (hbase : base ≤ W.heap.size)
    (h : ∀ v' w', OE base (l ++ [e]) v' w' → Below base W w' → wpList Tryz.prog ops Q rest (a.put o.dst v') w') : wpList Tryz.prog ops Q (o :: rest) a (W.alloc (.cells #[.string e.n, .string e.v, .bool e.f, .string e.fn, .string e.t] 73)) := by
  subst hg
  exact wpList_append_ent hgd s x ho hs hx e hown hlen hbase h
end Go.Proofs.YtafbghlldlconaaGreatDoor

/-
  ref14.SameFiles (two rows that read the same), ref19.Long, append(l, more..): the walks.
-/
namespace Go.Proofs.YtafbghlldlconaaGreatDoor
set_option linter.unusedVariables false
set_option linter.unusedSimpArgs false
open Go.RowKit Go.Lib

/-- an operation whose guard holds -/
theorem wpList_unguard {P : Program} {ops : Array Oper} {Q : Exit → Act → World → Prop} {a : Act} {w : World} {rest : List Oper} {o : Oper} (hw : Region.wanted o (yielded ops a.tmps) = true)
    (h : wpList P ops Q ({ o with guard := none } :: rest) a w) : wpList P ops Q (o :: rest) a w := by
  unfold wpList at h ⊢
  rw [if_pos hw]
  rw [if_pos (by simp [Region.wanted])] at h
  exact h
theorem OE.lit (w : World) : OE w.heap.size [] (.slice (some ⟨w.heap.size, 0, none⟩) 0 0) (w.alloc (.cells #[] 73)) := World.ownsRow_made w #[] 0 (Nat.le_refl _) (Nat.zero_le _) rfl
/-- 'append(out, l...)' -/
theorem wpList_append_ents {W : World} {ops : Array Oper} {rest : List Oper} {o : Oper} {a : Act} {Q : Exit → Act → World → Prop} (hgd : o.guard = none) (s x : Operand)
    (ho : o.op = .call { callee := .builtin .append, args := #[s, x], argTypes := #[29, 29] })
    {base : Nat} {l es : List Ent} {v u : Value} (hs : a.eval s = v) (hx : a.eval x = u) (hE : Ents es u W)
    (hown : OE base l v W) (hlen : l.length + es.length < 1000000000) (hbase : base ≤ W.heap.size) (hn : v ≠ .slice none 0 0)
    (h : ∀ v' w', OE base (l ++ es) v' w' → v' ≠ .slice none 0 0 → Below base W w' → wpList Tryz.prog ops Q rest (a.put o.dst v') w') : wpList Tryz.prog ops Q (o :: rest) a W := by
  obtain ⟨i0, hi, hz0, hz1, hz2⟩ := info_parts info_ent
  have key : ∀ (ad : Addr) (c : Nat) (_hu : u = .slice (some ad) es.length c) (_hnews : ∀ j y, (es.flatMap entCells)[j]? = some y → W.cell? (ad.add j) = some y), wpList Tryz.prog ops Q (o :: rest) a W := by
    intro ad c hu hnews
    subst hu
    refine wpList_append_own _ hgd s x 29 ho base 73 i0 _ 5 72 Tryz.underlying29 hi hz0 hz1 hz2 rfl (by decide) v l.length (l.flatMap entCells) hs hown ad es.length c (es.flatMap entCells) hx (entflat_len es) hnews ?_ ?_ ?_ hbase ?_
    · intro u hu
      rw [List.mem_flatMap] at hu
      obtain ⟨e, _, hu⟩ := hu
      simp only [entCells, List.mem_cons, List.not_mem_nil, or_false] at hu
      rcases hu with rfl | rfl | rfl | rfl | rfl <;> rfl
    · unfold maxLen; omega
    · omega
    · intro v' w1 h1 h2 h3
      refine h v' w1 ?_ (fun e => hn (h3.1 e).1) ((Below.refl base W).grown h2 hbase (fun k hk => (World.ownsRow.lt hown k hk).1))
      unfold OE
      rw [List.length_append, List.flatMap_append]
      exact h1
  rcases hE with ⟨rfl, ad, c, rfl, hcz⟩ | ⟨b, off, c, rfl, hb, hc⟩
  · cases ad with
    | some ad => exact key ad c rfl (fun j y hj => by simp at hj)
    | none =>
      obtain ⟨h1, ⟨rfl, _⟩ | ⟨g, cap, cur, rfl, h2, h3, h4, h5⟩⟩ := hown
      · exact absurd rfl hn
      · have hr := Go.run_append_room_src (P := Tryz.prog) W 29 29 o.type 73 i0 Tryz.underlying29 hi g 0 l.length cap (.slice none 0 c) 0 [] (Go.Src.ofNil W Tryz.underlying29 c) (by omega) (fun j hj => by simp at hj) (fun j hj => by simp at hj)
        refine wpList_plain hgd fun K hK => ?_
        unfold Oper.wp execOp
        simp only [ho, resolve, invoke, builtin, Sem.run_bind, Sem.run_pure, Result.andThen_ok, List.map_toArray, List.map_cons, List.map_nil, hs, hx, hr]
        refine hK _ _ (h _ _ ?_ (by simp) ?_)
        · rw [List.append_nil]
          exact ⟨h1, .inr ⟨g, cap, cur, rfl, h2, h3, h4, h5⟩⟩
        · exact Below.refl _ _
  · refine key ⟨b, off, none⟩ c rfl (fun j y hj => ?_)
    have hjl : j < es.length * 5 := by rw [← entflat_len]; exact (List.getElem?_eq_some_iff.1 hj).1
    have hq : j / 5 < es.length := by omega
    have hcell := hc (j / 5) es[j / 5] (List.getElem?_eq_getElem hq) (j % 5) ((entCells es[j / 5])[j % 5]'(by rw [entCells_len]; omega)) (List.getElem?_eq_getElem _)
    have hf := flat_at es (j / 5) es[j / 5] (List.getElem?_eq_getElem hq) (j % 5) ((entCells es[j / 5])[j % 5]'(by rw [entCells_len]; omega)) (List.getElem?_eq_getElem _)
    have e5 : j / 5 * 5 + j % 5 = j := by omega
    rw [e5, hj] at hf
    cases hf
    rw [addr_add, show off + j = off + j / 5 * 5 + j % 5 by omega]
    exact hcell

set_option maxHeartbeats 1000000 in
set_option maxRecDepth 100000 in
theorem sameFiles_yes (es : List Ent) (u v : Value) (w : World) (hU : Ents es u w) (hV : Ents es v w) (hl : es.length ≤ 1000000000000000000) :
    Calls Tryz.prog 10 #[u, v] w fun e w' => e = .returned (.bool true) ∧ Below w.heap.size w w' := by
  obtain ⟨a, cap, rfl⟩ := hU.len
  obtain ⟨a', cap', rfl⟩ := hV.len
  go_enter Tryz.func10, Tryz.ntmps10
  go_wp2_with fail
  go_loopw [5] (fun i wr => ∃ k : Nat, k ≤ es.length ∧ i = .int .i64 k ∧ Below w.heap.size w wr) (fun i _ => es.length - (intOf i).toNat)
  case atStart => exact ⟨0, Nat.zero_le _, rfl, Below.refl _ _⟩
  case round =>
    obtain ⟨k, hk, rfl, hbel⟩ := hrel
    by_cases hlt : k < es.length
    · obtain ⟨b, o, c1, hv, hb, hc0, hc1, hc2, hc3, hc4⟩ := (hU.kept hbel).five hlt
      obtain ⟨b', o', c1', hv', hb', hc0', hc1', hc2', hc3', hc4'⟩ := (hV.kept hbel).five hlt
      cases hv
      cases hv'
      generalize es[k] = x at *
      go_wp2_with fail
      go_quiet (fail)
      go_wp2_with fail
      go_roundw
      case rel => exact ⟨k + 1, by omega, by go_num, hbel.trans ((below_draws wr _).mono hbel.size)⟩
      case measure => simp [intOf]; omega
    · obtain rfl : k = es.length := by omega
      go_wp2_with fail
      go_ret
      exact ⟨rfl, hbel⟩
def longE (x : Ent) : Bool := decide (2000 < x.n.size) || (decide (2000 < x.v.size) || (decide (2000 < x.fn.size) || decide (2000 < x.t.size)))
def longB (es : List Ent) : Bool := decide (60 < es.length) || es.any longE
set_option maxHeartbeats 1000000 in
set_option maxRecDepth 100000 in
theorem long19_any (es : List Ent) (u : Value) (w : World) (hU : Ents es u w) :
    Calls Tryz.prog 16 #[u] w fun e w' => e = .returned (.bool (longB es)) ∧ w = w' := by
  obtain ⟨a, cap, rfl⟩ := hU.len
  go_enter Tryz.func16, Tryz.ntmps16
  by_cases h60 : 60 < es.length
  · have h60' : (60 : Int) < (es.length : Int) := by omega
    have hR := Lib.hid (show longB es = true by unfold longB; rw [decide_eq_true h60]; rfl)
    go_wp2_with fail
    go_ret
    exact ⟨ret_bool hR.out.symm, rfl⟩
  · have h60' : decide ((60 : Int) < (es.length : Int)) = false := by simp; omega
    have hR := Lib.hid (show longB es = es.any longE by unfold longB; rw [decide_eq_false h60]; rfl)
    go_wp2_with fail
    go_loop [3] (fun i => ∃ k : Nat, k ≤ es.length ∧ i = .int .i64 k ∧ Hid ((es.take k).any longE = false)) (fun i => es.length - (intOf i).toNat)
    case atStart => exact ⟨0, Nat.zero_le _, rfl, Lib.hid rfl⟩
    case round =>
      obtain ⟨k, hk, rfl, hno⟩ := hrel
      by_cases hlt : k < es.length
      · obtain ⟨b, o, c1, hv, hb, hc0, hc1, hc2, hc3, hc4⟩ := hU.five hlt
        cases hv
        have hT := Lib.hid (List.take_succ_eq_append_getElem hlt)
        have hM := Lib.hid (List.getElem_mem hlt)
        generalize es[k] = x at *
        have fin : longE x = true → Hid (longB es = true) := fun h => Lib.hid (by rw [hR.out]; exact List.any_eq_true.2 ⟨x, hM.out, h⟩)
        have nxt : longE x = false → Hid ((es.take (k + 1)).any longE = false) := fun h => Lib.hid (by rw [hT.out, List.any_append, hno.out]; simp [h])
        have Fin := Lib.hid fin
        have Nxt := Lib.hid nxt
        clear fin nxt
        by_cases h1 : 2000 < x.n.size
        · have h1' : (2000 : Int) < (x.n.size : Int) := by omega
          have hF := Fin.out (by unfold longE; simp [h1])
          go_wp2_with fail
          go_ret
          exact ⟨ret_bool hF.out.symm, rfl⟩
        · have h1' : decide ((2000 : Int) < (x.n.size : Int)) = false := by simp; omega
          by_cases h2 : 2000 < x.v.size
          · have h2' : (2000 : Int) < (x.v.size : Int) := by omega
            have hF := Fin.out (by unfold longE; simp [h2])
            go_wp2_with fail
            go_ret
            exact ⟨ret_bool hF.out.symm, rfl⟩
          · have h2' : decide ((2000 : Int) < (x.v.size : Int)) = false := by simp; omega
            by_cases h3 : 2000 < x.fn.size
            · have h3' : (2000 : Int) < (x.fn.size : Int) := by omega
              have hF := Fin.out (by unfold longE; simp [h3])
              go_wp2_with fail
              go_ret
              exact ⟨ret_bool hF.out.symm, rfl⟩
            · have h3' : decide ((2000 : Int) < (x.fn.size : Int)) = false := by simp; omega
              by_cases h4 : 2000 < x.t.size
              · have h4' : (2000 : Int) < (x.t.size : Int) := by omega
                have hF := Fin.out (by unfold longE; simp [h4])
                go_wp2_with fail
                go_ret
                exact ⟨ret_bool hF.out.symm, rfl⟩
              · have h4' : decide ((2000 : Int) < (x.t.size : Int)) = false := by simp; omega
                have hF := Nxt.out (by unfold longE; simp [h1, h2, h3, h4])
                go_wp2_with fail
                go_round
                case rel => exact ⟨k + 1, by omega, by go_num, hF⟩
                case measure => simp [intOf]; omega
      · obtain rfl : k = es.length := by omega
        have hF := Lib.hid (show longB es = false by rw [hR.out]; have := hno.out; rwa [List.take_of_length_le (Nat.le_refl _)] at this)
        go_wp2_with fail
        go_ret
        exact ⟨ret_bool hF.out.symm, rfl⟩
end Go.Proofs.YtafbghlldlconaaGreatDoor
