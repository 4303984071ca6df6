import Derived.Test.YtafbghlldlconaaGreatPart3
import Derived.Test.YtafbghlldlconaaGreatPart1
import Derived.Lib.UnsafeStr
import Derived.Laws.IdiomStrings
import Derived.Test.YtafbghlldlconaaGreatPart2
import Derived.Deep.WholeRow
/-
  A NODE OF A RIGHT DOCUMENT: tree.Attr, ref10.Attr, tree.Order: the walks.
-/
namespace Go.Proofs.YtafbghlldlconaaGreat
set_option linter.unusedVariables false
set_option linter.unusedSimpArgs false
open Go.RowKit PT

def atsOf (l : List Nd) (i : Int) : List At := match l[i.toNat]? with
  | some x => x.ats
  | none => []
theorem atsOf_at {l : List Nd} {k : Nat} (hk : k < l.length) : atsOf l k = l[k].ats := by
  unfold atsOf; rw [Int.toNat_natCast, List.getElem?_eq_getElem hk]
theorem one_ats {x : Nd} (h : oneB x = true) : x.ats.length ≤ 40 := by
  unfold oneB at h
  split at h
  · rw [Bool.and_eq_true, decide_eq_true_iff] at h; omega
  · rw [Bool.and_eq_true, Bool.and_eq_true, Bool.and_eq_true, decide_eq_true_iff, decide_eq_true_iff] at h; omega
noncomputable def attF (l : List Nd) (id : Int) (s : ByteArray) : Option ByteArray := if hasB l id = true then atO (atsOf l id) s else none
theorem ov_base {B B' : Nat} {T : TypeId} {t : List Value} {v : Value} {w : World} (h : OV B T t v w) (hb : B' ≤ B) : OV B' T t v w := by
  obtain ⟨h1, h2 | ⟨g, cap, cur, h3, h4, h5⟩⟩ := h
  · exact ⟨h1, .inl h2⟩
  · exact ⟨h1, .inr ⟨g, cap, cur, h3, Nat.le_trans hb h4, h5⟩⟩
set_option maxHeartbeats 4000000 in
set_option maxRecDepth 100000 in
theorem attr_any (l : List Nd) (v : Value) (id : Int) (s : ByteArray) (hl : l.length ≤ 1000000000000000000) (hz : ∀ x ∈ l, Fits x) (w : World) (hU : Nodes l v w) :
    Calls Tryz.prog 36 #[v, .int .i64 id, .string s] w fun e w' => e = .returned (atT (attF l id s)) ∧ Below w.heap.size w w' := by
  obtain ⟨a, cap, rfl⟩ := hU.len
  cases hh : hasB l id
  · have HH := Lib.hid hh
    have hR := Lib.hid (show attF l id s = none by unfold attF; rw [hh]; rfl)
    clear hh
    go_enter Tryz.func36, Tryz.ntmps36
    go_wp2_with fail
    refine (has_any l _ id hl hz _ hU).mono ?_
    rintro e w' ⟨rfl, hb⟩
    rw [HH.out]
    go_wp2_with fail
    go_ret2
    exact ⟨by rw [hR.out]; rfl, hb⟩
  have HH := Lib.hid hh
  have hR0 := Lib.hid (show attF l id s = atO (atsOf l id) s by unfold attF; rw [hh]; rfl)
  obtain ⟨h0, h1, hRP⟩ := (hasB_iff l id).1 hh
  obtain ⟨K, rfl⟩ := Int.eq_ofNat_of_zero_le h0
  have hkl : K < l.length := by omega
  clear hh
  go_enter Tryz.func36, Tryz.ntmps36
  go_wp2_with fail
  refine (has_any l _ _ hl hz _ hU).mono ?_
  rintro e w' ⟨rfl, hbW⟩
  rw [HH.out]
  have hgW := hbW.size
  obtain ⟨b, o, cap', va, vk, hv, hb, c0, c1, c2, c3, c4, hat, hks⟩ := (hU.kept hbW).at hkl
  cases hv
  have hae := Lib.hid (atsOf_at hkl)
  have hal := one_ats (hRP.node K _ (List.getElem?_eq_getElem hkl)).1
  generalize l[K] = x at *
  have hK0 : (0 : Int) ≤ (K : Int) := by omega
  have hK1 : (K : Int) < (l.length : Int) := by omega
  rcases fi_cases x.ats (isN s) with ⟨h, _⟩ | ⟨k, hk, h, _⟩
  · have hR := Lib.hid (show attF l (K : Nat) s = none by rw [hR0.out, hae.out, atO_none h])
    have HF := Lib.hid h
    clear h
    go_wp2_with fail
    refine (find_at x.ats _ s (by omega) _ hat).mono ?_
    rintro e w2 ⟨rfl, hb2⟩
    rw [HF.out]
    go_wp2_with fail
    go_ret2
    exact ⟨by rw [hR.out]; rfl, hbW.trans (hb2.mono hgW)⟩
  · have hR := Lib.hid (show attF l (K : Nat) s = some x.ats[k].v by rw [hR0.out, hae.out]; exact atO_some hk h)
    have HF := Lib.hid h
    clear h
    go_wp2_with fail
    refine (find_at x.ats _ s (by omega) _ hat).mono ?_
    rintro e w2 ⟨rfl, hb2⟩
    replace c2 := cellK hb2 hb c2
    obtain ⟨b9, o9, cap9, hv, _, hb9, hc0, hc1⟩ := (hat.kept hb2).at hk
    subst hv
    generalize x.ats[k] = y at *
    have hk0 : (0 : Int) ≤ (k : Int) := by omega
    have hk1 : (k : Int) < (x.ats.length : Int) := by omega
    rw [HF.out]
    go_wp2_with fail
    go_ret2
    exact ⟨by rw [hR.out]; rfl, hbW.trans (hb2.mono hgW)⟩
set_option maxHeartbeats 4000000 in
set_option maxRecDepth 100000 in
theorem refAttr10_any (l : List Nd) (v : Value) (K : Nat) (s : ByteArray) (hkl : K < l.length) (hal : l[K].ats.length ≤ 1000000) (w : World) (hU : Nodes l v w) :
    Calls Tryz.prog 73 #[v, .int .i64 K, .string s] w fun e w' => e = .returned (atT (atO (atsOf l K) s)) ∧ w = w' := by
  obtain ⟨a, cap, rfl⟩ := hU.len
  obtain ⟨b, o, cap', va, vk, hv, hb, c0, c1, c2, c3, c4, hat, hks⟩ := hU.at hkl
  cases hv
  have hae := Lib.hid (atsOf_at hkl)
  generalize l[K] = x at *
  have hK0 : (0 : Int) ≤ (K : Int) := by omega
  have hK1 : (K : Int) < (l.length : Int) := by omega
  rcases fi_cases x.ats (isN s) with ⟨h, _⟩ | ⟨k, hk, h, _⟩
  · have hR := Lib.hid (show atO (atsOf l (K : Nat)) s = none by rw [hae.out, atO_none h])
    have HF := Lib.hid h
    clear h
    go_enter Tryz.func73, Tryz.ntmps73
    go_wp2_with fail
    refine (refFind10_any x.ats _ s (by omega) _ hat).mono ?_
    rintro e w2 ⟨rfl, rfl⟩
    rw [HF.out]
    go_wp2_with fail
    go_ret2
    exact ⟨by rw [hR.out]; rfl, rfl⟩
  · have hR := Lib.hid (show atO (atsOf l (K : Nat)) s = some x.ats[k].v by rw [hae.out]; exact atO_some hk h)
    have HF := Lib.hid h
    clear h
    obtain ⟨b9, o9, cap9, hv, _, hb9, hc0, hc1⟩ := hat.at hk
    subst hv
    generalize x.ats[k] = y at *
    have hk0 : (0 : Int) ≤ (k : Int) := by omega
    have hk1 : (k : Int) < (x.ats.length : Int) := by omega
    have hk2 : decide ((k : Int) < 0) = false := by simp
    go_enter Tryz.func73, Tryz.ntmps73
    go_wp2_with fail
    refine (refFind10_any x.ats _ s (by omega) _ hat).mono ?_
    rintro e w2 ⟨rfl, rfl⟩
    rw [HF.out]
    go_wp2_with fail
    go_ret2
    exact ⟨by rw [hR.out]; rfl, rfl⟩
noncomputable def ordB (l : List Nd) (id : Int) : List Int := if hasB l id = true then ord l id else []
set_option maxHeartbeats 4000000 in
set_option maxRecDepth 100000 in
theorem orderTop_any (l : List Nd) (v : Value) (id : Int) (hl : l.length ≤ 1000000000000000000) (hz : ∀ x ∈ l, Fits x) (w : World) (hU : Nodes l v w) :
    Calls Tryz.prog 11 #[v, .int .i64 id] w fun e w' => ∃ vo, e = .returned vo ∧ OV w.heap.size 3 (ints (ordB l id)) vo w' ∧ Below w.heap.size w w' := by
  obtain ⟨a, cap, rfl⟩ := hU.len
  cases hh : hasB l id
  · have HH := Lib.hid hh
    have hR := Lib.hid (show ordB l id = [] by unfold ordB; rw [hh]; rfl)
    clear hh
    go_enter Tryz.func11, Tryz.ntmps11
    go_wp2_with fail
    refine (has_any l _ id hl hz _ hU).mono ?_
    rintro e w' ⟨rfl, hb⟩
    rw [HH.out]
    go_wp2_with fail
    go_ret
    exact ⟨_, rfl, by rw [hR.out]; exact OV.nil _ _ _, hb⟩
  have HH := Lib.hid hh
  have hR := Lib.hid (show ordB l id = ord l id by unfold ordB; rw [hh]; rfl)
  obtain ⟨h0, h1, hRP⟩ := (hasB_iff l id).1 hh
  obtain ⟨K, rfl⟩ := Int.eq_ofNat_of_zero_le h0
  have hkl : K < l.length := by omega
  clear hh
  go_enter Tryz.func11, Tryz.ntmps11
  go_wp2_with fail
  refine (has_any l _ _ hl hz _ hU).mono ?_
  rintro e w' ⟨rfl, hbW⟩
  rw [HH.out]
  have hgW := hbW.size
  go_wp2_with fail
  refine (order_any l hRP (l.length + 2) K hkl (by omega) _ _ hz (hU.kept hbW)).mono ?_
  rintro e w2 ⟨vo, rfl, hov, hb2⟩
  go_wp2_with fail
  go_ret
  exact ⟨_, rfl, by rw [hR.out]; exact ov_base hov hgW, hbW.trans (hb2.mono hgW)⟩
end Go.Proofs.YtafbghlldlconaaGreat

/-
  A []byte THAT THE CALL ITSELF BUILDS, told as a list of bytes; the laws by which a walk appends a byte, a text, and makes the text of it.
-/
namespace Go.Proofs.YtafbghlldlconaaGreat
set_option linter.unusedVariables false
set_option linter.unusedSimpArgs false
open Go.RowKit Go.Lib

theorem info_u8 : (Tryz.prog.info? 5).map (fun i => (i.zero, i.size, i.bytes)) = some (some (.int .u8 0), 1, 1) := by kernel_rfl

/-- the value v is a []byte that holds l, made since 'base' blocks lay -/
def OB (base : Nat) (l : List UInt8) (v : Value) (w : World) : Prop := w.ownsRow base 5 1 v l.length (Lib.byteCells l)

theorem OB.nil (base : Nat) (w : World) : OB base [] (.slice none 0 0) w := World.ownsRow_nil w base _ _
theorem OB.alloc {base : Nat} {l : List UInt8} {v : Value} {w : World} (h : OB base l v w) (o : Obj) : OB base l v (w.alloc o) := World.ownsRow.alloc h o
theorem OB.out {base : Nat} {l : List UInt8} {v : Value} {w : World} (h : OB base l v w) : w.ownsRow base 5 1 v l.length (Lib.byteCells l) := h
theorem OB.form {base : Nat} {l : List UInt8} {v : Value} {w : World} (h : OB base l v w) : ∃ a cap, v = .slice a l.length cap := by
  obtain ⟨_, ⟨rfl, hn⟩ | ⟨g, cap, cur, rfl, _⟩⟩ := h
  · exact ⟨none, 0, by rw [hn]⟩
  · exact ⟨_, _, rfl⟩
/-- what is older stays: a world that keeps all blocks at and above 'base' too -/
theorem OB.kept {base : Nat} {l : List UInt8} {v : Value} {w w' : World} (h : OB base l v w) (hb : Below w.heap.size w w') : OB base l v w' := by
  obtain ⟨h1, ⟨rfl, hn⟩ | ⟨g, cap, cur, rfl, h2, h3, h4⟩⟩ := h
  · exact ⟨h1, .inl ⟨rfl, hn⟩⟩
  · refine ⟨h1, .inr ⟨g, cap, cur, rfl, h2, ?_, h4⟩⟩
    have hlt : g < w.heap.size := by
      rcases Nat.lt_or_ge g w.heap.size with h | h
      · exact h
      · rw [Array.getElem?_eq_none h] at h3; cases h3
    rw [hb.block g hlt]; exact h3

theorem run_nil_bytes {P : Program} (w : World) (src dst e : TypeId) (c : Nat) (hs : P.underlying src = some (.slice e)) (he : P.underlying e = some (.int .u8)) (hd : P.underlying dst = some .string) :
    (convert src dst (.slice none 0 c)).run P w = .ok (.string ⟨#[]⟩) w := by
  rw [run_convert_bytes_string w src dst e none 0 c hs he hd]
  simp [Conv.bytesToString]
  rfl
theorem row_bytes {w : World} {g : Nat} {cur : Array Value} {T : TypeId} {fr : Nat × Nat} {l : List UInt8} (hg : w.heap[g]? = some (.cells cur T fr)) (htk : cur.toList.take l.length = Lib.byteCells l) :
    ∀ j (hj : j < l.length), w.cell? ((⟨g, 0, none⟩ : Addr).add j) = some (.int .u8 (l[j].toNat : Int)) := fun j hj => by
  have h : (cur.toList.take l.length)[j]? = some (.int .u8 (l[j].toNat : Int)) := by rw [htk]; simp [Lib.byteCells, hj]
  rw [List.getElem?_take_of_lt hj] at h
  rw [addr_add, Nat.zero_add]
  simp only [World.cell?, hg]
  simpa using h

theorem OB.cell {base : Nat} {l : List UInt8} {a : Addr} {n cap : Nat} {w : World} (h : OB base l (.slice (some a) n cap) w) : ∀ j (hj : j < l.length), w.cell? (a.add j) = some (.int .u8 (l[j].toNat : Int)) := by
  obtain ⟨_, ⟨h1, hn⟩ | ⟨g, cap', cur, h1, h2, h3, h4, h5, h6, h7⟩⟩ := h
  · cases h1
  · cases h1
    exact row_bytes h3 (by simpa using h7)

/-- 'string(out)' -/
theorem OB.conv {base : Nat} {l : List UInt8} {v : Value} {w : World} (h : OB base l v w) :
    (convert 77 9 v).run Tryz.prog w = .ok (.string ⟨l.toArray⟩) w := by
  have h0 := h
  obtain ⟨h1, ⟨rfl, hn⟩ | ⟨g, cap, cur, rfl, h2, h3, h4⟩⟩ := h
  · have : l = [] := by simpa using hn
    subst this
    exact run_nil_bytes w _ _ _ 0 Tryz.underlying77 Tryz.underlying5 Tryz.underlying9
  · exact run_convert_bytes_back w _ _ _ _ cap l Tryz.underlying77 Tryz.underlying5 Tryz.underlying9 h0.cell

theorem below_grown {base : Nat} {w w' : World} {v : Value} {e : TypeId} {size n : Nat} {xs : List Value} (h : w.ownsRow base e size v n xs) (hg : w.grownBy w' v.ownBlock) (hb : base ≤ w.heap.size) : Below base w w' :=
  (Below.refl base w).grown hg hb (fun k hk => (h.lt k hk).1)

theorem byteCells_one (c : UInt8) : Lib.byteCells [c] = [.int .u8 c.toNat] := rfl

/-- 'out = append(out, c)': the element lies in a block of its own, laid just ahead -/
theorem wpList_append_byte {W : World} {ops : Array Oper} {rest : List Oper} {o : Oper} {a : Act} {Q : Exit → Act → World → Prop} (hgd : o.guard = none) (s x : Operand)
    (ho : o.op = .call { callee := .builtin .append, args := #[s, x], argTypes := #[77, 77] })
    {base : Nat} {l : List UInt8} {v : Value} (hs : a.eval s = v) (hx : a.eval x = .slice (some ⟨W.heap.size, 0, none⟩) 1 1) (c : UInt8) {n : Int} (hn : n = (c.toNat : Int))
    (hown : OB base l v W) (hlen : l.length < 70368744177664) (hbase : base ≤ W.heap.size)
    (h : ∀ v' w', OB base (l ++ [c]) v' w' → Below base W w' → wpList Tryz.prog ops Q rest (a.put o.dst v') w') : wpList Tryz.prog ops Q (o :: rest) a (W.alloc (.cells #[.int .u8 n] 5)) := by
  subst hn
  obtain ⟨i0, hi, hz0, hz1, hz2⟩ := info_parts info_u8
  refine wpList_append_own _ hgd s x 77 ho base 5 i0 (.int .u8 0) 1 1 Tryz.underlying77 hi hz0 hz1 hz2 rfl (by decide) v l.length (Lib.byteCells l) hs (World.ownsRow.alloc hown _) ⟨W.heap.size, 0, none⟩ 1 1 [.int .u8 c.toNat] hx rfl ?_ ?_ ?_ ?_ ?_ ?_
  · intro j u hj
    match j, hj with
    | 0, hj => simp at hj; subst hj; simp [addr_add]
  · intro u hu; simp at hu; subst hu; rfl
  · unfold maxLen; omega
  · omega
  · simp; omega
  · intro v' w1 h1 h2 _
    refine h v' w1 ?_ (((Below.refl base W).alloc hbase _).trans (below_grown (World.ownsRow.alloc hown _) h2 (by simp; omega)))
    have e : Lib.byteCells (l ++ [c]) = Lib.byteCells l ++ [.int .u8 c.toNat] := by rw [byteCells_append, byteCells_one]
    unfold OB
    rw [e, List.length_append]
    exact h1

/-- the same at a region that draws its order -/
theorem step_append_byte {W : World} {ops : Array Oper} {o : Oper} {a : Act} {K : Act → World → Prop} {Q : Exit → Act → World → Prop} {E : Prop} (hgd : o.guard = none) (s x : Operand)
    (ho : o.op = .call { callee := .builtin .append, args := #[s, x], argTypes := #[77, 77] })
    {base : Nat} {l : List UInt8} {v : Value} (hs : a.eval s = v) (g : Nat) (hx : a.eval x = .slice (some ⟨g, 0, none⟩) 1 1) (c : UInt8) (hc : W.cell? ⟨g, 0, none⟩ = some (.int .u8 c.toNat))
    (hown : OB base l v W) (hlen : l.length < 70368744177664) (hbase : base ≤ W.heap.size)
    (h : ∀ v' w', OB base (l ++ [c]) v' w' → Below base W w' → K (a.put o.dst v') w') : if Region.wanted o (yielded ops a.tmps) then o.wp Tryz.prog a W K Q else E := by
  have hw : Region.wanted o (yielded ops a.tmps) = true := by simp [Region.wanted, hgd]
  rw [if_pos hw]
  obtain ⟨i0, hi, hz0, hz1, hz2⟩ := info_parts info_u8
  refine wp_append_own _ s x 77 ho base 5 i0 (.int .u8 0) 1 1 Tryz.underlying77 hi hz0 hz1 hz2 rfl (by decide) v l.length (Lib.byteCells l) hs hown ⟨g, 0, none⟩ 1 1 [.int .u8 c.toNat] hx rfl ?_ ?_ ?_ ?_ hbase ?_
  · intro j u hj
    match j, hj with
    | 0, hj => simp at hj; subst hj; rw [addr_add]; exact hc
  · intro u hu; simp at hu; subst hu; rfl
  · unfold maxLen; omega
  · omega
  · intro v' w1 h1 h2 _
    refine h v' w1 ?_ (below_grown hown h2 hbase)
    have e : Lib.byteCells (l ++ [c]) = Lib.byteCells l ++ [.int .u8 c.toNat] := by rw [byteCells_append, byteCells_one]
    unfold OB
    rw [e, List.length_append]
    exact h1

/-- 'out = append(out, t...)', t a text -/
theorem wpList_append_text {W : World} {ops : Array Oper} {rest : List Oper} {o : Oper} {a : Act} {Q : Exit → Act → World → Prop} (hgd : o.guard = none) (s x : Operand)
    (ho : o.op = .call { callee := .builtin .append, args := #[s, x], argTypes := #[77, 9] })
    {base : Nat} {l : List UInt8} {v : Value} (hs : a.eval s = v) {t : ByteArray} (hx : a.eval x = .string t)
    (hown : OB base l v W) (hlen : l.length + t.size < 70368744177664) (hbase : base ≤ W.heap.size)
    (h : ∀ v' w', OB base (l ++ t.data.toList) v' w' → Below base W w' → wpList Tryz.prog ops Q rest (a.put o.dst v') w') : wpList Tryz.prog ops Q (o :: rest) a W := by
  obtain ⟨i0, hi, hz0, hz1, hz2⟩ := info_parts info_u8
  refine wpList_append_own_string _ hgd s x 77 9 ho base 5 i0 Tryz.underlying77 Tryz.underlying9 hi hz0 hz1 hz2 v l.length (Lib.byteCells l) hs hown t hx (by unfold maxLen; omega) (by omega) hbase ?_
  intro v' w1 h1 h2 _
  refine h v' w1 ?_ (below_grown hown h2 hbase)
  have e : Lib.byteCells (l ++ t.data.toList) = Lib.byteCells l ++ strCells t := by rw [byteCells_append, strCells_eq]
  unfold OB
  rw [e, List.length_append]
  exact h1
/-- 'out = append(out, c, d)': the two lie in a block of their own, laid just ahead -/
theorem wpList_append_two {W : World} {ops : Array Oper} {rest : List Oper} {o : Oper} {a : Act} {Q : Exit → Act → World → Prop} (hgd : o.guard = none) (s x : Operand)
    (ho : o.op = .call { callee := .builtin .append, args := #[s, x], argTypes := #[77, 77] })
    {base : Nat} {l : List UInt8} {v : Value} (hs : a.eval s = v) (hx : a.eval x = .slice (some ⟨W.heap.size, 0, none⟩) 2 2) (c d : UInt8) {n m : Int} (hn : n = (c.toNat : Int)) (hm : m = (d.toNat : Int))
    (hown : OB base l v W) (hlen : l.length < 70368744177664) (hbase : base ≤ W.heap.size)
    (h : ∀ v' w', OB base (l ++ [c, d]) v' w' → Below base W w' → wpList Tryz.prog ops Q rest (a.put o.dst v') w') : wpList Tryz.prog ops Q (o :: rest) a (W.alloc (.cells #[.int .u8 n, .int .u8 m] 5)) := by
  subst hn hm
  obtain ⟨i0, hi, hz0, hz1, hz2⟩ := info_parts info_u8
  have hA : OB base l v (W.alloc (.cells #[.int .u8 (c.toNat : Int), .int .u8 (d.toNat : Int)] 5)) := hown.alloc _
  refine wpList_append_own _ hgd s x 77 ho base 5 i0 (.int .u8 0) 1 1 Tryz.underlying77 hi hz0 hz1 hz2 rfl (by decide) v l.length (Lib.byteCells l) hs hA.out ⟨W.heap.size, 0, none⟩ 2 2 [.int .u8 c.toNat, .int .u8 d.toNat] hx rfl ?_ ?_ ?_ ?_ ?_ ?_
  · intro j u hj
    match j, hj with
    | 0, hj => simp at hj; subst hj; simp [addr_add]
    | 1, hj => simp at hj; subst hj; simp [addr_add]
  · intro u hu
    simp only [List.mem_cons, List.not_mem_nil, or_false] at hu
    rcases hu with rfl | rfl <;> rfl
  · unfold maxLen; omega
  · omega
  · simp; omega
  · intro v' w1 h1 h2 _
    refine h v' w1 ?_ (((Below.refl base W).alloc hbase _).trans (below_grown hA.out h2 (by simp; omega)))
    have e : Lib.byteCells (l ++ [c, d]) = Lib.byteCells l ++ [.int .u8 c.toNat, .int .u8 d.toNat] := by rw [byteCells_append]; rfl
    unfold OB
    rw [e, List.length_append]
    exact h1
end Go.Proofs.YtafbghlldlconaaGreat

/-
  text.Lower, ref01.Lower, text.Same, law01.long: the walks.
-/
namespace Go.Proofs.YtafbghlldlconaaGreat
set_option linter.unusedVariables false
set_option linter.unusedSimpArgs false
open Go.RowKit PT

/-- the cell of the row behind so many rounds -/
def lowAt (s : ByteArray) (k j : Nat) : Int := if j < k then ((lowB (s.data.toList.getD j 0)).toNat : Int) else ((s.data.toList.getD j 0).toNat : Int)
theorem lowAt_ge (s : ByteArray) (k j : Nat) (h : k ≤ j) : lowAt s k j = ((s.data.toList.getD j 0).toNat : Int) := by unfold lowAt; rw [if_neg (by omega)]
theorem lowAt_lt (s : ByteArray) (k j : Nat) (h : j < k) : lowAt s k j = ((lowB (s.data.toList.getD j 0)).toNat : Int) := by unfold lowAt; rw [if_pos h]
theorem lowAt_ne (s : ByteArray) (k j : Nat) (h : j ≠ k) : lowAt s (k + 1) j = lowAt s k j := by
  unfold lowAt
  by_cases h1 : j < k
  · rw [if_pos h1, if_pos (by omega)]
  · rw [if_neg h1, if_neg (by omega)]

/-- what the row holds behind k rounds -/
def LowRow (s : ByteArray) (b k : Nat) (wr : World) : Prop := ∀ j, j < s.size → wr.cell? ⟨b, j, none⟩ = some (.int .u8 (lowAt s k j)) ∧ wr.frozen? ⟨b, j, none⟩ = false

theorem LowRow.put {s : ByteArray} {b k : Nat} {wr : World} (h : LowRow s b k wr) (hk : k < s.size) (n : Int) (hn : n = ((lowB (s.data.toList.getD k 0)).toNat : Int)) :
    LowRow s b (k + 1) (wr.setCell ⟨b, k, none⟩ (.int .u8 n)) := by
  intro j hj
  by_cases e : j = k
  · subst e
    rw [lowAt_lt s (j + 1) j (by omega), ← hn]
    obtain ⟨hc, hf⟩ := h j hj
    exact ⟨World.cell?_setCell_same _ _ _ hc, by rw [World.frozen?_setCell]; exact hf⟩
  · obtain ⟨hc, hf⟩ := h j hj
    rw [lowAt_ne s k j e]
    exact ⟨by rw [World.cell?_setCell_other]; exact hc; (intro h; simp only [Addr.mk.injEq] at h; exact e h.2.1.symm), by rw [World.frozen?_setCell]; exact hf⟩
theorem LowRow.keep {s : ByteArray} {b k : Nat} {wr : World} (h : LowRow s b k wr) (hn : lowB (s.data.toList.getD k 0) = s.data.toList.getD k 0) : LowRow s b (k + 1) wr := by
  intro j hj
  obtain ⟨hc, hf⟩ := h j hj
  refine ⟨?_, hf⟩
  by_cases e : j = k
  · subst e
    rw [lowAt_lt s (j + 1) j (by omega), hn, hc, lowAt_ge _ _ _ (Nat.le_refl _)]
  · rw [lowAt_ne s k j e]; exact hc

set_option maxHeartbeats 800000 in
set_option maxRecDepth 100000 in
theorem lower_any (s : ByteArray) (w : World) (hs : s.size ≤ 140737488351232) :
    Calls Tryz.prog 28 #[.string s] w fun e w' => e = .returned (.string ⟨(low s.data.toList).toArray⟩) ∧ Below w.heap.size w w' := by
  have hcv := Lib.run_convert_string_bytes (P := Tryz.prog) w 9 77 5 s Tryz.underlying9 Tryz.underlying77 Tryz.underlying5
  go_enter Tryz.func28, Tryz.ntmps28
  go_wp2
  go_loopw [10] (fun i wr => ∃ k : Nat, k ≤ s.size ∧ i = .int .i64 k ∧ LowRow s w.heap.size k wr ∧ Below w.heap.size w wr) (fun i _ => s.size - (intOf i).toNat)
  case atStart =>
    refine ⟨0, Nat.zero_le _, rfl, fun j hj => ⟨?_, frozen_bytesWorld w _ s j hj⟩, bytesWorld_below w _ s⟩
    rw [Lib.bytesWorld_cell w _ s j hj, lowAt_ge _ _ _ (Nat.zero_le _)]
  case round =>
    obtain ⟨k, hk, rfl, hrow, hbel⟩ := hrel
    by_cases hlt : k < s.size
    · obtain ⟨hc, hf⟩ := hrow k hlt
      have hg : s.data.toList.getD k 0 = s.data[k] := by simp [List.getD, hlt]
      rw [lowAt_ge _ _ _ (Nat.le_refl _), hg] at hc
      have HG := Lib.hid hg
      clear hg
      by_cases hl : 65 ≤ s.data[k].toNat ∧ s.data[k].toNat ≤ 90
      · have h1 : (65 : Int) ≤ (s.data[k].toNat : Int) := by omega
        have h2 : (s.data[k].toNat : Int) ≤ (90 : Int) := by omega
        have hy := Lib.hid (lowB_yes s.data[k] hl.1 hl.2)
        have hR := hrow.put hlt ((s.data[k].toNat : Int) + 97 - 65) (by rw [HG.out, hy.out]; omega)
        clear hl
        go_wp2
        go_roundw
        case rel => exact ⟨k + 1, by omega, by go_num, hR, hbel.setCell (Nat.le_refl _) _⟩
        case measure => simp [intOf]; omega
      · have hR := hrow.keep (by rw [HG.out]; exact lowB_no _ hl)
        go_wp2
        all_goals
          go_roundw
          case rel => exact ⟨k + 1, by omega, by go_num, hR, hbel⟩
          case measure => simp [intOf]; omega
    · have hL : (low s.data.toList).length = s.size := by simp [low]
      have hcb := run_convert_bytes_back (P := Tryz.prog) wr 77 9 5 ⟨w.heap.size, 0, none⟩ (grownCap w s.size 0 5) (low s.data.toList) Tryz.underlying77 Tryz.underlying5 Tryz.underlying9 (fun j hj => by
        have hj' : j < s.size := by omega
        have := (hrow j hj').1
        rw [lowAt_lt s k j (by omega)] at this
        rw [addr_add, Nat.zero_add, this]
        simp [low, List.getD, hj'])
      rw [hL] at hcb
      clear hL
      go_wp2
      go_ret
      exact ⟨rfl, hbel⟩

theorem low_take (s : ByteArray) (k : Nat) (h : k < s.size) : low (s.data.toList.take (k + 1)) = low (s.data.toList.take k) ++ [lowB s[k]] := by
  rw [List.take_succ_eq_append_getElem (by simpa using h)]
  simp [low]; rfl

set_option maxHeartbeats 800000 in
set_option maxRecDepth 100000 in
theorem refLower_any (s : ByteArray) (w : World) (hs : s.size ≤ 65536) :
    Calls Tryz.prog 45 #[.string s] w fun e w' => e = .returned (.string ⟨(low s.data.toList).toArray⟩) ∧ Below w.heap.size w w' := by
  go_enter Tryz.func45, Tryz.ntmps45
  go_wp2
  go_loopw [4, 3] (fun i v wr => ∃ k : Nat, k ≤ s.size ∧ i = .int .i64 k ∧ OB w.heap.size (low (s.data.toList.take k)) v wr ∧ Below w.heap.size w wr) (fun i _ _ => s.size - (intOf i).toNat)
  case atStart => exact ⟨0, Nat.zero_le _, rfl, OB.nil _ _, Below.refl _ _⟩
  case round =>
    obtain ⟨k, hk, rfl, hown, hbel⟩ := hrel
    by_cases hlt : k < s.size
    · have hT := Lib.hid (low_take s k hlt)
      have hlen : (low (s.data.toList.take k)).length ≤ 65536 := by simp [low]; omega
      have hz := hbel.size
      by_cases hl : 65 ≤ s[k].toNat ∧ s[k].toNat ≤ 90
      · have h1 : (65 : Int) ≤ (s[k].toNat : Int) := by omega
        have h2 : (s[k].toNat : Int) ≤ (90 : Int) := by omega
        have hy := Lib.hid (lowB_yes s[k] hl.1 hl.2)
        clear hl
        go_wp2_with (at_builtin; refine wpList_append_byte rfl _ _ rfl rfl rfl (lowB s[k]) hy.out.symm hown (by omega) hz ?_; intro v' w1 hown' hb')
        go_roundw
        case rel => exact ⟨k + 1, by omega, by go_num, by rw [hT.out]; exact hown', hbel.trans hb'⟩
        case measure => simp [intOf]; omega
      · have hy := Lib.hid (lowB_no s[k] hl)
        go_wp2_with (at_builtin; refine wpList_append_byte rfl _ _ rfl rfl rfl s[k] rfl hown (by omega) hz ?_; intro v' w1 hown' hb')
        all_goals
          go_roundw
          case rel => exact ⟨k + 1, by omega, by go_num, by rw [hT.out, hy.out]; exact hown', hbel.trans hb'⟩
          case measure => simp [intOf]; omega
    · have hcb := hown.conv
      go_wp2
      go_ret
      exact ⟨by rw [List.take_of_length_le (by simp; omega)]; rfl, hbel⟩
end Go.Proofs.YtafbghlldlconaaGreat

/-
  KINDS OF NODES: kinds.attr, kinds.Of, ref11.Of; what goes with a kind: the walks.
-/
namespace Go.Proofs.YtafbghlldlconaaGreat
set_option linter.unusedVariables false
set_option linter.unusedSimpArgs false
open Go.RowKit PT

theorem kinds36 (k : Int) (h0 : 0 ≤ k) (h1 : k ≤ 35) : k = 0 ∨ k = 1 ∨ k = 2 ∨ k = 3 ∨ k = 4 ∨ k = 5 ∨ k = 6 ∨ k = 7 ∨ k = 8 ∨ k = 9 ∨ k = 10 ∨ k = 11 ∨ k = 12 ∨ k = 13 ∨ k = 14 ∨ k = 15 ∨ k = 16 ∨ k = 17 ∨ k = 18 ∨ k = 19 ∨ k = 20 ∨ k = 21 ∨ k = 22 ∨ k = 23 ∨ k = 24 ∨ k = 25 ∨ k = 26 ∨ k = 27 ∨ k = 28 ∨ k = 29 ∨ k = 30 ∨ k = 31 ∨ k = 32 ∨ k = 33 ∨ k = 34 ∨ k = 35 := by omega
def submB (k : Int) : Bool := decide (k ∈ ([1, 2, 3, 4, 5, 6, 7, 8, 9, 10, 11, 12, 13, 14, 15, 16, 17, 18, 19, 20, 21, 22, 23, 24, 25, 26, 27] : List Int))
set_option maxHeartbeats 4000000 in
set_option maxRecDepth 100000 in
theorem kindsSubmits_any (k : Int) (h0 : 0 ≤ k) (h1 : k ≤ 35) (w : World) : Calls Tryz.prog 13 #[.int .i64 k] w fun e w' => e = .returned (.bool (submB k)) ∧ w = w' := by
  rcases kinds36 k h0 h1 with rfl | rfl | rfl | rfl | rfl | rfl | rfl | rfl | rfl | rfl | rfl | rfl | rfl | rfl | rfl | rfl | rfl | rfl | rfl | rfl | rfl | rfl | rfl | rfl | rfl | rfl | rfl | rfl | rfl | rfl | rfl | rfl | rfl | rfl | rfl | rfl
  all_goals
    go_enter Tryz.func13, Tryz.ntmps13
    go_wp2
    go_ret
    exact ⟨rfl, rfl⟩
def listB (k : Int) : Bool := decide (k ∈ ([1, 2, 3, 4, 5, 6, 7, 8, 9, 10, 11, 12, 13, 14, 15, 16, 17, 18, 19, 21, 22, 23, 24, 25, 26, 27, 28, 29] : List Int))
set_option maxHeartbeats 4000000 in
set_option maxRecDepth 100000 in
theorem kindsListed_any (k : Int) (h0 : 0 ≤ k) (h1 : k ≤ 35) (w : World) : Calls Tryz.prog 60 #[.int .i64 k] w fun e w' => e = .returned (.bool (listB k)) ∧ w = w' := by
  rcases kinds36 k h0 h1 with rfl | rfl | rfl | rfl | rfl | rfl | rfl | rfl | rfl | rfl | rfl | rfl | rfl | rfl | rfl | rfl | rfl | rfl | rfl | rfl | rfl | rfl | rfl | rfl | rfl | rfl | rfl | rfl | rfl | rfl | rfl | rfl | rfl | rfl | rfl | rfl
  all_goals
    go_enter Tryz.func60, Tryz.ntmps60
    go_wp2
    go_ret
    exact ⟨rfl, rfl⟩
def labelB (k : Int) : Bool := decide (k ∈ ([2, 3, 4, 5, 6, 7, 8, 9, 10, 11, 12, 13, 14, 15, 16, 17, 18, 19, 20, 21, 22, 23, 24, 25, 26, 27, 28] : List Int))
def firesB (k : Int) : Bool := decide (k ∈ ([19, 20, 25] : List Int))
def blocksB (k : Int) : Bool := decide (k ∈ ([2, 3, 4, 5, 6, 7, 8, 9, 10, 11, 12, 13] : List Int))
set_option maxHeartbeats 4000000 in
set_option maxRecDepth 100000 in
theorem refIs1_any (k : Int) (h0 : 0 ≤ k) (h1 : k ≤ 35) (w : World) : Calls Tryz.prog 22 #[.int .i64 1, .int .i64 k] w fun e w' => e = .returned (.bool (listB k)) ∧ w = w' := by
  rcases kinds36 k h0 h1 with rfl | rfl | rfl | rfl | rfl | rfl | rfl | rfl | rfl | rfl | rfl | rfl | rfl | rfl | rfl | rfl | rfl | rfl | rfl | rfl | rfl | rfl | rfl | rfl | rfl | rfl | rfl | rfl | rfl | rfl | rfl | rfl | rfl | rfl | rfl | rfl
  all_goals
    go_enter Tryz.func22, Tryz.ntmps22
    go_wp2
    go_ret
    exact ⟨rfl, rfl⟩
set_option maxHeartbeats 4000000 in
set_option maxRecDepth 100000 in
theorem refIs2_any (k : Int) (h0 : 0 ≤ k) (h1 : k ≤ 35) (w : World) : Calls Tryz.prog 22 #[.int .i64 2, .int .i64 k] w fun e w' => e = .returned (.bool (submB k)) ∧ w = w' := by
  rcases kinds36 k h0 h1 with rfl | rfl | rfl | rfl | rfl | rfl | rfl | rfl | rfl | rfl | rfl | rfl | rfl | rfl | rfl | rfl | rfl | rfl | rfl | rfl | rfl | rfl | rfl | rfl | rfl | rfl | rfl | rfl | rfl | rfl | rfl | rfl | rfl | rfl | rfl | rfl
  all_goals
    go_enter Tryz.func22, Tryz.ntmps22
    go_wp2
    go_ret
    exact ⟨rfl, rfl⟩
set_option maxHeartbeats 4000000 in
set_option maxRecDepth 100000 in
theorem refIs4_any (k : Int) (h0 : 0 ≤ k) (h1 : k ≤ 35) (w : World) : Calls Tryz.prog 22 #[.int .i64 4, .int .i64 k] w fun e w' => e = .returned (.bool (labelB k)) ∧ w = w' := by
  rcases kinds36 k h0 h1 with rfl | rfl | rfl | rfl | rfl | rfl | rfl | rfl | rfl | rfl | rfl | rfl | rfl | rfl | rfl | rfl | rfl | rfl | rfl | rfl | rfl | rfl | rfl | rfl | rfl | rfl | rfl | rfl | rfl | rfl | rfl | rfl | rfl | rfl | rfl | rfl
  all_goals
    go_enter Tryz.func22, Tryz.ntmps22
    go_wp2
    go_ret
    exact ⟨rfl, rfl⟩
set_option maxHeartbeats 4000000 in
set_option maxRecDepth 100000 in
theorem refIs5_any (k : Int) (h0 : 0 ≤ k) (h1 : k ≤ 35) (w : World) : Calls Tryz.prog 22 #[.int .i64 5, .int .i64 k] w fun e w' => e = .returned (.bool (firesB k)) ∧ w = w' := by
  rcases kinds36 k h0 h1 with rfl | rfl | rfl | rfl | rfl | rfl | rfl | rfl | rfl | rfl | rfl | rfl | rfl | rfl | rfl | rfl | rfl | rfl | rfl | rfl | rfl | rfl | rfl | rfl | rfl | rfl | rfl | rfl | rfl | rfl | rfl | rfl | rfl | rfl | rfl | rfl
  all_goals
    go_enter Tryz.func22, Tryz.ntmps22
    go_wp2
    go_ret
    exact ⟨rfl, rfl⟩
set_option maxHeartbeats 4000000 in
set_option maxRecDepth 100000 in
theorem refIs6_any (k : Int) (h0 : 0 ≤ k) (h1 : k ≤ 35) (w : World) : Calls Tryz.prog 22 #[.int .i64 6, .int .i64 k] w fun e w' => e = .returned (.bool (blocksB k)) ∧ w = w' := by
  rcases kinds36 k h0 h1 with rfl | rfl | rfl | rfl | rfl | rfl | rfl | rfl | rfl | rfl | rfl | rfl | rfl | rfl | rfl | rfl | rfl | rfl | rfl | rfl | rfl | rfl | rfl | rfl | rfl | rfl | rfl | rfl | rfl | rfl | rfl | rfl | rfl | rfl | rfl | rfl
  all_goals
    go_enter Tryz.func22, Tryz.ntmps22
    go_wp2
    go_ret
    exact ⟨rfl, rfl⟩
end Go.Proofs.YtafbghlldlconaaGreat

/-
  THE KIND OF A NODE: kinds.attr, kinds.types, kinds.Of; ref11.Type, ref11.Of: the walks.
-/
namespace Go.Proofs.YtafbghlldlconaaGreat
set_option linter.unusedVariables false
set_option linter.unusedSimpArgs false
open Go.RowKit PT

/-- the types of input, in the order of kinds -/
def tyL : List ByteArray := [⟨#[104, 105, 100, 100, 101, 110]⟩, ⟨#[116, 101, 120, 116]⟩, ⟨#[115, 101, 97, 114, 99, 104]⟩, ⟨#[116, 101, 108]⟩, ⟨#[117, 114, 108]⟩, ⟨#[101, 109, 97, 105, 108]⟩, ⟨#[112, 97, 115, 115, 119, 111, 114, 100]⟩, ⟨#[100, 97, 116, 101]⟩, ⟨#[109, 111, 110, 116, 104]⟩, ⟨#[119, 101, 101, 107]⟩, ⟨#[116, 105, 109, 101]⟩, ⟨#[100, 97, 116, 101, 116, 105, 109, 101, 45, 108, 111, 99, 97, 108]⟩, ⟨#[110, 117, 109, 98, 101, 114]⟩, ⟨#[114, 97, 110, 103, 101]⟩, ⟨#[99, 111, 108, 111, 114]⟩, ⟨#[99, 104, 101, 99, 107, 98, 111, 120]⟩, ⟨#[114, 97, 100, 105, 111]⟩, ⟨#[102, 105, 108, 101]⟩, ⟨#[115, 117, 98, 109, 105, 116]⟩, ⟨#[105, 109, 97, 103, 101]⟩, ⟨#[114, 101, 115, 101, 116]⟩, ⟨#[98, 117, 116, 116, 111, 110]⟩]
/-- the kind of an input of a type -/
def tyK (ty : ByteArray) : Int := match tyL.findIdx? (fun s => decide (s = ty)) with
  | none => 2
  | some i => (i : Int) + 1
theorem tyK_hit {ty : ByteArray} {k : Nat} (hk : k < 22) (hno : ∀ j, j < k → tyL[j]? ≠ some ty) (h : tyL[k]? = some ty) : tyK ty = (k : Int) + 1 := by
  have hl : tyL.length = 22 := rfl
  have hk' : k < tyL.length := by omega
  unfold tyK
  rw [List.findIdx?_eq_some_iff_getElem.2 ⟨hk', by
    rw [List.getElem?_eq_getElem hk'] at h
    exact decide_eq_true (Option.some.inj h), fun j hj => by
    have := hno j hj
    rw [List.getElem?_eq_getElem (by omega)] at this
    simpa using fun e => this (by rw [e])⟩]
theorem tyK_none {ty : ByteArray} (hno : ∀ j, j < 22 → tyL[j]? ≠ some ty) : tyK ty = 2 := by
  unfold tyK
  rw [List.findIdx?_eq_none_iff.2 (fun x hx => by
    obtain ⟨j, hj, rfl⟩ := List.mem_iff_getElem.1 hx
    have hl : tyL.length = 22 := rfl
    have := hno j (by omega)
    rw [List.getElem?_eq_getElem hj] at this
    simpa using fun e => this (by rw [e]))]
theorem tyK_range (ty : ByteArray) : 1 ≤ tyK ty ∧ tyK ty ≤ 22 := by
  unfold tyK
  split
  · omega
  · rename_i i h
    obtain ⟨hi, _⟩ := List.findIdx?_eq_some_iff_getElem.1 h
    have hl : tyL.length = 22 := rfl
    omega
/-- an attribute's value in small letters; none: the empty one -/
def tyOf (x : Nd) : ByteArray := ⟨(low ((atO x.ats ⟨#[116, 121, 112, 101]⟩).getD ⟨#[]⟩).data.toList).toArray⟩
def btK (ty : ByteArray) : Int := if ty = ⟨#[114, 101, 115, 101, 116]⟩ then 26 else if ty = ⟨#[98, 117, 116, 116, 111, 110]⟩ then 27 else 25
def otL : List ByteArray := [⟨#[111, 117, 116, 112, 117, 116]⟩, ⟨#[102, 105, 101, 108, 100, 115, 101, 116]⟩, ⟨#[102, 111, 114, 109]⟩, ⟨#[108, 97, 98, 101, 108]⟩, ⟨#[111, 112, 116, 105, 111, 110]⟩, ⟨#[111, 112, 116, 103, 114, 111, 117, 112]⟩, ⟨#[108, 101, 103, 101, 110, 100]⟩, ⟨#[100, 97, 116, 97, 108, 105, 115, 116]⟩]
def otK (nm : ByteArray) : Int := match otL.findIdx? (fun s => decide (s = nm)) with
  | none => 0
  | some i => 28 + (i : Int)
theorem otK_hit {nm : ByteArray} {k : Nat} (hk : k < 8) (hno : ∀ j, j < k → otL[j]? ≠ some nm) (h : otL[k]? = some nm) : otK nm = 28 + (k : Int) := by
  have hl : otL.length = 8 := rfl
  have hk' : k < otL.length := by omega
  unfold otK
  rw [List.findIdx?_eq_some_iff_getElem.2 ⟨hk', by
    rw [List.getElem?_eq_getElem hk'] at h
    exact decide_eq_true (Option.some.inj h), fun j hj => by
    have := hno j hj
    rw [List.getElem?_eq_getElem (by omega)] at this
    simpa using fun e => this (by rw [e])⟩]
theorem otK_none {nm : ByteArray} (hno : ∀ j, j < 8 → otL[j]? ≠ some nm) : otK nm = 0 := by
  unfold otK
  rw [List.findIdx?_eq_none_iff.2 (fun x hx => by
    obtain ⟨j, hj, rfl⟩ := List.mem_iff_getElem.1 hx
    have hl : otL.length = 8 := rfl
    have := hno j (by omega)
    rw [List.getElem?_eq_getElem hj] at this
    simpa using fun e => this (by rw [e]))]
theorem otK_range (nm : ByteArray) : 0 ≤ otK nm ∧ otK nm ≤ 35 := by
  unfold otK
  split
  · omega
  · rename_i i h
    obtain ⟨hi, _⟩ := List.findIdx?_eq_some_iff_getElem.1 h
    have hl : otL.length = 8 := rfl
    omega
/-- the kind of a node -/
def kindOf (x : Nd) : Int :=
  if x.nm = ⟨#[105, 110, 112, 117, 116]⟩ then tyK (tyOf x) else if x.nm = ⟨#[98, 117, 116, 116, 111, 110]⟩ then btK (tyOf x) else if x.nm = ⟨#[115, 101, 108, 101, 99, 116]⟩ then 23 else if x.nm = ⟨#[116, 101, 120, 116, 97, 114, 101, 97]⟩ then 24 else otK x.nm
theorem kindOf_range (x : Nd) : 0 ≤ kindOf x ∧ kindOf x ≤ 35 := by
  have := tyK_range (tyOf x)
  have := otK_range x.nm
  have hb : 25 ≤ btK (tyOf x) ∧ btK (tyOf x) ≤ 27 := by
    unfold btK; split
    · omega
    · split <;> omega
  unfold kindOf
  repeat' split
  all_goals omega
theorem lq_yes {l : List UInt8} {t : ByteArray} (h : (⟨l.toArray⟩ : ByteArray) = t) : (l == t.toList) = true := by
  rw [← h, ByteArray.toList_eq]; exact beq_self_eq_true _
theorem lq_no {l : List UInt8} {t : ByteArray} (h : ¬ (⟨l.toArray⟩ : ByteArray) = t) : (l == t.toList) = false := by
  rw [beq_eq_false_iff_ne, ByteArray.toList_eq]
  intro e
  exact h (ByteArray.ext (by rw [e]))
theorem ql_yes {l : List UInt8} {t : ByteArray} (h : (⟨l.toArray⟩ : ByteArray) = t) : (t.toList == l) = true := by
  rw [← h, ByteArray.toList_eq]; exact beq_self_eq_true _
theorem ql_no {l : List UInt8} {t : ByteArray} (h : ¬ (⟨l.toArray⟩ : ByteArray) = t) : (t.toList == l) = false := by
  rw [beq_eq_false_iff_ne, ByteArray.toList_eq]
  intro e
  exact h (ByteArray.ext (by rw [← e]))
set_option maxHeartbeats 1000000 in
set_option maxRecDepth 100000 in
theorem kindsAttr_any (x : Nd) (va vk : Value) (s : ByteArray) (hl : x.ats.length ≤ 1000000000000000) (w : World) (hU : Atts x.ats va w) :
    Calls Tryz.prog 29 #[NdV x va vk, .string s] w fun e w' => e = .returned (.string ((atO x.ats s).getD ⟨#[]⟩)) ∧ Below w.heap.size w w' := by
  unfold NdV
  have hba := (Below.refl w.heap.size w).alloc (Nat.le_refl _) (.cells #[.string x.nm, .string x.tx, va, .int .i64 x.pa, vk] 41)
  have hb0 := hba.alloc (by simp) (.cells #[.string s] 9)
  have hsa : (w.alloc (.cells #[.string x.nm, .string x.tx, va, .int .i64 x.pa, vk] 41)).heap.size = w.heap.size + 1 := by simp
  have hs0 : ((w.alloc (.cells #[.string x.nm, .string x.tx, va, .int .i64 x.pa, vk] 41)).alloc (.cells #[.string s] 9)).heap.size = w.heap.size + 1 + 1 := by simp
  have hn0 := Go.heap_alloc_new (w.alloc (.cells #[.string x.nm, .string x.tx, va, .int .i64 x.pa, vk] 41)) (.cells #[.string s] 9)
  have hn1 := Go.heap_alloc_new w (.cells #[.string x.nm, .string x.tx, va, .int .i64 x.pa, vk] 41)
  rw [hsa] at hn0
  have hU0 := hU.kept hb0
  have hc0 : ((w.alloc (.cells #[.string x.nm, .string x.tx, va, .int .i64 x.pa, vk] 41)).alloc (.cells #[.string s] 9)).cell? ⟨w.heap.size + 1, 0, none⟩ = some (.string s) := by simp only [World.cell?, hn0]; rfl
  have hm0 : ((w.alloc (.cells #[.string x.nm, .string x.tx, va, .int .i64 x.pa, vk] 41)).alloc (.cells #[.string s] 9)).cell? ⟨w.heap.size, 2, none⟩ = some va := by
    simp only [World.cell?, Below.heap_alloc (w.alloc (.cells #[.string x.nm, .string x.tx, va, .int .i64 x.pa, vk] 41)) (.cells #[.string s] 9) w.heap.size (by simp), hn1]; rfl
  obtain ⟨a, cap, rfl⟩ := hU.len
  have hp : ∀ W, Below ((w.alloc (.cells #[.string x.nm, .string x.tx, .slice a x.ats.length cap, .int .i64 x.pa, vk] 41)).alloc (.cells #[.string s] 9)).heap.size ((w.alloc (.cells #[.string x.nm, .string x.tx, .slice a x.ats.length cap, .int .i64 x.pa, vk] 41)).alloc (.cells #[.string s] 9)) W → ∀ y ∈ x.ats, Calls Tryz.prog 58 (#[atV y] ++ #[.pointer (some ⟨w.heap.size + 1, 0, none⟩)]) W fun e w' => e = .returned (.bool (isN s y)) ∧ Below W.heap.size W w' := by
    intro W hW y hy
    have hWs := hW.size
    exact attrFn_any y s (w.heap.size + 1) W (by omega) (cellK hW (by omega) hc0)
  have HP := Lib.hid hp
  have HM := Lib.hid hm0
  have HS0 := Lib.hid hs0
  clear hp hsa hn0 hc0 hs0 hm0
  go_enter Tryz.func29, Tryz.ntmps29
  go_wp2_with fail
  refine (indexFuncA_any x.ats (isN s) _ 58 #[.pointer (some ⟨w.heap.size + 1, 0, none⟩)] (enters_of Tryz.func58 (by kernel_rfl) rfl) hl _ hU0 HP.out).mono ?_
  rintro e w2 ⟨rfl, hb2⟩
  have hm2 := cellK hb2 (by have := HS0.out; omega) HM.out
  have hU2 := hU0.kept hb2
  have hbb := bs hb0 hb2
  clear hba hb0 hb2 hU0 hn1 HM HP HS0
  rcases fi_cases x.ats (isN s) with ⟨h, _⟩ | ⟨k, hk, h, _⟩
  · have hR := Lib.hid (atO_none h)
    rw [h]
    clear h
    go_wp2_with fail
    go_ret
    exact ⟨by rw [hR.out]; rfl, hbb⟩
  · have hR := Lib.hid (atO_some hk h)
    rw [h]
    obtain ⟨b, o, cap', hv, _, hb, hc0, hc1⟩ := hU2.at hk
    cases hv
    clear h
    generalize x.ats[k] = y at *
    have hk0 : (0 : Int) ≤ (k : Int) := by omega
    have hk1 : (k : Int) < (x.ats.length : Int) := by omega
    have hk2 : decide ((k : Int) < 0) = false := by simp
    go_wp2_with fail
    go_ret
    exact ⟨by rw [hR.out]; rfl, hbb⟩
theorem kinds22 (k : Int) (h0 : 1 ≤ k) (h1 : k ≤ 22) : k = 1 ∨ k = 2 ∨ k = 3 ∨ k = 4 ∨ k = 5 ∨ k = 6 ∨ k = 7 ∨ k = 8 ∨ k = 9 ∨ k = 10 ∨ k = 11 ∨ k = 12 ∨ k = 13 ∨ k = 14 ∨ k = 15 ∨ k = 16 ∨ k = 17 ∨ k = 18 ∨ k = 19 ∨ k = 20 ∨ k = 21 ∨ k = 22 := by omega
set_option maxHeartbeats 4000000 in
set_option maxRecDepth 100000 in
theorem refType11_any (k : Int) (h0 : 1 ≤ k) (h1 : k ≤ 22) (w : World) : Calls Tryz.prog 46 #[.int .i64 k] w fun e w' => (∃ s, e = .returned (.string s) ∧ tyL[(k - 1).toNat]? = some s) ∧ w = w' := by
  rcases kinds22 k h0 h1 with rfl | rfl | rfl | rfl | rfl | rfl | rfl | rfl | rfl | rfl | rfl | rfl | rfl | rfl | rfl | rfl | rfl | rfl | rfl | rfl | rfl | rfl
  all_goals
    go_enter Tryz.func46, Tryz.ntmps46
    go_wp2
    go_ret
    exact ⟨⟨_, rfl, rfl⟩, rfl⟩
def tyCells : Array Value := (tyL.map Value.string).toArray
def noCells : Array Value := (List.replicate 22 (Value.string ⟨#[]⟩)).toArray
set_option maxHeartbeats 2000000 in
set_option maxRecDepth 100000 in
theorem types_any (w : World) : Calls Tryz.prog 30 #[] w fun e w' => e = .returned (.agg tyCells) ∧ Below w.heap.size w w' := by
  have hb0 := (Below.refl w.heap.size w).alloc (Nat.le_refl _) (.cells noCells 60)
  have hn := Go.heap_alloc_new w (.cells noCells 60)
  go_enter Tryz.func30, Tryz.ntmps30
  go_upto_region 1 with fail
  refine wp_region_lit ?_
  refine wpList_plain rfl fun K hK => ?_
  go_simp
  refine hK _ _ ?_
  refine wpList_store_at rfl 60 _ _ rfl w.heap.size 0 rfl (.agg tyCells) rfl noCells tyCells 60 hn (by kernel_rfl) (by decide) (by kernel_rfl) (by rfl) (Nat.le_refl _) ?_
  intro w2 hw2 hb2
  have hlv := run_loadVar_row (P := Tryz.prog) w2 w.heap.size 60 60 tyCells (0, 0) _ hw2 Tryz.underlying60 rfl (by kernel_rfl)
  go_wp2_with fail
  refine bodyPost_ret (v := .agg tyCells) ?_ rfl ⟨rfl, hb0.trans hb2⟩
  simp [results, Tryz.results30, asAddr, hlv, Act.put]
theorem tyIdx : ∀ k, k < 22 → ∀ w, (Instr.index 60 (.agg tyCells) (.int .i64 (k : Nat))).run Tryz.prog w = .ok (.string (tyL.getD k ⟨#[]⟩)) w
  | 0, _, _ => by kernel_rfl
  | 1, _, _ => by kernel_rfl
  | 2, _, _ => by kernel_rfl
  | 3, _, _ => by kernel_rfl
  | 4, _, _ => by kernel_rfl
  | 5, _, _ => by kernel_rfl
  | 6, _, _ => by kernel_rfl
  | 7, _, _ => by kernel_rfl
  | 8, _, _ => by kernel_rfl
  | 9, _, _ => by kernel_rfl
  | 10, _, _ => by kernel_rfl
  | 11, _, _ => by kernel_rfl
  | 12, _, _ => by kernel_rfl
  | 13, _, _ => by kernel_rfl
  | 14, _, _ => by kernel_rfl
  | 15, _, _ => by kernel_rfl
  | 16, _, _ => by kernel_rfl
  | 17, _, _ => by kernel_rfl
  | 18, _, _ => by kernel_rfl
  | 19, _, _ => by kernel_rfl
  | 20, _, _ => by kernel_rfl
  | 21, _, _ => by kernel_rfl
  | n + 22, h, _ => absurd h (by omega)
theorem otIdx : ∀ k, k < 8 → ∀ w, (Instr.index 62 (.agg #[.string ⟨#[111, 117, 116, 112, 117, 116]⟩, .string ⟨#[102, 105, 101, 108, 100, 115, 101, 116]⟩, .string ⟨#[102, 111, 114, 109]⟩, .string ⟨#[108, 97, 98, 101, 108]⟩, .string ⟨#[111, 112, 116, 105, 111, 110]⟩, .string ⟨#[111, 112, 116, 103, 114, 111, 117, 112]⟩, .string ⟨#[108, 101, 103, 101, 110, 100]⟩, .string ⟨#[100, 97, 116, 97, 108, 105, 115, 116]⟩]) (.int .i64 (k : Nat))).run Tryz.prog w = .ok (.string (otL.getD k ⟨#[]⟩)) w
  | 0, _, _ => by kernel_rfl
  | 1, _, _ => by kernel_rfl
  | 2, _, _ => by kernel_rfl
  | 3, _, _ => by kernel_rfl
  | 4, _, _ => by kernel_rfl
  | 5, _, _ => by kernel_rfl
  | 6, _, _ => by kernel_rfl
  | 7, _, _ => by kernel_rfl
  | n + 8, h, _ => absurd h (by omega)
theorem getD_some {l : List ByteArray} {k : Nat} (hk : k < l.length) : l[k]? = some (l.getD k ⟨#[]⟩) := by
  rw [List.getElem?_eq_getElem hk, List.getD_eq_getElem?_getD, List.getElem?_eq_getElem hk]; rfl
end Go.Proofs.YtafbghlldlconaaGreat

/-
  THE KIND OF A NODE, whole: kinds.Of, ref11.Of: the walks.
-/
namespace Go.Proofs.YtafbghlldlconaaGreat
set_option linter.unusedVariables false
set_option linter.unusedSimpArgs false
open Go.RowKit PT

theorem kind_input {x : Nd} (h : (⟨#[105, 110, 112, 117, 116]⟩ : ByteArray) = x.nm) : kindOf x = tyK (tyOf x) := by unfold kindOf; rw [if_pos h.symm]
theorem kind_button {x : Nd} (h0 : ¬ (⟨#[105, 110, 112, 117, 116]⟩ : ByteArray) = x.nm) (h : (⟨#[98, 117, 116, 116, 111, 110]⟩ : ByteArray) = x.nm) : kindOf x = btK (tyOf x) := by unfold kindOf; rw [if_neg (fun e => h0 e.symm), if_pos h.symm]
theorem kind_select {x : Nd} (h0 : ¬ (⟨#[105, 110, 112, 117, 116]⟩ : ByteArray) = x.nm) (h1 : ¬ (⟨#[98, 117, 116, 116, 111, 110]⟩ : ByteArray) = x.nm) (h : (⟨#[115, 101, 108, 101, 99, 116]⟩ : ByteArray) = x.nm) : kindOf x = 23 := by unfold kindOf; rw [if_neg (fun e => h0 e.symm), if_neg (fun e => h1 e.symm), if_pos h.symm]
theorem kind_area {x : Nd} (h0 : ¬ (⟨#[105, 110, 112, 117, 116]⟩ : ByteArray) = x.nm) (h1 : ¬ (⟨#[98, 117, 116, 116, 111, 110]⟩ : ByteArray) = x.nm) (h2 : ¬ (⟨#[115, 101, 108, 101, 99, 116]⟩ : ByteArray) = x.nm) (h : (⟨#[116, 101, 120, 116, 97, 114, 101, 97]⟩ : ByteArray) = x.nm) : kindOf x = 24 := by unfold kindOf; rw [if_neg (fun e => h0 e.symm), if_neg (fun e => h1 e.symm), if_neg (fun e => h2 e.symm), if_pos h.symm]
theorem kind_other {x : Nd} (h0 : ¬ (⟨#[105, 110, 112, 117, 116]⟩ : ByteArray) = x.nm) (h1 : ¬ (⟨#[98, 117, 116, 116, 111, 110]⟩ : ByteArray) = x.nm) (h2 : ¬ (⟨#[115, 101, 108, 101, 99, 116]⟩ : ByteArray) = x.nm) (h3 : ¬ (⟨#[116, 101, 120, 116, 97, 114, 101, 97]⟩ : ByteArray) = x.nm) : kindOf x = otK x.nm := by unfold kindOf; rw [if_neg (fun e => h0 e.symm), if_neg (fun e => h1 e.symm), if_neg (fun e => h2 e.symm), if_neg (fun e => h3 e.symm)]
theorem btK_reset {ty : ByteArray} (h : (⟨#[114, 101, 115, 101, 116]⟩ : ByteArray) = ty) : btK ty = 26 := by unfold btK; rw [if_pos h.symm]
theorem btK_button {ty : ByteArray} (h0 : ¬ (⟨#[114, 101, 115, 101, 116]⟩ : ByteArray) = ty) (h : (⟨#[98, 117, 116, 116, 111, 110]⟩ : ByteArray) = ty) : btK ty = 27 := by unfold btK; rw [if_neg (fun e => h0 e.symm), if_pos h.symm]
theorem btK_else {ty : ByteArray} (h0 : ¬ (⟨#[114, 101, 115, 101, 116]⟩ : ByteArray) = ty) (h : ¬ (⟨#[98, 117, 116, 116, 111, 110]⟩ : ByteArray) = ty) : btK ty = 25 := by unfold btK; rw [if_neg (fun e => h0 e.symm), if_neg (fun e => h e.symm)]
theorem atO_size (l : List At) (s : ByteArray) {n : Nat} (hA : ∀ a ∈ l, a.v.size ≤ n) : ((atO l s).getD ⟨#[]⟩).size ≤ n := by
  rcases fi_cases l (isN s) with ⟨h, _⟩ | ⟨k, hk, h, _⟩
  · rw [atO_none h]; exact Nat.zero_le _
  · rw [atO_some hk h]; exact hA _ (List.getElem_mem hk)
set_option maxHeartbeats 4000000 in
set_option maxRecDepth 100000 in
theorem kindsOf_any (x : Nd) (va vk : Value) (hl : x.ats.length ≤ 1000000000000000) (hA : ∀ a ∈ x.ats, a.v.size ≤ 140737488351232) (w : World) (hU : Atts x.ats va w) :
    Calls Tryz.prog 10 #[NdV x va vk] w fun e w' => e = .returned (.int .i64 (kindOf x)) ∧ Below w.heap.size w w' := by
  have hsz := atO_size x.ats ⟨#[116, 121, 112, 101]⟩ hA
  have hty : tyOf x = ⟨(low ((atO x.ats ⟨#[116, 121, 112, 101]⟩).getD ⟨#[]⟩).data.toList).toArray⟩ := rfl
  have HTY := Lib.hid hty
  clear hty
  have hb0 := (Below.refl w.heap.size w).alloc (Nat.le_refl _) (.cells #[.string x.nm, .string x.tx, va, .int .i64 x.pa, vk] 41)
  have hn0 := Go.heap_alloc_new w (.cells #[.string x.nm, .string x.tx, va, .int .i64 x.pa, vk] 41)
  have hU0 := hU.kept hb0
  obtain ⟨a, cap, rfl⟩ := hU.len
  have hN : NdV x (.slice a x.ats.length cap) vk = .agg #[.string x.nm, .string x.tx, .slice a x.ats.length cap, .int .i64 x.pa, vk] := rfl
  rw [hN]
  clear hN
  go_enter Tryz.func10, Tryz.ntmps10
  go_upto_region 1 with fail
  generalize World.alloc _ _ = W0 at hb0 hn0 hU0 ⊢
  obtain ⟨x0, x1, x2, x3, x4, f0, f1, f2, f3, f4⟩ := five_of hn0
  go_wp2_with fail
  refine (kindsAttr_any x _ vk ⟨#[116, 121, 112, 101]⟩ hl _ hU0).mono ?_
  rintro e w1 ⟨rfl, hb1⟩
  have hn1 := blk_kept hb1 hn0
  have hb01 := bs hb0 hb1
  generalize (atO x.ats ⟨#[116, 121, 112, 101]⟩).getD ⟨#[]⟩ = tv at hsz HTY ⊢
  clear x0 x1 x2 x3 x4 f0 f1 f2 f3 f4
  go_wp2_with fail
  refine (lower_any tv _ hsz).mono ?_
  rintro e w2 ⟨rfl, hb2⟩
  rw [← HTY.out]
  have hn2 := blk_kept hb2 hn1
  have hbb := bs hb01 hb2
  obtain ⟨ty, hty⟩ : ∃ ty, tyOf x = ty := ⟨_, rfl⟩
  have HK := Lib.hid hty
  rw [hty]
  clear hty HTY hsz hn0 hU0 hb01 hb0 hb1 hb2 hn1
  obtain ⟨x0, x1, x2, x3, x4, f0, f1, f2, f3, f4⟩ := five_of hn2
  by_cases n1 : (⟨#[105, 110, 112, 117, 116]⟩ : ByteArray) = x.nm
  · have hK := Lib.hid (show kindOf x = tyK ty by rw [kind_input n1, HK.out])
    have p1 : (x.nm.toList == [105, 110, 112, 117, 116]) = true := ql_yes n1
    clear n1
    go_wp2_with fail
    refine (types_any _).mono ?_
    rintro e w3 ⟨rfl, hb3⟩
    have hb9 := bs hbb hb3
    go_wp2_with fail
    go_loop [16] (fun i => ∃ k : Nat, k ≤ 22 ∧ i = .int .i64 k ∧ Hid (∀ j, j < k → tyL[j]? ≠ some ty)) (fun i => 22 - (intOf i).toNat)
    case atStart => exact ⟨0, Nat.zero_le _, rfl, Lib.hid (fun j hj => by omega)⟩
    case round =>
      obtain ⟨k, hk, rfl, hno⟩ := hrel
      by_cases hlt : k < 22
      · have hlt' : (k : Int) < 22 := by omega
        have hix := tyIdx k hlt
        have hgd := Lib.hid (getD_some (l := tyL) (k := k) hlt)
        generalize tyL.getD k ⟨#[]⟩ = s at hix hgd
        by_cases hs : s = ty
        · have hR := Lib.hid (hK.out.trans (tyK_hit hlt hno.out (by rw [hgd.out, hs])))
          have hq := sTrue hs
          clear hs
          go_wp2_with fail
          go_ret
          exact ⟨ret_int hR.out.symm, hb9⟩
        · have hN := Lib.hid (show ∀ j, j < k + 1 → tyL[j]? ≠ some ty from fun j hj => by
            by_cases e : j = k
            · rw [e, hgd.out]; exact fun e2 => hs (Option.some.inj e2)
            · exact hno.out j (by omega))
          have hq := sFalse hs
          clear hs
          go_wp2_with fail
          go_round
          case rel => exact ⟨k + 1, by omega, by go_num, hN⟩
          case measure => simp [intOf]; omega
      · obtain rfl : k = 22 := by omega
        have hR := Lib.hid (hK.out.trans (tyK_none hno.out))
        go_wp2_with fail
        go_ret
        exact ⟨ret_int hR.out.symm, hb9⟩
  · have p1 : (x.nm.toList == [105, 110, 112, 117, 116]) = false := ql_no n1
    by_cases n2 : (⟨#[98, 117, 116, 116, 111, 110]⟩ : ByteArray) = x.nm
    · have hK := Lib.hid (show kindOf x = btK ty by rw [kind_button n1 n2, HK.out])
      have p2 : (x.nm.toList == [98, 117, 116, 116, 111, 110]) = true := ql_yes n2
      clear n1 n2
      by_cases r1 : (⟨#[114, 101, 115, 101, 116]⟩ : ByteArray) = ty
      · have hR := Lib.hid (hK.out.trans (btK_reset r1))
        have q1 : (ty.toList == [114, 101, 115, 101, 116]) = true := ql_yes r1
        clear r1
        go_wp2_with fail
        go_ret
        exact ⟨ret_int hR.out.symm, hbb⟩
      · have q1 : (ty.toList == [114, 101, 115, 101, 116]) = false := ql_no r1
        by_cases r2 : (⟨#[98, 117, 116, 116, 111, 110]⟩ : ByteArray) = ty
        · have hR := Lib.hid (hK.out.trans (btK_button r1 r2))
          have q2 : (ty.toList == [98, 117, 116, 116, 111, 110]) = true := ql_yes r2
          clear r1 r2
          go_wp2_with fail
          go_ret
          exact ⟨ret_int hR.out.symm, hbb⟩
        · have hR := Lib.hid (hK.out.trans (btK_else r1 r2))
          have q2 : (ty.toList == [98, 117, 116, 116, 111, 110]) = false := ql_no r2
          clear r1 r2
          go_wp2_with fail
          go_ret
          exact ⟨ret_int hR.out.symm, hbb⟩
    · have p2 : (x.nm.toList == [98, 117, 116, 116, 111, 110]) = false := ql_no n2
      by_cases n3 : (⟨#[115, 101, 108, 101, 99, 116]⟩ : ByteArray) = x.nm
      · have hR := Lib.hid (kind_select n1 n2 n3)
        have p3 : (x.nm.toList == [115, 101, 108, 101, 99, 116]) = true := ql_yes n3
        clear n1 n2 n3
        go_wp2_with fail
        go_ret
        exact ⟨ret_int hR.out.symm, hbb⟩
      · have p3 : (x.nm.toList == [115, 101, 108, 101, 99, 116]) = false := ql_no n3
        by_cases n4 : (⟨#[116, 101, 120, 116, 97, 114, 101, 97]⟩ : ByteArray) = x.nm
        · have hR := Lib.hid (kind_area n1 n2 n3 n4)
          have p4 : (x.nm.toList == [116, 101, 120, 116, 97, 114, 101, 97]) = true := ql_yes n4
          clear n1 n2 n3 n4
          go_wp2_with fail
          go_ret
          exact ⟨ret_int hR.out.symm, hbb⟩
        · have hK := Lib.hid (kind_other n1 n2 n3 n4)
          have p4 : (x.nm.toList == [116, 101, 120, 116, 97, 114, 101, 97]) = false := ql_no n4
          clear n1 n2 n3 n4
          go_wp2_with fail
          go_loop [38] (fun i => ∃ k : Nat, k ≤ 8 ∧ i = .int .i64 k ∧ Hid (∀ j, j < k → otL[j]? ≠ some x.nm)) (fun i => 8 - (intOf i).toNat)
          case atStart => exact ⟨0, Nat.zero_le _, rfl, Lib.hid (fun j hj => by omega)⟩
          case round =>
            obtain ⟨k, hk, rfl, hno⟩ := hrel
            by_cases hlt : k < 8
            · have hlt' : (k : Int) < 8 := by omega
              have hix := otIdx k hlt
              have hgd := Lib.hid (getD_some (l := otL) (k := k) hlt)
              generalize otL.getD k ⟨#[]⟩ = s at hix hgd
              by_cases hs : s = x.nm
              · have hR := Lib.hid (hK.out.trans (otK_hit hlt hno.out (by rw [hgd.out, hs])))
                have hq := sTrue hs
                clear hs
                go_wp2_with fail
                go_ret
                exact ⟨ret_int hR.out.symm, hbb⟩
              · have hN := Lib.hid (show ∀ j, j < k + 1 → otL[j]? ≠ some x.nm from fun j hj => by
                  by_cases e : j = k
                  · rw [e, hgd.out]; exact fun e2 => hs (Option.some.inj e2)
                  · exact hno.out j (by omega))
                have hq := sFalse hs
                clear hs
                go_wp2_with fail
                go_round
                case rel => exact ⟨k + 1, by omega, by go_num, hN⟩
                case measure => simp [intOf]; omega
            · obtain rfl : k = 8 := by omega
              have hR := Lib.hid (hK.out.trans (otK_none hno.out))
              go_wp2_with fail
              go_ret
              exact ⟨ret_int hR.out.symm, hbb⟩
end Go.Proofs.YtafbghlldlconaaGreat
