import Derived.Test.YtafbghlldlconaaGreatPart12
import Derived.Test.YtafbghlldlconaaGreatPart9
import Derived.Test.YtafbghlldlconaaGreatPart6
import Derived.StillTail
import Derived.StillTailTactics
import Derived.Deep.RegionWith
import Derived.Test.YtafbghlldlconaaGreatPart8
/-
  ENTRIES OF A CONTROL: entry.image, entry.files, entry.options: the walks.
-/
namespace Go.Proofs.YtafbghlldlconaaGreat
set_option linter.unusedVariables false
set_option linter.unusedSimpArgs false
open Go.RowKit PT

/-- a literal slice of entries in a block of its own -/
theorem ents_lit {T : TypeId} {es : List Ent} {cells : Array Value} (hc : cells.toList = es.flatMap entCells) (W : World) : Ents es (.slice (some ⟨W.heap.size, 0, none⟩) es.length es.length) (W.alloc (.cells cells T)) := by
  refine .inr ⟨W.heap.size, 0, es.length, rfl, by simp, fun j e he i u hu => ?_⟩
  have hn := Go.heap_alloc_new W (.cells cells T)
  have hf := flat_at es j e he i u hu
  rw [← hc] at hf
  simp only [World.cell?, hn, Nat.zero_add]
  simpa using hf
theorem ents_lit_at {T : TypeId} {es : List Ent} {cells : Array Value} (hc : cells.toList = es.flatMap entCells) (W : World) {g n : Nat} (hg : g = W.heap.size) (hn : n = es.length) : Ents es (.slice (some ⟨g, 0, none⟩) n n) (W.alloc (.cells cells T)) := by
  subst hg hn
  exact ents_lit hc W
theorem ents_nil (w : World) : Ents [] (.slice none 0 0) w := .inl ⟨rfl, none, 0, rfl, fun _ => rfl⟩
theorem isEmpty_no {s : ByteArray} (h : s.size ≠ 0) : s.toList.isEmpty = false := by
  rw [ByteArray.toList_eq]
  cases e : s.data.toList with
  | nil => exact absurd (size0.1 (ByteArray.ext (by rw [← Array.toArray_toList (xs := s.data), e]))) h
  | cons _ _ => rfl
theorem one_alloc {w : World} (o : Obj) : Below w.heap.size w (w.alloc o) := (Below.refl w.heap.size w).alloc (Nat.le_refl _) o
set_option maxHeartbeats 1000000 in
set_option maxRecDepth 100000 in
theorem entImage_any (nm : ByteArray) (hs : nm.size ≤ 140737488351232) (w : World) :
    Calls Tryz.prog 40 #[.string nm] w fun e w' => ∃ vo, e = .returned vo ∧ Ents (entsImg nm) vo w' ∧ Below w.heap.size w w' := by
  by_cases h0 : nm.size = 0
  · have hd := Lib.hid (show dotS nm = nm from if_pos h0)
    have hq := sTrue (show nm = ⟨#[]⟩ from size0.2 h0)
    have hq2 := Lib.hid hq
    have hnil : nm = ⟨#[]⟩ := size0.2 h0
    subst hnil
    clear hq hq2
    go_enter Tryz.func40, Tryz.ntmps40
    go_wp2_with fail
    go_ret
    exact ⟨_, rfl, ents_lit (es := entsImg ⟨#[]⟩) rfl _, one_alloc _⟩
  · have hd := Lib.hid (show dotS nm = nm ++ ⟨#[46]⟩ from if_neg h0)
    have hne : nm ≠ ⟨#[]⟩ := fun e => h0 (size0.1 e)
    have hq : nm.toList.isEmpty = false := by
      rw [ByteArray.toList_eq]
      cases e : nm.data.toList with
      | nil => exact absurd (ByteArray.ext (by rw [← Array.toArray_toList (xs := nm.data), e])) hne
      | cons _ _ => rfl
    have c1 : ¬ 9223372036854775807 < nm.size + 1 := by omega
    have c2 : ¬ 9223372036854775807 < nm.size + 1 + 1 := by omega
    clear hne h0
    go_enter Tryz.func40, Tryz.ntmps40
    go_wp2_with fail
    go_ret
    exact ⟨_, rfl, ents_lit (es := entsImg nm) (by unfold entsImg; rw [hd.out]; rfl) _, one_alloc _⟩
set_option maxHeartbeats 2000000 in
set_option maxRecDepth 100000 in
theorem entFiles_any (c : Ct) (vf : Value) (nm : ByteArray) (hF : c.fi.length ≤ 1048576) (w : World) (hE : Ents c.fi vf w) :
    Calls Tryz.prog 42 #[ctV (c, vf), .string nm] w fun e w' => ∃ vo, e = .returned vo ∧ Ents (entsFile c.fi nm) vo w' ∧ Below w.heap.size w w' := by
  obtain ⟨a1, cap1, rfl⟩ := hE.len
  obtain ⟨c0, c9, hs1, hb1⟩ := ctv_box (T := 54) (c := c) (a := a1) (cap := cap1) (w := w) _ rfl
  have hE1 := hE.kept hb1
  unfold ctV
  by_cases h0 : c.fi.length = 0
  · have hR := Lib.hid (show entsFile c.fi nm = [⟨nm, ⟨#[]⟩, true, ⟨#[]⟩, octS⟩] from if_pos h0)
    have hq : ((c.fi.length : Int) == 0) = true := by rw [h0]; rfl
    clear hE hE1 h0 hF
    go_enter Tryz.func42, Tryz.ntmps42
    go_wp2_with fail
    go_ret
    exact ⟨_, rfl, by rw [hR.out]; exact ents_lit_at rfl _ hs1.symm rfl, bs hb1 (one_alloc _)⟩
  · have hR := Lib.hid (show entsFile c.fi nm = c.fi.map (entFi nm) from if_neg h0)
    have hq : ((c.fi.length : Int) == 0) = false := intNe (by omega)
    go_enter Tryz.func42, Tryz.ntmps42
    go_wp2_with fail
    generalize World.alloc w _ = W1 at c0 c9 hs1 hb1 hE1 ⊢
    go_loopw [5, 18] (fun u i wr => ∃ k : Nat, k ≤ c.fi.length ∧ i = .int .i64 k ∧ OE W1.heap.size ((c.fi.take k).map (entFi nm)) u wr ∧ Below W1.heap.size W1 wr) (fun _ i _ => c.fi.length - (intOf i).toNat)
    case atStart => exact ⟨0, Nat.zero_le _, rfl, OE.nil _ _, Below.refl _ _⟩
    case round =>
      obtain ⟨k, hk, rfl, ho, hbel⟩ := hrel
      have hsz := hbel.size
      by_cases hlt : k < c.fi.length
      · obtain ⟨b, o, cap', hv, hb, x0, x1, x2, x3, x4⟩ := (hE1.kept hbel).five hlt
        cases hv
        have hTk := Lib.hid (show ((c.fi.take (k + 1)).map (entFi nm)) = (c.fi.take k).map (entFi nm) ++ [entFi nm c.fi[k]] by rw [List.take_succ_eq_append_getElem hlt, List.map_append]; rfl)
        have hlen : ((c.fi.take k).map (entFi nm)).length < 1000000000 := by rw [List.length_map, List.length_take]; omega
        generalize c.fi[k] = x at *
        have hn := Go.heap_alloc_new wr (.cells #[.string x.n, .string x.v, .bool x.f, .string x.fn, .string x.t] 56)
        have hba := one_alloc (w := wr) (.cells #[.string x.n, .string x.v, .bool x.f, .string x.fn, .string x.t] 56)
        have ho2 := ho.alloc (.cells #[.string x.n, .string x.v, .bool x.f, .string x.fn, .string x.t] 56)
        have hsa : (wr.alloc (.cells #[.string x.n, .string x.v, .bool x.f, .string x.fn, .string x.t] 56)).heap.size = wr.heap.size + 1 := by simp
        have y1 : (wr.alloc (.cells #[.string x.n, .string x.v, .bool x.f, .string x.fn, .string x.t] 56)).cell? ⟨wr.heap.size, 1, none⟩ = some (.string x.v) := by simp only [World.cell?, hn]; rfl
        have y3 : (wr.alloc (.cells #[.string x.n, .string x.v, .bool x.f, .string x.fn, .string x.t] 56)).cell? ⟨wr.heap.size, 3, none⟩ = some (.string x.fn) := by simp only [World.cell?, hn]; rfl
        have y4 : (wr.alloc (.cells #[.string x.n, .string x.v, .bool x.f, .string x.fn, .string x.t] 56)).cell? ⟨wr.heap.size, 4, none⟩ = some (.string x.t) := by simp only [World.cell?, hn]; rfl
        clear hn
        go_wp2_with (at_builtin; refine wpList_append_ent_at rfl _ _ rfl _ hsa.symm rfl rfl (entFi nm x) ho2 hlen (by omega) ?_; intro v' w3 hown3 hb3)
        go_roundw
        case rel => exact ⟨k + 1, by omega, by go_num, by rw [hTk.out]; exact hown3, (hbel.trans (hba.mono hsz)).trans hb3⟩
        case measure => simp [intOf]; omega
      · obtain rfl : k = c.fi.length := by omega
        go_wp2_with fail
        go_ret
        exact ⟨_, rfl, by rw [hR.out]; rw [List.take_length] at ho; exact ho.ents, bs hb1 hbel⟩
set_option maxHeartbeats 2000000 in
set_option maxRecDepth 100000 in
theorem entOptions_any (l : List Nd) (cs : List Ct) (vn vc : Value) (sel : Int) (nm : ByteArray) (hll : l.length = cs.length) (w : World) (hD : DocAt l cs vn vc w) :
    Calls Tryz.prog 41 #[.agg #[vn, vc], .int .i64 sel, .string nm] w fun e w' => ∃ vo, e = .returned vo ∧ Ents (entsSel l cs sel nm) vo w' ∧ Below w.heap.size w w' := by
  have hmax := hD.nodes.len
  have hfits := hD.nodes.fits
  obtain ⟨a1, cap1, rfl⟩ := hD.nodes.nodes.len
  obtain ⟨a2, cap2, rfl⟩ := hD.ctls.len
  obtain ⟨hD1, hb1, hs1, c0, c1⟩ := doc_box (T := 25) hD
  have Hll := Lib.hid hll
  clear hll
  have hR := Lib.hid (show entsSel l cs sel nm = ((listF l sel).filter (selO l cs)).map (entO l nm) from rfl)
  have hlist : (listF l sel).length ≤ 400 := by
    unfold listF
    split
    · rename_i hi
      have hc := (isF_30 (by omega)).1 hi
      obtain ⟨i0, i1⟩ := kindF_pos (l := l) (k := sel) (by omega)
      have hRP := (rightB_iff l).1 hc.1
      have hks := hc.2
      rw [kindF_in i0 i1, kOf_sel i0 i1] at hks
      have h1 := optsOf_len hRP i0 i1 hks
      have h2 := hRP.max
      omega
    · exact Nat.zero_le _
  have hmem := Lib.hid (fun o (h : o ∈ listF l sel) => listF_mem h)
  go_enter Tryz.func41, Tryz.ntmps41
  go_wp2_with fail
  generalize World.alloc w _ = W1 at hD1 hb1 hs1 c0 c1 ⊢
  refine (optList_any l _ sel hmax hfits _ hD1.nodes.nodes).mono ?_
  generalize listF l sel = L at *
  rintro e w2 ⟨vo, rfl, hov, hb2⟩
  obtain ⟨a, cap, rfl, _⟩ := hov.form
  rw [ints_len] at hov ⊢
  have hD2 := hD1.kept hb2
  have hg2 := hb2.size
  have d0 := cellK hb2 (by omega) c0
  have d1 := cellK hb2 (by omega) c1
  go_wp2_with fail
  go_loopw [7, 15] (fun u i wr => ∃ k : Nat, k ≤ L.length ∧ i = .int .i64 k ∧ OE w2.heap.size (((L.take k).filter (selO l cs)).map (entO l nm)) u wr ∧ Below w2.heap.size w2 wr) (fun _ i _ => L.length - (intOf i).toNat)
  case atStart => exact ⟨0, Nat.zero_le _, rfl, OE.nil _ _, Below.refl _ _⟩
  case round =>
    obtain ⟨k, hk, rfl, ho, hbel⟩ := hrel
    have hsz := hbel.size
    have hDr := hD2.kept hbel
    have r0 := cellK hbel (by omega) d0
    have r1 := cellK hbel (by omega) d1
    by_cases hlt : k < L.length
    · obtain ⟨o0, o1, o32⟩ := hmem.out _ (List.getElem_mem hlt)
      have hov' := hov.kept hbel
      obtain ⟨g, gc, hv, _, hcell⟩ := hov'.at (by intro e; have := congrArg List.length e; rw [ints_len, List.length_nil] at this; omega)
      rw [ints_len] at hv
      cases hv
      have hcc := hcell k (.int .i64 L[k]) (by rw [ints, List.getElem?_map, List.getElem?_eq_getElem hlt]; rfl)
      have hfs := Lib.hid (show ((L.take (k + 1)).filter (selO l cs)).map (entO l nm) = ((L.take k).filter (selO l cs)).map (entO l nm) ++ if selO l cs L[k] = true then [entO l nm L[k]] else [] by
        rw [filter_snoc hlt, List.map_append]
        congr 1
        split <;> rfl)
      have hfl : (((L.take k).filter (selO l cs)).map (entO l nm)).length ≤ k := by
        rw [List.length_map]
        exact Nat.le_trans (List.length_filter_le _ _) (List.length_take_le _ _)
      have hk0 : (0 : Int) ≤ (k : Int) := by omega
      have hk1 : (k : Int) < (L.length : Int) := by omega
      generalize L[k] = c at *
      obtain ⟨q, rfl⟩ := Int.eq_ofNat_of_zero_le o0
      have hql : q < cs.length := by rw [← Hll.out]; omega
      have hq0 : (0 : Int) ≤ (q : Int) := by omega
      have hq1 : (q : Int) < (cs.length : Int) := by omega
      obtain ⟨b, o, cap', vf, hv, hb, ⟨x0, x1, x2, x3, x4, x5, x6, x7, x8, x9⟩, hE⟩ := hDr.ctls.at hql
      cases hv
      have hse := show selO l cs (q : Nat) = ((ctOf cs (q : Nat)).se && !offF l (q : Nat)) from rfl
      rw [ctOf_at hql] at hse
      generalize cs[q] = x at *
      obtain ⟨sb, hsb⟩ : ∃ sb, x.se = sb := ⟨_, rfl⟩
      rw [hsb] at x6 hse
      clear hsb
      cases sb
      · have hN := Lib.hid (show ((L.take (k + 1)).filter (selO l cs)).map (entO l nm) = ((L.take k).filter (selO l cs)).map (entO l nm) from hfs.out.trans (by rw [hse, Bool.false_and, if_neg Bool.false_ne_true, List.append_nil]))
        clear hse
        go_wp2_with fail
        go_roundw
        case rel => exact ⟨k + 1, by omega, by go_num, by rw [hN.out]; exact ho, hbel⟩
        case measure => simp [intOf]; omega
      · cases hof : offF l (q : Nat)
        · have hN := Lib.hid (show ((L.take (k + 1)).filter (selO l cs)).map (entO l nm) = ((L.take k).filter (selO l cs)).map (entO l nm) ++ [entO l nm (q : Nat)] from hfs.out.trans (by rw [hse, hof]; rfl))
          have HO := Lib.hid hof
          clear hse hof
          go_wp2_with fail
          refine (optOffT_any l _ _ hmax hfits _ hDr.nodes.nodes).mono ?_
          rintro e w3 ⟨rfl, hb3⟩
          rw [HO.out]
          have s0 := cellK hb3 (by omega) r0
          go_wp2_with fail
          refine (optText_any l _ (q : Nat) hmax hfits _ (hDr.nodes.nodes.kept hb3)).mono ?_
          rintro e w4 ⟨rfl, hb4⟩
          have hb34 := bs hb3 hb4
          have hbr4 := hbel.trans (hb34.mono hsz)
          have ho4 := ho.kept hb34
          go_wp2_with (at_builtin; refine wpList_append_ent rfl _ _ rfl rfl rfl (entO l nm (q : Nat)) ho4 (by omega) (by have := hbr4.size; omega) ?_; intro v' w5 hown5 hb5)
          go_roundw
          case rel => exact ⟨k + 1, by omega, by go_num, by rw [hN.out]; exact hown5, hbr4.trans hb5⟩
          case measure => simp [intOf]; omega
        · have hN := Lib.hid (show ((L.take (k + 1)).filter (selO l cs)).map (entO l nm) = ((L.take k).filter (selO l cs)).map (entO l nm) from hfs.out.trans (by rw [hse, hof, if_neg (by decide), List.append_nil]))
          have HO := Lib.hid hof
          clear hse hof
          go_wp2_with fail
          refine (optOffT_any l _ _ hmax hfits _ hDr.nodes.nodes).mono ?_
          rintro e w3 ⟨rfl, hb3⟩
          rw [HO.out]
          go_wp2_with fail
          go_roundw
          case rel => exact ⟨k + 1, by omega, by go_num, by rw [hN.out]; exact ho.kept hb3, hbel.trans (hb3.mono hsz)⟩
          case measure => simp [intOf]; omega
    · obtain rfl : k = L.length := by omega
      go_wp2_with fail
      go_ret
      exact ⟨_, rfl, by rw [hR.out]; rw [List.take_length] at ho; exact ho.ents, bs (bs hb1 hb2) hbel⟩
end Go.Proofs.YtafbghlldlconaaGreat

/-
  WHAT IS DISABLED: slices.IndexFunc over numbers, owner.legend, owner.Disabled: the walks.
-/
namespace Go.Proofs.YtafbghlldlconaaGreat
set_option linter.unusedVariables false
set_option linter.unusedSimpArgs false
open Go.RowKit PT

/-- the first place of a number with .. ; -1: there is none -/
def fn (l : List Int) (f : Int → Bool) : Int := match l.findIdx? f with
  | none => -1
  | some i => (i : Int)
theorem fn_none {l : List Int} {f : Int → Bool} (h : ∀ x ∈ l, f x = false) : fn l f = -1 := by
  unfold fn
  rw [List.findIdx?_eq_none_iff.2 (fun x hx => by simpa using h x hx)]
theorem fn_hit {l : List Int} {f : Int → Bool} {k : Nat} (hk : k < l.length) (hno : ∀ x ∈ l.take k, f x = false) (h : f l[k] = true) : fn l f = k := by
  unfold fn
  rw [List.findIdx?_eq_some_iff_getElem.2 ⟨hk, h, fun j hj => by
    have := hno l[j] (by
      rw [List.mem_take_iff_getElem]
      exact ⟨j, by omega, rfl⟩)
    simpa using this⟩]
theorem fn_cases (l : List Int) (f : Int → Bool) : (fn l f = -1 ∧ firstF f l = -1) ∨ ∃ k, ∃ hk : k < l.length, fn l f = (k : Nat) ∧ firstF f l = l[k] := by
  unfold fn
  cases h : l.findIdx? f with
  | none =>
    left
    refine ⟨rfl, firstF_none (fun x hx => by simpa using List.findIdx?_eq_none_iff.1 h x hx)⟩
  | some i =>
    right
    obtain ⟨hk, h1, h2⟩ := List.findIdx?_eq_some_iff_getElem.1 h
    refine ⟨i, hk, rfl, firstF_hit hk (fun x hx => ?_) h1⟩
    rw [List.mem_take_iff_getElem] at hx
    obtain ⟨j, hj, rfl⟩ := hx
    have := h2 j (by omega)
    simpa using this
set_option maxHeartbeats 1000000 in
set_option maxRecDepth 100000 in
theorem indexFuncI_any (l : List Int) (f : Int → Bool) (u : Value) (g : Nat) (lb : Array Value) (eg : ∀ args w, (callFunc g args).run Tryz.prog w = .ok (.enter g args) w) (hl : l.length ≤ 1000000000000000) (w : World) (hU : Nums l u w)
    (hp : ∀ W, Below w.heap.size w W → ∀ x ∈ l, Calls Tryz.prog g (#[.int .i64 x] ++ lb) W fun e w' => e = .returned (.bool (f x)) ∧ Below W.heap.size W w') :
    Calls Tryz.prog 88 #[u, .func (.func g) #[] lb] w fun e w' => e = .returned (.int .i64 (fn l f)) ∧ Below w.heap.size w w' := by
  obtain ⟨a, cap, rfl⟩ := hU.len
  go_enter Tryz.func88, Tryz.ntmps88
  go_wp2_with fail
  go_loopw [8] (fun i wr => ∃ k : Nat, k ≤ l.length ∧ i = .int .i64 k ∧ Hid (∀ x ∈ l.take k, f x = false) ∧ Below w.heap.size w wr) (fun i _ => l.length - (intOf i).toNat)
  case atStart => exact ⟨0, Nat.zero_le _, rfl, Lib.hid (by simp), Below.refl _ _⟩
  case round =>
    obtain ⟨k, hk, rfl, hA, hbel⟩ := hrel
    by_cases hlt : k < l.length
    · obtain ⟨b, o, cap', hv, hb, hc0⟩ := (hU.kept hbel).at hlt
      cases hv
      have hT := Lib.hid (fun h => take_mem_snoc (P := fun x => f x = false) hlt hA.out h)
      have hH := Lib.hid (fun h => fn_hit hlt hA.out h)
      have hM := List.getElem_mem hlt
      have hcall := hp wr hbel l[k] hM
      generalize l[k] = x at *
      have HC := Lib.hid hcall
      clear hcall
      go_wp2_with fail
      refine HC.out.mono ?_
      rintro e w2 ⟨rfl, hb2⟩
      cases hf : f x
      · have hN := Lib.hid (hT.out hf)
        clear hf
        go_wp2_with fail
        go_roundw
        case rel => exact ⟨k + 1, by omega, by go_num, hN, hbel.trans (hb2.mono hbel.size)⟩
        case measure => simp [intOf]; omega
      · have hN := Lib.hid (hH.out hf)
        clear hf
        go_wp2_with fail
        go_ret
        exact ⟨ret_int hN.out.symm, hbel.trans (hb2.mono hbel.size)⟩
    · obtain rfl : k = l.length := by omega
      have hN := Lib.hid (show fn l f = -1 from fn_none (by have := hA.out; rwa [List.take_of_length_le (Nat.le_refl _)] at this))
      go_wp2_with fail
      go_ret
      exact ⟨ret_int hN.out.symm, hbel⟩
set_option maxHeartbeats 1000000 in
set_option maxRecDepth 100000 in
theorem legendFn_any (l : List Nd) (v : Value) (x : Int) (hRP : RightP l) (B : Nat) (w : World) (hU : Nodes l v w) (hc : w.cell? ⟨B, 0, none⟩ = some v) :
    Calls Tryz.prog 89 #[.int .i64 x, .pointer (some ⟨B, 0, none⟩)] w fun e w' => e = .returned (.bool (decide (kindF l x = 34))) ∧ Below w.heap.size w w' := by
  have hmax := hRP.max
  obtain ⟨a, cap, rfl⟩ := hU.len
  by_cases hk : kindF l x = 34
  · have HK := Lib.hid hk
    have hR := Lib.hid (decide_eq_true hk)
    clear hk
    go_enter Tryz.func89, Tryz.ntmps89
    go_wp2_with fail
    refine (ownerKind_any l _ x (by omega) hRP.vals _ hU).mono ?_
    rintro e w2 ⟨rfl, hb2⟩
    rw [HK.out]
    go_wp2_with fail
    go_ret
    exact ⟨ret_bool hR.out.symm, hb2⟩
  · have hq := Lib.hid (intNe hk)
    have hR := Lib.hid (decide_eq_false hk)
    clear hk
    go_enter Tryz.func89, Tryz.ntmps89
    go_wp2_with fail
    refine (ownerKind_any l _ x (by omega) hRP.vals _ hU).mono ?_
    rintro e w2 ⟨rfl, hb2⟩
    have q1 := hq.out
    go_wp2_with fail
    go_ret
    exact ⟨ret_bool hR.out.symm, hb2⟩
set_option maxHeartbeats 1000000 in
set_option maxRecDepth 100000 in
theorem legend_any (l : List Nd) (v : Value) (K : Nat) (hkl : K < l.length) (hRP : RightP l) (w : World) (hU : Nodes l v w) :
    Calls Tryz.prog 67 #[v, .int .i64 K] w fun e w' => e = .returned (.int .i64 (legF l K)) ∧ Below w.heap.size w w' := by
  obtain ⟨a, cap, rfl⟩ := hU.len
  have hb0 := (Below.refl w.heap.size w).alloc (Nat.le_refl _) (.cells #[.slice a l.length cap] 22)
  have hn0 := Go.heap_alloc_new w (.cells #[.slice a l.length cap] 22)
  have hs0 : (w.alloc (.cells #[.slice a l.length cap] 22)).heap.size = w.heap.size + 1 := by simp
  have hU0 := hU.kept hb0
  have hc0 : (w.alloc (.cells #[.slice a l.length cap] 22)).cell? ⟨w.heap.size, 0, none⟩ = some (.slice a l.length cap) := by simp only [World.cell?, hn0]; rfl
  obtain ⟨b, o, cap', va, vk, hv, hb, c0, c1, c2, c3, c4, hat, hks⟩ := hU0.at hkl
  cases hv
  have hp : ∀ W, Below (w.alloc (.cells #[.slice (some ⟨b, o, none⟩) l.length cap] 22)).heap.size (w.alloc (.cells #[.slice (some ⟨b, o, none⟩) l.length cap] 22)) W → ∀ x ∈ l[K].ks, Calls Tryz.prog 89 (#[.int .i64 x] ++ #[.pointer (some ⟨w.heap.size, 0, none⟩)]) W fun e w' => e = .returned (.bool (decide (kindF l x = 34))) ∧ Below W.heap.size W w' := by
    intro W hW x hx
    exact legendFn_any l _ x hRP w.heap.size W (hU0.kept hW) (cellK hW (by omega) hc0)
  have HP := Lib.hid hp
  have hke := ksOf_at hkl
  have hR := Lib.hid (show legF l (K : Nat) = firstF (fun x => decide (kindF l x = 34)) l[K].ks by unfold legF; rw [hke])
  have hkn := hRP.nodup (k := (K : Int)) (by omega) (by omega)
  have hkz : (ksOf l (K : Int)).length ≤ 400 := Nat.le_trans (nodup_len hkn (fun c' hc' => ⟨(hRP.kid (by omega) (by omega) hc').1, (hRP.kid (by omega) (by omega) hc').2.1⟩)) hRP.max
  rw [hke] at hkz
  have hcs := fn_cases l[K].ks (fun x => decide (kindF l x = 34))
  clear hp hkn hke
  have hK0 : (0 : Int) ≤ (K : Int) := by omega
  have hK1 : (K : Int) < (l.length : Int) := by omega
  generalize l[K] = x at *
  obtain ⟨a2, cap2, rfl⟩ := hks.len
  rcases hcs with ⟨h1, h2⟩ | ⟨k, hk, h1, h2⟩
  · have hE := Lib.hid (hR.out.trans h2)
    have H1 := Lib.hid h1
    clear h1 h2 hn0 hs0
    go_enter Tryz.func67, Tryz.ntmps67
    go_wp2_with fail
    refine (indexFuncI_any x.ks _ _ 89 #[.pointer (some ⟨w.heap.size, 0, none⟩)] (enters_of Tryz.func89 (by kernel_rfl) rfl) (by omega) _ hks HP.out).mono ?_
    rintro e w2 ⟨rfl, hb2⟩
    rw [H1.out]
    go_wp2_with fail
    go_ret
    exact ⟨ret_int hE.out.symm, bs hb0 hb2⟩
  · have H1 := Lib.hid h1
    have hE := Lib.hid (hR.out.trans h2)
    clear h1 h2
    have hk0 : (0 : Int) ≤ (k : Int) := by omega
    have hk1 : (k : Int) < (x.ks.length : Int) := by omega
    have hs9 : w.heap.size < (w.alloc (.cells #[.slice (some ⟨b, o, none⟩) l.length cap] 22)).heap.size := by omega
    clear hn0 hs0
    go_enter Tryz.func67, Tryz.ntmps67
    go_wp2_with fail
    refine (indexFuncI_any x.ks _ _ 89 #[.pointer (some ⟨w.heap.size, 0, none⟩)] (enters_of Tryz.func89 (by kernel_rfl) rfl) (by omega) _ hks HP.out).mono ?_
    rintro e w2 ⟨rfl, hb2⟩
    rw [H1.out]
    have d0 := cellK hb2 hs9 hc0
    have d4 := cellK hb2 hb c4
    obtain ⟨b9, o9, cap9, hv9, hb9, d9⟩ := (hks.kept hb2).at hk
    cases hv9
    generalize x.ks[k] = y at *
    go_wp2_with fail
    go_ret
    exact ⟨ret_int hE.out.symm, bs hb0 hb2⟩
set_option maxHeartbeats 4000000 in
set_option maxRecDepth 100000 in
theorem disabled_any (l : List Nd) (v : Value) (id : Int) (hl : l.length ≤ 1000000000000000000) (hz : ∀ x ∈ l, Fits x) (hz2 : ∀ x ∈ l, x.ats.length ≤ 1000000000000000 ∧ ∀ a ∈ x.ats, a.v.size ≤ 140737488351232) (w : World) (hU : Nodes l v w) :
    Calls Tryz.prog 39 #[v, .int .i64 id] w fun e w' => e = .returned (.bool (disF l id)) ∧ Below w.heap.size w w' := by
  obtain ⟨a, cap, rfl⟩ := hU.len
  obtain ⟨k0, k1⟩ := kindF_range l id
  have hD := show disF l id = ((rightB l && (submB (kindF l id) || decide (kindF l id = 29))) && (disA l id || upDis l id)) from rfl
  have hpos := Lib.hid (fun h => kindF_pos (l := l) (k := id) h)
  obtain ⟨kk, hkk⟩ : ∃ kk, kindF l id = kk := ⟨_, rfl⟩
  rw [hkk] at k0 k1 hD
  have hk9 := hkk
  have HKI := Lib.hid hkk
  clear hkk
  by_cases hA : submB kk = false ∧ kk ≠ 29
  · obtain ⟨hL, h29⟩ := hA
    have hR := Lib.hid (show disF l id = false by rw [hD, hL, decide_eq_false h29]; simp)
    have HL := Lib.hid hL
    have q1 : (kk == 29) = false := intNe h29
    have q2 : (kk != 29) = true := by rw [bne, q1]; rfl
    clear hL h29 hD hk9
    go_enter Tryz.func39, Tryz.ntmps39
    go_wp2_with fail
    go_step3
    go_wp2_with fail
    refine (ownerKind_any l _ id hl hz2 _ hU).mono ?_
    rintro e w1 ⟨rfl, hb1⟩
    rw [HKI.out]
    go_wp2_with fail
    refine (kindsSubmits_any kk k0 k1 _).mono ?_
    rintro e w2 ⟨rfl, rfl⟩
    rw [HL.out]
    go_wp2_with fail
    try rw [Exit.noGoto_ret]
    go_ret
    exact ⟨ret_bool hR.out.symm, hb1⟩
  have hS : (submB kk || decide (kk = 29)) = true := by
    cases hs : submB kk
    · rw [decide_eq_true (by by_cases e : kk = 29; exact e; exact absurd ⟨hs, e⟩ hA)]; rfl
    · rfl
  rw [hS, Bool.and_true] at hD
  have hne : kk ≠ 0 := by rintro rfl; revert hS; decide
  obtain ⟨b9, HL, hq⟩ : ∃ b, Hid (submB kk = b) ∧ (b = true ∨ (b = false ∧ Hid ((kk == 29) = true) ∧ Hid ((kk != 29) = false))) := by
    by_cases hs : submB kk = true
    · exact ⟨true, Lib.hid hs, .inl rfl⟩
    · have hs' : submB kk = false := by simpa using hs
      have e : kk = 29 := by by_cases e : kk = 29; exact e; exact absurd ⟨hs', e⟩ hA
      exact ⟨false, Lib.hid hs', .inr ⟨rfl, by unfold Hid; rw [e]; rfl, by unfold Hid; rw [e]; rfl⟩⟩
  clear hS hA
  obtain ⟨i0, i1⟩ := hpos.out (by rw [hk9]; exact hne)
  clear hk9 hne
  obtain ⟨K, rfl⟩ := Int.eq_ofNat_of_zero_le i0
  have hkl : K < l.length := by omega
  cases hr : rightB l
  · have hR := Lib.hid (show disF l (K : Nat) = false by rw [hD, hr]; rfl)
    have HR := Lib.hid hr
    clear hr hD
    rcases hq with rfl | ⟨rfl, hq1, hq2⟩
    · go_enter Tryz.func39, Tryz.ntmps39
      go_wp2_with fail
      go_step3
      go_wp2_with fail
      refine (ownerKind_any l _ _ hl hz2 _ hU).mono ?_
      rintro e w1 ⟨rfl, hb1⟩
      rw [HKI.out]
      go_wp2_with fail
      refine (kindsSubmits_any kk k0 k1 _).mono ?_
      rintro e w2 ⟨rfl, rfl⟩
      rw [HL.out]
      go_wp2_with fail
      refine (right_any l _ hl hz _ (hU.kept hb1)).mono ?_
      rintro e w3 ⟨rfl, hb3⟩
      rw [HR.out]
      go_wp2_with fail
      try rw [Exit.noGoto_ret]
      go_ret
      exact ⟨ret_bool hR.out.symm, bs hb1 hb3⟩
    · have q1 := hq1.out
      have q2 := hq2.out
      go_enter Tryz.func39, Tryz.ntmps39
      go_wp2_with fail
      go_step3
      go_wp2_with fail
      refine (ownerKind_any l _ _ hl hz2 _ hU).mono ?_
      rintro e w1 ⟨rfl, hb1⟩
      rw [HKI.out]
      go_wp2_with fail
      refine (kindsSubmits_any kk k0 k1 _).mono ?_
      rintro e w2 ⟨rfl, rfl⟩
      rw [HL.out]
      go_wp2_with fail
      refine (right_any l _ hl hz _ (hU.kept hb1)).mono ?_
      rintro e w3 ⟨rfl, hb3⟩
      rw [HR.out]
      go_wp2_with fail
      try rw [Exit.noGoto_ret]
      go_ret
      exact ⟨ret_bool hR.out.symm, bs hb1 hb3⟩
  have hRP := (rightB_iff l).1 hr
  have hmax := hRP.max
  have HR := Lib.hid hr
  rw [hr, Bool.true_and] at hD
  clear hr
  have hD := Lib.hid hD
  have hdA := Lib.hid (show disA l (K : Nat) = (atO l[K].ats ⟨#[100, 105, 115, 97, 98, 108, 101, 100]⟩).isSome by unfold disA; rw [atsOf_at hkl])
  have hal := one_ats (hRP.node K _ (List.getElem?_eq_getElem hkl)).1
  have hpK := Lib.hid (paOf_at hkl)
  have hUK := hU.at hkl
  have hK0 : (0 : Int) ≤ (K : Int) := by omega
  have hK1 : (K : Int) < (l.length : Int) := by omega
  go_enter Tryz.func39, Tryz.ntmps39
  go_wp2_with fail
  go_step3
  go_wp2_with fail
  refine (ownerKind_any l _ _ hl hz2 _ hU).mono ?_
  rintro e w1 ⟨rfl, hb1⟩
  rw [HKI.out]
  go_wp2_with fail
  refine (kindsSubmits_any kk k0 k1 _).mono ?_
  rintro e w2 ⟨rfl, rfl⟩
  rw [HL.out]
  rcases hq with rfl | ⟨rfl, hq1, hq2⟩
  case' inr => have q1 := hq1.out; have q2 := hq2.out
  all_goals
    go_wp2_with fail
    refine (right_any l _ hl hz _ (hU.kept hb1)).mono ?_
    rintro e w3 ⟨rfl, hb3⟩
    rw [HR.out]
    have hb03 := bs hb1 hb3
    obtain ⟨b, o, cap', va, vk, hv, hb, c0, c1, c2, c3, c4, hat, hks⟩ := (hU.kept hb03).at hkl
    cases hv
    generalize l[K] = x at *
    obtain ⟨a1, cap1, rfl⟩ := hat.len
    obtain ⟨a2, cap2, rfl⟩ := hks.len
    go_wp2_with fail
    refine (ownerHas_any x _ _ ⟨#[100, 105, 115, 97, 98, 108, 101, 100]⟩ (by omega) _ hat).mono ?_
    rintro e w4 ⟨rfl, hb4⟩
    have hb04 := bs hb03 hb4
    rw [← hdA.out]
    cases hda : disA l (K : Nat)
    case true =>
      have hR := Lib.hid (show disF l (K : Nat) = true by rw [hD.out, hda]; rfl)
      clear hda
      go_wp2_with fail
      try rw [Exit.noGoto_ret]
      go_ret
      exact ⟨ret_bool hR.out.symm, hb04⟩
    have hR := Lib.hid (show disF l (K : Nat) = upDis l (K : Nat) by rw [hD.out, hda]; rfl)
    have c3' := cellK hb4 hb c3
    clear hda
    go_wp2_with fail
    go_step3
    go_wp2_with fail
    go_quiet (fail)
    go_wp2_with fail
    go_loopw [6, 7, 8] (fun f c p wr => f = .bool false ∧ ∃ k : Nat, k < l.length ∧ c = .int .i64 k ∧ p = .int .i64 (paOf l (k : Nat)) ∧ Hid (upDis l (k : Nat) = upDis l (K : Nat)) ∧ Below w4.heap.size w4 wr) (fun _ c _ _ => dep l (intOf c))
    case atStart => exact ⟨rfl, K, hkl, rfl, by rw [hpK.out], Lib.hid rfl, below_draws _ _⟩
    case round =>
      obtain ⟨rfl, c, hcl, rfl, rfl, hA, hbel⟩ := hrel
      have hb0r := hb04.trans (hbel.mono hb04.size)
      have hc0 : (0 : Int) ≤ (c : Int) := by omega
      have hc1 : (c : Int) < (l.length : Int) := by omega
      have hd := dep_lt hRP hc0 hc1
      have hp1 := hRP.pa_lt hc0 hc1
      have hs := show setP l (c : Nat) = (decide (0 ≤ paOf l (c : Nat)) && (decide (kindF l (paOf l (c : Nat)) = 29) && (disA l (paOf l (c : Nat)) && decide (legF l (paOf l (c : Nat)) ≠ (c : Nat))))) from rfl
      have hgo := Lib.hid (fun (h : setP l (c : Nat) = false) => show upDis l (K : Nat) = upDis l (paOf l (c : Nat)) by rw [← hA.out]; unfold upDis; rw [cl_go hRP _ _ hc0 hc1 (by rw [h]; rfl)])
      have hhit := Lib.hid (fun (h : setP l (c : Nat) = true) => show upDis l (K : Nat) = true by rw [← hA.out]; unfold upDis; exact cl_hit hRP _ _ hc0 hc1 (by rw [h]; rfl))
      by_cases hp0 : 0 ≤ paOf l (c : Nat)
      case neg =>
        have hN := Lib.hid (show upDis l (K : Nat) = false by rw [hgo.out (by rw [hs, decide_eq_false hp0]; rfl)]; exact cl_neg l _ _ (by omega))
        have hp9 : paOf l (c : Nat) < 0 := by omega
        clear hs
        generalize paOf l (c : Nat) = z at *
        clear hp0
        go_wp2_with fail
        try rw [Exit.noGoto_ret]
        go_ret
        exact ⟨ret_bool (by rw [hR.out, hN.out]), hb0r⟩
      rw [decide_eq_true hp0, Bool.true_and] at hs
      obtain ⟨p, hp⟩ := Int.eq_ofNat_of_zero_le hp0
      rw [hp] at hs hgo hd hp1
      have hpx := Lib.hid hp
      have hDp := Lib.hid hd
      have hgo := Lib.hid hgo.out
      have hs := Lib.hid hs
      clear hp0 hp hd
      have hpl : p < l.length := by omega
      have hp0 : (0 : Int) ≤ (p : Int) := by omega
      have hal2 := one_ats (hRP.node p _ (List.getElem?_eq_getElem hpl)).1
      have hpp := Lib.hid (paOf_at hpl)
      have hdP := Lib.hid (show disA l (p : Nat) = (atO l[p].ats ⟨#[100, 105, 115, 97, 98, 108, 101, 100]⟩).isSome by unfold disA; rw [atsOf_at hpl])
      obtain ⟨b2, o2, cap2, va2, vk2, hv, hbb, g0, g1, g2, g3, g4, hat2, hks2⟩ := (hU.kept hb0r).at hpl
      cases hv
      generalize l[p] = y at *
      obtain ⟨a3, cap3, rfl⟩ := hat2.len
      obtain ⟨a4, cap4, rfl⟩ := hks2.len
      rw [hpx.out]
      by_cases hk : kindF l (p : Nat) = 29
      case neg =>
        have hS := Lib.hid (hgo.out (by rw [hs.out, decide_eq_false hk]; rfl))
        have hq := Lib.hid (intNe hk)
        clear hk
        go_wp2_with fail
        refine (ownerKind_any l _ (p : Nat) hl hz2 _ (hU.kept hb0r)).mono ?_
        rintro e w5 ⟨rfl, hb5⟩
        have g3' := cellK hb5 hbb g3
        have q1 := hq.out
        have hb45 := bs hbel hb5
        go_wp2_with fail
        go_quiet (fail)
        go_wp2_with fail
        go_roundw
        case rel => exact ⟨rfl, p, hpl, rfl, by rw [hpp.out], Lib.hid hS.out.symm, hb45.trans ((below_draws _ _).mono hb45.size)⟩
        case measure => simp [intOf]; exact hDp.out
      have HK := Lib.hid hk
      have hs := Lib.hid (show setP l (c : Nat) = (disA l (p : Nat) && decide (legF l (p : Nat) ≠ (c : Nat))) by rw [hs.out, decide_eq_true hk]; rfl)
      clear hk
      cases hda : disA l (p : Nat)
      case false =>
        have hS := Lib.hid (hgo.out (by rw [hs.out, hda]; rfl))
        have HD := Lib.hid (hdP.out.symm.trans hda)
        clear hda
        go_wp2_with fail
        refine (ownerKind_any l _ (p : Nat) hl hz2 _ (hU.kept hb0r)).mono ?_
        rintro e w5 ⟨rfl, hb5⟩
        rw [HK.out]
        have g0' := cellK hb5 hbb g0
        have g1' := cellK hb5 hbb g1
        have g2' := cellK hb5 hbb g2
        have g3' := cellK hb5 hbb g3
        have g4' := cellK hb5 hbb g4
        have hbb5 := Nat.lt_of_lt_of_le hbb hb5.size
        go_wp2_with fail
        refine (ownerHas_any y _ _ ⟨#[100, 105, 115, 97, 98, 108, 101, 100]⟩ (by omega) _ (hat2.kept hb5)).mono ?_
        rintro e w6 ⟨rfl, hb6⟩
        rw [HD.out]
        have e3 := cellK hb6 hbb5 g3'
        have hb46 := bs (bs hbel hb5) hb6
        go_wp2_with fail
        go_quiet (fail)
        go_wp2_with fail
        go_roundw
        case rel => exact ⟨rfl, p, hpl, rfl, by rw [hpp.out], Lib.hid hS.out.symm, hb46.trans ((below_draws _ _).mono hb46.size)⟩
        case measure => simp [intOf]; exact hDp.out
      have HD := Lib.hid (hdP.out.symm.trans hda)
      have hs := Lib.hid (show setP l (c : Nat) = decide (legF l (p : Nat) ≠ (c : Nat)) by rw [hs.out, hda]; rfl)
      clear hda
      by_cases hlg : legF l (p : Nat) = (c : Nat)
      case pos =>
        have hS := Lib.hid (hgo.out (by rw [hs.out]; exact decide_eq_false (fun h => h hlg)))
        have HG := Lib.hid hlg
        clear hlg
        go_wp2_with fail
        refine (ownerKind_any l _ (p : Nat) hl hz2 _ (hU.kept hb0r)).mono ?_
        rintro e w5 ⟨rfl, hb5⟩
        rw [HK.out]
        have g0' := cellK hb5 hbb g0
        have g1' := cellK hb5 hbb g1
        have g2' := cellK hb5 hbb g2
        have g3' := cellK hb5 hbb g3
        have g4' := cellK hb5 hbb g4
        have hbb5 := Nat.lt_of_lt_of_le hbb hb5.size
        go_wp2_with fail
        refine (ownerHas_any y _ _ ⟨#[100, 105, 115, 97, 98, 108, 101, 100]⟩ (by omega) _ (hat2.kept hb5)).mono ?_
        rintro e w6 ⟨rfl, hb6⟩
        rw [HD.out]
        have e3 := cellK hb6 hbb5 g3'
        have hb06 := bs (bs hb0r hb5) hb6
        have hbb6 := Nat.lt_of_lt_of_le hbb5 hb6.size
        go_wp2_with fail
        refine (legend_any l _ p hpl hRP _ (hU.kept hb06)).mono ?_
        rintro e w7 ⟨rfl, hb7⟩
        rw [HG.out]
        have d3 := cellK hb7 hbb6 e3
        have hb47 := bs (bs (bs hbel hb5) hb6) hb7
        go_wp2_with fail
        go_quiet (fail)
        go_wp2_with fail
        go_roundw
        case rel => exact ⟨rfl, p, hpl, rfl, by rw [hpp.out], Lib.hid hS.out.symm, hb47.trans ((below_draws _ _).mono hb47.size)⟩
        case measure => simp [intOf]; exact hDp.out
      have hS := Lib.hid (hhit.out (by rw [hs.out]; exact decide_eq_true hlg))
      have q1 := intNe hlg
      have q2 : (legF l (p : Nat) != (c : Nat)) = true := by rw [bne, q1]; rfl
      have HQ := Lib.hid q1
      have HQ2 := Lib.hid q2
      clear hlg q1 q2
      go_wp2_with fail
      refine (ownerKind_any l _ (p : Nat) hl hz2 _ (hU.kept hb0r)).mono ?_
      rintro e w5 ⟨rfl, hb5⟩
      rw [HK.out]
      have g0' := cellK hb5 hbb g0
      have g1' := cellK hb5 hbb g1
      have g2' := cellK hb5 hbb g2
      have g3' := cellK hb5 hbb g3
      have g4' := cellK hb5 hbb g4
      go_wp2_with fail
      refine (ownerHas_any y _ _ ⟨#[100, 105, 115, 97, 98, 108, 101, 100]⟩ (by omega) _ (hat2.kept hb5)).mono ?_
      rintro e w6 ⟨rfl, hb6⟩
      rw [HD.out]
      have hb06 := bs (bs hb0r hb5) hb6
      go_wp2_with fail
      refine (legend_any l _ p hpl hRP _ (hU.kept hb06)).mono ?_
      rintro e w7 ⟨rfl, hb7⟩
      have q1 := HQ.out
      have q2 := HQ2.out
      go_wp2_with fail
      try rw [Exit.noGoto_ret]
      go_ret
      exact ⟨ret_bool (by rw [hR.out, hS.out]), bs hb06 hb7⟩
end Go.Proofs.YtafbghlldlconaaGreat

/-
  A CONTROL's ENTRIES: entry.of: the walk.
-/
namespace Go.Proofs.YtafbghlldlconaaGreat
set_option linter.unusedVariables false
set_option linter.unusedSimpArgs false
open Go.RowKit PT

/-- what the statement's bound says of the files -/
def SmallC (cs : List Ct) : Prop := ∀ c ∈ cs, c.fi.length ≤ 1048576 ∧ ∀ x ∈ c.fi, x.fn.size ≤ 1048576
set_option maxHeartbeats 4000000 in
set_option maxRecDepth 100000 in
theorem entOf_any (l : List Nd) (cs : List Ct) (vn vc : Value) (K : Nat) (sub : Int) (hkl : K < l.length) (hRP : RightP l) (hll : l.length = cs.length) (hB : SmallC cs) (w : World) (hD : DocAt l cs vn vc w) :
    Calls Tryz.prog 15 #[.agg #[vn, vc], .int .i64 K, .int .i64 sub] w fun e w' => ∃ vo, e = .returned vo ∧ Ents (entF l cs K sub) vo w' ∧ Below w.heap.size w w' := by
  have hmax := hD.nodes.len
  have hfits := hD.nodes.fits
  have hvals := hRP.vals
  obtain ⟨a1, cap1, rfl⟩ := hD.nodes.nodes.len
  obtain ⟨a2, cap2, rfl⟩ := hD.ctls.len
  obtain ⟨hD1, hb1, hs1, c0, c1⟩ := doc_box (T := 25) hD
  have hkc : K < cs.length := by omega
  have HLL := Lib.hid hll
  have hHB := Lib.hid (hasB_yes hRP (k := (K : Int)) (by omega) (by omega))
  obtain ⟨b, o, cap', va, vk, hv, hb, e0, e1, e2, e3, e4, hat, hks⟩ := hD1.nodes.nodes.at hkl
  cases hv
  obtain ⟨b', o', cap'', vf, hv, hb', ⟨x0, x1, x2, x3, x4, x5, x6, x7, x8, x9⟩, hEn⟩ := hD1.ctls.at hkc
  cases hv
  obtain ⟨z1, z2⟩ := hvals _ (List.getElem_mem hkl)
  obtain ⟨hB1, hB2⟩ := hB _ (List.getElem_mem hkc)
  have hE := show entF l cs (K : Nat) sub = if (if 0 ≤ upB l (K : Nat) dlS ∨ disF l (K : Nat) = true then false
    else if kOf l (K : Nat) = 20 then decide (((K : Nat) : Int) = sub)
    else if (nmF l (K : Nat)).size = 0 ∨ kOf l (K : Nat) = 22 ∨ kOf l (K : Nat) = 21 ∨ kOf l (K : Nat) = 26 ∨ kOf l (K : Nat) = 27 then false
    else if kOf l (K : Nat) = 19 ∨ kOf l (K : Nat) = 25 then decide (((K : Nat) : Int) = sub)
    else if kOf l (K : Nat) = 16 ∨ kOf l (K : Nat) = 17 then (ctOf cs (K : Nat)).ch
    else true) = true then (if kOf l (K : Nat) = 20 then entsImg (nmF l (K : Nat))
    else if kOf l (K : Nat) = 23 then entsSel l cs (K : Nat) (nmF l (K : Nat))
    else if kOf l (K : Nat) = 18 then entsFile (ctOf cs (K : Nat)).fi (nmF l (K : Nat))
    else [⟨nmF l (K : Nat), (if kOf l (K : Nat) = 1 ∧ nmF l (K : Nat) = charS then utfS else valF (kOf l (K : Nat)) (ctOf cs (K : Nat)) (atsOf l (K : Nat))), false, ⟨#[]⟩, ⟨#[]⟩⟩]) else [] from rfl
  have hnm : attF l (K : Nat) nameS = atO (atsOf l (K : Nat)) nameS := if_pos hHB.out
  have hnz : (nmF l (K : Nat)).size ≤ 140737488351232 := by
    unfold nmF
    rw [atsOf_at hkl]
    exact atO_size _ _ (fun a ha => z2 a ha)
  have hn2 := show nmF l (K : Nat) = (atO (atsOf l (K : Nat)) nameS).getD ⟨#[]⟩ from rfl
  rw [← hnm] at hn2
  have HN := Lib.hid hn2
  rw [kOf_at hkl, ctOf_at hkc, atsOf_at hkl] at hE
  generalize l[K] = nd at *
  generalize cs[K] = c at *
  obtain ⟨k0, k1⟩ := kindOf_range nd
  obtain ⟨kk, hkk⟩ : ∃ kk, kindOf nd = kk := ⟨_, rfl⟩
  rw [hkk] at hE k0 k1
  have HK := Lib.hid hkk
  obtain ⟨vv, hvv⟩ : ∃ vv, valF kk c nd.ats = vv := ⟨_, rfl⟩
  rw [hvv] at hE
  have HV := Lib.hid hvv
  obtain ⟨nm, hnme⟩ : ∃ nm, nmF l (K : Nat) = nm := ⟨_, rfl⟩
  rw [hnme] at hE hnz
  have HNE := Lib.hid hnme
  have HE := Lib.hid hE
  clear hkk hvv hnme hE hn2 hnm hll
  obtain ⟨a5, c5, rfl⟩ := hat.len
  obtain ⟨a6, c6, rfl⟩ := hks.len
  have hK0 : (0 : Int) ≤ (K : Int) := by omega
  have hK1 : (K : Int) < (l.length : Int) := by omega
  have hK2 : (K : Int) < (cs.length : Int) := by omega
  go_enter Tryz.func15, Tryz.ntmps15
  go_wp2_with fail
  generalize World.alloc w _ = W1 at hD1 hb1 hs1 c0 c1 hat hks e0 e1 e2 e3 e4 x0 x1 x2 x3 x4 x5 x6 x7 x8 x9 hEn hb hb' ⊢
  have hnw := Go.heap_alloc_new W1 (.cells #[.string nd.nm, .string nd.tx, .slice a5 nd.ats.length c5, .int .i64 nd.pa, .slice a6 nd.ks.length c6] 41)
  rw [hs1] at hnw
  have hb2 := one_alloc (w := W1) (.cells #[.string nd.nm, .string nd.tx, .slice a5 nd.ats.length c5, .int .i64 nd.pa, .slice a6 nd.ks.length c6] 41)
  have hs2 : (W1.alloc (.cells #[.string nd.nm, .string nd.tx, .slice a5 nd.ats.length c5, .int .i64 nd.pa, .slice a6 nd.ks.length c6] 41)).heap.size = W1.heap.size + 1 := by simp
  have y2 : (W1.alloc (.cells #[.string nd.nm, .string nd.tx, .slice a5 nd.ats.length c5, .int .i64 nd.pa, .slice a6 nd.ks.length c6] 41)).cell? ⟨w.heap.size + 1, 2, none⟩ = some (.slice a5 nd.ats.length c5) := by simp only [World.cell?, hnw]; rfl
  clear hnw
  generalize World.alloc W1 _ = W2 at hb2 hs2 y2 ⊢
  have hD2 := hD1.kept hb2
  refine (kindsOf_any nd _ _ z1 z2 _ (hat.kept hb2)).mono ?_
  rintro e w3 ⟨rfl, hb3⟩
  rw [HK.out]
  have hb23 := bs hb2 hb3
  have hD3 := hD2.kept hb3
  have d0 := cellK hb23 (by omega) c0
  go_wp2_with fail
  refine (attr_any l _ (K : Nat) nameS hmax hfits _ hD3.nodes.nodes).mono ?_
  unfold atT
  rintro e w4 ⟨rfl, hb4⟩
  rw [← HN.out, HNE.out]
  have hb24 := bs hb23 hb4
  have hD4 := hD3.kept hb4
  have f0 := cellK hb24 (by omega) c0
  have f1 := cellK hb24 (by omega) c1
  have g2 := cellK hb4 (by have := hb3.size; omega) (cellK hb3 (by omega) y2)
  have y0 := cellK hb24 hb' x0
  have y1 := cellK hb24 hb' x1
  have y2' := cellK hb24 hb' x2
  have y3 := cellK hb24 hb' x3
  have y4 := cellK hb24 hb' x4
  have y5 := cellK hb24 hb' x5
  have y6 := cellK hb24 hb' x6
  have y7 := cellK hb24 hb' x7
  have y8 := cellK hb24 hb' x8
  have y9 := cellK hb24 hb' x9
  have hs4 := hb24.size
  obtain ⟨a7, c7, rfl⟩ := hEn.len
  go_wp2_with fail
  refine wp_region_still_tail 8 (by kernel_rfl) (by kernel_rfl) ?_
  simp only [List.take_succ_cons, List.take_zero, List.drop_succ_cons, List.drop_zero]
  repeat still_step
  refine wpStill_nil ?_
  change wpList _ _ _ _ _ w4.drew
  have hbd : Below w4.heap.size w4 w4.drew := below_draws w4 1
  go_wp2_with fail
  refine (ctlValue_any kk k0 k1 c _ nd.ats _ z1 (fun _ x hx => Nat.le_trans (hB2 x hx) (by omega)) _ (hEn.kept (bs hb24 hbd)) ((hat.kept hb24).kept hbd)).mono ?_
  rintro e w5 ⟨rfl, hb5⟩
  rw [HV.out]
  have hb25 := bs (bs hb24 hbd) hb5
  have hD5 := (hD4.kept hbd).kept hb5
  have hg5 := hb25.size
  clear d0 f0 f1 g2 y0 y1 y2' y3 y4 y5 y6 y7 y8 y9 hbd hb5 hD4 hs4 hb24 hb4 hD3 hb3 hb23 hD2 y2
  have f0 := cellK hb25 (by omega) c0
  have f1 := cellK hb25 (by omega) c1
  have hbw5 := bs hb1 hb25
  have hcl : charS.toList = [95, 99, 104, 97, 114, 115, 101, 116, 95] := by unfold charS; rw [ByteArray.toList_eq]
  by_cases hu : 0 ≤ upB l (K : Nat) dlS
  · have hR := Lib.hid (show entF l cs (K : Nat) sub = [] by rw [HE.out, if_pos (Or.inl hu)]; rfl)
    go_wp2_with fail
    refine (up_any l _ (K : Nat) dlS hmax hfits _ hD5.nodes.nodes).mono ?_
    rintro e w6 ⟨rfl, hb6⟩
    go_wp2_with fail
    go_ret
    exact ⟨_, rfl, by rw [hR.out]; exact ents_nil _, bs hbw5 hb6⟩
  have hu1 : decide (0 ≤ upB l (K : Nat) dlS) = false := decide_eq_false hu
  cases hd : disF l (K : Nat)
  case true =>
    have hR := Lib.hid (show entF l cs (K : Nat) sub = [] by rw [HE.out, if_pos (Or.inr hd)]; rfl)
    have HD := Lib.hid hd
    clear hd hu
    go_wp2_with fail
    refine (up_any l _ (K : Nat) dlS hmax hfits _ hD5.nodes.nodes).mono ?_
    rintro e w6 ⟨rfl, hb6⟩
    have f6 := cellK hb6 (by omega) f0
    go_wp2_with fail
    refine (disabled_any l _ (K : Nat) hmax hfits hvals _ (hD5.nodes.nodes.kept hb6)).mono ?_
    rintro e w7 ⟨rfl, hb7⟩
    rw [HD.out]
    go_wp2_with fail
    go_ret
    exact ⟨_, rfl, by rw [hR.out]; exact ents_nil _, bs (bs hbw5 hb6) hb7⟩
  have hE2 := HE.out
  rw [if_neg (show ¬ (0 ≤ upB l (K : Nat) dlS ∨ disF l (K : Nat) = true) from fun h => by
    rcases h with h | h
    · exact hu h
    · rw [hd] at h; cases h)] at hE2
  have HE2 := Lib.hid hE2
  have HD := Lib.hid hd
  clear hd hu hE2
  go_wp2_with fail
  refine (up_any l _ (K : Nat) dlS hmax hfits _ hD5.nodes.nodes).mono ?_
  rintro e w6 ⟨rfl, hb6⟩
  have f6 := cellK hb6 (by omega) f0
  go_wp2_with fail
  refine (disabled_any l _ (K : Nat) hmax hfits hvals _ (hD5.nodes.nodes.kept hb6)).mono ?_
  rintro e w7 ⟨rfl, hb7⟩
  rw [HD.out]
  have hb57 := bs hb6 hb7
  have hbw := bs hbw5 hb57
  have hD7 := hD5.kept hb57
  have g0 := cellK hb57 (by omega) f0
  have g1 := cellK hb57 (by omega) f1
  clear hb6 hb7 f6 f0 f1 hu1
  have hg7 := hb57.size
  by_cases h20 : kk = 20
  · have q20 : (kk == 20) = true := by rw [h20]; rfl
    by_cases hs : ((K : Nat) : Int) = sub
    · have hR := Lib.hid (show entF l cs (K : Nat) sub = entsImg nm by rw [HE2.out, if_pos h20, if_pos h20, decide_eq_true hs]; rfl)
      have qs : (((K : Nat) : Int) == sub) = true := by rw [hs]; exact beq_self_eq_true _
      clear h20 hs
      go_wp2_with fail
      refine (entImage_any nm hnz _).mono ?_
      rintro e w8 ⟨vo, rfl, hv, hb8⟩
      go_wp2_with fail
      go_ret
      exact ⟨_, rfl, by rw [hR.out]; exact hv, bs hbw hb8⟩
    · have hR := Lib.hid (show entF l cs (K : Nat) sub = [] by rw [HE2.out, if_pos h20, decide_eq_false hs]; rfl)
      have qs := intNe hs
      clear h20 hs
      go_wp2_with fail
      go_ret
      exact ⟨_, rfl, by rw [hR.out]; exact ents_nil _, hbw⟩
  have hE3 := HE2.out
  rw [if_neg h20, if_neg h20] at hE3
  by_cases hz : nm.size = 0
  · have hR := Lib.hid (show entF l cs (K : Nat) sub = [] by rw [hE3, if_pos (Or.inl hz)]; rfl)
    have q20 := intNe h20
    obtain rfl : nm = ⟨#[]⟩ := size0.2 hz
    clear h20 hE3 hz
    go_wp2_with fail
    go_ret
    exact ⟨_, rfl, by rw [hR.out]; exact ents_nil _, hbw⟩
  have hne := isEmpty_no hz
  have hbs := bs hbw (one_alloc (.cells #[.string nm, .string vv, .bool false, .string ⟨#[]⟩, .string ⟨#[]⟩] 56))
  have hlit := ents_lit (T := 56) (es := [⟨nm, vv, false, ⟨#[]⟩, ⟨#[]⟩⟩]) (cells := #[.string nm, .string vv, .bool false, .string ⟨#[]⟩, .string ⟨#[]⟩]) rfl w7
  have HE3 := Lib.hid hE3
  clear hE3
  by_cases hA : kk = 22 ∨ kk = 21 ∨ kk = 26 ∨ kk = 27
  · have hR := Lib.hid (show entF l cs (K : Nat) sub = [] by rw [HE3.out, if_pos (Or.inr hA)]; rfl)
    clear h20 hlit hbs hz
    rcases hA with rfl | rfl | rfl | rfl
    all_goals
      go_wp2_with fail
      go_ret
      exact ⟨_, rfl, by rw [hR.out]; exact ents_nil _, hbw⟩
  have hE4 := HE3.out
  rw [if_neg (show ¬ (nm.size = 0 ∨ kk = 22 ∨ kk = 21 ∨ kk = 26 ∨ kk = 27) from fun h => h.elim hz hA)] at hE4
  clear hz
  by_cases hF : kk = 19 ∨ kk = 25
  · have hno : ¬ kk = 23 ∧ ¬ kk = 18 ∧ ¬ (kk = 1 ∧ nm = charS) := by
      refine ⟨by omega, by omega, fun h => ?_⟩
      have := h.1
      omega
    rw [if_pos hF, if_neg hno.1, if_neg hno.2.1, if_neg hno.2.2] at hE4
    clear hno hA h20
    by_cases hs : ((K : Nat) : Int) = sub
    · have hR := Lib.hid (show entF l cs (K : Nat) sub = [⟨nm, vv, false, ⟨#[]⟩, ⟨#[]⟩⟩] by rw [hE4, decide_eq_true hs]; rfl)
      have qs : (((K : Nat) : Int) != sub) = false := by rw [hs]; exact bne_self_eq_false _
      clear hs hE4
      rcases hF with rfl | rfl
      all_goals
        go_wp2_with fail
        go_ret
        exact ⟨_, rfl, by rw [hR.out]; exact hlit, hbs⟩
    · have hR := Lib.hid (show entF l cs (K : Nat) sub = [] by rw [hE4, decide_eq_false hs]; rfl)
      have qs : (((K : Nat) : Int) != sub) = true := by rw [bne, intNe hs]; rfl
      clear hs hE4
      rcases hF with rfl | rfl
      all_goals
        go_wp2_with fail
        go_ret
        exact ⟨_, rfl, by rw [hR.out]; exact ents_nil _, hbw⟩
  rw [if_neg hF] at hE4
  have hb17 := bs hb25 hb57
  have y0 := cellK hb17 hb' x0
  have y1 := cellK hb17 hb' x1
  have y2' := cellK hb17 hb' x2
  have y3 := cellK hb17 hb' x3
  have y4 := cellK hb17 hb' x4
  have y5 := cellK hb17 hb' x5
  have y6 := cellK hb17 hb' x6
  have y7 := cellK hb17 hb' x7
  have y8 := cellK hb17 hb' x8
  have y9 := cellK hb17 hb' x9
  by_cases hC : kk = 16 ∨ kk = 17
  · have hno : ¬ kk = 23 ∧ ¬ kk = 18 ∧ ¬ (kk = 1 ∧ nm = charS) := by
      refine ⟨by omega, by omega, fun h => ?_⟩
      have := h.1
      omega
    rw [if_pos hC, if_neg hno.1, if_neg hno.2.1, if_neg hno.2.2] at hE4
    obtain ⟨cb, hcb⟩ : ∃ cb, c.ch = cb := ⟨_, rfl⟩
    rw [hcb] at hE4 y3
    clear hno hA h20 hF hcb x3
    cases cb
    · have hR := Lib.hid (show entF l cs (K : Nat) sub = [] from hE4)
      clear hE4
      rcases hC with rfl | rfl
      all_goals
        go_wp2_with fail
        go_ret
        exact ⟨_, rfl, by rw [hR.out]; exact ents_nil _, hbw⟩
    · have hR := Lib.hid (show entF l cs (K : Nat) sub = [⟨nm, vv, false, ⟨#[]⟩, ⟨#[]⟩⟩] from hE4)
      clear hE4
      rcases hC with rfl | rfl
      all_goals
        go_wp2_with fail
        go_ret
        exact ⟨_, rfl, by rw [hR.out]; exact hlit, hbs⟩
  rw [if_neg hC, if_pos rfl] at hE4
  by_cases h23 : kk = 23
  · have hR := Lib.hid (hE4.trans (if_pos h23))
    subst h23
    clear hA h20 hF hC hE4
    go_wp2_with fail
    refine (entOptions_any l cs _ _ (K : Nat) nm HLL.out _ hD7).mono ?_
    rintro e w8 ⟨vo, rfl, hv, hb8⟩
    go_wp2_with fail
    go_ret
    exact ⟨_, rfl, by rw [hR.out]; exact hv, bs hbw hb8⟩
  rw [if_neg h23] at hE4
  by_cases h18 : kk = 18
  · have hR := Lib.hid (hE4.trans (if_pos h18))
    subst h18
    clear hA h20 hF hC hE4 h23
    go_wp2_with fail
    refine (entFiles_any c _ nm hB1 _ (hEn.kept hb17)).mono ?_
    rintro e w8 ⟨vo, rfl, hv, hb8⟩
    go_wp2_with fail
    go_ret
    exact ⟨_, rfl, by rw [hR.out]; exact hv, bs hbw hb8⟩
  rw [if_neg h18] at hE4
  by_cases h1 : kk = 1
  · by_cases hch : nm = charS
    · have hR := Lib.hid (show entF l cs (K : Nat) sub = [⟨nm, utfS, false, ⟨#[]⟩, ⟨#[]⟩⟩] by rw [hE4, if_pos ⟨h1, hch⟩])
      have hq := sTrue hch
      rw [hcl] at hq
      have hbs2 := bs hbw (one_alloc (.cells #[.string nm, .string utfS, .bool false, .string ⟨#[]⟩, .string ⟨#[]⟩] 56))
      have hlit2 := ents_lit (T := 56) (es := [⟨nm, utfS, false, ⟨#[]⟩, ⟨#[]⟩⟩]) (cells := #[.string nm, .string utfS, .bool false, .string ⟨#[]⟩, .string ⟨#[]⟩]) rfl w7
      subst h1
      clear hA h20 hF hC hE4 h23 h18 hcl hch
      go_wp2_with fail
      go_ret
      exact ⟨_, rfl, by rw [hR.out]; exact hlit2, hbs2⟩
    · have hR := Lib.hid (show entF l cs (K : Nat) sub = [⟨nm, vv, false, ⟨#[]⟩, ⟨#[]⟩⟩] by rw [hE4, if_neg (fun h => hch h.2)])
      have hq := sFalse hch
      rw [hcl] at hq
      subst h1
      clear hA h20 hF hC hE4 h23 h18 hcl hch
      go_wp2_with fail
      go_ret
      exact ⟨_, rfl, by rw [hR.out]; exact hlit, hbs⟩
  have hR := Lib.hid (show entF l cs (K : Nat) sub = [⟨nm, vv, false, ⟨#[]⟩, ⟨#[]⟩⟩] by rw [hE4, if_neg (fun h => h1 h.1)])
  have q20 := intNe h20
  have q22 := intNe (show kk ≠ 22 from fun h => hA (.inl h))
  have q21 := intNe (show kk ≠ 21 from fun h => hA (.inr (.inl h)))
  have q26 := intNe (show kk ≠ 26 from fun h => hA (.inr (.inr (.inl h))))
  have q27 := intNe (show kk ≠ 27 from fun h => hA (.inr (.inr (.inr h))))
  have q16 := intNe (show kk ≠ 16 from fun h => hC (.inl h))
  have q17 := intNe (show kk ≠ 17 from fun h => hC (.inr h))
  have q19 := intNe (show kk ≠ 19 from fun h => hF (.inl h))
  have q25 := intNe (show kk ≠ 25 from fun h => hF (.inr h))
  have q23 := intNe h23
  have q18 := intNe h18
  have q1 := intNe h1
  clear hA h20 hF hC hE4 h23 h18 h1
  go_wp2_with fail
  go_ret
  exact ⟨_, rfl, by rw [hR.out]; exact hlit, hbs⟩
end Go.Proofs.YtafbghlldlconaaGreat

/-
  WHAT A FORM SUBMITS: entry.List: the walk.
-/
namespace Go.Proofs.YtafbghlldlconaaGreat
set_option linter.unusedVariables false
set_option linter.unusedSimpArgs false
open Go.RowKit PT

/-- 'append(out, l...)' -/
theorem wpList_append_entsG {W : World} {ops : Array Oper} {rest : List Oper} {o : Oper} {a : Act} {Q : Exit → Act → World → Prop} (hgd : o.guard = none) (s x : Operand)
    (ho : o.op = .call { callee := .builtin .append, args := #[s, x], argTypes := #[26, 26] })
    {base : Nat} {l es : List Ent} {v : Value} (hs : a.eval s = v) {u : Value} (hx : a.eval x = u) (hE : Ents es u W)
    (hown : OE base l v W) (hlen : l.length + es.length < 1000000000) (hbase : base ≤ W.heap.size)
    (h : ∀ v' w', OE base (l ++ es) v' w' → Below base W w' → wpList Tryz.prog ops Q rest (a.put o.dst v') w') : wpList Tryz.prog ops Q (o :: rest) a W := by
  obtain ⟨ao, cap, rfl⟩ := hE.len
  refine wpList_append_any hgd s x 26 56 ho Tryz.underlying26 info_ent rfl (by decide) hs hx hE.none_cap (flat_size entCells_len es) (fun ad had => by subst had; exact hE.src) ?_ hown (by unfold maxLen; omega) (by omega) hbase fun v' w' h1 h2 => h v' w' ?_ (own_below hown h2 hbase)
  · intro u hu
    obtain ⟨e, _, hu⟩ := List.mem_flatMap.1 hu
    simp only [entCells, List.mem_cons, List.not_mem_nil, or_false] at hu
    rcases hu with rfl | rfl | rfl | rfl | rfl <;> rfl
  · unfold OE
    rw [List.length_append, List.flatMap_append]
    exact h1
theorem entsSel_len (l : List Nd) (cs : List Ct) (sel : Int) (nm : ByteArray) : (entsSel l cs sel nm).length ≤ 400 := by
  unfold entsSel
  rw [List.length_map]
  refine Nat.le_trans (List.length_filter_le _ _) ?_
  unfold listF
  split
  · rename_i hi
    have hc := (isF_30 (by omega)).1 hi
    obtain ⟨i0, i1⟩ := kindF_pos (l := l) (k := sel) (by omega)
    have hRP := (rightB_iff l).1 hc.1
    have hks := hc.2
    rw [kindF_in i0 i1, kOf_sel i0 i1] at hks
    exact Nat.le_trans (optsOf_len hRP i0 i1 hks) hRP.max
  · exact Nat.zero_le _
theorem ctOf_fi {cs : List Ct} (hB : SmallC cs) (i : Int) : (ctOf cs i).fi.length ≤ 1048576 := by
  unfold ctOf
  cases h : cs[i.toNat]? with
  | none => exact Nat.zero_le _
  | some c => exact (hB c (List.mem_of_getElem? h)).1
theorem entF_len {l : List Nd} {cs : List Ct} (hB : SmallC cs) (id sub : Int) : (entF l cs id sub).length ≤ 1048576 := by
  unfold entF
  split
  · unfold ofF
    split
    · exact Nat.le_trans (Nat.le_refl 2) (by omega)
    · split
      · exact Nat.le_trans (entsSel_len _ _ _ _) (by omega)
      · split
        · unfold entsFile
          split
          · exact Nat.le_trans (Nat.le_refl 1) (by omega)
          · rw [List.length_map]
            exact ctOf_fi hB id
        · exact Nat.le_trans (Nat.le_refl 1) (by omega)
  · exact Nat.zero_le _
theorem fromF_len {l : List Nd} {cs : List Ct} (hB : SmallC cs) (form sub k : Int) : (fromF l cs form sub k).length ≤ 1048576 := by
  unfold fromF
  split
  · exact entF_len hB _ _
  · exact Nat.zero_le _
theorem flat_lenB {l : List Nd} {cs : List Ct} (hB : SmallC cs) (form sub : Int) : ∀ t : List Int, (t.flatMap (fromF l cs form sub)).length ≤ t.length * 1048576
  | [] => Nat.zero_le _
  | k :: t => by
    have h1 := fromF_len (l := l) hB form sub k
    have h2 := flat_lenB (l := l) hB form sub t
    rw [List.flatMap_cons, List.length_append, List.length_cons, Nat.add_mul]
    omega
theorem flat_snoc {β : Type} {f : Int → List β} {t : List Int} {k : Nat} (h : k < t.length) : (t.take (k + 1)).flatMap f = (t.take k).flatMap f ++ f t[k] := by
  rw [List.take_succ_eq_append_getElem h, List.flatMap_append, List.flatMap_cons, List.flatMap_nil, List.append_nil]
theorem name_below {B : Nat} {a w : World} (_ : Below B a w) : ∃ W, W = w := ⟨w, rfl⟩
theorem eOf_cases {l : List Nd} {cs : List Ct} {form : Int} : eOf l cs form = if okD l cs = false ∨ form < 0 ∨ (l.length : Int) ≤ form then 4 else if kOf l form = 30 then 0 else 3 := rfl
set_option maxHeartbeats 4000000 in
set_option maxRecDepth 100000 in
theorem entList_any (l : List Nd) (cs : List Ct) (vn vc : Value) (form sub : Int) (hB : SmallC cs) (w : World) (hD : DocAt l cs vn vc w) :
    Calls Tryz.prog 4 #[.agg #[vn, vc], .int .i64 form, .int .i64 sub] w fun e w' => ∃ vo, e = .returned (.tuple #[vo, .int .i64 (eOf l cs form)]) ∧ Ents (lOf l cs form sub) vo w' ∧ Below w.heap.size w w' := by
  have hmax := hD.nodes.len
  have hfits := hD.nodes.fits
  obtain ⟨a1, cap1, rfl⟩ := hD.nodes.nodes.len
  obtain ⟨a2, cap2, rfl⟩ := hD.ctls.len
  obtain ⟨hD1, hb1, hs1, c0, c1⟩ := doc_box (T := 25) hD
  have bad : ∀ n : Int, eOf l cs form = n → n ≠ 0 → ∀ w' : World, Below w.heap.size w w' → ∃ vo, Ending.returned (.tuple #[.slice none 0 0, .int .i64 n]) = .returned (.tuple #[vo, .int .i64 (eOf l cs form)]) ∧ Ents (lOf l cs form sub) vo w' ∧ Below w.heap.size w w' :=
    fun n h hn w' hb => ⟨_, by rw [h], by rw [show lOf l cs form sub = [] from if_neg (by rw [h]; exact hn)]; exact ents_nil _, hb⟩
  have Bad := Lib.hid bad
  clear bad
  have hE := eOf_cases (l := l) (cs := cs) (form := form)
  cases hk : okD l cs
  · have hR := Lib.hid (hE.trans (if_pos (.inl hk)))
    have HK := Lib.hid hk
    clear hk hE
    go_enter Tryz.func4, Tryz.ntmps4
    go_wp2_with fail
    refine (optRight_any l cs _ _ _ hD1).mono ?_
    rintro e w2 ⟨rfl, hb2⟩
    rw [HK.out]
    go_wp2_with fail
    go_ret2
    exact Bad.out 4 hR.out (by decide) _ (bs hb1 hb2)
  obtain ⟨hRP, hll⟩ := okD_iff.1 hk
  have HK := Lib.hid hk
  have HLL := Lib.hid hll
  clear hll
  by_cases h0 : 0 ≤ form
  case neg =>
    have hR := Lib.hid (hE.trans (if_pos (.inr (.inl (by omega)))))
    have h0' : decide (form < 0) = true := decide_eq_true (by omega)
    have h0'' : form < 0 := by omega
    clear hk hE h0
    go_enter Tryz.func4, Tryz.ntmps4
    go_wp2_with fail
    refine (optRight_any l cs _ _ _ hD1).mono ?_
    rintro e w2 ⟨rfl, hb2⟩
    rw [HK.out]
    go_wp2_with fail
    go_ret2
    exact Bad.out 4 hR.out (by decide) _ (bs hb1 hb2)
  have h0' : decide (form < 0) = false := decide_eq_false (by omega)
  by_cases h1 : form < l.length
  case neg =>
    have hR := Lib.hid (hE.trans (if_pos (.inr (.inr (by omega)))))
    have h1' : decide ((l.length : Int) ≤ form) = true := decide_eq_true (by omega)
    have h1'' : (l.length : Int) ≤ form := by omega
    clear hk hE h1
    go_enter Tryz.func4, Tryz.ntmps4
    go_wp2_with fail
    refine (optRight_any l cs _ _ _ hD1).mono ?_
    rintro e w2 ⟨rfl, hb2⟩
    rw [HK.out]
    have d0 := cellK hb2 (by omega) c0
    go_wp2_with fail
    go_ret2
    exact Bad.out 4 hR.out (by decide) _ (bs hb1 hb2)
  have h1' : decide ((l.length : Int) ≤ form) = false := decide_eq_false (by omega)
  rw [if_neg (fun h => by
    rcases h with h | h | h
    · rw [hk] at h; cases h
    · omega
    · omega)] at hE
  obtain ⟨K, rfl⟩ := Int.eq_ofNat_of_zero_le h0
  have hkl : K < l.length := by omega
  obtain ⟨z1, z2⟩ := hRP.vals _ (List.getElem_mem hkl)
  obtain ⟨b, o, cap', va, vk, hv, hb, e0, e1, e2, e3, e4, hat, hks⟩ := hD1.nodes.nodes.at hkl
  cases hv
  have hko := kOf_at hkl
  rw [hko] at hE
  generalize l[K] = nd at *
  have hK0 : (0 : Int) ≤ (K : Int) := by omega
  have hK1 : (K : Int) < (l.length : Int) := by omega
  clear hk h0 h1 hko
  by_cases h30 : kindOf nd = 30
  case neg =>
    have hR := Lib.hid (hE.trans (if_neg h30))
    have hq := Lib.hid (intNe h30)
    clear hE h30
    go_enter Tryz.func4, Tryz.ntmps4
    go_wp2_with fail
    refine (optRight_any l cs _ _ _ hD1).mono ?_
    rintro e w2 ⟨rfl, hb2⟩
    rw [HK.out]
    have d0 := cellK hb2 (by omega) c0
    have f0 := cellK hb2 hb e0
    have f1 := cellK hb2 hb e1
    have f2 := cellK hb2 hb e2
    have f3 := cellK hb2 hb e3
    have f4 := cellK hb2 hb e4
    go_wp2_with fail
    refine (kindsOf_any nd va vk z1 z2 _ (hat.kept hb2)).mono ?_
    rintro e w3 ⟨rfl, hb3⟩
    have p1 := hq.out
    have p3 : (kindOf nd != 30) = true := by rw [bne, p1]; rfl
    go_wp2_with fail
    go_ret2
    exact Bad.out 3 hR.out (by decide) _ (bs (bs hb1 hb2) hb3)
  have hR := Lib.hid (hE.trans (if_pos h30))
  have HQ := Lib.hid h30
  clear hE h30
  obtain ⟨t0, t1⟩ := topF_range hRP hK0 hK1
  have hLO := show lOf l cs (K : Nat) sub = (ord l (topF l (K : Nat))).flatMap (fromF l cs (K : Nat) sub) from if_pos hR.out
  have hoB : ordB l (topB l (K : Nat)) = ord l (topF l (K : Nat)) := by
    unfold ordB topB
    rw [hasB_yes hRP hK0 hK1, if_pos rfl, hasB_yes hRP t0 t1, if_pos rfl]
  have hmem := Lib.hid (fun k (h : k ∈ ord l (topF l (K : Nat))) => ord_mem hRP t0 t1 h)
  have hln := ord_len hRP t0 t1
  have hmx := hRP.max
  have HOB := Lib.hid hoB
  clear hoB
  generalize ord l (topF l (K : Nat)) = I at *
  have HLO := Lib.hid hLO
  have hflB := Lib.hid (fun k => flat_lenB (l := l) hB (K : Nat) sub (I.take k))
  clear hLO
  go_enter Tryz.func4, Tryz.ntmps4
  go_wp2_with fail
  generalize World.alloc w _ = W1 at hD1 hb1 hs1 c0 c1 e0 e1 e2 e3 e4 hat hks hb ⊢
  refine (optRight_any l cs _ _ _ hD1).mono ?_
  rintro e w2 ⟨rfl, hb2⟩
  rw [HK.out]
  have d0 := cellK hb2 (by omega) c0
  have f0 := cellK hb2 hb e0
  have f1 := cellK hb2 hb e1
  have f2 := cellK hb2 hb e2
  have f3 := cellK hb2 hb e3
  have f4 := cellK hb2 hb e4
  go_wp2_with fail
  refine (kindsOf_any nd va vk z1 z2 _ (hat.kept hb2)).mono ?_
  rintro e w3 ⟨rfl, hb3⟩
  rw [HQ.out]
  have hb23 := bs hb2 hb3
  clear d0 f0 f1 f2 f3 f4
  have hbd : Below w3.heap.size w3 w3.drew := below_draws w3 1
  have hbx := bs hb23 hbd
  have hDd := hD1.kept hbx
  have d0 := cellK hb23 (by omega) c0
  have d0d := cellK hbx (by omega) c0
  have hgx := hbx.size
  clear hb3 hb2 hbd hb23
  go_upto_region 6 with fail
  go_cut [38, 39, 40] (fun s38 s39 s40 wx => ∃ ai ci, s38 = .slice ai I.length ci ∧ s39 = .int .i64 (I.length : Nat) ∧ s40 = .int .i64 0 ∧ OV 0 3 (ints I) (.slice ai I.length ci) wx ∧ Below W1.heap.size W1 wx)
  case first =>
    clear hflB HLO hmem
    go_region_with ((first
      | (go_at_call 12; (with_reducible refine (top_any l _ (K : Nat) hmax hfits _ hDd.nodes.nodes).mono ?_); rintro e w4 ⟨rfl, hb4⟩; have hD4 := hDd.kept hb4; have d04 := cellK hb4 (by omega) d0d; have hg4 := hb4.size)
      | (go_at_call 11; (with_reducible refine (orderTop_any l _ _ hmax hfits _ hD4.nodes.nodes).mono ?_); rw [HOB.out]; rintro e w5 ⟨vo, rfl, hov, hb5⟩; obtain ⟨ai, ci, rfl, _⟩ := hov.form; have hg5 := hb5.size; have hb15 := bs (bs hbx hb4) hb5; rw [ints_len] at hov ⊢)))
    all_goals
      go_wp2_with fail
      go_meet
      exact ⟨_, _, rfl, rfl, rfl, ov_base hov (Nat.zero_le _), hb15⟩
  case rest =>
  obtain ⟨ai, ci, rfl, rfl, rfl, hov, hb15⟩ := hcut
  obtain ⟨wx, rfl⟩ := name_below hb15
  clear hbx hDd d0 d0d hgx
  have hD5 := hD1.kept hb15
  have hg5 := hb15.size
  have d0 := cellK hb15 (by omega) c0
  have d1 := cellK hb15 (by omega) c1
  have hbw := bs hb1 hb15
  go_wp2_with fail
  go_loopw [8, 40] (fun u i wr => ∃ k : Nat, k ≤ I.length ∧ i = .int .i64 k ∧ OE wx.heap.size ((I.take k).flatMap (fromF l cs (K : Nat) sub)) u wr ∧ Below wx.heap.size wx wr) (fun _ i _ => I.length - (intOf i).toNat)
  case atStart => exact ⟨0, Nat.zero_le _, rfl, OE.nil _ _, Below.refl _ _⟩
  case round =>
    obtain ⟨k, hk, rfl, ho, hbel⟩ := hrel
    have hsz := hbel.size
    have hDr := hD5.kept hbel
    have r0 := cellK hbel (by omega) d0
    have r1 := cellK hbel (by omega) d1
    have hB0 := hflB.out k
    have hlk : (I.take k).length ≤ 400 := by rw [List.length_take]; omega
    have hB1 : ((I.take k).flatMap (fromF l cs (K : Nat) sub)).length ≤ 400 * 1048576 := Nat.le_trans hB0 (Nat.mul_le_mul_right _ hlk)
    by_cases hlt : k < I.length
    · obtain ⟨q0, q1, _⟩ := hmem.out _ (List.getElem_mem hlt)
      have hov' := hov.kept hbel
      obtain ⟨g, gc, hv, _, hcell⟩ := hov'.at (by intro e; have := congrArg List.length e; rw [ints_len, List.length_nil] at this; omega)
      rw [ints_len] at hv
      cases hv
      have hgb : g < wr.heap.size := by
        have := (World.ownsRow.lt hov' g rfl).2
        omega
      have hcc := hcell k (.int .i64 I[k]) (by rw [ints, List.getElem?_map, List.getElem?_eq_getElem hlt]; rfl)
      have hfs := Lib.hid (flat_snoc (f := fromF l cs (K : Nat) sub) hlt)
      have hk0 : (0 : Int) ≤ (k : Int) := by omega
      have hk1 : (k : Int) < (I.length : Int) := by omega
      generalize I[k] = c at *
      obtain ⟨q, rfl⟩ := Int.eq_ofNat_of_zero_le q0
      have hql : q < l.length := by omega
      have hq0 : (0 : Int) ≤ (q : Int) := by omega
      have hq1 : (q : Int) < (l.length : Int) := by omega
      have hfr := show fromF l cs (K : Nat) sub (q : Nat) = if (submB (kOf l (q : Nat)) && decide (formF l (q : Nat) = (K : Nat))) = true then entF l cs (q : Nat) sub else [] from rfl
      have hfB := fromF_len (l := l) hB (K : Nat) sub (q : Nat)
      obtain ⟨y1, y2⟩ := hRP.vals _ (List.getElem_mem hql)
      obtain ⟨b, o, cap', wa, wk, hv, hb, e0, e1, e2, e3, e4, hatq, hksq⟩ := hDr.nodes.nodes.at hql
      cases hv
      have hkq := kOf_at hql
      rw [hkq] at hfr
      generalize l[q] = y at *
      obtain ⟨k0, k1⟩ := kindOf_range y
      obtain ⟨kk, hkk⟩ : ∃ kk, kindOf y = kk := ⟨_, rfl⟩
      rw [hkk] at hfr k0 k1
      have HKK := Lib.hid hkk
      clear hkk hkq
      cases hS : submB kk
      · have hN := Lib.hid (show (I.take (k + 1)).flatMap (fromF l cs (K : Nat) sub) = (I.take k).flatMap (fromF l cs (K : Nat) sub) by rw [hfs.out, hfr, hS, Bool.false_and, if_neg Bool.false_ne_true, List.append_nil])
        have HS := Lib.hid hS
        clear hfr hS
        go_wp2_with fail
        refine (kindsOf_any y wa wk y1 y2 _ hatq).mono ?_
        rintro e w6 ⟨rfl, hb6⟩
        rw [HKK.out]
        go_wp2_with fail
        refine (kindsSubmits_any kk k0 k1 _).mono ?_
        rintro e w7 ⟨rfl, rfl⟩
        rw [HS.out]
        go_wp2_with fail
        go_roundw
        case rel => exact ⟨k + 1, by omega, by go_num, by rw [hN.out]; exact ho.kept hb6, hbel.trans (hb6.mono hsz)⟩
        case measure => simp [intOf]; omega
      · have HS := Lib.hid hS
        by_cases hfo : formF l (q : Nat) = (K : Nat)
        · have hN := Lib.hid (show (I.take (k + 1)).flatMap (fromF l cs (K : Nat) sub) = (I.take k).flatMap (fromF l cs (K : Nat) sub) ++ entF l cs (q : Nat) sub by rw [hfs.out, hfr, hS, decide_eq_true hfo]; rfl)
          have hfL : (entF l cs (q : Nat) sub).length ≤ 1048576 := by rw [hfr, hS, decide_eq_true hfo] at hfB; exact hfB
          have HF := Lib.hid ((formF_Form ((rightB_iff l).2 hRP) (q : Nat)).trans hfo)
          clear hfr hS hfo
          go_wp2_with fail
          refine (kindsOf_any y wa wk y1 y2 _ hatq).mono ?_
          rintro e w6 ⟨rfl, hb6⟩
          rw [HKK.out]
          have s0 := cellK hb6 (by omega) r0
          go_wp2_with fail
          refine (kindsSubmits_any kk k0 k1 _).mono ?_
          rintro e w7 ⟨rfl, rfl⟩
          rw [HS.out]
          go_wp2_with fail
          refine (ownerFormTop_any l _ (q : Nat) hmax hfits _ (hDr.nodes.nodes.kept hb6)).mono ?_
          rintro e w8 ⟨rfl, hb8⟩
          rw [HF.out]
          have hb68 := bs hb6 hb8
          have u0 := cellK hb68 (by omega) r0
          have u1 := cellK hb68 (by omega) r1
          go_wp2_with fail
          refine (entOf_any l cs _ _ q sub hql hRP HLL.out hB _ (hDr.kept hb68)).mono ?_
          rintro e w9 ⟨vo, rfl, hv, hb9⟩
          have hb69 := bs hb68 hb9
          have hbr := hbel.trans (hb69.mono hsz)
          have ho9 := ho.kept hb69
          go_wp2_with (at_builtin; refine wpList_append_entsG rfl _ _ rfl rfl rfl hv ho9 (by omega) (by have := hbr.size; omega) ?_; intro v' w10 hown10 hb10)
          go_roundw
          case rel => exact ⟨k + 1, by omega, by go_num, by rw [hN.out]; exact hown10, hbr.trans hb10⟩
          case measure => simp [intOf]; omega
        · have hN := Lib.hid (show (I.take (k + 1)).flatMap (fromF l cs (K : Nat) sub) = (I.take k).flatMap (fromF l cs (K : Nat) sub) by rw [hfs.out, hfr, hS, decide_eq_false hfo, Bool.and_false, if_neg Bool.false_ne_true, List.append_nil])
          have hq := intNe hfo
          rw [← formF_Form ((rightB_iff l).2 hRP) (q : Nat)] at hq
          have HF := Lib.hid hq
          clear hfr hS hfo hq
          go_wp2_with fail
          refine (kindsOf_any y wa wk y1 y2 _ hatq).mono ?_
          rintro e w6 ⟨rfl, hb6⟩
          rw [HKK.out]
          have s0 := cellK hb6 (by omega) r0
          go_wp2_with fail
          refine (kindsSubmits_any kk k0 k1 _).mono ?_
          rintro e w7 ⟨rfl, rfl⟩
          rw [HS.out]
          go_wp2_with fail
          refine (ownerFormTop_any l _ (q : Nat) hmax hfits _ (hDr.nodes.nodes.kept hb6)).mono ?_
          rintro e w8 ⟨rfl, hb8⟩
          have hq1 := HF.out
          have hb68 := bs hb6 hb8
          go_wp2_with fail
          go_roundw
          case rel => exact ⟨k + 1, by omega, by go_num, by rw [hN.out]; exact ho.kept hb68, hbel.trans (hb68.mono hsz)⟩
          case measure => simp [intOf]; omega
    · obtain rfl : k = I.length := by omega
      go_wp2_with fail
      go_ret2
      exact ⟨_, by rw [hR.out]; rfl, by rw [HLO.out]; rw [List.take_length] at ho; exact ho.ents, bs hbw hbel⟩
end Go.Proofs.YtafbghlldlconaaGreat

/-
  The laws of chapter 22: the example (wakes): the walk.
-/
namespace Go.Proofs.YtafbghlldlconaaGreat
set_option linter.unusedVariables false
set_option linter.unusedSimpArgs false
open Go.RowKit PT

theorem al_old {w : World} {k : Nat} {o o' : Obj} (h : w.heap[k]? = some o) : (w.alloc o').heap[k]? = some o := blk_kept (one_alloc o') h
theorem al_new {w : World} {n : Nat} {o : Obj} (h : w.heap.size = n) : (w.alloc o).heap[n]? = some o := by subst h; exact Go.heap_alloc_new w o
theorem al_size {w : World} {n : Nat} {o : Obj} (h : w.heap.size = n) : (w.alloc o).heap.size = n + 1 := by simp [h]
theorem seven_rows {w : World} {A B C D E F G : Obj} : ∀ W, W = ((((((w.alloc A).alloc B).alloc C).alloc D).alloc E).alloc F).alloc G → Below w.heap.size w W ∧ W.heap.size = w.heap.size + 1 + 1 + 1 + 1 + 1 + 1 + 1 ∧ W.heap[w.heap.size]? = some A ∧ W.heap[w.heap.size + 1]? = some B ∧ W.heap[w.heap.size + 1 + 1]? = some C ∧ W.heap[w.heap.size + 1 + 1 + 1]? = some D ∧ W.heap[w.heap.size + 1 + 1 + 1 + 1]? = some E ∧ W.heap[w.heap.size + 1 + 1 + 1 + 1 + 1]? = some F ∧ W.heap[w.heap.size + 1 + 1 + 1 + 1 + 1 + 1]? = some G := by
  rintro W rfl
  have h1 := al_size (o := A) (Eq.refl w.heap.size)
  have h2 := al_size (o := B) h1
  have h3 := al_size (o := C) h2
  have h4 := al_size (o := D) h3
  have h5 := al_size (o := E) h4
  have h6 := al_size (o := F) h5
  have h7 := al_size (o := G) h6
  exact ⟨((((((one_alloc A).alloc (by omega) B).alloc (by omega) C).alloc (by omega) D).alloc (by omega) E).alloc (by omega) F).alloc (by omega) G, h7,
    al_old (al_old (al_old (al_old (al_old (al_old (al_new rfl)))))), al_old (al_old (al_old (al_old (al_old (al_new h1))))), al_old (al_old (al_old (al_old (al_new h2)))), al_old (al_old (al_old (al_new h3))), al_old (al_old (al_new h4)), al_old (al_new h5), al_new h6⟩
theorem ex22_doc {W : World} {a b c d e f : Nat} (hA : W.heap[a]? = some (.cells #[.int .i64 1] 3 (0, 0)))
    (hB : W.heap[b]? = some (.cells #[.int .i64 2, .int .i64 3] 3 (0, 0)))
    (hC : W.heap[c]? = some (.cells #[.string ⟨#[110, 97, 109, 101]⟩, .string ⟨#[97]⟩] 52 (0, 0)))
    (hD : W.heap[d]? = some (.cells #[.string ⟨#[110, 97, 109, 101]⟩, .string ⟨#[98]⟩] 52 (0, 0)))
    (hE : W.heap[e]? = some (.cells #[.string ⟨#[104, 116, 109, 108]⟩, .string ⟨#[]⟩, .slice none 0 0, .int .i64 (-1), .slice (some ⟨a, 0, none⟩) 1 1, .string ⟨#[102, 111, 114, 109]⟩, .string ⟨#[]⟩, .slice none 0 0, .int .i64 0, .slice (some ⟨b, 0, none⟩) 2 2, .string ⟨#[105, 110, 112, 117, 116]⟩, .string ⟨#[]⟩, .slice (some ⟨c, 0, none⟩) 1 1, .int .i64 1, .slice none 0 0, .string ⟨#[98, 117, 116, 116, 111, 110]⟩, .string ⟨#[]⟩, .slice (some ⟨d, 0, none⟩) 1 1, .int .i64 1, .slice none 0 0] 41 (0, 0)))
    (hF : W.heap[f]? = some (.cells #[.string ⟨#[]⟩, .bool false, .bool false, .bool false, .bool false, .bool false, .bool false, .bool false, .string ⟨#[]⟩, .slice none 0 0, .string ⟨#[]⟩, .bool false, .bool false, .bool false, .bool false, .bool false, .bool false, .bool false, .string ⟨#[]⟩, .slice none 0 0, .string ⟨#[49]⟩, .bool false, .bool false, .bool false, .bool false, .bool false, .bool false, .bool false, .string ⟨#[]⟩, .slice none 0 0, .string ⟨#[]⟩, .bool false, .bool false, .bool false, .bool false, .bool false, .bool false, .bool false, .string ⟨#[]⟩, .slice none 0 0] 54 (0, 0))) :
    DocAt ex22 ex22c (.slice (some ⟨e, 0, none⟩) 4 4) (.slice (some ⟨f, 0, none⟩) 4 4) W := by
  have nil : Atts [] (.slice none 0 0) W := .inl ⟨rfl, none, 0, rfl, fun _ => rfl⟩
  have nilK : Nums [] (.slice none 0 0) W := .inl ⟨rfl, none, 0, rfl, fun _ => rfl⟩
  have atA : Atts aA (.slice (some ⟨c, 0, none⟩) 1 1) W := .inr ⟨c, 0, 1, rfl, Nat.le_refl _, (Array.getElem?_eq_some_iff.1 hC).1, fun j x hx => by
    match j, hx with
    | 0, hx => cases hx; exact ⟨by simp [World.cell?, hC], by simp [World.cell?, hC]⟩⟩
  have atB : Atts aB (.slice (some ⟨d, 0, none⟩) 1 1) W := .inr ⟨d, 0, 1, rfl, Nat.le_refl _, (Array.getElem?_eq_some_iff.1 hD).1, fun j x hx => by
    match j, hx with
    | 0, hx => cases hx; exact ⟨by simp [World.cell?, hD], by simp [World.cell?, hD]⟩⟩
  have ks1 : Nums [1] (.slice (some ⟨a, 0, none⟩) 1 1) W := .inr ⟨a, 0, 1, rfl, Nat.le_refl _, (Array.getElem?_eq_some_iff.1 hA).1, fun j x hx => by
    match j, hx with
    | 0, hx => cases hx; simp [World.cell?, hA]⟩
  have ks2 : Nums [2, 3] (.slice (some ⟨b, 0, none⟩) 2 2) W := .inr ⟨b, 0, 2, rfl, Nat.le_refl _, (Array.getElem?_eq_some_iff.1 hB).1, fun j x hx => by
    match j, hx with
    | 0, hx => cases hx; simp [World.cell?, hB]
    | 1, hx => cases hx; simp [World.cell?, hB]⟩
  refine ⟨⟨.inr ⟨_, 0, 4, rfl, Nat.le_refl _, (Array.getElem?_eq_some_iff.1 hE).1, ex22_at ?_ ?_ ?_ ?_⟩, ex22_fits, ?_⟩, ?_, ?_⟩
  · exact ⟨_, _, by simp [World.cell?, hE, e0, e1, e2, e3], by simp [World.cell?, hE, e0, e1, e2, e3], by simp [World.cell?, hE, e0, e1, e2, e3], by simp [World.cell?, hE, e0, e1, e2, e3], by simp [World.cell?, hE, e0, e1, e2, e3], nil, ks1⟩
  · exact ⟨_, _, by simp [World.cell?, hE, e0, e1, e2, e3], by simp [World.cell?, hE, e0, e1, e2, e3], by simp [World.cell?, hE, e0, e1, e2, e3], by simp [World.cell?, hE, e0, e1, e2, e3], by simp [World.cell?, hE, e0, e1, e2, e3], nil, ks2⟩
  · exact ⟨_, _, by simp [World.cell?, hE, e0, e1, e2, e3], by simp [World.cell?, hE, e0, e1, e2, e3], by simp [World.cell?, hE, e0, e1, e2, e3], by simp [World.cell?, hE, e0, e1, e2, e3], by simp [World.cell?, hE, e0, e1, e2, e3], atA, nilK⟩
  · exact ⟨_, _, by simp [World.cell?, hE, e0, e1, e2, e3], by simp [World.cell?, hE, e0, e1, e2, e3], by simp [World.cell?, hE, e0, e1, e2, e3], by simp [World.cell?, hE, e0, e1, e2, e3], by simp [World.cell?, hE, e0, e1, e2, e3], atB, nilK⟩
  · refine ⟨by decide, ?_, ?_⟩
    · intro x hx
      simp only [ex22, List.mem_cons, List.not_mem_nil, or_false] at hx
      rcases hx with rfl | rfl | rfl | rfl <;> decide
    · intro x hx
      simp only [ex22, List.mem_cons, List.not_mem_nil, or_false] at hx
      rcases hx with rfl | rfl | rfl | rfl <;> decide
  · refine ⟨[(blankS, .slice none 0 0), (blankS, .slice none 0 0), (one1, .slice none 0 0), (blankS, .slice none 0 0)], rfl, .inr ⟨_, 0, 4, rfl, Nat.le_refl _, (Array.getElem?_eq_some_iff.1 hF).1, fun j t ht i u hu => ?_⟩, fun t ht => ?_⟩
    · have hi : i < 10 := by have := (List.getElem?_eq_some_iff.1 hu).1; rwa [ctC_len] at this
      have hj : j < 4 := (List.getElem?_eq_some_iff.1 ht).1
      simp only [World.cell?, hF]
      match j, hj, ht with
      | 0, _, ht => cases ht; rw [← hu]; match i, hi with | 0, _ => rfl | 1, _ => rfl | 2, _ => rfl | 3, _ => rfl | 4, _ => rfl | 5, _ => rfl | 6, _ => rfl | 7, _ => rfl | 8, _ => rfl | 9, _ => rfl
      | 1, _, ht => cases ht; rw [← hu]; match i, hi with | 0, _ => rfl | 1, _ => rfl | 2, _ => rfl | 3, _ => rfl | 4, _ => rfl | 5, _ => rfl | 6, _ => rfl | 7, _ => rfl | 8, _ => rfl | 9, _ => rfl
      | 2, _, ht => cases ht; rw [← hu]; match i, hi with | 0, _ => rfl | 1, _ => rfl | 2, _ => rfl | 3, _ => rfl | 4, _ => rfl | 5, _ => rfl | 6, _ => rfl | 7, _ => rfl | 8, _ => rfl | 9, _ => rfl
      | 3, _, ht => cases ht; rw [← hu]; match i, hi with | 0, _ => rfl | 1, _ => rfl | 2, _ => rfl | 3, _ => rfl | 4, _ => rfl | 5, _ => rfl | 6, _ => rfl | 7, _ => rfl | 8, _ => rfl | 9, _ => rfl
    · simp only [List.mem_cons, List.not_mem_nil, or_false] at ht
      rcases ht with rfl | rfl | rfl | rfl <;> exact .inl ⟨rfl, none, 0, rfl, fun _ => rfl⟩
  · refine ⟨by decide, ?_⟩
    intro c hc
    simp only [ex22c, List.mem_cons, List.not_mem_nil, or_false] at hc
    rcases hc with rfl | rfl | rfl | rfl <;> decide
theorem ex22_small : SmallC ex22c := by
  intro c hc
  simp only [ex22c, List.mem_cons, List.not_mem_nil, or_false] at hc
  rcases hc with rfl | rfl | rfl | rfl <;> exact ⟨by decide, fun x hx => by simp [blankS, one1] at hx⟩
set_option maxHeartbeats 4000000 in
set_option maxRecDepth 100000 in
theorem wakes22_any (w : World) :
    Calls Tryz.prog 7 #[] w fun e w' => e = .returned (.bool true) ∧ Below w.heap.size w w' := by
  go_enter Tryz.func7, Tryz.ntmps7
  go_wp2_with fail
  generalize hW : World.alloc _ _ = W
  obtain ⟨hb0, hs0, hA, hB, hC, hD, hE, hF, hG⟩ := seven_rows W hW.symm
  have hDoc := ex22_doc hA hB hC hD hE hF
  obtain ⟨g0, g1, _, _⟩ := doc2_of hG
  generalize w.heap.size + 1 + 1 + 1 + 1 + 1 + 1 = n6 at hs0 g0 g1 ⊢
  have hn6 : n6 < W.heap.size := by omega
  clear hW hA hB hC hD hE hF hG hs0
  refine (entList_any ex22 ex22c _ _ 1 3 ex22_small _ hDoc).mono ?_
  rw [ex22_eOf, ex22_l3]
  rintro e w1 ⟨vo, rfl, hv1, hb1⟩
  obtain ⟨a1, cp1, rfl⟩ := hv1.len
  have d0 := cellK hb1 hn6 g0
  have d1 := cellK hb1 hn6 g1
  go_wp2_with fail
  refine (entList_any ex22 ex22c _ _ 1 (-1) ex22_small _ (hDoc.kept hb1)).mono ?_
  rw [ex22_eOf, ex22_l1]
  rintro e w2 ⟨vo, rfl, hv2, hb2⟩
  obtain ⟨b, o, cp2, rfl, hb, y0, y1, y2, y3, y4⟩ := hv2.five (k := 0) (by decide)
  have z0 : w2.cell? ⟨b, o, none⟩ = some (.string ⟨#[97]⟩) := y0
  have z1 : w2.cell? ⟨b, o + 1, none⟩ = some (.string ⟨#[49]⟩) := y1
  have z2 : w2.cell? ⟨b, o + 2, none⟩ = some (.bool false) := y2
  have z3 : w2.cell? ⟨b, o + 3, none⟩ = some (.string ⟨#[]⟩) := y3
  have z4 : w2.cell? ⟨b, o + 4, none⟩ = some (.string ⟨#[]⟩) := y4
  clear y0 y1 y2 y3 y4
  have hl : [out1].length = 1 := rfl

  rw [hl]
  clear hl hv2 hv1 hDoc
  go_wp2_with fail
  go_ret
  exact ⟨rfl, bs (bs hb0 hb1) hb2⟩
end Go.Proofs.YtafbghlldlconaaGreat

/-
  A document of the law's own (copied): the laws of chapters 22 and 24: the walks.
-/
namespace Go.Proofs.YtafbghlldlconaaGreat
set_option linter.unusedVariables false
set_option linter.unusedSimpArgs false
open Go.RowKit

set_option maxHeartbeats 1000000 in
set_option maxRecDepth 100000 in
theorem lawCopied22_any (l : List Nd) (cs : List Ct) (vn vc : Value) (w : World) (hD : DocAt l cs vn vc w) :
    Calls Tryz.prog 5 #[.agg #[vn, vc]] w fun e w' => ∃ vn' vc', e = .returned (.agg #[vn', vc']) ∧ DocAt l cs vn' vc' w' ∧ Below w.heap.size w w' := by
  obtain ⟨a1, cap1, rfl⟩ := hD.nodes.nodes.len
  obtain ⟨a2, cap2, rfl⟩ := hD.ctls.len
  obtain ⟨hD1, hb1, hs1, c0, c1⟩ := doc_box (T := 25) hD
  go_enter Tryz.func5, Tryz.ntmps5
  go_wp2_with fail
  generalize World.alloc w _ = W1 at hD1 hb1 hs1 c0 c1 ⊢
  have hn := Go.heap_alloc_new W1 (.cells #[.slice none 0 0, .slice none 0 0] 25)
  have hb2 := (Below.refl W1.heap.size W1).alloc (Nat.le_refl _) (.cells #[.slice none 0 0, .slice none 0 0] 25)
  rw [hs1] at hn
  generalize World.alloc W1 _ = W2 at hn hb2 ⊢
  have hbd : Below W2.heap.size W2 W2.drew := below_draws W2 1
  have hD2 := (hD1.kept hb2).kept hbd
  have hB2 := hD.ctls.at_base.kept (bs (bs hb1 hb2) hbd)
  have d0 := cellK hbd (by have := hb2.size; omega) (cellK hb2 (by omega) c0)
  have d1 := cellK hbd (by have := hb2.size; omega) (cellK hb2 (by omega) c1)
  have hn2 : W2.drew.heap[w.heap.size + 1]? = some (.cells #[.slice none 0 0, .slice none 0 0] 25 (0, 0)) := hn
  have hb12 : Below w.heap.size w W2.drew := bs (bs hb1 hb2) hbd
  have hs2 : w.heap.size + 2 ≤ W2.drew.heap.size := by have := (Array.getElem?_eq_some_iff.1 hn2).1; omega
  clear hn hbd hb1 hb2 c0 c1 hD1 hs1
  go_region_with ((first
    | (go_at_call 16; (with_reducible refine (copied_any l _ _ hD2.nodes.sized hD2.nodes.nodes).mono ?_); rintro e w3 ⟨L3, vo, rfl, hL3, hN3, hb3⟩; obtain ⟨a3, cap3, rfl, _⟩ := own_form hN3.row; have e0 := cellK hb3 (by omega) d0; have e1 := cellK hb3 (by omega) d1; have hn3 := blk_kept hb3 hn2; have hD3 := hB2.kept hb3; have hN3s := hb3.size)
    | (go_at_call 17; (with_reducible refine (refCopied15_at cs _ _ (base := w.heap.size) (by omega) hD.sz hD3).mono ?_); rintro e w4 ⟨L, vo, rfl, hL4, hO4, hb4⟩; obtain ⟨a4, cap4, rfl, _⟩ := hO4.len; have hn4 := blk_kept hb4 hn3; obtain ⟨x0, x1, f0, f1⟩ := doc2_of hn4)))
  all_goals
    have hN4 := hN3.kept hb4
    have z := doc2_heap (.slice a3 L3.length cap3) (.slice a4 L.length cap4) hn4
    have hN9 := (hN4.set hn4 (by decide) (by decide) (by decide) 0 (.slice a3 L3.length cap3)).set (doc1_heap (.slice a3 L3.length cap3) hn4) (by decide) (by decide) (by decide) 1 (.slice a4 L.length cap4)
    have hO9 := (hO4.setT hn4 (by omega) (by decide) (by decide) 0 (.slice a3 L3.length cap3)).setT (doc1_heap (.slice a3 L3.length cap3) hn4) (by omega) (by decide) (by decide) 1 (.slice a4 L.length cap4)
    have hb9 := (bs (bs hb12 hb3) hb4).trans (doc2_below w4 (w.heap.size + 1) (.slice a3 L3.length cap3) (.slice a4 L.length cap4) (Nat.le_succ w.heap.size))
    generalize World.setCell (World.setCell _ _ _) _ _ = W9 at z hN9 hO9 hb9 ⊢
    obtain ⟨y0, y1, _, _⟩ := doc2_of z
    go_wp2_with fail
    refine bodyPost_ret (v := .agg #[.slice a3 L3.length cap3, .slice a4 L.length cap4]) (by simp [results, Tryz.results5, go_sem, y0, y1]) rfl ⟨_, _, rfl, ⟨⟨?_, hD.nodes.fits, hD.nodes.sized⟩, ?_, hD.sz⟩, hb9⟩
    · have := hN9.nodes
      rwa [hL3.out] at this
    · have := hO9.ctls
      rwa [hL4.out] at this
end Go.Proofs.YtafbghlldlconaaGreat
