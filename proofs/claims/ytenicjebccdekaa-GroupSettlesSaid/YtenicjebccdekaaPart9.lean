import Derived.Test.YtenicjebccdekaaPart8
import Derived.Test.YtenicjebccdekaaPart3
import Derived.Deep.RegionHeld3
import Derived.Deep.RegionWith
import Derived.StillTail
import Derived.StillTailTactics
import Derived.Test.YtenicjebccdekaaPart7
import Derived.Test.YtenicjebccdekaaPart5
import Derived.Test.YtenicjebccdekaaPart1
/-
  STATES (api.Ctl): slices.Clone, group.copied: the walks; a state's cells in an own row; stores of one field.
-/
namespace Go.Proofs.Ytenicjebccdekaa
set_option linter.unusedVariables false
set_option linter.unusedSimpArgs false
open Go.RowKit

theorem set_same {α : Type} (l : List α) (k : Nat) (x : α) (h : l[k]? = some x) : l.set k x = l := by
  obtain ⟨h1, h2⟩ := List.getElem?_eq_some_iff.1 h
  subst h2
  exact List.set_getElem_self h1
theorem OC.len {base : Nat} {L : List CtT} {v : Value} {w : World} (h : OC base L v w) : ∃ a cap, v = .slice a L.length cap ∧ (a = none → cap = 0) := own_form h.row
theorem OC.at {base : Nat} {L : List CtT} {v : Value} {w : World} (h : OC base L v w) {k : Nat} (hk : k < L.length) : ∃ g cap cur, v = .slice (some ⟨g, 0, none⟩) L.length cap ∧ base ≤ g ∧ w.heap[g]? = some (.cells cur 69 (0, 0)) ∧ Ten g (k * 10) L[k].1 L[k].2 w ∧ Ents L[k].1.fi L[k].2 w := by
  obtain ⟨g, cap, cur, hv, hb, hg⟩ := h.blk (by rintro rfl; simp at hk)
  refine ⟨g, cap, cur, hv, hb, hg, ?_, (h.fil _ (List.getElem_mem hk)).1⟩
  obtain ⟨g', cap', hv', _, _, _, hc⟩ := own_cell h.row (by rw [ne_eq, ← List.length_eq_zero_iff, flat_size ctC_len]; omega)
  rw [hv] at hv'
  cases hv'
  have f := fun i u (hu : (ctC (L[k]'hk))[i]? = some u) => hc _ _ (flat_get ctC_len L k (L[k]'hk) (List.getElem?_eq_getElem hk) i u hu)
  exact ⟨f 0 _ rfl, f 1 _ rfl, f 2 _ rfl, f 3 _ rfl, f 4 _ rfl, f 5 _ rfl, f 6 _ rfl, f 7 _ rfl, f 8 _ rfl, f 9 _ rfl⟩
/-- 'out[k].Checked = b' -/
theorem OC.setCh {base : Nat} {L : List CtT} {g n cap : Nat} {w : World} (h : OC base L (.slice (some ⟨g, 0, none⟩) n cap) w) {k : Nat} (hk : k < L.length) (b : Bool) :
    ∃ L', L'.map (·.1) = (L.map (·.1)).set k { L[k].1 with ch := b } ∧ OC base L' (.slice (some ⟨g, 0, none⟩) n cap) (w.setCell ⟨g, k * 10 + 3, none⟩ (.bool b)) ∧ Below base w (w.setCell ⟨g, k * 10 + 3, none⟩ (.bool b)) := by
  have hf := h.fil L[k] (List.getElem_mem hk)
  obtain ⟨h1, h2⟩ := h.set (k := k) (i := 3) (t := L[k]) (t' := ({ L[k].1 with ch := b }, L[k].2)) (u := .bool b) (List.getElem?_eq_getElem hk) (by omega) rfl hf
  exact ⟨_, List.map_set, h1, h2⟩
/-- 'out[k].DirtyChecked = b' -/
theorem OC.setDc {base : Nat} {L : List CtT} {g n cap : Nat} {w : World} (h : OC base L (.slice (some ⟨g, 0, none⟩) n cap) w) {k : Nat} (hk : k < L.length) (b : Bool) :
    ∃ L', L'.map (·.1) = (L.map (·.1)).set k { L[k].1 with dc := b } ∧ OC base L' (.slice (some ⟨g, 0, none⟩) n cap) (w.setCell ⟨g, k * 10 + 4, none⟩ (.bool b)) ∧ Below base w (w.setCell ⟨g, k * 10 + 4, none⟩ (.bool b)) := by
  have hf := h.fil L[k] (List.getElem_mem hk)
  obtain ⟨h1, h2⟩ := h.set (k := k) (i := 4) (t := L[k]) (t' := ({ L[k].1 with dc := b }, L[k].2)) (u := .bool b) (List.getElem?_eq_getElem hk) (by omega) rfl hf
  exact ⟨_, List.map_set, h1, h2⟩
theorem cells_not_frozen {w : World} {g i : Nat} {cur : Array Value} {T : TypeId} (h : w.heap[g]? = some (.cells cur T (0, 0))) : w.frozen? ⟨g, i, none⟩ = false := by
  simp [World.frozen?, h]
theorem SizedC.ents {cs : List Ct} (h : SizedC cs) {L : List CtT} (hL : L.map (·.1) = cs) {t : CtT} (ht : t ∈ L) : t.1.fi.length * 72 ≤ 140737488351232 :=
  h.fi' _ (by rw [← hL]; exact List.mem_map_of_mem ht)

set_option maxHeartbeats 1000000 in
set_option maxRecDepth 100000 in
theorem cloneCtl_any (cs : List Ct) (v : Value) (w : World) (hZ : SizedC cs) (hU : Ctls cs v w) :
    Calls Try.prog 111 #[v] w fun e w' => ∃ L vo, e = .returned vo ∧ Hid (L.map (·.1) = cs) ∧ OC w.heap.size L vo w' ∧ Below w.heap.size w w' := by
  obtain ⟨L, hL, h2, h3⟩ := hU
  have HL := Lib.hid hL
  have hz := hZ.len
  rw [← hL, List.length_map] at hz
  have hby : L.length * 64 ≤ 140737488355328 := by omega
  obtain ⟨a, cap, rfl⟩ := h2.len
  have qT : ∀ (w : World) (a : Option Addr) (n c n' c' : Nat), (binOp .eql 36 (.slice a n c) (.slice none n' c')).run Try.prog w = .ok (.bool a.isNone) w := fun w a n c n' c' => Lib.run_eql_slice_nil w _ _ a n c n' c' Try.underlying36
  clear hL hZ hz
  cases a with
  | none =>
    obtain ⟨h4, _⟩ := h2.none_cap rfl
    have h5 : L = [] := List.length_eq_zero_iff.1 h4
    go_enter Try.func111, Try.ntmps111
    go_wp2_with fail
    go_ret
    exact ⟨[], _, rfl, by rw [← h5]; exact HL, OC.nil _ _, Below.refl _ _⟩
  | some ad =>
    have hb1 := (Below.refl w.heap.size w).alloc (Nat.le_refl _) (.cells #[] 69)
    have hn1 := Go.heap_alloc_new w (.cells #[] 69)
    have hO1 : (w.alloc (.cells #[] 69)).ownsRow w.heap.size 69 10 (.slice (some ⟨w.heap.size, 0, none⟩) 0 0) 0 [] := World.ownsRow_made w #[] 0 (Nat.le_refl _) (Nat.zero_le _) rfl
    have hR1 := h2.kept hb1
    have hE1 : ∀ t ∈ L, Ents t.1.fi t.2 (w.alloc (.cells #[] 69)) := fun t ht => (h3 t ht).kept hb1
    have hF1 : ∀ t ∈ L, Fil w.heap.size t.1.fi t.2 (w.alloc (.cells #[] 69)) := fun t ht => (h3 t ht).fil.kept hb1
    have hs1 := hb1.size
    go_enter Try.func111, Try.ntmps111
    go_wp2_with (at_builtin; refine wpList_append_ctls rfl _ _ rfl rfl rfl hR1 hE1 hF1 rfl hO1 hby hs1 ?_ (fun g e => by cases e; exact ⟨_, hn1⟩); intro v' w' hOC hgr hb)
    go_ret
    exact ⟨L, _, rfl, HL, hOC, hb1.trans hb⟩
set_option maxHeartbeats 1000000 in
set_option maxRecDepth 100000 in
theorem cloneEnt_any (es : List Ent) (v : Value) (w : World) (hZ : es.length * 72 ≤ 140737488351232) (hU : Ents es v w) :
    Calls Try.prog 112 #[v] w fun e w' => ∃ vo, e = .returned vo ∧ OE w.heap.size es vo w' ∧ Below w.heap.size w w' := by
  have hby : es.length * 72 ≤ 140737488355328 := by omega
  obtain ⟨a, cap, rfl⟩ := hU.len
  have qT : ∀ (w : World) (a : Option Addr) (n c n' c' : Nat), (binOp .eql 67 (.slice a n c) (.slice none n' c')).run Try.prog w = .ok (.bool a.isNone) w := fun w a n c n' c' => Lib.run_eql_slice_nil w _ _ a n c n' c' Try.underlying67
  clear hZ
  cases a with
  | none =>
    obtain ⟨h4, _⟩ := hU.none_cap rfl
    have h5 : es = [] := List.length_eq_zero_iff.1 h4
    go_enter Try.func112, Try.ntmps112
    go_wp2_with fail
    go_ret
    exact ⟨_, rfl, by rw [h5]; exact World.ownsRow_nil w _ _ _, Below.refl _ _⟩
  | some ad =>
    have hb1 := (Below.refl w.heap.size w).alloc (Nat.le_refl _) (.cells #[] 93)
    have hO1 : (w.alloc (.cells #[] 93)).ownsRow w.heap.size 93 5 (.slice (some ⟨w.heap.size, 0, none⟩) 0 0) 0 [] := World.ownsRow_made w #[] 0 (Nat.le_refl _) (Nat.zero_le _) rfl
    have hR1 := hU.kept hb1
    have hs1 := hb1.size
    have hone : ∀ u ∈ es.flatMap entCells, u.oneCell' = true := by
      intro u hu
      rw [List.mem_flatMap] at hu
      obtain ⟨e, _, hu⟩ := hu
      simp only [entCells, List.mem_cons, List.not_mem_nil, or_false] at hu
      rcases hu with rfl | rfl | rfl | rfl | rfl <;> rfl
    go_enter Try.func112, Try.ntmps112
    go_wp2_with (at_builtin; refine wpList_append_any rfl _ _ 67 93 rfl Try.underlying67 info_ent rfl (by decide) (n := 0) (xs := []) (news := es.flatMap entCells) rfl rfl hR1.none_cap (flat_size entCells_len es) (fun q hq => by cases hq; exact hR1.src) hone hO1 (by unfold maxLen; omega) (by rw [Nat.zero_add]; exact hby) hs1 ?_; intro v' w' hOE hgr)
    go_ret
    rw [Nat.zero_add, List.nil_append] at hOE
    exact ⟨_, rfl, hOE, hb1.trans (own_below hO1 hgr hs1)⟩
set_option maxHeartbeats 1000000 in
set_option maxRecDepth 100000 in
theorem grpCopied_any (cs : List Ct) (v : Value) (w : World) (hZ : SizedC cs) (hU : Ctls cs v w) :
    Calls Try.prog 83 #[v] w fun e w' => ∃ L vo, e = .returned vo ∧ Hid (L.map (·.1) = cs) ∧ OC w.heap.size L vo w' ∧ Below w.heap.size w w' := by
  have hlen := hZ.len
  go_enter Try.func83, Try.ntmps83
  go_wp2_with fail
  refine (cloneCtl_any cs v w hZ hU).mono ?_
  rintro e w1 ⟨L0, vo, rfl, hL0, hO0, hb0⟩
  have hl0 : L0.length = cs.length := by rw [← hL0.out, List.length_map]
  obtain ⟨a, cap, rfl, _⟩ := hO0.len
  rw [hl0] at hO0 ⊢
  go_wp2_with fail
  go_loopw [9] (fun i wr => ∃ (k : Nat) (L : List CtT), k ≤ cs.length ∧ i = .int .i64 k ∧ Hid (L.map (·.1) = cs) ∧ OC w.heap.size L (.slice a cs.length cap) wr ∧ Below w.heap.size w wr) (fun i _ => cs.length - (intOf i).toNat)
  case atStart => exact ⟨0, L0, Nat.zero_le _, rfl, hL0, hO0, hb0⟩
  case round =>
    obtain ⟨k, L, hk, rfl, hL, hO, hbel⟩ := hrel
    have hll : L.length = cs.length := by rw [← hL.out, List.length_map]
    have hsz := hbel.size
    by_cases hlt : k < cs.length
    · have hk0 : (0 : Int) ≤ (k : Int) := by omega
      have hk1 : (k : Int) < (cs.length : Int) := by omega
      obtain ⟨g, cap', cur, hv, hgb, hg, ⟨_, _, _, _, _, _, _, _, _, c9⟩, hE⟩ := hO.at (k := k) (by omega)
      rw [hll] at hv
      cases hv
      have hze := hZ.ents hL.out (List.getElem_mem (show k < L.length by omega))
      have hLk := List.getElem?_eq_getElem (show k < L.length by omega)
      have hkl : k < L.length := by omega
      generalize L[k] = t at *
      go_wp2_with fail
      refine (cloneEnt_any _ _ _ hze hE).mono ?_
      rintro e w2 ⟨vf, rfl, hOE, hb2⟩
      obtain ⟨a2, cap2, rfl⟩ := hOE.ents.len
      have hO2 := hO.kept hb2
      have hg2 := blk_kept hb2 hg
      have hfz : w2.frozen? ⟨g, k * 10 + 9, none⟩ = false := cells_not_frozen hg2
      have c92 := cellK hb2 (Array.getElem?_eq_some_iff.1 hg).1 c9
      obtain ⟨hO3, hb3⟩ := hO2.set (k := k) (i := 9) (t := t) (t' := (t.1, .slice a2 t.1.fi.length cap2)) (u := .slice a2 t.1.fi.length cap2) hLk (by omega) rfl hOE.fil
      have hL3 : (L.set k (t.1, .slice a2 t.1.fi.length cap2)).map (·.1) = cs := by
        rw [List.map_set, set_same _ _ _ (by rw [List.getElem?_map, hLk]; rfl)]
        exact hL.out
      go_wp2_with fail
      go_roundw
      case rel => exact ⟨k + 1, _, by omega, by go_num, Lib.hid hL3, hO3, hbel.trans ((hb2.mono hsz).trans hb3)⟩
      case measure => simp [intOf]; omega
    · obtain rfl : k = cs.length := by omega
      go_wp2_with fail
      go_ret
      exact ⟨L, _, rfl, hL, hO, hbel⟩
end Go.Proofs.Ytenicjebccdekaa

/-
  A DOCUMENT WITH STATES (api.Doc) as a parameter: option.Right, ref15.Right, the law's copied; ref14.Same, ref15.Same on states that read the same: the walks.
-/
namespace Go.Proofs.Ytenicjebccdekaa
set_option linter.unusedVariables false
set_option linter.unusedSimpArgs false
open Go.RowKit

/-- a document with states that came in -/
structure DocAt (l : List Nd) (cs : List Ct) (vn vc : Value) (w : World) : Prop where
  nodes : Came l vn w
  ctls : Ctls cs vc w
  sz : SizedC cs
theorem DocAt.kept {l : List Nd} {cs : List Ct} {vn vc : Value} {w w' : World} (h : DocAt l cs vn vc w) (hb : Below w.heap.size w w') : DocAt l cs vn vc w' := ⟨h.nodes.kept hb, h.ctls.kept hb, h.sz⟩
noncomputable def okD (l : List Nd) (cs : List Ct) : Bool := rightB l && decide (l.length = cs.length)
/-- the variable that the parameter is laid in -/
theorem doc_box {T : TypeId} {l : List Nd} {cs : List Ct} {vn vc : Value} {w : World} (h : DocAt l cs vn vc w) :
    DocAt l cs vn vc (w.alloc (.cells #[vn, vc] T)) ∧ Below w.heap.size w (w.alloc (.cells #[vn, vc] T)) ∧ (w.alloc (.cells #[vn, vc] T)).heap.size = w.heap.size + 1 ∧
      (w.alloc (.cells #[vn, vc] T)).cell? ⟨w.heap.size, 0, none⟩ = some vn ∧ (w.alloc (.cells #[vn, vc] T)).cell? ⟨w.heap.size, 1, none⟩ = some vc := by
  have hb := (Below.refl w.heap.size w).alloc (Nat.le_refl _) (.cells #[vn, vc] T)
  have hn := Go.heap_alloc_new w (.cells #[vn, vc] T)
  exact ⟨h.kept hb, hb, by simp, by simp only [World.cell?, hn]; rfl, by simp only [World.cell?, hn]; rfl⟩
set_option maxHeartbeats 1000000 in
set_option maxRecDepth 100000 in
theorem optRight_any (l : List Nd) (cs : List Ct) (vn vc : Value) (w : World) (hD : DocAt l cs vn vc w) :
    Calls Try.prog 81 #[.agg #[vn, vc]] w fun e w' => e = .returned (.bool (okD l cs)) ∧ Below w.heap.size w w' := by
  obtain ⟨a1, cap1, rfl⟩ := hD.nodes.nodes.len
  obtain ⟨a2, cap2, rfl⟩ := hD.ctls.len
  obtain ⟨hD1, hb1, hs1, _, _⟩ := doc_box (T := 38) hD
  by_cases hll : l.length = cs.length
  · have hr := Lib.hid (show okD l cs = rightB l by unfold okD; rw [decide_eq_true hll, Bool.and_true])
    have h1 : ((l.length : Int) == (cs.length : Int)) = true := by rw [hll]; exact beq_self_eq_true _
    clear hll
    go_enter Try.func81, Try.ntmps81
    go_wp2_with fail
    refine (right_any l _ hD1.nodes.len hD1.nodes.fits _ hD1.nodes.nodes).mono ?_
    rintro e w2 ⟨rfl, hb2⟩
    go_wp2_with fail
    go_ret
    exact ⟨ret_bool hr.out.symm, bs hb1 hb2⟩
  · have hr := Lib.hid (show okD l cs = false by unfold okD; rw [decide_eq_false hll, Bool.and_false])
    have h1 : ((l.length : Int) == (cs.length : Int)) = false := intNe (by omega)
    go_enter Try.func81, Try.ntmps81
    go_wp2_with fail
    go_ret
    exact ⟨ret_bool hr.out.symm, hb1⟩
set_option maxHeartbeats 1000000 in
set_option maxRecDepth 100000 in
theorem refRight15_any (l : List Nd) (cs : List Ct) (vn vc : Value) (w : World) (hD : DocAt l cs vn vc w) :
    Calls Try.prog 49 #[.agg #[vn, vc]] w fun e w' => e = .returned (.bool (okD l cs)) ∧ Below w.heap.size w w' := by
  obtain ⟨a1, cap1, rfl⟩ := hD.nodes.nodes.len
  obtain ⟨a2, cap2, rfl⟩ := hD.ctls.len
  obtain ⟨hD1, hb1, hs1, c0, c1⟩ := doc_box (T := 38) hD
  cases hR : rightB l
  · have hr := Lib.hid (show okD l cs = false by unfold okD; rw [hR]; rfl)
    have HR := Lib.hid hR
    clear hR
    go_enter Try.func49, Try.ntmps49
    go_wp2_with fail
    refine (refRight_any l _ hD1.nodes.len hD1.nodes.fits _ hD1.nodes.nodes).mono ?_
    rintro e w2 ⟨rfl, hb2⟩
    rw [HR.out]
    go_wp2_with fail
    go_ret
    exact ⟨ret_bool hr.out.symm, bs hb1 hb2⟩
  have HR := Lib.hid hR
  by_cases hll : l.length = cs.length
  · have hr := Lib.hid (show okD l cs = true by unfold okD; rw [hR, decide_eq_true hll]; rfl)
    have h1 : ((l.length : Int) == (cs.length : Int)) = true := by rw [hll]; exact beq_self_eq_true _
    clear hR hll
    go_enter Try.func49, Try.ntmps49
    go_wp2_with fail
    refine (refRight_any l _ hD1.nodes.len hD1.nodes.fits _ hD1.nodes.nodes).mono ?_
    rintro e w2 ⟨rfl, hb2⟩
    rw [HR.out]
    have d0 := cellK hb2 (by omega) c0
    have d1 := cellK hb2 (by omega) c1
    go_wp2_with fail
    go_ret
    exact ⟨ret_bool hr.out.symm, bs hb1 hb2⟩
  · have hr := Lib.hid (show okD l cs = false by unfold okD; rw [hR, decide_eq_false hll]; rfl)
    have h1 : ((l.length : Int) == (cs.length : Int)) = false := intNe (by omega)
    clear hR
    go_enter Try.func49, Try.ntmps49
    go_wp2_with fail
    refine (refRight_any l _ hD1.nodes.len hD1.nodes.fits _ hD1.nodes.nodes).mono ?_
    rintro e w2 ⟨rfl, hb2⟩
    rw [HR.out]
    have d0 := cellK hb2 (by omega) c0
    have d1 := cellK hb2 (by omega) c1
    go_wp2_with fail
    go_ret
    exact ⟨ret_bool hr.out.symm, bs hb1 hb2⟩
set_option maxHeartbeats 1000000 in
set_option maxRecDepth 100000 in
theorem refSame14_yes (c : Ct) (u v : Value) (w : World) (hU : Ents c.fi u w) (hV : Ents c.fi v w) (hl : c.fi.length ≤ 1000000000000000000) :
    Calls Try.prog 84 #[ctV (c, u), ctV (c, v)] w fun e w' => e = .returned (.bool true) ∧ Below w.heap.size w w' := by
  obtain ⟨a1, cap1, rfl⟩ := hU.len
  obtain ⟨a2, cap2, rfl⟩ := hV.len
  have hb := ((Below.refl w.heap.size w).alloc (Nat.le_refl _) (.cells #[.string c.va, .bool c.di, .bool c.ty, .bool c.ch, .bool c.dc, .bool c.mi, .bool c.se, .bool c.ds, .string c.cu, .slice a1 c.fi.length cap1] 69)).alloc (by simp) (.cells #[.string c.va, .bool c.di, .bool c.ty, .bool c.ch, .bool c.dc, .bool c.mi, .bool c.se, .bool c.ds, .string c.cu, .slice a2 c.fi.length cap2] 69)
  have hU2 := hU.kept hb
  have hV2 := hV.kept hb
  unfold ctV
  go_enter Try.func84, Try.ntmps84
  go_wp2_with fail
  refine (sameFiles_yes _ _ _ _ hU2 hV2 hl).mono ?_
  rintro e w2 ⟨rfl, hb2⟩
  go_wp2_with fail
  go_ret
  exact ⟨rfl, bs hb hb2⟩
set_option maxHeartbeats 1000000 in
set_option maxRecDepth 100000 in
theorem refSame15_yes (cs : List Ct) (u v : Value) (w : World) (hU : Ctls cs u w) (hV : Ctls cs v w) (hZ : SizedC cs) :
    Calls Try.prog 35 #[u, v] w fun e w' => e = .returned (.bool true) ∧ Below w.heap.size w w' := by
  obtain ⟨a, cap, rfl⟩ := hU.len
  obtain ⟨a', cap', rfl⟩ := hV.len
  have hlen := hZ.len
  go_enter Try.func35, Try.ntmps35
  go_wp2_with fail
  go_loopw [5] (fun i wr => ∃ k : Nat, k ≤ cs.length ∧ i = .int .i64 k ∧ Below w.heap.size w wr) (fun i _ => cs.length - (intOf i).toNat)
  case atStart => exact ⟨0, Nat.zero_le _, rfl, Below.refl _ _⟩
  case round =>
    obtain ⟨k, hk, rfl, hbel⟩ := hrel
    by_cases hlt : k < cs.length
    · obtain ⟨b, o, c1, vf, hv, hb, ⟨c0, c1, c2, c3, c4, c5, c6, c7, c8, c9⟩, hE⟩ := (hU.kept hbel).at hlt
      obtain ⟨b', o', c1', vf', hv', hb', ⟨d0, d1, d2, d3, d4, d5, d6, d7, d8, d9⟩, hE'⟩ := (hV.kept hbel).at hlt
      cases hv
      cases hv'
      have hz := hZ.fi' _ (List.getElem_mem hlt)
      have hk0 : (0 : Int) ≤ (k : Int) := by omega
      have hk1 : (k : Int) < (cs.length : Int) := by omega
      generalize cs[k] = x at *
      go_wp2_with fail
      refine wp_region_still_tail 8 (by kernel_rfl) (by kernel_rfl) ?_
      simp only [List.take_succ_cons, List.take_zero, List.drop_succ_cons, List.drop_zero]
      repeat still_step
      refine wpStill_nil ?_
      change wpList _ _ _ _ _ wr.drew
      have hbd : Below wr.heap.size wr wr.drew := below_draws wr 1
      go_wp2_with fail
      refine (refSame14_yes x _ _ _ (hE.kept hbd) (hE'.kept hbd) (by omega)).mono ?_
      rintro e w2 ⟨rfl, hb2⟩
      go_wp2_with fail
      go_roundw
      case rel => exact ⟨k + 1, by omega, by go_num, (hbel.trans (hbd.mono hbel.size)).trans (hb2.mono hbel.size)⟩
      case measure => simp [intOf]; omega
    · obtain rfl : k = cs.length := by omega
      go_wp2_with fail
      go_ret
      exact ⟨rfl, hbel⟩
theorem doc2_of {W : World} {b : Nat} {T : TypeId} {u0 u1 : Value} (h : W.heap[b]? = some (.cells #[u0, u1] T (0, 0))) : W.cell? ⟨b, 0, none⟩ = some u0 ∧ W.cell? ⟨b, 1, none⟩ = some u1 ∧ W.frozen? ⟨b, 0, none⟩ = false ∧ W.frozen? ⟨b, 1, none⟩ = false := by
  refine ⟨?_, ?_, ?_, ?_⟩
  · simp only [World.cell?, h]; rfl
  · simp only [World.cell?, h]; rfl
  · simp [World.frozen?, h]
  · simp [World.frozen?, h]
theorem doc2_heap {W : World} {b : Nat} {T : TypeId} {u0 u1 : Value} (v0 v1 : Value) (h : W.heap[b]? = some (.cells #[u0, u1] T (0, 0))) : ((W.setCell ⟨b, 0, none⟩ v0).setCell ⟨b, 1, none⟩ v1).heap[b]? = some (.cells #[v0, v1] T (0, 0)) := by
  simp [World.setCell, Array.getElem?_modify, h]
theorem doc2_below (W : World) (b : Nat) (v0 v1 : Value) {base : Nat} (h : base ≤ b) : Below base W ((W.setCell ⟨b, 0, none⟩ v0).setCell ⟨b, 1, none⟩ v1) := ((Below.refl base W).setCell h _).setCell h _
theorem doc1_heap {W : World} {b : Nat} {T : TypeId} {u0 u1 : Value} (v0 : Value) (h : W.heap[b]? = some (.cells #[u0, u1] T (0, 0))) : (W.setCell ⟨b, 0, none⟩ v0).heap[b]? = some (.cells #[v0, u1] T (0, 0)) := by
  simp [World.setCell, Array.getElem?_modify, h]
theorem ON.set {base : Nat} {L : List NdT} {v : Value} {w : World} {g : Nat} {cur : Array Value} {T : TypeId} (h : ON base L v w) (hg : w.heap[g]? = some (.cells cur T (0, 0))) (h1 : 35 ≠ T) (h2 : 65 ≠ T) (h3 : 3 ≠ T) (i : Nat) (u : Value) : ON base L v (w.setCell ⟨g, i, none⟩ u) :=
  ⟨own_set h.row hg h1, fun t ht => own_set (h.at' t ht) hg h2, fun t ht => own_set (h.ki' t ht) hg h3⟩
theorem OC.setT {base : Nat} {L : List CtT} {v : Value} {w : World} {g : Nat} {cur : Array Value} {T : TypeId} (h : OC base L v w) (hg : w.heap[g]? = some (.cells cur T (0, 0))) (hb : base ≤ g) (h1 : 69 ≠ T) (h2 : 93 ≠ T) (i : Nat) (u : Value) : OC base L v (w.setCell ⟨g, i, none⟩ u) :=
  ⟨own_set h.row hg h1, fun t ht => (h.fil t ht).setT h2 hg hb⟩
set_option maxHeartbeats 1000000 in
set_option maxRecDepth 100000 in
theorem lawCopied17_any (l : List Nd) (cs : List Ct) (vn vc : Value) (w : World) (hD : DocAt l cs vn vc w) :
    Calls Try.prog 32 #[.agg #[vn, vc]] w fun e w' => ∃ vn' vc', e = .returned (.agg #[vn', vc']) ∧ DocAt l cs vn' vc' w' ∧ Below w.heap.size w w' := by
  obtain ⟨a1, cap1, rfl⟩ := hD.nodes.nodes.len
  obtain ⟨a2, cap2, rfl⟩ := hD.ctls.len
  obtain ⟨hD1, hb1, hs1, c0, c1⟩ := doc_box (T := 38) hD
  go_enter Try.func32, Try.ntmps32
  go_wp2_with fail
  generalize World.alloc w _ = W1 at hD1 hb1 hs1 c0 c1 ⊢
  have hn := Go.heap_alloc_new W1 (.cells #[.slice none 0 0, .slice none 0 0] 38)
  have hb2 := (Below.refl W1.heap.size W1).alloc (Nat.le_refl _) (.cells #[.slice none 0 0, .slice none 0 0] 38)
  rw [hs1] at hn
  generalize World.alloc W1 _ = W2 at hn hb2 ⊢
  have hbd : Below W2.heap.size W2 W2.drew := below_draws W2 1
  have hD2 := (hD1.kept hb2).kept hbd
  have hB2 := hD.ctls.at_base.kept (bs (bs hb1 hb2) hbd)
  have d0 := cellK hbd (by have := hb2.size; omega) (cellK hb2 (by omega) c0)
  have d1 := cellK hbd (by have := hb2.size; omega) (cellK hb2 (by omega) c1)
  have hn2 : W2.drew.heap[w.heap.size + 1]? = some (.cells #[.slice none 0 0, .slice none 0 0] 38 (0, 0)) := hn
  have hb12 : Below w.heap.size w W2.drew := bs (bs hb1 hb2) hbd
  have hs2 : w.heap.size + 2 ≤ W2.drew.heap.size := by have := (Array.getElem?_eq_some_iff.1 hn2).1; omega
  clear hn hbd hb1 hb2 c0 c1 hD1 hs1
  go_region_with ((first
    | (go_at_call 16; (with_reducible refine (copied_any l _ _ hD2.nodes.sized hD2.nodes.nodes).mono ?_); rintro e w3 ⟨L3, vo, rfl, hL3, hN3, hb3⟩; obtain ⟨a3, cap3, rfl, _⟩ := own_form hN3.row; have e0 := cellK hb3 (by omega) d0; have e1 := cellK hb3 (by omega) d1; have hn3 := blk_kept hb3 hn2; have hD3 := hB2.kept hb3; have hN3s := hb3.size)
    | (go_at_call 80; (with_reducible refine (refCopied15_at cs _ _ (base := w.heap.size) (by omega) hD.sz hD3).mono ?_); rintro e w4 ⟨L, vo, rfl, hL4, hO4, hb4⟩; obtain ⟨a4, cap4, rfl, _⟩ := hO4.len; have hn4 := blk_kept hb4 hn3; obtain ⟨x0, x1, f0, f1⟩ := doc2_of hn4)))
  all_goals
    have hN4 := hN3.kept hb4
    have z := doc2_heap (.slice a3 L3.length cap3) (.slice a4 L.length cap4) hn4
    have hN9 := (hN4.set hn4 (by decide) (by decide) (by decide) 0 (.slice a3 L3.length cap3)).set (doc1_heap (.slice a3 L3.length cap3) hn4) (by decide) (by decide) (by decide) 1 (.slice a4 L.length cap4)
    have hO9 := (hO4.setT hn4 (by omega) (by decide) (by decide) 0 (.slice a3 L3.length cap3)).setT (doc1_heap (.slice a3 L3.length cap3) hn4) (by omega) (by decide) (by decide) 1 (.slice a4 L.length cap4)
    have hb9 := (bs (bs hb12 hb3) hb4).trans (doc2_below w4 (w.heap.size + 1) (.slice a3 L3.length cap3) (.slice a4 L.length cap4) (Nat.le_succ w.heap.size))
    generalize World.setCell (World.setCell _ _ _) _ _ = W9 at z hN9 hO9 hb9 ⊢
    obtain ⟨y0, y1, _, _⟩ := doc2_of z
    go_wp2_with fail
    refine bodyPost_ret (v := .agg #[.slice a3 L3.length cap3, .slice a4 L.length cap4]) (by simp [results, Try.results32, go_sem, y0, y1]) rfl ⟨_, _, rfl, ⟨⟨?_, hD.nodes.fits, hD.nodes.sized⟩, ?_, hD.sz⟩, hb9⟩
    · have := hN9.nodes
      rwa [hL3.out] at this
    · have := hO9.ctls
      rwa [hL4.out] at this
end Go.Proofs.Ytenicjebccdekaa

/-
  STATES BY THE DOCUMENT: what a check leaves, in plain lists.
-/
namespace Go.Proofs.Ytenicjebccdekaa
set_option linter.unusedVariables false
set_option linter.unusedSimpArgs false
open Go.RowKit PT

/-- unchecked where p holds -/
def clrP (cs : List Ct) (p : Nat → Bool) : List Ct := cs.mapIdx (fun j c => if p j = true then { c with ch := false } else c)
/-- and the one that is checked, or not -/
def chkP (cs : List Ct) (p : Nat → Bool) (k : Nat) (on : Bool) : List Ct := cs.mapIdx (fun j c => if j = k then { c with ch := on, dc := true } else if p j = true then { c with ch := false } else c)
theorem clrP_len (cs : List Ct) (p : Nat → Bool) : (clrP cs p).length = cs.length := List.length_mapIdx
theorem chkP_len (cs : List Ct) (p : Nat → Bool) (k : Nat) (on : Bool) : (chkP cs p k on).length = cs.length := List.length_mapIdx
theorem clrP_none (cs : List Ct) : clrP cs (fun _ => false) = cs := by
  apply List.ext_getElem?
  intro j
  unfold clrP
  rw [List.getElem?_mapIdx]
  cases cs[j]? <;> simp
theorem clrP_congr {cs : List Ct} {p p' : Nat → Bool} (h : ∀ j, j < cs.length → p j = p' j) : clrP cs p = clrP cs p' := by
  apply List.ext_getElem?
  intro j
  unfold clrP
  rw [List.getElem?_mapIdx, List.getElem?_mapIdx]
  by_cases hj : j < cs.length
  · rw [h j hj]
  · rw [List.getElem?_eq_none (by omega)]; rfl
theorem clr_step {cs : List Ct} {L : List CtT} {p p' : Nat → Bool} (hL : L.map (·.1) = clrP cs p) {r : Nat} (hr : r < L.length) (hp : ∀ j, j < cs.length → p' j = (p j || decide (j = r))) :
    (L.map (·.1)).set r { L[r].1 with ch := false } = clrP cs p' := by
  have hlen : L.length = cs.length := by have := congrArg List.length hL; rwa [List.length_map, clrP_len] at this
  have hr' : r < cs.length := by omega
  have hx : L[r].1 = (if p r = true then { cs[r] with ch := false } else cs[r]) := by
    have h1 : (L.map (·.1))[r]? = some L[r].1 := by rw [List.getElem?_map, List.getElem?_eq_getElem hr]; rfl
    rw [hL] at h1
    unfold clrP at h1
    rw [List.getElem?_mapIdx, List.getElem?_eq_getElem hr'] at h1
    exact (Option.some.inj h1).symm
  apply List.ext_getElem?
  intro j
  rw [List.getElem?_set, hL, clrP_len]
  by_cases hj : r = j
  · subst hj
    rw [if_pos rfl, if_pos hr']
    unfold clrP
    rw [List.getElem?_mapIdx, List.getElem?_eq_getElem hr', Option.map_some, hp r hr', decide_eq_true rfl, Bool.or_true, if_pos rfl, hx]
    split <;> rfl
  · rw [if_neg hj]
    unfold clrP
    rw [List.getElem?_mapIdx, List.getElem?_mapIdx]
    by_cases hjl : j < cs.length
    · rw [hp j hjl, decide_eq_false (fun e => hj e.symm), Bool.or_false]
    · rw [List.getElem?_eq_none (by omega)]; rfl
theorem chk_end {cs : List Ct} {L L1 L2 : List CtT} {p : Nat → Bool} {on : Bool} (hL : L.map (·.1) = clrP cs p) {k : Nat} (hk : k < L.length) (hk1 : k < L1.length) (h1 : L1.map (·.1) = (L.map (·.1)).set k { L[k].1 with ch := on }) (h2 : L2.map (·.1) = (L1.map (·.1)).set k { L1[k].1 with dc := true }) :
    L2.map (·.1) = chkP cs p k on := by
  have hlen : L.length = cs.length := by have := congrArg List.length hL; rwa [List.length_map, clrP_len] at this
  have hk' : k < cs.length := by omega
  have hx : L[k].1 = (if p k = true then { cs[k] with ch := false } else cs[k]) := by
    have h1 : (L.map (·.1))[k]? = some L[k].1 := by rw [List.getElem?_map, List.getElem?_eq_getElem hk]; rfl
    rw [hL] at h1
    unfold clrP at h1
    rw [List.getElem?_mapIdx, List.getElem?_eq_getElem hk'] at h1
    exact (Option.some.inj h1).symm
  have hy : L1[k].1 = { L[k].1 with ch := on } := by
    have h3 : (L1.map (·.1))[k]? = some L1[k].1 := by rw [List.getElem?_map, List.getElem?_eq_getElem hk1]; rfl
    rw [h1, List.getElem?_set, if_pos rfl, List.length_map, if_pos hk] at h3
    exact (Option.some.inj h3).symm
  rw [h2, h1, hy, hx, List.set_set, hL]
  apply List.ext_getElem?
  intro j
  rw [List.getElem?_set, clrP_len]
  by_cases hj : k = j
  · subst hj
    rw [if_pos rfl, if_pos hk']
    unfold chkP
    rw [List.getElem?_mapIdx, List.getElem?_eq_getElem hk', Option.map_some, if_pos rfl]
    split <;> rfl
  · rw [if_neg hj]
    unfold clrP chkP
    rw [List.getElem?_mapIdx, List.getElem?_mapIdx]
    cases cs[j]? with
    | none => rfl
    | some c =>
      have hj' : ¬ j = k := fun e => hj e.symm
      simp only [Option.map_some, if_neg hj']
noncomputable def chkE (l : List Nd) (cs : List Ct) (id : Int) : Int := if okD l cs = true ∧ 0 ≤ id ∧ id < l.length then (if kindF l id = 17 ∨ kindF l id = 16 then 0 else 3) else 4
noncomputable def offP (l : List Nd) (id : Int) (on : Bool) (j : Nat) : Bool := on && (radB l id && (radB l j && togB l id j))
noncomputable def chkF (l : List Nd) (cs : List Ct) (id : Int) (on : Bool) : List Ct := if chkE l cs id = 0 then chkP cs (offP l id on) id.toNat on else []
theorem chkF_no {l : List Nd} {cs : List Ct} {id : Int} {on : Bool} (h : chkE l cs id ≠ 0) : chkF l cs id on = [] := if_neg h
theorem chkF_yes {l : List Nd} {cs : List Ct} {id : Int} {on : Bool} (h : chkE l cs id = 0) : chkF l cs id on = chkP cs (offP l id on) id.toNat on := if_pos h
theorem memF_iff {l : List Nd} (h : RightP l) {id : Int} (j : Nat) (hj : j < l.length) : decide ((j : Int) ∈ memF l id) = (radB l id && (radB l j && togB l id j)) := by
  cases hr : radB l id
  · rw [show memF l id = [] from if_neg (fun h => by rw [hr] at h; cases h.2)]
    rfl
  · rw [mem_doc h hr, Bool.true_and]
    cases hp : (radB l j && togB l id j)
    · exact decide_eq_false (fun hm => by rw [(List.mem_filter.1 hm).2] at hp; cases hp)
    · refine decide_eq_true (List.mem_filter.2 ⟨?_, hp⟩)
      rw [Bool.and_eq_true] at hp
      obtain ⟨_, _, _, ha⟩ := topF_all h _ (j : Int) (Nat.le_refl _) (by omega) (by omega)
      rw [← tog_top hp.2]
      exact (ord_full h _ (j : Int) (Nat.le_refl _) (by omega) (by omega) ha).1
end Go.Proofs.Ytenicjebccdekaa

/-
  The laws of chapter 17: the example, in plain lists.
-/
namespace Go.Proofs.Ytenicjebccdekaa
set_option linter.unusedVariables false
set_option linter.unusedSimpArgs false
open Go.RowKit PT

def ex17a : List At := [⟨⟨#[116, 121, 112, 101]⟩, ⟨#[114, 97, 100, 105, 111]⟩⟩, ⟨⟨#[110, 97, 109, 101]⟩, ⟨#[97]⟩⟩]
def ex17 : List Nd := [⟨⟨#[104, 116, 109, 108]⟩, ⟨#[]⟩, [], -1, [1, 2]⟩, ⟨⟨#[105, 110, 112, 117, 116]⟩, ⟨#[]⟩, ex17a, 0, []⟩, ⟨⟨#[105, 110, 112, 117, 116]⟩, ⟨#[]⟩, ex17a, 0, []⟩]
def ct0 : Ct := ⟨⟨#[]⟩, false, false, false, false, false, false, false, ⟨#[]⟩, []⟩
def ex17c : List Ct := [ct0, { ct0 with ch := true }, ct0]
theorem ex17_at {P : Nat → Nd → Prop} (h0 : P 0 ⟨⟨#[104, 116, 109, 108]⟩, ⟨#[]⟩, [], -1, [1, 2]⟩) (h1 : P 1 ⟨⟨#[105, 110, 112, 117, 116]⟩, ⟨#[]⟩, ex17a, 0, []⟩) (h2 : P 2 ⟨⟨#[105, 110, 112, 117, 116]⟩, ⟨#[]⟩, ex17a, 0, []⟩) : ∀ (i : Nat) x, ex17[i]? = some x → P i x
  | 0, _, h => by cases h; exact h0
  | 1, _, h => by cases h; exact h1
  | 2, _, h => by cases h; exact h2
  | n + 3, _, h => by cases h
theorem ex17_right : RightP ex17 where
  pos := by decide
  max := by decide
  top := fun x h => by cases h; exact ⟨by decide, rfl⟩
  node := ex17_at ⟨by decide, by decide, by decide⟩ ⟨by decide, by decide, by decide⟩ ⟨by decide, by decide, by decide⟩
  kids := ex17_at (fun c hc => by simp at hc; rcases hc with rfl | rfl <;> decide) (fun c hc => by simp at hc) (fun c hc => by simp at hc)
  once := ex17_at (fun h => by revert h; decide) (fun _ => by decide) (fun _ => by decide)
  climb := fun i hi => by
    match i, hi with
    | 0, _ => decide
    | 1, _ => decide
    | 2, _ => decide
theorem ex17_rightB : rightB ex17 = true := rightB_yes ex17_right
theorem ex17_fits : ∀ x ∈ ex17, Fits x := by
  intro x hx
  simp only [ex17, List.mem_cons, List.not_mem_nil, or_false] at hx
  rcases hx with rfl | rfl | rfl
  · exact ⟨by decide, by decide, by decide, by decide, by simp⟩
  · exact ⟨by decide, by decide, by decide, by decide, by decide⟩
  · exact ⟨by decide, by decide, by decide, by decide, by decide⟩
theorem ex17_has (k : Nat) (hk : k < 3) : hasB ex17 (k : Int) = true := hasB_yes ex17_right (by omega) (by show (k : Int) < 3; omega)
theorem ex17_rad1 : radB ex17 1 = true := by decide +kernel
theorem ex17_rad2 : radB ex17 2 = true := by decide +kernel
theorem ex17_rad0 : radB ex17 0 = false := by decide +kernel
theorem ex17_form (k : Nat) (hk : k = 1 ∨ k = 2) : FormF ex17 k = -1 := by
  rw [FormF, if_pos ex17_rightB]
  unfold formF attF upB
  rw [ex17_has k (by omega)]
  rcases hk with rfl | rfl <;> decide +kernel
theorem ex17_name (k : Nat) (hk : k = 1 ∨ k = 2) : nameF ex17 k = ⟨#[97]⟩ := by
  unfold nameF attF
  rw [ex17_has k (by omega)]
  rcases hk with rfl | rfl <;> decide +kernel
theorem ex17_top (k : Nat) (hk : k = 1 ∨ k = 2) : topF ex17 k = 0 := by
  rcases hk with rfl | rfl <;> decide +kernel
theorem ex17_tog (j k : Nat) (hj : j = 1 ∨ j = 2) (hk : k = 1 ∨ k = 2) : togB ex17 j k = true := by
  unfold togB
  rw [ex17_name j hj, ex17_name k hk, ex17_form j hj, ex17_form k hk, ex17_top j hj, ex17_top k hk]
  simp only [decide_true, Bool.and_true, Bool.or_eq_true]
  exact .inr (by decide)
theorem ex17_mem : memF ex17 1 = [1, 2] := by
  rw [mem_doc ex17_right ex17_rad1, show topF ex17 1 = 0 from ex17_top 1 (.inl rfl), show ord ex17 0 = [0, 1, 2] by decide +kernel]
  have e1 : togB ex17 1 1 = true := ex17_tog 1 1 (.inl rfl) (.inl rfl)
  have e2 : togB ex17 1 2 = true := ex17_tog 1 2 (.inl rfl) (.inr rfl)
  simp [List.filter_cons, ex17_rad0, ex17_rad1, ex17_rad2, e1, e2]
theorem ex17_ok : okD ex17 ex17c = true := by
  unfold okD
  rw [ex17_rightB]
  rfl
theorem ex17_chkE : chkE ex17 ex17c 2 = 0 := by
  unfold chkE
  rw [if_pos ⟨ex17_ok, by decide, by decide⟩, if_pos (.inl (of_decide_eq_true ex17_rad2))]
theorem ex17_chkF : chkF ex17 ex17c 2 true = [ct0, ct0, { ct0 with ch := true, dc := true }] := by
  have h1 : offP ex17 2 true 1 = true := by
    unfold offP
    rw [ex17_rad2, show radB ex17 ((1 : Nat) : Int) = true from ex17_rad1, show togB ex17 2 ((1 : Nat) : Int) = true from ex17_tog 2 1 (.inr rfl) (.inl rfl)]
    rfl
  have h0 : offP ex17 2 true 0 = false := by
    unfold offP
    rw [show radB ex17 ((0 : Nat) : Int) = false from ex17_rad0, Bool.false_and, Bool.and_false, Bool.and_false]
  rw [chkF_yes ex17_chkE]
  unfold chkP ex17c
  simp [List.mapIdx_cons, h0, h1, ct0]
end Go.Proofs.Ytenicjebccdekaa

/-
  A BUTTON IS CHECKED: group.Check: the walk.
-/
namespace Go.Proofs.Ytenicjebccdekaa
set_option linter.unusedVariables false
set_option linter.unusedSimpArgs false
open Go.RowKit PT

theorem ret_two {v : Value} {n m : Int} (h : n = m) : Ending.returned (.tuple #[v, .int .i64 n]) = .returned (.tuple #[v, .int .i64 m]) := by rw [h]
theorem ov_setT {base g i : Nat} {T T2 : TypeId} {t : List Value} {v u : Value} {W : World} {cur : Array Value} (h : OV base T t v W) (hg : W.heap[g]? = some (.cells cur T2 (0, 0))) (hT : T ≠ T2) : OV base T t v (W.setCell ⟨g, i, none⟩ u) := own_set h hg hT
theorem set_blk {W : World} {g i : Nat} {cur : Array Value} {T : TypeId} (u : Value) (h : W.heap[g]? = some (.cells cur T (0, 0))) : ∃ cur', (W.setCell ⟨g, i, none⟩ u).heap[g]? = some (.cells cur' T (0, 0)) := by
  simp [World.setCell, Array.getElem?_modify, h]
set_option maxHeartbeats 8000000 in
set_option maxRecDepth 100000 in
theorem check_any (l : List Nd) (cs : List Ct) (vn vc : Value) (id : Int) (on : Bool) (w : World) (hD : DocAt l cs vn vc w) :
    Calls Try.prog 33 #[.agg #[vn, vc], .int .i64 id, .bool on] w fun e w' => ∃ vo, e = .returned (.tuple #[vo, .int .i64 (chkE l cs id)]) ∧ Ctls (chkF l cs id on) vo w' ∧ Below w.heap.size w w' := by
  have hlen := hD.nodes.len
  have hfit := hD.nodes.fits
  obtain ⟨a1, cap1, rfl⟩ := hD.nodes.nodes.len
  obtain ⟨a2, cap2, rfl⟩ := hD.ctls.len
  obtain ⟨hD1, hb1, hs1, c0, c1⟩ := doc_box (T := 38) hD
  have bad : ∀ n : Int, chkE l cs id = n → n ≠ 0 → ∀ w' : World, Below w.heap.size w w' → ∃ vo, Ending.returned (.tuple #[.slice none 0 0, .int .i64 n]) = .returned (.tuple #[vo, .int .i64 (chkE l cs id)]) ∧ Ctls (chkF l cs id on) vo w' ∧ Below w.heap.size w w' :=
    fun n h hn w' hb => ⟨_, by rw [h], by rw [chkF_no (by rw [h]; exact hn)]; exact (OC.nil 0 w').ctls, hb⟩
  have Bad := Lib.hid bad
  clear bad
  cases hk : okD l cs
  · have hR := Lib.hid (show chkE l cs id = 4 from if_neg (fun h => by rw [hk] at h; cases h.1))
    have HK := Lib.hid hk
    clear hk
    go_enter Try.func33, Try.ntmps33
    go_wp2_with fail
    refine (optRight_any l cs _ _ _ hD1).mono ?_
    rintro e w2 ⟨rfl, hb2⟩
    rw [HK.out]
    go_wp2_with fail
    go_ret2
    exact Bad.out 4 hR.out (by decide) _ (bs hb1 hb2)
  have hk2 := hk
  unfold okD at hk2
  rw [Bool.and_eq_true, decide_eq_true_iff] at hk2
  obtain ⟨hrB, hll⟩ := hk2
  have hRP := (rightB_iff l).1 hrB
  have HK := Lib.hid hk
  by_cases h0 : 0 ≤ id
  case neg =>
    have hR := Lib.hid (show chkE l cs id = 4 from if_neg (fun h => h0 h.2.1))
    have h0' : decide (id < 0) = true := decide_eq_true (by omega)
    have h0'' : id < 0 := by omega
    clear hk hll h0
    go_enter Try.func33, Try.ntmps33
    go_wp2_with fail
    refine (optRight_any l cs _ _ _ hD1).mono ?_
    rintro e w2 ⟨rfl, hb2⟩
    rw [HK.out]
    go_wp2_with fail
    go_ret2
    exact Bad.out 4 hR.out (by decide) _ (bs hb1 hb2)
  by_cases h1 : id < l.length
  case neg =>
    have hR := Lib.hid (show chkE l cs id = 4 from if_neg (fun h => h1 h.2.2))
    have h0' : decide (id < 0) = false := decide_eq_false (by omega)
    have h1' : decide ((l.length : Int) ≤ id) = true := decide_eq_true (by omega)
    have h1'' : (l.length : Int) ≤ id := by omega
    clear hk hll h1
    go_enter Try.func33, Try.ntmps33
    go_wp2_with fail
    refine (optRight_any l cs _ _ _ hD1).mono ?_
    rintro e w2 ⟨rfl, hb2⟩
    rw [HK.out]
    have d0 := cellK hb2 (by omega) c0
    go_wp2_with fail
    go_ret2
    exact Bad.out 4 hR.out (by decide) _ (bs hb1 hb2)
  obtain ⟨K, rfl⟩ := Int.eq_ofNat_of_zero_le h0
  have hkl : K < l.length := by omega
  have hE0 : chkE l cs (K : Nat) = if kindF l (K : Nat) = 17 ∨ kindF l (K : Nat) = 16 then 0 else 3 := if_pos ⟨hk, h0, h1⟩
  rw [kindF_in h0 h1, kOf_at hkl] at hE0
  obtain ⟨z1, z2⟩ := hRP.vals _ (List.getElem_mem hkl)
  have hDb := hD1
  obtain ⟨b, o, cap', va, vk, hv, hb, e0, e1, e2, e3, e4, hat, hks⟩ := hD1.nodes.nodes.at hkl
  cases hv
  generalize l[K] = x at *
  have hK0 : (0 : Int) ≤ (K : Int) := by omega
  have hK1 : (K : Int) < (l.length : Int) := by omega
  have hK2 : (K : Int) < (cs.length : Int) := by omega
  have h0' : decide ((K : Int) < 0) = false := decide_eq_false (by omega)
  have h1' : decide ((l.length : Int) ≤ (K : Int)) = false := decide_eq_false (by omega)
  have Hll := Lib.hid hll
  clear hk hll h0 h1
  by_cases hkk : kindOf x = 17 ∨ kindOf x = 16
  case neg =>
    have hR := Lib.hid (hE0.trans (if_neg hkk))
    have q1 := Lib.hid (intNe (fun h => hkk (.inl h) : kindOf x ≠ 17))
    have q2 := Lib.hid (intNe (fun h => hkk (.inr h) : kindOf x ≠ 16))
    clear hkk hE0
    go_enter Try.func33, Try.ntmps33
    go_wp2_with fail
    refine (optRight_any l cs _ _ _ hDb).mono ?_
    rintro e w2 ⟨rfl, hb2⟩
    rw [HK.out]
    have d0 := cellK hb2 (by omega) c0
    have f0 := cellK hb2 hb e0
    have f1 := cellK hb2 hb e1
    have f2 := cellK hb2 hb e2
    have f3 := cellK hb2 hb e3
    have f4 := cellK hb2 hb e4
    go_wp2_with fail
    refine (kindsOf_any x va vk z1 z2 _ (hat.kept hb2)).mono ?_
    rintro e w3 ⟨rfl, hb3⟩
    have p1 := q1.out
    have p2 := q2.out
    have p3 : (kindOf x != 17) = true := by rw [bne, p1]; rfl
    have p4 : (kindOf x != 16) = true := by rw [bne, p2]; rfl
    go_wp2_with fail
    go_ret2
    exact Bad.out 3 hR.out (by decide) _ (bs (bs hb1 hb2) hb3)
  have hR := Lib.hid (hE0.trans (if_pos hkk))
  clear hE0
  have hF := Lib.hid (chkF_yes (on := on) hR.out)
  rw [Int.toNat_natCast] at hF
  have hsz := hD.sz
  cases on
  · have hpF := Lib.hid (show clrP cs (fun _ => false) = clrP cs (offP l (K : Nat) false) from clrP_congr (fun j _ => rfl))
    rcases hkk with hk9 | hk9
    all_goals
      have HQ := Lib.hid hk9
      clear hk9
      go_enter Try.func33, Try.ntmps33
      go_wp2_with fail
      refine (optRight_any l cs _ _ _ hDb).mono ?_
      rintro e w2 ⟨rfl, hb2⟩
      rw [HK.out]
      have d0 := cellK hb2 (by omega) c0
      have d1 := cellK hb2 (by omega) c1
      have f0 := cellK hb2 hb e0
      have f1 := cellK hb2 hb e1
      have f2 := cellK hb2 hb e2
      have f3 := cellK hb2 hb e3
      have f4 := cellK hb2 hb e4
      have hs2 := hb2.size
      go_wp2_with fail
      refine (kindsOf_any x va vk z1 z2 _ (hat.kept hb2)).mono ?_
      rintro e w3 ⟨rfl, hb3⟩
      rw [HQ.out]
      have d03 := cellK hb3 (by omega) d0
      have d13 := cellK hb3 (by omega) d1
      have hs3 := hb3.size
      go_wp2_with fail
      refine (grpCopied_any cs _ _ hsz ((hDb.ctls.kept hb2).kept hb3)).mono ?_
      rintro e w4 ⟨L, vo, rfl, hL, hO, hb4⟩
      have hb04 := bs (bs (bs hb1 hb2) hb3) hb4
      have hLl : L.length = cs.length := by rw [← hL.out, List.length_map]
      have hKL : K < L.length := by rw [hLl, ← Hll.out]; exact hkl
      obtain ⟨g, gc, cur, rfl, hgb, hg, ⟨_, _, _, t3, t4, _⟩, _⟩ := hO.at hKL
      obtain ⟨L1, m1, hO1, hb5⟩ := hO.setCh hKL false
      have hK1' : K < L1.length := by have := congrArg List.length m1; rw [List.length_set, List.length_map, List.length_map] at this; omega
      obtain ⟨L2, m2, hO2, hb6⟩ := hO1.setDc hK1' true
      have hz0 : w4.frozen? ⟨g, K * 10 + 3, none⟩ = false := cells_not_frozen hg
      have hz1 : w4.frozen? ⟨g, K * 10 + 4, none⟩ = false := cells_not_frozen hg
      have hfin := Lib.hid (chk_end (hL.out.trans ((clrP_none cs).symm.trans hpF.out)) hKL hK1' m1 m2)
      rw [hLl] at *
      clear m1 m2
      have hCt := hO2.ctls
      rw [hfin.out, ← hF.out] at hCt
      go_wp2_with fail
      go_ret2
      exact ⟨_, ret_two hR.out.symm, hCt, hb04.trans ((hb5.trans hb6).mono (by omega))⟩
  · have hpF := Lib.hid (show clrP cs (fun j => decide ((j : Int) ∈ memF l (K : Nat))) = clrP cs (offP l (K : Nat) true) from clrP_congr (fun j hj => by rw [memF_iff hRP j (by have := Hll.out; omega)]; rfl))
    have hrng := Lib.hid (fun k (hk : k ∈ memF l (K : Nat)) => (mem_same hk).2.2)
    have hml := mem_len (l := l) (K : Nat)
    rcases hkk with hk9 | hk9
    all_goals
      have HQ := Lib.hid hk9
      clear hk9
      go_enter Try.func33, Try.ntmps33
      go_wp2_with fail
      refine (optRight_any l cs _ _ _ hDb).mono ?_
      rintro e w2 ⟨rfl, hb2⟩
      rw [HK.out]
      have d0 := cellK hb2 (by omega) c0
      have d1 := cellK hb2 (by omega) c1
      have f0 := cellK hb2 hb e0
      have f1 := cellK hb2 hb e1
      have f2 := cellK hb2 hb e2
      have f3 := cellK hb2 hb e3
      have f4 := cellK hb2 hb e4
      have hs2 := hb2.size
      go_wp2_with fail
      refine (kindsOf_any x va vk z1 z2 _ (hat.kept hb2)).mono ?_
      rintro e w3 ⟨rfl, hb3⟩
      rw [HQ.out]
      have d03 := cellK hb3 (by omega) d0
      have d13 := cellK hb3 (by omega) d1
      have hs3 := hb3.size
      go_wp2_with fail
      refine (grpCopied_any cs _ _ hsz ((hDb.ctls.kept hb2).kept hb3)).mono ?_
      rintro e w4 ⟨L, vo, rfl, hL, hO, hb4⟩
      have hb04 := bs (bs (bs hb1 hb2) hb3) hb4
      have hs4 := hb4.size
      have d04 := cellK hb4 (by omega) d03
      have hLl : L.length = cs.length := by rw [← hL.out, List.length_map]
      obtain ⟨ao, gc, rfl, _⟩ := hO.len
      rw [hLl] at hO ⊢
      go_wp2_with fail
      refine (members_any l _ (K : Nat) hlen hfit _ (((hDb.nodes.nodes.kept hb2).kept hb3).kept hb4)).mono ?_
      generalize memF l (K : Nat) = T at hpF hrng hml ⊢
      rintro e w5 ⟨tv, rfl, hT, hb5⟩
      obtain ⟨ta, tc, rfl, _⟩ := hT.form
      rw [ints_len] at hT ⊢
      have hO5 := hO.kept hb5
      have hb05 := bs hb04 hb5
      have hs05 := hb05.size
      have hs03 := (bs (bs hb1 hb2) hb3).size
      have hL0 := Lib.hid (hL.out.trans ((clrP_none cs).symm.trans (clrP_congr (p' := fun j => decide ((j : Int) ∈ T.take 0)) (fun j _ => by simp))))
      go_wp2_with fail
      go_loopw [47] (fun i wr => ∃ (k : Nat) (L : List CtT), k ≤ T.length ∧ i = .int .i64 k ∧ Hid (L.map (·.1) = clrP cs (fun j => decide ((j : Int) ∈ T.take k))) ∧ OC w3.heap.size L (.slice ao cs.length gc) wr ∧ OV w4.heap.size 3 (ints T) (.slice ta T.length tc) wr ∧ Below w.heap.size w wr) (fun i _ => T.length - (intOf i).toNat)
      case atStart => exact ⟨0, L, Nat.zero_le _, rfl, hL0, hO5, hT, hb05⟩
      case round =>
        obtain ⟨k, L', hkT, rfl, hL', hO', hT', hbel⟩ := hrel
        have hLl' : L'.length = cs.length := by have := congrArg List.length hL'.out; rwa [List.length_map, clrP_len] at this
        by_cases hlt : k < T.length
        · obtain ⟨q0, q1⟩ := hrng.out T[k] (List.getElem_mem hlt)
          obtain ⟨tg, tgc, hv, _, hcell⟩ := hT'.at (by intro e; have := congrArg List.length e; rw [ints_len, List.length_nil] at this; omega)
          rw [ints_len] at hv
          cases hv
          have hcc := hcell k (.int .i64 T[k]) (by rw [ints, List.getElem?_map, List.getElem?_eq_getElem hlt]; rfl)
          have hTk := Lib.hid (List.take_succ_eq_append_getElem hlt)
          have hk0 : (0 : Int) ≤ (k : Int) := by omega
          have hk1 : (k : Int) < (T.length : Int) := by omega
          generalize T[k] = c at *
          obtain ⟨q, rfl⟩ := Int.eq_ofNat_of_zero_le q0
          have hq1 : (q : Int) < (cs.length : Int) := by have := Hll.out; omega
          have hqL : q < L'.length := by omega
          obtain ⟨g, gc', cur, hv, hgb, hg, ⟨_, _, _, t3, _⟩, _⟩ := hO'.at hqL
          rw [hLl'] at hv
          cases hv
          obtain ⟨L1, m1, hO1, hb6⟩ := hO'.setCh hqL false
          have hz0 : wr.frozen? ⟨g, q * 10 + 3, none⟩ = false := cells_not_frozen hg
          have hT6 := ov_setT (i := q * 10 + 3) (u := .bool false) hT' hg (by decide)
          have hm := Lib.hid (m1.trans (clr_step hL'.out hqL (p' := fun j => decide ((j : Int) ∈ T.take (k + 1))) (fun j _ => by
            rw [hTk.out]
            simp only [List.mem_append, List.mem_singleton, Bool.decide_or]
            congr 1
            rw [decide_eq_decide]
            omega)))
          clear m1
          go_wp2_with fail
          go_roundw
          case rel => exact ⟨k + 1, L1, by omega, by go_num, hm, hO1, hT6, hbel.trans (hb6.mono (by omega))⟩
          case measure => simp [intOf]; omega
        · obtain rfl : k = T.length := by omega
          have hL9 := Lib.hid (show L'.map (·.1) = clrP cs (offP l (K : Nat) true) by rw [hL'.out, List.take_of_length_le (Nat.le_refl _)]; exact hpF.out)
          have hKL : K < L'.length := by rw [hLl', ← Hll.out]; exact hkl
          obtain ⟨g, gc', cur, hv, hgb, hg, ⟨_, _, _, t3, t4, _⟩, _⟩ := hO'.at hKL
          rw [hLl'] at hv
          cases hv
          obtain ⟨L1, m1, hO1, hb5⟩ := hO'.setCh hKL true
          have hK1' : K < L1.length := by have := congrArg List.length m1; rw [List.length_set, List.length_map, List.length_map] at this; omega
          obtain ⟨L2, m2, hO2, hb6⟩ := hO1.setDc hK1' true
          have hz0 : wr.frozen? ⟨g, K * 10 + 3, none⟩ = false := cells_not_frozen hg
          have hz1 : wr.frozen? ⟨g, K * 10 + 4, none⟩ = false := cells_not_frozen hg
          have hfin := Lib.hid (chk_end hL9.out hKL hK1' m1 m2)
          clear m1 m2
          have hCt := hO2.ctls
          rw [hfin.out, ← hF.out] at hCt
          go_wp2_with fail
          go_ret2
          exact ⟨_, ret_two hR.out.symm, hCt, hbel.trans ((hb5.trans hb6).mono (by omega))⟩
end Go.Proofs.Ytenicjebccdekaa

/-
  ROWS OF NUMBERS: ref10.SameInts: the walk.
-/
namespace Go.Proofs.Ytenicjebccdekaa
set_option linter.unusedVariables false
set_option linter.unusedSimpArgs false
open Go.RowKit PT

set_option maxHeartbeats 4000000 in
set_option maxRecDepth 100000 in
theorem sameInts_any (l m : List Int) (u v : Value) (hl : l.length ≤ 1000000000000000000) (hm : m.length ≤ 1000000000000000000) (w : World) (hU : Nums l u w) (hV : Nums m v w) :
    Calls Try.prog 18 #[u, v] w fun e w' => e = .returned (.bool (decide (l = m))) ∧ Below w.heap.size w w' := by
  obtain ⟨a, cap, rfl⟩ := hU.len
  obtain ⟨a2, cap2, rfl⟩ := hV.len
  by_cases hlm : l.length = m.length
  case neg =>
    have hR := Lib.hid (show decide (l = m) = false from decide_eq_false (fun e => hlm (by rw [e])))
    have q1 : ((l.length : Int) == (m.length : Int)) = false := intNe (by omega)
    have q2 : ((l.length : Int) != (m.length : Int)) = true := by rw [bne, q1]; rfl
    clear hlm
    go_enter Try.func18, Try.ntmps18
    go_wp2_with fail
    go_ret
    exact ⟨ret_bool hR.out.symm, Below.refl _ _⟩
  rw [← hlm] at hV ⊢
  have HLM := Lib.hid hlm
  clear hlm
  go_enter Try.func18, Try.ntmps18
  go_wp2_with fail
  go_loopw [5] (fun i wr => ∃ k : Nat, k ≤ l.length ∧ i = .int .i64 k ∧ Hid (∀ j, j < k → l[j]? = m[j]?) ∧ Below w.heap.size w wr) (fun i _ => l.length - (intOf i).toNat)
  case atStart => exact ⟨0, Nat.zero_le _, rfl, Lib.hid (fun j hj => by omega), Below.refl _ _⟩
  case round =>
    obtain ⟨k, hk, rfl, hA, hbel⟩ := hrel
    have hsz := hbel.size
    by_cases hlt : k < l.length
    · have hlt2 : k < m.length := by have := HLM.out; omega
      have hV2 := hV
      rw [HLM.out] at hV2
      obtain ⟨b, o, c1, hv, hb, hc0⟩ := (hU.kept hbel).at hlt
      cases hv
      obtain ⟨b2, o2, c2, hv2, hb2, hd0⟩ := (hV2.kept hbel).at hlt2
      cases hv2
      have hF := Lib.hid (fun (h : ¬ l[k] = m[k]) => show decide (l = m) = false from decide_eq_false (fun e => h (by subst e; rfl)))
      have hN := Lib.hid (fun (h : l[k] = m[k]) => show ∀ j, j < k + 1 → l[j]? = m[j]? from fun j hj => by
        by_cases e : j = k
        · subst e; rw [List.getElem?_eq_getElem hlt, List.getElem?_eq_getElem hlt2, h]
        · exact hA.out j (by omega))
      generalize l[k] = x at *
      generalize m[k] = y at *
      have hk0 : (0 : Int) ≤ (k : Int) := by omega
      have hk1 : (k : Int) < (l.length : Int) := by omega
      clear hV2 hlt2
      by_cases h : x = y
      · have hN2 := Lib.hid (hN.out h)
        subst h
        clear hN hF
        go_wp2_with fail
        go_quiet (fail)
        go_wp2_with fail
        go_roundw
        case rel => exact ⟨k + 1, by omega, by go_num, hN2, hbel.trans (below_draws _ _ |>.mono hsz)⟩
        case measure => simp [intOf]; omega
      · have hR := Lib.hid (hF.out h)
        have q1 : (x == y) = false := intNe h
        have q2 : (x != y) = true := by rw [bne, q1]; rfl
        clear h hN hF
        go_wp2_with fail
        go_quiet (fail)
        go_wp2_with fail
        go_ret
        exact ⟨ret_bool hR.out.symm, hbel.trans (below_draws _ _ |>.mono hsz)⟩
    · obtain rfl : k = l.length := by omega
      have hR := Lib.hid (show decide (l = m) = true from decide_eq_true (List.ext_getElem? fun j => by
        by_cases hj : j < l.length
        · exact hA.out j hj
        · rw [List.getElem?_eq_none (by omega), List.getElem?_eq_none (by have := HLM.out; omega)]))
      go_wp2_with fail
      go_ret
      exact ⟨ret_bool hR.out.symm, hbel⟩
end Go.Proofs.Ytenicjebccdekaa
