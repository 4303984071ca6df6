/-
  A NODE OF AN id: tree.Named: the walk.
-/
import Derived.Test.YtenicjebccdekaaNode
namespace Go.Proofs.Ytenicjebccdekaa
set_option linter.unusedVariables false
set_option linter.unusedSimpArgs false
open Go.RowKit PT

def idK (l : List Nd) (s : ByteArray) (k : Int) : Bool := decide (atO (atsOf l k) ⟨#[105, 100]⟩ = some s)
def firstF (p : Int → Bool) (t : List Int) : Int := (t.find? p).getD (-1)
theorem firstF_none {p : Int → Bool} {t : List Int} (h : ∀ x ∈ t, p x = false) : firstF p t = -1 := by
  unfold firstF
  rw [List.find?_eq_none.2 (fun x hx => by rw [h x hx]; exact Bool.false_ne_true)]
  rfl
theorem firstF_hit {p : Int → Bool} {t : List Int} {k : Nat} (hk : k < t.length) (hno : ∀ x ∈ t.take k, p x = false) (h : p t[k] = true) : firstF p t = t[k] := by
  unfold firstF
  rw [List.find?_eq_some_iff_getElem.2 ⟨h, k, hk, rfl, fun j hj => by
    have := hno t[j] (by
      rw [List.mem_take_iff_getElem]
      exact ⟨j, by omega, rfl⟩)
    simpa using this⟩]
  rfl
noncomputable def namedF (l : List Nd) (s : ByteArray) : Int := if s.size ≠ 0 ∧ rightB l = true then firstF (idK l s) (ord l 0) else -1
theorem order0_any (l : List Nd) (hRP : RightP l) (v : Value) (w : World) (hz : ∀ x ∈ l, Fits x) (hU : Nodes l v w) :
    Calls Try.prog 116 #[v, .int .i64 0] w fun e w' => ∃ g gcap, e = .returned (.slice (some ⟨g, 0, none⟩) (ord l 0).length gcap) ∧ OV w.heap.size 3 (ints (ord l 0)) (.slice (some ⟨g, 0, none⟩) (ord l 0).length gcap) w' ∧ Below w.heap.size w w' := by
  have h := order_any l hRP (l.length + 2) 0 hRP.pos (by omega) v w hz hU
  rw [show ((0 : Nat) : Int) = 0 from rfl] at h
  refine h.mono ?_
  rintro e w' ⟨vo, rfl, hov, hb⟩
  have hil : (ints (ord l 0)).length = (ord l 0).length := by simp [ints]
  have hne : ints (ord l 0) ≠ [] := by rw [ord_eq hRP (by omega) (by have := hRP.pos; omega)]; simp [ints]
  obtain ⟨g, gcap, rfl, _, _⟩ := hov.at hne
  rw [hil] at hov ⊢
  exact ⟨g, gcap, rfl, hov, hb⟩
set_option maxHeartbeats 4000000 in
set_option maxRecDepth 100000 in
theorem named_doc_any (l : List Nd) (v : Value) (s : ByteArray) (hl : l.length ≤ 1000000000000000000) (hz : ∀ x ∈ l, Fits x) (w : World) (hU : Nodes l v w) :
    Calls Try.prog 86 #[v, .string s] w fun e w' => e = .returned (.int .i64 (namedF l s)) ∧ Below w.heap.size w w' := by
  obtain ⟨a, cap, rfl⟩ := hU.len
  by_cases hs : s.size = 0
  · have hR := Lib.hid (show namedF l s = -1 from if_neg (fun h => h.1 hs))
    have e1 := emp_yes hs
    have e2 := empt_yes hs
    clear hs
    go_enter Try.func86, Try.ntmps86
    go_wp2_with fail
    go_ret
    exact ⟨ret_int hR.out.symm, Below.refl _ _⟩
  have e1 := emp_no hs
  have e2 := empt_no hs
  cases hr : rightB l
  · have hR := Lib.hid (show namedF l s = -1 from if_neg (fun h => by rw [hr] at h; exact Bool.false_ne_true h.2))
    have HR := Lib.hid hr
    clear hr hs
    go_enter Try.func86, Try.ntmps86
    go_wp2_with fail
    refine (right_any l _ hl hz _ hU).mono ?_
    rintro e w' ⟨rfl, hb⟩
    rw [HR.out]
    go_wp2_with fail
    go_ret
    exact ⟨ret_int hR.out.symm, hb⟩
  have hR := Lib.hid (show namedF l s = firstF (idK l s) (ord l 0) from if_pos ⟨hs, hr⟩)
  have HR := Lib.hid hr
  have hRP := (rightB_iff l).1 hr
  have hpos := hRP.pos
  have hmax := hRP.max
  clear hr hs
  go_enter Try.func86, Try.ntmps86
  go_wp2_with fail
  refine (right_any l _ hl hz _ hU).mono ?_
  rintro e w' ⟨rfl, hbW⟩
  rw [HR.out]
  have hgW := hbW.size
  go_wp2_with fail
  refine (order0_any l hRP _ _ hz (hU.kept hbW)).mono ?_
  rintro e w2 ⟨g, gcap, rfl, hov, hb2⟩
  have hb02 := hbW.trans (hb2.mono hgW)
  have hg02 := hb02.size
  have hol := ord_len hRP (k := 0) (by omega) (by omega)
  go_wp2_with fail
  go_loopw [18] (fun i wr => ∃ k : Nat, k ≤ (ord l 0).length ∧ i = .int .i64 k ∧ Hid (∀ x ∈ (ord l 0).take k, idK l s x = false) ∧ Below w2.heap.size w2 wr) (fun i _ => (ord l 0).length - (intOf i).toNat)
  case atStart => exact ⟨0, Nat.zero_le _, rfl, Lib.hid (by simp), Below.refl _ _⟩
  case round =>
    obtain ⟨k, hk, rfl, hA, hbel⟩ := hrel
    have hb0r := hb02.trans (hbel.mono hg02)
    have hsz := hbel.size
    by_cases hlt : k < (ord l 0).length
    · have hcell := (hov.kept hbel).cell k (.int .i64 (ord l 0)[k]) (by rw [ints, List.getElem?_map, List.getElem?_eq_getElem hlt]; rfl)
      rw [addr_add, Nat.zero_add] at hcell
      obtain ⟨m0, m1, _⟩ := ord_mem hRP (k := 0) (by omega) (by omega) (List.getElem_mem hlt)
      have hT := Lib.hid (fun h => take_mem_snoc (P := fun x => idK l s x = false) hlt hA.out h)
      have hH := Lib.hid (fun h => firstF_hit (p := idK l s) hlt hA.out h)
      have hk0 : (0 : Int) ≤ (k : Int) := by omega
      have hk1 : (k : Int) < ((ord l 0).length : Int) := by omega
      generalize (ord l 0)[k] = c at *
      obtain ⟨q, rfl⟩ := Int.eq_ofNat_of_zero_le m0
      have hq : q < l.length := by omega
      obtain ⟨b, o, cap', va, vk, hv, hb, c0, c1, c2, c3, c4, hat, hks⟩ := (hU.kept hb0r).at hq
      cases hv
      have hae := Lib.hid (atsOf_at hq)
      have hal := one_ats (hRP.node q _ (List.getElem?_eq_getElem hq)).1
      generalize l[q] = x at *
      have hq0 : (0 : Int) ≤ (q : Int) := by omega
      have hq1 : (q : Int) < (l.length : Int) := by omega
      rcases fi_cases x.ats (isN ⟨#[105, 100]⟩) with ⟨h, _⟩ | ⟨j, hj, h, _⟩
      · have hN := Lib.hid (hT.out (by unfold idK; rw [hae.out, atO_none h]; rfl))
        have HF := Lib.hid h
        clear h
        go_wp2_with fail
        refine (find_at x.ats _ ⟨#[105, 100]⟩ (by omega) _ hat).mono ?_
        rintro e w3 ⟨rfl, hb3⟩
        rw [HF.out]
        go_wp2_with fail
        go_roundw
        case rel => exact ⟨k + 1, by omega, by go_num, hN, hbel.trans (hb3.mono hsz)⟩
        case measure => simp [intOf]; omega
      · have hI := Lib.hid (show idK l s (q : Int) = decide (x.ats[j].v = s) by unfold idK; rw [hae.out, atO_some hj h]; simp)
        have HF := Lib.hid h
        clear h
        go_wp2_with fail
        refine (find_at x.ats _ ⟨#[105, 100]⟩ (by omega) _ hat).mono ?_
        rintro e w3 ⟨rfl, hb3⟩
        replace c2 := cellK hb3 hb c2
        obtain ⟨b9, o9, cap9, hv, _, hb9, hc0, hc1⟩ := (hat.kept hb3).at hj
        subst hv
        generalize x.ats[j] = y at *
        have hj0 : (0 : Int) ≤ (j : Int) := by omega
        have hj1 : (j : Int) < (x.ats.length : Int) := by omega
        rw [HF.out]
        by_cases hy : y.v = s
        · have hN := Lib.hid (hH.out (by rw [hI.out]; exact decide_eq_true hy))
          have hq9 := sTrue hy
          clear hy
          go_wp2_with fail
          go_ret
          exact ⟨ret_int (by rw [hR.out, hN.out]), hb0r.trans (hb3.mono (by omega))⟩
        · have hN := Lib.hid (hT.out (by rw [hI.out]; exact decide_eq_false hy))
          have hq9 := sFalse hy
          clear hy
          go_wp2_with fail
          go_roundw
          case rel => exact ⟨k + 1, by omega, by go_num, hN, hbel.trans (hb3.mono hsz)⟩
          case measure => simp [intOf]; omega
    · obtain rfl : k = (ord l 0).length := by omega
      have hN := Lib.hid (show firstF (idK l s) (ord l 0) = -1 from firstF_none (by have := hA.out; rwa [List.take_of_length_le (Nat.le_refl _)] at this))
      go_wp2_with fail
      go_ret
      exact ⟨ret_int (by rw [hR.out, hN.out]), hb0r⟩
end Go.Proofs.Ytenicjebccdekaa
