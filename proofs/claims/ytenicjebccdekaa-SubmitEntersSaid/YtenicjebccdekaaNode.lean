/-
  A NODE OF A RIGHT DOCUMENT: tree.Attr, ref10.Attr, tree.Order: the walks.
-/
import Derived.Test.YtenicjebccdekaaOrder
namespace Go.Proofs.Ytenicjebccdekaa
set_option linter.unusedVariables false
set_option linter.unusedSimpArgs false
open Go.RowKit PT

def atsOf (l : List Nd) (i : Int) : List At := match l[i.toNat]? with
  | some x => x.ats
  | none => []
theorem atsOf_at {l : List Nd} {k : Nat} (hk : k < l.length) : atsOf l k = l[k].ats := by
  unfold atsOf; rw [Int.toNat_natCast, List.getElem?_eq_getElem hk]
theorem one_ats {x : Nd} (h : oneB x = true) : x.ats.length ≤ 40 := by
  unfold oneB at h
  split at h
  · rw [Bool.and_eq_true, decide_eq_true_iff] at h; omega
  · rw [Bool.and_eq_true, Bool.and_eq_true, Bool.and_eq_true, decide_eq_true_iff, decide_eq_true_iff] at h; omega
noncomputable def attF (l : List Nd) (id : Int) (s : ByteArray) : Option ByteArray := if hasB l id = true then atO (atsOf l id) s else none
theorem ov_base {B B' : Nat} {T : TypeId} {t : List Value} {v : Value} {w : World} (h : OV B T t v w) (hb : B' ≤ B) : OV B' T t v w := by
  obtain ⟨h1, h2 | ⟨g, cap, cur, h3, h4, h5⟩⟩ := h
  · exact ⟨h1, .inl h2⟩
  · exact ⟨h1, .inr ⟨g, cap, cur, h3, Nat.le_trans hb h4, h5⟩⟩
set_option maxHeartbeats 4000000 in
set_option maxRecDepth 100000 in
theorem attr_any (l : List Nd) (v : Value) (id : Int) (s : ByteArray) (hl : l.length ≤ 1000000000000000000) (hz : ∀ x ∈ l, Fits x) (w : World) (hU : Nodes l v w) :
    Calls Try.prog 85 #[v, .int .i64 id, .string s] w fun e w' => e = .returned (atT (attF l id s)) ∧ Below w.heap.size w w' := by
  obtain ⟨a, cap, rfl⟩ := hU.len
  cases hh : hasB l id
  · have HH := Lib.hid hh
    have hR := Lib.hid (show attF l id s = none by unfold attF; rw [hh]; rfl)
    clear hh
    go_enter Try.func85, Try.ntmps85
    go_wp2_with fail
    refine (has_any l _ id hl hz _ hU).mono ?_
    rintro e w' ⟨rfl, hb⟩
    rw [HH.out]
    go_wp2_with fail
    go_ret2
    exact ⟨by rw [hR.out]; rfl, hb⟩
  have HH := Lib.hid hh
  have hR0 := Lib.hid (show attF l id s = atO (atsOf l id) s by unfold attF; rw [hh]; rfl)
  obtain ⟨h0, h1, hRP⟩ := (hasB_iff l id).1 hh
  obtain ⟨K, rfl⟩ := Int.eq_ofNat_of_zero_le h0
  have hkl : K < l.length := by omega
  clear hh
  go_enter Try.func85, Try.ntmps85
  go_wp2_with fail
  refine (has_any l _ _ hl hz _ hU).mono ?_
  rintro e w' ⟨rfl, hbW⟩
  rw [HH.out]
  have hgW := hbW.size
  obtain ⟨b, o, cap', va, vk, hv, hb, c0, c1, c2, c3, c4, hat, hks⟩ := (hU.kept hbW).at hkl
  cases hv
  have hae := Lib.hid (atsOf_at hkl)
  have hal := one_ats (hRP.node K _ (List.getElem?_eq_getElem hkl)).1
  generalize l[K] = x at *
  have hK0 : (0 : Int) ≤ (K : Int) := by omega
  have hK1 : (K : Int) < (l.length : Int) := by omega
  rcases fi_cases x.ats (isN s) with ⟨h, _⟩ | ⟨k, hk, h, _⟩
  · have hR := Lib.hid (show attF l (K : Nat) s = none by rw [hR0.out, hae.out, atO_none h])
    have HF := Lib.hid h
    clear h
    go_wp2_with fail
    refine (find_at x.ats _ s (by omega) _ hat).mono ?_
    rintro e w2 ⟨rfl, hb2⟩
    rw [HF.out]
    go_wp2_with fail
    go_ret2
    exact ⟨by rw [hR.out]; rfl, hbW.trans (hb2.mono hgW)⟩
  · have hR := Lib.hid (show attF l (K : Nat) s = some x.ats[k].v by rw [hR0.out, hae.out]; exact atO_some hk h)
    have HF := Lib.hid h
    clear h
    go_wp2_with fail
    refine (find_at x.ats _ s (by omega) _ hat).mono ?_
    rintro e w2 ⟨rfl, hb2⟩
    replace c2 := cellK hb2 hb c2
    obtain ⟨b9, o9, cap9, hv, _, hb9, hc0, hc1⟩ := (hat.kept hb2).at hk
    subst hv
    generalize x.ats[k] = y at *
    have hk0 : (0 : Int) ≤ (k : Int) := by omega
    have hk1 : (k : Int) < (x.ats.length : Int) := by omega
    rw [HF.out]
    go_wp2_with fail
    go_ret2
    exact ⟨by rw [hR.out]; rfl, hbW.trans (hb2.mono hgW)⟩
set_option maxHeartbeats 4000000 in
set_option maxRecDepth 100000 in
theorem refAttr10_any (l : List Nd) (v : Value) (K : Nat) (s : ByteArray) (hkl : K < l.length) (hal : l[K].ats.length ≤ 1000000) (w : World) (hU : Nodes l v w) :
    Calls Try.prog 100 #[v, .int .i64 K, .string s] w fun e w' => e = .returned (atT (atO (atsOf l K) s)) ∧ w = w' := by
  obtain ⟨a, cap, rfl⟩ := hU.len
  obtain ⟨b, o, cap', va, vk, hv, hb, c0, c1, c2, c3, c4, hat, hks⟩ := hU.at hkl
  cases hv
  have hae := Lib.hid (atsOf_at hkl)
  generalize l[K] = x at *
  have hK0 : (0 : Int) ≤ (K : Int) := by omega
  have hK1 : (K : Int) < (l.length : Int) := by omega
  rcases fi_cases x.ats (isN s) with ⟨h, _⟩ | ⟨k, hk, h, _⟩
  · have hR := Lib.hid (show atO (atsOf l (K : Nat)) s = none by rw [hae.out, atO_none h])
    have HF := Lib.hid h
    clear h
    go_enter Try.func100, Try.ntmps100
    go_wp2_with fail
    refine (refFind10_any x.ats _ s (by omega) _ hat).mono ?_
    rintro e w2 ⟨rfl, rfl⟩
    rw [HF.out]
    go_wp2_with fail
    go_ret2
    exact ⟨by rw [hR.out]; rfl, rfl⟩
  · have hR := Lib.hid (show atO (atsOf l (K : Nat)) s = some x.ats[k].v by rw [hae.out]; exact atO_some hk h)
    have HF := Lib.hid h
    clear h
    obtain ⟨b9, o9, cap9, hv, _, hb9, hc0, hc1⟩ := hat.at hk
    subst hv
    generalize x.ats[k] = y at *
    have hk0 : (0 : Int) ≤ (k : Int) := by omega
    have hk1 : (k : Int) < (x.ats.length : Int) := by omega
    have hk2 : decide ((k : Int) < 0) = false := by simp
    go_enter Try.func100, Try.ntmps100
    go_wp2_with fail
    refine (refFind10_any x.ats _ s (by omega) _ hat).mono ?_
    rintro e w2 ⟨rfl, rfl⟩
    rw [HF.out]
    go_wp2_with fail
    go_ret2
    exact ⟨by rw [hR.out]; rfl, rfl⟩
noncomputable def ordB (l : List Nd) (id : Int) : List Int := if hasB l id = true then ord l id else []
set_option maxHeartbeats 4000000 in
set_option maxRecDepth 100000 in
theorem orderTop_any (l : List Nd) (v : Value) (id : Int) (hl : l.length ≤ 1000000000000000000) (hz : ∀ x ∈ l, Fits x) (w : World) (hU : Nodes l v w) :
    Calls Try.prog 88 #[v, .int .i64 id] w fun e w' => ∃ vo, e = .returned vo ∧ OV w.heap.size 3 (ints (ordB l id)) vo w' ∧ Below w.heap.size w w' := by
  obtain ⟨a, cap, rfl⟩ := hU.len
  cases hh : hasB l id
  · have HH := Lib.hid hh
    have hR := Lib.hid (show ordB l id = [] by unfold ordB; rw [hh]; rfl)
    clear hh
    go_enter Try.func88, Try.ntmps88
    go_wp2_with fail
    refine (has_any l _ id hl hz _ hU).mono ?_
    rintro e w' ⟨rfl, hb⟩
    rw [HH.out]
    go_wp2_with fail
    go_ret
    exact ⟨_, rfl, by rw [hR.out]; exact OV.nil _ _ _, hb⟩
  have HH := Lib.hid hh
  have hR := Lib.hid (show ordB l id = ord l id by unfold ordB; rw [hh]; rfl)
  obtain ⟨h0, h1, hRP⟩ := (hasB_iff l id).1 hh
  obtain ⟨K, rfl⟩ := Int.eq_ofNat_of_zero_le h0
  have hkl : K < l.length := by omega
  clear hh
  go_enter Try.func88, Try.ntmps88
  go_wp2_with fail
  refine (has_any l _ _ hl hz _ hU).mono ?_
  rintro e w' ⟨rfl, hbW⟩
  rw [HH.out]
  have hgW := hbW.size
  go_wp2_with fail
  refine (order_any l hRP (l.length + 2) K hkl (by omega) _ _ hz (hU.kept hbW)).mono ?_
  rintro e w2 ⟨vo, rfl, hov, hb2⟩
  go_wp2_with fail
  go_ret
  exact ⟨_, rfl, by rw [hR.out]; exact ov_base hov hgW, hbW.trans (hb2.mono hgW)⟩
end Go.Proofs.Ytenicjebccdekaa
