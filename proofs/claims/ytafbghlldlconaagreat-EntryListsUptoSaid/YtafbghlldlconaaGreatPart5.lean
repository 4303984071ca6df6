import Derived.Test.YtafbghlldlconaaGreatPart4
import Derived.Test.YtafbghlldlconaaGreatPart3
/-
  THE KIND OF A NODE by the document: ref11.Of: the walk.
-/
namespace Go.Proofs.YtafbghlldlconaaGreat
set_option linter.unusedVariables false
set_option linter.unusedSimpArgs false
open Go.RowKit PT

set_option maxHeartbeats 4000000 in
set_option maxRecDepth 100000 in
theorem refOf11_any (x : Nd) (va vk : Value) (hl : x.ats.length ≤ 1000000000000000) (hA : ∀ a ∈ x.ats, a.v.size ≤ 65536) (w : World) (hU : Atts x.ats va w) :
    Calls Tryz.prog 23 #[NdV x va vk] w fun e w' => e = .returned (.int .i64 (kindOf x)) ∧ Below w.heap.size w w' := by
  have hty0 : tyOf x = ⟨(low ((atO x.ats ⟨#[116, 121, 112, 101]⟩).getD ⟨#[]⟩).data.toList).toArray⟩ := rfl
  have HTY := Lib.hid hty0
  clear hty0
  have hb0 := (Below.refl w.heap.size w).alloc (Nat.le_refl _) (.cells #[.string x.nm, .string x.tx, va, .int .i64 x.pa, vk] 41)
  have hn0 := Go.heap_alloc_new w (.cells #[.string x.nm, .string x.tx, va, .int .i64 x.pa, vk] 41)
  have hU0 := hU.kept hb0
  obtain ⟨a, cap, rfl⟩ := hU.len
  have hN : NdV x (.slice a x.ats.length cap) vk = .agg #[.string x.nm, .string x.tx, .slice a x.ats.length cap, .int .i64 x.pa, vk] := rfl
  rw [hN]
  clear hN
  go_enter Tryz.func23, Tryz.ntmps23
  go_upto_region 1 with fail
  generalize World.alloc _ _ = W0 at hb0 hn0 hU0 ⊢
  obtain ⟨x0, x1, x2, x3, x4, f0, f1, f2, f3, f4⟩ := five_of hn0
  go_wp2_with fail
  refine (refFind10_any x.ats _ ⟨#[116, 121, 112, 101]⟩ hl _ hU0).mono ?_
  rintro e w' ⟨rfl, rfl⟩
  obtain ⟨ty, hty⟩ : ∃ ty, tyOf x = ty := ⟨_, rfl⟩
  have HK := Lib.hid hty
  clear hty
  have hfc := fi_cases x.ats (isN ⟨#[116, 121, 112, 101]⟩)
  generalize hfi : fi x.ats (isN ⟨#[116, 121, 112, 101]⟩) = z at hfc ⊢
  have HZ := Lib.hid hfi
  have HC := Lib.hid hfc
  clear hfi hfc
  go_upto_if 10 with (fail)
  go_cut [4] (fun s4 wx => s4 = .string ty ∧ Below w.heap.size w wx ∧ wx.heap[w.heap.size]? = some (.cells #[.string x.nm, .string x.tx, .slice a x.ats.length cap, .int .i64 x.pa, vk] 41 (0, 0)))
  case first =>
    rcases HC.out with ⟨h, _⟩ | ⟨kk, hkk, h, _⟩
    · subst h
      have hte := Lib.hid (show (⟨#[]⟩ : ByteArray) = ty by rw [← HK.out, HTY.out, atO_none HZ.out]; rfl)
      clear HC
      go_wp2_with fail
      go_meet
      exact ⟨by rw [hte.out], hb0, hn0⟩
    · subst h
      have hsz := hA _ (List.getElem_mem hkk)
      have hte := Lib.hid (show (⟨(low x.ats[kk].v.data.toList).toArray⟩ : ByteArray) = ty by rw [← HK.out, HTY.out, atO_some hkk HZ.out]; rfl)
      obtain ⟨b, o, cap', hv, _, hb, hc0, hc1⟩ := hU0.at hkk
      cases hv
      generalize x.ats[kk] = y at *
      have hk0 : (0 : Int) ≤ (kk : Int) := by omega
      have hk1 : (kk : Int) < (x.ats.length : Int) := by omega
      clear HC
      go_wp2_with fail
      refine (refLower_any y.v _ hsz).mono ?_
      rintro e w2 ⟨rfl, hb2⟩
      rw [hte.out]
      have hn2 := blk_kept hb2 hn0
      go_wp2_with fail
      go_meet
      exact ⟨rfl, bs hb0 hb2, hn2⟩
  case rest =>
    obtain ⟨rfl, hbb, hn9⟩ := hcut
    clear x0 x1 x2 x3 x4 f0 f1 f2 f3 f4 hn0 hU0 hb0 HC HZ HTY
    obtain ⟨x0, x1, x2, x3, x4, f0, f1, f2, f3, f4⟩ := five_of hn9
    by_cases n1 : (⟨#[105, 110, 112, 117, 116]⟩ : ByteArray) = x.nm
    · have hK := Lib.hid (show kindOf x = tyK ty by rw [kind_input n1, HK.out])
      have p1 : (x.nm.toList == [105, 110, 112, 117, 116]) = true := ql_yes n1
      clear n1
      go_wp2_with fail
      go_loop [5] (fun i => ∃ k : Nat, k ≤ 22 ∧ i = .int .i64 ((k + 1 : Nat) : Int) ∧ Hid (∀ j, j < k → tyL[j]? ≠ some ty)) (fun i => 23 - (intOf i).toNat)
      case atStart => exact ⟨0, Nat.zero_le _, rfl, Lib.hid (fun j hj => by omega)⟩
      case round =>
        obtain ⟨k, hk, rfl, hno⟩ := hrel
        by_cases hlt : k < 22
        · have hlt' : (k : Int) + 1 ≤ 22 := by omega
          go_wp2_with fail
          refine (refType11_any _ (by omega) (by omega) _).mono ?_
          rintro e w' ⟨⟨s, rfl, hs0⟩, rfl⟩
          have hgd := Lib.hid (show tyL[k]? = some s by rw [← hs0]; congr 1; omega)
          clear hs0
          by_cases hs : s = ty
          · have hR := Lib.hid (hK.out.trans (tyK_hit hlt hno.out (by rw [hgd.out, hs])))
            have hq := sTrue hs
            clear hs
            go_wp2_with fail
            go_ret
            exact ⟨ret_int hR.out.symm, hbb⟩
          · have hN := Lib.hid (show ∀ j, j < k + 1 → tyL[j]? ≠ some ty from fun j hj => by
              by_cases e : j = k
              · rw [e, hgd.out]; exact fun e2 => hs (Option.some.inj e2)
              · exact hno.out j (by omega))
            have hq := sFalse hs
            clear hs
            go_wp2_with fail
            go_round
            case rel => exact ⟨k + 1, by omega, by go_num, hN⟩
            case measure => simp [intOf]; omega
        · obtain rfl : k = 22 := by omega
          have hR := Lib.hid (hK.out.trans (tyK_none hno.out))
          go_wp2_with fail
          go_ret
          exact ⟨ret_int hR.out.symm, hbb⟩
    · have p1 : (x.nm.toList == [105, 110, 112, 117, 116]) = false := ql_no n1
      by_cases n2 : (⟨#[98, 117, 116, 116, 111, 110]⟩ : ByteArray) = x.nm
      · have hK := Lib.hid (show kindOf x = btK ty by rw [kind_button n1 n2, HK.out])
        have p2 : (x.nm.toList == [98, 117, 116, 116, 111, 110]) = true := ql_yes n2
        clear n1 n2
        by_cases r1 : (⟨#[114, 101, 115, 101, 116]⟩ : ByteArray) = ty
        · have hR := Lib.hid (hK.out.trans (btK_reset r1))
          have q1 : (ty.toList == [114, 101, 115, 101, 116]) = true := ql_yes r1
          clear r1
          go_wp2_with fail
          go_ret
          exact ⟨ret_int hR.out.symm, hbb⟩
        · have q1 : (ty.toList == [114, 101, 115, 101, 116]) = false := ql_no r1
          by_cases r2 : (⟨#[98, 117, 116, 116, 111, 110]⟩ : ByteArray) = ty
          · have hR := Lib.hid (hK.out.trans (btK_button r1 r2))
            have q2 : (ty.toList == [98, 117, 116, 116, 111, 110]) = true := ql_yes r2
            clear r1 r2
            go_wp2_with fail
            go_ret
            exact ⟨ret_int hR.out.symm, hbb⟩
          · have hR := Lib.hid (hK.out.trans (btK_else r1 r2))
            have q2 : (ty.toList == [98, 117, 116, 116, 111, 110]) = false := ql_no r2
            clear r1 r2
            go_wp2_with fail
            go_ret
            exact ⟨ret_int hR.out.symm, hbb⟩
      · have p2 : (x.nm.toList == [98, 117, 116, 116, 111, 110]) = false := ql_no n2
        by_cases n3 : (⟨#[115, 101, 108, 101, 99, 116]⟩ : ByteArray) = x.nm
        · have hR := Lib.hid (kind_select n1 n2 n3)
          have p3 : (x.nm.toList == [115, 101, 108, 101, 99, 116]) = true := ql_yes n3
          clear n1 n2 n3
          go_wp2_with fail
          go_ret
          exact ⟨ret_int hR.out.symm, hbb⟩
        · have p3 : (x.nm.toList == [115, 101, 108, 101, 99, 116]) = false := ql_no n3
          by_cases n4 : (⟨#[116, 101, 120, 116, 97, 114, 101, 97]⟩ : ByteArray) = x.nm
          · have hR := Lib.hid (kind_area n1 n2 n3 n4)
            have p4 : (x.nm.toList == [116, 101, 120, 116, 97, 114, 101, 97]) = true := ql_yes n4
            clear n1 n2 n3 n4
            go_wp2_with fail
            go_ret
            exact ⟨ret_int hR.out.symm, hbb⟩
          · have p4 : (x.nm.toList == [116, 101, 120, 116, 97, 114, 101, 97]) = false := ql_no n4
            have hK := Lib.hid (kind_other n1 n2 n3 n4)
            clear n1 n2 n3 n4
            by_cases m0 : (⟨#[111, 117, 116, 112, 117, 116]⟩ : ByteArray) = x.nm
            · have hR := Lib.hid (hK.out.trans (show otK x.nm = 28 by rw [← m0]; rfl))
              have o0 : (x.nm.toList == [111, 117, 116, 112, 117, 116]) = true := ql_yes m0
              clear  m0
              go_wp2_with fail
              go_ret
              exact ⟨ret_int hR.out.symm, hbb⟩
            · have o0 : (x.nm.toList == [111, 117, 116, 112, 117, 116]) = false := ql_no m0
              by_cases m1 : (⟨#[102, 105, 101, 108, 100, 115, 101, 116]⟩ : ByteArray) = x.nm
              · have hR := Lib.hid (hK.out.trans (show otK x.nm = 29 by rw [← m1]; rfl))
                have o1 : (x.nm.toList == [102, 105, 101, 108, 100, 115, 101, 116]) = true := ql_yes m1
                clear m0 m1
                go_wp2_with fail
                go_ret
                exact ⟨ret_int hR.out.symm, hbb⟩
              · have o1 : (x.nm.toList == [102, 105, 101, 108, 100, 115, 101, 116]) = false := ql_no m1
                by_cases m2 : (⟨#[102, 111, 114, 109]⟩ : ByteArray) = x.nm
                · have hR := Lib.hid (hK.out.trans (show otK x.nm = 30 by rw [← m2]; rfl))
                  have o2 : (x.nm.toList == [102, 111, 114, 109]) = true := ql_yes m2
                  clear m0 m1 m2
                  go_wp2_with fail
                  go_ret
                  exact ⟨ret_int hR.out.symm, hbb⟩
                · have o2 : (x.nm.toList == [102, 111, 114, 109]) = false := ql_no m2
                  by_cases m3 : (⟨#[108, 97, 98, 101, 108]⟩ : ByteArray) = x.nm
                  · have hR := Lib.hid (hK.out.trans (show otK x.nm = 31 by rw [← m3]; rfl))
                    have o3 : (x.nm.toList == [108, 97, 98, 101, 108]) = true := ql_yes m3
                    clear m0 m1 m2 m3
                    go_wp2_with fail
                    go_ret
                    exact ⟨ret_int hR.out.symm, hbb⟩
                  · have o3 : (x.nm.toList == [108, 97, 98, 101, 108]) = false := ql_no m3
                    by_cases m4 : (⟨#[111, 112, 116, 105, 111, 110]⟩ : ByteArray) = x.nm
                    · have hR := Lib.hid (hK.out.trans (show otK x.nm = 32 by rw [← m4]; rfl))
                      have o4 : (x.nm.toList == [111, 112, 116, 105, 111, 110]) = true := ql_yes m4
                      clear m0 m1 m2 m3 m4
                      go_wp2_with fail
                      go_ret
                      exact ⟨ret_int hR.out.symm, hbb⟩
                    · have o4 : (x.nm.toList == [111, 112, 116, 105, 111, 110]) = false := ql_no m4
                      by_cases m5 : (⟨#[111, 112, 116, 103, 114, 111, 117, 112]⟩ : ByteArray) = x.nm
                      · have hR := Lib.hid (hK.out.trans (show otK x.nm = 33 by rw [← m5]; rfl))
                        have o5 : (x.nm.toList == [111, 112, 116, 103, 114, 111, 117, 112]) = true := ql_yes m5
                        clear m0 m1 m2 m3 m4 m5
                        go_wp2_with fail
                        go_ret
                        exact ⟨ret_int hR.out.symm, hbb⟩
                      · have o5 : (x.nm.toList == [111, 112, 116, 103, 114, 111, 117, 112]) = false := ql_no m5
                        by_cases m6 : (⟨#[108, 101, 103, 101, 110, 100]⟩ : ByteArray) = x.nm
                        · have hR := Lib.hid (hK.out.trans (show otK x.nm = 34 by rw [← m6]; rfl))
                          have o6 : (x.nm.toList == [108, 101, 103, 101, 110, 100]) = true := ql_yes m6
                          clear m0 m1 m2 m3 m4 m5 m6
                          go_wp2_with fail
                          go_ret
                          exact ⟨ret_int hR.out.symm, hbb⟩
                        · have o6 : (x.nm.toList == [108, 101, 103, 101, 110, 100]) = false := ql_no m6
                          by_cases m7 : (⟨#[100, 97, 116, 97, 108, 105, 115, 116]⟩ : ByteArray) = x.nm
                          · have hR := Lib.hid (hK.out.trans (show otK x.nm = 35 by rw [← m7]; rfl))
                            have o7 : (x.nm.toList == [100, 97, 116, 97, 108, 105, 115, 116]) = true := ql_yes m7
                            clear m0 m1 m2 m3 m4 m5 m6 m7
                            go_wp2_with fail
                            go_ret
                            exact ⟨ret_int hR.out.symm, hbb⟩
                          · have o7 : (x.nm.toList == [100, 97, 116, 97, 108, 105, 115, 116]) = false := ql_no m7
                            have hR := Lib.hid (hK.out.trans (otK_none (fun j hj => by
                              match j, hj with
                              | 0, _ => exact fun e => m0 (Option.some.inj e)
                              | 1, _ => exact fun e => m1 (Option.some.inj e)
                              | 2, _ => exact fun e => m2 (Option.some.inj e)
                              | 3, _ => exact fun e => m3 (Option.some.inj e)
                              | 4, _ => exact fun e => m4 (Option.some.inj e)
                              | 5, _ => exact fun e => m5 (Option.some.inj e)
                              | 6, _ => exact fun e => m6 (Option.some.inj e)
                              | 7, _ => exact fun e => m7 (Option.some.inj e)
                              | n + 8, hj => omega)))
                            clear m0 m1 m2 m3 m4 m5 m6 m7
                            go_wp2_with fail
                            go_ret
                            exact ⟨ret_int hR.out.symm, hbb⟩
end Go.Proofs.YtafbghlldlconaaGreat

/-
  KINDS OF A DOCUMENT's NODES: owner.kind, ref16.kind, ref15.Is: the walks.
-/
namespace Go.Proofs.YtafbghlldlconaaGreat
set_option linter.unusedVariables false
set_option linter.unusedSimpArgs false
open Go.RowKit PT

def kOf (l : List Nd) (i : Int) : Int := match l[i.toNat]? with
  | some x => kindOf x
  | none => 0
theorem kOf_at {l : List Nd} {k : Nat} (hk : k < l.length) : kOf l k = kindOf l[k] := by
  unfold kOf; rw [Int.toNat_natCast, List.getElem?_eq_getElem hk]
/-- .. 0: there is no such node -/
def kindF (l : List Nd) (i : Int) : Int := if 0 ≤ i ∧ i < l.length then kOf l i else 0
theorem one_vals {x : Nd} (h : oneB x = true) : ∀ a ∈ x.ats, a.v.size ≤ 4000 := by
  unfold oneB at h
  split at h
  · rw [Bool.and_eq_true, decide_eq_true_iff] at h
    intro a ha
    rw [List.length_eq_zero_iff.1 h.1] at ha
    cases ha
  · rw [Bool.and_eq_true, Bool.and_eq_true, Bool.and_eq_true, List.all_eq_true] at h
    intro a ha
    obtain ⟨j, hj, rfl⟩ := List.getElem_of_mem ha
    have := h.2.2.2 j (List.mem_range.2 hj)
    unfold atB at this
    rw [List.getElem?_eq_getElem hj] at this
    simp only [Bool.and_eq_true, decide_eq_true_iff] at this
    exact this.2.1
set_option maxHeartbeats 4000000 in
set_option maxRecDepth 100000 in
theorem ownerKind_any (l : List Nd) (v : Value) (id : Int) (hl : l.length ≤ 1000000000000000000) (hz : ∀ x ∈ l, x.ats.length ≤ 1000000000000000 ∧ ∀ a ∈ x.ats, a.v.size ≤ 140737488351232) (w : World) (hU : Nodes l v w) :
    Calls Tryz.prog 59 #[v, .int .i64 id] w fun e w' => e = .returned (.int .i64 (kindF l id)) ∧ Below w.heap.size w w' := by
  obtain ⟨a, cap, rfl⟩ := hU.len
  by_cases h0 : 0 ≤ id
  case neg =>
    have hR := Lib.hid (show kindF l id = 0 from if_neg (fun h => h0 h.1))
    have h0' : id < 0 := by omega
    go_enter Tryz.func59, Tryz.ntmps59
    go_wp2_with fail
    go_ret
    exact ⟨ret_int hR.out.symm, Below.refl _ _⟩
  by_cases h1 : id < l.length
  case neg =>
    have hR := Lib.hid (show kindF l id = 0 from if_neg (fun h => h1 h.2))
    have h0' : decide (id < 0) = false := decide_eq_false (by omega)
    have h1' : (l.length : Int) ≤ id := by omega
    go_enter Tryz.func59, Tryz.ntmps59
    go_wp2_with fail
    go_ret
    exact ⟨ret_int hR.out.symm, Below.refl _ _⟩
  have hR0 := Lib.hid (show kindF l id = kOf l id from if_pos ⟨h0, h1⟩)
  obtain ⟨K, rfl⟩ := Int.eq_ofNat_of_zero_le h0
  have hkl : K < l.length := by omega
  obtain ⟨b, o, cap', va, vk, hv, hb, c0, c1, c2, c3, c4, hat, hks⟩ := hU.at hkl
  cases hv
  have hR := Lib.hid (show kindF l (K : Nat) = kindOf l[K] by rw [hR0.out, kOf_at hkl])
  obtain ⟨z1, z2⟩ := hz _ (List.getElem_mem hkl)
  generalize l[K] = x at *
  have hK0 : (0 : Int) ≤ (K : Int) := by omega
  have hK1 : (K : Int) < (l.length : Int) := by omega
  have h0' : decide ((K : Int) < 0) = false := decide_eq_false (by omega)
  have h1' : decide ((l.length : Int) ≤ (K : Int)) = false := decide_eq_false (by omega)
  go_enter Tryz.func59, Tryz.ntmps59
  go_wp2_with fail
  refine (kindsOf_any x va vk z1 z2 _ hat).mono ?_
  rintro e w' ⟨rfl, hb9⟩
  go_wp2_with fail
  go_ret
  exact ⟨ret_int hR.out.symm, hb9⟩
set_option maxHeartbeats 4000000 in
set_option maxRecDepth 100000 in
theorem ref16Kind_any (l : List Nd) (v : Value) (K : Nat) (hkl : K < l.length) (hRP : RightP l) (w : World) (hU : Nodes l v w) :
    Calls Tryz.prog 47 #[v, .int .i64 K] w fun e w' => e = .returned (.int .i64 (kOf l K)) ∧ Below w.heap.size w w' := by
  obtain ⟨a, cap, rfl⟩ := hU.len
  obtain ⟨b, o, cap', va, vk, hv, hb, c0, c1, c2, c3, c4, hat, hks⟩ := hU.at hkl
  cases hv
  have hR := Lib.hid (kOf_at hkl)
  have h1 := (hRP.node K _ (List.getElem?_eq_getElem hkl)).1
  have z1 := one_ats h1
  have z2 := one_vals h1
  generalize l[K] = x at *
  clear h1
  have hK0 : (0 : Int) ≤ (K : Int) := by omega
  have hK1 : (K : Int) < (l.length : Int) := by omega
  go_enter Tryz.func47, Tryz.ntmps47
  go_wp2_with fail
  refine (refOf11_any x va vk (by omega) (fun a ha => Nat.le_trans (z2 a ha) (by omega)) _ hat).mono ?_
  rintro e w' ⟨rfl, hb9⟩
  go_wp2_with fail
  go_ret
  exact ⟨ret_int hR.out.symm, hb9⟩
end Go.Proofs.YtafbghlldlconaaGreat

/-
  A NODE OF AN id: tree.Named: the walk.
-/
namespace Go.Proofs.YtafbghlldlconaaGreat
set_option linter.unusedVariables false
set_option linter.unusedSimpArgs false
open Go.RowKit PT

def idK (l : List Nd) (s : ByteArray) (k : Int) : Bool := decide (atO (atsOf l k) ⟨#[105, 100]⟩ = some s)
def firstF (p : Int → Bool) (t : List Int) : Int := (t.find? p).getD (-1)
theorem firstF_none {p : Int → Bool} {t : List Int} (h : ∀ x ∈ t, p x = false) : firstF p t = -1 := by
  unfold firstF
  rw [List.find?_eq_none.2 (fun x hx => by rw [h x hx]; exact Bool.false_ne_true)]
  rfl
theorem firstF_hit {p : Int → Bool} {t : List Int} {k : Nat} (hk : k < t.length) (hno : ∀ x ∈ t.take k, p x = false) (h : p t[k] = true) : firstF p t = t[k] := by
  unfold firstF
  rw [List.find?_eq_some_iff_getElem.2 ⟨h, k, hk, rfl, fun j hj => by
    have := hno t[j] (by
      rw [List.mem_take_iff_getElem]
      exact ⟨j, by omega, rfl⟩)
    simpa using this⟩]
  rfl
noncomputable def namedF (l : List Nd) (s : ByteArray) : Int := if s.size ≠ 0 ∧ rightB l = true then firstF (idK l s) (ord l 0) else -1
theorem order0_any (l : List Nd) (hRP : RightP l) (v : Value) (w : World) (hz : ∀ x ∈ l, Fits x) (hU : Nodes l v w) :
    Calls Tryz.prog 32 #[v, .int .i64 0] w fun e w' => ∃ g gcap, e = .returned (.slice (some ⟨g, 0, none⟩) (ord l 0).length gcap) ∧ OV w.heap.size 3 (ints (ord l 0)) (.slice (some ⟨g, 0, none⟩) (ord l 0).length gcap) w' ∧ Below w.heap.size w w' := by
  have h := order_any l hRP (l.length + 2) 0 hRP.pos (by omega) v w hz hU
  rw [show ((0 : Nat) : Int) = 0 from rfl] at h
  refine h.mono ?_
  rintro e w' ⟨vo, rfl, hov, hb⟩
  have hil : (ints (ord l 0)).length = (ord l 0).length := by simp [ints]
  have hne : ints (ord l 0) ≠ [] := by rw [ord_eq hRP (by omega) (by have := hRP.pos; omega)]; simp [ints]
  obtain ⟨g, gcap, rfl, _, _⟩ := hov.at hne
  rw [hil] at hov ⊢
  exact ⟨g, gcap, rfl, hov, hb⟩
set_option maxHeartbeats 4000000 in
set_option maxRecDepth 100000 in
theorem named_doc_any (l : List Nd) (v : Value) (s : ByteArray) (hl : l.length ≤ 1000000000000000000) (hz : ∀ x ∈ l, Fits x) (w : World) (hU : Nodes l v w) :
    Calls Tryz.prog 61 #[v, .string s] w fun e w' => e = .returned (.int .i64 (namedF l s)) ∧ Below w.heap.size w w' := by
  obtain ⟨a, cap, rfl⟩ := hU.len
  by_cases hs : s.size = 0
  · have hR := Lib.hid (show namedF l s = -1 from if_neg (fun h => h.1 hs))
    have e1 := emp_yes hs
    have e2 := empt_yes hs
    clear hs
    go_enter Tryz.func61, Tryz.ntmps61
    go_wp2_with fail
    go_ret
    exact ⟨ret_int hR.out.symm, Below.refl _ _⟩
  have e1 := emp_no hs
  have e2 := empt_no hs
  cases hr : rightB l
  · have hR := Lib.hid (show namedF l s = -1 from if_neg (fun h => by rw [hr] at h; exact Bool.false_ne_true h.2))
    have HR := Lib.hid hr
    clear hr hs
    go_enter Tryz.func61, Tryz.ntmps61
    go_wp2_with fail
    refine (right_any l _ hl hz _ hU).mono ?_
    rintro e w' ⟨rfl, hb⟩
    rw [HR.out]
    go_wp2_with fail
    go_ret
    exact ⟨ret_int hR.out.symm, hb⟩
  have hR := Lib.hid (show namedF l s = firstF (idK l s) (ord l 0) from if_pos ⟨hs, hr⟩)
  have HR := Lib.hid hr
  have hRP := (rightB_iff l).1 hr
  have hpos := hRP.pos
  have hmax := hRP.max
  clear hr hs
  go_enter Tryz.func61, Tryz.ntmps61
  go_wp2_with fail
  refine (right_any l _ hl hz _ hU).mono ?_
  rintro e w' ⟨rfl, hbW⟩
  rw [HR.out]
  have hgW := hbW.size
  go_wp2_with fail
  refine (order0_any l hRP _ _ hz (hU.kept hbW)).mono ?_
  rintro e w2 ⟨g, gcap, rfl, hov, hb2⟩
  have hb02 := hbW.trans (hb2.mono hgW)
  have hg02 := hb02.size
  have hol := ord_len hRP (k := 0) (by omega) (by omega)
  go_wp2_with fail
  go_loopw [18] (fun i wr => ∃ k : Nat, k ≤ (ord l 0).length ∧ i = .int .i64 k ∧ Hid (∀ x ∈ (ord l 0).take k, idK l s x = false) ∧ Below w2.heap.size w2 wr) (fun i _ => (ord l 0).length - (intOf i).toNat)
  case atStart => exact ⟨0, Nat.zero_le _, rfl, Lib.hid (by simp), Below.refl _ _⟩
  case round =>
    obtain ⟨k, hk, rfl, hA, hbel⟩ := hrel
    have hb0r := hb02.trans (hbel.mono hg02)
    have hsz := hbel.size
    by_cases hlt : k < (ord l 0).length
    · have hcell := (hov.kept hbel).cell k (.int .i64 (ord l 0)[k]) (by rw [ints, List.getElem?_map, List.getElem?_eq_getElem hlt]; rfl)
      rw [addr_add, Nat.zero_add] at hcell
      obtain ⟨m0, m1, _⟩ := ord_mem hRP (k := 0) (by omega) (by omega) (List.getElem_mem hlt)
      have hT := Lib.hid (fun h => take_mem_snoc (P := fun x => idK l s x = false) hlt hA.out h)
      have hH := Lib.hid (fun h => firstF_hit (p := idK l s) hlt hA.out h)
      have hk0 : (0 : Int) ≤ (k : Int) := by omega
      have hk1 : (k : Int) < ((ord l 0).length : Int) := by omega
      generalize (ord l 0)[k] = c at *
      obtain ⟨q, rfl⟩ := Int.eq_ofNat_of_zero_le m0
      have hq : q < l.length := by omega
      obtain ⟨b, o, cap', va, vk, hv, hb, c0, c1, c2, c3, c4, hat, hks⟩ := (hU.kept hb0r).at hq
      cases hv
      have hae := Lib.hid (atsOf_at hq)
      have hal := one_ats (hRP.node q _ (List.getElem?_eq_getElem hq)).1
      generalize l[q] = x at *
      have hq0 : (0 : Int) ≤ (q : Int) := by omega
      have hq1 : (q : Int) < (l.length : Int) := by omega
      rcases fi_cases x.ats (isN ⟨#[105, 100]⟩) with ⟨h, _⟩ | ⟨j, hj, h, _⟩
      · have hN := Lib.hid (hT.out (by unfold idK; rw [hae.out, atO_none h]; rfl))
        have HF := Lib.hid h
        clear h
        go_wp2_with fail
        refine (find_at x.ats _ ⟨#[105, 100]⟩ (by omega) _ hat).mono ?_
        rintro e w3 ⟨rfl, hb3⟩
        rw [HF.out]
        go_wp2_with fail
        go_roundw
        case rel => exact ⟨k + 1, by omega, by go_num, hN, hbel.trans (hb3.mono hsz)⟩
        case measure => simp [intOf]; omega
      · have hI := Lib.hid (show idK l s (q : Int) = decide (x.ats[j].v = s) by unfold idK; rw [hae.out, atO_some hj h]; simp)
        have HF := Lib.hid h
        clear h
        go_wp2_with fail
        refine (find_at x.ats _ ⟨#[105, 100]⟩ (by omega) _ hat).mono ?_
        rintro e w3 ⟨rfl, hb3⟩
        replace c2 := cellK hb3 hb c2
        obtain ⟨b9, o9, cap9, hv, _, hb9, hc0, hc1⟩ := (hat.kept hb3).at hj
        subst hv
        generalize x.ats[j] = y at *
        have hj0 : (0 : Int) ≤ (j : Int) := by omega
        have hj1 : (j : Int) < (x.ats.length : Int) := by omega
        rw [HF.out]
        by_cases hy : y.v = s
        · have hN := Lib.hid (hH.out (by rw [hI.out]; exact decide_eq_true hy))
          have hq9 := sTrue hy
          clear hy
          go_wp2_with fail
          go_ret
          exact ⟨ret_int (by rw [hR.out, hN.out]), hb0r.trans (hb3.mono (by omega))⟩
        · have hN := Lib.hid (hT.out (by rw [hI.out]; exact decide_eq_false hy))
          have hq9 := sFalse hy
          clear hy
          go_wp2_with fail
          go_roundw
          case rel => exact ⟨k + 1, by omega, by go_num, hN, hbel.trans (hb3.mono hsz)⟩
          case measure => simp [intOf]; omega
    · obtain rfl : k = (ord l 0).length := by omega
      have hN := Lib.hid (show firstF (idK l s) (ord l 0) = -1 from firstF_none (by have := hA.out; rwa [List.take_of_length_le (Nat.le_refl _)] at this))
      go_wp2_with fail
      go_ret
      exact ⟨ret_int (by rw [hR.out, hN.out]), hb0r⟩
end Go.Proofs.YtafbghlldlconaaGreat

/-
  A CONTROL's ⟨#[102, 111, 114, 109]⟩: owner.form, owner.Form: the walks.
-/
namespace Go.Proofs.YtafbghlldlconaaGreat
set_option linter.unusedVariables false
set_option linter.unusedSimpArgs false
open Go.RowKit PT

theorem kindF_range (l : List Nd) (i : Int) : 0 ≤ kindF l i ∧ kindF l i ≤ 35 := by
  unfold kindF kOf
  split
  · split
    · exact kindOf_range _
    · omega
  · omega
noncomputable def formF (l : List Nd) (id : Int) : Int := if listB (kindF l id) = false ∧ kindF l id ≠ 20 then -1 else match attF l id ⟨#[102, 111, 114, 109]⟩ with
  | some s => if topB l id = 0 then (if kindF l (namedF l s) = 30 then namedF l s else -1) else upB l id ⟨#[102, 111, 114, 109]⟩
  | none => upB l id ⟨#[102, 111, 114, 109]⟩
set_option maxHeartbeats 4000000 in
set_option maxRecDepth 100000 in
theorem ownerForm_any (l : List Nd) (v : Value) (id : Int) (hl : l.length ≤ 1000000000000000000) (hz : ∀ x ∈ l, Fits x) (hz2 : ∀ x ∈ l, x.ats.length ≤ 1000000000000000 ∧ ∀ a ∈ x.ats, a.v.size ≤ 140737488351232) (w : World) (hU : Nodes l v w) :
    Calls Tryz.prog 35 #[v, .int .i64 id] w fun e w' => e = .returned (.int .i64 (formF l id)) ∧ Below w.heap.size w w' := by
  obtain ⟨a, cap, rfl⟩ := hU.len
  obtain ⟨k0, k1⟩ := kindF_range l id
  have hF := show formF l id = if listB (kindF l id) = false ∧ kindF l id ≠ 20 then -1 else match attF l id ⟨#[102, 111, 114, 109]⟩ with
    | some s => if topB l id = 0 then (if kindF l (namedF l s) = 30 then namedF l s else -1) else upB l id ⟨#[102, 111, 114, 109]⟩
    | none => upB l id ⟨#[102, 111, 114, 109]⟩ from rfl
  obtain ⟨kk, hkk⟩ : ∃ kk, kindF l id = kk := ⟨_, rfl⟩
  rw [hkk] at k0 k1 hF
  have HKI := Lib.hid hkk
  have hF := Lib.hid hF
  clear hkk
  cases hL : listB kk
  · by_cases h20 : kk = 20
    case neg =>
      have hR := Lib.hid (hF.out.trans (if_pos ⟨hL, h20⟩))
      have HL := Lib.hid hL
      have q1 : (kk == 20) = false := intNe h20
      have q2 : (kk != 20) = true := by rw [bne, q1]; rfl
      clear hL h20
      go_enter Tryz.func35, Tryz.ntmps35
      go_wp2_with fail
      refine (ownerKind_any l _ id hl hz2 _ hU).mono ?_
      rintro e w1 ⟨rfl, hb1⟩
      rw [HKI.out]
      go_wp2_with fail
      refine (kindsListed_any kk k0 k1 _).mono ?_
      rintro e w2 ⟨rfl, rfl⟩
      rw [HL.out]
      go_wp2_with fail
      go_ret
      exact ⟨ret_int hR.out.symm, hb1⟩
    have hC := Lib.hid (hF.out.trans (if_neg (fun h => h.2 h20)))
    have HL := Lib.hid hL
    clear hL
    subst h20
    go_enter Tryz.func35, Tryz.ntmps35
    go_wp2_with fail
    refine (ownerKind_any l _ id hl hz2 _ hU).mono ?_
    rintro e w1 ⟨rfl, hb1⟩
    rw [HKI.out]
    go_wp2_with fail
    refine (kindsListed_any 20 k0 k1 _).mono ?_
    rintro e w2 ⟨rfl, rfl⟩
    rw [HL.out]
    cases ha : attF l id ⟨#[102, 111, 114, 109]⟩ with
    | none =>
      have hR := Lib.hid (show formF l id = upB l id ⟨#[102, 111, 114, 109]⟩ by rw [hC.out, ha])
      have HA := Lib.hid ha
      clear ha
      go_wp2_with fail
      refine (attr_any l _ id ⟨#[102, 111, 114, 109]⟩ hl hz _ (hU.kept hb1)).mono ?_
      rintro e w3 ⟨rfl, hb3⟩
      rw [HA.out]
      have hb13 := hb1.trans (hb3.mono hb1.size)
      unfold atT
      go_wp2_with fail
      refine (up_any l _ id ⟨#[102, 111, 114, 109]⟩ hl hz _ (hU.kept hb13)).mono ?_
      rintro e w9 ⟨rfl, hb9⟩
      go_wp2_with fail
      go_ret
      exact ⟨ret_int hR.out.symm, hb13.trans (hb9.mono hb13.size)⟩
    | some s =>
      have HA := Lib.hid ha
      by_cases ht : topB l id = 0
      · by_cases hf : kindF l (namedF l s) = 30
        · have hR := Lib.hid (show formF l id = namedF l s by rw [hC.out, ha]; show (if topB l id = 0 then (if kindF l (namedF l s) = 30 then namedF l s else -1) else upB l id ⟨#[102, 111, 114, 109]⟩) = namedF l s; rw [if_pos ht, if_pos hf])
          have HT := Lib.hid ht
          have HK := Lib.hid hf
          clear ha ht hf
          go_wp2_with fail
          refine (attr_any l _ id ⟨#[102, 111, 114, 109]⟩ hl hz _ (hU.kept hb1)).mono ?_
          rintro e w3 ⟨rfl, hb3⟩
          rw [HA.out]
          have hb13 := hb1.trans (hb3.mono hb1.size)
          unfold atT
          go_wp2_with fail
          refine (top_any l _ id hl hz _ (hU.kept hb13)).mono ?_
          rintro e w4 ⟨rfl, hb4⟩
          rw [HT.out]
          have hb14 := hb13.trans (hb4.mono hb13.size)
          go_wp2_with fail
          refine (named_doc_any l _ s hl hz _ (hU.kept hb14)).mono ?_
          rintro e w5 ⟨rfl, hb5⟩
          have hb15 := hb14.trans (hb5.mono hb14.size)
          go_wp2_with fail
          refine (ownerKind_any l _ _ hl hz2 _ (hU.kept hb15)).mono ?_
          rintro e w6 ⟨rfl, hb6⟩
          rw [HK.out]
          go_wp2_with fail
          go_ret
          exact ⟨ret_int hR.out.symm, hb15.trans (hb6.mono hb15.size)⟩
        · have hR := Lib.hid (show formF l id = -1 by rw [hC.out, ha]; show (if topB l id = 0 then (if kindF l (namedF l s) = 30 then namedF l s else -1) else upB l id ⟨#[102, 111, 114, 109]⟩) = -1; rw [if_pos ht, if_neg hf])
          have HT := Lib.hid ht
          have hf1 : (kindF l (namedF l s) == 30) = false := intNe hf
          have hf2 : (kindF l (namedF l s) != 30) = true := by rw [bne, hf1]; rfl
          clear ha ht hf
          go_wp2_with fail
          refine (attr_any l _ id ⟨#[102, 111, 114, 109]⟩ hl hz _ (hU.kept hb1)).mono ?_
          rintro e w3 ⟨rfl, hb3⟩
          rw [HA.out]
          have hb13 := hb1.trans (hb3.mono hb1.size)
          unfold atT
          go_wp2_with fail
          refine (top_any l _ id hl hz _ (hU.kept hb13)).mono ?_
          rintro e w4 ⟨rfl, hb4⟩
          rw [HT.out]
          have hb14 := hb13.trans (hb4.mono hb13.size)
          go_wp2_with fail
          refine (named_doc_any l _ s hl hz _ (hU.kept hb14)).mono ?_
          rintro e w5 ⟨rfl, hb5⟩
          have hb15 := hb14.trans (hb5.mono hb14.size)
          go_wp2_with fail
          refine (ownerKind_any l _ _ hl hz2 _ (hU.kept hb15)).mono ?_
          rintro e w6 ⟨rfl, hb6⟩
          go_wp2_with fail
          go_ret
          exact ⟨ret_int hR.out.symm, hb15.trans (hb6.mono hb15.size)⟩
      · have hR := Lib.hid (show formF l id = upB l id ⟨#[102, 111, 114, 109]⟩ by rw [hC.out, ha]; show (if topB l id = 0 then (if kindF l (namedF l s) = 30 then namedF l s else -1) else upB l id ⟨#[102, 111, 114, 109]⟩) = upB l id ⟨#[102, 111, 114, 109]⟩; rw [if_neg ht])
        have ht1 : (topB l id == 0) = false := intNe ht
        clear ha ht
        go_wp2_with fail
        refine (attr_any l _ id ⟨#[102, 111, 114, 109]⟩ hl hz _ (hU.kept hb1)).mono ?_
        rintro e w3 ⟨rfl, hb3⟩
        rw [HA.out]
        have hb13 := hb1.trans (hb3.mono hb1.size)
        unfold atT
        go_wp2_with fail
        refine (top_any l _ id hl hz _ (hU.kept hb13)).mono ?_
        rintro e w4 ⟨rfl, hb4⟩
        have hb14 := hb13.trans (hb4.mono hb13.size)
        go_wp2_with fail
        refine (up_any l _ id ⟨#[102, 111, 114, 109]⟩ hl hz _ (hU.kept hb14)).mono ?_
        rintro e w9 ⟨rfl, hb9⟩
        go_wp2_with fail
        go_ret
        exact ⟨ret_int hR.out.symm, hb14.trans (hb9.mono hb14.size)⟩
  · have hC := Lib.hid (hF.out.trans (if_neg (fun h => by rw [hL] at h; cases h.1)))
    have HL := Lib.hid hL
    clear hL
    go_enter Tryz.func35, Tryz.ntmps35
    go_wp2_with fail
    refine (ownerKind_any l _ id hl hz2 _ hU).mono ?_
    rintro e w1 ⟨rfl, hb1⟩
    rw [HKI.out]
    go_wp2_with fail
    refine (kindsListed_any kk k0 k1 _).mono ?_
    rintro e w2 ⟨rfl, rfl⟩
    rw [HL.out]
    cases ha : attF l id ⟨#[102, 111, 114, 109]⟩ with
    | none =>
      have hR := Lib.hid (show formF l id = upB l id ⟨#[102, 111, 114, 109]⟩ by rw [hC.out, ha])
      have HA := Lib.hid ha
      clear ha
      go_wp2_with fail
      refine (attr_any l _ id ⟨#[102, 111, 114, 109]⟩ hl hz _ (hU.kept hb1)).mono ?_
      rintro e w3 ⟨rfl, hb3⟩
      rw [HA.out]
      have hb13 := hb1.trans (hb3.mono hb1.size)
      unfold atT
      go_wp2_with fail
      refine (up_any l _ id ⟨#[102, 111, 114, 109]⟩ hl hz _ (hU.kept hb13)).mono ?_
      rintro e w9 ⟨rfl, hb9⟩
      go_wp2_with fail
      go_ret
      exact ⟨ret_int hR.out.symm, hb13.trans (hb9.mono hb13.size)⟩
    | some s =>
      have HA := Lib.hid ha
      by_cases ht : topB l id = 0
      · by_cases hf : kindF l (namedF l s) = 30
        · have hR := Lib.hid (show formF l id = namedF l s by rw [hC.out, ha]; show (if topB l id = 0 then (if kindF l (namedF l s) = 30 then namedF l s else -1) else upB l id ⟨#[102, 111, 114, 109]⟩) = namedF l s; rw [if_pos ht, if_pos hf])
          have HT := Lib.hid ht
          have HK := Lib.hid hf
          clear ha ht hf
          go_wp2_with fail
          refine (attr_any l _ id ⟨#[102, 111, 114, 109]⟩ hl hz _ (hU.kept hb1)).mono ?_
          rintro e w3 ⟨rfl, hb3⟩
          rw [HA.out]
          have hb13 := hb1.trans (hb3.mono hb1.size)
          unfold atT
          go_wp2_with fail
          refine (top_any l _ id hl hz _ (hU.kept hb13)).mono ?_
          rintro e w4 ⟨rfl, hb4⟩
          rw [HT.out]
          have hb14 := hb13.trans (hb4.mono hb13.size)
          go_wp2_with fail
          refine (named_doc_any l _ s hl hz _ (hU.kept hb14)).mono ?_
          rintro e w5 ⟨rfl, hb5⟩
          have hb15 := hb14.trans (hb5.mono hb14.size)
          go_wp2_with fail
          refine (ownerKind_any l _ _ hl hz2 _ (hU.kept hb15)).mono ?_
          rintro e w6 ⟨rfl, hb6⟩
          rw [HK.out]
          go_wp2_with fail
          go_ret
          exact ⟨ret_int hR.out.symm, hb15.trans (hb6.mono hb15.size)⟩
        · have hR := Lib.hid (show formF l id = -1 by rw [hC.out, ha]; show (if topB l id = 0 then (if kindF l (namedF l s) = 30 then namedF l s else -1) else upB l id ⟨#[102, 111, 114, 109]⟩) = -1; rw [if_pos ht, if_neg hf])
          have HT := Lib.hid ht
          have hf1 : (kindF l (namedF l s) == 30) = false := intNe hf
          have hf2 : (kindF l (namedF l s) != 30) = true := by rw [bne, hf1]; rfl
          clear ha ht hf
          go_wp2_with fail
          refine (attr_any l _ id ⟨#[102, 111, 114, 109]⟩ hl hz _ (hU.kept hb1)).mono ?_
          rintro e w3 ⟨rfl, hb3⟩
          rw [HA.out]
          have hb13 := hb1.trans (hb3.mono hb1.size)
          unfold atT
          go_wp2_with fail
          refine (top_any l _ id hl hz _ (hU.kept hb13)).mono ?_
          rintro e w4 ⟨rfl, hb4⟩
          rw [HT.out]
          have hb14 := hb13.trans (hb4.mono hb13.size)
          go_wp2_with fail
          refine (named_doc_any l _ s hl hz _ (hU.kept hb14)).mono ?_
          rintro e w5 ⟨rfl, hb5⟩
          have hb15 := hb14.trans (hb5.mono hb14.size)
          go_wp2_with fail
          refine (ownerKind_any l _ _ hl hz2 _ (hU.kept hb15)).mono ?_
          rintro e w6 ⟨rfl, hb6⟩
          go_wp2_with fail
          go_ret
          exact ⟨ret_int hR.out.symm, hb15.trans (hb6.mono hb15.size)⟩
      · have hR := Lib.hid (show formF l id = upB l id ⟨#[102, 111, 114, 109]⟩ by rw [hC.out, ha]; show (if topB l id = 0 then (if kindF l (namedF l s) = 30 then namedF l s else -1) else upB l id ⟨#[102, 111, 114, 109]⟩) = upB l id ⟨#[102, 111, 114, 109]⟩; rw [if_neg ht])
        have ht1 : (topB l id == 0) = false := intNe ht
        clear ha ht
        go_wp2_with fail
        refine (attr_any l _ id ⟨#[102, 111, 114, 109]⟩ hl hz _ (hU.kept hb1)).mono ?_
        rintro e w3 ⟨rfl, hb3⟩
        rw [HA.out]
        have hb13 := hb1.trans (hb3.mono hb1.size)
        unfold atT
        go_wp2_with fail
        refine (top_any l _ id hl hz _ (hU.kept hb13)).mono ?_
        rintro e w4 ⟨rfl, hb4⟩
        have hb14 := hb13.trans (hb4.mono hb13.size)
        go_wp2_with fail
        refine (up_any l _ id ⟨#[102, 111, 114, 109]⟩ hl hz _ (hU.kept hb14)).mono ?_
        rintro e w9 ⟨rfl, hb9⟩
        go_wp2_with fail
        go_ret
        exact ⟨ret_int hR.out.symm, hb14.trans (hb9.mono hb14.size)⟩
theorem RightP.vals {l : List Nd} (h : RightP l) : ∀ x ∈ l, x.ats.length ≤ 1000000000000000 ∧ ∀ a ∈ x.ats, a.v.size ≤ 140737488351232 := fun x hx => by
  obtain ⟨i, hi, rfl⟩ := List.getElem_of_mem hx
  have h1 := (h.node i _ (List.getElem?_eq_getElem hi)).1
  exact ⟨Nat.le_trans (one_ats h1) (by omega), fun a ha => Nat.le_trans (one_vals h1 a ha) (by omega)⟩
noncomputable def FormF (l : List Nd) (id : Int) : Int := if rightB l = true then formF l id else -1
set_option maxHeartbeats 4000000 in
set_option maxRecDepth 100000 in
theorem ownerFormTop_any (l : List Nd) (v : Value) (id : Int) (hl : l.length ≤ 1000000000000000000) (hz : ∀ x ∈ l, Fits x) (w : World) (hU : Nodes l v w) :
    Calls Tryz.prog 14 #[v, .int .i64 id] w fun e w' => e = .returned (.int .i64 (FormF l id)) ∧ Below w.heap.size w w' := by
  obtain ⟨a, cap, rfl⟩ := hU.len
  cases hr : rightB l
  · have hR := Lib.hid (show FormF l id = -1 from if_neg (fun h => by rw [hr] at h; cases h))
    have HR := Lib.hid hr
    clear hr
    go_enter Tryz.func14, Tryz.ntmps14
    go_wp2_with fail
    refine (right_any l _ hl hz _ hU).mono ?_
    rintro e w' ⟨rfl, hb⟩
    rw [HR.out]
    go_wp2_with fail
    go_ret
    exact ⟨ret_int hR.out.symm, hb⟩
  have hR := Lib.hid (show FormF l id = formF l id from if_pos hr)
  have HR := Lib.hid hr
  have hRP := (rightB_iff l).1 hr
  clear hr
  go_enter Tryz.func14, Tryz.ntmps14
  go_wp2_with fail
  refine (right_any l _ hl hz _ hU).mono ?_
  rintro e w' ⟨rfl, hb⟩
  rw [HR.out]
  go_wp2_with fail
  refine (ownerForm_any l _ id hl hz hRP.vals _ (hU.kept hb)).mono ?_
  rintro e w2 ⟨rfl, hb2⟩
  go_wp2_with fail
  go_ret
  exact ⟨ret_int hR.out.symm, hb.trans (hb2.mono hb.size)⟩
noncomputable def isF (l : List Nd) (id k : Int) : Bool := hasB l id && decide (kOf l id = k)
set_option maxHeartbeats 4000000 in
set_option maxRecDepth 100000 in
theorem refIs15_any (l : List Nd) (v : Value) (id k : Int) (hl : l.length ≤ 1000000000000000000) (hz : ∀ x ∈ l, Fits x) (w : World) (hU : Nodes l v w) :
    Calls Tryz.prog 77 #[v, .int .i64 id, .int .i64 k] w fun e w' => e = .returned (.bool (isF l id k)) ∧ Below w.heap.size w w' := by
  obtain ⟨a, cap, rfl⟩ := hU.len
  cases hh : hasB l id
  · have HH := Lib.hid hh
    have hR := Lib.hid (show isF l id k = false by unfold isF; rw [hh]; rfl)
    clear hh
    go_enter Tryz.func77, Tryz.ntmps77
    go_wp2_with fail
    refine (refHas10_any l _ id hl hz _ hU).mono ?_
    rintro e w' ⟨rfl, hb⟩
    rw [HH.out]
    go_wp2_with fail
    go_ret
    exact ⟨ret_bool hR.out.symm, hb⟩
  have HH := Lib.hid hh
  have hR0 := Lib.hid (show isF l id k = decide (kOf l id = k) by unfold isF; rw [hh]; rfl)
  obtain ⟨h0, h1, hRP⟩ := (hasB_iff l id).1 hh
  obtain ⟨K, rfl⟩ := Int.eq_ofNat_of_zero_le h0
  have hkl : K < l.length := by omega
  clear hh
  go_enter Tryz.func77, Tryz.ntmps77
  go_wp2_with fail
  refine (refHas10_any l _ _ hl hz _ hU).mono ?_
  rintro e w' ⟨rfl, hbW⟩
  rw [HH.out]
  have hgW := hbW.size
  obtain ⟨b, o, cap', va, vk, hv, hb, c0, c1, c2, c3, c4, hat, hks⟩ := (hU.kept hbW).at hkl
  cases hv
  have hke := Lib.hid (kOf_at hkl)
  have hz1 := (hRP.node K _ (List.getElem?_eq_getElem hkl)).1
  have z1 := one_ats hz1
  have z2 := one_vals hz1
  generalize l[K] = x at *
  clear hz1
  have hK0 : (0 : Int) ≤ (K : Int) := by omega
  have hK1 : (K : Int) < (l.length : Int) := by omega
  by_cases hk : kindOf x = k
  · have hR := Lib.hid (show isF l (K : Nat) k = true by rw [hR0.out, hke.out]; exact decide_eq_true hk)
    have HK := Lib.hid hk
    clear hk
    go_wp2_with fail
    refine (refOf11_any x va vk (by omega) (fun a ha => Nat.le_trans (z2 a ha) (by omega)) _ hat).mono ?_
    rintro e w2 ⟨rfl, hb9⟩
    rw [HK.out]
    go_wp2_with fail
    go_ret
    exact ⟨ret_bool hR.out.symm, hbW.trans (hb9.mono hgW)⟩
  · have hR := Lib.hid (show isF l (K : Nat) k = false by rw [hR0.out, hke.out]; exact decide_eq_false hk)
    have q := intNe hk
    clear hk
    go_wp2_with fail
    refine (refOf11_any x va vk (by omega) (fun a ha => Nat.le_trans (z2 a ha) (by omega)) _ hat).mono ?_
    rintro e w2 ⟨rfl, hb9⟩
    go_wp2_with fail
    go_ret
    exact ⟨ret_bool hR.out.symm, hbW.trans (hb9.mono hgW)⟩
end Go.Proofs.YtafbghlldlconaaGreat

/-
  A ROW OF ONE'S OWN, SHORTENED BY ITS LAST: s = s[:len(s)-1].
-/
namespace Go.Proofs.YtafbghlldlconaaGreat
set_option linter.unusedVariables false
set_option linter.unusedSimpArgs false
open Go.RowKit

theorem OV.pop {base : Nat} {T : TypeId} {xs : List Value} {u : Value} {g n cap : Nat} {w : World} (h : OV base T (xs ++ [u]) (.slice (some ⟨g, 0, none⟩) n cap) w) : OV base T xs (.slice (some ⟨g, 0, none⟩) xs.length cap) w := by
  obtain ⟨_, ⟨hv, _⟩ | ⟨g', cap', cur, hv, h2, h3, h4, h5, h6, h7⟩⟩ := h
  · cases hv
  · cases hv
    refine ⟨by omega, .inr ⟨g, cap, cur, rfl, h2, h3, ?_, h5, h6, ?_⟩⟩
    · rw [List.length_append] at h4; omega
    · have h8 := congrArg (List.take (xs.length * 1)) h7
      rw [List.take_take, List.length_append] at h8
      rw [show min (xs.length * 1) ((xs.length + [u].length) * 1) = xs.length * 1 by omega] at h8
      rw [h8, Nat.mul_one, List.take_left]
end Go.Proofs.YtafbghlldlconaaGreat

/-
  TWO ROWS OF ONE'S OWN AT ONCE: an append to one leaves the other, and they stay apart.
-/
namespace Go.Proofs.YtafbghlldlconaaGreat
set_option linter.unusedVariables false
set_option linter.unusedSimpArgs false
open Go.RowKit

/-- v1 and v2 are own rows that hold l1, l2; no block is of both -/
structure Two (base : Nat) (T : TypeId) (l1 : List Value) (v1 : Value) (l2 : List Value) (v2 : Value) (w : World) : Prop where
  a : OV base T l1 v1 w
  b : OV base T l2 v2 w
  ne : ∀ k, v1.ownBlock = some k → v2.ownBlock ≠ some k
theorem Two.symm {base : Nat} {T : TypeId} {l1 l2 : List Value} {v1 v2 : Value} {w : World} (h : Two base T l1 v1 l2 v2 w) : Two base T l2 v2 l1 v1 w :=
  ⟨h.b, h.a, fun k h1 h2 => h.ne k h2 h1⟩
theorem Two.kept {base : Nat} {T : TypeId} {l1 l2 : List Value} {v1 v2 : Value} {w w' : World} (h : Two base T l1 v1 l2 v2 w) (hb : Below w.heap.size w w') : Two base T l1 v1 l2 v2 w' :=
  ⟨h.a.kept hb, h.b.kept hb, h.ne⟩
/-- where an append's row lies: in the old block, or at the heap's end -/
theorem append_where {w : World} {base : Nat} {t ty e : TypeId} {i : TypeInfo} {z : Value} {bytes : Nat} (ht : Tryz.prog.underlying t = some (.slice e)) (hi : Tryz.prog.info? e = some i) (hz : i.zero = some z)
    (hsize : i.size = 1) (hby : i.bytes = bytes) {v : Value} {n : Nat} {xs : List Value} (hown : w.ownsRow base e 1 v n xs)
    {a : Addr} {c : Nat} {u : Value} (hnews : ∀ j x, [u][j]? = some x → w.cell? (a.add j) = some x) (h1 : u.oneCell' = true)
    (h63 : n + 1 ≤ maxLen) (hbytes : (n + 1) * bytes ≤ 140737488355328) {v' : Value} {w' : World}
    (hr : (Builtin.append_ #[t, t] ty #[v, .slice (some a) 1 c]).run Tryz.prog w = .ok v' w') : v'.ownBlock = v.ownBlock ∨ v'.ownBlock = some w.heap.size := by
  subst hby
  have hsmall : n + 1 ≤ 9223372036854775807 := by simp only [maxLen] at h63; omega
  rcases hown.2 with ⟨rfl, rfl⟩ | ⟨g, cap, cur, rfl, hbg, hg, hnc, hcm, hcs, htake⟩
  · have hq := run_append_nil (P := Tryz.prog) w t ty e i z ht hi hz a 1 c [u] (by rw [hsize]; rfl) hnews (by omega) (by omega) (by have hb := hbytes; simp only [Nat.zero_add] at hb; omega)
    rw [hr] at hq
    injection hq with hv hw
    right; rw [hv]; rfl
  · by_cases hroom : n + 1 ≤ cap
    · have hq := run_append_room (P := Tryz.prog) w t ty e i ht hi g n cap cur hg a 1 c [u] (by rw [hsize]; rfl) hnews (fun x hx => by rw [List.mem_singleton.1 hx]; exact h1) hroom (by rw [hsize, hcs]; simp; omega)
      rw [hr] at hq
      injection hq with hv hw
      left; rw [hv]; rfl
    · have holds : ∀ j x, xs[j]? = some x → w.cell? ((⟨g, 0, none⟩ : Addr).add j) = some x := hown.cells (g := g) rfl
      have hq := run_append_grow (P := Tryz.prog) w t ty e i z ht hi hz ⟨g, 0, none⟩ n cap xs (by rw [hsize]; exact hown.1) holds a 1 c [u] (by rw [hsize]; rfl) hnews (by omega) (by omega) (growslice_fits (by omega) hbytes)
      rw [hr] at hq
      injection hq with hv hw
      right; rw [hv]; rfl
/-- 'out = append(out, u)' beside another own row -/
theorem wpList_append_cell2 {W : World} {ops : Array Oper} {rest : List Oper} {o : Oper} {a : Act} {Q : Exit → Act → World → Prop} (hgd : o.guard = none) (s x : Operand) (S T : TypeId) {z : Value} {bytes : Nat}
    (ho : o.op = .call { callee := .builtin .append, args := #[s, x], argTypes := #[S, S] }) (hS : Tryz.prog.underlying S = some (.slice T))
    (hinfo : (Tryz.prog.info? T).map (fun i => (i.zero, i.size, i.bytes)) = some (some z, 1, bytes)) (hz : z.cells.size = 1) (hby : bytes ≤ 4096)
    {base : Nat} {l l2 : List Value} {v v2 : Value} (hs : a.eval s = v) (hx : a.eval x = .slice (some ⟨W.heap.size, 0, none⟩) 1 1) (u : Value) (hu : u.oneCell' = true)
    (hown : Two base T l v l2 v2 W) (hlen : l.length < 17179869184) (hbase : base ≤ W.heap.size)
    (h : ∀ v' w', Two base T (l ++ [u]) v' l2 v2 w' → Below base W w' → wpList Tryz.prog ops Q rest (a.put o.dst v') w') : wpList Tryz.prog ops Q (o :: rest) a (W.alloc (.cells #[u] T)) := by
  obtain ⟨i0, hi, hz0, hz1, hz2⟩ := info_parts hinfo
  have h1 := World.ownsRow.alloc hown.a (.cells #[u] T)
  have h2 := World.ownsRow.alloc hown.b (.cells #[u] T)
  have hb9 : (l.length + 1) * bytes ≤ (l.length + 1) * 4096 := Nat.mul_le_mul_left _ hby
  have hcell : ∀ j y, [u][j]? = some y → (W.alloc (.cells #[u] T)).cell? ((⟨W.heap.size, 0, none⟩ : Addr).add j) = some y := by
    intro j y hj
    match j, hj with
    | 0, hj => simp at hj; subst hj; simp [addr_add]
  have hml : l.length + 1 ≤ maxLen := by unfold maxLen; omega
  obtain ⟨v', w', hr, h3, h4, _⟩ := run_append_own (P := Tryz.prog) (W.alloc (.cells #[u] T)) base S o.type T i0 z 1 bytes hS hi hz0 hz1 hz2 hz (by decide) v l.length l h1 ⟨W.heap.size, 0, none⟩ 1 1 [u] rfl hcell (fun y hy => by rw [List.mem_singleton.1 hy]; exact hu) hml (by omega) (by simp; omega)
  have hwhere := append_where hS hi hz0 hz1 hz2 h1 hcell hu hml (by omega) hr
  refine wpList_plain hgd fun K hK => ?_
  have hT : Two base T (l ++ [u]) v' l2 v2 w' := by
    refine ⟨by unfold OV; rw [List.length_append]; exact h3, World.ownsRow.kept h2 h4 ?_, fun k hk hk2 => ?_⟩
    · cases hv2 : v2.ownBlock with
      | none => exact .inl rfl
      | some k => exact .inr (fun e => hown.ne k e.symm hv2)
    · rcases hwhere with e | e
      · exact hown.ne k (by rw [← e]; exact hk) hk2
      · rw [e] at hk
        have := (World.ownsRow.lt hown.b k hk2).2
        cases hk
        simp at this
        omega
  have hBW : Below base W w' := ((Below.refl base W).alloc hbase _).trans (ov_below h1 h4 (by simp; omega))
  unfold Oper.wp execOp
  simp only [ho, resolve, invoke, builtin, Sem.run_bind, Sem.run_pure, Result.andThen_ok, List.map_toArray, List.map_cons, List.map_nil, hs, hx, hr]
  exact hK _ _ (h v' w' hT hBW)
end Go.Proofs.YtafbghlldlconaaGreat
