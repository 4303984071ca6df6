/-
  THE KIND OF A NODE by the document: ref11.Of: the walk.
-/
import Derived.Test.YtenicjebccdekaaKindOf2
namespace Go.Proofs.Ytenicjebccdekaa
set_option linter.unusedVariables false
set_option linter.unusedSimpArgs false
open Go.RowKit PT

set_option maxHeartbeats 4000000 in
set_option maxRecDepth 100000 in
theorem refOf11_any (x : Nd) (va vk : Value) (hl : x.ats.length ≤ 1000000000000000) (hA : ∀ a ∈ x.ats, a.v.size ≤ 65536) (w : World) (hU : Atts x.ats va w) :
    Calls Try.prog 27 #[NdV x va vk] w fun e w' => e = .returned (.int .i64 (kindOf x)) ∧ Below w.heap.size w w' := by
  have hty0 : tyOf x = ⟨(low ((atO x.ats ⟨#[116, 121, 112, 101]⟩).getD ⟨#[]⟩).data.toList).toArray⟩ := rfl
  have HTY := Lib.hid hty0
  clear hty0
  have hb0 := (Below.refl w.heap.size w).alloc (Nat.le_refl _) (.cells #[.string x.nm, .string x.tx, va, .int .i64 x.pa, vk] 35)
  have hn0 := Go.heap_alloc_new w (.cells #[.string x.nm, .string x.tx, va, .int .i64 x.pa, vk] 35)
  have hU0 := hU.kept hb0
  obtain ⟨a, cap, rfl⟩ := hU.len
  have hN : NdV x (.slice a x.ats.length cap) vk = .agg #[.string x.nm, .string x.tx, .slice a x.ats.length cap, .int .i64 x.pa, vk] := rfl
  rw [hN]
  clear hN
  go_enter Try.func27, Try.ntmps27
  go_upto_region 1 with fail
  generalize World.alloc _ _ = W0 at hb0 hn0 hU0 ⊢
  obtain ⟨x0, x1, x2, x3, x4, f0, f1, f2, f3, f4⟩ := five_of hn0
  go_wp2_with fail
  refine (refFind10_any x.ats _ ⟨#[116, 121, 112, 101]⟩ hl _ hU0).mono ?_
  rintro e w' ⟨rfl, rfl⟩
  obtain ⟨ty, hty⟩ : ∃ ty, tyOf x = ty := ⟨_, rfl⟩
  have HK := Lib.hid hty
  clear hty
  have hfc := fi_cases x.ats (isN ⟨#[116, 121, 112, 101]⟩)
  generalize hfi : fi x.ats (isN ⟨#[116, 121, 112, 101]⟩) = z at hfc ⊢
  have HZ := Lib.hid hfi
  have HC := Lib.hid hfc
  clear hfi hfc
  go_upto_if 10 with (fail)
  go_cut [4] (fun s4 wx => s4 = .string ty ∧ Below w.heap.size w wx ∧ wx.heap[w.heap.size]? = some (.cells #[.string x.nm, .string x.tx, .slice a x.ats.length cap, .int .i64 x.pa, vk] 35 (0, 0)))
  case first =>
    rcases HC.out with ⟨h, _⟩ | ⟨kk, hkk, h, _⟩
    · subst h
      have hte := Lib.hid (show (⟨#[]⟩ : ByteArray) = ty by rw [← HK.out, HTY.out, atO_none HZ.out]; rfl)
      clear HC
      go_wp2_with fail
      go_meet
      exact ⟨by rw [hte.out], hb0, hn0⟩
    · subst h
      have hsz := hA _ (List.getElem_mem hkk)
      have hte := Lib.hid (show (⟨(low x.ats[kk].v.data.toList).toArray⟩ : ByteArray) = ty by rw [← HK.out, HTY.out, atO_some hkk HZ.out]; rfl)
      obtain ⟨b, o, cap', hv, _, hb, hc0, hc1⟩ := hU0.at hkk
      cases hv
      generalize x.ats[kk] = y at *
      have hk0 : (0 : Int) ≤ (kk : Int) := by omega
      have hk1 : (kk : Int) < (x.ats.length : Int) := by omega
      clear HC
      go_wp2_with fail
      refine (refLower_any y.v _ hsz).mono ?_
      rintro e w2 ⟨rfl, hb2⟩
      rw [hte.out]
      have hn2 := blk_kept hb2 hn0
      go_wp2_with fail
      go_meet
      exact ⟨rfl, bs hb0 hb2, hn2⟩
  case rest =>
    obtain ⟨rfl, hbb, hn9⟩ := hcut
    clear x0 x1 x2 x3 x4 f0 f1 f2 f3 f4 hn0 hU0 hb0 HC HZ HTY
    obtain ⟨x0, x1, x2, x3, x4, f0, f1, f2, f3, f4⟩ := five_of hn9
    by_cases n1 : (⟨#[105, 110, 112, 117, 116]⟩ : ByteArray) = x.nm
    · have hK := Lib.hid (show kindOf x = tyK ty by rw [kind_input n1, HK.out])
      have p1 : (x.nm.toList == [105, 110, 112, 117, 116]) = true := ql_yes n1
      clear n1
      go_wp2_with fail
      go_loop [5] (fun i => ∃ k : Nat, k ≤ 22 ∧ i = .int .i64 ((k + 1 : Nat) : Int) ∧ Hid (∀ j, j < k → tyL[j]? ≠ some ty)) (fun i => 23 - (intOf i).toNat)
      case atStart => exact ⟨0, Nat.zero_le _, rfl, Lib.hid (fun j hj => by omega)⟩
      case round =>
        obtain ⟨k, hk, rfl, hno⟩ := hrel
        by_cases hlt : k < 22
        · have hlt' : (k : Int) + 1 ≤ 22 := by omega
          go_wp2_with fail
          refine (refType11_any _ (by omega) (by omega) _).mono ?_
          rintro e w' ⟨⟨s, rfl, hs0⟩, rfl⟩
          have hgd := Lib.hid (show tyL[k]? = some s by rw [← hs0]; congr 1; omega)
          clear hs0
          by_cases hs : s = ty
          · have hR := Lib.hid (hK.out.trans (tyK_hit hlt hno.out (by rw [hgd.out, hs])))
            have hq := sTrue hs
            clear hs
            go_wp2_with fail
            go_ret
            exact ⟨ret_int hR.out.symm, hbb⟩
          · have hN := Lib.hid (show ∀ j, j < k + 1 → tyL[j]? ≠ some ty from fun j hj => by
              by_cases e : j = k
              · rw [e, hgd.out]; exact fun e2 => hs (Option.some.inj e2)
              · exact hno.out j (by omega))
            have hq := sFalse hs
            clear hs
            go_wp2_with fail
            go_round
            case rel => exact ⟨k + 1, by omega, by go_num, hN⟩
            case measure => simp [intOf]; omega
        · obtain rfl : k = 22 := by omega
          have hR := Lib.hid (hK.out.trans (tyK_none hno.out))
          go_wp2_with fail
          go_ret
          exact ⟨ret_int hR.out.symm, hbb⟩
    · have p1 : (x.nm.toList == [105, 110, 112, 117, 116]) = false := ql_no n1
      by_cases n2 : (⟨#[98, 117, 116, 116, 111, 110]⟩ : ByteArray) = x.nm
      · have hK := Lib.hid (show kindOf x = btK ty by rw [kind_button n1 n2, HK.out])
        have p2 : (x.nm.toList == [98, 117, 116, 116, 111, 110]) = true := ql_yes n2
        clear n1 n2
        by_cases r1 : (⟨#[114, 101, 115, 101, 116]⟩ : ByteArray) = ty
        · have hR := Lib.hid (hK.out.trans (btK_reset r1))
          have q1 : (ty.toList == [114, 101, 115, 101, 116]) = true := ql_yes r1
          clear r1
          go_wp2_with fail
          go_ret
          exact ⟨ret_int hR.out.symm, hbb⟩
        · have q1 : (ty.toList == [114, 101, 115, 101, 116]) = false := ql_no r1
          by_cases r2 : (⟨#[98, 117, 116, 116, 111, 110]⟩ : ByteArray) = ty
          · have hR := Lib.hid (hK.out.trans (btK_button r1 r2))
            have q2 : (ty.toList == [98, 117, 116, 116, 111, 110]) = true := ql_yes r2
            clear r1 r2
            go_wp2_with fail
            go_ret
            exact ⟨ret_int hR.out.symm, hbb⟩
          · have hR := Lib.hid (hK.out.trans (btK_else r1 r2))
            have q2 : (ty.toList == [98, 117, 116, 116, 111, 110]) = false := ql_no r2
            clear r1 r2
            go_wp2_with fail
            go_ret
            exact ⟨ret_int hR.out.symm, hbb⟩
      · have p2 : (x.nm.toList == [98, 117, 116, 116, 111, 110]) = false := ql_no n2
        by_cases n3 : (⟨#[115, 101, 108, 101, 99, 116]⟩ : ByteArray) = x.nm
        · have hR := Lib.hid (kind_select n1 n2 n3)
          have p3 : (x.nm.toList == [115, 101, 108, 101, 99, 116]) = true := ql_yes n3
          clear n1 n2 n3
          go_wp2_with fail
          go_ret
          exact ⟨ret_int hR.out.symm, hbb⟩
        · have p3 : (x.nm.toList == [115, 101, 108, 101, 99, 116]) = false := ql_no n3
          by_cases n4 : (⟨#[116, 101, 120, 116, 97, 114, 101, 97]⟩ : ByteArray) = x.nm
          · have hR := Lib.hid (kind_area n1 n2 n3 n4)
            have p4 : (x.nm.toList == [116, 101, 120, 116, 97, 114, 101, 97]) = true := ql_yes n4
            clear n1 n2 n3 n4
            go_wp2_with fail
            go_ret
            exact ⟨ret_int hR.out.symm, hbb⟩
          · have p4 : (x.nm.toList == [116, 101, 120, 116, 97, 114, 101, 97]) = false := ql_no n4
            have hK := Lib.hid (kind_other n1 n2 n3 n4)
            clear n1 n2 n3 n4
            by_cases m0 : (⟨#[111, 117, 116, 112, 117, 116]⟩ : ByteArray) = x.nm
            · have hR := Lib.hid (hK.out.trans (show otK x.nm = 28 by rw [← m0]; rfl))
              have o0 : (x.nm.toList == [111, 117, 116, 112, 117, 116]) = true := ql_yes m0
              clear  m0
              go_wp2_with fail
              go_ret
              exact ⟨ret_int hR.out.symm, hbb⟩
            · have o0 : (x.nm.toList == [111, 117, 116, 112, 117, 116]) = false := ql_no m0
              by_cases m1 : (⟨#[102, 105, 101, 108, 100, 115, 101, 116]⟩ : ByteArray) = x.nm
              · have hR := Lib.hid (hK.out.trans (show otK x.nm = 29 by rw [← m1]; rfl))
                have o1 : (x.nm.toList == [102, 105, 101, 108, 100, 115, 101, 116]) = true := ql_yes m1
                clear m0 m1
                go_wp2_with fail
                go_ret
                exact ⟨ret_int hR.out.symm, hbb⟩
              · have o1 : (x.nm.toList == [102, 105, 101, 108, 100, 115, 101, 116]) = false := ql_no m1
                by_cases m2 : (⟨#[102, 111, 114, 109]⟩ : ByteArray) = x.nm
                · have hR := Lib.hid (hK.out.trans (show otK x.nm = 30 by rw [← m2]; rfl))
                  have o2 : (x.nm.toList == [102, 111, 114, 109]) = true := ql_yes m2
                  clear m0 m1 m2
                  go_wp2_with fail
                  go_ret
                  exact ⟨ret_int hR.out.symm, hbb⟩
                · have o2 : (x.nm.toList == [102, 111, 114, 109]) = false := ql_no m2
                  by_cases m3 : (⟨#[108, 97, 98, 101, 108]⟩ : ByteArray) = x.nm
                  · have hR := Lib.hid (hK.out.trans (show otK x.nm = 31 by rw [← m3]; rfl))
                    have o3 : (x.nm.toList == [108, 97, 98, 101, 108]) = true := ql_yes m3
                    clear m0 m1 m2 m3
                    go_wp2_with fail
                    go_ret
                    exact ⟨ret_int hR.out.symm, hbb⟩
                  · have o3 : (x.nm.toList == [108, 97, 98, 101, 108]) = false := ql_no m3
                    by_cases m4 : (⟨#[111, 112, 116, 105, 111, 110]⟩ : ByteArray) = x.nm
                    · have hR := Lib.hid (hK.out.trans (show otK x.nm = 32 by rw [← m4]; rfl))
                      have o4 : (x.nm.toList == [111, 112, 116, 105, 111, 110]) = true := ql_yes m4
                      clear m0 m1 m2 m3 m4
                      go_wp2_with fail
                      go_ret
                      exact ⟨ret_int hR.out.symm, hbb⟩
                    · have o4 : (x.nm.toList == [111, 112, 116, 105, 111, 110]) = false := ql_no m4
                      by_cases m5 : (⟨#[111, 112, 116, 103, 114, 111, 117, 112]⟩ : ByteArray) = x.nm
                      · have hR := Lib.hid (hK.out.trans (show otK x.nm = 33 by rw [← m5]; rfl))
                        have o5 : (x.nm.toList == [111, 112, 116, 103, 114, 111, 117, 112]) = true := ql_yes m5
                        clear m0 m1 m2 m3 m4 m5
                        go_wp2_with fail
                        go_ret
                        exact ⟨ret_int hR.out.symm, hbb⟩
                      · have o5 : (x.nm.toList == [111, 112, 116, 103, 114, 111, 117, 112]) = false := ql_no m5
                        by_cases m6 : (⟨#[108, 101, 103, 101, 110, 100]⟩ : ByteArray) = x.nm
                        · have hR := Lib.hid (hK.out.trans (show otK x.nm = 34 by rw [← m6]; rfl))
                          have o6 : (x.nm.toList == [108, 101, 103, 101, 110, 100]) = true := ql_yes m6
                          clear m0 m1 m2 m3 m4 m5 m6
                          go_wp2_with fail
                          go_ret
                          exact ⟨ret_int hR.out.symm, hbb⟩
                        · have o6 : (x.nm.toList == [108, 101, 103, 101, 110, 100]) = false := ql_no m6
                          by_cases m7 : (⟨#[100, 97, 116, 97, 108, 105, 115, 116]⟩ : ByteArray) = x.nm
                          · have hR := Lib.hid (hK.out.trans (show otK x.nm = 35 by rw [← m7]; rfl))
                            have o7 : (x.nm.toList == [100, 97, 116, 97, 108, 105, 115, 116]) = true := ql_yes m7
                            clear m0 m1 m2 m3 m4 m5 m6 m7
                            go_wp2_with fail
                            go_ret
                            exact ⟨ret_int hR.out.symm, hbb⟩
                          · have o7 : (x.nm.toList == [100, 97, 116, 97, 108, 105, 115, 116]) = false := ql_no m7
                            have hR := Lib.hid (hK.out.trans (otK_none (fun j hj => by
                              match j, hj with
                              | 0, _ => exact fun e => m0 (Option.some.inj e)
                              | 1, _ => exact fun e => m1 (Option.some.inj e)
                              | 2, _ => exact fun e => m2 (Option.some.inj e)
                              | 3, _ => exact fun e => m3 (Option.some.inj e)
                              | 4, _ => exact fun e => m4 (Option.some.inj e)
                              | 5, _ => exact fun e => m5 (Option.some.inj e)
                              | 6, _ => exact fun e => m6 (Option.some.inj e)
                              | 7, _ => exact fun e => m7 (Option.some.inj e)
                              | n + 8, hj => omega)))
                            clear m0 m1 m2 m3 m4 m5 m6 m7
                            go_wp2_with fail
                            go_ret
                            exact ⟨ret_int hR.out.symm, hbb⟩
end Go.Proofs.Ytenicjebccdekaa
