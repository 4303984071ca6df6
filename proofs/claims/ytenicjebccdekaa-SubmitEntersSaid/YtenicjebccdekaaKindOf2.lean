/-
  THE KIND OF A NODE, whole: kinds.Of, ref11.Of: the walks.
-/
import Derived.Test.YtenicjebccdekaaKindOf
namespace Go.Proofs.Ytenicjebccdekaa
set_option linter.unusedVariables false
set_option linter.unusedSimpArgs false
open Go.RowKit PT

theorem kind_input {x : Nd} (h : (⟨#[105, 110, 112, 117, 116]⟩ : ByteArray) = x.nm) : kindOf x = tyK (tyOf x) := by unfold kindOf; rw [if_pos h.symm]
theorem kind_button {x : Nd} (h0 : ¬ (⟨#[105, 110, 112, 117, 116]⟩ : ByteArray) = x.nm) (h : (⟨#[98, 117, 116, 116, 111, 110]⟩ : ByteArray) = x.nm) : kindOf x = btK (tyOf x) := by unfold kindOf; rw [if_neg (fun e => h0 e.symm), if_pos h.symm]
theorem kind_select {x : Nd} (h0 : ¬ (⟨#[105, 110, 112, 117, 116]⟩ : ByteArray) = x.nm) (h1 : ¬ (⟨#[98, 117, 116, 116, 111, 110]⟩ : ByteArray) = x.nm) (h : (⟨#[115, 101, 108, 101, 99, 116]⟩ : ByteArray) = x.nm) : kindOf x = 23 := by unfold kindOf; rw [if_neg (fun e => h0 e.symm), if_neg (fun e => h1 e.symm), if_pos h.symm]
theorem kind_area {x : Nd} (h0 : ¬ (⟨#[105, 110, 112, 117, 116]⟩ : ByteArray) = x.nm) (h1 : ¬ (⟨#[98, 117, 116, 116, 111, 110]⟩ : ByteArray) = x.nm) (h2 : ¬ (⟨#[115, 101, 108, 101, 99, 116]⟩ : ByteArray) = x.nm) (h : (⟨#[116, 101, 120, 116, 97, 114, 101, 97]⟩ : ByteArray) = x.nm) : kindOf x = 24 := by unfold kindOf; rw [if_neg (fun e => h0 e.symm), if_neg (fun e => h1 e.symm), if_neg (fun e => h2 e.symm), if_pos h.symm]
theorem kind_other {x : Nd} (h0 : ¬ (⟨#[105, 110, 112, 117, 116]⟩ : ByteArray) = x.nm) (h1 : ¬ (⟨#[98, 117, 116, 116, 111, 110]⟩ : ByteArray) = x.nm) (h2 : ¬ (⟨#[115, 101, 108, 101, 99, 116]⟩ : ByteArray) = x.nm) (h3 : ¬ (⟨#[116, 101, 120, 116, 97, 114, 101, 97]⟩ : ByteArray) = x.nm) : kindOf x = otK x.nm := by unfold kindOf; rw [if_neg (fun e => h0 e.symm), if_neg (fun e => h1 e.symm), if_neg (fun e => h2 e.symm), if_neg (fun e => h3 e.symm)]
theorem btK_reset {ty : ByteArray} (h : (⟨#[114, 101, 115, 101, 116]⟩ : ByteArray) = ty) : btK ty = 26 := by unfold btK; rw [if_pos h.symm]
theorem btK_button {ty : ByteArray} (h0 : ¬ (⟨#[114, 101, 115, 101, 116]⟩ : ByteArray) = ty) (h : (⟨#[98, 117, 116, 116, 111, 110]⟩ : ByteArray) = ty) : btK ty = 27 := by unfold btK; rw [if_neg (fun e => h0 e.symm), if_pos h.symm]
theorem btK_else {ty : ByteArray} (h0 : ¬ (⟨#[114, 101, 115, 101, 116]⟩ : ByteArray) = ty) (h : ¬ (⟨#[98, 117, 116, 116, 111, 110]⟩ : ByteArray) = ty) : btK ty = 25 := by unfold btK; rw [if_neg (fun e => h0 e.symm), if_neg (fun e => h e.symm)]
theorem atO_size (l : List At) (s : ByteArray) {n : Nat} (hA : ∀ a ∈ l, a.v.size ≤ n) : ((atO l s).getD ⟨#[]⟩).size ≤ n := by
  rcases fi_cases l (isN s) with ⟨h, _⟩ | ⟨k, hk, h, _⟩
  · rw [atO_none h]; exact Nat.zero_le _
  · rw [atO_some hk h]; exact hA _ (List.getElem_mem hk)
set_option maxHeartbeats 4000000 in
set_option maxRecDepth 100000 in
theorem kindsOf_any (x : Nd) (va vk : Value) (hl : x.ats.length ≤ 1000000000000000) (hA : ∀ a ∈ x.ats, a.v.size ≤ 140737488351232) (w : World) (hU : Atts x.ats va w) :
    Calls Try.prog 82 #[NdV x va vk] w fun e w' => e = .returned (.int .i64 (kindOf x)) ∧ Below w.heap.size w w' := by
  have hsz := atO_size x.ats ⟨#[116, 121, 112, 101]⟩ hA
  have hty : tyOf x = ⟨(low ((atO x.ats ⟨#[116, 121, 112, 101]⟩).getD ⟨#[]⟩).data.toList).toArray⟩ := rfl
  have HTY := Lib.hid hty
  clear hty
  have hb0 := (Below.refl w.heap.size w).alloc (Nat.le_refl _) (.cells #[.string x.nm, .string x.tx, va, .int .i64 x.pa, vk] 35)
  have hn0 := Go.heap_alloc_new w (.cells #[.string x.nm, .string x.tx, va, .int .i64 x.pa, vk] 35)
  have hU0 := hU.kept hb0
  obtain ⟨a, cap, rfl⟩ := hU.len
  have hN : NdV x (.slice a x.ats.length cap) vk = .agg #[.string x.nm, .string x.tx, .slice a x.ats.length cap, .int .i64 x.pa, vk] := rfl
  rw [hN]
  clear hN
  go_enter Try.func82, Try.ntmps82
  go_upto_region 1 with fail
  generalize World.alloc _ _ = W0 at hb0 hn0 hU0 ⊢
  obtain ⟨x0, x1, x2, x3, x4, f0, f1, f2, f3, f4⟩ := five_of hn0
  go_wp2_with fail
  refine (kindsAttr_any x _ vk ⟨#[116, 121, 112, 101]⟩ hl _ hU0).mono ?_
  rintro e w1 ⟨rfl, hb1⟩
  have hn1 := blk_kept hb1 hn0
  have hb01 := bs hb0 hb1
  generalize (atO x.ats ⟨#[116, 121, 112, 101]⟩).getD ⟨#[]⟩ = tv at hsz HTY ⊢
  clear x0 x1 x2 x3 x4 f0 f1 f2 f3 f4
  go_wp2_with fail
  refine (lower_any tv _ hsz).mono ?_
  rintro e w2 ⟨rfl, hb2⟩
  rw [← HTY.out]
  have hn2 := blk_kept hb2 hn1
  have hbb := bs hb01 hb2
  obtain ⟨ty, hty⟩ : ∃ ty, tyOf x = ty := ⟨_, rfl⟩
  have HK := Lib.hid hty
  rw [hty]
  clear hty HTY hsz hn0 hU0 hb01 hb0 hb1 hb2 hn1
  obtain ⟨x0, x1, x2, x3, x4, f0, f1, f2, f3, f4⟩ := five_of hn2
  by_cases n1 : (⟨#[105, 110, 112, 117, 116]⟩ : ByteArray) = x.nm
  · have hK := Lib.hid (show kindOf x = tyK ty by rw [kind_input n1, HK.out])
    have p1 : (x.nm.toList == [105, 110, 112, 117, 116]) = true := ql_yes n1
    clear n1
    go_wp2_with fail
    refine (types_any _).mono ?_
    rintro e w3 ⟨rfl, hb3⟩
    have hb9 := bs hbb hb3
    go_wp2_with fail
    go_loop [16] (fun i => ∃ k : Nat, k ≤ 22 ∧ i = .int .i64 k ∧ Hid (∀ j, j < k → tyL[j]? ≠ some ty)) (fun i => 22 - (intOf i).toNat)
    case atStart => exact ⟨0, Nat.zero_le _, rfl, Lib.hid (fun j hj => by omega)⟩
    case round =>
      obtain ⟨k, hk, rfl, hno⟩ := hrel
      by_cases hlt : k < 22
      · have hlt' : (k : Int) < 22 := by omega
        have hix := tyIdx k hlt
        have hgd := Lib.hid (getD_some (l := tyL) (k := k) hlt)
        generalize tyL.getD k ⟨#[]⟩ = s at hix hgd
        by_cases hs : s = ty
        · have hR := Lib.hid (hK.out.trans (tyK_hit hlt hno.out (by rw [hgd.out, hs])))
          have hq := sTrue hs
          clear hs
          go_wp2_with fail
          go_ret
          exact ⟨ret_int hR.out.symm, hb9⟩
        · have hN := Lib.hid (show ∀ j, j < k + 1 → tyL[j]? ≠ some ty from fun j hj => by
            by_cases e : j = k
            · rw [e, hgd.out]; exact fun e2 => hs (Option.some.inj e2)
            · exact hno.out j (by omega))
          have hq := sFalse hs
          clear hs
          go_wp2_with fail
          go_round
          case rel => exact ⟨k + 1, by omega, by go_num, hN⟩
          case measure => simp [intOf]; omega
      · obtain rfl : k = 22 := by omega
        have hR := Lib.hid (hK.out.trans (tyK_none hno.out))
        go_wp2_with fail
        go_ret
        exact ⟨ret_int hR.out.symm, hb9⟩
  · have p1 : (x.nm.toList == [105, 110, 112, 117, 116]) = false := ql_no n1
    by_cases n2 : (⟨#[98, 117, 116, 116, 111, 110]⟩ : ByteArray) = x.nm
    · have hK := Lib.hid (show kindOf x = btK ty by rw [kind_button n1 n2, HK.out])
      have p2 : (x.nm.toList == [98, 117, 116, 116, 111, 110]) = true := ql_yes n2
      clear n1 n2
      by_cases r1 : (⟨#[114, 101, 115, 101, 116]⟩ : ByteArray) = ty
      · have hR := Lib.hid (hK.out.trans (btK_reset r1))
        have q1 : (ty.toList == [114, 101, 115, 101, 116]) = true := ql_yes r1
        clear r1
        go_wp2_with fail
        go_ret
        exact ⟨ret_int hR.out.symm, hbb⟩
      · have q1 : (ty.toList == [114, 101, 115, 101, 116]) = false := ql_no r1
        by_cases r2 : (⟨#[98, 117, 116, 116, 111, 110]⟩ : ByteArray) = ty
        · have hR := Lib.hid (hK.out.trans (btK_button r1 r2))
          have q2 : (ty.toList == [98, 117, 116, 116, 111, 110]) = true := ql_yes r2
          clear r1 r2
          go_wp2_with fail
          go_ret
          exact ⟨ret_int hR.out.symm, hbb⟩
        · have hR := Lib.hid (hK.out.trans (btK_else r1 r2))
          have q2 : (ty.toList == [98, 117, 116, 116, 111, 110]) = false := ql_no r2
          clear r1 r2
          go_wp2_with fail
          go_ret
          exact ⟨ret_int hR.out.symm, hbb⟩
    · have p2 : (x.nm.toList == [98, 117, 116, 116, 111, 110]) = false := ql_no n2
      by_cases n3 : (⟨#[115, 101, 108, 101, 99, 116]⟩ : ByteArray) = x.nm
      · have hR := Lib.hid (kind_select n1 n2 n3)
        have p3 : (x.nm.toList == [115, 101, 108, 101, 99, 116]) = true := ql_yes n3
        clear n1 n2 n3
        go_wp2_with fail
        go_ret
        exact ⟨ret_int hR.out.symm, hbb⟩
      · have p3 : (x.nm.toList == [115, 101, 108, 101, 99, 116]) = false := ql_no n3
        by_cases n4 : (⟨#[116, 101, 120, 116, 97, 114, 101, 97]⟩ : ByteArray) = x.nm
        · have hR := Lib.hid (kind_area n1 n2 n3 n4)
          have p4 : (x.nm.toList == [116, 101, 120, 116, 97, 114, 101, 97]) = true := ql_yes n4
          clear n1 n2 n3 n4
          go_wp2_with fail
          go_ret
          exact ⟨ret_int hR.out.symm, hbb⟩
        · have hK := Lib.hid (kind_other n1 n2 n3 n4)
          have p4 : (x.nm.toList == [116, 101, 120, 116, 97, 114, 101, 97]) = false := ql_no n4
          clear n1 n2 n3 n4
          go_wp2_with fail
          go_loop [38] (fun i => ∃ k : Nat, k ≤ 8 ∧ i = .int .i64 k ∧ Hid (∀ j, j < k → otL[j]? ≠ some x.nm)) (fun i => 8 - (intOf i).toNat)
          case atStart => exact ⟨0, Nat.zero_le _, rfl, Lib.hid (fun j hj => by omega)⟩
          case round =>
            obtain ⟨k, hk, rfl, hno⟩ := hrel
            by_cases hlt : k < 8
            · have hlt' : (k : Int) < 8 := by omega
              have hix := otIdx k hlt
              have hgd := Lib.hid (getD_some (l := otL) (k := k) hlt)
              generalize otL.getD k ⟨#[]⟩ = s at hix hgd
              by_cases hs : s = x.nm
              · have hR := Lib.hid (hK.out.trans (otK_hit hlt hno.out (by rw [hgd.out, hs])))
                have hq := sTrue hs
                clear hs
                go_wp2_with fail
                go_ret
                exact ⟨ret_int hR.out.symm, hbb⟩
              · have hN := Lib.hid (show ∀ j, j < k + 1 → otL[j]? ≠ some x.nm from fun j hj => by
                  by_cases e : j = k
                  · rw [e, hgd.out]; exact fun e2 => hs (Option.some.inj e2)
                  · exact hno.out j (by omega))
                have hq := sFalse hs
                clear hs
                go_wp2_with fail
                go_round
                case rel => exact ⟨k + 1, by omega, by go_num, hN⟩
                case measure => simp [intOf]; omega
            · obtain rfl : k = 8 := by omega
              have hR := Lib.hid (hK.out.trans (otK_none hno.out))
              go_wp2_with fail
              go_ret
              exact ⟨ret_int hR.out.symm, hbb⟩
end Go.Proofs.Ytenicjebccdekaa
