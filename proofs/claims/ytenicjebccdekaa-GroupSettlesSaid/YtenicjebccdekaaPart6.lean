import Derived.Test.YtenicjebccdekaaPart3
import Derived.Test.YtenicjebccdekaaPart5
import Derived.Test.YtenicjebccdekaaPart1
import Derived.Maps.OwnRows
import Derived.Maps.RangeWalk
import Derived.Maps.GroupsBeside
import Derived.Maps.Views
import Derived.WideKeyEntry
/-
  THE ORDER OF A RIGHT DOCUMENT by the document: ref10.Order (a stack): the walk.
-/
namespace Go.Proofs.Ytenicjebccdekaa
set_option linter.unusedVariables false
set_option linter.unusedSimpArgs false
open Go.RowKit PT

def lenV : Value → Nat
  | .slice _ n _ => n
  | _ => 0
theorem OV.lenV {base : Nat} {T : TypeId} {t : List Value} {v : Value} {w : World} (h : OV base T t v w) : lenV v = t.length := by
  obtain ⟨a, cap, rfl, _⟩ := h.form
  rfl
theorem ints_snoc (t : List Int) (c : Int) : ints (t ++ [c]) = ints t ++ [.int .i64 c] := by simp [ints]
theorem ints_len (t : List Int) : (ints t).length = t.length := by simp [ints]
theorem flat_len {l : List Nd} (h : RightP l) : ∀ {t : List Int}, (∀ c ∈ t, 0 ≤ c ∧ c < l.length) → t.length ≤ (t.flatMap (ord l)).length
  | [], _ => Nat.zero_le _
  | c :: t, hc => by
    have h1 := flat_len h (t := t) (fun x hx => hc x (List.mem_cons_of_mem _ hx))
    obtain ⟨c0, c1⟩ := hc c (List.mem_cons_self ..)
    rw [List.flatMap_cons, ord_eq h c0 c1, List.length_append, List.length_cons, List.length_cons]
    omega
set_option maxHeartbeats 4000000 in
set_option maxRecDepth 100000 in
theorem refOrder_any (l : List Nd) (hRP : RightP l) (K : Nat) (hK : K < l.length) (v : Value) (w : World) (hz : ∀ x ∈ l, Fits x) (hU : Nodes l v w) :
    Calls Try.prog 63 #[v, .int .i64 K] w fun e w' => ∃ vo, e = .returned vo ∧ OV w.heap.size 3 (ints (ord l K)) vo w' ∧ Below w.heap.size w w' := by
  obtain ⟨a, cap, rfl⟩ := hU.len
  have hmax := hRP.max
  have hol := ord_len hRP (k := (K : Int)) (by omega) (by omega)
  have hb0 := (Below.refl w.heap.size w).alloc (Nat.le_refl _) (.cells #[.int .i64 K] 3)
  have hlit : OV w.heap.size 3 (ints [(K : Int)]) (.slice (some ⟨w.heap.size, 0, none⟩) 1 1) (w.alloc (.cells #[.int .i64 K] 3)) := World.ownsRow_lit w #[.int .i64 K] 1 (Nat.le_refl _) (by unfold maxLen; omega) rfl
  have htwo : Two w.heap.size 3 (ints []) (.slice none 0 0) (ints [(K : Int)]) (.slice (some ⟨w.heap.size, 0, none⟩) 1 1) (w.alloc (.cells #[.int .i64 K] 3)) := ⟨OV.nil _ _ _, hlit, fun k hk => by cases hk⟩
  go_enter Try.func63, Try.ntmps63
  go_upto_region 3 with fail
  generalize World.alloc _ _ = W0 at hb0 htwo ⊢
  go_loopw [5, 6] (fun vo vn wr => ∃ O N : List Int, Hid (O ++ N.reverse.flatMap (ord l) = ord l K) ∧ (∀ c ∈ N, 0 ≤ c ∧ c < l.length) ∧ Two w.heap.size 3 (ints O) vo (ints N) vn wr ∧ Below w.heap.size w wr) (fun vo _ _ => l.length + 1 - lenV vo)
  case atStart => exact ⟨[], [K], Lib.hid (by simp), by simp; omega, htwo, hb0⟩
  case round =>
    obtain ⟨O, N, hA, hN, hT, hbel⟩ := hrel
    have hsz := hbel.size
    rcases List.eq_nil_or_concat N with rfl | ⟨N', c, rfl⟩
    · have hR := Lib.hid (show O = ord l K by have := hA.out; simpa using this)
      obtain ⟨a1, cap1, hv1, hn1⟩ := hT.b.form
      rw [ints_len] at hv1
      subst hv1
      go_wp2_with fail
      go_ret
      exact ⟨_, rfl, by rw [← hR.out]; exact hT.a, hbel⟩
    · rw [List.concat_eq_append] at *
      obtain ⟨d0, d1⟩ := hN c (by simp)
      have hlen9 := congrArg List.length hA.out
      obtain ⟨g, gcap, rfl, _, hcell⟩ := hT.b.at (by rw [ints_snoc]; simp)
      have hcc := hcell N'.length (.int .i64 c) (by simp [ints])
      have hnl : (ints (N' ++ [c])).length = N'.length + 1 := by simp [ints]
      have hcap : N'.length + 1 ≤ gcap := by
        obtain ⟨_, ⟨hv, _⟩ | ⟨g', cap', cur, hv, h2, h3, h4, _⟩⟩ := hT.b
        · cases hv
        · cases hv; omega
      rw [ints_snoc] at hT
      have hpop := OV.pop hT.b
      have hT2 : Two w.heap.size 3 (ints O) u5 (ints N') (.slice (some ⟨g, 0, none⟩) (ints N').length gcap) wr := ⟨hT.a, hpop, hT.ne⟩
      rw [← ints_snoc, hnl] at hT
      rw [ints_len] at hT2
      rw [hnl]
      have hoe := ord_eq hRP d0 d1
      have hA2 := hA.out
      rw [List.reverse_append, List.flatMap_append] at hA2
      simp only [List.reverse_singleton, List.flatMap_cons, List.flatMap_nil, List.append_nil] at hA2
      rw [hoe] at hA2
      have hAN := Lib.hid (show (O ++ [c]) ++ (N' ++ (ksOf l c).reverse).reverse.flatMap (ord l) = ord l K by
        rw [← hA2, List.reverse_append, List.reverse_reverse, List.flatMap_append]; simp)
      have hn3 : N'.length ≤ 400 := by
        have h1 := flat_len hRP (t := N'.reverse) (fun x hx => hN x (List.mem_append_left _ (List.mem_reverse.1 hx)))
        have h2 := congrArg List.length hA2
        simp only [List.length_append, List.length_cons, List.length_reverse] at h1 h2
        omega
      have hOl : O.length < l.length := by
        have := congrArg List.length hA2
        simp only [List.length_append, List.length_cons] at this
        omega
      have hNN := Lib.hid (show ∀ c' ∈ N' ++ (ksOf l c).reverse, 0 ≤ c' ∧ c' < l.length from fun c' hc' => by
        rcases List.mem_append.1 hc' with h | h
        · exact hN c' (List.mem_append_left _ h)
        · obtain ⟨e0, e1, _⟩ := hRP.kid d0 d1 (List.mem_reverse.1 h)
          exact ⟨e0, e1⟩)
      clear hA hA2 hoe hcell hlen9 hpop hnl
      obtain ⟨q, rfl⟩ := Int.eq_ofNat_of_zero_le d0
      have hq : q < l.length := by omega
      have hn0 : (0 : Int) ≤ (N'.length : Int) := by omega
      have hn1 : (N'.length : Int) ≤ (gcap : Int) := by omega
      have hn2 : (N'.length : Int) < ((N'.length + 1 : Nat) : Int) := by omega
      have hkr := Lib.hid (ksOf_at hq)
      have hkn := hRP.nodup (k := (q : Int)) (by omega) (by omega)
      have hkl : (ksOf l (q : Int)).length ≤ 400 := Nat.le_trans (nodup_len hkn (fun c' hc' => ⟨(hRP.kid (by omega) (by omega) hc').1, (hRP.kid (by omega) (by omega) hc').2.1⟩)) hmax
      obtain ⟨b, o, cap', va, vk, hv, hb, c0, c1, c2, c3, c4, hat, hks⟩ := hU.at hq
      cases hv
      generalize l[q] = x at *
      rw [hkr.out] at hkl hAN hNN
      have hq0 : (0 : Int) ≤ (q : Int) := by omega
      have hq1 : (q : Int) < (l.length : Int) := by omega
      obtain ⟨ka, kcap, rfl⟩ := hks.len
      go_wp2_with (at_builtin; refine wpList_append_cell2 rfl _ _ 28 3 rfl Try.underlying28 info_i64 rfl (by decide) rfl rfl (.int .i64 (q : Int)) rfl hT2 (by rw [ints_len]; omega) hsz ?_; intro v' w1 hT3 hb1; have hbw1 := hbel.trans hb1; have d4 := cellK hbw1 hb c4)
      go_loopw [6, 8] (fun vn i wi => ∃ j : Nat, j ≤ x.ks.length ∧ i = .int .i64 ((j : Int) - 1) ∧ Two w.heap.size 3 (ints (O ++ [(q : Int)])) v' (ints (N' ++ (x.ks.drop j).reverse)) vn wi ∧ Below w.heap.size w wi) (fun _ i _ => ((intOf i) + 1).toNat)
      case atStart => exact ⟨x.ks.length, Nat.le_refl _, by go_num, by rw [ints_snoc]; simpa using hT3, hbw1⟩
      case round =>
        obtain ⟨j, hj, rfl, hT4, hbi⟩ := hrel
        have hsi := hbi.size
        have e4 := cellK hbi hb c4
        cases j with
        | zero =>
          rw [List.drop_zero] at hT4
          have hj9 : decide ((0 : Int) ≤ (0 : Int) - 1) = false := by decide
          go_wp2_with fail
          exact ⟨⟨O ++ [(q : Int)], _, hAN, hNN.out, hT4, hbi⟩, by have m1 := hT4.a.lenV; have m2 := hT2.a.lenV; rw [ints_len] at m1 m2; simp only [List.length_append, List.length_cons, List.length_nil] at m1; rw [m1, m2]; omega⟩
        | succ j =>
          have hlt : j < x.ks.length := by omega
          obtain ⟨kb, ko, kcap', kv, khb, kc0⟩ := (hks.kept hbi).at hlt
          cases kv
          have hdr := Lib.hid (show (x.ks.drop j).reverse = (x.ks.drop (j + 1)).reverse ++ [x.ks[j]] by rw [List.drop_eq_getElem_cons hlt, List.reverse_cons])
          generalize x.ks[j] = y at *
          have hj0 : (0 : Int) ≤ (j : Int) := by omega
          have hj1 : (j : Int) < (x.ks.length : Int) := by omega
          have hj2 : ((j + 1 : Nat) : Int) - 1 = (j : Int) := by omega
          rw [hj2]
          go_wp2_with (at_builtin; refine wpList_append_cell2 rfl _ _ 28 3 rfl Try.underlying28 info_i64 rfl (by decide) rfl rfl (.int .i64 y) rfl hT4.symm (by rw [ints_len]; simp; omega) hsi ?_; intro v5 w5 hT5 hb5)
          exact ⟨⟨j, by omega, by go_num, by rw [hdr.out, ← List.append_assoc, ints_snoc (N' ++ _)]; exact hT5.symm, hbi.trans hb5⟩, by simp [intOf]⟩
end Go.Proofs.Ytenicjebccdekaa

/-
  A NODE OF AN id by the document: ref10.ByID: the walk.
-/
namespace Go.Proofs.Ytenicjebccdekaa
set_option linter.unusedVariables false
set_option linter.unusedSimpArgs false
open Go.RowKit PT

theorem refOrder0_any (l : List Nd) (hRP : RightP l) (v : Value) (w : World) (hz : ∀ x ∈ l, Fits x) (hU : Nodes l v w) :
    Calls Try.prog 63 #[v, .int .i64 0] w fun e w' => ∃ g gcap, e = .returned (.slice (some ⟨g, 0, none⟩) (ord l 0).length gcap) ∧ OV w.heap.size 3 (ints (ord l 0)) (.slice (some ⟨g, 0, none⟩) (ord l 0).length gcap) w' ∧ Below w.heap.size w w' := by
  have h := refOrder_any l hRP 0 hRP.pos v w hz hU
  rw [show ((0 : Nat) : Int) = 0 from rfl] at h
  refine h.mono ?_
  rintro e w' ⟨vo, rfl, hov, hb⟩
  have hil : (ints (ord l 0)).length = (ord l 0).length := by simp [ints]
  have hne : ints (ord l 0) ≠ [] := by rw [ord_eq hRP (by omega) (by have := hRP.pos; omega)]; simp [ints]
  obtain ⟨g, gcap, rfl, _, _⟩ := hov.at hne
  rw [hil] at hov ⊢
  exact ⟨g, gcap, rfl, hov, hb⟩
set_option maxHeartbeats 4000000 in
set_option maxRecDepth 100000 in
theorem refByID_any (l : List Nd) (hRP : RightP l) (v : Value) (s : ByteArray) (w : World) (hz : ∀ x ∈ l, Fits x) (hU : Nodes l v w) :
    Calls Try.prog 57 #[v, .string s] w fun e w' => e = .returned (.int .i64 (namedF l s)) ∧ Below w.heap.size w w' := by
  obtain ⟨a, cap, rfl⟩ := hU.len
  have hpos := hRP.pos
  have hmax := hRP.max
  have hol := ord_len hRP (k := 0) (by omega) (by omega)
  have hR := Lib.hid (show namedF l s = if s.size ≠ 0 then firstF (idK l s) (ord l 0) else -1 by
    unfold namedF; rw [rightB_yes hRP]; by_cases h : s.size ≠ 0
    · rw [if_pos h, if_pos ⟨h, rfl⟩]
    · rw [if_neg h, if_neg (fun e => h e.1)])
  go_enter Try.func57, Try.ntmps57
  go_wp2_with fail
  refine (refOrder0_any l hRP _ _ hz hU).mono ?_
  rintro e w2 ⟨g, gcap, rfl, hov, hb02⟩
  have hg02 := hb02.size
  go_wp2_with fail
  go_loopw [6] (fun i wr => ∃ k : Nat, k ≤ (ord l 0).length ∧ i = .int .i64 k ∧ Hid (s.size ≠ 0 → ∀ x ∈ (ord l 0).take k, idK l s x = false) ∧ Below w2.heap.size w2 wr) (fun i _ => (ord l 0).length - (intOf i).toNat)
  case atStart => exact ⟨0, Nat.zero_le _, rfl, Lib.hid (by simp), Below.refl _ _⟩
  case round =>
    obtain ⟨k, hk, rfl, hA, hbel⟩ := hrel
    have hb0r := hb02.trans (hbel.mono hg02)
    have hsz := hbel.size
    by_cases hlt : k < (ord l 0).length
    · have hcell := (hov.kept hbel).cell k (.int .i64 (ord l 0)[k]) (by rw [ints, List.getElem?_map, List.getElem?_eq_getElem hlt]; rfl)
      rw [addr_add, Nat.zero_add] at hcell
      obtain ⟨m0, m1, _⟩ := ord_mem hRP (k := 0) (by omega) (by omega) (List.getElem_mem hlt)
      have hT := Lib.hid (fun (hs : s.size ≠ 0) h => take_mem_snoc (P := fun x => idK l s x = false) hlt (hA.out hs) h)
      have hH := Lib.hid (fun (hs : s.size ≠ 0) h => firstF_hit (p := idK l s) hlt (hA.out hs) h)
      have hk0 : (0 : Int) ≤ (k : Int) := by omega
      have hk1 : (k : Int) < ((ord l 0).length : Int) := by omega
      generalize (ord l 0)[k] = c at *
      obtain ⟨q, rfl⟩ := Int.eq_ofNat_of_zero_le m0
      have hq : q < l.length := by omega
      have hal := one_ats (hRP.node q _ (List.getElem?_eq_getElem hq)).1
      have hatt := refAttr10_any l (.slice a l.length cap) q ⟨#[105, 100]⟩ hq (by omega) wr (hU.kept hb0r)
      clear hal
      have hI := Lib.hid (show idK l s (q : Int) = decide (atO (atsOf l (q : Int)) ⟨#[105, 100]⟩ = some s) from rfl)
      generalize atO (atsOf l (q : Int)) ⟨#[105, 100]⟩ = r at hatt hI
      cases r with
      | none =>
        have hN := Lib.hid (fun hs => hT.out hs (hI.out.trans rfl))
        go_wp2_with fail
        refine hatt.mono ?_
        rintro e w3 ⟨rfl, rfl⟩
        unfold atT
        go_wp2_with fail
        go_roundw
        case rel => exact ⟨k + 1, by omega, by go_num, hN, hbel⟩
        case measure => simp [intOf]; omega
      | some y =>
        by_cases hy : y = s
        · have hq9 := sTrue hy
          by_cases hs : s.size = 0
          · have hN := Lib.hid (show s.size ≠ 0 → ∀ x ∈ (ord l 0).take (k + 1), idK l s x = false from fun h => absurd hs h)
            have hs1 : decide ((0 : Int) < (s.size : Int)) = false := decide_eq_false (by omega)
            have hs2 : decide (0 < s.size) = false := decide_eq_false (by omega)
            clear hs hy
            go_wp2_with fail
            refine hatt.mono ?_
            rintro e w3 ⟨rfl, rfl⟩
            unfold atT
            go_wp2_with fail
            go_roundw
            case rel => exact ⟨k + 1, by omega, by go_num, hN, hbel⟩
            case measure => simp [intOf]; omega
          · have hN := Lib.hid (hR.out.trans ((if_pos hs).trans (hH.out hs (by rw [hI.out, hy]; exact decide_eq_true rfl))))
            have hs1 : (0 : Int) < (s.size : Int) := by omega
            have hs2 : 0 < s.size := by omega
            clear hs hy
            go_wp2_with fail
            refine hatt.mono ?_
            rintro e w3 ⟨rfl, rfl⟩
            unfold atT
            go_wp2_with fail
            go_ret
            exact ⟨ret_int hN.out.symm, hb0r⟩
        · have hq9 := sFalse hy
          have hN := Lib.hid (fun hs => hT.out hs (by rw [hI.out]; exact decide_eq_false (fun e => hy (Option.some.inj e))))
          clear hy
          go_wp2_with fail
          refine hatt.mono ?_
          rintro e w3 ⟨rfl, rfl⟩
          unfold atT
          go_wp2_with fail
          go_roundw
          case rel => exact ⟨k + 1, by omega, by go_num, hN, hbel⟩
          case measure => simp [intOf]; omega
    · obtain rfl : k = (ord l 0).length := by omega
      have hN := Lib.hid (show namedF l s = -1 by
        rw [hR.out]
        by_cases hs : s.size ≠ 0
        · rw [if_pos hs]; exact firstF_none (by have := hA.out hs; rwa [List.take_of_length_le (Nat.le_refl _)] at this)
        · rw [if_neg hs])
      go_wp2_with fail
      go_ret
      exact ⟨ret_int hN.out.symm, hb0r⟩
end Go.Proofs.Ytenicjebccdekaa

/-
  A CONTROL's ⟨#[102, 111, 114, 109]⟩ by the document: ref16.Form: the walk.
-/
namespace Go.Proofs.Ytenicjebccdekaa
set_option linter.unusedVariables false
set_option linter.unusedSimpArgs false
open Go.RowKit PT

theorem form_toList : (⟨#[102, 111, 114, 109]⟩ : ByteArray).toList = [102, 111, 114, 109] := by rw [ByteArray.toList_eq]
theorem otK_form (nm : ByteArray) : otK nm = 30 ↔ nm = ⟨#[102, 111, 114, 109]⟩ := by
  constructor
  · intro h
    unfold otK at h
    split at h
    · omega
    · rename_i i hi
      have h2 : i = 2 := by omega
      subst h2
      obtain ⟨hl, he, _⟩ := List.findIdx?_eq_some_iff_getElem.1 hi
      exact (of_decide_eq_true he).symm
  · rintro rfl
    rfl
theorem kind_form (x : Nd) : kindOf x = 30 ↔ x.nm = ⟨#[102, 111, 114, 109]⟩ := by
  have h1 := tyK_range (tyOf x)
  have hb : 25 ≤ btK (tyOf x) ∧ btK (tyOf x) ≤ 27 := by
    unfold btK; split
    · omega
    · split <;> omega
  have hne : ∀ {a : ByteArray}, x.nm = a → a ≠ ⟨#[102, 111, 114, 109]⟩ → ¬ x.nm = ⟨#[102, 111, 114, 109]⟩ := fun h h2 h3 => h2 (h.symm.trans h3)
  unfold kindOf
  split
  · rename_i h
    exact ⟨fun e => by omega, fun e => absurd e (hne h (by decide))⟩
  · split
    · rename_i h
      exact ⟨fun e => by omega, fun e => absurd e (hne h (by decide))⟩
    · split
      · rename_i h
        exact ⟨fun e => by omega, fun e => absurd e (hne h (by decide))⟩
      · split
        · rename_i h
          exact ⟨fun e => by omega, fun e => absurd e (hne h (by decide))⟩
        · exact otK_form x.nm
theorem kindF_form {l : List Nd} {f : Int} (h0 : 0 ≤ f) (h1 : f < l.length) : kindF l f = 30 ↔ nmOf l f = ⟨#[102, 111, 114, 109]⟩ := by
  obtain ⟨q, rfl⟩ := Int.eq_ofNat_of_zero_le h0
  have hq : q < l.length := by omega
  unfold kindF
  rw [if_pos ⟨h0, h1⟩, kOf_at hq, nmOf_at hq]
  exact kind_form _
theorem namedF_range (l : List Nd) (s : ByteArray) : namedF l s = -1 ∨ 0 ≤ namedF l s ∧ namedF l s < l.length := by
  unfold namedF
  split
  · rename_i h
    have hRP := (rightB_iff l).1 h.2
    unfold firstF
    cases hf : (ord l 0).find? (idK l s) with
    | none => exact .inl rfl
    | some c =>
      right
      obtain ⟨c0, c1, _⟩ := ord_mem hRP (by omega) (by have := hRP.pos; omega) (List.mem_of_find?_eq_some hf)
      exact ⟨c0, c1⟩
  · exact .inl rfl
theorem list0 : listB 0 = false := by decide
theorem FormF_out {l : List Nd} {id : Int} (h : hasB l id = false) : FormF l id = -1 := by
  unfold FormF
  split
  · rename_i hr
    have hk : kindF l id = 0 := by
      refine if_neg (fun hh => ?_)
      rw [(hasB_iff l id).2 ⟨hh.1, hh.2, (rightB_iff l).1 hr⟩] at h
      cases h
    unfold formF
    rw [hk, if_pos ⟨list0, by omega⟩]
  · rfl
set_option maxHeartbeats 4000000 in
set_option maxRecDepth 100000 in
theorem refForm_any (l : List Nd) (v : Value) (id : Int) (hl : l.length ≤ 1000000000000000000) (hz : ∀ x ∈ l, Fits x) (w : World) (hU : Nodes l v w) :
    Calls Try.prog 17 #[v, .int .i64 id] w fun e w' => e = .returned (.int .i64 (FormF l id)) ∧ Below w.heap.size w w' := by
  obtain ⟨a, cap, rfl⟩ := hU.len
  cases hh : hasB l id
  · have hR := Lib.hid (FormF_out hh)
    have HH := Lib.hid hh
    clear hh
    go_enter Try.func17, Try.ntmps17
    go_wp2_with fail
    refine (refHas10_any l _ id hl hz _ hU).mono ?_
    rintro e w' ⟨rfl, hb⟩
    rw [HH.out]
    go_wp2_with fail
    go_ret
    exact ⟨ret_int hR.out.symm, hb⟩
  have HH := Lib.hid hh
  obtain ⟨h0, h1, hRP⟩ := (hasB_iff l id).1 hh
  obtain ⟨K, rfl⟩ := Int.eq_ofNat_of_zero_le h0
  have hkl : K < l.length := by omega
  have hTp := Lib.hid (show topB l (K : Nat) = topF l (K : Nat) by unfold topB; rw [hh]; rfl)
  have hUp := Lib.hid (show upB l (K : Nat) ⟨#[102, 111, 114, 109]⟩ = nearF l ⟨#[102, 111, 114, 109]⟩ (paOf l (K : Nat)) by unfold upB; rw [hh]; rfl)
  have hF := show FormF l (K : Nat) = if listB (kindF l (K : Nat)) = false ∧ kindF l (K : Nat) ≠ 20 then -1 else match attF l (K : Nat) ⟨#[102, 111, 114, 109]⟩ with
    | some s => (if topB l (K : Nat) = 0 then (if kindF l (namedF l s) = 30 then namedF l s else -1) else upB l (K : Nat) ⟨#[102, 111, 114, 109]⟩)
    | none => upB l (K : Nat) ⟨#[102, 111, 114, 109]⟩ from if_pos (rightB_yes hRP)
  rw [show kindF l (K : Nat) = kOf l (K : Nat) from if_pos ⟨h0, h1⟩, show attF l (K : Nat) ⟨#[102, 111, 114, 109]⟩ = atO (atsOf l (K : Nat)) ⟨#[102, 111, 114, 109]⟩ by unfold attF; rw [hh]; rfl, atsOf_at hkl] at hF
  obtain ⟨k0, k1⟩ : 0 ≤ kOf l (K : Nat) ∧ kOf l (K : Nat) ≤ 35 := by rw [kOf_at hkl]; exact kindOf_range _
  obtain ⟨b, o, cap', va, vk, hv, hb, c0, c1, c2, c3, c4, hat, hks⟩ := hU.at hkl
  cases hv
  have hal := one_ats (hRP.node K _ (List.getElem?_eq_getElem hkl)).1
  generalize l[K] = x at *
  clear hh
  obtain ⟨kk, hkk⟩ : ∃ kk, kOf l (K : Nat) = kk := ⟨_, rfl⟩
  rw [hkk] at k0 k1 hF
  have HKI := Lib.hid hkk
  have hF := Lib.hid hF
  clear hkk
  have hK0 : (0 : Int) ≤ (K : Int) := by omega
  have hK1 : (K : Int) < (l.length : Int) := by omega
  cases hL : listB kk
  · by_cases h20 : kk = 20
    case neg =>
      have hR := Lib.hid (hF.out.trans (if_pos ⟨hL, h20⟩))
      have HL := Lib.hid hL
      have q1 : (kk == 20) = false := intNe h20
      have q2 : (kk != 20) = true := by rw [bne, q1]; rfl
      clear hL h20
      go_enter Try.func17, Try.ntmps17
      go_wp2_with fail
      refine (refHas10_any l _ _ hl hz _ hU).mono ?_
      rintro e w0 ⟨rfl, hb00⟩
      rw [HH.out]
      go_wp2_with fail
      refine (ref16Kind_any l _ K hkl hRP _ (hU.kept hb00)).mono ?_
      rintro e w1 ⟨rfl, hb01⟩
      have hb1 := hb00.trans (hb01.mono hb00.size)
      rw [HKI.out]
      go_wp2_with fail
      refine (refIs1_any kk k0 k1 _).mono ?_
      rintro e w2 ⟨rfl, rfl⟩
      rw [HL.out]
      go_wp2_with fail
      go_ret
      exact ⟨ret_int hR.out.symm, hb1⟩
    have hC := Lib.hid (hF.out.trans (if_neg (fun h => h.2 h20)))
    have HL := Lib.hid hL
    clear hL
    subst h20
    go_enter Try.func17, Try.ntmps17
    go_wp2_with fail
    refine (refHas10_any l _ _ hl hz _ hU).mono ?_
    rintro e w0 ⟨rfl, hb00⟩
    rw [HH.out]
    go_wp2_with fail
    refine (ref16Kind_any l _ K hkl hRP _ (hU.kept hb00)).mono ?_
    rintro e w1 ⟨rfl, hb01⟩
    have hb1 := hb00.trans (hb01.mono hb00.size)
    rw [HKI.out]
    go_wp2_with fail
    refine (refIs1_any 20 k0 k1 _).mono ?_
    rintro e w2 ⟨rfl, rfl⟩
    rw [HL.out]
    have hg1 := hb1.size
    replace c2 := cellK hb1 hb c2
    have hat1 := hat.kept hb1
    cases ha : atO x.ats ⟨#[102, 111, 114, 109]⟩ with
    | none =>
      have hR := Lib.hid (show FormF l (K : Nat) = nearF l ⟨#[102, 111, 114, 109]⟩ (paOf l (K : Nat)) by rw [hC.out, ha]; exact hUp.out)
      clear hC
      have HA := Lib.hid ha
      clear ha
      go_wp2_with fail
      refine (refAttr14_any x.ats _ ⟨#[102, 111, 114, 109]⟩ (by omega) _ hat1).mono ?_
      rintro e w3 ⟨rfl, rfl⟩
      rw [HA.out]
      unfold atT
      go_wp2_with fail
      refine (refUp_any l _ K ⟨#[102, 111, 114, 109]⟩ hkl hRP _ (hU.kept hb1)).mono ?_
      rintro e w9 ⟨rfl, rfl⟩
      go_wp2_with fail
      go_ret
      exact ⟨ret_int hR.out.symm, hb1⟩
    | some s =>
      have HA := Lib.hid ha
      by_cases ht : topF l (K : Nat) = 0
      · have HT := Lib.hid ht
        rcases namedF_range l s with hf | ⟨hf0, hf1⟩
        · have hR := Lib.hid (show FormF l (K : Nat) = -1 by rw [hC.out, ha]; show (if topB l (K : Nat) = 0 then (if kindF l (namedF l s) = 30 then namedF l s else -1) else upB l (K : Nat) ⟨#[102, 111, 114, 109]⟩) = -1; rw [if_pos (hTp.out.trans ht), hf]; rfl)
          have HF := Lib.hid hf
          clear hC ha ht hf
          go_wp2_with fail
          refine (refAttr14_any x.ats _ ⟨#[102, 111, 114, 109]⟩ (by omega) _ hat1).mono ?_
          rintro e w3 ⟨rfl, rfl⟩
          rw [HA.out]
          unfold atT
          go_wp2_with fail
          refine (refTop_any l _ K hkl hRP _ (hU.kept hb1)).mono ?_
          rintro e w4 ⟨rfl, rfl⟩
          rw [HT.out]
          go_wp2_with fail
          refine (refByID_any l hRP _ s _ hz (hU.kept hb1)).mono ?_
          rintro e w5 ⟨rfl, hb5⟩
          have hb15 := hb1.trans (hb5.mono hg1)
          rw [HF.out]
          go_wp2_with fail
          go_ret
          exact ⟨ret_int hR.out.symm, hb15⟩
        · have HK := kindF_form hf0 hf1
          obtain ⟨q, hq⟩ := Int.eq_ofNat_of_zero_le hf0
          rw [hq] at hf0 hf1 HK
          have hql : q < l.length := by omega
          have hnq := nmOf_at hql
          by_cases hn : nmOf l (q : Nat) = ⟨#[102, 111, 114, 109]⟩
          · have hR := Lib.hid (show FormF l (K : Nat) = (q : Nat) by rw [hC.out, ha]; show (if topB l (K : Nat) = 0 then (if kindF l (namedF l s) = 30 then namedF l s else -1) else upB l (K : Nat) ⟨#[102, 111, 114, 109]⟩) = _; rw [if_pos (hTp.out.trans ht), hq, if_pos (HK.2 hn)])
            rw [hnq] at hn
            have HQ := Lib.hid hq
            have q1 := sTrue hn
            rw [form_toList] at q1
            clear hC ha ht hn hq HK hnq
            go_wp2_with fail
            refine (refAttr14_any x.ats _ ⟨#[102, 111, 114, 109]⟩ (by omega) _ hat1).mono ?_
            rintro e w3 ⟨rfl, rfl⟩
            rw [HA.out]
            unfold atT
            go_wp2_with fail
            refine (refTop_any l _ K hkl hRP _ (hU.kept hb1)).mono ?_
            rintro e w4 ⟨rfl, rfl⟩
            rw [HT.out]
            go_wp2_with fail
            refine (refByID_any l hRP _ s _ hz (hU.kept hb1)).mono ?_
            rintro e w5 ⟨rfl, hb5⟩
            have hb15 := hb1.trans (hb5.mono hg1)
            rw [HQ.out]
            obtain ⟨b2, o2, cap2, va2, vk2, hv2, hb2, g0, g1, g2, g3, g4, _, _⟩ := (hU.kept hb15).at hql
            cases hv2
            generalize l[q] = y at *
            go_wp2_with fail
            go_ret
            exact ⟨ret_int hR.out.symm, hb15⟩
          · have hR := Lib.hid (show FormF l (K : Nat) = -1 by rw [hC.out, ha]; show (if topB l (K : Nat) = 0 then (if kindF l (namedF l s) = 30 then namedF l s else -1) else upB l (K : Nat) ⟨#[102, 111, 114, 109]⟩) = _; rw [if_pos (hTp.out.trans ht), hq, if_neg (fun h => hn (HK.1 h))])
            rw [hnq] at hn
            have HQ := Lib.hid hq
            have q1 := sFalse hn
            rw [form_toList] at q1
            clear hC ha ht hn hq HK hnq
            go_wp2_with fail
            refine (refAttr14_any x.ats _ ⟨#[102, 111, 114, 109]⟩ (by omega) _ hat1).mono ?_
            rintro e w3 ⟨rfl, rfl⟩
            rw [HA.out]
            unfold atT
            go_wp2_with fail
            refine (refTop_any l _ K hkl hRP _ (hU.kept hb1)).mono ?_
            rintro e w4 ⟨rfl, rfl⟩
            rw [HT.out]
            go_wp2_with fail
            refine (refByID_any l hRP _ s _ hz (hU.kept hb1)).mono ?_
            rintro e w5 ⟨rfl, hb5⟩
            have hb15 := hb1.trans (hb5.mono hg1)
            rw [HQ.out]
            obtain ⟨b2, o2, cap2, va2, vk2, hv2, hb2, g0, g1, g2, g3, g4, _, _⟩ := (hU.kept hb15).at hql
            cases hv2
            generalize l[q] = y at *
            go_wp2_with fail
            go_ret
            exact ⟨ret_int hR.out.symm, hb15⟩
      · have hR := Lib.hid (show FormF l (K : Nat) = nearF l ⟨#[102, 111, 114, 109]⟩ (paOf l (K : Nat)) by rw [hC.out, ha]; show (if topB l (K : Nat) = 0 then (if kindF l (namedF l s) = 30 then namedF l s else -1) else upB l (K : Nat) ⟨#[102, 111, 114, 109]⟩) = _; rw [if_neg (fun h => ht (hTp.out.symm.trans h))]; exact hUp.out)
        have ht1 : (topF l (K : Nat) == 0) = false := intNe ht
        clear hC ha ht
        go_wp2_with fail
        refine (refAttr14_any x.ats _ ⟨#[102, 111, 114, 109]⟩ (by omega) _ hat1).mono ?_
        rintro e w3 ⟨rfl, rfl⟩
        rw [HA.out]
        unfold atT
        go_wp2_with fail
        refine (refTop_any l _ K hkl hRP _ (hU.kept hb1)).mono ?_
        rintro e w4 ⟨rfl, rfl⟩
        go_wp2_with fail
        refine (refUp_any l _ K ⟨#[102, 111, 114, 109]⟩ hkl hRP _ (hU.kept hb1)).mono ?_
        rintro e w9 ⟨rfl, rfl⟩
        go_wp2_with fail
        go_ret
        exact ⟨ret_int hR.out.symm, hb1⟩
  · have hC := Lib.hid (hF.out.trans (if_neg (fun h => by rw [hL] at h; cases h.1)))
    have HL := Lib.hid hL
    clear hL
    go_enter Try.func17, Try.ntmps17
    go_wp2_with fail
    refine (refHas10_any l _ _ hl hz _ hU).mono ?_
    rintro e w0 ⟨rfl, hb00⟩
    rw [HH.out]
    go_wp2_with fail
    refine (ref16Kind_any l _ K hkl hRP _ (hU.kept hb00)).mono ?_
    rintro e w1 ⟨rfl, hb01⟩
    have hb1 := hb00.trans (hb01.mono hb00.size)
    rw [HKI.out]
    go_wp2_with fail
    refine (refIs1_any kk k0 k1 _).mono ?_
    rintro e w2 ⟨rfl, rfl⟩
    rw [HL.out]
    have hg1 := hb1.size
    replace c2 := cellK hb1 hb c2
    have hat1 := hat.kept hb1
    cases ha : atO x.ats ⟨#[102, 111, 114, 109]⟩ with
    | none =>
      have hR := Lib.hid (show FormF l (K : Nat) = nearF l ⟨#[102, 111, 114, 109]⟩ (paOf l (K : Nat)) by rw [hC.out, ha]; exact hUp.out)
      clear hC
      have HA := Lib.hid ha
      clear ha
      go_wp2_with fail
      refine (refAttr14_any x.ats _ ⟨#[102, 111, 114, 109]⟩ (by omega) _ hat1).mono ?_
      rintro e w3 ⟨rfl, rfl⟩
      rw [HA.out]
      unfold atT
      go_wp2_with fail
      refine (refUp_any l _ K ⟨#[102, 111, 114, 109]⟩ hkl hRP _ (hU.kept hb1)).mono ?_
      rintro e w9 ⟨rfl, rfl⟩
      go_wp2_with fail
      go_ret
      exact ⟨ret_int hR.out.symm, hb1⟩
    | some s =>
      have HA := Lib.hid ha
      by_cases ht : topF l (K : Nat) = 0
      · have HT := Lib.hid ht
        rcases namedF_range l s with hf | ⟨hf0, hf1⟩
        · have hR := Lib.hid (show FormF l (K : Nat) = -1 by rw [hC.out, ha]; show (if topB l (K : Nat) = 0 then (if kindF l (namedF l s) = 30 then namedF l s else -1) else upB l (K : Nat) ⟨#[102, 111, 114, 109]⟩) = -1; rw [if_pos (hTp.out.trans ht), hf]; rfl)
          have HF := Lib.hid hf
          clear hC ha ht hf
          go_wp2_with fail
          refine (refAttr14_any x.ats _ ⟨#[102, 111, 114, 109]⟩ (by omega) _ hat1).mono ?_
          rintro e w3 ⟨rfl, rfl⟩
          rw [HA.out]
          unfold atT
          go_wp2_with fail
          refine (refTop_any l _ K hkl hRP _ (hU.kept hb1)).mono ?_
          rintro e w4 ⟨rfl, rfl⟩
          rw [HT.out]
          go_wp2_with fail
          refine (refByID_any l hRP _ s _ hz (hU.kept hb1)).mono ?_
          rintro e w5 ⟨rfl, hb5⟩
          have hb15 := hb1.trans (hb5.mono hg1)
          rw [HF.out]
          go_wp2_with fail
          go_ret
          exact ⟨ret_int hR.out.symm, hb15⟩
        · have HK := kindF_form hf0 hf1
          obtain ⟨q, hq⟩ := Int.eq_ofNat_of_zero_le hf0
          rw [hq] at hf0 hf1 HK
          have hql : q < l.length := by omega
          have hnq := nmOf_at hql
          by_cases hn : nmOf l (q : Nat) = ⟨#[102, 111, 114, 109]⟩
          · have hR := Lib.hid (show FormF l (K : Nat) = (q : Nat) by rw [hC.out, ha]; show (if topB l (K : Nat) = 0 then (if kindF l (namedF l s) = 30 then namedF l s else -1) else upB l (K : Nat) ⟨#[102, 111, 114, 109]⟩) = _; rw [if_pos (hTp.out.trans ht), hq, if_pos (HK.2 hn)])
            rw [hnq] at hn
            have HQ := Lib.hid hq
            have q1 := sTrue hn
            rw [form_toList] at q1
            clear hC ha ht hn hq HK hnq
            go_wp2_with fail
            refine (refAttr14_any x.ats _ ⟨#[102, 111, 114, 109]⟩ (by omega) _ hat1).mono ?_
            rintro e w3 ⟨rfl, rfl⟩
            rw [HA.out]
            unfold atT
            go_wp2_with fail
            refine (refTop_any l _ K hkl hRP _ (hU.kept hb1)).mono ?_
            rintro e w4 ⟨rfl, rfl⟩
            rw [HT.out]
            go_wp2_with fail
            refine (refByID_any l hRP _ s _ hz (hU.kept hb1)).mono ?_
            rintro e w5 ⟨rfl, hb5⟩
            have hb15 := hb1.trans (hb5.mono hg1)
            rw [HQ.out]
            obtain ⟨b2, o2, cap2, va2, vk2, hv2, hb2, g0, g1, g2, g3, g4, _, _⟩ := (hU.kept hb15).at hql
            cases hv2
            generalize l[q] = y at *
            go_wp2_with fail
            go_ret
            exact ⟨ret_int hR.out.symm, hb15⟩
          · have hR := Lib.hid (show FormF l (K : Nat) = -1 by rw [hC.out, ha]; show (if topB l (K : Nat) = 0 then (if kindF l (namedF l s) = 30 then namedF l s else -1) else upB l (K : Nat) ⟨#[102, 111, 114, 109]⟩) = _; rw [if_pos (hTp.out.trans ht), hq, if_neg (fun h => hn (HK.1 h))])
            rw [hnq] at hn
            have HQ := Lib.hid hq
            have q1 := sFalse hn
            rw [form_toList] at q1
            clear hC ha ht hn hq HK hnq
            go_wp2_with fail
            refine (refAttr14_any x.ats _ ⟨#[102, 111, 114, 109]⟩ (by omega) _ hat1).mono ?_
            rintro e w3 ⟨rfl, rfl⟩
            rw [HA.out]
            unfold atT
            go_wp2_with fail
            refine (refTop_any l _ K hkl hRP _ (hU.kept hb1)).mono ?_
            rintro e w4 ⟨rfl, rfl⟩
            rw [HT.out]
            go_wp2_with fail
            refine (refByID_any l hRP _ s _ hz (hU.kept hb1)).mono ?_
            rintro e w5 ⟨rfl, hb5⟩
            have hb15 := hb1.trans (hb5.mono hg1)
            rw [HQ.out]
            obtain ⟨b2, o2, cap2, va2, vk2, hv2, hb2, g0, g1, g2, g3, g4, _, _⟩ := (hU.kept hb15).at hql
            cases hv2
            generalize l[q] = y at *
            go_wp2_with fail
            go_ret
            exact ⟨ret_int hR.out.symm, hb15⟩
      · have hR := Lib.hid (show FormF l (K : Nat) = nearF l ⟨#[102, 111, 114, 109]⟩ (paOf l (K : Nat)) by rw [hC.out, ha]; show (if topB l (K : Nat) = 0 then (if kindF l (namedF l s) = 30 then namedF l s else -1) else upB l (K : Nat) ⟨#[102, 111, 114, 109]⟩) = _; rw [if_neg (fun h => ht (hTp.out.symm.trans h))]; exact hUp.out)
        have ht1 : (topF l (K : Nat) == 0) = false := intNe ht
        clear hC ha ht
        go_wp2_with fail
        refine (refAttr14_any x.ats _ ⟨#[102, 111, 114, 109]⟩ (by omega) _ hat1).mono ?_
        rintro e w3 ⟨rfl, rfl⟩
        rw [HA.out]
        unfold atT
        go_wp2_with fail
        refine (refTop_any l _ K hkl hRP _ (hU.kept hb1)).mono ?_
        rintro e w4 ⟨rfl, rfl⟩
        go_wp2_with fail
        refine (refUp_any l _ K ⟨#[102, 111, 114, 109]⟩ hkl hRP _ (hU.kept hb1)).mono ?_
        rintro e w9 ⟨rfl, rfl⟩
        go_wp2_with fail
        go_ret
        exact ⟨ret_int hR.out.symm, hb1⟩
end Go.Proofs.Ytenicjebccdekaa

/-
  FORMS' ELEMENTS, LABELS' CONTROLS, WHAT IS DISABLED: plain laws.
-/
namespace Go.Proofs.Ytenicjebccdekaa
set_option linter.unusedVariables false
set_option linter.unusedSimpArgs false
open Go.RowKit PT

theorem topF_all {l : List Nd} (h : RightP l) : ∀ (n : Nat) (k : Int), dep l k ≤ n → 0 ≤ k → k < l.length → 0 ≤ topF l k ∧ topF l k < l.length ∧ paOf l (topF l k) < 0 ∧ Anc l k (topF l k)
  | 0, k, hn, h0, h1 => by have := dep_eq h h0 h1; omega
  | n + 1, k, hn, h0, h1 => by
    by_cases hp : paOf l k < 0
    · rw [topF_end h h0 h1 hp]
      exact ⟨h0, h1, hp, Anc.self h h0 h1⟩
    · have hd := dep_eq h h0 h1
      rw [topF_go h h0 h1 (by omega)]
      obtain ⟨a, b, c, d⟩ := topF_all h n (paOf l k) (by omega) (by omega) (h.pa_lt h0 h1)
      refine ⟨a, b, c, ?_⟩
      by_cases e : k = topF l (paOf l k)
      · rw [← e] at c; omega
      · exact (Anc.step h h0 h1 e).2 d
theorem topF_range {l : List Nd} (h : RightP l) {k : Int} (h0 : 0 ≤ k) (h1 : k < l.length) : 0 ≤ topF l k ∧ topF l k < l.length := by
  obtain ⟨a, b, _⟩ := topF_all h _ k (Nat.le_refl _) h0 h1
  exact ⟨a, b⟩
theorem hasB_yes {l : List Nd} (h : RightP l) {k : Int} (h0 : 0 ≤ k) (h1 : k < l.length) : hasB l k = true := (hasB_iff l k).2 ⟨h0, h1, h⟩
theorem kindF_in {l : List Nd} {k : Int} (h0 : 0 ≤ k) (h1 : k < l.length) : kindF l k = kOf l k := if_pos ⟨h0, h1⟩
theorem kindF_pos {l : List Nd} {k : Int} (h : kindF l k ≠ 0) : 0 ≤ k ∧ k < l.length := by
  unfold kindF at h
  split at h
  · assumption
  · exact absurd rfl h
/-- all nodes in the order of a form's document -/
noncomputable def inF (l : List Nd) (id : Int) : List Int := if rightB l = true ∧ kindF l id = 30 then ord l (topF l id) else []
noncomputable def elP (l : List Nd) (id : Int) (k : Int) : Bool := listB (kindF l k) && decide (formF l k = id)
noncomputable def elemsF (l : List Nd) (id : Int) : List Int := (inF l id).filter (elP l id)
noncomputable def defP (l : List Nd) (id : Int) (k : Int) : Bool := firesB (kindF l k) && decide (formF l k = id)
noncomputable def defF (l : List Nd) (id : Int) : Int := firstF (defP l id) (inF l id)
noncomputable def ctlF (l : List Nd) (id : Int) : Int := if rightB l = true ∧ kindF l id = 31 then (match attF l id ⟨#[102, 111, 114]⟩ with
  | some s => if labelB (kindF l (namedF l s)) = true then namedF l s else -1
  | none => firstF (fun k => labelB (kindF l k)) (ord l id).tail) else -1
/-- a fieldset's first legend -/
def legF (l : List Nd) (id : Int) : Int := firstF (fun k => decide (kindF l k = 34)) (ksOf l id)
def disA (l : List Nd) (i : Int) : Bool := (atO (atsOf l i) ⟨#[100, 105, 115, 97, 98, 108, 101, 100]⟩).isSome
/-- is what lies above a node a fieldset that disables it? -/
def setP (l : List Nd) (c : Int) : Bool := decide (0 ≤ paOf l c) && (decide (kindF l (paOf l c) = 29) && (disA l (paOf l c) && decide (legF l (paOf l c) ≠ c)))
def upDis (l : List Nd) (k : Int) : Bool := cl l (fun c => if setP l c = true then some true else none) false k
noncomputable def disF (l : List Nd) (id : Int) : Bool := (rightB l && (submB (kindF l id) || decide (kindF l id = 29))) && (disA l id || upDis l id)
theorem inF_mem {l : List Nd} {id : Int} {k : Int} (h : k ∈ inF l id) : RightP l ∧ 0 ≤ id ∧ id < l.length ∧ 0 ≤ k ∧ k < l.length ∧ Anc l k (topF l id) := by
  unfold inF at h
  split at h
  · rename_i hc
    have hRP := (rightB_iff l).1 hc.1
    obtain ⟨i0, i1⟩ := kindF_pos (l := l) (k := id) (by omega)
    obtain ⟨t0, t1⟩ := topF_range hRP i0 i1
    obtain ⟨a, b, c⟩ := ord_mem hRP t0 t1 h
    exact ⟨hRP, i0, i1, a, b, c⟩
  · cases h
theorem inF_len {l : List Nd} (id : Int) : (inF l id).length ≤ l.length := by
  unfold inF
  split
  · rename_i hc
    have hRP := (rightB_iff l).1 hc.1
    obtain ⟨i0, i1⟩ := kindF_pos (l := l) (k := id) (by omega)
    obtain ⟨t0, t1⟩ := topF_range hRP i0 i1
    exact ord_len hRP t0 t1
  · simp
theorem filter_snoc {p : Int → Bool} {t : List Int} {k : Nat} (h : k < t.length) : (t.take (k + 1)).filter p = (t.take k).filter p ++ if p t[k] = true then [t[k]] else [] := by
  rw [List.take_succ_eq_append_getElem h, List.filter_append]
  congr 1
  by_cases hp : p t[k] = true
  · rw [if_pos hp]; simp [hp]
  · rw [if_neg hp]; simp [hp]
theorem formF_Form {l : List Nd} (h : rightB l = true) (k : Int) : FormF l k = formF l k := if_pos h
theorem isF_30 {l : List Nd} {id k : Int} (hk : k ≠ 0) : isF l id k = true ↔ rightB l = true ∧ kindF l id = k := by
  unfold isF
  rw [Bool.and_eq_true, decide_eq_true_iff, hasB_iff, rightB_iff]
  constructor
  · rintro ⟨⟨a, b, c⟩, d⟩
    exact ⟨c, by rw [kindF_in a b]; exact d⟩
  · rintro ⟨c, d⟩
    obtain ⟨a, b⟩ := kindF_pos (l := l) (k := id) (by omega)
    exact ⟨⟨a, b, c⟩, by rw [← kindF_in a b]; exact d⟩
theorem RightP.kid_of {l : List Nd} (h : RightP l) {c : Int} (h0 : 0 ≤ c) (h1 : c < l.length) (hp : 0 ≤ paOf l c) : c ∈ ksOf l (paOf l c) := by
  obtain ⟨q, rfl⟩ := Int.eq_ofNat_of_zero_le h0
  have hq : q < l.length := by omega
  rw [paOf_at hq] at hp ⊢
  have := h.once q _ (List.getElem?_eq_getElem hq) hp
  exact List.count_pos_iff.1 (by omega)
theorem ord_trans {l : List Nd} (h : RightP l) {m c : Int} (hc : c ∈ ksOf l m) : ∀ (n : Nat) (k : Int), l.length + 2 ≤ n + dep l k → 0 ≤ k → k < l.length → m ∈ ord l k → c ∈ ord l k := by
  intro n
  induction n with
  | zero => intro k hd; have := dep_le l k; omega
  | succ n ih =>
    intro k hd h0 h1 hm
    rw [ord_eq h h0 h1] at hm ⊢
    rcases List.mem_cons.1 hm with e | hm
    · subst e
      refine List.mem_cons_of_mem _ (List.mem_flatMap.2 ⟨c, hc, ?_⟩)
      obtain ⟨c0, c1, _⟩ := h.kid h0 h1 hc
      rw [ord_eq h c0 c1]
      exact List.mem_cons_self ..
    · obtain ⟨q, hq, hmq⟩ := List.mem_flatMap.1 hm
      obtain ⟨q0, q1, _⟩ := h.kid h0 h1 hq
      exact List.mem_cons_of_mem _ (List.mem_flatMap.2 ⟨q, hq, ih q (by rw [dep_kid h h0 h1 hq]; omega) q0 q1 hmq⟩)
/-- completeness of the order -/
theorem ord_full {l : List Nd} (h : RightP l) {k : Int} : ∀ (n : Nat) (c : Int), dep l c ≤ n → 0 ≤ c → c < l.length → Anc l c k → c ∈ ord l k ∧ 0 ≤ k ∧ k < l.length := by
  intro n
  induction n with
  | zero => intro c hd h0 h1 _; have := dep_eq h h0 h1; omega
  | succ n ih =>
    intro c hd h0 h1 ha
    by_cases e : c = k
    · subst e
      exact ⟨by rw [ord_eq h h0 h1]; exact List.mem_cons_self .., h0, h1⟩
    · have ha' := (Anc.step h h0 h1 e).1 ha
      have p0 := ha'.nonneg
      have hde := dep_eq h h0 h1
      obtain ⟨hm, k0, k1⟩ := ih (paOf l c) (by omega) p0 (h.pa_lt h0 h1) ha'
      refine ⟨?_, k0, k1⟩
      exact ord_trans h (h.kid_of h0 h1 p0) (l.length + 2) k (by omega) k0 k1 hm
end Go.Proofs.Ytenicjebccdekaa

/-
  A FORM's ELEMENTS AND DEFAULT BUTTON: owner.in, Elements, Default: the walks.
-/
namespace Go.Proofs.Ytenicjebccdekaa
set_option linter.unusedVariables false
set_option linter.unusedSimpArgs false
open Go.RowKit PT

set_option maxHeartbeats 4000000 in
set_option maxRecDepth 100000 in
theorem ownerIn_any (l : List Nd) (v : Value) (id : Int) (hl : l.length ≤ 1000000000000000000) (hz : ∀ x ∈ l, Fits x) (w : World) (hU : Nodes l v w) :
    Calls Try.prog 59 #[v, .int .i64 id] w fun e w' => ∃ a cap, e = .returned (.slice a (inF l id).length cap) ∧ OV w.heap.size 3 (ints (inF l id)) (.slice a (inF l id).length cap) w' ∧ Below w.heap.size w w' := by
  obtain ⟨a, cap, rfl⟩ := hU.len
  cases hr : rightB l
  · have hR := Lib.hid (show inF l id = [] from if_neg (fun h => by rw [hr] at h; cases h.1))
    have HR := Lib.hid hr
    clear hr
    go_enter Try.func59, Try.ntmps59
    go_wp2_with fail
    refine (right_any l _ hl hz _ hU).mono ?_
    rintro e w' ⟨rfl, hb⟩
    rw [HR.out]
    go_wp2_with fail
    go_ret
    exact ⟨none, 0, by rw [hR.out]; rfl, by rw [hR.out]; exact OV.nil _ _ _, hb⟩
  have HR := Lib.hid hr
  have hRP := (rightB_iff l).1 hr
  by_cases hk : kindF l id = 30
  case neg =>
    have hR := Lib.hid (show inF l id = [] from if_neg (fun h => hk h.2))
    clear hr
    obtain ⟨kk, hkk⟩ : ∃ kk, kindF l id = kk := ⟨_, rfl⟩
    rw [hkk] at hk
    have HK := Lib.hid hkk
    have q1 : (kk == 30) = false := intNe hk
    have q2 : (kk != 30) = true := by rw [bne, q1]; rfl
    clear hkk hk
    go_enter Try.func59, Try.ntmps59
    go_wp2_with fail
    refine (right_any l _ hl hz _ hU).mono ?_
    rintro e w' ⟨rfl, hb⟩
    rw [HR.out]
    go_wp2_with fail
    refine (ownerKind_any l _ id hl hRP.vals _ (hU.kept hb)).mono ?_
    rintro e w2 ⟨rfl, hb2⟩
    rw [HK.out]
    go_wp2_with fail
    go_ret
    exact ⟨none, 0, by rw [hR.out]; rfl, by rw [hR.out]; exact OV.nil _ _ _, bs hb hb2⟩
  obtain ⟨i0, i1⟩ := kindF_pos (l := l) (k := id) (by omega)
  obtain ⟨t0, t1⟩ := topF_range hRP i0 i1
  have hR := Lib.hid (show inF l id = ordB l (topB l id) by
    unfold inF ordB topB
    rw [if_pos ⟨hr, hk⟩, if_pos (hasB_yes hRP i0 i1), if_pos (hasB_yes hRP t0 t1)])
  have HK := Lib.hid hk
  clear hr hk t0 t1
  go_enter Try.func59, Try.ntmps59
  go_wp2_with fail
  refine (right_any l _ hl hz _ hU).mono ?_
  rintro e w' ⟨rfl, hb⟩
  rw [HR.out]
  go_wp2_with fail
  refine (ownerKind_any l _ id hl hRP.vals _ (hU.kept hb)).mono ?_
  rintro e w2 ⟨rfl, hb2⟩
  rw [HK.out]
  have hb02 := bs hb hb2
  go_wp2_with fail
  refine (top_any l _ id hl hz _ (hU.kept hb02)).mono ?_
  rintro e w3 ⟨rfl, hb3⟩
  have hb03 := bs hb02 hb3
  go_wp2_with fail
  refine (orderTop_any l _ (topB l id) hl hz _ (hU.kept hb03)).mono ?_
  rintro e w4 ⟨vo, rfl, hov, hb4⟩
  go_wp2_with fail
  go_ret
  rw [hR.out]
  obtain ⟨a1, c1, rfl, _⟩ := hov.form
  rw [ints_len] at hov ⊢
  exact ⟨a1, c1, rfl, ov_base hov hb03.size, bs hb03 hb4⟩
set_option maxHeartbeats 4000000 in
set_option maxRecDepth 100000 in
theorem elements_any (l : List Nd) (v : Value) (id : Int) (hl : l.length ≤ 1000000000000000000) (hz : ∀ x ∈ l, Fits x) (w : World) (hU : Nodes l v w) :
    Calls Try.prog 19 #[v, .int .i64 id] w fun e w' => ∃ vo, e = .returned vo ∧ OV w.heap.size 3 (ints (elemsF l id)) vo w' ∧ Below w.heap.size w w' := by
  obtain ⟨a, cap, rfl⟩ := hU.len
  have hlen := inF_len (l := l) id
  have hmem := Lib.hid (fun k (h : k ∈ inF l id) => inF_mem h)
  have hR := Lib.hid (show elemsF l id = (inF l id).filter (elP l id) from rfl)
  have HP := Lib.hid (fun k => show elP l id k = (listB (kindF l k) && decide (formF l k = id)) from rfl)
  go_enter Try.func19, Try.ntmps19
  go_wp2_with fail
  refine (ownerIn_any l _ id hl hz _ hU).mono ?_
  generalize inF l id = I at hlen hmem hR ⊢
  rintro e w1 ⟨a1, c1, rfl, hov, hb1⟩
  have hg1 := hb1.size
  have hsi : I.length ≤ 1000000000000000000 := by omega
  go_wp2_with fail
  go_loopw [5, 12] (fun vo i wr => ∃ k : Nat, k ≤ I.length ∧ i = .int .i64 k ∧ OV w1.heap.size 3 (ints ((I.take k).filter (elP l id))) vo wr ∧ Below w1.heap.size w1 wr) (fun _ i _ => I.length - (intOf i).toNat)
  case atStart => exact ⟨0, Nat.zero_le _, rfl, OV.nil _ _ _, Below.refl _ _⟩
  case round =>
    obtain ⟨k, hk, rfl, ho, hbel⟩ := hrel
    have hb0r := hb1.trans (hbel.mono hg1)
    have hsz := hbel.size
    by_cases hlt : k < I.length
    · obtain ⟨hRP, id0, id1, c0, c1', _⟩ := hmem.out I[k] (List.getElem_mem hlt)
      have hov' := hov.kept hbel
      obtain ⟨g, gc, hv, _, hcell⟩ := hov'.at (by intro e; have := congrArg List.length e; rw [ints_len, List.length_nil] at this; omega)
      rw [ints_len] at hv
      cases hv
      have hcc := hcell k (.int .i64 I[k]) (by rw [ints, List.getElem?_map, List.getElem?_eq_getElem hlt]; rfl)
      have hfs := Lib.hid (filter_snoc (p := elP l id) hlt)
      have hfl : ((I.take k).filter (elP l id)).length ≤ k := Nat.le_trans (List.length_filter_le _ _) (List.length_take_le _ _)
      have hmax := hRP.max
      have hk0 : (0 : Int) ≤ (k : Int) := by omega
      have hk1 : (k : Int) < (I.length : Int) := by omega
      have hp := HP.out I[k]
      obtain ⟨r0, r1⟩ := kindF_range l I[k]
      generalize I[k] = c at *
      cases hL : listB (kindF l c)
      · have HL := Lib.hid hL
        have hE := Lib.hid (show (if elP l id c = true then [c] else []) = ([] : List Int) by rw [hp, hL]; rfl)
        clear hp hL
        go_wp2_with fail
        refine (ownerKind_any l _ c hl hRP.vals _ (hU.kept hb0r)).mono ?_
        rintro e w2 ⟨rfl, hb2⟩
        go_wp2_with fail
        refine (kindsListed_any _ r0 r1 _).mono ?_
        rintro e w3 ⟨rfl, rfl⟩
        rw [HL.out]
        go_wp2_with fail
        go_roundw
        case rel => exact ⟨k + 1, by omega, by go_num, by rw [hfs.out, hE.out, List.append_nil]; exact ho.kept hb2, bs hbel hb2⟩
        case measure => simp [intOf]; omega
      · have HL := Lib.hid hL
        by_cases hf : formF l c = id
        · have HF := Lib.hid hf
          have hE := Lib.hid (show (if elP l id c = true then [c] else []) = [c] by rw [hp, hL, decide_eq_true hf]; rfl)
          clear hp hL hf
          go_wp2_with fail
          refine (ownerKind_any l _ c hl hRP.vals _ (hU.kept hb0r)).mono ?_
          rintro e w2 ⟨rfl, hb2⟩
          have hb02 := bs hb0r hb2
          go_wp2_with fail
          refine (kindsListed_any _ r0 r1 _).mono ?_
          rintro e w3 ⟨rfl, rfl⟩
          rw [HL.out]
          go_wp2_with fail
          refine (ownerForm_any l _ c hl hz hRP.vals _ (hU.kept hb02)).mono ?_
          rintro e w4 ⟨rfl, hb4⟩
          rw [HF.out]
          have hb14 := bs (bs hbel hb2) hb4
          have ho4 := (ho.kept hb2).kept hb4
          have hg4 := hb14.size
          go_wp2_with (at_builtin; refine wpList_append_cell rfl _ _ 28 3 rfl Try.underlying28 info_i64 rfl (by decide) rfl rfl (.int .i64 c) rfl ho4 (by rw [ints_len]; omega) hg4 ?_; intro v' w5 hov5 hb5)
          go_roundw
          case rel => exact ⟨k + 1, by omega, by go_num, by rw [hfs.out, hE.out, ints_snoc]; exact hov5, hb14.trans hb5⟩
          case measure => simp [intOf]; omega
        · have hE := Lib.hid (show (if elP l id c = true then [c] else []) = ([] : List Int) by rw [hp, hL, decide_eq_false hf]; rfl)
          clear hp hL
          have q1 := intNe hf
          have HQ := Lib.hid q1
          clear q1 hf
          go_wp2_with fail
          refine (ownerKind_any l _ c hl hRP.vals _ (hU.kept hb0r)).mono ?_
          rintro e w2 ⟨rfl, hb2⟩
          have hb02 := bs hb0r hb2
          go_wp2_with fail
          refine (kindsListed_any _ r0 r1 _).mono ?_
          rintro e w3 ⟨rfl, rfl⟩
          rw [HL.out]
          go_wp2_with fail
          refine (ownerForm_any l _ c hl hz hRP.vals _ (hU.kept hb02)).mono ?_
          rintro e w4 ⟨rfl, hb4⟩
          have q1 := HQ.out
          have hb14 := bs (bs hbel hb2) hb4
          have ho4 := (ho.kept hb2).kept hb4
          go_wp2_with fail
          go_roundw
          case rel => exact ⟨k + 1, by omega, by go_num, by rw [hfs.out, hE.out, List.append_nil]; exact ho4, hb14⟩
          case measure => simp [intOf]; omega
    · obtain rfl : k = I.length := by omega
      rw [List.take_of_length_le (Nat.le_refl _)] at ho
      go_wp2_with fail
      go_ret
      exact ⟨_, rfl, by rw [hR.out]; exact ov_base ho hg1, hb0r⟩
set_option maxHeartbeats 4000000 in
set_option maxRecDepth 100000 in
theorem default_any (l : List Nd) (v : Value) (id : Int) (hl : l.length ≤ 1000000000000000000) (hz : ∀ x ∈ l, Fits x) (w : World) (hU : Nodes l v w) :
    Calls Try.prog 21 #[v, .int .i64 id] w fun e w' => e = .returned (.int .i64 (defF l id)) ∧ Below w.heap.size w w' := by
  obtain ⟨a, cap, rfl⟩ := hU.len
  have hlen := inF_len (l := l) id
  have hmem := Lib.hid (fun k (h : k ∈ inF l id) => inF_mem h)
  have hR := Lib.hid (show defF l id = firstF (defP l id) (inF l id) from rfl)
  have HP := Lib.hid (fun k => show defP l id k = (firesB (kindF l k) && decide (formF l k = id)) from rfl)
  go_enter Try.func21, Try.ntmps21
  go_wp2_with fail
  refine (ownerIn_any l _ id hl hz _ hU).mono ?_
  generalize inF l id = I at hlen hmem hR ⊢
  rintro e w1 ⟨a1, c1, rfl, hov, hb1⟩
  have hg1 := hb1.size
  have hsi : I.length ≤ 1000000000000000000 := by omega
  go_wp2_with fail
  go_loopw [11] (fun i wr => ∃ k : Nat, k ≤ I.length ∧ i = .int .i64 k ∧ Hid (∀ x ∈ I.take k, defP l id x = false) ∧ Below w1.heap.size w1 wr) (fun i _ => I.length - (intOf i).toNat)
  case atStart => exact ⟨0, Nat.zero_le _, rfl, Lib.hid (by simp), Below.refl _ _⟩
  case round =>
    obtain ⟨k, hk, rfl, hA, hbel⟩ := hrel
    have hb0r := hb1.trans (hbel.mono hg1)
    have hsz := hbel.size
    by_cases hlt : k < I.length
    · obtain ⟨hRP, id0, id1, c0, c1', _⟩ := hmem.out I[k] (List.getElem_mem hlt)
      have hov' := hov.kept hbel
      obtain ⟨g, gc, hv, _, hcell⟩ := hov'.at (by intro e; have := congrArg List.length e; rw [ints_len, List.length_nil] at this; omega)
      rw [ints_len] at hv
      cases hv
      have hcc := hcell k (.int .i64 I[k]) (by rw [ints, List.getElem?_map, List.getElem?_eq_getElem hlt]; rfl)
      have hT := Lib.hid (fun h => take_mem_snoc (P := fun x => defP l id x = false) hlt hA.out h)
      have hH := Lib.hid (fun h => firstF_hit (p := defP l id) hlt hA.out h)
      have hk0 : (0 : Int) ≤ (k : Int) := by omega
      have hk1 : (k : Int) < (I.length : Int) := by omega
      have hp := HP.out I[k]
      obtain ⟨r0, r1⟩ := kindF_range l I[k]
      generalize I[k] = c at *
      cases hL : firesB (kindF l c)
      · have HL := Lib.hid hL
        have hN := Lib.hid (hT.out (by rw [hp, hL]; rfl))
        clear hp hL
        go_wp2_with fail
        refine (ownerKind_any l _ c hl hRP.vals _ (hU.kept hb0r)).mono ?_
        rintro e w2 ⟨rfl, hb2⟩
        go_wp2_with fail
        refine (kindsFires_any _ r0 r1 _).mono ?_
        rintro e w3 ⟨rfl, rfl⟩
        rw [HL.out]
        go_wp2_with fail
        go_roundw
        case rel => exact ⟨k + 1, by omega, by go_num, hN, bs hbel hb2⟩
        case measure => simp [intOf]; omega
      · have HL := Lib.hid hL
        by_cases hf : formF l c = id
        · have HF := Lib.hid hf
          have hE := Lib.hid (hR.out.trans (hH.out (by rw [hp, hL, decide_eq_true hf]; rfl)))
          clear hp hL hf
          go_wp2_with fail
          refine (ownerKind_any l _ c hl hRP.vals _ (hU.kept hb0r)).mono ?_
          rintro e w2 ⟨rfl, hb2⟩
          have hb02 := bs hb0r hb2
          go_wp2_with fail
          refine (kindsFires_any _ r0 r1 _).mono ?_
          rintro e w3 ⟨rfl, rfl⟩
          rw [HL.out]
          go_wp2_with fail
          refine (ownerForm_any l _ c hl hz hRP.vals _ (hU.kept hb02)).mono ?_
          rintro e w4 ⟨rfl, hb4⟩
          rw [HF.out]
          go_wp2_with fail
          go_ret
          exact ⟨ret_int hE.out.symm, bs hb02 hb4⟩
        · have hN := Lib.hid (hT.out (by rw [hp, hL, decide_eq_false hf]; rfl))
          clear hp hL
          have q1 := intNe hf
          have HQ := Lib.hid q1
          clear q1 hf
          go_wp2_with fail
          refine (ownerKind_any l _ c hl hRP.vals _ (hU.kept hb0r)).mono ?_
          rintro e w2 ⟨rfl, hb2⟩
          have hb02 := bs hb0r hb2
          go_wp2_with fail
          refine (kindsFires_any _ r0 r1 _).mono ?_
          rintro e w3 ⟨rfl, rfl⟩
          rw [HL.out]
          go_wp2_with fail
          refine (ownerForm_any l _ c hl hz hRP.vals _ (hU.kept hb02)).mono ?_
          rintro e w4 ⟨rfl, hb4⟩
          have q1 := HQ.out
          go_wp2_with fail
          go_roundw
          case rel => exact ⟨k + 1, by omega, by go_num, hN, bs (bs hbel hb2) hb4⟩
          case measure => simp [intOf]; omega
    · obtain rfl : k = I.length := by omega
      have hN := Lib.hid (hR.out.trans (firstF_none (by have := hA.out; rwa [List.take_of_length_le (Nat.le_refl _)] at this)))
      go_wp2_with fail
      go_ret
      exact ⟨ret_int hN.out.symm, hb0r⟩
end Go.Proofs.Ytenicjebccdekaa

/-
  A MAP OF ROWS THAT THE CALL ITSELF FILLS by 'm[k] = append(m[k], v)', where that is told by an entry and a store at it: the laws.
-/
namespace Go.Proofs.Ytenicjebccdekaa
set_option linter.unusedVariables false
set_option linter.unusedSimpArgs false
open Go.RowKit Go.ChangeMaps Go.MapKept Go.ChangeShapes
open Go.WideElems (Fit rd rg findIdx_born findIdx_arr modify_last set_self)
open Go.Maps (Keyed)

theorem set_set {w : World} {b : Nat} (o o' : Obj) : setBlock (setBlock w b o) b o' = setBlock w b o' := by
  unfold setBlock
  simp
theorem set_at {w : World} {b : Nat} (hb : b < w.heap.size) (o : Obj) : (setBlock w b o).heap[b]? = some o := by
  unfold setBlock
  simp [hb]
theorem set_off {w : World} {b i : Nat} (o : Obj) (h : i ≠ b) : (setBlock w b o).heap[i]? = w.heap[i]? := by
  unfold setBlock
  simp only [Array.getElem?_setIfInBounds]
  rw [if_neg (fun e => h e.symm)]
theorem set_grown (w : World) (b : Nat) (o : Obj) : w.grownBy (setBlock w b o) (some b) :=
  ⟨rfl, rfl, rfl, by simp [setBlock], fun i _ hi => set_off o (fun e => hi (by rw [e]))⟩
section
variable {P : Program} {t k e : TypeId} {b : Nat} {es : Array MapEntry} {clock : Nat}
/-- what an entry, a store at it, a store and a look-up at one key do: in every world that has the map -/
theorem entry_run (K : Keyed P k) (ht : P.underlying t = some (.map k e)) {z : Value} (hz : ∀ u : World, (zeroValue e).run P u = .ok z u) (hS : Stamped es clock) (hkeys : ∀ x ∈ es.toList, ∃ l, keyOf P k x.key = some l)
    {key : Value} {kl : Lit} (hkey : keyOf P k key = some kl) :
    ∃ (v0 : Value) (st : Nat) (es1 : Array MapEntry) (clock1 : Nat),
      (∀ u : World, u.heap[b]? = some (.map es clock) → (Instr.mapEntry t (.map (some b)) key).run P u = .ok (.tuple #[v0, goInt st]) (setBlock u b (.map es1 clock1))) ∧
      (∀ u : World, u.heap[b]? = some (.map es clock) → (Instr.lookup t (.map (some b)) key false).run P u = .ok v0 u) ∧ (v0 = z ∨ ∃ x ∈ es.toList, v0 = x.val) ∧
      ∀ val : Value, ∃ es' clock', (∀ x ∈ es'.toList, x ∈ es.toList ∨ x.val = val) ∧ (∀ u : World, u.heap[b]? = some (.map es1 clock1) → (Instr.entryStore t (.map (some b)) (goInt st) val).run P u = .ok () (setBlock u b (.map es' clock'))) ∧
        ∀ u : World, u.heap[b]? = some (.map es clock) → (Instr.mapUpdate t (.map (some b)) key val).run P u = .ok () (setBlock u b (.map es' clock')) := by
  obtain ⟨s1, s2, s3⟩ := (stamped_iff es clock).1 hS
  by_cases hex : ∃ (j : Nat) (e0 : MapEntry), es.toList[j]? = some e0 ∧ e0.key = key
  · obtain ⟨j, e0, h2, h3⟩ := hex
    have hfind : ∀ u : World, (Instr.findKey k key es.toList).run P u = .ok (some (j, e0.val)) u := by
      intro u
      rcases K.find u hkey es.toList hkeys with ⟨_, h5⟩ | ⟨j', e0', h4, h5, h6⟩
      · exact absurd h3 (h5 e0 (List.mem_of_getElem? h2))
      · obtain ⟨hj, e1⟩ := List.getElem?_eq_some_iff.1 h2
        obtain ⟨hj', e1'⟩ := List.getElem?_eq_some_iff.1 h5
        have hjj : j' = j := by
          rw [List.pairwise_iff_getElem] at s3
          rcases Nat.lt_trichotomy j' j with h | h | h
          · have := s3 j' j hj' hj h
            rw [e1, e1', h3, h6] at this
            exact absurd rfl this
          · exact h
          · have := s3 j j' hj hj' h
            rw [e1, e1', h3, h6] at this
            exact absurd rfl this
        subst hjj
        rw [h2] at h5
        cases h5
        exact h4
    have hj : es[j]? = some e0 := by simpa using h2
    have hsame : es.modify j (fun e => { e with key := key }) = es := by
      apply Array.ext'
      rw [Array.toList_modify, modify_eq_set _ _ _ _ h2]
      have : ({ e0 with key := key } : MapEntry) = e0 := by rw [← h3]
      rw [this]
      exact set_self _ _ _ h2
    refine ⟨e0.val, e0.born, es, clock, fun u hb => ?_, fun u hb => ?_, .inr ⟨e0, List.mem_of_getElem? h2, rfl⟩, fun val => ⟨es.modify j (fun e' => { e' with key := key, val := val }), clock, fun x hx => ?_, fun u hb => ?_, fun u hb => ?_⟩⟩
    · simp [Instr.mapEntry, run_underlying ht, MapKept.run_getObj_map hb, K.check u false hkey, hfind u, hj, h3, K.stays u hkey, hsame, MapKept.run_setObj_map _ hb, Result.andThen, setBlock]
    · simp [Instr.lookup, run_underlying ht, MapKept.run_getObj_map hb, K.check u _ hkey, hfind u, Result.andThen]
    · rcases Go.MapFrom.mem_modify hx with hx | ⟨y, _, rfl⟩
      · exact .inl hx
      · exact .inr rfl
    · have hidx : es.findIdx? (fun e => ((e.born : Nat) : Int) == ((e0.born : Nat) : Int)) = some j := by
        rw [findIdx_arr]
        exact findIdx_born s2 h2
      have hmod : es.modify j (fun e => { e with val := val }) = es.modify j (fun e' => { e' with key := key, val := val }) := by
        apply Array.ext'
        rw [Array.toList_modify, Array.toList_modify, modify_eq_set _ _ _ _ h2, modify_eq_set _ _ _ _ h2, ← h3]
      simp [Instr.entryStore, MapKept.run_getObj_map hb, asInt, asIntOf, goInt, hidx, hmod, MapKept.run_setObj_map _ hb, Result.andThen, setBlock]
    · simp [Instr.mapUpdate, run_underlying ht, MapKept.run_getObj_map hb, K.check u false hkey, hfind u, hj, h3, K.stays u hkey, MapKept.run_setObj_map _ hb, Result.andThen, setBlock]
  · have h2 : ∀ x ∈ es.toList, x.key ≠ key := fun x hx hxk => by
      obtain ⟨j, hj⟩ := List.getElem?_of_mem hx
      exact hex ⟨j, x, hj, hxk⟩
    have hfind : ∀ u : World, (Instr.findKey k key es.toList).run P u = .ok none u := by
      intro u
      rcases K.find u hkey es.toList hkeys with ⟨h4, _⟩ | ⟨j', e0', _, h5, h6⟩
      · exact h4
      · exact absurd h6 (h2 e0' (List.mem_of_getElem? h5))
    refine ⟨z, clock, es.push ⟨key, z, clock⟩, clock + 1, fun u hb => ?_, fun u hb => ?_, .inl rfl, fun val => ⟨es.push ⟨key, val, clock⟩, clock + 1, fun x hx => ?_, fun u hb => ?_, fun u hb => ?_⟩⟩
    · simp [Instr.mapEntry, run_underlying ht, MapKept.run_getObj_map hb, K.check u false hkey, hfind u, hz, MapKept.run_setObj_map _ hb, Result.andThen, setBlock]
    · simp [Instr.lookup, run_underlying ht, MapKept.run_getObj_map hb, K.check u _ hkey, hfind u, hz, Result.andThen]
    · rw [Array.toList_push, List.mem_append, List.mem_singleton] at hx
      rcases hx with hx | rfl
      · exact .inl hx
      · exact .inr rfl
    · have hidx : (es.push ⟨key, z, clock⟩).findIdx? (fun e => ((e.born : Nat) : Int) == ((clock : Nat) : Int)) = some es.size := by
        rw [findIdx_arr]
        have := findIdx_born (l := (es.push ⟨key, z, clock⟩).toList) (j := es.size) (e0 := ⟨key, z, clock⟩) (by
          simp only [Array.toList_push, List.map_append, List.map_cons, List.map_nil]
          refine List.nodup_append.2 ⟨s2, by simp, fun a ha c hc e1 => ?_⟩
          simp only [List.mem_singleton] at hc
          obtain ⟨x, hx, rfl⟩ := List.mem_map.1 ha
          have := s1 x hx
          omega) (by simp)
        exact this
      have hmod : (es.push ⟨key, z, clock⟩).modify es.size (fun e => { e with val := val }) = es.push ⟨key, val, clock⟩ := by
        apply Array.ext'
        rw [Array.toList_modify, Array.toList_push, Array.toList_push, ← Array.length_toList, modify_last]
      simp [Instr.entryStore, MapKept.run_getObj_map hb, asInt, asIntOf, goInt, hidx, hmod, MapKept.run_setObj_map _ hb, Result.andThen, setBlock]
    · simp [Instr.mapUpdate, run_underlying ht, MapKept.run_getObj_map hb, K.check u false hkey, hfind u, MapKept.run_setObj_map _ hb, Result.andThen, setBlock]
end
section
variable {H : Type} {P : Program} {t k E e : TypeId} {q : IntKind} {base b n : Nat} {D : DataW H} {w : World}
/-- the way back behind an entry -/
def entryBack (H : Type) (P : Program) (t k : TypeId) (base : Nat) (e : TypeId) (q : IntKind) (b n : Nat) (D : DataW H) (kl : Lit) (v : Value) (st : Nat) (No : Nat → Prop) (wE : World) : Prop :=
  ∀ (wA : World) (v' : Value) (zs' : List Int), wE.grownBy wA v.ownBlock → wA.ownsInts base e q v' zs' → zs'.length ≤ n + 1 → (v'.ownBlock = v.ownBlock ∨ ∃ g, v'.ownBlock = some g ∧ wE.heap.size ≤ g) →
    ∃ wS, (Instr.entryStore t (.map (some b)) (goInt st) v').run P wA = .ok () wS ∧ wS.ownsGroups P k base e q b (n + 1) (D.put kl (rowDatum q v' zs')) ∧ wA.grownBy wS (some b) ∧ wS.Shuns b No
theorem groups_entry (h : w.ownsGroups P k base e q b n D) {No : Nat → Prop} (hSh : w.Shuns b No) (hNo : ∀ g, No g → g < w.heap.size) (K : Keyed P k) (ht : P.underlying t = some (.map k E)) (hz : ∀ u : World, (zeroValue E).run P u = .ok (.slice none 0 0) u) (hn : n < maxLen) {key : Value} {kl : Lit} (hkey : keyOf P k key = some kl) :
    ∃ (v : Value) (zs : List Int) (st : Nat) (wE : World), (Instr.mapEntry t (.map (some b)) key).run P w = .ok (.tuple #[v, goInt st]) wE ∧ D.atKey kl .nil = rowDatum q v zs ∧ wE.ownsInts base e q v zs ∧ zs.length ≤ n ∧ w.grownBy wE (some b) ∧ b < base ∧ wE.heap.size = w.heap.size ∧ (∀ g, v.ownBlock = some g → ¬ No g) ∧
      entryBack H P t k base e q b n D kl v st No wE := by
  obtain ⟨v, zs, hrun, hat, ho, hl, hback⟩ := h.at K ht (hz w) hn hkey
  obtain ⟨es, clock, hb, F, hs, rfl, hbb, hlen, hap⟩ := h
  obtain ⟨v0, st, es1, clock1, r1, r2, rv, r3⟩ := entry_run (b := b) K ht hz F.stamped F.keys hkey
  have e0 : v0 = v := by
    have := r2 w hb
    rw [hrun] at this
    cases this
    rfl
  subst e0
  have hblt : b < w.heap.size := (Array.getElem?_eq_some_iff.1 hb).1
  have hvb : v0.ownBlock ≠ some b := fun e1 => by
    have := (ho.1.lt b e1).1
    omega
  have hvN : ∀ g, v0.ownBlock = some g → ¬ No g := fun g hg => by
    rcases rv with rfl | ⟨x, hx, rfl⟩
    · simp [Value.ownBlock] at hg
    · exact hSh es clock hb x hx g hg
  refine ⟨v0, zs, st, setBlock w b (.map es1 clock1), r1 w hb, hat, ho.kept (set_grown w b _) (.inr hvb), hl, set_grown w b _, hbb, by simp [setBlock], hvN, ?_⟩
  intro wA v' zs' hg ho' hl' hloc
  obtain ⟨es', clock', rw, r4, r5⟩ := r3 v'
  have hsz : (setBlock w b (.map es1 clock1)).heap.size = w.heap.size := by simp [setBlock]
  have hAb : wA.heap[b]? = some (.map es1 clock1) := by
    rw [hg.block b (by rw [hsz]; exact hblt) (fun e1 => hvb e1.symm)]
    exact set_at hblt _
  have hAlt : b < wA.heap.size := (Array.getElem?_eq_some_iff.1 hAb).1
  have hv'b : v'.ownBlock ≠ some b := fun e1 => by
    have := (ho'.1.lt b e1).1
    omega
  have hM0 : (setBlock wA b (.map es clock)).heap[b]? = some (.map es clock) := set_at hAlt _
  have hg1 : w.grownBy (setBlock wA b (.map es clock)) v0.ownBlock := by
    refine ⟨hg.os, hg.tape, hg.output, ?_, fun i hi hne => ?_⟩
    · have := hg.size
      rw [hsz] at this
      simpa [setBlock] using this
    · by_cases e1 : i = b
      · subst e1
        rw [hM0, hb]
      · rw [set_off _ e1, hg.block i (by rw [hsz]; exact hi) hne, set_off _ e1]
  have ho1 : (setBlock wA b (.map es clock)).ownsInts base e q v' zs' := ho'.kept (set_grown wA b _) (.inr hv'b)
  obtain ⟨w2, hr2, hG, hgg⟩ := hback _ v' zs' hg1 ho1 hl' (by
    rcases hloc with h1 | ⟨g, h1, h2⟩
    · exact .inl h1
    · exact .inr ⟨g, h1, by rw [hsz] at h2; exact h2⟩)
  have := r5 _ hM0
  rw [hr2] at this
  rw [set_set] at this
  injection this with _ hw
  subst hw
  refine ⟨_, r4 wA hAb, hG, set_grown wA b _, fun es2 clock2 hb2 x hx g hg => ?_⟩
  rw [set_at hAlt] at hb2
  cases hb2
  rcases rw x hx with hx | hx
  · exact hSh es clock hb x hx g hg
  · rw [hx] at hg
    rcases hloc with h1 | ⟨g', h1, h2⟩
    · rw [h1] at hg
      exact hvN g hg
    · rw [h1] at hg
      cases hg
      intro hN
      have := hNo _ hN
      rw [hsz] at h2
      omega
end
/-- the entry at the operation -/
theorem wpList_entry_groups {H : Type} {P : Program} (w : World) {ops : Array Oper} {rest : List Oper} {o : Oper} {a : Act} {Q : Exit → Act → World → Prop}
    (hg : o.guard = none) (m x : Operand) (t : TypeId) (hop : o.op = Op.mapEntry t m x)
    (k E e : TypeId) (q : IntKind) (K : Keyed P k) (ht : P.underlying t = some (.map k E)) (hz : ∀ u : World, (zeroValue E).run P u = .ok (.slice none 0 0) u) (base b n : Nat) (D : DataW H)
    (hm : a.eval m = .map (some b)) (hown : w.ownsGroups P k base e q b n D) (No : Nat → Prop) (hSh : w.Shuns b No) (hNo : ∀ g, No g → g < w.heap.size) (hn : n < maxLen) (key : Value) (kl : Lit) (hx : a.eval x = key) (hkey : keyOf P k key = some kl)
    (hK : ∀ (v : Value) (zs : List Int) (st : Nat) (wE : World), D.atKey kl .nil = rowDatum q v zs → wE.ownsInts base e q v zs → zs.length ≤ n → w.grownBy wE (some b) → b < base → wE.heap.size = w.heap.size → (∀ g, v.ownBlock = some g → ¬ No g) → entryBack H P t k base e q b n D kl v st No wE → wpList P ops Q rest (a.put o.dst (.tuple #[v, .int .i64 (st : Nat)])) wE) :
    wpList P ops Q (o :: rest) a w := by
  refine wpList_plain hg fun K' hK' => ?_
  obtain ⟨v, zs, st, wE, hrun, hat, hoi, hzl, hgr, hbb, hsz, hvN, hback⟩ := groups_entry hown hSh hNo K ht hz hn hkey
  unfold Oper.wp
  simp only [execOp, hop, hm, hx, Sem.run_bind, hrun, Result.andThen_ok, Sem.run_pure]
  exact hK' _ _ (hK v zs st wE hat hoi hzl hgr hbb hsz hvN hback)
/-- the store at it -/
theorem wpList_entryStore_back {H : Type} {P : Program} (w : World) {ops : Array Oper} {rest : List Oper} {o : Oper} {a : Act} {Q : Exit → Act → World → Prop}
    (hg : o.guard = none) (m x v : Operand) (t : TypeId) (hop : o.op = Op.entryStore t m x v)
    {wE : World} {k : TypeId} {base : Nat} {e : TypeId} {q : IntKind} {b n : Nat} {D : DataW H} {kl : Lit} {u v' : Value} {st : Nat} {zs' : List Int} {No : Nat → Prop}
    (hback : entryBack H P t k base e q b n D kl u st No wE) (hm : a.eval m = .map (some b)) (hx : a.eval x = .int .i64 (st : Nat)) (hv : a.eval v = v')
    (hgr : wE.grownBy w u.ownBlock) (hown' : w.ownsInts base e q v' zs') (hl' : zs'.length ≤ n + 1) (hloc : v'.ownBlock = u.ownBlock ∨ ∃ g, v'.ownBlock = some g ∧ wE.heap.size ≤ g)
    (hK : ∀ w2, w2.ownsGroups P k base e q b (n + 1) (D.put kl (rowDatum q v' zs')) → w.grownBy w2 (some b) → w2.Shuns b No → wpList P ops Q rest (a.put o.dst undef) w2) :
    wpList P ops Q (o :: rest) a w := by
  refine wpList_plain hg fun K' hK' => ?_
  obtain ⟨w2, hrun, r1, r2, r3⟩ := hback w v' zs' hgr hown' hl' hloc
  have hrun' : (Instr.entryStore t (.map (some b)) (.int .i64 (st : Nat)) v').run P w = .ok () w2 := hrun
  unfold Oper.wp
  simp only [execOp, hop, hm, hx, hv, Sem.run_bind, hrun', Result.andThen_ok, Sem.run_pure]
  exact hK' _ _ (hK w2 r1 r2 r3)
end Go.Proofs.Ytenicjebccdekaa
