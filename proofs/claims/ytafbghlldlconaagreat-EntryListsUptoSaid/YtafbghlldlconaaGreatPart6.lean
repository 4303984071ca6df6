import Derived.Test.YtafbghlldlconaaGreatPart3
import Derived.Test.YtafbghlldlconaaGreatPart5
/-
  THE ORDER OF A RIGHT DOCUMENT by the document: ref10.Order (a stack): the walk.
-/
namespace Go.Proofs.YtafbghlldlconaaGreat
set_option linter.unusedVariables false
set_option linter.unusedSimpArgs false
open Go.RowKit PT

def lenV : Value → Nat
  | .slice _ n _ => n
  | _ => 0
theorem OV.lenV {base : Nat} {T : TypeId} {t : List Value} {v : Value} {w : World} (h : OV base T t v w) : lenV v = t.length := by
  obtain ⟨a, cap, rfl, _⟩ := h.form
  rfl
theorem ints_snoc (t : List Int) (c : Int) : ints (t ++ [c]) = ints t ++ [.int .i64 c] := by simp [ints]
theorem ints_len (t : List Int) : (ints t).length = t.length := by simp [ints]
theorem flat_len {l : List Nd} (h : RightP l) : ∀ {t : List Int}, (∀ c ∈ t, 0 ≤ c ∧ c < l.length) → t.length ≤ (t.flatMap (ord l)).length
  | [], _ => Nat.zero_le _
  | c :: t, hc => by
    have h1 := flat_len h (t := t) (fun x hx => hc x (List.mem_cons_of_mem _ hx))
    obtain ⟨c0, c1⟩ := hc c (List.mem_cons_self ..)
    rw [List.flatMap_cons, ord_eq h c0 c1, List.length_append, List.length_cons, List.length_cons]
    omega
set_option maxHeartbeats 4000000 in
set_option maxRecDepth 100000 in
theorem refOrder_any (l : List Nd) (hRP : RightP l) (K : Nat) (hK : K < l.length) (v : Value) (w : World) (hz : ∀ x ∈ l, Fits x) (hU : Nodes l v w) :
    Calls Tryz.prog 20 #[v, .int .i64 K] w fun e w' => ∃ vo, e = .returned vo ∧ OV w.heap.size 3 (ints (ord l K)) vo w' ∧ Below w.heap.size w w' := by
  obtain ⟨a, cap, rfl⟩ := hU.len
  have hmax := hRP.max
  have hol := ord_len hRP (k := (K : Int)) (by omega) (by omega)
  have hb0 := (Below.refl w.heap.size w).alloc (Nat.le_refl _) (.cells #[.int .i64 K] 3)
  have hlit : OV w.heap.size 3 (ints [(K : Int)]) (.slice (some ⟨w.heap.size, 0, none⟩) 1 1) (w.alloc (.cells #[.int .i64 K] 3)) := World.ownsRow_lit w #[.int .i64 K] 1 (Nat.le_refl _) (by unfold maxLen; omega) rfl
  have htwo : Two w.heap.size 3 (ints []) (.slice none 0 0) (ints [(K : Int)]) (.slice (some ⟨w.heap.size, 0, none⟩) 1 1) (w.alloc (.cells #[.int .i64 K] 3)) := ⟨OV.nil _ _ _, hlit, fun k hk => by cases hk⟩
  go_enter Tryz.func20, Tryz.ntmps20
  go_upto_region 3 with fail
  generalize World.alloc _ _ = W0 at hb0 htwo ⊢
  go_loopw [5, 6] (fun vo vn wr => ∃ O N : List Int, Hid (O ++ N.reverse.flatMap (ord l) = ord l K) ∧ (∀ c ∈ N, 0 ≤ c ∧ c < l.length) ∧ Two w.heap.size 3 (ints O) vo (ints N) vn wr ∧ Below w.heap.size w wr) (fun vo _ _ => l.length + 1 - lenV vo)
  case atStart => exact ⟨[], [K], Lib.hid (by simp), by simp; omega, htwo, hb0⟩
  case round =>
    obtain ⟨O, N, hA, hN, hT, hbel⟩ := hrel
    have hsz := hbel.size
    rcases List.eq_nil_or_concat N with rfl | ⟨N', c, rfl⟩
    · have hR := Lib.hid (show O = ord l K by have := hA.out; simpa using this)
      obtain ⟨a1, cap1, hv1, hn1⟩ := hT.b.form
      rw [ints_len] at hv1
      subst hv1
      go_wp2_with fail
      go_ret
      exact ⟨_, rfl, by rw [← hR.out]; exact hT.a, hbel⟩
    · rw [List.concat_eq_append] at *
      obtain ⟨d0, d1⟩ := hN c (by simp)
      have hlen9 := congrArg List.length hA.out
      obtain ⟨g, gcap, rfl, _, hcell⟩ := hT.b.at (by rw [ints_snoc]; simp)
      have hcc := hcell N'.length (.int .i64 c) (by simp [ints])
      have hnl : (ints (N' ++ [c])).length = N'.length + 1 := by simp [ints]
      have hcap : N'.length + 1 ≤ gcap := by
        obtain ⟨_, ⟨hv, _⟩ | ⟨g', cap', cur, hv, h2, h3, h4, _⟩⟩ := hT.b
        · cases hv
        · cases hv; omega
      rw [ints_snoc] at hT
      have hpop := OV.pop hT.b
      have hT2 : Two w.heap.size 3 (ints O) u5 (ints N') (.slice (some ⟨g, 0, none⟩) (ints N').length gcap) wr := ⟨hT.a, hpop, hT.ne⟩
      rw [← ints_snoc, hnl] at hT
      rw [ints_len] at hT2
      rw [hnl]
      have hoe := ord_eq hRP d0 d1
      have hA2 := hA.out
      rw [List.reverse_append, List.flatMap_append] at hA2
      simp only [List.reverse_singleton, List.flatMap_cons, List.flatMap_nil, List.append_nil] at hA2
      rw [hoe] at hA2
      have hAN := Lib.hid (show (O ++ [c]) ++ (N' ++ (ksOf l c).reverse).reverse.flatMap (ord l) = ord l K by
        rw [← hA2, List.reverse_append, List.reverse_reverse, List.flatMap_append]; simp)
      have hn3 : N'.length ≤ 400 := by
        have h1 := flat_len hRP (t := N'.reverse) (fun x hx => hN x (List.mem_append_left _ (List.mem_reverse.1 hx)))
        have h2 := congrArg List.length hA2
        simp only [List.length_append, List.length_cons, List.length_reverse] at h1 h2
        omega
      have hOl : O.length < l.length := by
        have := congrArg List.length hA2
        simp only [List.length_append, List.length_cons] at this
        omega
      have hNN := Lib.hid (show ∀ c' ∈ N' ++ (ksOf l c).reverse, 0 ≤ c' ∧ c' < l.length from fun c' hc' => by
        rcases List.mem_append.1 hc' with h | h
        · exact hN c' (List.mem_append_left _ h)
        · obtain ⟨e0, e1, _⟩ := hRP.kid d0 d1 (List.mem_reverse.1 h)
          exact ⟨e0, e1⟩)
      clear hA hA2 hoe hcell hlen9 hpop hnl
      obtain ⟨q, rfl⟩ := Int.eq_ofNat_of_zero_le d0
      have hq : q < l.length := by omega
      have hn0 : (0 : Int) ≤ (N'.length : Int) := by omega
      have hn1 : (N'.length : Int) ≤ (gcap : Int) := by omega
      have hn2 : (N'.length : Int) < ((N'.length + 1 : Nat) : Int) := by omega
      have hkr := Lib.hid (ksOf_at hq)
      have hkn := hRP.nodup (k := (q : Int)) (by omega) (by omega)
      have hkl : (ksOf l (q : Int)).length ≤ 400 := Nat.le_trans (nodup_len hkn (fun c' hc' => ⟨(hRP.kid (by omega) (by omega) hc').1, (hRP.kid (by omega) (by omega) hc').2.1⟩)) hmax
      obtain ⟨b, o, cap', va, vk, hv, hb, c0, c1, c2, c3, c4, hat, hks⟩ := hU.at hq
      cases hv
      generalize l[q] = x at *
      rw [hkr.out] at hkl hAN hNN
      have hq0 : (0 : Int) ≤ (q : Int) := by omega
      have hq1 : (q : Int) < (l.length : Int) := by omega
      obtain ⟨ka, kcap, rfl⟩ := hks.len
      go_wp2_with (at_builtin; refine wpList_append_cell2 rfl _ _ 39 3 rfl Tryz.underlying39 info_i64 rfl (by decide) rfl rfl (.int .i64 (q : Int)) rfl hT2 (by rw [ints_len]; omega) hsz ?_; intro v' w1 hT3 hb1; have hbw1 := hbel.trans hb1; have d4 := cellK hbw1 hb c4)
      go_loopw [6, 8] (fun vn i wi => ∃ j : Nat, j ≤ x.ks.length ∧ i = .int .i64 ((j : Int) - 1) ∧ Two w.heap.size 3 (ints (O ++ [(q : Int)])) v' (ints (N' ++ (x.ks.drop j).reverse)) vn wi ∧ Below w.heap.size w wi) (fun _ i _ => ((intOf i) + 1).toNat)
      case atStart => exact ⟨x.ks.length, Nat.le_refl _, by go_num, by rw [ints_snoc]; simpa using hT3, hbw1⟩
      case round =>
        obtain ⟨j, hj, rfl, hT4, hbi⟩ := hrel
        have hsi := hbi.size
        have e4 := cellK hbi hb c4
        cases j with
        | zero =>
          rw [List.drop_zero] at hT4
          have hj9 : decide ((0 : Int) ≤ (0 : Int) - 1) = false := by decide
          go_wp2_with fail
          exact ⟨⟨O ++ [(q : Int)], _, hAN, hNN.out, hT4, hbi⟩, by have m1 := hT4.a.lenV; have m2 := hT2.a.lenV; rw [ints_len] at m1 m2; simp only [List.length_append, List.length_cons, List.length_nil] at m1; rw [m1, m2]; omega⟩
        | succ j =>
          have hlt : j < x.ks.length := by omega
          obtain ⟨kb, ko, kcap', kv, khb, kc0⟩ := (hks.kept hbi).at hlt
          cases kv
          have hdr := Lib.hid (show (x.ks.drop j).reverse = (x.ks.drop (j + 1)).reverse ++ [x.ks[j]] by rw [List.drop_eq_getElem_cons hlt, List.reverse_cons])
          generalize x.ks[j] = y at *
          have hj0 : (0 : Int) ≤ (j : Int) := by omega
          have hj1 : (j : Int) < (x.ks.length : Int) := by omega
          have hj2 : ((j + 1 : Nat) : Int) - 1 = (j : Int) := by omega
          rw [hj2]
          go_wp2_with (at_builtin; refine wpList_append_cell2 rfl _ _ 39 3 rfl Tryz.underlying39 info_i64 rfl (by decide) rfl rfl (.int .i64 y) rfl hT4.symm (by rw [ints_len]; simp; omega) hsi ?_; intro v5 w5 hT5 hb5)
          exact ⟨⟨j, by omega, by go_num, by rw [hdr.out, ← List.append_assoc, ints_snoc (N' ++ _)]; exact hT5.symm, hbi.trans hb5⟩, by simp [intOf]⟩
end Go.Proofs.YtafbghlldlconaaGreat

/-
  A NODE OF AN id by the document: ref10.ByID: the walk.
-/
namespace Go.Proofs.YtafbghlldlconaaGreat
set_option linter.unusedVariables false
set_option linter.unusedSimpArgs false
open Go.RowKit PT

theorem refOrder0_any (l : List Nd) (hRP : RightP l) (v : Value) (w : World) (hz : ∀ x ∈ l, Fits x) (hU : Nodes l v w) :
    Calls Tryz.prog 20 #[v, .int .i64 0] w fun e w' => ∃ g gcap, e = .returned (.slice (some ⟨g, 0, none⟩) (ord l 0).length gcap) ∧ OV w.heap.size 3 (ints (ord l 0)) (.slice (some ⟨g, 0, none⟩) (ord l 0).length gcap) w' ∧ Below w.heap.size w w' := by
  have h := refOrder_any l hRP 0 hRP.pos v w hz hU
  rw [show ((0 : Nat) : Int) = 0 from rfl] at h
  refine h.mono ?_
  rintro e w' ⟨vo, rfl, hov, hb⟩
  have hil : (ints (ord l 0)).length = (ord l 0).length := by simp [ints]
  have hne : ints (ord l 0) ≠ [] := by rw [ord_eq hRP (by omega) (by have := hRP.pos; omega)]; simp [ints]
  obtain ⟨g, gcap, rfl, _, _⟩ := hov.at hne
  rw [hil] at hov ⊢
  exact ⟨g, gcap, rfl, hov, hb⟩
set_option maxHeartbeats 4000000 in
set_option maxRecDepth 100000 in
theorem refByID_any (l : List Nd) (hRP : RightP l) (v : Value) (s : ByteArray) (w : World) (hz : ∀ x ∈ l, Fits x) (hU : Nodes l v w) :
    Calls Tryz.prog 49 #[v, .string s] w fun e w' => e = .returned (.int .i64 (namedF l s)) ∧ Below w.heap.size w w' := by
  obtain ⟨a, cap, rfl⟩ := hU.len
  have hpos := hRP.pos
  have hmax := hRP.max
  have hol := ord_len hRP (k := 0) (by omega) (by omega)
  have hR := Lib.hid (show namedF l s = if s.size ≠ 0 then firstF (idK l s) (ord l 0) else -1 by
    unfold namedF; rw [rightB_yes hRP]; by_cases h : s.size ≠ 0
    · rw [if_pos h, if_pos ⟨h, rfl⟩]
    · rw [if_neg h, if_neg (fun e => h e.1)])
  go_enter Tryz.func49, Tryz.ntmps49
  go_wp2_with fail
  refine (refOrder0_any l hRP _ _ hz hU).mono ?_
  rintro e w2 ⟨g, gcap, rfl, hov, hb02⟩
  have hg02 := hb02.size
  go_wp2_with fail
  go_loopw [6] (fun i wr => ∃ k : Nat, k ≤ (ord l 0).length ∧ i = .int .i64 k ∧ Hid (s.size ≠ 0 → ∀ x ∈ (ord l 0).take k, idK l s x = false) ∧ Below w2.heap.size w2 wr) (fun i _ => (ord l 0).length - (intOf i).toNat)
  case atStart => exact ⟨0, Nat.zero_le _, rfl, Lib.hid (by simp), Below.refl _ _⟩
  case round =>
    obtain ⟨k, hk, rfl, hA, hbel⟩ := hrel
    have hb0r := hb02.trans (hbel.mono hg02)
    have hsz := hbel.size
    by_cases hlt : k < (ord l 0).length
    · have hcell := (hov.kept hbel).cell k (.int .i64 (ord l 0)[k]) (by rw [ints, List.getElem?_map, List.getElem?_eq_getElem hlt]; rfl)
      rw [addr_add, Nat.zero_add] at hcell
      obtain ⟨m0, m1, _⟩ := ord_mem hRP (k := 0) (by omega) (by omega) (List.getElem_mem hlt)
      have hT := Lib.hid (fun (hs : s.size ≠ 0) h => take_mem_snoc (P := fun x => idK l s x = false) hlt (hA.out hs) h)
      have hH := Lib.hid (fun (hs : s.size ≠ 0) h => firstF_hit (p := idK l s) hlt (hA.out hs) h)
      have hk0 : (0 : Int) ≤ (k : Int) := by omega
      have hk1 : (k : Int) < ((ord l 0).length : Int) := by omega
      generalize (ord l 0)[k] = c at *
      obtain ⟨q, rfl⟩ := Int.eq_ofNat_of_zero_le m0
      have hq : q < l.length := by omega
      have hal := one_ats (hRP.node q _ (List.getElem?_eq_getElem hq)).1
      have hatt := refAttr10_any l (.slice a l.length cap) q ⟨#[105, 100]⟩ hq (by omega) wr (hU.kept hb0r)
      clear hal
      have hI := Lib.hid (show idK l s (q : Int) = decide (atO (atsOf l (q : Int)) ⟨#[105, 100]⟩ = some s) from rfl)
      generalize atO (atsOf l (q : Int)) ⟨#[105, 100]⟩ = r at hatt hI
      cases r with
      | none =>
        have hN := Lib.hid (fun hs => hT.out hs (hI.out.trans rfl))
        go_wp2_with fail
        refine hatt.mono ?_
        rintro e w3 ⟨rfl, rfl⟩
        unfold atT
        go_wp2_with fail
        go_roundw
        case rel => exact ⟨k + 1, by omega, by go_num, hN, hbel⟩
        case measure => simp [intOf]; omega
      | some y =>
        by_cases hy : y = s
        · have hq9 := sTrue hy
          by_cases hs : s.size = 0
          · have hN := Lib.hid (show s.size ≠ 0 → ∀ x ∈ (ord l 0).take (k + 1), idK l s x = false from fun h => absurd hs h)
            have hs1 : decide ((0 : Int) < (s.size : Int)) = false := decide_eq_false (by omega)
            have hs2 : decide (0 < s.size) = false := decide_eq_false (by omega)
            clear hs hy
            go_wp2_with fail
            refine hatt.mono ?_
            rintro e w3 ⟨rfl, rfl⟩
            unfold atT
            go_wp2_with fail
            go_roundw
            case rel => exact ⟨k + 1, by omega, by go_num, hN, hbel⟩
            case measure => simp [intOf]; omega
          · have hN := Lib.hid (hR.out.trans ((if_pos hs).trans (hH.out hs (by rw [hI.out, hy]; exact decide_eq_true rfl))))
            have hs1 : (0 : Int) < (s.size : Int) := by omega
            have hs2 : 0 < s.size := by omega
            clear hs hy
            go_wp2_with fail
            refine hatt.mono ?_
            rintro e w3 ⟨rfl, rfl⟩
            unfold atT
            go_wp2_with fail
            go_ret
            exact ⟨ret_int hN.out.symm, hb0r⟩
        · have hq9 := sFalse hy
          have hN := Lib.hid (fun hs => hT.out hs (by rw [hI.out]; exact decide_eq_false (fun e => hy (Option.some.inj e))))
          clear hy
          go_wp2_with fail
          refine hatt.mono ?_
          rintro e w3 ⟨rfl, rfl⟩
          unfold atT
          go_wp2_with fail
          go_roundw
          case rel => exact ⟨k + 1, by omega, by go_num, hN, hbel⟩
          case measure => simp [intOf]; omega
    · obtain rfl : k = (ord l 0).length := by omega
      have hN := Lib.hid (show namedF l s = -1 by
        rw [hR.out]
        by_cases hs : s.size ≠ 0
        · rw [if_pos hs]; exact firstF_none (by have := hA.out hs; rwa [List.take_of_length_le (Nat.le_refl _)] at this)
        · rw [if_neg hs])
      go_wp2_with fail
      go_ret
      exact ⟨ret_int hN.out.symm, hb0r⟩
end Go.Proofs.YtafbghlldlconaaGreat

/-
  A CONTROL's ⟨#[102, 111, 114, 109]⟩ by the document: ref16.Form: the walk.
-/
namespace Go.Proofs.YtafbghlldlconaaGreat
set_option linter.unusedVariables false
set_option linter.unusedSimpArgs false
open Go.RowKit PT

theorem form_toList : (⟨#[102, 111, 114, 109]⟩ : ByteArray).toList = [102, 111, 114, 109] := by rw [ByteArray.toList_eq]
theorem otK_form (nm : ByteArray) : otK nm = 30 ↔ nm = ⟨#[102, 111, 114, 109]⟩ := by
  constructor
  · intro h
    unfold otK at h
    split at h
    · omega
    · rename_i i hi
      have h2 : i = 2 := by omega
      subst h2
      obtain ⟨hl, he, _⟩ := List.findIdx?_eq_some_iff_getElem.1 hi
      exact (of_decide_eq_true he).symm
  · rintro rfl
    rfl
theorem kind_form (x : Nd) : kindOf x = 30 ↔ x.nm = ⟨#[102, 111, 114, 109]⟩ := by
  have h1 := tyK_range (tyOf x)
  have hb : 25 ≤ btK (tyOf x) ∧ btK (tyOf x) ≤ 27 := by
    unfold btK; split
    · omega
    · split <;> omega
  have hne : ∀ {a : ByteArray}, x.nm = a → a ≠ ⟨#[102, 111, 114, 109]⟩ → ¬ x.nm = ⟨#[102, 111, 114, 109]⟩ := fun h h2 h3 => h2 (h.symm.trans h3)
  unfold kindOf
  split
  · rename_i h
    exact ⟨fun e => by omega, fun e => absurd e (hne h (by decide))⟩
  · split
    · rename_i h
      exact ⟨fun e => by omega, fun e => absurd e (hne h (by decide))⟩
    · split
      · rename_i h
        exact ⟨fun e => by omega, fun e => absurd e (hne h (by decide))⟩
      · split
        · rename_i h
          exact ⟨fun e => by omega, fun e => absurd e (hne h (by decide))⟩
        · exact otK_form x.nm
theorem kindF_form {l : List Nd} {f : Int} (h0 : 0 ≤ f) (h1 : f < l.length) : kindF l f = 30 ↔ nmOf l f = ⟨#[102, 111, 114, 109]⟩ := by
  obtain ⟨q, rfl⟩ := Int.eq_ofNat_of_zero_le h0
  have hq : q < l.length := by omega
  unfold kindF
  rw [if_pos ⟨h0, h1⟩, kOf_at hq, nmOf_at hq]
  exact kind_form _
theorem namedF_range (l : List Nd) (s : ByteArray) : namedF l s = -1 ∨ 0 ≤ namedF l s ∧ namedF l s < l.length := by
  unfold namedF
  split
  · rename_i h
    have hRP := (rightB_iff l).1 h.2
    unfold firstF
    cases hf : (ord l 0).find? (idK l s) with
    | none => exact .inl rfl
    | some c =>
      right
      obtain ⟨c0, c1, _⟩ := ord_mem hRP (by omega) (by have := hRP.pos; omega) (List.mem_of_find?_eq_some hf)
      exact ⟨c0, c1⟩
  · exact .inl rfl
theorem list0 : listB 0 = false := by decide
theorem FormF_out {l : List Nd} {id : Int} (h : hasB l id = false) : FormF l id = -1 := by
  unfold FormF
  split
  · rename_i hr
    have hk : kindF l id = 0 := by
      refine if_neg (fun hh => ?_)
      rw [(hasB_iff l id).2 ⟨hh.1, hh.2, (rightB_iff l).1 hr⟩] at h
      cases h
    unfold formF
    rw [hk, if_pos ⟨list0, by omega⟩]
  · rfl
set_option maxHeartbeats 4000000 in
set_option maxRecDepth 100000 in
theorem refForm_any (l : List Nd) (v : Value) (id : Int) (hl : l.length ≤ 1000000000000000000) (hz : ∀ x ∈ l, Fits x) (w : World) (hU : Nodes l v w) :
    Calls Tryz.prog 24 #[v, .int .i64 id] w fun e w' => e = .returned (.int .i64 (FormF l id)) ∧ Below w.heap.size w w' := by
  obtain ⟨a, cap, rfl⟩ := hU.len
  cases hh : hasB l id
  · have hR := Lib.hid (FormF_out hh)
    have HH := Lib.hid hh
    clear hh
    go_enter Tryz.func24, Tryz.ntmps24
    go_wp2_with fail
    refine (refHas10_any l _ id hl hz _ hU).mono ?_
    rintro e w' ⟨rfl, hb⟩
    rw [HH.out]
    go_wp2_with fail
    go_ret
    exact ⟨ret_int hR.out.symm, hb⟩
  have HH := Lib.hid hh
  obtain ⟨h0, h1, hRP⟩ := (hasB_iff l id).1 hh
  obtain ⟨K, rfl⟩ := Int.eq_ofNat_of_zero_le h0
  have hkl : K < l.length := by omega
  have hTp := Lib.hid (show topB l (K : Nat) = topF l (K : Nat) by unfold topB; rw [hh]; rfl)
  have hUp := Lib.hid (show upB l (K : Nat) ⟨#[102, 111, 114, 109]⟩ = nearF l ⟨#[102, 111, 114, 109]⟩ (paOf l (K : Nat)) by unfold upB; rw [hh]; rfl)
  have hF := show FormF l (K : Nat) = if listB (kindF l (K : Nat)) = false ∧ kindF l (K : Nat) ≠ 20 then -1 else match attF l (K : Nat) ⟨#[102, 111, 114, 109]⟩ with
    | some s => (if topB l (K : Nat) = 0 then (if kindF l (namedF l s) = 30 then namedF l s else -1) else upB l (K : Nat) ⟨#[102, 111, 114, 109]⟩)
    | none => upB l (K : Nat) ⟨#[102, 111, 114, 109]⟩ from if_pos (rightB_yes hRP)
  rw [show kindF l (K : Nat) = kOf l (K : Nat) from if_pos ⟨h0, h1⟩, show attF l (K : Nat) ⟨#[102, 111, 114, 109]⟩ = atO (atsOf l (K : Nat)) ⟨#[102, 111, 114, 109]⟩ by unfold attF; rw [hh]; rfl, atsOf_at hkl] at hF
  obtain ⟨k0, k1⟩ : 0 ≤ kOf l (K : Nat) ∧ kOf l (K : Nat) ≤ 35 := by rw [kOf_at hkl]; exact kindOf_range _
  obtain ⟨b, o, cap', va, vk, hv, hb, c0, c1, c2, c3, c4, hat, hks⟩ := hU.at hkl
  cases hv
  have hal := one_ats (hRP.node K _ (List.getElem?_eq_getElem hkl)).1
  generalize l[K] = x at *
  clear hh
  obtain ⟨kk, hkk⟩ : ∃ kk, kOf l (K : Nat) = kk := ⟨_, rfl⟩
  rw [hkk] at k0 k1 hF
  have HKI := Lib.hid hkk
  have hF := Lib.hid hF
  clear hkk
  have hK0 : (0 : Int) ≤ (K : Int) := by omega
  have hK1 : (K : Int) < (l.length : Int) := by omega
  cases hL : listB kk
  · by_cases h20 : kk = 20
    case neg =>
      have hR := Lib.hid (hF.out.trans (if_pos ⟨hL, h20⟩))
      have HL := Lib.hid hL
      have q1 : (kk == 20) = false := intNe h20
      have q2 : (kk != 20) = true := by rw [bne, q1]; rfl
      clear hL h20
      go_enter Tryz.func24, Tryz.ntmps24
      go_wp2_with fail
      refine (refHas10_any l _ _ hl hz _ hU).mono ?_
      rintro e w0 ⟨rfl, hb00⟩
      rw [HH.out]
      go_wp2_with fail
      refine (ref16Kind_any l _ K hkl hRP _ (hU.kept hb00)).mono ?_
      rintro e w1 ⟨rfl, hb01⟩
      have hb1 := hb00.trans (hb01.mono hb00.size)
      rw [HKI.out]
      go_wp2_with fail
      refine (refIs1_any kk k0 k1 _).mono ?_
      rintro e w2 ⟨rfl, rfl⟩
      rw [HL.out]
      go_wp2_with fail
      go_ret
      exact ⟨ret_int hR.out.symm, hb1⟩
    have hC := Lib.hid (hF.out.trans (if_neg (fun h => h.2 h20)))
    have HL := Lib.hid hL
    clear hL
    subst h20
    go_enter Tryz.func24, Tryz.ntmps24
    go_wp2_with fail
    refine (refHas10_any l _ _ hl hz _ hU).mono ?_
    rintro e w0 ⟨rfl, hb00⟩
    rw [HH.out]
    go_wp2_with fail
    refine (ref16Kind_any l _ K hkl hRP _ (hU.kept hb00)).mono ?_
    rintro e w1 ⟨rfl, hb01⟩
    have hb1 := hb00.trans (hb01.mono hb00.size)
    rw [HKI.out]
    go_wp2_with fail
    refine (refIs1_any 20 k0 k1 _).mono ?_
    rintro e w2 ⟨rfl, rfl⟩
    rw [HL.out]
    have hg1 := hb1.size
    replace c2 := cellK hb1 hb c2
    have hat1 := hat.kept hb1
    cases ha : atO x.ats ⟨#[102, 111, 114, 109]⟩ with
    | none =>
      have hR := Lib.hid (show FormF l (K : Nat) = nearF l ⟨#[102, 111, 114, 109]⟩ (paOf l (K : Nat)) by rw [hC.out, ha]; exact hUp.out)
      clear hC
      have HA := Lib.hid ha
      clear ha
      go_wp2_with fail
      refine (refAttr14_any x.ats _ ⟨#[102, 111, 114, 109]⟩ (by omega) _ hat1).mono ?_
      rintro e w3 ⟨rfl, rfl⟩
      rw [HA.out]
      unfold atT
      go_wp2_with fail
      refine (refUp_any l _ K ⟨#[102, 111, 114, 109]⟩ hkl hRP _ (hU.kept hb1)).mono ?_
      rintro e w9 ⟨rfl, rfl⟩
      go_wp2_with fail
      go_ret
      exact ⟨ret_int hR.out.symm, hb1⟩
    | some s =>
      have HA := Lib.hid ha
      by_cases ht : topF l (K : Nat) = 0
      · have HT := Lib.hid ht
        rcases namedF_range l s with hf | ⟨hf0, hf1⟩
        · have hR := Lib.hid (show FormF l (K : Nat) = -1 by rw [hC.out, ha]; show (if topB l (K : Nat) = 0 then (if kindF l (namedF l s) = 30 then namedF l s else -1) else upB l (K : Nat) ⟨#[102, 111, 114, 109]⟩) = -1; rw [if_pos (hTp.out.trans ht), hf]; rfl)
          have HF := Lib.hid hf
          clear hC ha ht hf
          go_wp2_with fail
          refine (refAttr14_any x.ats _ ⟨#[102, 111, 114, 109]⟩ (by omega) _ hat1).mono ?_
          rintro e w3 ⟨rfl, rfl⟩
          rw [HA.out]
          unfold atT
          go_wp2_with fail
          refine (refTop_any l _ K hkl hRP _ (hU.kept hb1)).mono ?_
          rintro e w4 ⟨rfl, rfl⟩
          rw [HT.out]
          go_wp2_with fail
          refine (refByID_any l hRP _ s _ hz (hU.kept hb1)).mono ?_
          rintro e w5 ⟨rfl, hb5⟩
          have hb15 := hb1.trans (hb5.mono hg1)
          rw [HF.out]
          go_wp2_with fail
          go_ret
          exact ⟨ret_int hR.out.symm, hb15⟩
        · have HK := kindF_form hf0 hf1
          obtain ⟨q, hq⟩ := Int.eq_ofNat_of_zero_le hf0
          rw [hq] at hf0 hf1 HK
          have hql : q < l.length := by omega
          have hnq := nmOf_at hql
          by_cases hn : nmOf l (q : Nat) = ⟨#[102, 111, 114, 109]⟩
          · have hR := Lib.hid (show FormF l (K : Nat) = (q : Nat) by rw [hC.out, ha]; show (if topB l (K : Nat) = 0 then (if kindF l (namedF l s) = 30 then namedF l s else -1) else upB l (K : Nat) ⟨#[102, 111, 114, 109]⟩) = _; rw [if_pos (hTp.out.trans ht), hq, if_pos (HK.2 hn)])
            rw [hnq] at hn
            have HQ := Lib.hid hq
            have q1 := sTrue hn
            rw [form_toList] at q1
            clear hC ha ht hn hq HK hnq
            go_wp2_with fail
            refine (refAttr14_any x.ats _ ⟨#[102, 111, 114, 109]⟩ (by omega) _ hat1).mono ?_
            rintro e w3 ⟨rfl, rfl⟩
            rw [HA.out]
            unfold atT
            go_wp2_with fail
            refine (refTop_any l _ K hkl hRP _ (hU.kept hb1)).mono ?_
            rintro e w4 ⟨rfl, rfl⟩
            rw [HT.out]
            go_wp2_with fail
            refine (refByID_any l hRP _ s _ hz (hU.kept hb1)).mono ?_
            rintro e w5 ⟨rfl, hb5⟩
            have hb15 := hb1.trans (hb5.mono hg1)
            rw [HQ.out]
            obtain ⟨b2, o2, cap2, va2, vk2, hv2, hb2, g0, g1, g2, g3, g4, _, _⟩ := (hU.kept hb15).at hql
            cases hv2
            generalize l[q] = y at *
            go_wp2_with fail
            go_ret
            exact ⟨ret_int hR.out.symm, hb15⟩
          · have hR := Lib.hid (show FormF l (K : Nat) = -1 by rw [hC.out, ha]; show (if topB l (K : Nat) = 0 then (if kindF l (namedF l s) = 30 then namedF l s else -1) else upB l (K : Nat) ⟨#[102, 111, 114, 109]⟩) = _; rw [if_pos (hTp.out.trans ht), hq, if_neg (fun h => hn (HK.1 h))])
            rw [hnq] at hn
            have HQ := Lib.hid hq
            have q1 := sFalse hn
            rw [form_toList] at q1
            clear hC ha ht hn hq HK hnq
            go_wp2_with fail
            refine (refAttr14_any x.ats _ ⟨#[102, 111, 114, 109]⟩ (by omega) _ hat1).mono ?_
            rintro e w3 ⟨rfl, rfl⟩
            rw [HA.out]
            unfold atT
            go_wp2_with fail
            refine (refTop_any l _ K hkl hRP _ (hU.kept hb1)).mono ?_
            rintro e w4 ⟨rfl, rfl⟩
            rw [HT.out]
            go_wp2_with fail
            refine (refByID_any l hRP _ s _ hz (hU.kept hb1)).mono ?_
            rintro e w5 ⟨rfl, hb5⟩
            have hb15 := hb1.trans (hb5.mono hg1)
            rw [HQ.out]
            obtain ⟨b2, o2, cap2, va2, vk2, hv2, hb2, g0, g1, g2, g3, g4, _, _⟩ := (hU.kept hb15).at hql
            cases hv2
            generalize l[q] = y at *
            go_wp2_with fail
            go_ret
            exact ⟨ret_int hR.out.symm, hb15⟩
      · have hR := Lib.hid (show FormF l (K : Nat) = nearF l ⟨#[102, 111, 114, 109]⟩ (paOf l (K : Nat)) by rw [hC.out, ha]; show (if topB l (K : Nat) = 0 then (if kindF l (namedF l s) = 30 then namedF l s else -1) else upB l (K : Nat) ⟨#[102, 111, 114, 109]⟩) = _; rw [if_neg (fun h => ht (hTp.out.symm.trans h))]; exact hUp.out)
        have ht1 : (topF l (K : Nat) == 0) = false := intNe ht
        clear hC ha ht
        go_wp2_with fail
        refine (refAttr14_any x.ats _ ⟨#[102, 111, 114, 109]⟩ (by omega) _ hat1).mono ?_
        rintro e w3 ⟨rfl, rfl⟩
        rw [HA.out]
        unfold atT
        go_wp2_with fail
        refine (refTop_any l _ K hkl hRP _ (hU.kept hb1)).mono ?_
        rintro e w4 ⟨rfl, rfl⟩
        go_wp2_with fail
        refine (refUp_any l _ K ⟨#[102, 111, 114, 109]⟩ hkl hRP _ (hU.kept hb1)).mono ?_
        rintro e w9 ⟨rfl, rfl⟩
        go_wp2_with fail
        go_ret
        exact ⟨ret_int hR.out.symm, hb1⟩
  · have hC := Lib.hid (hF.out.trans (if_neg (fun h => by rw [hL] at h; cases h.1)))
    have HL := Lib.hid hL
    clear hL
    go_enter Tryz.func24, Tryz.ntmps24
    go_wp2_with fail
    refine (refHas10_any l _ _ hl hz _ hU).mono ?_
    rintro e w0 ⟨rfl, hb00⟩
    rw [HH.out]
    go_wp2_with fail
    refine (ref16Kind_any l _ K hkl hRP _ (hU.kept hb00)).mono ?_
    rintro e w1 ⟨rfl, hb01⟩
    have hb1 := hb00.trans (hb01.mono hb00.size)
    rw [HKI.out]
    go_wp2_with fail
    refine (refIs1_any kk k0 k1 _).mono ?_
    rintro e w2 ⟨rfl, rfl⟩
    rw [HL.out]
    have hg1 := hb1.size
    replace c2 := cellK hb1 hb c2
    have hat1 := hat.kept hb1
    cases ha : atO x.ats ⟨#[102, 111, 114, 109]⟩ with
    | none =>
      have hR := Lib.hid (show FormF l (K : Nat) = nearF l ⟨#[102, 111, 114, 109]⟩ (paOf l (K : Nat)) by rw [hC.out, ha]; exact hUp.out)
      clear hC
      have HA := Lib.hid ha
      clear ha
      go_wp2_with fail
      refine (refAttr14_any x.ats _ ⟨#[102, 111, 114, 109]⟩ (by omega) _ hat1).mono ?_
      rintro e w3 ⟨rfl, rfl⟩
      rw [HA.out]
      unfold atT
      go_wp2_with fail
      refine (refUp_any l _ K ⟨#[102, 111, 114, 109]⟩ hkl hRP _ (hU.kept hb1)).mono ?_
      rintro e w9 ⟨rfl, rfl⟩
      go_wp2_with fail
      go_ret
      exact ⟨ret_int hR.out.symm, hb1⟩
    | some s =>
      have HA := Lib.hid ha
      by_cases ht : topF l (K : Nat) = 0
      · have HT := Lib.hid ht
        rcases namedF_range l s with hf | ⟨hf0, hf1⟩
        · have hR := Lib.hid (show FormF l (K : Nat) = -1 by rw [hC.out, ha]; show (if topB l (K : Nat) = 0 then (if kindF l (namedF l s) = 30 then namedF l s else -1) else upB l (K : Nat) ⟨#[102, 111, 114, 109]⟩) = -1; rw [if_pos (hTp.out.trans ht), hf]; rfl)
          have HF := Lib.hid hf
          clear hC ha ht hf
          go_wp2_with fail
          refine (refAttr14_any x.ats _ ⟨#[102, 111, 114, 109]⟩ (by omega) _ hat1).mono ?_
          rintro e w3 ⟨rfl, rfl⟩
          rw [HA.out]
          unfold atT
          go_wp2_with fail
          refine (refTop_any l _ K hkl hRP _ (hU.kept hb1)).mono ?_
          rintro e w4 ⟨rfl, rfl⟩
          rw [HT.out]
          go_wp2_with fail
          refine (refByID_any l hRP _ s _ hz (hU.kept hb1)).mono ?_
          rintro e w5 ⟨rfl, hb5⟩
          have hb15 := hb1.trans (hb5.mono hg1)
          rw [HF.out]
          go_wp2_with fail
          go_ret
          exact ⟨ret_int hR.out.symm, hb15⟩
        · have HK := kindF_form hf0 hf1
          obtain ⟨q, hq⟩ := Int.eq_ofNat_of_zero_le hf0
          rw [hq] at hf0 hf1 HK
          have hql : q < l.length := by omega
          have hnq := nmOf_at hql
          by_cases hn : nmOf l (q : Nat) = ⟨#[102, 111, 114, 109]⟩
          · have hR := Lib.hid (show FormF l (K : Nat) = (q : Nat) by rw [hC.out, ha]; show (if topB l (K : Nat) = 0 then (if kindF l (namedF l s) = 30 then namedF l s else -1) else upB l (K : Nat) ⟨#[102, 111, 114, 109]⟩) = _; rw [if_pos (hTp.out.trans ht), hq, if_pos (HK.2 hn)])
            rw [hnq] at hn
            have HQ := Lib.hid hq
            have q1 := sTrue hn
            rw [form_toList] at q1
            clear hC ha ht hn hq HK hnq
            go_wp2_with fail
            refine (refAttr14_any x.ats _ ⟨#[102, 111, 114, 109]⟩ (by omega) _ hat1).mono ?_
            rintro e w3 ⟨rfl, rfl⟩
            rw [HA.out]
            unfold atT
            go_wp2_with fail
            refine (refTop_any l _ K hkl hRP _ (hU.kept hb1)).mono ?_
            rintro e w4 ⟨rfl, rfl⟩
            rw [HT.out]
            go_wp2_with fail
            refine (refByID_any l hRP _ s _ hz (hU.kept hb1)).mono ?_
            rintro e w5 ⟨rfl, hb5⟩
            have hb15 := hb1.trans (hb5.mono hg1)
            rw [HQ.out]
            obtain ⟨b2, o2, cap2, va2, vk2, hv2, hb2, g0, g1, g2, g3, g4, _, _⟩ := (hU.kept hb15).at hql
            cases hv2
            generalize l[q] = y at *
            go_wp2_with fail
            go_ret
            exact ⟨ret_int hR.out.symm, hb15⟩
          · have hR := Lib.hid (show FormF l (K : Nat) = -1 by rw [hC.out, ha]; show (if topB l (K : Nat) = 0 then (if kindF l (namedF l s) = 30 then namedF l s else -1) else upB l (K : Nat) ⟨#[102, 111, 114, 109]⟩) = _; rw [if_pos (hTp.out.trans ht), hq, if_neg (fun h => hn (HK.1 h))])
            rw [hnq] at hn
            have HQ := Lib.hid hq
            have q1 := sFalse hn
            rw [form_toList] at q1
            clear hC ha ht hn hq HK hnq
            go_wp2_with fail
            refine (refAttr14_any x.ats _ ⟨#[102, 111, 114, 109]⟩ (by omega) _ hat1).mono ?_
            rintro e w3 ⟨rfl, rfl⟩
            rw [HA.out]
            unfold atT
            go_wp2_with fail
            refine (refTop_any l _ K hkl hRP _ (hU.kept hb1)).mono ?_
            rintro e w4 ⟨rfl, rfl⟩
            rw [HT.out]
            go_wp2_with fail
            refine (refByID_any l hRP _ s _ hz (hU.kept hb1)).mono ?_
            rintro e w5 ⟨rfl, hb5⟩
            have hb15 := hb1.trans (hb5.mono hg1)
            rw [HQ.out]
            obtain ⟨b2, o2, cap2, va2, vk2, hv2, hb2, g0, g1, g2, g3, g4, _, _⟩ := (hU.kept hb15).at hql
            cases hv2
            generalize l[q] = y at *
            go_wp2_with fail
            go_ret
            exact ⟨ret_int hR.out.symm, hb15⟩
      · have hR := Lib.hid (show FormF l (K : Nat) = nearF l ⟨#[102, 111, 114, 109]⟩ (paOf l (K : Nat)) by rw [hC.out, ha]; show (if topB l (K : Nat) = 0 then (if kindF l (namedF l s) = 30 then namedF l s else -1) else upB l (K : Nat) ⟨#[102, 111, 114, 109]⟩) = _; rw [if_neg (fun h => ht (hTp.out.symm.trans h))]; exact hUp.out)
        have ht1 : (topF l (K : Nat) == 0) = false := intNe ht
        clear hC ha ht
        go_wp2_with fail
        refine (refAttr14_any x.ats _ ⟨#[102, 111, 114, 109]⟩ (by omega) _ hat1).mono ?_
        rintro e w3 ⟨rfl, rfl⟩
        rw [HA.out]
        unfold atT
        go_wp2_with fail
        refine (refTop_any l _ K hkl hRP _ (hU.kept hb1)).mono ?_
        rintro e w4 ⟨rfl, rfl⟩
        go_wp2_with fail
        refine (refUp_any l _ K ⟨#[102, 111, 114, 109]⟩ hkl hRP _ (hU.kept hb1)).mono ?_
        rintro e w9 ⟨rfl, rfl⟩
        go_wp2_with fail
        go_ret
        exact ⟨ret_int hR.out.symm, hb1⟩
end Go.Proofs.YtafbghlldlconaaGreat

/-
  FORMS' ELEMENTS, LABELS' CONTROLS, WHAT IS DISABLED: plain laws.
-/
namespace Go.Proofs.YtafbghlldlconaaGreat
set_option linter.unusedVariables false
set_option linter.unusedSimpArgs false
open Go.RowKit PT

theorem topF_all {l : List Nd} (h : RightP l) : ∀ (n : Nat) (k : Int), dep l k ≤ n → 0 ≤ k → k < l.length → 0 ≤ topF l k ∧ topF l k < l.length ∧ paOf l (topF l k) < 0 ∧ Anc l k (topF l k)
  | 0, k, hn, h0, h1 => by have := dep_eq h h0 h1; omega
  | n + 1, k, hn, h0, h1 => by
    by_cases hp : paOf l k < 0
    · rw [topF_end h h0 h1 hp]
      exact ⟨h0, h1, hp, Anc.self h h0 h1⟩
    · have hd := dep_eq h h0 h1
      rw [topF_go h h0 h1 (by omega)]
      obtain ⟨a, b, c, d⟩ := topF_all h n (paOf l k) (by omega) (by omega) (h.pa_lt h0 h1)
      refine ⟨a, b, c, ?_⟩
      by_cases e : k = topF l (paOf l k)
      · rw [← e] at c; omega
      · exact (Anc.step h h0 h1 e).2 d
theorem topF_range {l : List Nd} (h : RightP l) {k : Int} (h0 : 0 ≤ k) (h1 : k < l.length) : 0 ≤ topF l k ∧ topF l k < l.length := by
  obtain ⟨a, b, _⟩ := topF_all h _ k (Nat.le_refl _) h0 h1
  exact ⟨a, b⟩
theorem hasB_yes {l : List Nd} (h : RightP l) {k : Int} (h0 : 0 ≤ k) (h1 : k < l.length) : hasB l k = true := (hasB_iff l k).2 ⟨h0, h1, h⟩
theorem kindF_in {l : List Nd} {k : Int} (h0 : 0 ≤ k) (h1 : k < l.length) : kindF l k = kOf l k := if_pos ⟨h0, h1⟩
theorem kindF_pos {l : List Nd} {k : Int} (h : kindF l k ≠ 0) : 0 ≤ k ∧ k < l.length := by
  unfold kindF at h
  split at h
  · assumption
  · exact absurd rfl h
/-- all nodes in the order of a form's document -/
noncomputable def inF (l : List Nd) (id : Int) : List Int := if rightB l = true ∧ kindF l id = 30 then ord l (topF l id) else []
noncomputable def elP (l : List Nd) (id : Int) (k : Int) : Bool := listB (kindF l k) && decide (formF l k = id)
noncomputable def elemsF (l : List Nd) (id : Int) : List Int := (inF l id).filter (elP l id)
noncomputable def defP (l : List Nd) (id : Int) (k : Int) : Bool := firesB (kindF l k) && decide (formF l k = id)
noncomputable def defF (l : List Nd) (id : Int) : Int := firstF (defP l id) (inF l id)
noncomputable def ctlF (l : List Nd) (id : Int) : Int := if rightB l = true ∧ kindF l id = 31 then (match attF l id ⟨#[102, 111, 114]⟩ with
  | some s => if labelB (kindF l (namedF l s)) = true then namedF l s else -1
  | none => firstF (fun k => labelB (kindF l k)) (ord l id).tail) else -1
/-- a fieldset's first legend -/
def legF (l : List Nd) (id : Int) : Int := firstF (fun k => decide (kindF l k = 34)) (ksOf l id)
def disA (l : List Nd) (i : Int) : Bool := (atO (atsOf l i) ⟨#[100, 105, 115, 97, 98, 108, 101, 100]⟩).isSome
/-- is what lies above a node a fieldset that disables it? -/
def setP (l : List Nd) (c : Int) : Bool := decide (0 ≤ paOf l c) && (decide (kindF l (paOf l c) = 29) && (disA l (paOf l c) && decide (legF l (paOf l c) ≠ c)))
def upDis (l : List Nd) (k : Int) : Bool := cl l (fun c => if setP l c = true then some true else none) false k
noncomputable def disF (l : List Nd) (id : Int) : Bool := (rightB l && (submB (kindF l id) || decide (kindF l id = 29))) && (disA l id || upDis l id)
theorem inF_mem {l : List Nd} {id : Int} {k : Int} (h : k ∈ inF l id) : RightP l ∧ 0 ≤ id ∧ id < l.length ∧ 0 ≤ k ∧ k < l.length ∧ Anc l k (topF l id) := by
  unfold inF at h
  split at h
  · rename_i hc
    have hRP := (rightB_iff l).1 hc.1
    obtain ⟨i0, i1⟩ := kindF_pos (l := l) (k := id) (by omega)
    obtain ⟨t0, t1⟩ := topF_range hRP i0 i1
    obtain ⟨a, b, c⟩ := ord_mem hRP t0 t1 h
    exact ⟨hRP, i0, i1, a, b, c⟩
  · cases h
theorem inF_len {l : List Nd} (id : Int) : (inF l id).length ≤ l.length := by
  unfold inF
  split
  · rename_i hc
    have hRP := (rightB_iff l).1 hc.1
    obtain ⟨i0, i1⟩ := kindF_pos (l := l) (k := id) (by omega)
    obtain ⟨t0, t1⟩ := topF_range hRP i0 i1
    exact ord_len hRP t0 t1
  · simp
theorem filter_snoc {p : Int → Bool} {t : List Int} {k : Nat} (h : k < t.length) : (t.take (k + 1)).filter p = (t.take k).filter p ++ if p t[k] = true then [t[k]] else [] := by
  rw [List.take_succ_eq_append_getElem h, List.filter_append]
  congr 1
  by_cases hp : p t[k] = true
  · rw [if_pos hp]; simp [hp]
  · rw [if_neg hp]; simp [hp]
theorem formF_Form {l : List Nd} (h : rightB l = true) (k : Int) : FormF l k = formF l k := if_pos h
theorem isF_30 {l : List Nd} {id k : Int} (hk : k ≠ 0) : isF l id k = true ↔ rightB l = true ∧ kindF l id = k := by
  unfold isF
  rw [Bool.and_eq_true, decide_eq_true_iff, hasB_iff, rightB_iff]
  constructor
  · rintro ⟨⟨a, b, c⟩, d⟩
    exact ⟨c, by rw [kindF_in a b]; exact d⟩
  · rintro ⟨c, d⟩
    obtain ⟨a, b⟩ := kindF_pos (l := l) (k := id) (by omega)
    exact ⟨⟨a, b, c⟩, by rw [← kindF_in a b]; exact d⟩
theorem RightP.kid_of {l : List Nd} (h : RightP l) {c : Int} (h0 : 0 ≤ c) (h1 : c < l.length) (hp : 0 ≤ paOf l c) : c ∈ ksOf l (paOf l c) := by
  obtain ⟨q, rfl⟩ := Int.eq_ofNat_of_zero_le h0
  have hq : q < l.length := by omega
  rw [paOf_at hq] at hp ⊢
  have := h.once q _ (List.getElem?_eq_getElem hq) hp
  exact List.count_pos_iff.1 (by omega)
theorem ord_trans {l : List Nd} (h : RightP l) {m c : Int} (hc : c ∈ ksOf l m) : ∀ (n : Nat) (k : Int), l.length + 2 ≤ n + dep l k → 0 ≤ k → k < l.length → m ∈ ord l k → c ∈ ord l k := by
  intro n
  induction n with
  | zero => intro k hd; have := dep_le l k; omega
  | succ n ih =>
    intro k hd h0 h1 hm
    rw [ord_eq h h0 h1] at hm ⊢
    rcases List.mem_cons.1 hm with e | hm
    · subst e
      refine List.mem_cons_of_mem _ (List.mem_flatMap.2 ⟨c, hc, ?_⟩)
      obtain ⟨c0, c1, _⟩ := h.kid h0 h1 hc
      rw [ord_eq h c0 c1]
      exact List.mem_cons_self ..
    · obtain ⟨q, hq, hmq⟩ := List.mem_flatMap.1 hm
      obtain ⟨q0, q1, _⟩ := h.kid h0 h1 hq
      exact List.mem_cons_of_mem _ (List.mem_flatMap.2 ⟨q, hq, ih q (by rw [dep_kid h h0 h1 hq]; omega) q0 q1 hmq⟩)
/-- completeness of the order -/
theorem ord_full {l : List Nd} (h : RightP l) {k : Int} : ∀ (n : Nat) (c : Int), dep l c ≤ n → 0 ≤ c → c < l.length → Anc l c k → c ∈ ord l k ∧ 0 ≤ k ∧ k < l.length := by
  intro n
  induction n with
  | zero => intro c hd h0 h1 _; have := dep_eq h h0 h1; omega
  | succ n ih =>
    intro c hd h0 h1 ha
    by_cases e : c = k
    · subst e
      exact ⟨by rw [ord_eq h h0 h1]; exact List.mem_cons_self .., h0, h1⟩
    · have ha' := (Anc.step h h0 h1 e).1 ha
      have p0 := ha'.nonneg
      have hde := dep_eq h h0 h1
      obtain ⟨hm, k0, k1⟩ := ih (paOf l c) (by omega) p0 (h.pa_lt h0 h1) ha'
      refine ⟨?_, k0, k1⟩
      exact ord_trans h (h.kid_of h0 h1 p0) (l.length + 2) k (by omega) k0 k1 hm
end Go.Proofs.YtafbghlldlconaaGreat

/-
  WHAT IS DISABLED: the program's way up and the document's rule answer alike: plain laws.
-/
namespace Go.Proofs.YtafbghlldlconaaGreat
set_option linter.unusedVariables false
set_option linter.unusedSimpArgs false
open Go.RowKit PT

theorem kind_other8 {j : Nat} {s : ByteArray} (hj : j < 8) (hs : otL[j]? = some s) (hd : ∀ i, i < j → otL[i]? ≠ some s) (h4 : s ≠ ⟨#[105, 110, 112, 117, 116]⟩ ∧ s ≠ ⟨#[98, 117, 116, 116, 111, 110]⟩ ∧ s ≠ ⟨#[115, 101, 108, 101, 99, 116]⟩ ∧ s ≠ ⟨#[116, 101, 120, 116, 97, 114, 101, 97]⟩) (x : Nd) : kindOf x = 28 + (j : Int) ↔ x.nm = s := by
  have h1 := tyK_range (tyOf x)
  have hb : 25 ≤ btK (tyOf x) ∧ btK (tyOf x) ≤ 27 := by
    unfold btK; split
    · omega
    · split <;> omega
  constructor
  · intro h
    unfold kindOf at h
    split at h
    · omega
    · split at h
      · omega
      · split at h
        · omega
        · split at h
          · omega
          · unfold otK at h
            split at h
            · omega
            · rename_i i hi
              have h2 : i = j := by omega
              subst h2
              obtain ⟨hl, he, _⟩ := List.findIdx?_eq_some_iff_getElem.1 hi
              rw [List.getElem?_eq_getElem hl] at hs
              rw [← of_decide_eq_true he]
              exact Option.some.inj hs
  · intro h
    unfold kindOf
    rw [if_neg (by rw [h]; exact h4.1), if_neg (by rw [h]; exact h4.2.1), if_neg (by rw [h]; exact h4.2.2.1), if_neg (by rw [h]; exact h4.2.2.2), h]
    exact otK_hit hj hd hs
theorem kind_set (x : Nd) : kindOf x = 29 ↔ x.nm = ⟨#[102, 105, 101, 108, 100, 115, 101, 116]⟩ := kind_other8 (j := 1) (by decide) rfl (fun i hi => by
  match i, hi with
  | 0, _ => decide) (by decide) x
theorem kind_leg (x : Nd) : kindOf x = 34 ↔ x.nm = ⟨#[108, 101, 103, 101, 110, 100]⟩ := kind_other8 (j := 6) (by decide) rfl (fun i hi => by
  match i, hi with
  | 0, _ => decide
  | 1, _ => decide
  | 2, _ => decide
  | 3, _ => decide
  | 4, _ => decide
  | 5, _ => decide) (by decide) x
theorem kindF_set {l : List Nd} {f : Int} (h0 : 0 ≤ f) (h1 : f < l.length) : kindF l f = 29 ↔ nmOf l f = ⟨#[102, 105, 101, 108, 100, 115, 101, 116]⟩ := by
  obtain ⟨q, rfl⟩ := Int.eq_ofNat_of_zero_le h0
  have hq : q < l.length := by omega
  rw [kindF_in h0 h1, kOf_at hq, nmOf_at hq]
  exact kind_set _
theorem kindF_leg {l : List Nd} {f : Int} (h0 : 0 ≤ f) (h1 : f < l.length) : kindF l f = 34 ↔ nmOf l f = ⟨#[108, 101, 103, 101, 110, 100]⟩ := by
  obtain ⟨q, rfl⟩ := Int.eq_ofNat_of_zero_le h0
  have hq : q < l.length := by omega
  rw [kindF_in h0 h1, kOf_at hq, nmOf_at hq]
  exact kind_leg _
/-- the first legend among a node's children, by its name -/
def legQ (l : List Nd) (f : Int) : Option Int := (ksOf l f).find? (fun k => decide (nmOf l k = ⟨#[108, 101, 103, 101, 110, 100]⟩))
def spB (l : List Nd) (id f : Int) : Bool := match legQ l f with
  | some k => decide (k = id) || withinF l k (paOf l id)
  | none => false
def setQ (l : List Nd) (id f : Int) : Bool := decide (nmOf l f = ⟨#[102, 105, 101, 108, 100, 115, 101, 116]⟩) && (disA l f && (withinF l f (paOf l id) && !spB l id f))
theorem find_eq {p q : Int → Bool} : ∀ {t : List Int}, (∀ x ∈ t, p x = q x) → t.find? p = t.find? q
  | [], _ => rfl
  | x :: t, h => by
    rw [List.find?_cons, List.find?_cons, h x (List.mem_cons_self ..), find_eq (fun y hy => h y (List.mem_cons_of_mem _ hy))]
theorem legF_Q {l : List Nd} (h : RightP l) {f : Int} (h0 : 0 ≤ f) (h1 : f < l.length) : legF l f = (legQ l f).getD (-1) := by
  unfold legF firstF legQ
  rw [find_eq (q := fun k => decide (nmOf l k = ⟨#[108, 101, 103, 101, 110, 100]⟩)) (fun k hk => by
    obtain ⟨k0, k1, _⟩ := h.kid h0 h1 hk
    have := kindF_leg k0 k1
    by_cases e : kindF l k = 34
    · rw [decide_eq_true e, decide_eq_true (this.1 e)]
    · rw [decide_eq_false e, decide_eq_false (fun e' => e (this.2 e'))])]
theorem legQ_kid {l : List Nd} (h : RightP l) {f k : Int} (h0 : 0 ≤ f) (h1 : f < l.length) (hk : legQ l f = some k) : 0 ≤ k ∧ k < l.length ∧ paOf l k = f := h.kid h0 h1 (List.mem_of_find?_eq_some hk)
theorem cl_any {l : List Nd} (h : RightP l) (P : Int → Bool) : ∀ (n : Nat) (k : Int), dep l k ≤ n → k < l.length → (cl l (fun c => if P c = true then some true else none) false k = true ↔ ∃ c : Int, 0 ≤ c ∧ c < l.length ∧ Anc l k c ∧ P c = true)
  | 0, k, hn, h1 => by
    have hk : k < 0 := by
      by_cases h0 : 0 ≤ k
      · have := dep_eq h h0 h1; omega
      · omega
    rw [cl_neg l _ _ hk]
    constructor
    · intro e; cases e
    · rintro ⟨c, _, _, ha, _⟩
      have := ha.nonneg; omega
  | n + 1, k, hn, h1 => by
    by_cases h0 : 0 ≤ k
    · have hd := dep_eq h h0 h1
      have ih := cl_any h P n (paOf l k) (by omega) (h.pa_lt h0 h1)
      cases hP : P k
      · rw [cl_go h _ _ h0 h1 (by rw [hP]; rfl), ih]
        constructor
        · rintro ⟨c, c0, c1, ha, hc⟩
          refine ⟨c, c0, c1, ?_, hc⟩
          by_cases e : k = c
          · rw [e]; exact Anc.self h c0 c1
          · exact (Anc.step h h0 h1 e).2 ha
        · rintro ⟨c, c0, c1, ha, hc⟩
          have e : k ≠ c := fun e => by rw [e, hc] at hP; cases hP
          exact ⟨c, c0, c1, (Anc.step h h0 h1 e).1 ha, hc⟩
      · rw [cl_hit h _ _ h0 h1 (b := true) (by rw [hP]; rfl)]
        exact ⟨fun _ => ⟨k, h0, h1, Anc.self h h0 h1, hP⟩, fun _ => rfl⟩
    · rw [cl_neg l _ _ (by omega)]
      constructor
      · intro e; cases e
      · rintro ⟨c, _, _, ha, _⟩
        have := ha.nonneg; omega
theorem path_child {l : List Nd} (h : RightP l) {f : Int} : ∀ (n : Nat) (k : Int), dep l k ≤ n → 0 ≤ k → k < l.length → Anc l (paOf l k) f → ∃ c : Int, 0 ≤ c ∧ c < l.length ∧ Anc l k c ∧ paOf l c = f
  | 0, k, hn, h0, h1, _ => by have := dep_eq h h0 h1; omega
  | n + 1, k, hn, h0, h1, ha => by
    by_cases e : paOf l k = f
    · exact ⟨k, h0, h1, Anc.self h h0 h1, e⟩
    · have hd := dep_eq h h0 h1
      have p0 := ha.nonneg
      have p1 := h.pa_lt h0 h1
      obtain ⟨c, c0, c1, hc, hp⟩ := path_child h n (paOf l k) (by omega) p0 p1 ((Anc.step h p0 p1 e).1 ha)
      refine ⟨c, c0, c1, ?_, hp⟩
      by_cases e2 : k = c
      · rw [e2]; exact Anc.self h c0 c1
      · exact (Anc.step h h0 h1 e2).2 hc
theorem anc_par {l : List Nd} (h : RightP l) {k c : Int} (h0 : 0 ≤ k) (h1 : k < l.length) (c0 : 0 ≤ c) (c1 : c < l.length) (hp : 0 ≤ paOf l c) (ha : Anc l k c) : Anc l (paOf l k) (paOf l c) := by
  have hp1 := h.pa_lt c0 c1
  by_cases e : k = c
  · rw [e]; exact Anc.self h hp hp1
  · have ha' := (Anc.step h h0 h1 e).1 ha
    exact Anc.up h hp hp1 rfl _ (paOf l k) rfl (h.pa_lt h0 h1) ha'
theorem upDis_iff {l : List Nd} (h : RightP l) {id : Int} (h0 : 0 ≤ id) (h1 : id < l.length) : upDis l id = true ↔ ∃ f : Int, 0 ≤ f ∧ f < l.length ∧ setQ l id f = true := by
  unfold upDis
  rw [cl_any h (setP l) _ id (Nat.le_refl _) h1]
  constructor
  · rintro ⟨c, c0, c1, ha, hs⟩
    unfold setP at hs
    simp only [Bool.and_eq_true, decide_eq_true_iff] at hs
    obtain ⟨p0, hk, hd, hl⟩ := hs
    have p1 := h.pa_lt c0 c1
    refine ⟨paOf l c, p0, p1, ?_⟩
    unfold setQ
    simp only [Bool.and_eq_true, decide_eq_true_iff, Bool.not_eq_true']
    refine ⟨(kindF_set p0 p1).1 hk, hd, anc_par h h0 h1 c0 c1 p0 ha, ?_⟩
    unfold spB
    cases hq : legQ l (paOf l c) with
    | none => rfl
    | some k =>
      obtain ⟨k0, k1, kp⟩ := legQ_kid h p0 p1 hq
      rw [legF_Q h p0 p1, hq] at hl
      have hl' : k ≠ c := hl
      have hdk : Go.Proofs.YtafbghlldlconaaGreat.dep l k = Go.Proofs.YtafbghlldlconaaGreat.dep l c := by rw [dep_eq h k0 k1, dep_eq h c0 c1, kp]
      show (decide (k = id) || withinF l k (paOf l id)) = false
      rw [Bool.or_eq_false_iff]
      have hno : ¬ Anc l id k := fun hk' => hl' (Anc.uniq h hdk _ id rfl h1 hk' ha)
      constructor
      · refine decide_eq_false (fun e => hno ?_)
        rw [e]; exact Anc.self h h0 h1
      · cases hw : withinF l k (paOf l id)
        · rfl
        · refine absurd ?_ hno
          by_cases e : id = k
          · rw [← e]; exact Anc.self h h0 h1
          · exact (Anc.step h h0 h1 e).2 hw
  · rintro ⟨f, f0, f1, hs⟩
    unfold setQ at hs
    simp only [Bool.and_eq_true, decide_eq_true_iff, Bool.not_eq_true'] at hs
    obtain ⟨hn, hd, hw, hsp⟩ := hs
    obtain ⟨c, c0, c1, ha, hp⟩ := path_child h _ id (Nat.le_refl _) h0 h1 hw
    refine ⟨c, c0, c1, ha, ?_⟩
    unfold setP
    simp only [Bool.and_eq_true, decide_eq_true_iff]
    rw [hp]
    refine ⟨f0, (kindF_set f0 f1).2 hn, hd, fun e => ?_⟩
    rw [legF_Q h f0 f1] at e
    unfold spB at hsp
    cases hq : legQ l f with
    | none => rw [hq] at e; simp at e; omega
    | some k =>
      rw [hq] at e hsp
      have e' : k = c := e
      subst e'
      have hsp' : (decide (k = id) || withinF l k (paOf l id)) = false := hsp
      rw [Bool.or_eq_false_iff] at hsp'
      have hne : id ≠ k := fun e => of_decide_eq_false hsp'.1 e.symm
      have := (Anc.step h h0 h1 hne).1 ha
      rw [Anc, hsp'.2] at this
      cases this
theorem disF_in {l : List Nd} (h : RightP l) {id : Int} (h0 : 0 ≤ id) (h1 : id < l.length) : disF l id = ((submB (kOf l id) || decide (kOf l id = 29)) && (disA l id || upDis l id)) := by
  unfold disF
  rw [rightB_yes h, kindF_in h0 h1, Bool.true_and]
theorem disF_out {l : List Nd} {id : Int} (h : hasB l id = false) : disF l id = false := by
  unfold disF
  cases hr : rightB l
  · rfl
  · have hk : kindF l id = 0 := by
      refine if_neg (fun hh => ?_)
      rw [(hasB_iff l id).2 ⟨hh.1, hh.2, (rightB_iff l).1 hr⟩] at h
      cases h
    rw [hk]
    rfl
end Go.Proofs.YtafbghlldlconaaGreat

/-
  A SELECT's OPTIONS: as the program hands them out (its children, and those of its groups) and as the document picks them among all nodes: one list: plain laws.
-/
namespace Go.Proofs.YtafbghlldlconaaGreat
set_option linter.unusedVariables false
set_option linter.unusedSimpArgs false
open Go.RowKit PT

theorem kind_opt (x : Nd) : kindOf x = 32 ↔ x.nm = ⟨#[111, 112, 116, 105, 111, 110]⟩ := kind_other8 (j := 4) (by decide) rfl (fun i hi => by
  match i, hi with
  | 0, _ => decide
  | 1, _ => decide
  | 2, _ => decide
  | 3, _ => decide) (by decide) x
theorem kind_grp (x : Nd) : kindOf x = 33 ↔ x.nm = ⟨#[111, 112, 116, 103, 114, 111, 117, 112]⟩ := kind_other8 (j := 5) (by decide) rfl (fun i hi => by
  match i, hi with
  | 0, _ => decide
  | 1, _ => decide
  | 2, _ => decide
  | 3, _ => decide
  | 4, _ => decide) (by decide) x
theorem otK_ge (nm : ByteArray) : otK nm = 0 ∨ 28 ≤ otK nm := by
  unfold otK
  split
  · exact .inl rfl
  · exact .inr (by omega)
theorem kind_sel (x : Nd) : kindOf x = 23 ↔ x.nm = ⟨#[115, 101, 108, 101, 99, 116]⟩ := by
  have h1 := tyK_range (tyOf x)
  have hb : 25 ≤ btK (tyOf x) ∧ btK (tyOf x) ≤ 27 := by
    unfold btK; split
    · omega
    · split <;> omega
  have h2 := otK_ge x.nm
  have hne : ∀ {a : ByteArray}, x.nm = a → a ≠ ⟨#[115, 101, 108, 101, 99, 116]⟩ → ¬ x.nm = ⟨#[115, 101, 108, 101, 99, 116]⟩ := fun h h2 h3 => h2 (h.symm.trans h3)
  unfold kindOf
  split
  · rename_i h
    exact ⟨fun e => by omega, fun e => absurd e (hne h (by decide))⟩
  · split
    · rename_i h
      exact ⟨fun e => by omega, fun e => absurd e (hne h (by decide))⟩
    · split
      · rename_i h
        exact ⟨fun _ => h, fun _ => rfl⟩
      · rename_i h
        split
        · exact ⟨fun e => by omega, fun e => absurd e h⟩
        · exact ⟨fun e => by omega, fun e => absurd e h⟩
theorem kOf_opt {l : List Nd} {k : Int} (h0 : 0 ≤ k) (h1 : k < l.length) : kOf l k = 32 ↔ nmOf l k = ⟨#[111, 112, 116, 105, 111, 110]⟩ := by
  obtain ⟨q, rfl⟩ := Int.eq_ofNat_of_zero_le h0
  have hq : q < l.length := by omega
  rw [kOf_at hq, nmOf_at hq]
  exact kind_opt _
theorem kOf_grp {l : List Nd} {k : Int} (h0 : 0 ≤ k) (h1 : k < l.length) : kOf l k = 33 ↔ nmOf l k = ⟨#[111, 112, 116, 103, 114, 111, 117, 112]⟩ := by
  obtain ⟨q, rfl⟩ := Int.eq_ofNat_of_zero_le h0
  have hq : q < l.length := by omega
  rw [kOf_at hq, nmOf_at hq]
  exact kind_grp _
theorem kOf_sel {l : List Nd} {k : Int} (h0 : 0 ≤ k) (h1 : k < l.length) : kOf l k = 23 ↔ nmOf l k = ⟨#[115, 101, 108, 101, 99, 116]⟩ := by
  obtain ⟨q, rfl⟩ := Int.eq_ofNat_of_zero_le h0
  have hq : q < l.length := by omega
  rw [kOf_at hq, nmOf_at hq]
  exact kind_sel _
/-- what the program looks at for a select's child: a group's children, or it alone -/
def innF (l : List Nd) (k : Int) : List Int := if kOf l k = 33 then ksOf l k else [k]
def optP (l : List Nd) (k : Int) : Bool := decide (kOf l k = 32)
def optsOf (l : List Nd) (sel : Int) : List Int := (ksOf l sel).flatMap fun k => (innF l k).filter (optP l)
noncomputable def listF (l : List Nd) (sel : Int) : List Int := if isF l sel 23 = true then optsOf l sel else []
/-- an option's select; -1: none -/
def selUp (l : List Nd) (k : Int) : Int := if 0 ≤ paOf l k ∧ nmOf l (paOf l k) = ⟨#[111, 112, 116, 103, 114, 111, 117, 112]⟩ then paOf l (paOf l k) else paOf l k
def ownR (l : List Nd) (k : Int) : Int := if selUp l k < 0 ∨ nmOf l (selUp l k) ≠ ⟨#[115, 101, 108, 101, 99, 116]⟩ then -1 else selUp l k
def optR (l : List Nd) (sel : Int) (k : Int) : Bool := decide (nmOf l k = ⟨#[111, 112, 116, 105, 111, 110]⟩) && decide (ownR l k = sel)
theorem ownR_at {l : List Nd} {k sel : Int} (h0 : 0 ≤ sel) : ownR l k = sel ↔ selUp l k = sel ∧ nmOf l sel = ⟨#[115, 101, 108, 101, 99, 116]⟩ := by
  unfold ownR
  split
  · rename_i h
    refine ⟨fun e => by omega, fun ⟨a, b⟩ => ?_⟩
    rw [a] at h
    rcases h with h | h
    · omega
    · exact absurd b h
  · rename_i h
    refine ⟨fun a => ⟨a, ?_⟩, fun a => a.1⟩
    rw [a] at h
    by_cases e : nmOf l sel = ⟨#[115, 101, 108, 101, 99, 116]⟩
    · exact e
    · exact absurd (.inr e) h
theorem nm_ne {a b c : ByteArray} (h : a = b) (hbc : b ≠ c) : a ≠ c := fun e => hbc (h.symm.trans e)
/-- an option of a select stands one or two steps below it -/
theorem selUp_dep {l : List Nd} (h : RightP l) {k sel : Int} (s0 : 0 ≤ sel) (s1 : sel < l.length) (k0 : 0 ≤ k) (k1 : k < l.length) (hu : selUp l k = sel) :
    (paOf l k = sel ∧ dep l k = dep l sel + 1) ∨ (0 ≤ paOf l k ∧ nmOf l (paOf l k) = ⟨#[111, 112, 116, 103, 114, 111, 117, 112]⟩ ∧ paOf l (paOf l k) = sel ∧ dep l (paOf l k) = dep l sel + 1 ∧ dep l k = dep l sel + 2) := by
  have hd := dep_eq h k0 k1
  unfold selUp at hu
  split at hu
  · rename_i hc
    have hp1 := h.pa_lt k0 k1
    have hd2 := dep_eq h hc.1 hp1
    rw [hu] at hd2
    exact .inr ⟨hc.1, hc.2, hu, hd2, by omega⟩
  · rw [hu] at hd
    exact .inl ⟨hu, hd⟩
theorem filter_one {l : List Nd} (h : RightP l) {c : Int} (c0 : 0 ≤ c) (c1 : c < l.length) {p : Int → Bool} (hp : ∀ x : Int, 0 ≤ x → x < l.length → Anc l x c → x ≠ c → p x = false) : (ord l c).filter p = [c].filter p := by
  have hn := nodup_ordF h (l.length + 2) c c0 c1
  change (ord l c).Nodup at hn
  have hm := fun x (hx : x ∈ ord l c) => ord_mem h c0 c1 hx
  rw [ord_eq h c0 c1] at hn hm ⊢
  have ht : ((ksOf l c).flatMap (ord l)).filter p = [] := by
    rw [List.filter_eq_nil_iff]
    intro x hx
    have hne : x ≠ c := fun e => (List.nodup_cons.1 hn).1 (e ▸ hx)
    obtain ⟨a, b, d⟩ := hm x (List.mem_cons_of_mem _ hx)
    rw [hp x a b d hne]
    exact Bool.false_ne_true
  rw [List.filter_cons, List.filter_cons, ht]
  rfl
theorem filter_flat {α β : Type} (p : β → Bool) (f : α → List β) : ∀ t : List α, (t.flatMap f).filter p = t.flatMap fun k => (f k).filter p
  | [] => rfl
  | x :: t => by rw [List.flatMap_cons, List.flatMap_cons, List.filter_append, filter_flat p f t]
theorem filter_same {p q : Int → Bool} : ∀ {t : List Int}, (∀ x ∈ t, p x = q x) → t.filter p = t.filter q
  | [], _ => rfl
  | x :: t, h => by
    rw [List.filter_cons, List.filter_cons, h x List.mem_cons_self, filter_same (fun y hy => h y (List.mem_cons_of_mem _ hy))]
theorem opt_single {l : List Nd} {c sel : Int} (c0 : 0 ≤ c) (c1 : c < l.length) (s0 : 0 ≤ sel) (hS : nmOf l sel = ⟨#[115, 101, 108, 101, 99, 116]⟩) (hu : selUp l c = sel) : optR l sel c = optP l c := by
  unfold optR optP
  rw [decide_eq_true ((ownR_at s0).2 ⟨hu, hS⟩), Bool.and_true]
  exact decide_eq_decide.2 (kOf_opt c0 c1).symm
/-- ONE LIST -/
theorem opts_same {l : List Nd} (h : RightP l) {sel : Int} (s0 : 0 ≤ sel) (s1 : sel < l.length) (hS : nmOf l sel = ⟨#[115, 101, 108, 101, 99, 116]⟩) : (ord l sel).filter (optR l sel) = optsOf l sel := by
  have hno : optR l sel sel = false := by
    unfold optR
    rw [decide_eq_false (nm_ne hS (by decide)), Bool.false_and]
  have hR : ∀ x : Int, optR l sel x = true → selUp l x = sel := fun x hx => by
    unfold optR at hx
    rw [Bool.and_eq_true] at hx
    exact ((ownR_at s0).1 (of_decide_eq_true hx.2)).1
  rw [ord_eq h s0 s1, List.filter_cons, hno, if_neg Bool.false_ne_true, filter_flat]
  unfold optsOf
  refine flatMap_eq (fun k hk => ?_)
  obtain ⟨k0, k1, kp⟩ := h.kid s0 s1 hk
  have hdk := dep_kid h s0 s1 hk
  by_cases hg : kOf l k = 33
  · have hgn := (kOf_grp k0 k1).1 hg
    have hi : innF l k = ksOf l k := if_pos hg
    rw [hi, ord_eq h k0 k1, List.filter_cons]
    have hk' : optR l sel k = false := by
      unfold optR
      rw [decide_eq_false (nm_ne hgn (by decide)), Bool.false_and]
    rw [hk', if_neg Bool.false_ne_true, filter_flat]
    have hone : ∀ c ∈ ksOf l k, (ord l c).filter (optR l sel) = [c].filter (optP l) := fun c hc => by
      obtain ⟨c0, c1, cp⟩ := h.kid k0 k1 hc
      have hdc := dep_kid h k0 k1 hc
      have hu : selUp l c = sel := by
        unfold selUp
        rw [cp, if_pos ⟨k0, hgn⟩, kp]
      rw [filter_one h c0 c1 (fun x x0 x1 hx hne => ?_)]
      · exact filter_same (fun y hy => by
          rw [List.mem_singleton] at hy
          subst hy
          exact opt_single c0 c1 s0 hS hu)
      · cases hq : optR l sel x
        · rfl
        · exfalso
          have hdx : dep l c < dep l x := by
            rcases Anc.dep h _ x rfl x1 hx with e | e
            · exact absurd e hne
            · exact e
          rcases selUp_dep h s0 s1 x0 x1 (hR x hq) with ⟨_, e⟩ | ⟨_, _, _, _, e⟩ <;> omega
    rw [flatMap_eq hone]
    generalize ksOf l k = t
    induction t with
    | nil => rfl
    | cons y t ih =>
      rw [List.flatMap_cons, ih, List.filter_cons, List.filter_cons]
      split <;> rfl
  · have hgn : nmOf l k ≠ ⟨#[111, 112, 116, 103, 114, 111, 117, 112]⟩ := fun e => hg ((kOf_grp k0 k1).2 e)
    have hi : innF l k = [k] := if_neg hg
    rw [hi]
    have hu : selUp l k = sel := by
      unfold selUp
      rw [kp, if_neg (fun e => nm_ne hS (by decide) e.2)]
    rw [filter_one h k0 k1 (fun x x0 x1 hx hne => ?_)]
    · exact filter_same (fun y hy => by
        rw [List.mem_singleton] at hy
        subst hy
        exact opt_single k0 k1 s0 hS hu)
    · cases hq : optR l sel x
      · rfl
      · exfalso
        have hdx : dep l k < dep l x := by
          rcases Anc.dep h _ x rfl x1 hx with e | e
          · exact absurd e hne
          · exact e
        rcases selUp_dep h s0 s1 x0 x1 (hR x hq) with ⟨_, e⟩ | ⟨p0, pg, _, pd, _⟩
        · omega
        · have ha := (Anc.step h x0 x1 hne).1 hx
          rcases Anc.dep h _ (paOf l x) rfl (h.pa_lt x0 x1) ha with e | e
          · rw [e] at pg
            exact hgn pg
          · omega
theorem optsOf_mem {l : List Nd} (h : RightP l) {sel : Int} (s0 : 0 ≤ sel) (s1 : sel < l.length) {o : Int} (ho : o ∈ optsOf l sel) : 0 ≤ o ∧ o < l.length ∧ kOf l o = 32 := by
  obtain ⟨k, hk, hx⟩ := List.mem_flatMap.1 ho
  obtain ⟨k0, k1, _⟩ := h.kid s0 s1 hk
  rw [List.mem_filter] at hx
  refine ⟨?_, ?_, of_decide_eq_true hx.2⟩
  all_goals
    have hm := hx.1
    unfold innF at hm
    split at hm
    · have := h.kid k0 k1 hm
      omega
    · rw [List.mem_singleton] at hm
      omega
theorem optsOf_len {l : List Nd} (h : RightP l) {sel : Int} (s0 : 0 ≤ sel) (s1 : sel < l.length) (hS : nmOf l sel = ⟨#[115, 101, 108, 101, 99, 116]⟩) : (optsOf l sel).length ≤ l.length := by
  rw [← opts_same h s0 s1 hS]
  exact Nat.le_trans (List.length_filter_le _ _) (ord_len h s0 s1)
end Go.Proofs.YtafbghlldlconaaGreat
