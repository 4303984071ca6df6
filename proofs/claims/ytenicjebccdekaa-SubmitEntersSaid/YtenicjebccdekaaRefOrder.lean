/-
  THE ORDER OF A RIGHT DOCUMENT by the document: ref10.Order (a stack): the walk.
-/
import Derived.Test.YtenicjebccdekaaOrder
import Derived.Test.YtenicjebccdekaaTwo
namespace Go.Proofs.Ytenicjebccdekaa
set_option linter.unusedVariables false
set_option linter.unusedSimpArgs false
open Go.RowKit PT

def lenV : Value → Nat
  | .slice _ n _ => n
  | _ => 0
theorem OV.lenV {base : Nat} {T : TypeId} {t : List Value} {v : Value} {w : World} (h : OV base T t v w) : lenV v = t.length := by
  obtain ⟨a, cap, rfl, _⟩ := h.form
  rfl
theorem ints_snoc (t : List Int) (c : Int) : ints (t ++ [c]) = ints t ++ [.int .i64 c] := by simp [ints]
theorem ints_len (t : List Int) : (ints t).length = t.length := by simp [ints]
theorem flat_len {l : List Nd} (h : RightP l) : ∀ {t : List Int}, (∀ c ∈ t, 0 ≤ c ∧ c < l.length) → t.length ≤ (t.flatMap (ord l)).length
  | [], _ => Nat.zero_le _
  | c :: t, hc => by
    have h1 := flat_len h (t := t) (fun x hx => hc x (List.mem_cons_of_mem _ hx))
    obtain ⟨c0, c1⟩ := hc c (List.mem_cons_self ..)
    rw [List.flatMap_cons, ord_eq h c0 c1, List.length_append, List.length_cons, List.length_cons]
    omega
set_option maxHeartbeats 4000000 in
set_option maxRecDepth 100000 in
theorem refOrder_any (l : List Nd) (hRP : RightP l) (K : Nat) (hK : K < l.length) (v : Value) (w : World) (hz : ∀ x ∈ l, Fits x) (hU : Nodes l v w) :
    Calls Try.prog 63 #[v, .int .i64 K] w fun e w' => ∃ vo, e = .returned vo ∧ OV w.heap.size 3 (ints (ord l K)) vo w' ∧ Below w.heap.size w w' := by
  obtain ⟨a, cap, rfl⟩ := hU.len
  have hmax := hRP.max
  have hol := ord_len hRP (k := (K : Int)) (by omega) (by omega)
  have hb0 := (Below.refl w.heap.size w).alloc (Nat.le_refl _) (.cells #[.int .i64 K] 3)
  have hlit : OV w.heap.size 3 (ints [(K : Int)]) (.slice (some ⟨w.heap.size, 0, none⟩) 1 1) (w.alloc (.cells #[.int .i64 K] 3)) := World.ownsRow_lit w #[.int .i64 K] 1 (Nat.le_refl _) (by unfold maxLen; omega) rfl
  have htwo : Two w.heap.size 3 (ints []) (.slice none 0 0) (ints [(K : Int)]) (.slice (some ⟨w.heap.size, 0, none⟩) 1 1) (w.alloc (.cells #[.int .i64 K] 3)) := ⟨OV.nil _ _ _, hlit, fun k hk => by cases hk⟩
  go_enter Try.func63, Try.ntmps63
  go_upto_region 3 with fail
  generalize World.alloc _ _ = W0 at hb0 htwo ⊢
  go_loopw [5, 6] (fun vo vn wr => ∃ O N : List Int, Hid (O ++ N.reverse.flatMap (ord l) = ord l K) ∧ (∀ c ∈ N, 0 ≤ c ∧ c < l.length) ∧ Two w.heap.size 3 (ints O) vo (ints N) vn wr ∧ Below w.heap.size w wr) (fun vo _ _ => l.length + 1 - lenV vo)
  case atStart => exact ⟨[], [K], Lib.hid (by simp), by simp; omega, htwo, hb0⟩
  case round =>
    obtain ⟨O, N, hA, hN, hT, hbel⟩ := hrel
    have hsz := hbel.size
    rcases List.eq_nil_or_concat N with rfl | ⟨N', c, rfl⟩
    · have hR := Lib.hid (show O = ord l K by have := hA.out; simpa using this)
      obtain ⟨a1, cap1, hv1, hn1⟩ := hT.b.form
      rw [ints_len] at hv1
      subst hv1
      go_wp2_with fail
      go_ret
      exact ⟨_, rfl, by rw [← hR.out]; exact hT.a, hbel⟩
    · rw [List.concat_eq_append] at *
      obtain ⟨d0, d1⟩ := hN c (by simp)
      have hlen9 := congrArg List.length hA.out
      obtain ⟨g, gcap, rfl, _, hcell⟩ := hT.b.at (by rw [ints_snoc]; simp)
      have hcc := hcell N'.length (.int .i64 c) (by simp [ints])
      have hnl : (ints (N' ++ [c])).length = N'.length + 1 := by simp [ints]
      have hcap : N'.length + 1 ≤ gcap := by
        obtain ⟨_, ⟨hv, _⟩ | ⟨g', cap', cur, hv, h2, h3, h4, _⟩⟩ := hT.b
        · cases hv
        · cases hv; omega
      rw [ints_snoc] at hT
      have hpop := OV.pop hT.b
      have hT2 : Two w.heap.size 3 (ints O) u5 (ints N') (.slice (some ⟨g, 0, none⟩) (ints N').length gcap) wr := ⟨hT.a, hpop, hT.ne⟩
      rw [← ints_snoc, hnl] at hT
      rw [ints_len] at hT2
      rw [hnl]
      have hoe := ord_eq hRP d0 d1
      have hA2 := hA.out
      rw [List.reverse_append, List.flatMap_append] at hA2
      simp only [List.reverse_singleton, List.flatMap_cons, List.flatMap_nil, List.append_nil] at hA2
      rw [hoe] at hA2
      have hAN := Lib.hid (show (O ++ [c]) ++ (N' ++ (ksOf l c).reverse).reverse.flatMap (ord l) = ord l K by
        rw [← hA2, List.reverse_append, List.reverse_reverse, List.flatMap_append]; simp)
      have hn3 : N'.length ≤ 400 := by
        have h1 := flat_len hRP (t := N'.reverse) (fun x hx => hN x (List.mem_append_left _ (List.mem_reverse.1 hx)))
        have h2 := congrArg List.length hA2
        simp only [List.length_append, List.length_cons, List.length_reverse] at h1 h2
        omega
      have hOl : O.length < l.length := by
        have := congrArg List.length hA2
        simp only [List.length_append, List.length_cons] at this
        omega
      have hNN := Lib.hid (show ∀ c' ∈ N' ++ (ksOf l c).reverse, 0 ≤ c' ∧ c' < l.length from fun c' hc' => by
        rcases List.mem_append.1 hc' with h | h
        · exact hN c' (List.mem_append_left _ h)
        · obtain ⟨e0, e1, _⟩ := hRP.kid d0 d1 (List.mem_reverse.1 h)
          exact ⟨e0, e1⟩)
      clear hA hA2 hoe hcell hlen9 hpop hnl
      obtain ⟨q, rfl⟩ := Int.eq_ofNat_of_zero_le d0
      have hq : q < l.length := by omega
      have hn0 : (0 : Int) ≤ (N'.length : Int) := by omega
      have hn1 : (N'.length : Int) ≤ (gcap : Int) := by omega
      have hn2 : (N'.length : Int) < ((N'.length + 1 : Nat) : Int) := by omega
      have hkr := Lib.hid (ksOf_at hq)
      have hkn := hRP.nodup (k := (q : Int)) (by omega) (by omega)
      have hkl : (ksOf l (q : Int)).length ≤ 400 := Nat.le_trans (nodup_len hkn (fun c' hc' => ⟨(hRP.kid (by omega) (by omega) hc').1, (hRP.kid (by omega) (by omega) hc').2.1⟩)) hmax
      obtain ⟨b, o, cap', va, vk, hv, hb, c0, c1, c2, c3, c4, hat, hks⟩ := hU.at hq
      cases hv
      generalize l[q] = x at *
      rw [hkr.out] at hkl hAN hNN
      have hq0 : (0 : Int) ≤ (q : Int) := by omega
      have hq1 : (q : Int) < (l.length : Int) := by omega
      obtain ⟨ka, kcap, rfl⟩ := hks.len
      go_wp2_with (at_builtin; refine wpList_append_cell2 rfl _ _ 28 3 rfl Try.underlying28 info_i64 rfl (by decide) rfl rfl (.int .i64 (q : Int)) rfl hT2 (by rw [ints_len]; omega) hsz ?_; intro v' w1 hT3 hb1; have hbw1 := hbel.trans hb1; have d4 := cellK hbw1 hb c4)
      go_loopw [6, 8] (fun vn i wi => ∃ j : Nat, j ≤ x.ks.length ∧ i = .int .i64 ((j : Int) - 1) ∧ Two w.heap.size 3 (ints (O ++ [(q : Int)])) v' (ints (N' ++ (x.ks.drop j).reverse)) vn wi ∧ Below w.heap.size w wi) (fun _ i _ => ((intOf i) + 1).toNat)
      case atStart => exact ⟨x.ks.length, Nat.le_refl _, by go_num, by rw [ints_snoc]; simpa using hT3, hbw1⟩
      case round =>
        obtain ⟨j, hj, rfl, hT4, hbi⟩ := hrel
        have hsi := hbi.size
        have e4 := cellK hbi hb c4
        cases j with
        | zero =>
          rw [List.drop_zero] at hT4
          have hj9 : decide ((0 : Int) ≤ (0 : Int) - 1) = false := by decide
          go_wp2_with fail
          exact ⟨⟨O ++ [(q : Int)], _, hAN, hNN.out, hT4, hbi⟩, by have m1 := hT4.a.lenV; have m2 := hT2.a.lenV; rw [ints_len] at m1 m2; simp only [List.length_append, List.length_cons, List.length_nil] at m1; rw [m1, m2]; omega⟩
        | succ j =>
          have hlt : j < x.ks.length := by omega
          obtain ⟨kb, ko, kcap', kv, khb, kc0⟩ := (hks.kept hbi).at hlt
          cases kv
          have hdr := Lib.hid (show (x.ks.drop j).reverse = (x.ks.drop (j + 1)).reverse ++ [x.ks[j]] by rw [List.drop_eq_getElem_cons hlt, List.reverse_cons])
          generalize x.ks[j] = y at *
          have hj0 : (0 : Int) ≤ (j : Int) := by omega
          have hj1 : (j : Int) < (x.ks.length : Int) := by omega
          have hj2 : ((j + 1 : Nat) : Int) - 1 = (j : Int) := by omega
          rw [hj2]
          go_wp2_with (at_builtin; refine wpList_append_cell2 rfl _ _ 28 3 rfl Try.underlying28 info_i64 rfl (by decide) rfl rfl (.int .i64 y) rfl hT4.symm (by rw [ints_len]; simp; omega) hsi ?_; intro v5 w5 hT5 hb5)
          exact ⟨⟨j, by omega, by go_num, by rw [hdr.out, ← List.append_assoc, ints_snoc (N' ++ _)]; exact hT5.symm, hbi.trans hb5⟩, by simp [intOf]⟩
end Go.Proofs.Ytenicjebccdekaa
