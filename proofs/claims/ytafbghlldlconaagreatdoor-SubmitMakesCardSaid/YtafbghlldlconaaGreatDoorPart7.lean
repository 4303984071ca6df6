import Derived.Test.YtafbghlldlconaaGreatDoorPart3
import Derived.Test.YtafbghlldlconaaGreatDoorPart5
import Derived.Test.YtafbghlldlconaaGreatDoorPart6
/-
  A ROW OF ONE'S OWN, SHORTENED BY ITS LAST: s = s[:len(s)-1].
-/
namespace Go.Proofs.YtafbghlldlconaaGreatDoor
set_option linter.unusedVariables false
set_option linter.unusedSimpArgs false
open Go.RowKit

theorem OV.pop {base : Nat} {T : TypeId} {xs : List Value} {u : Value} {g n cap : Nat} {w : World} (h : OV base T (xs ++ [u]) (.slice (some ⟨g, 0, none⟩) n cap) w) : OV base T xs (.slice (some ⟨g, 0, none⟩) xs.length cap) w := by
  obtain ⟨_, ⟨hv, _⟩ | ⟨g', cap', cur, hv, h2, h3, h4, h5, h6, h7⟩⟩ := h
  · cases hv
  · cases hv
    refine ⟨by omega, .inr ⟨g, cap, cur, rfl, h2, h3, ?_, h5, h6, ?_⟩⟩
    · rw [List.length_append] at h4; omega
    · have h8 := congrArg (List.take (xs.length * 1)) h7
      rw [List.take_take, List.length_append] at h8
      rw [show min (xs.length * 1) ((xs.length + [u].length) * 1) = xs.length * 1 by omega] at h8
      rw [h8, Nat.mul_one, List.take_left]
end Go.Proofs.YtafbghlldlconaaGreatDoor

/-
  TWO ROWS OF ONE'S OWN AT ONCE: an append to one leaves the other, and they stay apart.
-/
namespace Go.Proofs.YtafbghlldlconaaGreatDoor
set_option linter.unusedVariables false
set_option linter.unusedSimpArgs false
open Go.RowKit

/-- v1 and v2 are own rows that hold l1, l2; no block is of both -/
structure Two (base : Nat) (T : TypeId) (l1 : List Value) (v1 : Value) (l2 : List Value) (v2 : Value) (w : World) : Prop where
  a : OV base T l1 v1 w
  b : OV base T l2 v2 w
  ne : ∀ k, v1.ownBlock = some k → v2.ownBlock ≠ some k
theorem Two.symm {base : Nat} {T : TypeId} {l1 l2 : List Value} {v1 v2 : Value} {w : World} (h : Two base T l1 v1 l2 v2 w) : Two base T l2 v2 l1 v1 w :=
  ⟨h.b, h.a, fun k h1 h2 => h.ne k h2 h1⟩
theorem Two.kept {base : Nat} {T : TypeId} {l1 l2 : List Value} {v1 v2 : Value} {w w' : World} (h : Two base T l1 v1 l2 v2 w) (hb : Below w.heap.size w w') : Two base T l1 v1 l2 v2 w' :=
  ⟨h.a.kept hb, h.b.kept hb, h.ne⟩
/-- where an append's row lies: in the old block, or at the heap's end -/
theorem append_where {w : World} {base : Nat} {t ty e : TypeId} {i : TypeInfo} {z : Value} {bytes : Nat} (ht : Tryz.prog.underlying t = some (.slice e)) (hi : Tryz.prog.info? e = some i) (hz : i.zero = some z)
    (hsize : i.size = 1) (hby : i.bytes = bytes) {v : Value} {n : Nat} {xs : List Value} (hown : w.ownsRow base e 1 v n xs)
    {a : Addr} {c : Nat} {u : Value} (hnews : ∀ j x, [u][j]? = some x → w.cell? (a.add j) = some x) (h1 : u.oneCell' = true)
    (h63 : n + 1 ≤ maxLen) (hbytes : (n + 1) * bytes ≤ 140737488355328) {v' : Value} {w' : World}
    (hr : (Builtin.append_ #[t, t] ty #[v, .slice (some a) 1 c]).run Tryz.prog w = .ok v' w') : v'.ownBlock = v.ownBlock ∨ v'.ownBlock = some w.heap.size := by
  subst hby
  have hsmall : n + 1 ≤ 9223372036854775807 := by simp only [maxLen] at h63; omega
  rcases hown.2 with ⟨rfl, rfl⟩ | ⟨g, cap, cur, rfl, hbg, hg, hnc, hcm, hcs, htake⟩
  · have hq := run_append_nil (P := Tryz.prog) w t ty e i z ht hi hz a 1 c [u] (by rw [hsize]; rfl) hnews (by omega) (by omega) (by have hb := hbytes; simp only [Nat.zero_add] at hb; omega)
    rw [hr] at hq
    injection hq with hv hw
    right; rw [hv]; rfl
  · by_cases hroom : n + 1 ≤ cap
    · have hq := run_append_room (P := Tryz.prog) w t ty e i ht hi g n cap cur hg a 1 c [u] (by rw [hsize]; rfl) hnews (fun x hx => by rw [List.mem_singleton.1 hx]; exact h1) hroom (by rw [hsize, hcs]; simp; omega)
      rw [hr] at hq
      injection hq with hv hw
      left; rw [hv]; rfl
    · have holds : ∀ j x, xs[j]? = some x → w.cell? ((⟨g, 0, none⟩ : Addr).add j) = some x := hown.cells (g := g) rfl
      have hq := run_append_grow (P := Tryz.prog) w t ty e i z ht hi hz ⟨g, 0, none⟩ n cap xs (by rw [hsize]; exact hown.1) holds a 1 c [u] (by rw [hsize]; rfl) hnews (by omega) (by omega) (growslice_fits (by omega) hbytes)
      rw [hr] at hq
      injection hq with hv hw
      right; rw [hv]; rfl
/-- 'out = append(out, u)' beside another own row -/
theorem wpList_append_cell2 {W : World} {ops : Array Oper} {rest : List Oper} {o : Oper} {a : Act} {Q : Exit → Act → World → Prop} (hgd : o.guard = none) (s x : Operand) (S T : TypeId) {z : Value} {bytes : Nat}
    (ho : o.op = .call { callee := .builtin .append, args := #[s, x], argTypes := #[S, S] }) (hS : Tryz.prog.underlying S = some (.slice T))
    (hinfo : (Tryz.prog.info? T).map (fun i => (i.zero, i.size, i.bytes)) = some (some z, 1, bytes)) (hz : z.cells.size = 1) (hby : bytes ≤ 4096)
    {base : Nat} {l l2 : List Value} {v v2 : Value} (hs : a.eval s = v) (hx : a.eval x = .slice (some ⟨W.heap.size, 0, none⟩) 1 1) (u : Value) (hu : u.oneCell' = true)
    (hown : Two base T l v l2 v2 W) (hlen : l.length < 17179869184) (hbase : base ≤ W.heap.size)
    (h : ∀ v' w', Two base T (l ++ [u]) v' l2 v2 w' → Below base W w' → wpList Tryz.prog ops Q rest (a.put o.dst v') w') : wpList Tryz.prog ops Q (o :: rest) a (W.alloc (.cells #[u] T)) := by
  obtain ⟨i0, hi, hz0, hz1, hz2⟩ := info_parts hinfo
  have h1 := World.ownsRow.alloc hown.a (.cells #[u] T)
  have h2 := World.ownsRow.alloc hown.b (.cells #[u] T)
  have hb9 : (l.length + 1) * bytes ≤ (l.length + 1) * 4096 := Nat.mul_le_mul_left _ hby
  have hcell : ∀ j y, [u][j]? = some y → (W.alloc (.cells #[u] T)).cell? ((⟨W.heap.size, 0, none⟩ : Addr).add j) = some y := by
    intro j y hj
    match j, hj with
    | 0, hj => simp at hj; subst hj; simp [addr_add]
  have hml : l.length + 1 ≤ maxLen := by unfold maxLen; omega
  obtain ⟨v', w', hr, h3, h4, _⟩ := run_append_own (P := Tryz.prog) (W.alloc (.cells #[u] T)) base S o.type T i0 z 1 bytes hS hi hz0 hz1 hz2 hz (by decide) v l.length l h1 ⟨W.heap.size, 0, none⟩ 1 1 [u] rfl hcell (fun y hy => by rw [List.mem_singleton.1 hy]; exact hu) hml (by omega) (by simp; omega)
  have hwhere := append_where hS hi hz0 hz1 hz2 h1 hcell hu hml (by omega) hr
  refine wpList_plain hgd fun K hK => ?_
  have hT : Two base T (l ++ [u]) v' l2 v2 w' := by
    refine ⟨by unfold OV; rw [List.length_append]; exact h3, World.ownsRow.kept h2 h4 ?_, fun k hk hk2 => ?_⟩
    · cases hv2 : v2.ownBlock with
      | none => exact .inl rfl
      | some k => exact .inr (fun e => hown.ne k e.symm hv2)
    · rcases hwhere with e | e
      · exact hown.ne k (by rw [← e]; exact hk) hk2
      · rw [e] at hk
        have := (World.ownsRow.lt hown.b k hk2).2
        cases hk
        simp at this
        omega
  have hBW : Below base W w' := ((Below.refl base W).alloc hbase _).trans (ov_below h1 h4 (by simp; omega))
  unfold Oper.wp execOp
  simp only [ho, resolve, invoke, builtin, Sem.run_bind, Sem.run_pure, Result.andThen_ok, List.map_toArray, List.map_cons, List.map_nil, hs, hx, hr]
  exact hK _ _ (h v' w' hT hBW)
end Go.Proofs.YtafbghlldlconaaGreatDoor

/-
  THE ORDER OF A RIGHT DOCUMENT by the document: ref10.Order (a stack): the walk.
-/
namespace Go.Proofs.YtafbghlldlconaaGreatDoor
set_option linter.unusedVariables false
set_option linter.unusedSimpArgs false
open Go.RowKit PT

def lenV : Value → Nat
  | .slice _ n _ => n
  | _ => 0
theorem OV.lenV {base : Nat} {T : TypeId} {t : List Value} {v : Value} {w : World} (h : OV base T t v w) : lenV v = t.length := by
  obtain ⟨a, cap, rfl, _⟩ := h.form
  rfl
theorem ints_snoc (t : List Int) (c : Int) : ints (t ++ [c]) = ints t ++ [.int .i64 c] := by simp [ints]
theorem ints_len (t : List Int) : (ints t).length = t.length := by simp [ints]
theorem flat_len {l : List Nd} (h : RightP l) : ∀ {t : List Int}, (∀ c ∈ t, 0 ≤ c ∧ c < l.length) → t.length ≤ (t.flatMap (ord l)).length
  | [], _ => Nat.zero_le _
  | c :: t, hc => by
    have h1 := flat_len h (t := t) (fun x hx => hc x (List.mem_cons_of_mem _ hx))
    obtain ⟨c0, c1⟩ := hc c (List.mem_cons_self ..)
    rw [List.flatMap_cons, ord_eq h c0 c1, List.length_append, List.length_cons, List.length_cons]
    omega
set_option maxHeartbeats 4000000 in
set_option maxRecDepth 100000 in
theorem refOrder_any (l : List Nd) (hRP : RightP l) (K : Nat) (hK : K < l.length) (v : Value) (w : World) (hz : ∀ x ∈ l, Fits x) (hU : Nodes l v w) :
    Calls Tryz.prog 149 #[v, .int .i64 K] w fun e w' => ∃ vo, e = .returned vo ∧ OV w.heap.size 3 (ints (ord l K)) vo w' ∧ Below w.heap.size w w' := by
  obtain ⟨a, cap, rfl⟩ := hU.len
  have hmax := hRP.max
  have hol := ord_len hRP (k := (K : Int)) (by omega) (by omega)
  have hb0 := (Below.refl w.heap.size w).alloc (Nat.le_refl _) (.cells #[.int .i64 K] 3)
  have hlit : OV w.heap.size 3 (ints [(K : Int)]) (.slice (some ⟨w.heap.size, 0, none⟩) 1 1) (w.alloc (.cells #[.int .i64 K] 3)) := World.ownsRow_lit w #[.int .i64 K] 1 (Nat.le_refl _) (by unfold maxLen; omega) rfl
  have htwo : Two w.heap.size 3 (ints []) (.slice none 0 0) (ints [(K : Int)]) (.slice (some ⟨w.heap.size, 0, none⟩) 1 1) (w.alloc (.cells #[.int .i64 K] 3)) := ⟨OV.nil _ _ _, hlit, fun k hk => by cases hk⟩
  go_enter Tryz.func149, Tryz.ntmps149
  go_upto_region 3 with fail
  generalize World.alloc _ _ = W0 at hb0 htwo ⊢
  go_loopw [5, 6] (fun vo vn wr => ∃ O N : List Int, Hid (O ++ N.reverse.flatMap (ord l) = ord l K) ∧ (∀ c ∈ N, 0 ≤ c ∧ c < l.length) ∧ Two w.heap.size 3 (ints O) vo (ints N) vn wr ∧ Below w.heap.size w wr) (fun vo _ _ => l.length + 1 - lenV vo)
  case atStart => exact ⟨[], [K], Lib.hid (by simp), by simp; omega, htwo, hb0⟩
  case round =>
    obtain ⟨O, N, hA, hN, hT, hbel⟩ := hrel
    have hsz := hbel.size
    rcases List.eq_nil_or_concat N with rfl | ⟨N', c, rfl⟩
    · have hR := Lib.hid (show O = ord l K by have := hA.out; simpa using this)
      obtain ⟨a1, cap1, hv1, hn1⟩ := hT.b.form
      rw [ints_len] at hv1
      subst hv1
      go_wp2_with fail
      go_ret
      exact ⟨_, rfl, by rw [← hR.out]; exact hT.a, hbel⟩
    · rw [List.concat_eq_append] at *
      obtain ⟨d0, d1⟩ := hN c (by simp)
      have hlen9 := congrArg List.length hA.out
      obtain ⟨g, gcap, rfl, _, hcell⟩ := hT.b.at (by rw [ints_snoc]; simp)
      have hcc := hcell N'.length (.int .i64 c) (by simp [ints])
      have hnl : (ints (N' ++ [c])).length = N'.length + 1 := by simp [ints]
      have hcap : N'.length + 1 ≤ gcap := by
        obtain ⟨_, ⟨hv, _⟩ | ⟨g', cap', cur, hv, h2, h3, h4, _⟩⟩ := hT.b
        · cases hv
        · cases hv; omega
      rw [ints_snoc] at hT
      have hpop := OV.pop hT.b
      have hT2 : Two w.heap.size 3 (ints O) u5 (ints N') (.slice (some ⟨g, 0, none⟩) (ints N').length gcap) wr := ⟨hT.a, hpop, hT.ne⟩
      rw [← ints_snoc, hnl] at hT
      rw [ints_len] at hT2
      rw [hnl]
      have hoe := ord_eq hRP d0 d1
      have hA2 := hA.out
      rw [List.reverse_append, List.flatMap_append] at hA2
      simp only [List.reverse_singleton, List.flatMap_cons, List.flatMap_nil, List.append_nil] at hA2
      rw [hoe] at hA2
      have hAN := Lib.hid (show (O ++ [c]) ++ (N' ++ (ksOf l c).reverse).reverse.flatMap (ord l) = ord l K by
        rw [← hA2, List.reverse_append, List.reverse_reverse, List.flatMap_append]; simp)
      have hn3 : N'.length ≤ 400 := by
        have h1 := flat_len hRP (t := N'.reverse) (fun x hx => hN x (List.mem_append_left _ (List.mem_reverse.1 hx)))
        have h2 := congrArg List.length hA2
        simp only [List.length_append, List.length_cons, List.length_reverse] at h1 h2
        omega
      have hOl : O.length < l.length := by
        have := congrArg List.length hA2
        simp only [List.length_append, List.length_cons] at this
        omega
      have hNN := Lib.hid (show ∀ c' ∈ N' ++ (ksOf l c).reverse, 0 ≤ c' ∧ c' < l.length from fun c' hc' => by
        rcases List.mem_append.1 hc' with h | h
        · exact hN c' (List.mem_append_left _ h)
        · obtain ⟨e0, e1, _⟩ := hRP.kid d0 d1 (List.mem_reverse.1 h)
          exact ⟨e0, e1⟩)
      clear hA hA2 hoe hcell hlen9 hpop hnl
      obtain ⟨q, rfl⟩ := Int.eq_ofNat_of_zero_le d0
      have hq : q < l.length := by omega
      have hn0 : (0 : Int) ≤ (N'.length : Int) := by omega
      have hn1 : (N'.length : Int) ≤ (gcap : Int) := by omega
      have hn2 : (N'.length : Int) < ((N'.length + 1 : Nat) : Int) := by omega
      have hkr := Lib.hid (ksOf_at hq)
      have hkn := hRP.nodup (k := (q : Int)) (by omega) (by omega)
      have hkl : (ksOf l (q : Int)).length ≤ 400 := Nat.le_trans (nodup_len hkn (fun c' hc' => ⟨(hRP.kid (by omega) (by omega) hc').1, (hRP.kid (by omega) (by omega) hc').2.1⟩)) hmax
      obtain ⟨b, o, cap', va, vk, hv, hb, c0, c1, c2, c3, c4, hat, hks⟩ := hU.at hq
      cases hv
      generalize l[q] = x at *
      rw [hkr.out] at hkl hAN hNN
      have hq0 : (0 : Int) ≤ (q : Int) := by omega
      have hq1 : (q : Int) < (l.length : Int) := by omega
      obtain ⟨ka, kcap, rfl⟩ := hks.len
      go_wp2_with (at_builtin; refine wpList_append_cell2 rfl _ _ 52 3 rfl Tryz.underlying52 info_i64 rfl (by decide) rfl rfl (.int .i64 (q : Int)) rfl hT2 (by rw [ints_len]; omega) hsz ?_; intro v' w1 hT3 hb1; have hbw1 := hbel.trans hb1; have d4 := cellK hbw1 hb c4)
      go_loopw [6, 8] (fun vn i wi => ∃ j : Nat, j ≤ x.ks.length ∧ i = .int .i64 ((j : Int) - 1) ∧ Two w.heap.size 3 (ints (O ++ [(q : Int)])) v' (ints (N' ++ (x.ks.drop j).reverse)) vn wi ∧ Below w.heap.size w wi) (fun _ i _ => ((intOf i) + 1).toNat)
      case atStart => exact ⟨x.ks.length, Nat.le_refl _, by go_num, by rw [ints_snoc]; simpa using hT3, hbw1⟩
      case round =>
        obtain ⟨j, hj, rfl, hT4, hbi⟩ := hrel
        have hsi := hbi.size
        have e4 := cellK hbi hb c4
        cases j with
        | zero =>
          rw [List.drop_zero] at hT4
          have hj9 : decide ((0 : Int) ≤ (0 : Int) - 1) = false := by decide
          go_wp2_with fail
          exact ⟨⟨O ++ [(q : Int)], _, hAN, hNN.out, hT4, hbi⟩, by have m1 := hT4.a.lenV; have m2 := hT2.a.lenV; rw [ints_len] at m1 m2; simp only [List.length_append, List.length_cons, List.length_nil] at m1; rw [m1, m2]; omega⟩
        | succ j =>
          have hlt : j < x.ks.length := by omega
          obtain ⟨kb, ko, kcap', kv, khb, kc0⟩ := (hks.kept hbi).at hlt
          cases kv
          have hdr := Lib.hid (show (x.ks.drop j).reverse = (x.ks.drop (j + 1)).reverse ++ [x.ks[j]] by rw [List.drop_eq_getElem_cons hlt, List.reverse_cons])
          generalize x.ks[j] = y at *
          have hj0 : (0 : Int) ≤ (j : Int) := by omega
          have hj1 : (j : Int) < (x.ks.length : Int) := by omega
          have hj2 : ((j + 1 : Nat) : Int) - 1 = (j : Int) := by omega
          rw [hj2]
          go_wp2_with (at_builtin; refine wpList_append_cell2 rfl _ _ 52 3 rfl Tryz.underlying52 info_i64 rfl (by decide) rfl rfl (.int .i64 y) rfl hT4.symm (by rw [ints_len]; simp; omega) hsi ?_; intro v5 w5 hT5 hb5)
          exact ⟨⟨j, by omega, by go_num, by rw [hdr.out, ← List.append_assoc, ints_snoc (N' ++ _)]; exact hT5.symm, hbi.trans hb5⟩, by simp [intOf]⟩
end Go.Proofs.YtafbghlldlconaaGreatDoor

/-
  A NODE OF AN id by the document: ref10.ByID: the walk.
-/
namespace Go.Proofs.YtafbghlldlconaaGreatDoor
set_option linter.unusedVariables false
set_option linter.unusedSimpArgs false
open Go.RowKit PT

end Go.Proofs.YtafbghlldlconaaGreatDoor

/-
  A CONTROL's ⟨#[102, 111, 114, 109]⟩ by the document: ref16.Form: the walk.
-/
namespace Go.Proofs.YtafbghlldlconaaGreatDoor
set_option linter.unusedVariables false
set_option linter.unusedSimpArgs false
open Go.RowKit PT

theorem form_toList : (⟨#[102, 111, 114, 109]⟩ : ByteArray).toList = [102, 111, 114, 109] := by rw [ByteArray.toList_eq]
theorem otK_form (nm : ByteArray) : otK nm = 30 ↔ nm = ⟨#[102, 111, 114, 109]⟩ := by
  constructor
  · intro h
    unfold otK at h
    split at h
    · omega
    · rename_i i hi
      have h2 : i = 2 := by omega
      subst h2
      obtain ⟨hl, he, _⟩ := List.findIdx?_eq_some_iff_getElem.1 hi
      exact (of_decide_eq_true he).symm
  · rintro rfl
    rfl
theorem kind_form (x : Nd) : kindOf x = 30 ↔ x.nm = ⟨#[102, 111, 114, 109]⟩ := by
  have h1 := tyK_range (tyOf x)
  have hb : 25 ≤ btK (tyOf x) ∧ btK (tyOf x) ≤ 27 := by
    unfold btK; split
    · omega
    · split <;> omega
  have hne : ∀ {a : ByteArray}, x.nm = a → a ≠ ⟨#[102, 111, 114, 109]⟩ → ¬ x.nm = ⟨#[102, 111, 114, 109]⟩ := fun h h2 h3 => h2 (h.symm.trans h3)
  unfold kindOf
  split
  · rename_i h
    exact ⟨fun e => by omega, fun e => absurd e (hne h (by decide))⟩
  · split
    · rename_i h
      exact ⟨fun e => by omega, fun e => absurd e (hne h (by decide))⟩
    · split
      · rename_i h
        exact ⟨fun e => by omega, fun e => absurd e (hne h (by decide))⟩
      · split
        · rename_i h
          exact ⟨fun e => by omega, fun e => absurd e (hne h (by decide))⟩
        · exact otK_form x.nm
theorem kindF_form {l : List Nd} {f : Int} (h0 : 0 ≤ f) (h1 : f < l.length) : kindF l f = 30 ↔ nmOf l f = ⟨#[102, 111, 114, 109]⟩ := by
  obtain ⟨q, rfl⟩ := Int.eq_ofNat_of_zero_le h0
  have hq : q < l.length := by omega
  unfold kindF
  rw [if_pos ⟨h0, h1⟩, kOf_at hq, nmOf_at hq]
  exact kind_form _
theorem namedF_range (l : List Nd) (s : ByteArray) : namedF l s = -1 ∨ 0 ≤ namedF l s ∧ namedF l s < l.length := by
  unfold namedF
  split
  · rename_i h
    have hRP := (rightB_iff l).1 h.2
    unfold firstF
    cases hf : (ord l 0).find? (idK l s) with
    | none => exact .inl rfl
    | some c =>
      right
      obtain ⟨c0, c1, _⟩ := ord_mem hRP (by omega) (by have := hRP.pos; omega) (List.mem_of_find?_eq_some hf)
      exact ⟨c0, c1⟩
  · exact .inl rfl
theorem list0 : listB 0 = false := by decide
theorem FormF_out {l : List Nd} {id : Int} (h : hasB l id = false) : FormF l id = -1 := by
  unfold FormF
  split
  · rename_i hr
    have hk : kindF l id = 0 := by
      refine if_neg (fun hh => ?_)
      rw [(hasB_iff l id).2 ⟨hh.1, hh.2, (rightB_iff l).1 hr⟩] at h
      cases h
    unfold formF
    rw [hk, if_pos ⟨list0, by omega⟩]
  · rfl
end Go.Proofs.YtafbghlldlconaaGreatDoor

/-
  FORMS' ELEMENTS, LABELS' CONTROLS, WHAT IS DISABLED: plain laws.
-/
namespace Go.Proofs.YtafbghlldlconaaGreatDoor
set_option linter.unusedVariables false
set_option linter.unusedSimpArgs false
open Go.RowKit PT

theorem topF_all {l : List Nd} (h : RightP l) : ∀ (n : Nat) (k : Int), dep l k ≤ n → 0 ≤ k → k < l.length → 0 ≤ topF l k ∧ topF l k < l.length ∧ paOf l (topF l k) < 0 ∧ Anc l k (topF l k)
  | 0, k, hn, h0, h1 => by have := dep_eq h h0 h1; omega
  | n + 1, k, hn, h0, h1 => by
    by_cases hp : paOf l k < 0
    · rw [topF_end h h0 h1 hp]
      exact ⟨h0, h1, hp, Anc.self h h0 h1⟩
    · have hd := dep_eq h h0 h1
      rw [topF_go h h0 h1 (by omega)]
      obtain ⟨a, b, c, d⟩ := topF_all h n (paOf l k) (by omega) (by omega) (h.pa_lt h0 h1)
      refine ⟨a, b, c, ?_⟩
      by_cases e : k = topF l (paOf l k)
      · rw [← e] at c; omega
      · exact (Anc.step h h0 h1 e).2 d
theorem topF_range {l : List Nd} (h : RightP l) {k : Int} (h0 : 0 ≤ k) (h1 : k < l.length) : 0 ≤ topF l k ∧ topF l k < l.length := by
  obtain ⟨a, b, _⟩ := topF_all h _ k (Nat.le_refl _) h0 h1
  exact ⟨a, b⟩
theorem hasB_yes {l : List Nd} (h : RightP l) {k : Int} (h0 : 0 ≤ k) (h1 : k < l.length) : hasB l k = true := (hasB_iff l k).2 ⟨h0, h1, h⟩
theorem kindF_in {l : List Nd} {k : Int} (h0 : 0 ≤ k) (h1 : k < l.length) : kindF l k = kOf l k := if_pos ⟨h0, h1⟩
theorem kindF_pos {l : List Nd} {k : Int} (h : kindF l k ≠ 0) : 0 ≤ k ∧ k < l.length := by
  unfold kindF at h
  split at h
  · assumption
  · exact absurd rfl h
/-- all nodes in the order of a form's document -/
noncomputable def inF (l : List Nd) (id : Int) : List Int := if rightB l = true ∧ kindF l id = 30 then ord l (topF l id) else []
noncomputable def elP (l : List Nd) (id : Int) (k : Int) : Bool := listB (kindF l k) && decide (formF l k = id)
noncomputable def elemsF (l : List Nd) (id : Int) : List Int := (inF l id).filter (elP l id)
noncomputable def defP (l : List Nd) (id : Int) (k : Int) : Bool := firesB (kindF l k) && decide (formF l k = id)
noncomputable def defF (l : List Nd) (id : Int) : Int := firstF (defP l id) (inF l id)
noncomputable def ctlF (l : List Nd) (id : Int) : Int := if rightB l = true ∧ kindF l id = 31 then (match attF l id ⟨#[102, 111, 114]⟩ with
  | some s => if labelB (kindF l (namedF l s)) = true then namedF l s else -1
  | none => firstF (fun k => labelB (kindF l k)) (ord l id).tail) else -1
/-- a fieldset's first legend -/
def legF (l : List Nd) (id : Int) : Int := firstF (fun k => decide (kindF l k = 34)) (ksOf l id)
def disA (l : List Nd) (i : Int) : Bool := (atO (atsOf l i) ⟨#[100, 105, 115, 97, 98, 108, 101, 100]⟩).isSome
/-- is what lies above a node a fieldset that disables it? -/
def setP (l : List Nd) (c : Int) : Bool := decide (0 ≤ paOf l c) && (decide (kindF l (paOf l c) = 29) && (disA l (paOf l c) && decide (legF l (paOf l c) ≠ c)))
def upDis (l : List Nd) (k : Int) : Bool := cl l (fun c => if setP l c = true then some true else none) false k
noncomputable def disF (l : List Nd) (id : Int) : Bool := (rightB l && (submB (kindF l id) || decide (kindF l id = 29))) && (disA l id || upDis l id)
theorem inF_mem {l : List Nd} {id : Int} {k : Int} (h : k ∈ inF l id) : RightP l ∧ 0 ≤ id ∧ id < l.length ∧ 0 ≤ k ∧ k < l.length ∧ Anc l k (topF l id) := by
  unfold inF at h
  split at h
  · rename_i hc
    have hRP := (rightB_iff l).1 hc.1
    obtain ⟨i0, i1⟩ := kindF_pos (l := l) (k := id) (by omega)
    obtain ⟨t0, t1⟩ := topF_range hRP i0 i1
    obtain ⟨a, b, c⟩ := ord_mem hRP t0 t1 h
    exact ⟨hRP, i0, i1, a, b, c⟩
  · cases h
theorem inF_len {l : List Nd} (id : Int) : (inF l id).length ≤ l.length := by
  unfold inF
  split
  · rename_i hc
    have hRP := (rightB_iff l).1 hc.1
    obtain ⟨i0, i1⟩ := kindF_pos (l := l) (k := id) (by omega)
    obtain ⟨t0, t1⟩ := topF_range hRP i0 i1
    exact ord_len hRP t0 t1
  · simp
theorem filter_snoc {p : Int → Bool} {t : List Int} {k : Nat} (h : k < t.length) : (t.take (k + 1)).filter p = (t.take k).filter p ++ if p t[k] = true then [t[k]] else [] := by
  rw [List.take_succ_eq_append_getElem h, List.filter_append]
  congr 1
  by_cases hp : p t[k] = true
  · rw [if_pos hp]; simp [hp]
  · rw [if_neg hp]; simp [hp]
theorem formF_Form {l : List Nd} (h : rightB l = true) (k : Int) : FormF l k = formF l k := if_pos h
theorem isF_30 {l : List Nd} {id k : Int} (hk : k ≠ 0) : isF l id k = true ↔ rightB l = true ∧ kindF l id = k := by
  unfold isF
  rw [Bool.and_eq_true, decide_eq_true_iff, hasB_iff, rightB_iff]
  constructor
  · rintro ⟨⟨a, b, c⟩, d⟩
    exact ⟨c, by rw [kindF_in a b]; exact d⟩
  · rintro ⟨c, d⟩
    obtain ⟨a, b⟩ := kindF_pos (l := l) (k := id) (by omega)
    exact ⟨⟨a, b, c⟩, by rw [← kindF_in a b]; exact d⟩
theorem RightP.kid_of {l : List Nd} (h : RightP l) {c : Int} (h0 : 0 ≤ c) (h1 : c < l.length) (hp : 0 ≤ paOf l c) : c ∈ ksOf l (paOf l c) := by
  obtain ⟨q, rfl⟩ := Int.eq_ofNat_of_zero_le h0
  have hq : q < l.length := by omega
  rw [paOf_at hq] at hp ⊢
  have := h.once q _ (List.getElem?_eq_getElem hq) hp
  exact List.count_pos_iff.1 (by omega)
theorem ord_trans {l : List Nd} (h : RightP l) {m c : Int} (hc : c ∈ ksOf l m) : ∀ (n : Nat) (k : Int), l.length + 2 ≤ n + dep l k → 0 ≤ k → k < l.length → m ∈ ord l k → c ∈ ord l k := by
  intro n
  induction n with
  | zero => intro k hd; have := dep_le l k; omega
  | succ n ih =>
    intro k hd h0 h1 hm
    rw [ord_eq h h0 h1] at hm ⊢
    rcases List.mem_cons.1 hm with e | hm
    · subst e
      refine List.mem_cons_of_mem _ (List.mem_flatMap.2 ⟨c, hc, ?_⟩)
      obtain ⟨c0, c1, _⟩ := h.kid h0 h1 hc
      rw [ord_eq h c0 c1]
      exact List.mem_cons_self ..
    · obtain ⟨q, hq, hmq⟩ := List.mem_flatMap.1 hm
      obtain ⟨q0, q1, _⟩ := h.kid h0 h1 hq
      exact List.mem_cons_of_mem _ (List.mem_flatMap.2 ⟨q, hq, ih q (by rw [dep_kid h h0 h1 hq]; omega) q0 q1 hmq⟩)
/-- completeness of the order -/
theorem ord_full {l : List Nd} (h : RightP l) {k : Int} : ∀ (n : Nat) (c : Int), dep l c ≤ n → 0 ≤ c → c < l.length → Anc l c k → c ∈ ord l k ∧ 0 ≤ k ∧ k < l.length := by
  intro n
  induction n with
  | zero => intro c hd h0 h1 _; have := dep_eq h h0 h1; omega
  | succ n ih =>
    intro c hd h0 h1 ha
    by_cases e : c = k
    · subst e
      exact ⟨by rw [ord_eq h h0 h1]; exact List.mem_cons_self .., h0, h1⟩
    · have ha' := (Anc.step h h0 h1 e).1 ha
      have p0 := ha'.nonneg
      have hde := dep_eq h h0 h1
      obtain ⟨hm, k0, k1⟩ := ih (paOf l c) (by omega) p0 (h.pa_lt h0 h1) ha'
      refine ⟨?_, k0, k1⟩
      exact ord_trans h (h.kid_of h0 h1 p0) (l.length + 2) k (by omega) k0 k1 hm
end Go.Proofs.YtafbghlldlconaaGreatDoor
