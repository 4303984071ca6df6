/-
  ref14.SameFiles (two rows that read the same), ref19.Long, append(l, more..): the walks.
-/
import Derived.Test.YtapbljaohhcpoaaDoorEnts
import Derived.Test.YtapbljaohhcpoaaDoorDraws
import Derived.Deep.AppendSrc
namespace Go.Proofs.YtapbljaohhcpoaaDoor
open Go.RowKit Go.Lib

/-- an operation whose guard holds -/
theorem wpList_unguard {P : Program} {ops : Array Oper} {Q : Exit → Act → World → Prop} {a : Act} {w : World} {rest : List Oper} {o : Oper} (hw : Region.wanted o (yielded ops a.tmps) = true)
    (h : wpList P ops Q ({ o with guard := none } :: rest) a w) : wpList P ops Q (o :: rest) a w := by
  unfold wpList at h ⊢
  rw [if_pos hw]
  rw [if_pos (by simp [Region.wanted])] at h
  exact h
theorem OE.lit (w : World) : OE w.heap.size [] (.slice (some ⟨w.heap.size, 0, none⟩) 0 0) (w.alloc (.cells #[] 50)) := World.ownsRow_made w #[] 0 (Nat.le_refl _) (Nat.zero_le _) rfl
/-- 'append(out, l...)' -/
theorem wpList_append_ents {W : World} {ops : Array Oper} {rest : List Oper} {o : Oper} {a : Act} {Q : Exit → Act → World → Prop} (hgd : o.guard = none) (s x : Operand)
    (ho : o.op = .call { callee := .builtin .append, args := #[s, x], argTypes := #[22, 22] })
    {base : Nat} {l es : List Ent} {v u : Value} (hs : a.eval s = v) (hx : a.eval x = u) (hE : Ents es u W)
    (hown : OE base l v W) (hlen : l.length + es.length < 1000000000) (hbase : base ≤ W.heap.size) (hn : v ≠ .slice none 0 0)
    (h : ∀ v' w', OE base (l ++ es) v' w' → v' ≠ .slice none 0 0 → Below base W w' → wpList Tryd.prog ops Q rest (a.put o.dst v') w') : wpList Tryd.prog ops Q (o :: rest) a W := by
  obtain ⟨i0, hi, hz0, hz1, hz2⟩ := info_parts info_ent
  have key : ∀ (ad : Addr) (c : Nat) (_hu : u = .slice (some ad) es.length c) (_hnews : ∀ j y, (es.flatMap entCells)[j]? = some y → W.cell? (ad.add j) = some y), wpList Tryd.prog ops Q (o :: rest) a W := by
    intro ad c hu hnews
    subst hu
    refine wpList_append_own _ hgd s x 22 ho base 50 i0 _ 5 72 Tryd.underlying22 hi hz0 hz1 hz2 rfl (by decide) v l.length (l.flatMap entCells) hs hown ad es.length c (es.flatMap entCells) hx (flat_len es) hnews ?_ ?_ ?_ hbase ?_
    · intro u hu
      rw [List.mem_flatMap] at hu
      obtain ⟨e, _, hu⟩ := hu
      simp only [entCells, List.mem_cons, List.not_mem_nil, or_false] at hu
      rcases hu with rfl | rfl | rfl | rfl | rfl <;> rfl
    · unfold maxLen; omega
    · omega
    · intro v' w1 h1 h2 h3
      refine h v' w1 ?_ (fun e => hn (h3.1 e).1) ((Below.refl base W).grown h2 hbase (fun k hk => (World.ownsRow.lt hown k hk).1))
      unfold OE
      rw [List.length_append, List.flatMap_append]
      exact h1
  rcases hE with ⟨rfl, ad, c, rfl, hcz⟩ | ⟨b, off, c, rfl, hb, hc⟩
  · cases ad with
    | some ad => exact key ad c rfl (fun j y hj => by simp at hj)
    | none =>
      obtain ⟨h1, ⟨rfl, _⟩ | ⟨g, cap, cur, rfl, h2, h3, h4, h5⟩⟩ := hown
      · exact absurd rfl hn
      · have hr := Go.run_append_room_src (P := Tryd.prog) W 22 22 o.type 50 i0 Tryd.underlying22 hi g 0 l.length cap (.slice none 0 c) 0 [] (Go.Src.ofNil W Tryd.underlying22 c) (by omega) (fun j hj => by simp at hj) (fun j hj => by simp at hj)
        refine wpList_plain hgd fun K hK => ?_
        unfold Oper.wp execOp
        simp only [ho, resolve, invoke, builtin, Sem.run_bind, Sem.run_pure, Result.andThen_ok, List.map_toArray, List.map_cons, List.map_nil, hs, hx, hr]
        refine hK _ _ (h _ _ ?_ (by simp) ?_)
        · rw [List.append_nil]
          exact ⟨h1, .inr ⟨g, cap, cur, rfl, h2, h3, h4, h5⟩⟩
        · exact Below.refl _ _
  · refine key ⟨b, off, none⟩ c rfl (fun j y hj => ?_)
    have hjl : j < es.length * 5 := by rw [← flat_len]; exact (List.getElem?_eq_some_iff.1 hj).1
    have hq : j / 5 < es.length := by omega
    have hcell := hc (j / 5) es[j / 5] (List.getElem?_eq_getElem hq) (j % 5) ((entCells es[j / 5])[j % 5]'(by rw [entCells_len]; omega)) (List.getElem?_eq_getElem _)
    have hf := flat_at es (j / 5) es[j / 5] (List.getElem?_eq_getElem hq) (j % 5) ((entCells es[j / 5])[j % 5]'(by rw [entCells_len]; omega)) (List.getElem?_eq_getElem _)
    have e5 : j / 5 * 5 + j % 5 = j := by omega
    rw [e5, hj] at hf
    cases hf
    rw [addr_add, show off + j = off + j / 5 * 5 + j % 5 by omega]
    exact hcell

set_option maxHeartbeats 1000000 in
set_option maxRecDepth 100000 in
theorem sameFiles_yes (es : List Ent) (u v : Value) (w : World) (hU : Ents es u w) (hV : Ents es v w) (hl : es.length ≤ 4294967296) :
    Calls Tryd.prog 19 #[u, v] w fun e w' => e = .returned (.bool true) ∧ Below w.heap.size w w' := by
  obtain ⟨a, cap, rfl⟩ := hU.len
  obtain ⟨a', cap', rfl⟩ := hV.len
  go_enter Tryd.func19, Tryd.ntmps19
  go_wp2_with fail
  go_loopw [5] (fun i wr => ∃ k : Nat, k ≤ es.length ∧ i = .int .i64 k ∧ Below w.heap.size w wr) (fun i _ => es.length - (intOf i).toNat)
  case atStart => exact ⟨0, Nat.zero_le _, rfl, Below.refl _ _⟩
  case round =>
    obtain ⟨k, hk, rfl, hbel⟩ := hrel
    by_cases hlt : k < es.length
    · obtain ⟨b, o, c1, hv, hb, hc0, hc1, hc2, hc3, hc4⟩ := (hU.kept hbel).five hlt
      obtain ⟨b', o', c1', hv', hb', hc0', hc1', hc2', hc3', hc4'⟩ := (hV.kept hbel).five hlt
      cases hv
      cases hv'
      generalize es[k] = x at *
      go_wp2_with fail
      go_quiet (fail)
      go_wp2_with fail
      go_roundw
      case rel => exact ⟨k + 1, by omega, by go_num, hbel.trans ((below_draws wr _).mono hbel.size)⟩
      case measure => simp [intOf]; omega
    · obtain rfl : k = es.length := by omega
      go_wp2_with fail
      go_ret
      exact ⟨rfl, hbel⟩
def longE (x : Ent) : Bool := decide (2000 < x.n.size) || (decide (2000 < x.v.size) || (decide (2000 < x.fn.size) || decide (2000 < x.t.size)))
def longB (es : List Ent) : Bool := decide (60 < es.length) || es.any longE
set_option maxHeartbeats 1000000 in
set_option maxRecDepth 100000 in
theorem long19_any (es : List Ent) (u : Value) (w : World) (hU : Ents es u w) :
    Calls Tryd.prog 10 #[u] w fun e w' => e = .returned (.bool (longB es)) ∧ w = w' := by
  obtain ⟨a, cap, rfl⟩ := hU.len
  go_enter Tryd.func10, Tryd.ntmps10
  by_cases h60 : 60 < es.length
  · have h60' : (60 : Int) < (es.length : Int) := by omega
    have hR := Lib.hid (show longB es = true by unfold longB; rw [decide_eq_true h60]; rfl)
    go_wp2_with fail
    go_ret
    exact ⟨ret_bool hR.out.symm, rfl⟩
  · have h60' : decide ((60 : Int) < (es.length : Int)) = false := by simp; omega
    have hR := Lib.hid (show longB es = es.any longE by unfold longB; rw [decide_eq_false h60]; rfl)
    go_wp2_with fail
    go_loop [3] (fun i => ∃ k : Nat, k ≤ es.length ∧ i = .int .i64 k ∧ Hid ((es.take k).any longE = false)) (fun i => es.length - (intOf i).toNat)
    case atStart => exact ⟨0, Nat.zero_le _, rfl, Lib.hid rfl⟩
    case round =>
      obtain ⟨k, hk, rfl, hno⟩ := hrel
      by_cases hlt : k < es.length
      · obtain ⟨b, o, c1, hv, hb, hc0, hc1, hc2, hc3, hc4⟩ := hU.five hlt
        cases hv
        have hT := Lib.hid (List.take_succ_eq_append_getElem hlt)
        have hM := Lib.hid (List.getElem_mem hlt)
        generalize es[k] = x at *
        have fin : longE x = true → Hid (longB es = true) := fun h => Lib.hid (by rw [hR.out]; exact List.any_eq_true.2 ⟨x, hM.out, h⟩)
        have nxt : longE x = false → Hid ((es.take (k + 1)).any longE = false) := fun h => Lib.hid (by rw [hT.out, List.any_append, hno.out]; simp [h])
        have Fin := Lib.hid fin
        have Nxt := Lib.hid nxt
        clear fin nxt
        by_cases h1 : 2000 < x.n.size
        · have h1' : (2000 : Int) < (x.n.size : Int) := by omega
          have hF := Fin.out (by unfold longE; simp [h1])
          go_wp2_with fail
          go_ret
          exact ⟨ret_bool hF.out.symm, rfl⟩
        · have h1' : decide ((2000 : Int) < (x.n.size : Int)) = false := by simp; omega
          by_cases h2 : 2000 < x.v.size
          · have h2' : (2000 : Int) < (x.v.size : Int) := by omega
            have hF := Fin.out (by unfold longE; simp [h2])
            go_wp2_with fail
            go_ret
            exact ⟨ret_bool hF.out.symm, rfl⟩
          · have h2' : decide ((2000 : Int) < (x.v.size : Int)) = false := by simp; omega
            by_cases h3 : 2000 < x.fn.size
            · have h3' : (2000 : Int) < (x.fn.size : Int) := by omega
              have hF := Fin.out (by unfold longE; simp [h3])
              go_wp2_with fail
              go_ret
              exact ⟨ret_bool hF.out.symm, rfl⟩
            · have h3' : decide ((2000 : Int) < (x.fn.size : Int)) = false := by simp; omega
              by_cases h4 : 2000 < x.t.size
              · have h4' : (2000 : Int) < (x.t.size : Int) := by omega
                have hF := Fin.out (by unfold longE; simp [h4])
                go_wp2_with fail
                go_ret
                exact ⟨ret_bool hF.out.symm, rfl⟩
              · have h4' : decide ((2000 : Int) < (x.t.size : Int)) = false := by simp; omega
                have hF := Nxt.out (by unfold longE; simp [h1, h2, h3, h4])
                go_wp2_with fail
                go_round
                case rel => exact ⟨k + 1, by omega, by go_num, hF⟩
                case measure => simp [intOf]; omega
      · obtain rfl : k = es.length := by omega
        have hF := Lib.hid (show longB es = false by rw [hR.out]; have := hno.out; rwa [List.take_of_length_le (Nat.le_refl _)] at this)
        go_wp2_with fail
        go_ret
        exact ⟨ret_bool hF.out.symm, rfl⟩
end Go.Proofs.YtapbljaohhcpoaaDoor
