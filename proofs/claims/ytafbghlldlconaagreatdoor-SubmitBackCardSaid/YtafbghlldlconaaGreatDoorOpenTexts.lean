/-
  AN ARGUMENT THAT IS A SLICE OF TEXTS, opened; append(x, texts..).
-/
import Derived.Test.YtafbghlldlconaaGreatDoorPart21
import Derived.Test.YtafbghlldlconaaGreatDoorPart11
import Derived.Deep.Strs
import Derived.SizedLaws
import Derived.Deep.AppendSrc
namespace Go.Proofs.YtafbghlldlconaaGreatDoor
set_option linter.unusedVariables false
set_option linter.unusedSimpArgs false
open Go.RowKit Go.ChangeShapes Go.WideShapes Go.Deep

/-- how long the datum of the texts is -/
def TxtShape {H : Type} (X : List (List UInt8)) (d : DataW H) : Prop := X = [] ∨ ∃ els sp, d = .slice els sp ∧ els.length = X.length
theorem txts_reach {H : Type} {ts : List TypeId} {ds : List (DataW H)} (hsz : (DataW.weightsEach Tryz.prog ts ds).all (· ≤ reachBytes) = true) {j : Nat} {X : List (List UInt8)} {d : DataW H} (ht : ts[j]? = some 26) (hd : ds[j]? = some d)
    (hs : TxtShape X d) : X.length * 16 ≤ 140737488355328 := by
  rcases hs with rfl | ⟨els, sp, rfl, he⟩
  · simp
  · have h := sized_slice hsz ht hd Tryz.underlying26
    rw [show Tryz.prog.bytesOf 9 = 16 by kernel_rfl] at h
    unfold reachBytes at h
    omega
section
variable {H : Type} {enc : TypeId × Value → H} {w : World} {spare : Nat → Bool} {held : Bool}
set_option maxRecDepth 100000 in
/-- OPENED: a slice of texts -/
theorem open_txts {r : Reach} {b0 base : Nat} {v : Value} {d : DataW H} {p : List MemPlace} (hv : Value.okWide Tryz.prog w r b0 26 v) (h : DataW.Trod enc Tryz.prog w base spare held 26 v d p) : ∃ X, TxtShape X d ∧ Txts X v w := by
  obtain ⟨a, len, cap, rfl⟩ := okWide_slice Tryz.underlying26 hv
  obtain ⟨fuel, hf⟩ := h
  rcases open_strs Tryz.underlying26 Tryz.underlying9 (by kernel_rfl) hf with ⟨hc, _⟩ | ⟨a', len', cap', m, Sx, hc, hb, hl, hm, hlm, hx, hi⟩
  · have hc' : Value.slice a len cap = .slice none 0 0 := (List.cons.inj hc).1
    exact ⟨[], .inl rfl, .inl ⟨rfl, none, 0, hc', fun _ => rfl⟩⟩
  · have hc' : Value.slice a len cap = .slice (some a') len' cap' := (List.cons.inj hc).1
    have hlm' : len' ≤ m := by rw [hlm]; split <;> omega
    obtain ⟨X, hlen, hes⟩ := list_of (α := List UInt8) (P := fun i x => w.cell? (a'.add i) = some (txt x)) len' (fun i hi' => ⟨(Sx i).data.toList, (hi i (by omega)).1⟩)
    cases hc'
    by_cases h0 : len = 0
    · exact ⟨[], .inl rfl, .inl ⟨rfl, _, cap, by rw [h0], fun e => by cases e⟩⟩
    · have hn : 0 < X.length := by omega
      have h00 := hes 0 X[0] (List.getElem?_eq_getElem hn)
      obtain ⟨hsp, hbl⟩ := spot_none h00 rfl
      obtain ⟨b, o, sp⟩ := a'
      simp only at hsp hbl
      subst hsp
      refine ⟨X, .inr ⟨_, _, (Prod.mk.inj hx).1, by rw [List.length_map, List.length_range]; omega⟩, .inr ⟨b, o, cap, by rw [hlen], hbl, by omega, fun j x hj => ?_⟩⟩
      have := hes j x hj
      rw [addr_add] at this
      exact this
end
theorem OT.lit (w : World) : OT w.heap.size [] (.slice (some ⟨w.heap.size, 0, none⟩) 0 0) (w.alloc (.cells #[] 9)) := World.ownsRow_made w #[] 0 (Nat.le_refl _) (Nat.zero_le _) rfl
/-- 'append(out, l...)' onto a row just made -/
theorem wpList_append_txts {W : World} {ops : Array Oper} {rest : List Oper} {o : Oper} {a : Act} {Q : Exit → Act → World → Prop} (hgd : o.guard = none) (s x : Operand)
    (ho : o.op = .call { callee := .builtin .append, args := #[s, x], argTypes := #[26, 26] })
    {base : Nat} {X : List (List UInt8)} {v u : Value} (hs : a.eval s = v) (hx : a.eval x = u) (hE : Txts X u W)
    (hown : OT base [] v W) (hlen : X.length * 16 ≤ 140737488355328) (hbase : base ≤ W.heap.size) (hn : v ≠ .slice none 0 0)
    (h : ∀ v' w', OT base X v' w' → Below base W w' → wpList Tryz.prog ops Q rest (a.put o.dst v') w') : wpList Tryz.prog ops Q (o :: rest) a W := by
  obtain ⟨i0, hi, hz0, hz1, hz2⟩ := info_parts info_str
  have key : ∀ (ad : Addr) (c : Nat) (_hu : u = .slice (some ad) X.length c) (_hnews : ∀ j y, (X.map txt)[j]? = some y → W.cell? (ad.add j) = some y), wpList Tryz.prog ops Q (o :: rest) a W := by
    intro ad c hu hnews
    subst hu
    refine wpList_append_own _ hgd s x 26 ho base 9 i0 _ 1 16 Tryz.underlying26 hi hz0 hz1 hz2 rfl (by decide) v 0 [] hs hown ad X.length c (X.map txt) hx (by simp) hnews ?_ ?_ ?_ hbase ?_
    · intro u hu
      obtain ⟨y, _, rfl⟩ := List.mem_map.1 hu
      rfl
    · unfold maxLen; omega
    · omega
    · intro v' w1 h1 h2 _
      refine h v' w1 ?_ ((Below.refl base W).grown h2 hbase (fun k hk => (World.ownsRow.lt hown k hk).1))
      unfold OT OV
      rw [List.length_map]
      rw [Nat.zero_add, List.nil_append] at h1
      exact h1
  rcases hE with ⟨rfl, ad, c, rfl, hcz⟩ | ⟨b, off, c, rfl, hb, hc1, hc⟩
  · cases ad with
    | some ad => exact key ad c rfl (fun j y hj => by simp at hj)
    | none =>
      obtain ⟨h1, ⟨rfl, _⟩ | ⟨g, cap, cur, rfl, h2, h3, h4, h5⟩⟩ := hown
      · exact absurd rfl hn
      · have hr := Go.run_append_room_src (P := Tryz.prog) W 26 26 o.type 9 i0 Tryz.underlying26 hi g 0 0 cap (.slice none 0 c) 0 [] (Go.Src.ofNil W Tryz.underlying26 c) (by omega) (fun j hj => by simp at hj) (fun j hj => by simp at hj)
        refine wpList_plain hgd fun K hK => ?_
        unfold Oper.wp execOp
        simp only [ho, resolve, invoke, builtin, Sem.run_bind, Sem.run_pure, Result.andThen_ok, List.map_toArray, List.map_cons, List.map_nil, List.length_nil] at hs hx ⊢
        simp only [hs, hx, hr]
        refine hK _ _ (h _ _ ?_ ?_)
        · exact ⟨h1, .inr ⟨g, cap, cur, rfl, h2, h3, h4, h5⟩⟩
        · exact Below.refl _ _
  · refine key ⟨b, off, none⟩ c rfl (fun j y hj => ?_)
    rw [List.getElem?_map] at hj
    cases hq : X[j]? with
    | none => rw [hq] at hj; cases hj
    | some z =>
      rw [hq] at hj
      cases hj
      rw [addr_add]
      exact hc j z hq
end Go.Proofs.YtafbghlldlconaaGreatDoor
