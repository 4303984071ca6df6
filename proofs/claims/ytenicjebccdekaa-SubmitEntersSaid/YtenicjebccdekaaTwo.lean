/-
  TWO ROWS OF ONE'S OWN AT ONCE: an append to one leaves the other, and they stay apart.
-/
import Derived.Test.YtenicjebccdekaaPop
namespace Go.Proofs.Ytenicjebccdekaa
set_option linter.unusedVariables false
set_option linter.unusedSimpArgs false
open Go.RowKit

/-- v1 and v2 are own rows that hold l1, l2; no block is of both -/
structure Two (base : Nat) (T : TypeId) (l1 : List Value) (v1 : Value) (l2 : List Value) (v2 : Value) (w : World) : Prop where
  a : OV base T l1 v1 w
  b : OV base T l2 v2 w
  ne : ∀ k, v1.ownBlock = some k → v2.ownBlock ≠ some k
theorem Two.symm {base : Nat} {T : TypeId} {l1 l2 : List Value} {v1 v2 : Value} {w : World} (h : Two base T l1 v1 l2 v2 w) : Two base T l2 v2 l1 v1 w :=
  ⟨h.b, h.a, fun k h1 h2 => h.ne k h2 h1⟩
theorem Two.kept {base : Nat} {T : TypeId} {l1 l2 : List Value} {v1 v2 : Value} {w w' : World} (h : Two base T l1 v1 l2 v2 w) (hb : Below w.heap.size w w') : Two base T l1 v1 l2 v2 w' :=
  ⟨h.a.kept hb, h.b.kept hb, h.ne⟩
/-- where an append's row lies: in the old block, or at the heap's end -/
theorem append_where {w : World} {base : Nat} {t ty e : TypeId} {i : TypeInfo} {z : Value} {bytes : Nat} (ht : Try.prog.underlying t = some (.slice e)) (hi : Try.prog.info? e = some i) (hz : i.zero = some z)
    (hsize : i.size = 1) (hby : i.bytes = bytes) {v : Value} {n : Nat} {xs : List Value} (hown : w.ownsRow base e 1 v n xs)
    {a : Addr} {c : Nat} {u : Value} (hnews : ∀ j x, [u][j]? = some x → w.cell? (a.add j) = some x) (h1 : u.oneCell' = true)
    (h63 : n + 1 ≤ maxLen) (hbytes : (n + 1) * bytes ≤ 140737488355328) {v' : Value} {w' : World}
    (hr : (Builtin.append_ #[t, t] ty #[v, .slice (some a) 1 c]).run Try.prog w = .ok v' w') : v'.ownBlock = v.ownBlock ∨ v'.ownBlock = some w.heap.size := by
  subst hby
  have hsmall : n + 1 ≤ 9223372036854775807 := by simp only [maxLen] at h63; omega
  rcases hown.2 with ⟨rfl, rfl⟩ | ⟨g, cap, cur, rfl, hbg, hg, hnc, hcm, hcs, htake⟩
  · have hq := run_append_nil (P := Try.prog) w t ty e i z ht hi hz a 1 c [u] (by rw [hsize]; rfl) hnews (by omega) (by omega) (by have hb := hbytes; simp only [Nat.zero_add] at hb; omega)
    rw [hr] at hq
    injection hq with hv hw
    right; rw [hv]; rfl
  · by_cases hroom : n + 1 ≤ cap
    · have hq := run_append_room (P := Try.prog) w t ty e i ht hi g n cap cur hg a 1 c [u] (by rw [hsize]; rfl) hnews (fun x hx => by rw [List.mem_singleton.1 hx]; exact h1) hroom (by rw [hsize, hcs]; simp; omega)
      rw [hr] at hq
      injection hq with hv hw
      left; rw [hv]; rfl
    · have holds : ∀ j x, xs[j]? = some x → w.cell? ((⟨g, 0, none⟩ : Addr).add j) = some x := hown.cells (g := g) rfl
      have hq := run_append_grow (P := Try.prog) w t ty e i z ht hi hz ⟨g, 0, none⟩ n cap xs (by rw [hsize]; exact hown.1) holds a 1 c [u] (by rw [hsize]; rfl) hnews (by omega) (by omega) (growslice_fits (by omega) hbytes)
      rw [hr] at hq
      injection hq with hv hw
      right; rw [hv]; rfl
/-- 'out = append(out, u)' beside another own row -/
theorem wpList_append_cell2 {W : World} {ops : Array Oper} {rest : List Oper} {o : Oper} {a : Act} {Q : Exit → Act → World → Prop} (hgd : o.guard = none) (s x : Operand) (S T : TypeId) {z : Value} {bytes : Nat}
    (ho : o.op = .call { callee := .builtin .append, args := #[s, x], argTypes := #[S, S] }) (hS : Try.prog.underlying S = some (.slice T))
    (hinfo : (Try.prog.info? T).map (fun i => (i.zero, i.size, i.bytes)) = some (some z, 1, bytes)) (hz : z.cells.size = 1) (hby : bytes ≤ 4096)
    {base : Nat} {l l2 : List Value} {v v2 : Value} (hs : a.eval s = v) (hx : a.eval x = .slice (some ⟨W.heap.size, 0, none⟩) 1 1) (u : Value) (hu : u.oneCell' = true)
    (hown : Two base T l v l2 v2 W) (hlen : l.length < 17179869184) (hbase : base ≤ W.heap.size)
    (h : ∀ v' w', Two base T (l ++ [u]) v' l2 v2 w' → Below base W w' → wpList Try.prog ops Q rest (a.put o.dst v') w') : wpList Try.prog ops Q (o :: rest) a (W.alloc (.cells #[u] T)) := by
  obtain ⟨i0, hi, hz0, hz1, hz2⟩ := info_parts hinfo
  have h1 := World.ownsRow.alloc hown.a (.cells #[u] T)
  have h2 := World.ownsRow.alloc hown.b (.cells #[u] T)
  have hb9 : (l.length + 1) * bytes ≤ (l.length + 1) * 4096 := Nat.mul_le_mul_left _ hby
  have hcell : ∀ j y, [u][j]? = some y → (W.alloc (.cells #[u] T)).cell? ((⟨W.heap.size, 0, none⟩ : Addr).add j) = some y := by
    intro j y hj
    match j, hj with
    | 0, hj => simp at hj; subst hj; simp [addr_add]
  have hml : l.length + 1 ≤ maxLen := by unfold maxLen; omega
  obtain ⟨v', w', hr, h3, h4, _⟩ := run_append_own (P := Try.prog) (W.alloc (.cells #[u] T)) base S o.type T i0 z 1 bytes hS hi hz0 hz1 hz2 hz (by decide) v l.length l h1 ⟨W.heap.size, 0, none⟩ 1 1 [u] rfl hcell (fun y hy => by rw [List.mem_singleton.1 hy]; exact hu) hml (by omega) (by simp; omega)
  have hwhere := append_where hS hi hz0 hz1 hz2 h1 hcell hu hml (by omega) hr
  refine wpList_plain hgd fun K hK => ?_
  have hT : Two base T (l ++ [u]) v' l2 v2 w' := by
    refine ⟨by unfold OV; rw [List.length_append]; exact h3, World.ownsRow.kept h2 h4 ?_, fun k hk hk2 => ?_⟩
    · cases hv2 : v2.ownBlock with
      | none => exact .inl rfl
      | some k => exact .inr (fun e => hown.ne k e.symm hv2)
    · rcases hwhere with e | e
      · exact hown.ne k (by rw [← e]; exact hk) hk2
      · rw [e] at hk
        have := (World.ownsRow.lt hown.b k hk2).2
        cases hk
        simp at this
        omega
  have hBW : Below base W w' := ((Below.refl base W).alloc hbase _).trans (ov_below h1 h4 (by simp; omega))
  unfold Oper.wp execOp
  simp only [ho, resolve, invoke, builtin, Sem.run_bind, Sem.run_pure, Result.andThen_ok, List.map_toArray, List.map_cons, List.map_nil, hs, hx, hr]
  exact hK _ _ (h v' w' hT hBW)
end Go.Proofs.Ytenicjebccdekaa
