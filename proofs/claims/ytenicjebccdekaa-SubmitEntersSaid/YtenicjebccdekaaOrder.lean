/-
  THE ORDER OF A RIGHT DOCUMENT: tree.order: the walk.
-/
import Derived.Test.YtenicjebccdekaaPlainOrder
import Derived.Test.YtenicjebccdekaaClimb
import Derived.Test.YtenicjebccdekaaRows1
namespace Go.Proofs.Ytenicjebccdekaa
set_option linter.unusedVariables false
set_option linter.unusedSimpArgs false
open Go.RowKit PT

def ints (t : List Int) : List Value := t.map (Value.int .i64)
/-- 'out = append(out, l...)' of one-cell elements -/
theorem wpList_append_row {W : World} {ops : Array Oper} {rest : List Oper} {o : Oper} {a : Act} {Q : Exit → Act → World → Prop} (hgd : o.guard = none) (s x : Operand) (S T : TypeId) {z : Value} {bytes : Nat}
    (ho : o.op = .call { callee := .builtin .append, args := #[s, x], argTypes := #[S, S] }) (hS : Try.prog.underlying S = some (.slice T))
    (hinfo : (Try.prog.info? T).map (fun i => (i.zero, i.size, i.bytes)) = some (some z, 1, bytes)) (hz : z.cells.size = 1) (hby : bytes ≤ 4096)
    {base : Nat} {l : List Value} {v : Value} (hs : a.eval s = v) {ad : Addr} {cap : Nat} {m : Nat} {news : List Value} (hx : a.eval x = .slice (some ad) m cap) (hm : news.length = m)
    (hnews : ∀ j u, news[j]? = some u → W.cell? (ad.add j) = some u) (hu : ∀ u ∈ news, u.oneCell' = true)
    (hown : OV base T l v W) (hlen : l.length + news.length < 17179869184) (hbase : base ≤ W.heap.size)
    (h : ∀ v' w', OV base T (l ++ news) v' w' → Below base W w' → wpList Try.prog ops Q rest (a.put o.dst v') w') : wpList Try.prog ops Q (o :: rest) a W := by
  subst hm
  obtain ⟨i0, hi, hz0, hz1, hz2⟩ := info_parts hinfo
  refine wpList_append_own _ hgd s x S ho base T i0 z 1 bytes hS hi hz0 hz1 hz2 hz (by decide) v l.length l hs hown ad news.length cap news hx (by omega) hnews hu ?_ ?_ hbase ?_
  · unfold maxLen; omega
  · have : (l.length + news.length) * bytes ≤ (l.length + news.length) * 4096 := Nat.mul_le_mul_left _ hby
    omega
  · intro v' w1 h1 h2 _
    refine h v' w1 ?_ (ov_below hown h2 hbase)
    unfold OV
    rw [List.length_append]
    exact h1
theorem info_i64 : (Try.prog.info? 3).map (fun i => (i.zero, i.size, i.bytes)) = some (some (.int .i64 0), 1, 8) := by kernel_rfl
theorem ints_one (t : List Int) : ∀ u ∈ ints t, u.oneCell' = true := by
  intro u hu
  obtain ⟨c, _, rfl⟩ := List.mem_map.1 hu
  rfl
theorem ord_pre {l : List Nd} (h : RightP l) {K k : Nat} (hK : K < l.length) : ((K : Int) :: ((ksOf l K).take k).flatMap (ord l)).length ≤ l.length := by
  have h1 := ord_len h (k := (K : Int)) (by omega) (by omega)
  rw [ord_eq h (by omega) (by omega)] at h1
  have h2 : ((ksOf l K).take k).flatMap (ord l) ++ ((ksOf l K).drop k).flatMap (ord l) = (ksOf l K).flatMap (ord l) := by
    rw [← List.flatMap_append, List.take_append_drop]
  rw [← h2] at h1
  simp only [List.length_cons, List.length_append] at h1 ⊢
  omega
set_option maxHeartbeats 4000000 in
set_option maxRecDepth 100000 in
theorem order_any (l : List Nd) (hRP : RightP l) : ∀ (n K : Nat), K < l.length → l.length + 2 ≤ n + dep l K → ∀ (v : Value) (w : World), (∀ x ∈ l, Fits x) → Nodes l v w →
    Calls Try.prog 116 #[v, .int .i64 K] w fun e w' => ∃ vo, e = .returned vo ∧ OV w.heap.size 3 (ints (ord l K)) vo w' ∧ Below w.heap.size w w' := by
  intro n
  induction n with
  | zero => intro K _ hd; have := dep_le l K; omega
  | succ n ih =>
    intro K hK hd v w hz hU
    obtain ⟨a, cap, rfl⟩ := hU.len
    have hmax := hRP.max
    obtain ⟨b, o, cap', va, vk, hv, hb, c0, c1, c2, c3, c4, hat, hks⟩ := hU.at hK
    cases hv
    obtain ⟨_, _, _, z3, _⟩ := hz _ (List.getElem_mem hK)
    have hke := Lib.hid (ksOf_at hK)
    have hkid := Lib.hid (fun (c : Int) (hc : c ∈ ksOf l K) => hRP.kid (k := (K : Int)) (by omega) (by omega) hc)
    have hdk := Lib.hid (fun (c : Int) (hc : c ∈ ksOf l K) => dep_kid hRP (k := (K : Int)) (by omega) (by omega) hc)
    have hoe := Lib.hid (ord_eq hRP (k := (K : Int)) (by omega) (by omega))
    have hpre := Lib.hid (fun k => ord_pre hRP (K := K) (k := k) hK)
    generalize l[K] = x at *
    rw [hke.out] at hkid hdk hoe hpre
    have hK0 : (0 : Int) ≤ (K : Int) := by omega
    have hK1 : (K : Int) < (l.length : Int) := by omega
    have hb0 := (Below.refl w.heap.size w).alloc (Nat.le_refl _) (.cells #[.int .i64 K] 3)
    have hlit : OV w.heap.size 3 (ints [(K : Int)]) (.slice (some ⟨w.heap.size, 0, none⟩) 1 1) (w.alloc (.cells #[.int .i64 K] 3)) := World.ownsRow_lit w #[.int .i64 K] 1 (Nat.le_refl _) (by unfold maxLen; omega) rfl
    have hs0 : w.heap.size ≤ (w.alloc (.cells #[.int .i64 K] 3)).heap.size := by simp
    replace c4 := cellK hb0 hb c4
    replace c3 := cellK hb0 hb c3
    obtain ⟨ka, kcap, rfl⟩ := hks.len
    go_enter Try.func116, Try.ntmps116
    go_upto_region 2 with fail
    generalize World.alloc _ _ = W0 at hb0 hlit hs0 c3 c4 ⊢
    go_wp2_with fail
    go_loopw [5, 16] (fun vo i wr => ∃ k : Nat, k ≤ x.ks.length ∧ i = .int .i64 k ∧ OV w.heap.size 3 (ints ((K : Int) :: (x.ks.take k).flatMap (ord l))) vo wr ∧ Below w.heap.size w wr) (fun _ i _ => x.ks.length - (intOf i).toNat)
    case atStart => exact ⟨0, Nat.zero_le _, rfl, by simpa using hlit, hb0⟩
    case round =>
      obtain ⟨k, hk, rfl, hov, hbel⟩ := hrel
      have hsz := hbel.size
      by_cases hlt : k < x.ks.length
      · have hUr := hU.kept hbel
        obtain ⟨kb, ko, kcap', kv, khb, kc0⟩ := (hks.kept hbel).at hlt
        cases kv
        have hmem := List.getElem_mem hlt
        have hk0 : (0 : Int) ≤ (k : Int) := by omega
        have hk1 : (k : Int) < (x.ks.length : Int) := by omega
        have htk := Lib.hid (show (x.ks.take (k + 1)).flatMap (ord l) = (x.ks.take k).flatMap (ord l) ++ ord l x.ks[k] by
          rw [List.take_add_one, List.getElem?_eq_getElem hlt, List.flatMap_append]; simp)
        generalize x.ks[k] = c at *
        obtain ⟨d0, d1, _⟩ := hkid.out c hmem
        have hdc := hdk.out c hmem
        obtain ⟨q, rfl⟩ := Int.eq_ofNat_of_zero_le d0
        have hq : q < l.length := by omega
        have hq9 := Lib.hid (show l.length + 2 ≤ n + dep l (q : Int) by omega)
        have hp1 := hpre.out k
        have hol := ord_len hRP (k := (q : Int)) (by omega) (by omega)
        clear hdc
        go_wp2_with fail
        refine (ih q hq hq9.out _ _ hz hUr).mono ?_
        rintro e w' ⟨vo2, rfl, hov2, hb5⟩
        have hovW := hov.kept hb5
        have hbW := hbel.trans (hb5.mono hsz)
        have hgW := hbW.size
        have hne : ints (ord l (q : Int)) ≠ [] := by rw [ord_eq hRP (by omega) (by omega)]; simp [ints]
        obtain ⟨g, gcap, rfl, _, hcell⟩ := hov2.at hne
        have hil : (ints (ord l (q : Int))).length = (ord l (q : Int)).length := by simp [ints]
        have hil2 : (ints ((K : Int) :: (x.ks.take k).flatMap (ord l))).length = ((K : Int) :: (x.ks.take k).flatMap (ord l)).length := by simp [ints]
        go_wp2_with (at_builtin; refine wpList_append_row rfl _ _ 28 3 rfl Try.underlying28 info_i64 rfl (by decide) rfl rfl hil (fun j u hu => by rw [addr_add, Nat.zero_add]; exact hcell j u hu) (ints_one _) hovW (by rw [hil, hil2]; omega) hgW ?_; intro v' w1 hov3 hb6)
        go_roundw
        case rel => exact ⟨k + 1, by omega, by go_num, by rw [htk.out]; simpa [ints] using hov3, hbW.trans (hb6.mono (by omega))⟩
        case measure => simp [intOf]; omega
      · obtain rfl : k = x.ks.length := by omega
        rw [List.take_of_length_le (Nat.le_refl _)] at hov
        go_wp2_with fail
        go_ret
        exact ⟨_, rfl, by rw [hoe.out]; exact hov, hbel⟩
end Go.Proofs.Ytenicjebccdekaa
