import Derived.Test.YtafbghlldlconaaGreatPart13
import Derived.Test.YtafbghlldlconaaGreatPart14
import Derived.Test.YtafbghlldlconaaGreatPart7
import Derived.Test.YtafbghlldlconaaGreatRows
import Derived.Below
import Derived.ChangeSame
import Derived.WalkKit
import Derived.ProofKit
import Derived.ReadAgain
import Derived.ChangeStays
import Derived.ChangeBears
import Derived.Test.YtafbghlldlconaaGreatPart1
import Derived.Deep.Slices
import Derived.Deep.Fields
import Derived.SizedLaws
/-
  The law EntryLists: the walk.
-/
namespace Go.Proofs.YtafbghlldlconaaGreat
set_option linter.unusedVariables false
set_option linter.unusedSimpArgs false
open Go.RowKit PT

theorem lOf_lenL {l : List Nd} {cs : List Ct} (hB : SmallC cs) (form sub : Int) : (lOf l cs form sub).length ≤ 400 * 1048576 := by
  unfold lOf
  split
  · rename_i he
    obtain ⟨hR, _, f0, f1, _⟩ := eOf_ok he
    obtain ⟨t0, t1⟩ := topF_range hR f0 f1
    have h1 := ord_len hR t0 t1
    have h2 := hR.max
    exact Nat.le_trans (flat_lenB hB _ _ _) (Nat.mul_le_mul_right _ (by omega))
  · exact Nat.zero_le _
set_option maxHeartbeats 1000000 in
set_option maxRecDepth 100000 in
theorem entryLists_walk (l : List Nd) (cs : List Ct) (vn vc : Value) (form sub : Int) (w : World) (hD : DocAt l cs vn vc w) (_ : (Lit.int .i64 form).wf = true) (_ : (Lit.int .i64 sub).wf = true) (hB : SmallC cs) :
    Calls Tryz.prog 3 #[.agg #[vn, vc], .int .i64 form, .int .i64 sub] w fun e w' => e = .returned (.bool true) ∧ Below w.heap.size w w' := by
  obtain ⟨a1, cap1, rfl⟩ := hD.nodes.nodes.len
  obtain ⟨a2, cap2, rfl⟩ := hD.ctls.len
  obtain ⟨hD1, hb1, hs1, c0, c1⟩ := doc_box (T := 25) hD
  have hlA := lOf_lenL (l := l) hB form sub
  go_enter Tryz.func3, Tryz.ntmps3
  go_wp2_with fail
  generalize World.alloc w _ = W1 at hD1 hb1 hs1 c0 c1 ⊢
  refine (lawCopied22_any l cs _ _ _ hD1).mono ?_
  rintro e w3 ⟨vn3, vc3, rfl, hO3, hb3⟩
  obtain ⟨a3, cap3, rfl⟩ := hO3.nodes.nodes.len
  obtain ⟨a4, cap4, rfl⟩ := hO3.ctls.len
  have hs3 := hb3.size
  go_wp2_with fail
  refine (entList_any l cs _ _ form sub hB _ hO3).mono ?_
  rintro e w4 ⟨va, rfl, hA, hb4⟩
  have hb14 := bs hb3 hb4
  have f0 := cellK hb14 (by omega) c0
  have f1 := cellK hb14 (by omega) c1
  obtain ⟨a5, cap5, rfl⟩ := hA.len
  go_wp2_with fail
  refine (refList22_any l cs _ _ form sub hB _ (hD1.kept hb14)).mono ?_
  rintro e w5 ⟨vb, rfl, hBv, hb5⟩
  have hA5 := hA.kept hb5
  obtain ⟨a6, cap6, rfl⟩ := hBv.len
  have hb15 := bs hb14 hb5
  generalize lOf l cs form sub = A at *
  generalize eOf l cs form = z at *
  have q1 : (z == z) = true := beq_self_eq_true z
  go_wp2_with fail
  refine (wakes22_any _).mono ?_
  rintro e w6 ⟨rfl, hb6⟩
  go_wp2_with fail
  refine (sameFiles_yes A _ _ _ (hA5.kept hb6) (hBv.kept hb6) (by omega)).mono ?_
  rintro e w7 ⟨rfl, hb7⟩
  go_wp2_with fail
  go_ret
  exact ⟨rfl, bs hb1 (bs (bs hb15 hb6) hb7)⟩
end Go.Proofs.YtafbghlldlconaaGreat

/-
  THE LAST STEP OF A LAW'S ROW where of the world behind the call 'Below' alone is known.
-/
namespace Go.Proofs.YtafbghlldlconaaGreat
set_option linter.unusedVariables false
set_option linter.unusedSimpArgs false
open Go.RowKit Go.WideShapes Go.ChangeShapes
section
variable {H : Type} {enc : TypeId × Value → H} {P : Program}
theorem post_of_below {f : Func} {s : ChangeSpec} {apart fresh handsOn again : Bool} {W W' : World} {args : Array Value} {v : Value} {ds gs : List (DataW H)} {before pa pv : List MemPlace}
    (hW : DataW.Whole enc P f.params.toList s.vars apart W args.toList ds gs before)
    (hres : ∀ (b : Nat) (sp : Nat → Bool) (hd : Bool), DataW.TrodAll enc P W' b sp hd f.resultTypes.toList (v.resultList f.resultTypes.size) (s.fn H (ds ++ gs)).results [])
    (hargs : ∀ sp : Nat → Bool, (∀ p ∈ before, sp p.block = true) → DataW.TrodAll enc P W' 0 sp true f.params.toList args.toList (s.fn H (ds ++ gs)).args pa)
    (hvars : ∀ sp : Nat → Bool, (∀ p ∈ before, sp p.block = true) → DataW.TrodVars enc P W' sp s.vars (s.fn H (ds ++ gs)).vars pv)
    (hps : before = pa ++ pv) (hb : Below W.heap.size W W')
    (hok : ∀ (j : Nat) (t : TypeId) (r : Value), f.resultTypes[j]? = some t → (v.resultList f.resultTypes.size)[j]? = some r → Value.okWide P W' .any 0 t r) :
    s.post enc P f apart fresh handsOn again W args v W' := by
  have hlt : ∀ p ∈ before, p.block < W.heap.size := fun p hp => hW.lt p hp
  have hold : ∀ p ∈ before, (fun b => decide (b < W.heap.size)) p.block = true := fun p hp => by simpa using hlt p hp
  refine ⟨ds, gs, before, [], pa, pv, hW, hres _ _ _, hargs _ hold, hvars _ hold, World.keptBut_mono (fun p hp => ⟨hp, ?_⟩) (hb.frame (· ∈ before)), fun _ => ?_⟩
  · rw [hps, List.mem_append] at hp
    exact Or.inr hp
  · obtain ⟨_, _, _, _, _, hz, hn⟩ := hW
    refine ⟨hok, _, _, ([] ++ pa) ++ pv, ⟨[] ++ pa, pv, trodAll_append (hargs _ (fun _ _ => rfl)) (hres _ _ _), hvars _ (fun _ _ => rfl), rfl, ?_, ?_⟩, ?_⟩
    · intro b off hp
      have hin : MemPlace.cell b off ∈ before := by rw [hps]; simpa using hp
      rw [hb.frozen (hlt _ hin)]
      exact hz b off hin
    · intro ha
      have := hn ha
      rw [hps] at this
      simpa using this
    · intro p hp _
      rw [hps]
      simpa using hp
end
end Go.Proofs.YtafbghlldlconaaGreat

/-
  WHAT THE ARGUMENTS READ BEHIND A CALL that has kept all older blocks: what they read before, whatever their types.
-/
namespace Go.Proofs.YtafbghlldlconaaGreat
set_option linter.unusedVariables false
set_option linter.unusedSimpArgs false
open Go.RowKit Go.WideShapes Go.ChangeShapes
section
variable {H : Type} {enc : TypeId × Value → H} {P : Program}
theorem same_below {W W' : World} (hb : Below W.heap.size W W') {p : MemPlace} (hp : p.block < W.heap.size) : W.sameAt W' p := by
  cases p with
  | cell b off =>
    show W'.cell? _ = W.cell? _
    have : W'.heap[b]? = W.heap[b]? := hb.block b hp
    simp only [World.cell?, this]
  | map b => exact hb.block b hp
theorem args_stay {T : TypeId → Prop} (K : Kids P T) (hz : ∀ {t e : TypeId}, T t → P.underlying t = some (.slice e) → 0 < P.cellsOf e) {W W' : World} {sp : Nat → Bool} (hb : Below W.heap.size W W') :
    ∀ {ts : List TypeId} {vs : List Value} {ds : List (DataW H)} {ps : List MemPlace}, (∀ t ∈ ts, T t) → DataW.TrodAll enc P W 0 (fun _ => true) true ts vs ds ps → (∀ p ∈ ps, p.block < W.heap.size) → (∀ p ∈ ps, sp p.block = true) → DataW.TrodAll enc P W' 0 sp true ts vs ds ps
  | [], [], [], _, _, h, _, _ => h
  | _ :: _, _ :: _, _ :: _, _, hT, ⟨p, q, ⟨n, h1⟩, h2, e⟩, hlt, hs =>
    ⟨p, q, ⟨n, DataW.trod_stays K hz (fun h => by cases h) (hT _ (List.mem_cons.2 (Or.inl rfl))) h1
        (fun x hx => same_below hb (hlt x (by rw [e]; exact List.mem_append_left _ hx))) (fun x hx => hs x (by rw [e]; exact List.mem_append_left _ hx))⟩,
      args_stay K hz hb (fun t ht => hT t (List.mem_cons.2 (Or.inr ht))) h2 (fun x hx => hlt x (by rw [e]; exact List.mem_append_right _ hx)) (fun x hx => hs x (by rw [e]; exact List.mem_append_right _ hx)), e⟩
end
end Go.Proofs.YtafbghlldlconaaGreat

/-
  OPENING ARGUMENTS: helpers; what arguments of any type read behind the call.
-/
namespace Go.Proofs.YtafbghlldlconaaGreat
set_option linter.unusedVariables false
set_option linter.unusedSimpArgs false
open Go.RowKit Go.ChangeShapes Go.WideShapes Go.Deep

theorem list_of {α : Type} {P : Nat → α → Prop} : ∀ n, (∀ i, i < n → ∃ x, P i x) → ∃ l : List α, l.length = n ∧ ∀ i x, l[i]? = some x → P i x
  | 0, _ => ⟨[], rfl, fun i x h => by simp at h⟩
  | n + 1, h => by
    obtain ⟨l, hl, hp⟩ := list_of n (fun i hi => h i (by omega))
    obtain ⟨x, hx⟩ := h n (by omega)
    refine ⟨l ++ [x], by simp [hl], fun i y hy => ?_⟩
    by_cases e : i < l.length
    · rw [List.getElem?_append_left e] at hy; exact hp i y hy
    · rw [List.getElem?_append_right (by omega)] at hy
      have : i - l.length = 0 := by
        have := (List.getElem?_eq_some_iff.1 hy).1
        simp at this; exact this
      rw [this] at hy
      simp at hy
      obtain rfl : i = n := by omega
      rw [← hy]; exact hx
theorem spot_none {w : World} {a : Addr} {k : Nat} {v : Value} (h : w.cell? (a.add k) = some v) (hk : k = 0) : a.spot = none ∧ a.block < w.heap.size := by
  subst hk
  have e : a.add 0 = a := by simp [Addr.add]
  rw [e] at h
  simp only [World.cell?] at h
  cases hb : w.heap[a.block]? with
  | none => rw [hb] at h; cases h
  | some o =>
    have hlt := (Array.getElem?_eq_some_iff.1 hb).1
    rw [hb] at h
    cases o with
    | cells c t f =>
      simp only at h
      cases hs : a.spot with
      | none => exact ⟨rfl, hlt⟩
      | some z => rw [hs] at h; simp at h
    | _ => simp at h

section
variable {H : Type} {enc : TypeId × Value → H} {w : World} {spare : Nat → Bool} {held : Bool}
theorem kids_all : Kids Tryz.prog (· < Tryz.prog.types.size) := kids_rows (by kernel_rfl) (by kernel_rfl)
theorem full_all : ∀ t e, t < Tryz.prog.types.size → Tryz.prog.underlying t = some (.slice e) → 0 < Tryz.prog.cellsOf e := slices_full_of Tryz.prog (by kernel_rfl)
/-- what the arguments read behind the call -/
theorem args_again {W W' : World} {ts : List TypeId} {vs : List Value} {ds : List (DataW H)} {ps : List MemPlace} (hts : (ts.all fun t => decide (t < Tryz.prog.types.size)) = true) (hb : Below W.heap.size W W')
    (h : DataW.TrodAll enc Tryz.prog W 0 (fun _ => true) true ts vs ds ps) (hlt : ∀ p ∈ ps, p.block < W.heap.size) (sp : Nat → Bool) (hs : ∀ p ∈ ps, sp p.block = true) : DataW.TrodAll enc Tryz.prog W' 0 sp true ts vs ds ps :=
  args_stay kids_all (fun ht hu => full_all _ _ ht hu) hb (fun t ht => of_decide_eq_true (List.all_eq_true.1 hts t ht)) h hlt hs
end
end Go.Proofs.YtafbghlldlconaaGreat

/-
  AN ARGUMENT THAT IS A DOCUMENT's NODES, opened.
-/
namespace Go.Proofs.YtafbghlldlconaaGreat
set_option linter.unusedVariables false
set_option linter.unusedSimpArgs false
open Go.RowKit Go.ChangeShapes Go.WideShapes Go.Deep

section
variable {H : Type} {enc : TypeId × Value → H} {P : Program} {w : World} {base : Nat} {spare : Nat → Bool} {held : Bool}
def WOk (P : Program) (t : TypeId) (d : DataW H) : Prop := ∀ n ∈ d.weights P t, n ≤ reachBytes
theorem weightsAll_mem {e : TypeId} {d : DataW H} : ∀ {ds : List (DataW H)}, d ∈ ds → ∀ n ∈ d.weights P e, n ∈ DataW.weightsAll P e ds
  | d0 :: ds, hm, n, hn => by
    simp only [DataW.weightsAll, List.mem_append]
    rcases List.mem_cons.1 hm with rfl | hm
    · exact .inl hn
    · exact .inr (weightsAll_mem hm n hn)
theorem wok_arg {ts : List TypeId} {ds : List (DataW H)} (h : (DataW.weightsEach P ts ds).all (· ≤ reachBytes) = true) {j : Nat} {t : TypeId} {d : DataW H} (ht : ts[j]? = some t) (hd : ds[j]? = some d) : WOk P t d :=
  fun n hn => by simpa using List.all_eq_true.1 h _ (DataW.weights_mem_each ht hd n hn)
theorem open_slice_w {t e : TypeId} {fuel : Nat} {cs : List Value} {x : DataW H × List MemPlace} (ht : P.underlying t = some (.slice e)) (h : DataW.trod enc P w base spare held fuel t cs = some x) (hw : WOk P t x.1) :
    cs = [.slice none 0 0] ∨
    ∃ (a : Addr) (len cap : Nat), cs = [.slice (some a) len cap] ∧ len ≤ cap ∧ len * P.bytesOf e ≤ reachBytes ∧
      ∀ i, i < len → ∃ (cs' : List Value) (n : Nat) (y : DataW H × List MemPlace), w.cells? base (a.add (i * P.cellsOf e)) (P.cellsOf e) = some cs' ∧ DataW.trod enc P w base spare held n e cs' = some y ∧ WOk P e y.1 := by
  rcases open_slice ht h with ⟨h0, _⟩ | ⟨a, len, cap, m, n, D, Pl, hcs, hb, hl, hm, hmm, hx, hi⟩
  · exact .inl h0
  · refine .inr ⟨a, len, cap, hcs, hl, ?_, fun i him => ?_⟩
    · have h1 := hw ((((List.range len).map D).length + ((List.range (m - len)).map fun j => D (len + j)).length) * P.bytesOf e) (by rw [hx]; simp only [DataW.weights, ht]; exact List.mem_cons_self ..)
      rw [List.length_map, List.length_range] at h1
      exact Nat.le_trans (Nat.mul_le_mul_right _ (by omega)) h1
    · obtain ⟨cs', hc, ht'⟩ := hi i (by rw [hmm]; split <;> omega)
      refine ⟨cs', n, (D i, Pl i), hc, ht', fun k hk => hw k ?_⟩
      rw [hx]
      simp only [DataW.weights, ht]
      exact List.mem_cons_of_mem _ (List.mem_append_left _ (weightsAll_mem (List.mem_map.2 ⟨i, List.mem_range.2 him, rfl⟩) k hk))
theorem open_struct_w {t : TypeId} {fs : Array Field} {fuel : Nat} {cs : List Value} {x : DataW H × List MemPlace} (ht : P.underlying t = some (.struct fs)) (hone : oneCellFields P fs = true) (h : DataW.trod enc P w base spare held fuel t cs = some x) (hw : WOk P t x.1) (hC : P.cellsOf t = fs.size) :
    ∀ (j : Nat) (f : Field), fs[j]? = some f → ∃ (n : Nat) (v : Value) (y : DataW H × List MemPlace), cs[j]? = some v ∧ DataW.trod enc P w base spare held n f.type [v] = some y ∧ WOk P f.type y.1 := by
  intro j f hj
  obtain ⟨ys, n', hn', hy, hlen, hyl, hf⟩ := DataW.trod_struct ht h
  obtain ⟨ho, hk⟩ := hone_of hone j f hj
  have hjl : j < fs.size := (Array.getElem?_eq_some_iff.1 hj).1
  have hv : cs[j]? = some (cs[j]'(by omega)) := List.getElem?_eq_getElem (by omega)
  have h1 := hf j f hj
  rw [ho, hk] at h1
  have hone' : (cs.drop j).take 1 = [cs[j]'(by omega)] := by
    rw [List.drop_eq_getElem_cons (by omega)]
    rfl
  rw [hone'] at h1
  have hys : ys[j]? = some (ys[j]'(by omega)) := List.getElem?_eq_getElem (by omega)
  refine ⟨n', _, _, hv, h1.trans hys, fun k hk => hw k ?_⟩
  rw [hy]
  simp only [DataW.weights, ht]
  refine DataW.weights_mem_each (j := j) (t := f.type) (d := (ys[j]'(by omega)).1) ?_ ?_ k hk
  · rw [List.getElem?_map, Array.getElem?_toList, hj]; rfl
  · rw [List.getElem?_map, hys]; rfl
end
section
variable {H : Type} {enc : TypeId × Value → H} {w : World} {base : Nat} {spare : Nat → Bool} {held : Bool}
theorem wok_str {s : ByteArray} {t : TypeId} (h : WOk (H := H) Tryz.prog t (.lit (.string s.data.toList))) : s.size ≤ 140737488351232 := by
  have := h s.data.toList.length (by simp [DataW.weights])
  rw [Array.length_toList] at this
  exact this
theorem slice_at {α : Type} {l : List α} {a : Addr} {cap : Nat} {step : Nat} {v : Value} (hv : v = .slice (some a) l.length cap) (hst : l ≠ [] → ∃ u, w.cell? (a.add (0 * step)) = some u) :
    (l = [] ∧ ∃ a cap, v = .slice a 0 cap ∧ (a = none → cap = 0)) ∨ ∃ b o, a = ⟨b, o, none⟩ ∧ b < w.heap.size := by
  subst hv
  by_cases h : l = []
  · subst h
    exact .inl ⟨rfl, _, cap, rfl, fun e => by cases e⟩
  · obtain ⟨u, hu⟩ := hst h
    obtain ⟨hsp, hb⟩ := spot_none hu (Nat.zero_mul _)
    obtain ⟨b, o, sp⟩ := a
    simp only at hsp hb
    subst hsp
    exact .inr ⟨b, o, rfl, hb⟩
set_option maxRecDepth 100000 in
theorem open_atts {fuel : Nat} {v : Value} {x : DataW H × List MemPlace} (h : DataW.trod enc Tryz.prog w base spare held fuel 38 [v] = some x) (hw : WOk Tryz.prog 38 x.1) :
    ∃ l, Atts l v w ∧ l.length * 32 ≤ 140737488351232 ∧ ∀ a ∈ l, a.n.size ≤ 140737488351232 ∧ a.v.size ≤ 140737488351232 := by
  rcases open_slice_w Tryz.underlying38 h hw with hc | ⟨a, len, cap, hc, hl, hby, hi⟩
  · have hc' : v = .slice none 0 0 := (List.cons.inj hc).1
    exact ⟨[], .inl ⟨rfl, none, 0, hc', fun _ => rfl⟩, by simp, by simp⟩
  · have hc' : v = .slice (some a) len cap := (List.cons.inj hc).1
    rw [show Tryz.prog.bytesOf 52 = 32 by kernel_rfl, show reachBytes = 140737488351232 by rfl] at hby
    rw [show Tryz.prog.cellsOf 52 = 2 by kernel_rfl] at hi
    obtain ⟨l, hlen, hes⟩ := list_of (α := At) (P := fun i e => (w.cell? (a.add (i * 2)) = some (.string e.n) ∧ w.cell? (a.add (i * 2 + 1)) = some (.string e.v)) ∧ e.n.size ≤ 140737488351232 ∧ e.v.size ≤ 140737488351232) len (fun i hil => by
      obtain ⟨cs', n, y, hcc, hty, hwy⟩ := hi i hil
      obtain ⟨_, hcl, hat⟩ := World.cells?_some hcc
      have hS := open_struct_w Tryz.underlying52 (by kernel_rfl) hty hwy (by kernel_rfl)
      obtain ⟨n0, v0, y0, c0, t0, w0⟩ := hS 0 _ rfl
      obtain ⟨n1, v1, y1, c1, t1, w1⟩ := hS 1 _ rfl
      obtain ⟨s0, e0, rfl, _⟩ := DataW.trod_string Tryz.underlying9 t0
      obtain ⟨s1, e1, rfl, _⟩ := DataW.trod_string Tryz.underlying9 t1
      obtain rfl := (List.cons.inj e0).1
      obtain rfl := (List.cons.inj e1).1
      have d0 := hat 0 (by omega)
      have d1 := hat 1 (by omega)
      rw [Go.Deep.add_add, c0] at d0
      rw [Go.Deep.add_add, c1] at d1
      exact ⟨⟨s0, s1⟩, ⟨d0, d1⟩, wok_str w0, wok_str w1⟩)
    subst hlen
    refine ⟨l, ?_, by omega, fun e he => ?_⟩
    · rcases slice_at (step := 2) (w := w) hc' (fun h => by
        have hn : 0 < l.length := List.length_pos_iff.2 h
        exact ⟨_, (hes 0 l[0] (List.getElem?_eq_getElem hn)).1.1⟩) with h | ⟨b, o, rfl, hb⟩
      · exact .inl h
      · refine .inr ⟨b, o, cap, hc', hl, hb, fun j x hx => ?_⟩
        have hh := (hes j x hx).1
        rw [addr_add, addr_add] at hh
        exact hh
    · obtain ⟨j, hj, rfl⟩ := List.getElem_of_mem he
      exact (hes j _ (List.getElem?_eq_getElem hj)).2
set_option maxRecDepth 100000 in
theorem open_nums {fuel : Nat} {v : Value} {x : DataW H × List MemPlace} (h : DataW.trod enc Tryz.prog w base spare held fuel 39 [v] = some x) (hw : WOk Tryz.prog 39 x.1) :
    ∃ l, Nums l v w ∧ l.length * 8 ≤ 140737488351232 := by
  rcases open_slice_w Tryz.underlying39 h hw with hc | ⟨a, len, cap, hc, hl, hby, hi⟩
  · have hc' : v = .slice none 0 0 := (List.cons.inj hc).1
    exact ⟨[], .inl ⟨rfl, none, 0, hc', fun _ => rfl⟩, by simp⟩
  · have hc' : v = .slice (some a) len cap := (List.cons.inj hc).1
    rw [show Tryz.prog.bytesOf 3 = 8 by kernel_rfl, show reachBytes = 140737488351232 by rfl] at hby
    rw [show Tryz.prog.cellsOf 3 = 1 by kernel_rfl] at hi
    obtain ⟨l, hlen, hes⟩ := list_of (α := Int) (P := fun i e => w.cell? (a.add (i * 1)) = some (.int .i64 e)) len (fun i hil => by
      obtain ⟨cs', n, y, hcc, hty, hwy⟩ := hi i hil
      obtain ⟨_, hcl, hat⟩ := World.cells?_some hcc
      obtain ⟨s0, e0, rfl, _⟩ := DataW.trod_int Tryz.underlying3 hty
      subst e0
      have d0 := hat 0 (by omega)
      rw [Go.Deep.add_add] at d0
      exact ⟨s0, d0⟩)
    subst hlen
    refine ⟨l, ?_, by omega⟩
    rcases slice_at (step := 1) (w := w) hc' (fun h => by
      have hn : 0 < l.length := List.length_pos_iff.2 h
      exact ⟨_, hes 0 l[0] (List.getElem?_eq_getElem hn)⟩) with h | ⟨b, o, rfl, hb⟩
    · exact .inl h
    · refine .inr ⟨b, o, cap, hc', hl, hb, fun j x hx => ?_⟩
      have hh := hes j x hx
      rw [addr_add, Nat.mul_one] at hh
      exact hh
set_option maxRecDepth 100000 in
theorem open_nodes_trod {fuel : Nat} {v : Value} {x : DataW H × List MemPlace} (h : DataW.trod enc Tryz.prog w base spare held fuel 22 [v] = some x) (hw : WOk Tryz.prog 22 x.1) :
    ∃ l, Came l v w := by
  rcases open_slice_w Tryz.underlying22 h hw with hc | ⟨a, len, cap, hc, hl, hby, hi⟩
  · have hc' : v = .slice none 0 0 := (List.cons.inj hc).1
    exact ⟨[], .inl ⟨rfl, none, 0, hc', fun _ => rfl⟩, by simp, by simp, by simp, by simp⟩
  · have hc' : v = .slice (some a) len cap := (List.cons.inj hc).1
    rw [show Tryz.prog.bytesOf 41 = 88 by kernel_rfl, show reachBytes = 140737488351232 by rfl] at hby
    rw [show Tryz.prog.cellsOf 41 = 5 by kernel_rfl] at hi
    obtain ⟨l, hlen, hes⟩ := list_of (α := Nd) (P := fun i e => (∃ va vk, w.cell? (a.add (i * 5)) = some (.string e.nm) ∧ w.cell? (a.add (i * 5 + 1)) = some (.string e.tx) ∧ w.cell? (a.add (i * 5 + 2)) = some va ∧ w.cell? (a.add (i * 5 + 3)) = some (.int .i64 e.pa) ∧ w.cell? (a.add (i * 5 + 4)) = some vk ∧ Atts e.ats va w ∧ Nums e.ks vk w) ∧ Fits e ∧ e.ats.length * 32 ≤ 140737488351232 ∧ e.ks.length * 8 ≤ 140737488351232) len (fun i hil => by
      obtain ⟨cs', n, y, hcc, hty, hwy⟩ := hi i hil
      obtain ⟨_, hcl, hat⟩ := World.cells?_some hcc
      have hS := open_struct_w Tryz.underlying41 (by kernel_rfl) hty hwy (by kernel_rfl)
      obtain ⟨n0, v0, y0, c0, t0, w0⟩ := hS 0 _ rfl
      obtain ⟨n1, v1, y1, c1, t1, w1⟩ := hS 1 _ rfl
      obtain ⟨n2, v2, y2, c2, t2, w2⟩ := hS 2 _ rfl
      obtain ⟨n3, v3, y3, c3, t3, w3⟩ := hS 3 _ rfl
      obtain ⟨n4, v4, y4, c4, t4, w4⟩ := hS 4 _ rfl
      obtain ⟨s0, e0, rfl, _⟩ := DataW.trod_string Tryz.underlying9 t0
      obtain ⟨s1, e1, rfl, _⟩ := DataW.trod_string Tryz.underlying9 t1
      obtain ⟨s3, e3, rfl, _⟩ := DataW.trod_int Tryz.underlying3 t3
      obtain rfl := (List.cons.inj e0).1
      obtain rfl := (List.cons.inj e1).1
      obtain rfl := (List.cons.inj e3).1
      obtain ⟨l2, h2, f2, g2⟩ := open_atts t2 w2
      obtain ⟨l4, h4, f4⟩ := open_nums t4 w4
      have d0 := hat 0 (by omega)
      have d1 := hat 1 (by omega)
      have d2 := hat 2 (by omega)
      have d3 := hat 3 (by omega)
      have d4 := hat 4 (by omega)
      rw [Go.Deep.add_add, c0] at d0
      rw [Go.Deep.add_add, c1] at d1
      rw [Go.Deep.add_add, c2] at d2
      rw [Go.Deep.add_add, c3] at d3
      rw [Go.Deep.add_add, c4] at d4
      exact ⟨⟨s0, s1, l2, s3, l4⟩, ⟨v2, v4, d0, d1, d2, d3, d4, h2, h4⟩, ⟨wok_str w0, wok_str w1, by show l2.length ≤ _; omega, by show l4.length ≤ _; omega, g2⟩, f2, f4⟩)
    subst hlen
    have hall : ∀ e ∈ l, Fits e ∧ e.ats.length * 32 ≤ 140737488351232 ∧ e.ks.length * 8 ≤ 140737488351232 := fun e he => by
      obtain ⟨j, hj, rfl⟩ := List.getElem_of_mem he
      exact (hes j _ (List.getElem?_eq_getElem hj)).2
    refine ⟨l, ?_, fun e he => (hall e he).1, by omega, fun e he => (hall e he).2.1, fun e he => (hall e he).2.2⟩
    · rcases slice_at (step := 5) (w := w) hc' (fun h => by
        have hn : 0 < l.length := List.length_pos_iff.2 h
        obtain ⟨⟨_, _, c, _⟩, _⟩ := hes 0 l[0] (List.getElem?_eq_getElem hn)
        exact ⟨_, c⟩) with h | ⟨b, o, rfl, hb⟩
      · exact .inl h
      · refine .inr ⟨b, o, cap, hc', hl, hb, fun j x hx => ?_⟩
        have hh := (hes j x hx).1
        simp only [addr_add] at hh
        exact hh
set_option maxRecDepth 100000 in
/-- OPENED: a document's nodes -/
theorem open_nodes {r : Reach} {b0 : Nat} {v : Value} {d : DataW H} {p : List MemPlace} (hv : Value.okWide Tryz.prog w r b0 22 v) (h : DataW.Trod enc Tryz.prog w base spare held 22 v d p) (hw : WOk Tryz.prog 22 d) :
    ∃ l, Came l v w := by
  obtain ⟨a, len, cap, rfl⟩ := okWide_slice Tryz.underlying22 hv
  obtain ⟨fuel, hf⟩ := h
  exact open_nodes_trod hf hw
end
end Go.Proofs.YtafbghlldlconaaGreat
