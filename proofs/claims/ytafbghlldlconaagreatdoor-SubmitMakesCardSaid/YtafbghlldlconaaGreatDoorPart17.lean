import Derived.Test.YtafbghlldlconaaGreatDoorPart8
import Derived.Test.YtafbghlldlconaaGreatDoorRows
import Derived.Below
import Derived.ChangeSame
import Derived.WalkKit
import Derived.ProofKit
import Derived.ReadAgain
import Derived.ChangeStays
import Derived.ChangeBears
import Derived.Test.YtafbghlldlconaaGreatDoorPart1
import Derived.Deep.Slices
import Derived.Deep.Fields
import Derived.SizedLaws
import Derived.Test.YtafbghlldlconaaGreatDoorPart2
import Derived.Test.YtafbghlldlconaaGreatDoorPart11
import Derived.Deep.Strs
import Derived.Deep.AppendSrc
/-
  A document of the law's own (copied): the laws of chapters 22 and 24: the walks.
-/
namespace Go.Proofs.YtafbghlldlconaaGreatDoor
set_option linter.unusedVariables false
set_option linter.unusedSimpArgs false
open Go.RowKit

set_option maxHeartbeats 1000000 in
set_option maxRecDepth 100000 in
theorem lawCopied24_any (l : List Nd) (cs : List Ct) (vn vc : Value) (w : World) (hD : DocAt l cs vn vc w) :
    Calls Tryz.prog 8 #[.agg #[vn, vc]] w fun e w' => ∃ vn' vc', e = .returned (.agg #[vn', vc']) ∧ DocAt l cs vn' vc' w' ∧ Below w.heap.size w w' := by
  obtain ⟨a1, cap1, rfl⟩ := hD.nodes.nodes.len
  obtain ⟨a2, cap2, rfl⟩ := hD.ctls.len
  obtain ⟨hD1, hb1, hs1, c0, c1⟩ := doc_box (T := 25) hD
  go_enter Tryz.func8, Tryz.ntmps8
  go_wp2_with fail
  generalize World.alloc w _ = W1 at hD1 hb1 hs1 c0 c1 ⊢
  have hn := Go.heap_alloc_new W1 (.cells #[.slice none 0 0, .slice none 0 0] 25)
  have hb2 := (Below.refl W1.heap.size W1).alloc (Nat.le_refl _) (.cells #[.slice none 0 0, .slice none 0 0] 25)
  rw [hs1] at hn
  generalize World.alloc W1 _ = W2 at hn hb2 ⊢
  have hbd : Below W2.heap.size W2 W2.drew := below_draws W2 1
  have hD2 := (hD1.kept hb2).kept hbd
  have hB2 := hD.ctls.at_base.kept (bs (bs hb1 hb2) hbd)
  have d0 := cellK hbd (by have := hb2.size; omega) (cellK hb2 (by omega) c0)
  have d1 := cellK hbd (by have := hb2.size; omega) (cellK hb2 (by omega) c1)
  have hn2 : W2.drew.heap[w.heap.size + 1]? = some (.cells #[.slice none 0 0, .slice none 0 0] 25 (0, 0)) := hn
  have hb12 : Below w.heap.size w W2.drew := bs (bs hb1 hb2) hbd
  have hs2 : w.heap.size + 2 ≤ W2.drew.heap.size := by have := (Array.getElem?_eq_some_iff.1 hn2).1; omega
  clear hn hbd hb1 hb2 c0 c1 hD1 hs1
  go_region_with ((first
    | (go_at_call 28; (with_reducible refine (copied_any l _ _ hD2.nodes.sized hD2.nodes.nodes).mono ?_); rintro e w3 ⟨L3, vo, rfl, hL3, hN3, hb3⟩; obtain ⟨a3, cap3, rfl, _⟩ := own_form hN3.row; have e0 := cellK hb3 (by omega) d0; have e1 := cellK hb3 (by omega) d1; have hn3 := blk_kept hb3 hn2; have hD3 := hB2.kept hb3; have hN3s := hb3.size)
    | (go_at_call 29; (with_reducible refine (refCopied15_at cs _ _ (base := w.heap.size) (by omega) hD.sz hD3).mono ?_); rintro e w4 ⟨L, vo, rfl, hL4, hO4, hb4⟩; obtain ⟨a4, cap4, rfl, _⟩ := hO4.len; have hn4 := blk_kept hb4 hn3; obtain ⟨x0, x1, f0, f1⟩ := doc2_of hn4)))
  all_goals
    have hN4 := hN3.kept hb4
    have z := doc2_heap (.slice a3 L3.length cap3) (.slice a4 L.length cap4) hn4
    have hN9 := (hN4.set hn4 (by decide) (by decide) (by decide) 0 (.slice a3 L3.length cap3)).set (doc1_heap (.slice a3 L3.length cap3) hn4) (by decide) (by decide) (by decide) 1 (.slice a4 L.length cap4)
    have hO9 := (hO4.setT hn4 (by omega) (by decide) (by decide) 0 (.slice a3 L3.length cap3)).setT (doc1_heap (.slice a3 L3.length cap3) hn4) (by omega) (by decide) (by decide) 1 (.slice a4 L.length cap4)
    have hb9 := (bs (bs hb12 hb3) hb4).trans (doc2_below w4 (w.heap.size + 1) (.slice a3 L3.length cap3) (.slice a4 L.length cap4) (Nat.le_succ w.heap.size))
    generalize World.setCell (World.setCell _ _ _) _ _ = W9 at z hN9 hO9 hb9 ⊢
    obtain ⟨y0, y1, _, _⟩ := doc2_of z
    go_wp2_with fail
    refine bodyPost_ret (v := .agg #[.slice a3 L3.length cap3, .slice a4 L.length cap4]) (by simp [results, Tryz.results8, go_sem, y0, y1]) rfl ⟨_, _, rfl, ⟨⟨?_, hD.nodes.fits, hD.nodes.sized⟩, ?_, hD.sz⟩, hb9⟩
    · have := hN9.nodes
      rwa [hL3.out] at this
    · have := hO9.ctls
      rwa [hL4.out] at this
end Go.Proofs.YtafbghlldlconaaGreatDoor

/-
  THE LAST STEP OF A LAW'S ROW where of the world behind the call 'Below' alone is known.
-/
namespace Go.Proofs.YtafbghlldlconaaGreatDoor
set_option linter.unusedVariables false
set_option linter.unusedSimpArgs false
open Go.RowKit Go.WideShapes Go.ChangeShapes
section
variable {H : Type} {enc : TypeId × Value → H} {P : Program}
theorem post_of_below {f : Func} {s : ChangeSpec} {apart fresh handsOn again : Bool} {W W' : World} {args : Array Value} {v : Value} {ds gs : List (DataW H)} {before pa pv : List MemPlace}
    (hW : DataW.Whole enc P f.params.toList s.vars apart W args.toList ds gs before)
    (hres : ∀ (b : Nat) (sp : Nat → Bool) (hd : Bool), DataW.TrodAll enc P W' b sp hd f.resultTypes.toList (v.resultList f.resultTypes.size) (s.fn H (ds ++ gs)).results [])
    (hargs : ∀ sp : Nat → Bool, (∀ p ∈ before, sp p.block = true) → DataW.TrodAll enc P W' 0 sp true f.params.toList args.toList (s.fn H (ds ++ gs)).args pa)
    (hvars : ∀ sp : Nat → Bool, (∀ p ∈ before, sp p.block = true) → DataW.TrodVars enc P W' sp s.vars (s.fn H (ds ++ gs)).vars pv)
    (hps : before = pa ++ pv) (hb : Below W.heap.size W W')
    (hok : ∀ (j : Nat) (t : TypeId) (r : Value), f.resultTypes[j]? = some t → (v.resultList f.resultTypes.size)[j]? = some r → Value.okWide P W' .any 0 t r) :
    s.post enc P f apart fresh handsOn again W args v W' := by
  have hlt : ∀ p ∈ before, p.block < W.heap.size := fun p hp => hW.lt p hp
  have hold : ∀ p ∈ before, (fun b => decide (b < W.heap.size)) p.block = true := fun p hp => by simpa using hlt p hp
  refine ⟨ds, gs, before, [], pa, pv, hW, hres _ _ _, hargs _ hold, hvars _ hold, World.keptBut_mono (fun p hp => ⟨hp, ?_⟩) (hb.frame (· ∈ before)), fun _ => ?_⟩
  · rw [hps, List.mem_append] at hp
    exact Or.inr hp
  · obtain ⟨_, _, _, _, _, hz, hn⟩ := hW
    refine ⟨hok, _, _, ([] ++ pa) ++ pv, ⟨[] ++ pa, pv, trodAll_append (hargs _ (fun _ _ => rfl)) (hres _ _ _), hvars _ (fun _ _ => rfl), rfl, ?_, ?_⟩, ?_⟩
    · intro b off hp
      have hin : MemPlace.cell b off ∈ before := by rw [hps]; simpa using hp
      rw [hb.frozen (hlt _ hin)]
      exact hz b off hin
    · intro ha
      have := hn ha
      rw [hps] at this
      simpa using this
    · intro p hp _
      rw [hps]
      simpa using hp
end
end Go.Proofs.YtafbghlldlconaaGreatDoor

/-
  WHAT THE ARGUMENTS READ BEHIND A CALL that has kept all older blocks: what they read before, whatever their types.
-/
namespace Go.Proofs.YtafbghlldlconaaGreatDoor
set_option linter.unusedVariables false
set_option linter.unusedSimpArgs false
open Go.RowKit Go.WideShapes Go.ChangeShapes
section
variable {H : Type} {enc : TypeId × Value → H} {P : Program}
theorem same_below {W W' : World} (hb : Below W.heap.size W W') {p : MemPlace} (hp : p.block < W.heap.size) : W.sameAt W' p := by
  cases p with
  | cell b off =>
    show W'.cell? _ = W.cell? _
    have : W'.heap[b]? = W.heap[b]? := hb.block b hp
    simp only [World.cell?, this]
  | map b => exact hb.block b hp
theorem args_stay {T : TypeId → Prop} (K : Kids P T) (hz : ∀ {t e : TypeId}, T t → P.underlying t = some (.slice e) → 0 < P.cellsOf e) {W W' : World} {sp : Nat → Bool} (hb : Below W.heap.size W W') :
    ∀ {ts : List TypeId} {vs : List Value} {ds : List (DataW H)} {ps : List MemPlace}, (∀ t ∈ ts, T t) → DataW.TrodAll enc P W 0 (fun _ => true) true ts vs ds ps → (∀ p ∈ ps, p.block < W.heap.size) → (∀ p ∈ ps, sp p.block = true) → DataW.TrodAll enc P W' 0 sp true ts vs ds ps
  | [], [], [], _, _, h, _, _ => h
  | _ :: _, _ :: _, _ :: _, _, hT, ⟨p, q, ⟨n, h1⟩, h2, e⟩, hlt, hs =>
    ⟨p, q, ⟨n, DataW.trod_stays K hz (fun h => by cases h) (hT _ (List.mem_cons.2 (Or.inl rfl))) h1
        (fun x hx => same_below hb (hlt x (by rw [e]; exact List.mem_append_left _ hx))) (fun x hx => hs x (by rw [e]; exact List.mem_append_left _ hx))⟩,
      args_stay K hz hb (fun t ht => hT t (List.mem_cons.2 (Or.inr ht))) h2 (fun x hx => hlt x (by rw [e]; exact List.mem_append_right _ hx)) (fun x hx => hs x (by rw [e]; exact List.mem_append_right _ hx)), e⟩
end
end Go.Proofs.YtafbghlldlconaaGreatDoor

/-
  OPENING ARGUMENTS: helpers; what arguments of any type read behind the call.
-/
namespace Go.Proofs.YtafbghlldlconaaGreatDoor
set_option linter.unusedVariables false
set_option linter.unusedSimpArgs false
open Go.RowKit Go.ChangeShapes Go.WideShapes Go.Deep

theorem list_of {α : Type} {P : Nat → α → Prop} : ∀ n, (∀ i, i < n → ∃ x, P i x) → ∃ l : List α, l.length = n ∧ ∀ i x, l[i]? = some x → P i x
  | 0, _ => ⟨[], rfl, fun i x h => by simp at h⟩
  | n + 1, h => by
    obtain ⟨l, hl, hp⟩ := list_of n (fun i hi => h i (by omega))
    obtain ⟨x, hx⟩ := h n (by omega)
    refine ⟨l ++ [x], by simp [hl], fun i y hy => ?_⟩
    by_cases e : i < l.length
    · rw [List.getElem?_append_left e] at hy; exact hp i y hy
    · rw [List.getElem?_append_right (by omega)] at hy
      have : i - l.length = 0 := by
        have := (List.getElem?_eq_some_iff.1 hy).1
        simp at this; exact this
      rw [this] at hy
      simp at hy
      obtain rfl : i = n := by omega
      rw [← hy]; exact hx
theorem spot_none {w : World} {a : Addr} {k : Nat} {v : Value} (h : w.cell? (a.add k) = some v) (hk : k = 0) : a.spot = none ∧ a.block < w.heap.size := by
  subst hk
  have e : a.add 0 = a := by simp [Addr.add]
  rw [e] at h
  simp only [World.cell?] at h
  cases hb : w.heap[a.block]? with
  | none => rw [hb] at h; cases h
  | some o =>
    have hlt := (Array.getElem?_eq_some_iff.1 hb).1
    rw [hb] at h
    cases o with
    | cells c t f =>
      simp only at h
      cases hs : a.spot with
      | none => exact ⟨rfl, hlt⟩
      | some z => rw [hs] at h; simp at h
    | _ => simp at h

section
variable {H : Type} {enc : TypeId × Value → H} {w : World} {spare : Nat → Bool} {held : Bool}
theorem kids_all : Kids Tryz.prog (· < Tryz.prog.types.size) := kids_rows (by kernel_rfl) (by kernel_rfl)
theorem full_all : ∀ t e, t < Tryz.prog.types.size → Tryz.prog.underlying t = some (.slice e) → 0 < Tryz.prog.cellsOf e := slices_full_of Tryz.prog (by kernel_rfl)
/-- what the arguments read behind the call -/
theorem args_again {W W' : World} {ts : List TypeId} {vs : List Value} {ds : List (DataW H)} {ps : List MemPlace} (hts : (ts.all fun t => decide (t < Tryz.prog.types.size)) = true) (hb : Below W.heap.size W W')
    (h : DataW.TrodAll enc Tryz.prog W 0 (fun _ => true) true ts vs ds ps) (hlt : ∀ p ∈ ps, p.block < W.heap.size) (sp : Nat → Bool) (hs : ∀ p ∈ ps, sp p.block = true) : DataW.TrodAll enc Tryz.prog W' 0 sp true ts vs ds ps :=
  args_stay kids_all (fun ht hu => full_all _ _ ht hu) hb (fun t ht => of_decide_eq_true (List.all_eq_true.1 hts t ht)) h hlt hs
end
end Go.Proofs.YtafbghlldlconaaGreatDoor

/-
  AN ARGUMENT THAT IS A SLICE OF ENTRIES, opened to its entries; what arguments of any type read behind the call.
-/
namespace Go.Proofs.YtafbghlldlconaaGreatDoor
set_option linter.unusedVariables false
set_option linter.unusedSimpArgs false
open Go.RowKit Go.ChangeShapes Go.WideShapes Go.Deep

section
variable {H : Type} {enc : TypeId × Value → H} {P : Program} {w : World} {base : Nat} {spare : Nat → Bool} {held : Bool}
/-- a slice of structs of one-cell fields -/
theorem open_slice_fields {t e : TypeId} {fs : Array Field} {fuel : Nat} {cs : List Value} {x : DataW H × List MemPlace} (ht : P.underlying t = some (.slice e)) (he : P.underlying e = some (.struct fs))
    (hone : oneCellFields P fs = true) (hC : P.cellsOf e = fs.size) (h : DataW.trod enc P w base spare held fuel t cs = some x) :
    (cs = [.slice none 0 0] ∧ x = (.nil, [])) ∨
    ∃ (a : Addr) (len cap m : Nat), cs = [.slice (some a) len cap] ∧ len ≤ cap ∧ cap ≤ maxLen ∧ len ≤ m ∧
      ∀ i, i < m → ∃ n : Nat, ∀ (j : Nat) (f : Field), fs[j]? = some f → ∃ (v : Value) (y : DataW H × List MemPlace), w.cell? (a.add (i * fs.size + j)) = some v ∧ DataW.trod enc P w base spare held n f.type [v] = some y := by
  rcases open_slice ht h with h0 | ⟨a, len, cap, m, n, D, Pl, hcs, hb, hl, hm, hmm, hx, hi⟩
  · exact .inl h0
  · refine .inr ⟨a, len, cap, m, hcs, hl, hm, by rw [hmm]; split <;> omega, fun i him => ?_⟩
    obtain ⟨cs', hc, ht'⟩ := hi i him
    rw [hC] at hc
    obtain ⟨ys, n', hn', hy, hlen, hyl, hf⟩ := DataW.trod_struct he ht'
    obtain ⟨_, hcl, hat⟩ := World.cells?_some hc
    refine ⟨n', fun j f hj => ?_⟩
    obtain ⟨ho, hk⟩ := hone_of hone j f hj
    have hjl : j < fs.size := (Array.getElem?_eq_some_iff.1 hj).1
    have hcell := hat j hjl
    have hv : cs'[j]? = some (cs'[j]'(by omega)) := List.getElem?_eq_getElem (by omega)
    have h1 := hf j f hj
    rw [ho, hk] at h1
    have hone' : (cs'.drop j).take 1 = [cs'[j]'(by omega)] := by
      rw [List.drop_eq_getElem_cons (by omega)]
      rfl
    rw [hone'] at h1
    have hys : ys[j]? = some (ys[j]'(by omega)) := List.getElem?_eq_getElem (by omega)
    exact ⟨_, _, by rw [← Go.Deep.add_add, hcell, hv], h1.trans hys⟩
end
section
variable {H : Type} {enc : TypeId × Value → H} {w : World} {spare : Nat → Bool} {held : Bool}
set_option maxRecDepth 100000 in
/-- OPENED: a slice of entries -/
theorem open_ents {r : Reach} {b0 base : Nat} {v : Value} {d : DataW H} {p : List MemPlace} (hv : Value.okWide Tryz.prog w r b0 29 v) (h : DataW.Trod enc Tryz.prog w base spare held 29 v d p) : ∃ es, Ents es v w := by
  obtain ⟨a, len, cap, rfl⟩ := okWide_slice Tryz.underlying29 hv
  obtain ⟨fuel, hf⟩ := h
  rcases open_slice_fields Tryz.underlying29 Tryz.underlying73 (by kernel_rfl) (by kernel_rfl) hf with ⟨hc, _⟩ | ⟨a', len', cap', m, hc, hl, hm, hlm, hi⟩
  · have hc' : Value.slice a len cap = .slice none 0 0 := (List.cons.inj hc).1
    exact ⟨[], .inl ⟨rfl, none, 0, hc', fun _ => rfl⟩⟩
  · have hc' : Value.slice a len cap = .slice (some a') len' cap' := (List.cons.inj hc).1
    have hone : ∀ i, i < len' → ∃ e : Ent, ∀ j u, (entCells e)[j]? = some u → w.cell? (a'.add (i * 5 + j)) = some u := by
      intro i hil
      obtain ⟨n, hf⟩ := hi i (by omega)
      obtain ⟨v0, y0, c0, t0⟩ := hf 0 _ rfl
      obtain ⟨v1, y1, c1, t1⟩ := hf 1 _ rfl
      obtain ⟨v2, y2, c2, t2⟩ := hf 2 _ rfl
      obtain ⟨v3, y3, c3, t3⟩ := hf 3 _ rfl
      obtain ⟨v4, y4, c4, t4⟩ := hf 4 _ rfl
      obtain ⟨s0, e0, _⟩ := DataW.trod_string Tryz.underlying9 t0
      obtain ⟨s1, e1, _⟩ := DataW.trod_string Tryz.underlying9 t1
      obtain ⟨s2, e2, _⟩ := DataW.trod_bool Tryz.underlying4 t2
      obtain ⟨s3, e3, _⟩ := DataW.trod_string Tryz.underlying9 t3
      obtain ⟨s4, e4, _⟩ := DataW.trod_string Tryz.underlying9 t4
      obtain rfl := (List.cons.inj e0).1
      obtain rfl := (List.cons.inj e1).1
      obtain rfl := (List.cons.inj e2).1
      obtain rfl := (List.cons.inj e3).1
      obtain rfl := (List.cons.inj e4).1
      refine ⟨⟨s0, s1, s2, s3, s4⟩, fun j u hu => ?_⟩
      match j, hu with
      | 0, hu => cases hu; exact c0
      | 1, hu => cases hu; exact c1
      | 2, hu => cases hu; exact c2
      | 3, hu => cases hu; exact c3
      | 4, hu => cases hu; exact c4
    obtain ⟨es, hlen, hes⟩ := list_of len' hone
    cases hc'
    by_cases h0 : len = 0
    · exact ⟨[], .inl ⟨rfl, _, cap, by rw [h0], fun e => by cases e⟩⟩
    · have hn : 0 < es.length := by omega
      have h00 := hes 0 es[0] (List.getElem?_eq_getElem hn) 0 _ rfl
      obtain ⟨hsp, hb⟩ := spot_none h00 (by rfl)
      obtain ⟨b, o, sp⟩ := a'
      simp only at hsp hb
      subst hsp
      refine ⟨es, .inr ⟨b, o, cap, by rw [hlen], hb, fun j e he i u hu => ?_⟩⟩
      have := hes j e he i u hu
      rw [addr_add] at this
      rw [Nat.add_assoc]
      exact this
end
end Go.Proofs.YtafbghlldlconaaGreatDoor

/-
  AN ARGUMENT THAT IS A SLICE OF TEXTS, opened; append(x, texts..).
-/
namespace Go.Proofs.YtafbghlldlconaaGreatDoor
set_option linter.unusedVariables false
set_option linter.unusedSimpArgs false
open Go.RowKit Go.ChangeShapes Go.WideShapes Go.Deep

/-- how long the datum of the texts is -/
def TxtShape {H : Type} (X : List (List UInt8)) (d : DataW H) : Prop := X = [] ∨ ∃ els sp, d = .slice els sp ∧ els.length = X.length
theorem txts_reach {H : Type} {ts : List TypeId} {ds : List (DataW H)} (hsz : (DataW.weightsEach Tryz.prog ts ds).all (· ≤ reachBytes) = true) {j : Nat} {X : List (List UInt8)} {d : DataW H} (ht : ts[j]? = some 26) (hd : ds[j]? = some d)
    (hs : TxtShape X d) : X.length * 16 ≤ 140737488355328 := by
  rcases hs with rfl | ⟨els, sp, rfl, he⟩
  · simp
  · have h := sized_slice hsz ht hd Tryz.underlying26
    rw [show Tryz.prog.bytesOf 9 = 16 by kernel_rfl] at h
    unfold reachBytes at h
    omega
section
variable {H : Type} {enc : TypeId × Value → H} {w : World} {spare : Nat → Bool} {held : Bool}
set_option maxRecDepth 100000 in
/-- OPENED: a slice of texts -/
theorem open_txts {r : Reach} {b0 base : Nat} {v : Value} {d : DataW H} {p : List MemPlace} (hv : Value.okWide Tryz.prog w r b0 26 v) (h : DataW.Trod enc Tryz.prog w base spare held 26 v d p) : ∃ X, TxtShape X d ∧ Txts X v w := by
  obtain ⟨a, len, cap, rfl⟩ := okWide_slice Tryz.underlying26 hv
  obtain ⟨fuel, hf⟩ := h
  rcases open_strs Tryz.underlying26 Tryz.underlying9 (by kernel_rfl) hf with ⟨hc, _⟩ | ⟨a', len', cap', m, Sx, hc, hb, hl, hm, hlm, hx, hi⟩
  · have hc' : Value.slice a len cap = .slice none 0 0 := (List.cons.inj hc).1
    exact ⟨[], .inl rfl, .inl ⟨rfl, none, 0, hc', fun _ => rfl⟩⟩
  · have hc' : Value.slice a len cap = .slice (some a') len' cap' := (List.cons.inj hc).1
    have hlm' : len' ≤ m := by rw [hlm]; split <;> omega
    obtain ⟨X, hlen, hes⟩ := list_of (α := List UInt8) (P := fun i x => w.cell? (a'.add i) = some (txt x)) len' (fun i hi' => ⟨(Sx i).data.toList, (hi i (by omega)).1⟩)
    cases hc'
    by_cases h0 : len = 0
    · exact ⟨[], .inl rfl, .inl ⟨rfl, _, cap, by rw [h0], fun e => by cases e⟩⟩
    · have hn : 0 < X.length := by omega
      have h00 := hes 0 X[0] (List.getElem?_eq_getElem hn)
      obtain ⟨hsp, hbl⟩ := spot_none h00 rfl
      obtain ⟨b, o, sp⟩ := a'
      simp only at hsp hbl
      subst hsp
      refine ⟨X, .inr ⟨_, _, (Prod.mk.inj hx).1, by rw [List.length_map, List.length_range]; omega⟩, .inr ⟨b, o, cap, by rw [hlen], hbl, by omega, fun j x hj => ?_⟩⟩
      have := hes j x hj
      rw [addr_add] at this
      exact this
end
theorem OT.lit (w : World) : OT w.heap.size [] (.slice (some ⟨w.heap.size, 0, none⟩) 0 0) (w.alloc (.cells #[] 9)) := World.ownsRow_made w #[] 0 (Nat.le_refl _) (Nat.zero_le _) rfl
/-- 'append(out, l...)' onto a row just made -/
theorem wpList_append_txts {W : World} {ops : Array Oper} {rest : List Oper} {o : Oper} {a : Act} {Q : Exit → Act → World → Prop} (hgd : o.guard = none) (s x : Operand)
    (ho : o.op = .call { callee := .builtin .append, args := #[s, x], argTypes := #[26, 26] })
    {base : Nat} {X : List (List UInt8)} {v u : Value} (hs : a.eval s = v) (hx : a.eval x = u) (hE : Txts X u W)
    (hown : OT base [] v W) (hlen : X.length * 16 ≤ 140737488355328) (hbase : base ≤ W.heap.size) (hn : v ≠ .slice none 0 0)
    (h : ∀ v' w', OT base X v' w' → Below base W w' → wpList Tryz.prog ops Q rest (a.put o.dst v') w') : wpList Tryz.prog ops Q (o :: rest) a W := by
  obtain ⟨i0, hi, hz0, hz1, hz2⟩ := info_parts info_str
  have key : ∀ (ad : Addr) (c : Nat) (_hu : u = .slice (some ad) X.length c) (_hnews : ∀ j y, (X.map txt)[j]? = some y → W.cell? (ad.add j) = some y), wpList Tryz.prog ops Q (o :: rest) a W := by
    intro ad c hu hnews
    subst hu
    refine wpList_append_own _ hgd s x 26 ho base 9 i0 _ 1 16 Tryz.underlying26 hi hz0 hz1 hz2 rfl (by decide) v 0 [] hs hown ad X.length c (X.map txt) hx (by simp) hnews ?_ ?_ ?_ hbase ?_
    · intro u hu
      obtain ⟨y, _, rfl⟩ := List.mem_map.1 hu
      rfl
    · unfold maxLen; omega
    · omega
    · intro v' w1 h1 h2 _
      refine h v' w1 ?_ ((Below.refl base W).grown h2 hbase (fun k hk => (World.ownsRow.lt hown k hk).1))
      unfold OT OV
      rw [List.length_map]
      rw [Nat.zero_add, List.nil_append] at h1
      exact h1
  rcases hE with ⟨rfl, ad, c, rfl, hcz⟩ | ⟨b, off, c, rfl, hb, hc1, hc⟩
  · cases ad with
    | some ad => exact key ad c rfl (fun j y hj => by simp at hj)
    | none =>
      obtain ⟨h1, ⟨rfl, _⟩ | ⟨g, cap, cur, rfl, h2, h3, h4, h5⟩⟩ := hown
      · exact absurd rfl hn
      · have hr := Go.run_append_room_src (P := Tryz.prog) W 26 26 o.type 9 i0 Tryz.underlying26 hi g 0 0 cap (.slice none 0 c) 0 [] (Go.Src.ofNil W Tryz.underlying26 c) (by omega) (fun j hj => by simp at hj) (fun j hj => by simp at hj)
        refine wpList_plain hgd fun K hK => ?_
        unfold Oper.wp execOp
        simp only [ho, resolve, invoke, builtin, Sem.run_bind, Sem.run_pure, Result.andThen_ok, List.map_toArray, List.map_cons, List.map_nil, List.length_nil] at hs hx ⊢
        simp only [hs, hx, hr]
        refine hK _ _ (h _ _ ?_ ?_)
        · exact ⟨h1, .inr ⟨g, cap, cur, rfl, h2, h3, h4, h5⟩⟩
        · exact Below.refl _ _
  · refine key ⟨b, off, none⟩ c rfl (fun j y hj => ?_)
    rw [List.getElem?_map] at hj
    cases hq : X[j]? with
    | none => rw [hq] at hj; cases hj
    | some z =>
      rw [hq] at hj
      cases hj
      rw [addr_add]
      exact hc j z hq
end Go.Proofs.YtafbghlldlconaaGreatDoor
