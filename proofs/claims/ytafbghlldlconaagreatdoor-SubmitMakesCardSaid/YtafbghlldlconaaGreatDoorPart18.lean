import Derived.Test.YtafbghlldlconaaGreatDoorPart16
import Derived.Test.YtafbghlldlconaaGreatDoorPart17
import Derived.Deep.AppendSrc
import Derived.Deep.RegionLawGrows
import Derived.Deep.RegionWith
import Derived.Test.YtafbghlldlconaaGreatDoorPart4
/-
  The law SubmitMakes: the walk.
-/
namespace Go.Proofs.YtafbghlldlconaaGreatDoor
set_option linter.unusedVariables false
set_option linter.unusedSimpArgs false
open Go.RowKit PT

theorem long24_no {es : List Ent} (h : longB es = false) : es.length ≤ 60 ∧ ∀ x ∈ es, Brief x := by
  unfold longB at h
  rw [Bool.or_eq_false_iff] at h
  refine ⟨by have := of_decide_eq_false h.1; omega, fun x hx => ?_⟩
  have hx' := List.any_eq_false.1 h.2 x hx
  unfold longE at hx'
  simp only [Bool.or_eq_true, decide_eq_true_eq, not_or] at hx'
  exact ⟨by omega, by omega, by omega, by omega⟩
theorem entOne {es : List Ent} : ∀ u ∈ es.flatMap entCells, u.oneCell' = true := by
  intro u hu
  obtain ⟨e, _, hu⟩ := List.mem_flatMap.1 hu
  simp only [entCells, List.mem_cons, List.not_mem_nil, or_false] at hu
  rcases hu with rfl | rfl | rfl | rfl | rfl <;> rfl
theorem txtOne {X : List (List UInt8)} : ∀ u ∈ X.map txt, u.oneCell' = true := by
  intro u hu
  obtain ⟨y, _, rfl⟩ := List.mem_map.1 hu
  rfl
theorem txts_none {X : List (List UInt8)} {w : World} {ao : Option Addr} {m cap : Nat} (h : Txts X (.slice ao m cap) w) : ao = none → m = 0 ∧ cap = 0 := by
  rintro rfl
  rcases h with ⟨rfl, a, cap', hv, hc⟩ | ⟨b, o, cap', hv, _⟩
  · cases hv; exact ⟨rfl, hc rfl⟩
  · cases hv
theorem txts_src {X : List (List UInt8)} {w : World} {ad : Addr} {m cap : Nat} (h : Txts X (.slice (some ad) m cap) w) : ∀ j u, (X.map txt)[j]? = some u → w.cell? (ad.add j) = some u := by
  rcases h with ⟨rfl, _⟩ | ⟨b, o, cap', hv, _, _, hc⟩
  · intro j u hu; simp at hu
  · cases hv
    intro j u hu
    rw [List.getElem?_map] at hu
    cases hq : X[j]? with
    | none => rw [hq] at hu; cases hu
    | some z =>
      rw [hq] at hu
      cases hu
      rw [addr_add]
      exact hc j z hq
theorem ot_txts {X : List (List UInt8)} {B : Nat} {v : Value} {w : World} (h : w.ownsRow B 9 1 v X.length (X.map txt)) : Txts X v w := by
  have hh : OT B X v w := by
    unfold OT OV
    rw [List.length_map]
    exact h
  exact hh.txts
theorem name_belowM {B : Nat} {a w : World} (_ : Below B a w) : ∃ W, W = w := ⟨w, rfl⟩
/-- append(s, x...) where s is a row of no room: what it holds is new, or it is s itself -/
theorem wp_append_fresh {W : World} {o : Oper} {a : Act} {K : Act → World → Prop} {Q : Exit → Act → World → Prop} (hgd : o.guard = none) (s x : Operand) (S T : TypeId) {z : Value} {size bytes : Nat}
    (ho : o.op = .call { callee := .builtin .append, args := #[s, x], argTypes := #[S, S] }) (hS : Tryz.prog.underlying S = some (.slice T))
    (hinfo : (Tryz.prog.info? T).map (fun i => (i.zero, i.size, i.bytes)) = some (some z, size, bytes)) (hz : z.cells.size = size) (hsz : 0 < size)
    {g : Nat} (hs : a.eval s = .slice (some ⟨g, 0, none⟩) 0 0) {ao : Option Addr} {m cap : Nat} {news : List Value} (hx : a.eval x = .slice ao m cap) (hao : ao = none → m = 0 ∧ cap = 0) (hl : news.length = m * size)
    (hnews : ∀ ad, ao = some ad → ∀ j u, news[j]? = some u → W.cell? (ad.add j) = some u) (hu : ∀ u ∈ news, u.oneCell' = true) (hlen : m ≤ maxLen) (hby : m * bytes ≤ 140737488355328)
    (h0 : m = 0 → K (a.put o.dst (.slice (some ⟨g, 0, none⟩) 0 0)) W)
    (h1 : ∀ v' w', w'.ownsRow W.heap.size T size v' m news → Below W.heap.size W w' → K (a.put o.dst v') w') : o.wp Tryz.prog a W K Q := by
  obtain ⟨i0, hi, hz0, hz1, hz2⟩ := info_parts hinfo
  by_cases hm : m = 0
  · subst hm
    have hSrc : Go.Src Tryz.prog i0.size S (.slice ao 0 cap) 0 [] W := by
      cases ao with
      | none => exact Go.Src.ofNil W hS cap
      | some b => exact Go.Src.ofSlice W hS b 0 cap [] (by simp) (by simp) (by simp)
    have hr := Go.run_append_room_src (P := Tryz.prog) W S S o.type T i0 hS hi g 0 0 0 (.slice ao 0 cap) 0 [] hSrc (by omega) (by simp) (by simp)
    unfold Oper.wp execOp
    simp only [ho, resolve, invoke, builtin, Sem.run_bind, Sem.run_pure, Result.andThen_ok, List.map_toArray, List.map_cons, List.map_nil, List.length_nil] at hs hx ⊢
    simp only [hs, hx, hr]
    exact h0 rfl
  · cases ao with
    | none => exact absurd (hao rfl).1 hm
    | some ad =>
      have hst := step_append_grows (P := Tryz.prog) (ops := #[]) (E := False) (w := W) (K := K) (Q := Q) hgd s x S ho T i0 z size bytes hS hi hz0 hz1 hz2 hz hsz (some ⟨g, 0, none⟩) 0 0 [] hs (fun e => by cases e) (by simp) (fun _ _ j u hj => by simp at hj) ad m cap news hx hl (hnews ad rfl) hu (by omega) (by omega) (by rw [Nat.zero_add]; exact hby) (fun v' w' hr hg => h1 v' w' (by rw [Nat.zero_add, List.nil_append] at hr; exact hr) ((Below.refl W.heap.size W).grown hg (Nat.le_refl _) (fun k hk => by cases hk)))
      rwa [if_pos (by simp [Region.wanted, hgd])] at hst
set_option maxHeartbeats 4000000 in
set_option maxRecDepth 100000 in
theorem submitMakes_walk (l : List Nd) (cs : List Ct) (vn vc : Value) (f s : Int) (X : List (List UInt8)) (vx : Value) (es : List Ent) (u : Value) (w : World) (hD : DocAt l cs vn vc w) (hV : Txts X vx w) (hU : Ents es u w) (hT : Tables w) :
    Calls Tryz.prog 3 #[.agg #[vn, vc], .agg #[.int .i64 f, .int .i64 s, vx], u] w fun e w' => e = .returned (.bool true) ∧ Below w.heap.size w w' := by
  obtain ⟨a1, cap1, rfl⟩ := hD.nodes.nodes.len
  obtain ⟨a2, cap2, rfl⟩ := hD.ctls.len
  obtain ⟨a3, cap3, rfl⟩ := hV.len
  obtain ⟨a4, cap4, rfl⟩ := hU.len
  obtain ⟨hD1, hb1, hs1, c0, c1⟩ := doc_box (T := 25) hD
  obtain ⟨W1, hW1⟩ : ∃ W1, W1 = w.alloc (.cells #[.slice a1 l.length cap1, .slice a2 cs.length cap2] 25) := ⟨_, rfl⟩
  rw [← hW1] at hD1 hb1 hs1 c0 c1
  have hbA := one_allocV (w := W1) (.cells #[.int .i64 f, .int .i64 s, .slice a3 X.length cap3] 28)
  have hn0 := Go.heap_alloc_new W1 (.cells #[.int .i64 f, .int .i64 s, .slice a3 X.length cap3] 28)
  have hs2 : (W1.alloc (.cells #[.int .i64 f, .int .i64 s, .slice a3 X.length cap3] 28)).heap.size = W1.heap.size + 1 := by simp
  obtain ⟨W2, hW2⟩ : ∃ W2, W2 = W1.alloc (.cells #[.int .i64 f, .int .i64 s, .slice a3 X.length cap3] 28) := ⟨_, rfl⟩
  rw [← hW2] at hbA hn0 hs2
  rw [hs1] at hn0 hs2
  have d0 := cellK hbA (by omega) c0
  have d1 := cellK hbA (by omega) c1
  have hD2 := hD1.kept hbA
  have hb2 := bs hb1 hbA
  have HW1 := Lib.hid hW1
  have HW2 := Lib.hid hW2
  clear hW1 hW2 hbA hb1 c0 c1 hD1 hs1
  have hlong := long24_any es (.slice a4 es.length cap4) X (.slice a3 X.length cap3)
  cases hlg : longB es || longX X
  case true =>
    have HLG := Lib.hid hlg
    clear hlg
    go_enter Tryz.func3, Tryz.ntmps3
    go_wp2_with fail
    rw [← HW1.out, ← HW2.out]
    refine (wakes24_any _).mono ?_
    rintro e w3 ⟨rfl, hb3⟩
    obtain ⟨x0, x1, x2, _, _, _⟩ := three_of (blk_kept hb3 hn0)
    go_wp2_with fail
    refine (hlong _ (hU.kept (bs hb2 hb3)) (hV.kept (bs hb2 hb3))).mono ?_
    rintro e w4 ⟨rfl, rfl⟩
    rw [HLG.out]
    go_wp2_with fail
    go_ret
    exact ⟨rfl, bs hb2 hb3⟩
  obtain ⟨hlb, hlx⟩ : longB es = false ∧ longX X = false := by
    cases h : longB es
    · rw [h] at hlg; exact ⟨rfl, hlg⟩
    · rw [h] at hlg; cases hlg
  obtain ⟨h60, hS⟩ := long24_no hlb
  obtain ⟨h20, h500⟩ := longX_no hlx
  have HLG := Lib.hid hlg
  obtain ⟨⟨⟨m, a, t, b, y⟩, n⟩, hpp⟩ : ∃ pp, planP l cs f s es X = pp := ⟨_, rfl⟩
  have HPP := Lib.hid hpp
  have hX8 := Lib.hid (fun (x : List UInt8) (hx : x ∈ X.take 8) => show x.length ≤ 1000000 from Nat.le_trans (h500 x (List.mem_of_mem_take hx)) (by omega))
  clear hlg hlb hlx hpp h500
  go_enter Tryz.func3, Tryz.ntmps3
  go_wp2_with fail
  rw [← HW1.out, ← HW2.out]
  refine (wakes24_any _).mono ?_
  rintro e w3 ⟨rfl, hb3⟩
  have hn3 := blk_kept hb3 hn0
  obtain ⟨x0, x1, x2, x3, x4, x5⟩ := three_of hn3
  have hb03 := bs hb2 hb3
  go_wp2_with fail
  refine (hlong _ (hU.kept hb03) (hV.kept hb03)).mono ?_
  rintro e w4 ⟨rfl, rfl⟩
  rw [HLG.out]
  have i0 := cellK hb3 (by omega) d0
  have i1 := cellK hb3 (by omega) d1
  have hD3 := hD2.kept hb3
  have hU3 := hU.kept hb03
  have hV3 := hV.kept hb03
  have hT3 := hT.kept hb03
  have hg3 := hb3.size
  have hlt3 : w.heap.size < w3.heap.size := by omega
  have hlt3' : w.heap.size + 1 < w3.heap.size := by omega
  clear hlong hD2 hD hU hV hT hn0 d0 d1 hb2 hb3 hn3 hs2 hg3
  go_upto_region 5 with fail
  go_cut [7, 8] (fun s7 s8 wx => ∃ p : Nat, s7 = .pointer (some ⟨p, 0, none⟩) ∧ s8 = .int .i64 n ∧ wx.heap[p]? = some (.cells #[.string m, .string a, .string t, .string b, .string y] 33 (0, 0)) ∧ Below w3.heap.size w3 wx)
  case first =>
    have hbd : Below w3.heap.size w3 w3.drew := below_draws w3 1
    have hst : ∀ W W' : World, Below W.heap.size W W' → ∀ j v, (([fun v _ => v = .agg #[.slice a1 l.length cap1, .slice a2 cs.length cap2], fun v W => ∃ vn' vc', v = .agg #[vn', vc'] ∧ DocAt l cs vn' vc' W, fun v _ => v = .pointer (some ⟨w.heap.size + 1, 0, none⟩), fun v _ => v = .int .i64 f, fun v _ => v = .pointer (some ⟨w.heap.size + 1, 1, none⟩), fun v _ => v = .int .i64 s, fun v _ => ∃ g : Nat, v = .slice (some ⟨g, 0, none⟩) 0 0, fun v _ => v = .slice a4 es.length cap4, fun v W => Ents es v W, fun v _ => ∃ g : Nat, v = .slice (some ⟨g, 0, none⟩) 0 0, fun v _ => v = .pointer (some ⟨w.heap.size + 1, 2, none⟩), fun v _ => v = .slice a3 X.length cap3, fun v W => Txts X v W, fun v _ => v = .tuple #[.agg #[.string m, .string a, .string t, .string b, .string y], .int .i64 n], fun v _ => v = .tuple #[.agg #[.string m, .string a, .string t, .string b, .string y], .int .i64 n], fun v _ => v = .agg #[.string m, .string a, .string t, .string b, .string y], fun v _ => v = .int .i64 n, fun v W => ∃ p, v = .pointer (some ⟨p, 0, none⟩) ∧ w3.heap.size ≤ p ∧ ∃ c0 c1 c2 c3 c4, W.heap[p]? = some (.cells #[c0, c1, c2, c3, c4] 33 (0, 0)), fun _ _ => True, fun v _ => v = .int .i64 n] : List (Value → World → Prop)).getD j fun _ _ => True) v W → (([fun v _ => v = .agg #[.slice a1 l.length cap1, .slice a2 cs.length cap2], fun v W => ∃ vn' vc', v = .agg #[vn', vc'] ∧ DocAt l cs vn' vc' W, fun v _ => v = .pointer (some ⟨w.heap.size + 1, 0, none⟩), fun v _ => v = .int .i64 f, fun v _ => v = .pointer (some ⟨w.heap.size + 1, 1, none⟩), fun v _ => v = .int .i64 s, fun v _ => ∃ g : Nat, v = .slice (some ⟨g, 0, none⟩) 0 0, fun v _ => v = .slice a4 es.length cap4, fun v W => Ents es v W, fun v _ => ∃ g : Nat, v = .slice (some ⟨g, 0, none⟩) 0 0, fun v _ => v = .pointer (some ⟨w.heap.size + 1, 2, none⟩), fun v _ => v = .slice a3 X.length cap3, fun v W => Txts X v W, fun v _ => v = .tuple #[.agg #[.string m, .string a, .string t, .string b, .string y], .int .i64 n], fun v _ => v = .tuple #[.agg #[.string m, .string a, .string t, .string b, .string y], .int .i64 n], fun v _ => v = .agg #[.string m, .string a, .string t, .string b, .string y], fun v _ => v = .int .i64 n, fun v W => ∃ p, v = .pointer (some ⟨p, 0, none⟩) ∧ w3.heap.size ≤ p ∧ ∃ c0 c1 c2 c3 c4, W.heap[p]? = some (.cells #[c0, c1, c2, c3, c4] 33 (0, 0)), fun _ _ => True, fun v _ => v = .int .i64 n] : List (Value → World → Prop)).getD j fun _ _ => True) v W' := fun W W' hb j v h => match j, h with
      | 0, h => h
      | 1, ⟨x1, x2, h1, h2⟩ => ⟨x1, x2, h1, h2.kept hb⟩
      | 2, h => h
      | 3, h => h
      | 4, h => h
      | 5, h => h
      | 6, h => h
      | 7, h => h
      | 8, h => Ents.kept (w := W) h hb
      | 9, h => h
      | 10, h => h
      | 11, h => h
      | 12, h => Txts.kept (w := W) h hb
      | 13, h => h
      | 14, h => h
      | 15, h => h
      | 16, h => h
      | 17, ⟨p, h1, h2, c0, c1, c2, c3, c4, h3⟩ => ⟨p, h1, h2, c0, c1, c2, c3, c4, blk_kept hb h3⟩
      | 18, h => h
      | 19, h => h
      | _ + 20, _ => trivial
    refine wp_region_par1 [18, 19] (fun W => Below w3.heap.size w3 W) [fun v _ => v = .agg #[.slice a1 l.length cap1, .slice a2 cs.length cap2], fun v W => ∃ vn' vc', v = .agg #[vn', vc'] ∧ DocAt l cs vn' vc' W, fun v _ => v = .pointer (some ⟨w.heap.size + 1, 0, none⟩), fun v _ => v = .int .i64 f, fun v _ => v = .pointer (some ⟨w.heap.size + 1, 1, none⟩), fun v _ => v = .int .i64 s, fun v _ => ∃ g : Nat, v = .slice (some ⟨g, 0, none⟩) 0 0, fun v _ => v = .slice a4 es.length cap4, fun v W => Ents es v W, fun v _ => ∃ g : Nat, v = .slice (some ⟨g, 0, none⟩) 0 0, fun v _ => v = .pointer (some ⟨w.heap.size + 1, 2, none⟩), fun v _ => v = .slice a3 X.length cap3, fun v W => Txts X v W, fun v _ => v = .tuple #[.agg #[.string m, .string a, .string t, .string b, .string y], .int .i64 n], fun v _ => v = .tuple #[.agg #[.string m, .string a, .string t, .string b, .string y], .int .i64 n], fun v _ => v = .agg #[.string m, .string a, .string t, .string b, .string y], fun v _ => v = .int .i64 n, fun v W => ∃ p, v = .pointer (some ⟨p, 0, none⟩) ∧ w3.heap.size ≤ p ∧ ∃ c0 c1 c2 c3 c4, W.heap[p]? = some (.cells #[c0, c1, c2, c3, c4] 33 (0, 0)), fun _ _ => True, fun v _ => v = .int .i64 n] 18 17 (fun v W => ∃ p, v = .pointer (some ⟨p, 0, none⟩) ∧ w3.heap.size ≤ p ∧ W.heap[p]? = some (.cells #[.string m, .string a, .string t, .string b, .string y] 33 (0, 0))) (by kernel_rfl) rfl (by kernel_rfl) (by kernel_rfl) (by decide) (by kernel_rfl) (by decide) hbd ?_ ?_
    · refine ⟨fun A W hF hC hd K0 hK => ?_, fun A W hF hC hd K0 hK => ?_, fun A W hF hC hd K0 hK => ?_, fun A W hF hC hd K0 hK => ?_, fun A W hF hC hd K0 hK => ?_, fun A W hF hC hd K0 hK => ?_, fun A W hF hC hd K0 hK => ?_, fun A W hF hC hd K0 hK => ?_, fun A W hF hC hd K0 hK => ?_, fun A W hF hC hd K0 hK => ?_, fun A W hF hC hd K0 hK => ?_, fun A W hF hC hd K0 hK => ?_, fun A W hF hC hd K0 hK => ?_, fun A W hF hC hd K0 hK => ?_, fun A W hF hC hd K0 hK => ?_, fun A W hF hC hd K0 hK => ?_, fun A W hF hC hd K0 hK => ?_, fun A W hF hC hd K0 hK => ?_, fun A W hF hC hd K0 hK => ?_, fun A W hF hC hd K0 hK => ?_, trivial⟩
      · have s3 : A.tmps.getD 3 undef = .pointer (some ⟨w.heap.size, 0, none⟩) := hF.at 3 (by kernel_rfl)
        have hbC := hC
        have q0 := cellK hbC hlt3 i0
        have q1 := cellK hbC hlt3 i1
        go_simp
        exact hK _ _ hC (fun _ => rfl) (fun h => absurd h (by decide)) (.inl rfl)
      · have s18 : A.tmps.getD 18 undef = .agg #[.slice a1 l.length cap1, .slice a2 cs.length cap2] := parR_of 0 (by decide) rfl (hd 0 (by kernel_rfl))
        go_simp
        refine (lawCopied24_any l cs _ _ _ (hD3.kept hC)).mono ?_
        rintro e w5 ⟨vn5, vc5, rfl, hO5, hb5⟩
        exact hK _ _ (bs hC hb5) (fun _ => ⟨vn5, vc5, rfl, hO5⟩) (fun h => absurd h (by decide)) (.inr (par_keep (hst _ _ hb5) (fun v ⟨p, h1, h2, h3⟩ => ⟨p, h1, h2, blk_kept hb5 h3⟩)))
      · have s4 : A.tmps.getD 4 undef = .pointer (some ⟨w.heap.size + 1, 0, none⟩) := hF.at 4 (by kernel_rfl)
        go_simp
        exact hK _ _ hC (fun _ => rfl) (fun h => absurd h (by decide)) (.inl rfl)
      · have s20 : A.tmps.getD 20 undef = .pointer (some ⟨w.heap.size + 1, 0, none⟩) := parR_of 2 (by decide) rfl (hd 2 (by kernel_rfl))
        have hbC := hC
        have q0 := cellK hbC hlt3' x0
        have q1 := cellK hbC hlt3' x1
        have q2 := cellK hbC hlt3' x2
        go_simp
        exact hK _ _ hC (fun _ => rfl) (fun h => absurd h (by decide)) (.inl rfl)
      · have s4 : A.tmps.getD 4 undef = .pointer (some ⟨w.heap.size + 1, 0, none⟩) := hF.at 4 (by kernel_rfl)
        go_simp
        exact hK _ _ hC (fun _ => rfl) (fun h => absurd h (by decide)) (.inl rfl)
      · have s22 : A.tmps.getD 22 undef = .pointer (some ⟨w.heap.size + 1, 1, none⟩) := parR_of 4 (by decide) rfl (hd 4 (by kernel_rfl))
        have hbC := hC
        have q0 := cellK hbC hlt3' x0
        have q1 := cellK hbC hlt3' x1
        have q2 := cellK hbC hlt3' x2
        go_simp
        exact hK _ _ hC (fun _ => rfl) (fun h => absurd h (by decide)) (.inl rfl)
      · go_simp
        exact hK _ _ (gr_alloc hC) (fun _ => ⟨W.heap.size, rfl⟩) (fun h => absurd h (by decide)) (.inr (par_keep (hst _ _ (one_allocV _)) (fun v ⟨p, h1, h2, h3⟩ => ⟨p, h1, h2, blk_kept (one_allocV _) h3⟩)))
      · have s2 : A.tmps.getD 2 undef = .slice a4 es.length cap4 := hF.at 2 (by kernel_rfl)
        go_simp
        exact hK _ _ hC (fun _ => rfl) (fun h => absurd h (by decide)) (.inl rfl)
      · obtain ⟨g, hg⟩ := parR_of 6 (by decide) rfl (hd 6 (by kernel_rfl))
        have s24 : A.tmps.getD 24 undef = .slice (some ⟨g, 0, none⟩) 0 0 := hg
        have s25 : A.tmps.getD 25 undef = .slice a4 es.length cap4 := parR_of 7 (by decide) rfl (hd 7 (by kernel_rfl))
        refine wp_append_fresh rfl (.tmp 24) (.tmp 25) 29 73 rfl Tryz.underlying29 info_ent rfl (by decide) s24 s25 (hU3.kept hC).none_cap (flat_size entCells_len es) (fun ad had => by subst had; exact (hU3.kept hC).src) entOne (by unfold maxLen; omega) (by omega) ?_ ?_
        · intro h0
          exact hK _ _ hC (fun _ => .inl ⟨List.length_eq_zero_iff.1 h0, _, _, rfl, fun e => by cases e⟩) (fun h => absurd h (by decide)) (.inl rfl)
        · intro v' w' hr hb5
          exact hK _ _ (bs hC hb5) (fun _ => (show OE W.heap.size es v' w' from hr).ents) (fun h => absurd h (by decide)) (.inr (par_keep (hst _ _ hb5) (fun v ⟨p, h1, h2, h3⟩ => ⟨p, h1, h2, blk_kept hb5 h3⟩)))
      · go_simp
        exact hK _ _ (gr_alloc hC) (fun _ => ⟨W.heap.size, rfl⟩) (fun h => absurd h (by decide)) (.inr (par_keep (hst _ _ (one_allocV _)) (fun v ⟨p, h1, h2, h3⟩ => ⟨p, h1, h2, blk_kept (one_allocV _) h3⟩)))
      · have s4 : A.tmps.getD 4 undef = .pointer (some ⟨w.heap.size + 1, 0, none⟩) := hF.at 4 (by kernel_rfl)
        go_simp
        exact hK _ _ hC (fun _ => rfl) (fun h => absurd h (by decide)) (.inl rfl)
      · have s28 : A.tmps.getD 28 undef = .pointer (some ⟨w.heap.size + 1, 2, none⟩) := parR_of 10 (by decide) rfl (hd 10 (by kernel_rfl))
        have hbC := hC
        have q0 := cellK hbC hlt3' x0
        have q1 := cellK hbC hlt3' x1
        have q2 := cellK hbC hlt3' x2
        go_simp
        exact hK _ _ hC (fun _ => rfl) (fun h => absurd h (by decide)) (.inl rfl)
      · obtain ⟨g, hg⟩ := parR_of 9 (by decide) rfl (hd 9 (by kernel_rfl))
        have s27 : A.tmps.getD 27 undef = .slice (some ⟨g, 0, none⟩) 0 0 := hg
        have s29 : A.tmps.getD 29 undef = .slice a3 X.length cap3 := parR_of 11 (by decide) rfl (hd 11 (by kernel_rfl))
        refine wp_append_fresh rfl (.tmp 27) (.tmp 29) 26 9 rfl Tryz.underlying26 info_str rfl (by decide) s27 s29 (txts_none (hV3.kept hC)) (by rw [List.length_map, Nat.mul_one]) (fun ad had => by subst had; exact txts_src (hV3.kept hC)) txtOne (by unfold maxLen; omega) (by omega) ?_ ?_
        · intro h0
          exact hK _ _ hC (fun _ => .inl ⟨List.length_eq_zero_iff.1 h0, _, _, rfl, fun e => by cases e⟩) (fun h => absurd h (by decide)) (.inl rfl)
        · intro v' w' hr hb5
          exact hK _ _ (bs hC hb5) (fun _ => ot_txts hr) (fun h => absurd h (by decide)) (.inr (par_keep (hst _ _ hb5) (fun v ⟨p, h1, h2, h3⟩ => ⟨p, h1, h2, blk_kept hb5 h3⟩)))
      · obtain ⟨vn5, vc5, h19, hO5⟩ := parR_of 1 (by decide) rfl (hd 1 (by kernel_rfl))
        have s19 : A.tmps.getD 19 undef = .agg #[vn5, vc5] := h19
        have hE26 : Ents es (A.tmps.getD 26 undef) W := parR_of 8 (by decide) rfl (hd 8 (by kernel_rfl))
        have hT30 : Txts X (A.tmps.getD 30 undef) W := parR_of 12 (by decide) rfl (hd 12 (by kernel_rfl))
        obtain ⟨u26, s26⟩ : ∃ u26, A.tmps.getD 26 undef = u26 := ⟨_, rfl⟩
        obtain ⟨u30, s30⟩ : ∃ u30, A.tmps.getD 30 undef = u30 := ⟨_, rfl⟩
        rw [s26] at hE26
        rw [s30] at hT30
        have s21 : A.tmps.getD 21 undef = .int .i64 f := parR_of 3 (by decide) rfl (hd 3 (by kernel_rfl))
        have s23 : A.tmps.getD 23 undef = .int .i64 s := parR_of 5 (by decide) rfl (hd 5 (by kernel_rfl))
        go_simp
        refine (make_any l cs _ _ f s es _ X _ (by omega) hS (by omega) _ hO5 hE26 hT30 (hT3.kept hC)).mono ?_
        rintro e w5 ⟨rfl, hb5⟩
        rw [HPP.out]
        exact hK _ _ (bs hC hb5) (fun _ => rfl) (fun h => absurd h (by decide)) (.inr (par_keep (hst _ _ hb5) (fun v ⟨p, h1, h2, h3⟩ => ⟨p, h1, h2, blk_kept hb5 h3⟩)))
      · have s31 : A.tmps.getD 31 undef = .tuple #[.agg #[.string m, .string a, .string t, .string b, .string y], .int .i64 n] := parR_of 13 (by decide) rfl (hd 13 (by kernel_rfl))
        go_simp
        exact hK _ _ hC (fun _ => rfl) (fun h => absurd h (by decide)) (.inl rfl)
      · have s17 : A.tmps.getD 17 undef = .tuple #[.agg #[.string m, .string a, .string t, .string b, .string y], .int .i64 n] := parR_of 14 (by decide) rfl (hd 14 (by kernel_rfl))
        go_simp
        exact hK _ _ hC (fun _ => rfl) (fun h => absurd h (by decide)) (.inl rfl)
      · have s17 : A.tmps.getD 17 undef = .tuple #[.agg #[.string m, .string a, .string t, .string b, .string y], .int .i64 n] := parR_of 14 (by decide) rfl (hd 14 (by kernel_rfl))
        go_simp
        exact hK _ _ hC (fun _ => rfl) (fun h => absurd h (by decide)) (.inl rfl)
      · go_simp
        exact hK _ _ (gr_alloc hC) (fun _ => ⟨W.heap.size, rfl, hC.size, _, _, _, _, _, Go.heap_alloc_new W _⟩) (fun h => absurd h (by decide)) (.inr (par_keep (hst _ _ (one_allocV _)) (fun v ⟨p, h1, h2, h3⟩ => ⟨p, h1, h2, blk_kept (one_allocV _) h3⟩)))
      · obtain ⟨p, hp, hge, c0, c1, c2, c3, c4, hh⟩ := parR_of 17 (by decide) rfl (hd 17 (by kernel_rfl))
        have s7 : A.tmps.getD 7 undef = .pointer (some ⟨p, 0, none⟩) := hp
        have s32 : A.tmps.getD 32 undef = .agg #[.string m, .string a, .string t, .string b, .string y] := parR_of 15 (by decide) rfl (hd 15 (by kernel_rfl))
        obtain ⟨p0, p1, p2, p3, p4, r0, r1, r2, r3, r4⟩ := five_of hh
        go_simp
        exact hK undef _ (hC.trans (set5_below _ p _ _ _ _ _ hge)) (fun h => absurd rfl h) (fun _ => ⟨p, hp, hge, set5_heap _ _ _ _ _ hh⟩) (.inr (by
          intro j hj val h
          have key : ∀ L : List Nat, j ∈ L → L.all (fun j => j == 14 || (j == 16 || j == 19)) = true → (j == 14 || (j == 16 || j == 19)) = true := fun L h1 h2 => List.all_eq_true.1 h2 j h1
          have h1 := key _ hj (by kernel_rfl)
          simp only [Bool.or_eq_true, beq_iff_eq] at h1
          rcases h1 with rfl | rfl | rfl
          · have h2 : val 14 = .tuple #[.agg #[.string m, .string a, .string t, .string b, .string y], .int .i64 n] := h
            exact h2
          · have h2 : val 16 = .int .i64 n := h
            exact h2
          · have h2 : val 19 = .int .i64 n := h
            exact h2))
      · have s33 : A.tmps.getD 33 undef = .int .i64 n := parR_of 16 (by decide) rfl (hd 16 (by kernel_rfl))
        go_simp
        exact hK _ _ hC (fun _ => rfl) (fun h => absurd h (by decide)) (.inl rfl)
    · intro A W hF hC hfin
      obtain ⟨p, hp, hge, hh⟩ := parR_st (hfin 18 (by decide))
      have h7 : A.tmps.getD 7 undef = .pointer (some ⟨p, 0, none⟩) := hp
      have h8 : A.tmps.getD 8 undef = .int .i64 n := parR_of 19 (by decide) rfl (hfin 19 (by decide))
      clear hp
      have ha := hF.lay (fin := [18, 19]) rfl (by kernel_rfl)
      simp only [List.foldl_cons, List.foldl_nil] at ha
      rw [h7, h8] at ha
      generalize A.tmps.getD 18 undef = v18 at ha
      generalize A.tmps.getD 19 undef = v19 at ha
      generalize A.tmps.getD 20 undef = v20 at ha
      generalize A.tmps.getD 21 undef = v21 at ha
      generalize A.tmps.getD 22 undef = v22 at ha
      generalize A.tmps.getD 23 undef = v23 at ha
      generalize A.tmps.getD 24 undef = v24 at ha
      generalize A.tmps.getD 25 undef = v25 at ha
      generalize A.tmps.getD 26 undef = v26 at ha
      generalize A.tmps.getD 27 undef = v27 at ha
      generalize A.tmps.getD 28 undef = v28 at ha
      generalize A.tmps.getD 29 undef = v29 at ha
      generalize A.tmps.getD 30 undef = v30 at ha
      generalize A.tmps.getD 31 undef = v31 at ha
      generalize A.tmps.getD 17 undef = v17 at ha
      generalize A.tmps.getD 32 undef = v32 at ha
      generalize A.tmps.getD 33 undef = v33 at ha
      simp only [Act.put, List.setIfInBounds_toArray, List.set_cons_zero, List.set_cons_succ] at ha
      clear hF hfin
      subst ha
      go_wp2_with fail
      go_meet
      exact ⟨p, rfl, rfl, hh, hC⟩
  case rest =>
    obtain ⟨p, rfl, rfl, hq, hbx⟩ := hcut
    obtain ⟨wx, rfl⟩ := name_belowM hbx
    have hDx := hD3.kept hbx
    have hUx := hU3.kept hbx
    have hVx := hV3.kept hbx
    have hbb := bs hb03 hbx
    have x0' := cellK hbx hlt3' x0
    have x1' := cellK hbx hlt3' x1
    have x2' := cellK hbx hlt3' x2
    have j0 := cellK hbx hlt3 i0
    have j1 := cellK hbx hlt3 i1
    have hpx : p < wx.heap.size := (Array.getElem?_eq_some_iff.1 hq).1
    clear x0 x1 x2 x3 x4 x5 i0 i1 hD3 hU3 hV3 hT3 hb03 hbx
    go_wp2_with fail
    refine (refMake_any l cs _ _ f s es _ X _ (by omega) hS hX8.out _ hDx hUx hVx).mono ?_
    rintro e wy ⟨rfl, hby⟩
    rw [HPP.out]
    have hqy := blk_kept hby hq
    have hpy : p < wy.heap.size := by have := hby.size; omega
    have hbE := one_allocV (w := wy) (.cells #[.string m, .string a, .string t, .string b, .string y] 33)
    have hq2 := Go.heap_alloc_new wy (.cells #[.string m, .string a, .string t, .string b, .string y] 33)
    obtain ⟨WE, hWE⟩ : ∃ WE, WE = wy.alloc (.cells #[.string m, .string a, .string t, .string b, .string y] 33) := ⟨_, rfl⟩
    rw [← hWE] at hbE hq2
    have hqE := blk_kept hbE hqy
    have HWE := Lib.hid hWE
    have hbw := bs (bs hbb hby) hbE
    clear hWE hbE
    have q1 : (n == n) = true := beq_self_eq_true n
    unfold mkV plV
    go_upto_region 7 with fail
    rw [← HWE.out]
    obtain ⟨p0, p1, p2, p3, p4, r0, r1, r2, r3, r4⟩ := five_of hqE
    obtain ⟨z0, z1, z2, z3, z4, _, _, _, _, _⟩ := five_of hq2
    go_wp2_with fail
    go_ret
    exact ⟨rfl, hbw⟩
end Go.Proofs.YtafbghlldlconaaGreatDoor

/-
  AN ARGUMENT THAT IS A DOCUMENT's NODES, opened.
-/
namespace Go.Proofs.YtafbghlldlconaaGreatDoor
set_option linter.unusedVariables false
set_option linter.unusedSimpArgs false
open Go.RowKit Go.ChangeShapes Go.WideShapes Go.Deep

section
variable {H : Type} {enc : TypeId × Value → H} {P : Program} {w : World} {base : Nat} {spare : Nat → Bool} {held : Bool}
def WOk (P : Program) (t : TypeId) (d : DataW H) : Prop := ∀ n ∈ d.weights P t, n ≤ reachBytes
theorem weightsAll_mem {e : TypeId} {d : DataW H} : ∀ {ds : List (DataW H)}, d ∈ ds → ∀ n ∈ d.weights P e, n ∈ DataW.weightsAll P e ds
  | d0 :: ds, hm, n, hn => by
    simp only [DataW.weightsAll, List.mem_append]
    rcases List.mem_cons.1 hm with rfl | hm
    · exact .inl hn
    · exact .inr (weightsAll_mem hm n hn)
theorem wok_arg {ts : List TypeId} {ds : List (DataW H)} (h : (DataW.weightsEach P ts ds).all (· ≤ reachBytes) = true) {j : Nat} {t : TypeId} {d : DataW H} (ht : ts[j]? = some t) (hd : ds[j]? = some d) : WOk P t d :=
  fun n hn => by simpa using List.all_eq_true.1 h _ (DataW.weights_mem_each ht hd n hn)
theorem open_slice_w {t e : TypeId} {fuel : Nat} {cs : List Value} {x : DataW H × List MemPlace} (ht : P.underlying t = some (.slice e)) (h : DataW.trod enc P w base spare held fuel t cs = some x) (hw : WOk P t x.1) :
    cs = [.slice none 0 0] ∨
    ∃ (a : Addr) (len cap : Nat), cs = [.slice (some a) len cap] ∧ len ≤ cap ∧ len * P.bytesOf e ≤ reachBytes ∧
      ∀ i, i < len → ∃ (cs' : List Value) (n : Nat) (y : DataW H × List MemPlace), w.cells? base (a.add (i * P.cellsOf e)) (P.cellsOf e) = some cs' ∧ DataW.trod enc P w base spare held n e cs' = some y ∧ WOk P e y.1 := by
  rcases open_slice ht h with ⟨h0, _⟩ | ⟨a, len, cap, m, n, D, Pl, hcs, hb, hl, hm, hmm, hx, hi⟩
  · exact .inl h0
  · refine .inr ⟨a, len, cap, hcs, hl, ?_, fun i him => ?_⟩
    · have h1 := hw ((((List.range len).map D).length + ((List.range (m - len)).map fun j => D (len + j)).length) * P.bytesOf e) (by rw [hx]; simp only [DataW.weights, ht]; exact List.mem_cons_self ..)
      rw [List.length_map, List.length_range] at h1
      exact Nat.le_trans (Nat.mul_le_mul_right _ (by omega)) h1
    · obtain ⟨cs', hc, ht'⟩ := hi i (by rw [hmm]; split <;> omega)
      refine ⟨cs', n, (D i, Pl i), hc, ht', fun k hk => hw k ?_⟩
      rw [hx]
      simp only [DataW.weights, ht]
      exact List.mem_cons_of_mem _ (List.mem_append_left _ (weightsAll_mem (List.mem_map.2 ⟨i, List.mem_range.2 him, rfl⟩) k hk))
theorem open_struct_w {t : TypeId} {fs : Array Field} {fuel : Nat} {cs : List Value} {x : DataW H × List MemPlace} (ht : P.underlying t = some (.struct fs)) (hone : oneCellFields P fs = true) (h : DataW.trod enc P w base spare held fuel t cs = some x) (hw : WOk P t x.1) (hC : P.cellsOf t = fs.size) :
    ∀ (j : Nat) (f : Field), fs[j]? = some f → ∃ (n : Nat) (v : Value) (y : DataW H × List MemPlace), cs[j]? = some v ∧ DataW.trod enc P w base spare held n f.type [v] = some y ∧ WOk P f.type y.1 := by
  intro j f hj
  obtain ⟨ys, n', hn', hy, hlen, hyl, hf⟩ := DataW.trod_struct ht h
  obtain ⟨ho, hk⟩ := hone_of hone j f hj
  have hjl : j < fs.size := (Array.getElem?_eq_some_iff.1 hj).1
  have hv : cs[j]? = some (cs[j]'(by omega)) := List.getElem?_eq_getElem (by omega)
  have h1 := hf j f hj
  rw [ho, hk] at h1
  have hone' : (cs.drop j).take 1 = [cs[j]'(by omega)] := by
    rw [List.drop_eq_getElem_cons (by omega)]
    rfl
  rw [hone'] at h1
  have hys : ys[j]? = some (ys[j]'(by omega)) := List.getElem?_eq_getElem (by omega)
  refine ⟨n', _, _, hv, h1.trans hys, fun k hk => hw k ?_⟩
  rw [hy]
  simp only [DataW.weights, ht]
  refine DataW.weights_mem_each (j := j) (t := f.type) (d := (ys[j]'(by omega)).1) ?_ ?_ k hk
  · rw [List.getElem?_map, Array.getElem?_toList, hj]; rfl
  · rw [List.getElem?_map, hys]; rfl
end
section
variable {H : Type} {enc : TypeId × Value → H} {w : World} {base : Nat} {spare : Nat → Bool} {held : Bool}
theorem wok_str {s : ByteArray} {t : TypeId} (h : WOk (H := H) Tryz.prog t (.lit (.string s.data.toList))) : s.size ≤ 140737488351232 := by
  have := h s.data.toList.length (by simp [DataW.weights])
  rw [Array.length_toList] at this
  exact this
theorem slice_at {α : Type} {l : List α} {a : Addr} {cap : Nat} {step : Nat} {v : Value} (hv : v = .slice (some a) l.length cap) (hst : l ≠ [] → ∃ u, w.cell? (a.add (0 * step)) = some u) :
    (l = [] ∧ ∃ a cap, v = .slice a 0 cap ∧ (a = none → cap = 0)) ∨ ∃ b o, a = ⟨b, o, none⟩ ∧ b < w.heap.size := by
  subst hv
  by_cases h : l = []
  · subst h
    exact .inl ⟨rfl, _, cap, rfl, fun e => by cases e⟩
  · obtain ⟨u, hu⟩ := hst h
    obtain ⟨hsp, hb⟩ := spot_none hu (Nat.zero_mul _)
    obtain ⟨b, o, sp⟩ := a
    simp only at hsp hb
    subst hsp
    exact .inr ⟨b, o, rfl, hb⟩
set_option maxRecDepth 100000 in
theorem open_atts {fuel : Nat} {v : Value} {x : DataW H × List MemPlace} (h : DataW.trod enc Tryz.prog w base spare held fuel 51 [v] = some x) (hw : WOk Tryz.prog 51 x.1) :
    ∃ l, Atts l v w ∧ l.length * 32 ≤ 140737488351232 ∧ ∀ a ∈ l, a.n.size ≤ 140737488351232 ∧ a.v.size ≤ 140737488351232 := by
  rcases open_slice_w Tryz.underlying51 h hw with hc | ⟨a, len, cap, hc, hl, hby, hi⟩
  · have hc' : v = .slice none 0 0 := (List.cons.inj hc).1
    exact ⟨[], .inl ⟨rfl, none, 0, hc', fun _ => rfl⟩, by simp, by simp⟩
  · have hc' : v = .slice (some a) len cap := (List.cons.inj hc).1
    rw [show Tryz.prog.bytesOf 117 = 32 by kernel_rfl, show reachBytes = 140737488351232 by rfl] at hby
    rw [show Tryz.prog.cellsOf 117 = 2 by kernel_rfl] at hi
    obtain ⟨l, hlen, hes⟩ := list_of (α := At) (P := fun i e => (w.cell? (a.add (i * 2)) = some (.string e.n) ∧ w.cell? (a.add (i * 2 + 1)) = some (.string e.v)) ∧ e.n.size ≤ 140737488351232 ∧ e.v.size ≤ 140737488351232) len (fun i hil => by
      obtain ⟨cs', n, y, hcc, hty, hwy⟩ := hi i hil
      obtain ⟨_, hcl, hat⟩ := World.cells?_some hcc
      have hS := open_struct_w Tryz.underlying117 (by kernel_rfl) hty hwy (by kernel_rfl)
      obtain ⟨n0, v0, y0, c0, t0, w0⟩ := hS 0 _ rfl
      obtain ⟨n1, v1, y1, c1, t1, w1⟩ := hS 1 _ rfl
      obtain ⟨s0, e0, rfl, _⟩ := DataW.trod_string Tryz.underlying9 t0
      obtain ⟨s1, e1, rfl, _⟩ := DataW.trod_string Tryz.underlying9 t1
      obtain rfl := (List.cons.inj e0).1
      obtain rfl := (List.cons.inj e1).1
      have d0 := hat 0 (by omega)
      have d1 := hat 1 (by omega)
      rw [Go.Deep.add_add, c0] at d0
      rw [Go.Deep.add_add, c1] at d1
      exact ⟨⟨s0, s1⟩, ⟨d0, d1⟩, wok_str w0, wok_str w1⟩)
    subst hlen
    refine ⟨l, ?_, by omega, fun e he => ?_⟩
    · rcases slice_at (step := 2) (w := w) hc' (fun h => by
        have hn : 0 < l.length := List.length_pos_iff.2 h
        exact ⟨_, (hes 0 l[0] (List.getElem?_eq_getElem hn)).1.1⟩) with h | ⟨b, o, rfl, hb⟩
      · exact .inl h
      · refine .inr ⟨b, o, cap, hc', hl, hb, fun j x hx => ?_⟩
        have hh := (hes j x hx).1
        rw [addr_add, addr_add] at hh
        exact hh
    · obtain ⟨j, hj, rfl⟩ := List.getElem_of_mem he
      exact (hes j _ (List.getElem?_eq_getElem hj)).2
set_option maxRecDepth 100000 in
theorem open_nums {fuel : Nat} {v : Value} {x : DataW H × List MemPlace} (h : DataW.trod enc Tryz.prog w base spare held fuel 52 [v] = some x) (hw : WOk Tryz.prog 52 x.1) :
    ∃ l, Nums l v w ∧ l.length * 8 ≤ 140737488351232 := by
  rcases open_slice_w Tryz.underlying52 h hw with hc | ⟨a, len, cap, hc, hl, hby, hi⟩
  · have hc' : v = .slice none 0 0 := (List.cons.inj hc).1
    exact ⟨[], .inl ⟨rfl, none, 0, hc', fun _ => rfl⟩, by simp⟩
  · have hc' : v = .slice (some a) len cap := (List.cons.inj hc).1
    rw [show Tryz.prog.bytesOf 3 = 8 by kernel_rfl, show reachBytes = 140737488351232 by rfl] at hby
    rw [show Tryz.prog.cellsOf 3 = 1 by kernel_rfl] at hi
    obtain ⟨l, hlen, hes⟩ := list_of (α := Int) (P := fun i e => w.cell? (a.add (i * 1)) = some (.int .i64 e)) len (fun i hil => by
      obtain ⟨cs', n, y, hcc, hty, hwy⟩ := hi i hil
      obtain ⟨_, hcl, hat⟩ := World.cells?_some hcc
      obtain ⟨s0, e0, rfl, _⟩ := DataW.trod_int Tryz.underlying3 hty
      subst e0
      have d0 := hat 0 (by omega)
      rw [Go.Deep.add_add] at d0
      exact ⟨s0, d0⟩)
    subst hlen
    refine ⟨l, ?_, by omega⟩
    rcases slice_at (step := 1) (w := w) hc' (fun h => by
      have hn : 0 < l.length := List.length_pos_iff.2 h
      exact ⟨_, hes 0 l[0] (List.getElem?_eq_getElem hn)⟩) with h | ⟨b, o, rfl, hb⟩
    · exact .inl h
    · refine .inr ⟨b, o, cap, hc', hl, hb, fun j x hx => ?_⟩
      have hh := hes j x hx
      rw [addr_add, Nat.mul_one] at hh
      exact hh
set_option maxRecDepth 100000 in
theorem open_nodes_trod {fuel : Nat} {v : Value} {x : DataW H × List MemPlace} (h : DataW.trod enc Tryz.prog w base spare held fuel 22 [v] = some x) (hw : WOk Tryz.prog 22 x.1) :
    ∃ l, Came l v w := by
  rcases open_slice_w Tryz.underlying22 h hw with hc | ⟨a, len, cap, hc, hl, hby, hi⟩
  · have hc' : v = .slice none 0 0 := (List.cons.inj hc).1
    exact ⟨[], .inl ⟨rfl, none, 0, hc', fun _ => rfl⟩, by simp, by simp, by simp, by simp⟩
  · have hc' : v = .slice (some a) len cap := (List.cons.inj hc).1
    rw [show Tryz.prog.bytesOf 54 = 88 by kernel_rfl, show reachBytes = 140737488351232 by rfl] at hby
    rw [show Tryz.prog.cellsOf 54 = 5 by kernel_rfl] at hi
    obtain ⟨l, hlen, hes⟩ := list_of (α := Nd) (P := fun i e => (∃ va vk, w.cell? (a.add (i * 5)) = some (.string e.nm) ∧ w.cell? (a.add (i * 5 + 1)) = some (.string e.tx) ∧ w.cell? (a.add (i * 5 + 2)) = some va ∧ w.cell? (a.add (i * 5 + 3)) = some (.int .i64 e.pa) ∧ w.cell? (a.add (i * 5 + 4)) = some vk ∧ Atts e.ats va w ∧ Nums e.ks vk w) ∧ Fits e ∧ e.ats.length * 32 ≤ 140737488351232 ∧ e.ks.length * 8 ≤ 140737488351232) len (fun i hil => by
      obtain ⟨cs', n, y, hcc, hty, hwy⟩ := hi i hil
      obtain ⟨_, hcl, hat⟩ := World.cells?_some hcc
      have hS := open_struct_w Tryz.underlying54 (by kernel_rfl) hty hwy (by kernel_rfl)
      obtain ⟨n0, v0, y0, c0, t0, w0⟩ := hS 0 _ rfl
      obtain ⟨n1, v1, y1, c1, t1, w1⟩ := hS 1 _ rfl
      obtain ⟨n2, v2, y2, c2, t2, w2⟩ := hS 2 _ rfl
      obtain ⟨n3, v3, y3, c3, t3, w3⟩ := hS 3 _ rfl
      obtain ⟨n4, v4, y4, c4, t4, w4⟩ := hS 4 _ rfl
      obtain ⟨s0, e0, rfl, _⟩ := DataW.trod_string Tryz.underlying9 t0
      obtain ⟨s1, e1, rfl, _⟩ := DataW.trod_string Tryz.underlying9 t1
      obtain ⟨s3, e3, rfl, _⟩ := DataW.trod_int Tryz.underlying3 t3
      obtain rfl := (List.cons.inj e0).1
      obtain rfl := (List.cons.inj e1).1
      obtain rfl := (List.cons.inj e3).1
      obtain ⟨l2, h2, f2, g2⟩ := open_atts t2 w2
      obtain ⟨l4, h4, f4⟩ := open_nums t4 w4
      have d0 := hat 0 (by omega)
      have d1 := hat 1 (by omega)
      have d2 := hat 2 (by omega)
      have d3 := hat 3 (by omega)
      have d4 := hat 4 (by omega)
      rw [Go.Deep.add_add, c0] at d0
      rw [Go.Deep.add_add, c1] at d1
      rw [Go.Deep.add_add, c2] at d2
      rw [Go.Deep.add_add, c3] at d3
      rw [Go.Deep.add_add, c4] at d4
      exact ⟨⟨s0, s1, l2, s3, l4⟩, ⟨v2, v4, d0, d1, d2, d3, d4, h2, h4⟩, ⟨wok_str w0, wok_str w1, by show l2.length ≤ _; omega, by show l4.length ≤ _; omega, g2⟩, f2, f4⟩)
    subst hlen
    have hall : ∀ e ∈ l, Fits e ∧ e.ats.length * 32 ≤ 140737488351232 ∧ e.ks.length * 8 ≤ 140737488351232 := fun e he => by
      obtain ⟨j, hj, rfl⟩ := List.getElem_of_mem he
      exact (hes j _ (List.getElem?_eq_getElem hj)).2
    refine ⟨l, ?_, fun e he => (hall e he).1, by omega, fun e he => (hall e he).2.1, fun e he => (hall e he).2.2⟩
    · rcases slice_at (step := 5) (w := w) hc' (fun h => by
        have hn : 0 < l.length := List.length_pos_iff.2 h
        obtain ⟨⟨_, _, c, _⟩, _⟩ := hes 0 l[0] (List.getElem?_eq_getElem hn)
        exact ⟨_, c⟩) with h | ⟨b, o, rfl, hb⟩
      · exact .inl h
      · refine .inr ⟨b, o, cap, hc', hl, hb, fun j x hx => ?_⟩
        have hh := (hes j x hx).1
        simp only [addr_add] at hh
        exact hh
set_option maxRecDepth 100000 in
/-- OPENED: a document's nodes -/
theorem open_nodes {r : Reach} {b0 : Nat} {v : Value} {d : DataW H} {p : List MemPlace} (hv : Value.okWide Tryz.prog w r b0 22 v) (h : DataW.Trod enc Tryz.prog w base spare held 22 v d p) (hw : WOk Tryz.prog 22 d) :
    ∃ l, Came l v w := by
  obtain ⟨a, len, cap, rfl⟩ := okWide_slice Tryz.underlying22 hv
  obtain ⟨fuel, hf⟩ := h
  exact open_nodes_trod hf hw
end
end Go.Proofs.YtafbghlldlconaaGreatDoor
