import Derived.Test.YtafbghlldlconaaGreatDoorPart16
import Derived.Test.YtafbghlldlconaaGreatDoorPart17
import Derived.Test.YtafbghlldlconaaGreatDoorPart19
import Derived.Deep.RegionWith
import Derived.Test.YtafbghlldlconaaGreatDoorRows
import Derived.Below
import Derived.ChangeSame
import Derived.WalkKit
import Derived.ProofKit
import Derived.ReadAgain
import Derived.ChangeStays
import Derived.ChangeBears
import Derived.Test.YtafbghlldlconaaGreatDoorPart1
import Derived.Deep.Slices
import Derived.Deep.Fields
import Derived.SizedLaws
import Derived.Test.YtafbghlldlconaaGreatDoorPart4
import Derived.Test.YtafbghlldlconaaGreatDoorPart8
/-
  The law SubmitBack: the walk.
-/
namespace Go.Proofs.YtafbghlldlconaaGreatDoor
set_option linter.unusedVariables false
set_option linter.unusedSimpArgs false
open Go.RowKit PT

theorem encP_partsB (es : List Ent) (hS : ∀ x ∈ es, Short x) (h60 : es.length ≤ 60) : ∀ p ∈ spl 38 [] (encP (told es)), p.length ≤ 900000 := by
  rw [encP_told]
  by_cases h : es = []
  · subst h
    intro p hp
    simp [jn, spl] at hp
    rw [hp]; simp
  · rw [spl_jn 38 _ (fun x hx => by
      obtain ⟨y, _, rfl⟩ := List.mem_map.1 hx
      exact eqP_no38 _ _) (by simpa using h)]
    intro p hp
    obtain ⟨y, hy, rfl⟩ := List.mem_map.1 hp
    have := prt_len y (hS y hy)
    omega
theorem decU_encPB (es : List Ent) : decU (spl 38 [] (encP (told es))) = es.map tel := by
  rw [decE_decP, decP_encP]
  unfold told
  rw [List.map_map]
  rfl
theorem name_belowB {B : Nat} {a w : World} (_ : Below B a w) : ∃ W, W = w := ⟨w, rfl⟩
theorem fstB_yes (c : UInt8) (a : ByteArray) (k : Nat) (h : k < a.size) (he : a[k] = c) : fstAt c a.data.toList k = k := fstAt_yes c _ k (by rw [Array.length_toList]; exact h) (by rw [Array.getElem_toList]; exact he)
theorem fstB_no (c : UInt8) (a : ByteArray) (k : Nat) (h : k < a.size) (he : a[k] ≠ c) : fstAt c a.data.toList k = fstAt c a.data.toList (k + 1) := fstAt_no c _ k (by rw [Array.length_toList]; exact h) (by rw [Array.getElem_toList]; exact he)
theorem fromB_yes (c : UInt8) (a : ByteArray) (T k : Nat) (hT : T ≤ a.size) (h : k < T) (he : a[k] = c) : fromAt c (a.data.toList.take T) k = (k : Int) + 1 := fromAt_yes c _ k (by rw [List.length_take, Array.length_toList]; exact Nat.lt_min.2 ⟨h, by have : a.data.size = a.size := rfl; omega⟩) (by rw [List.getElem_take, Array.getElem_toList]; exact he)
theorem fromB_no (c : UInt8) (a : ByteArray) (T k : Nat) (hT : T ≤ a.size) (h : k < T) (he : a[k] ≠ c) : fromAt c (a.data.toList.take T) k = fromAt c (a.data.toList.take T) (k + 1) := fromAt_no c _ k (by rw [List.length_take, Array.length_toList]; exact Nat.lt_min.2 ⟨h, by have : a.data.size = a.size := rfl; omega⟩) (by rw [List.getElem_take, Array.getElem_toList]; exact he)
theorem encP_no35 (es : List Ent) : (35 : UInt8) ∉ encP (told es) := fun h => by
  have := okU_encP (told es) 35 h
  revert this
  decide
/-- what a plan is -/
theorem planP_is {l : List Nd} {cs : List Ct} {f s : Int} {es : List Ent} {X : List (List UInt8)} {pp : Pl × Int} (h : planP l cs f s es X = pp) :
    (pp.2 ≠ 0 ∧ pp.1 = noPl) ∨ (pp.2 = 0 ∧ pp.1.m = ⟨#[103, 101, 116]⟩ ∧ ∃ a : ByteArray, a.size ≤ 4000 ∧ pp.1.a = qryS a es) ∨ (pp.2 = 0 ∧ pp.1.m = ⟨#[100, 105, 97, 108, 111, 103]⟩ ∧ pp.1.y = ⟨#[]⟩) ∨
    (pp.2 = 0 ∧ pp.1.m ≠ ⟨#[103, 101, 116]⟩ ∧ pp.1.m ≠ ⟨#[100, 105, 97, 108, 111, 103]⟩ ∧ ((pp.1.y = tyForm ∧ pp.1.b = ⟨(encP (told es)).toArray⟩) ∨ (∃ c : List UInt8, clearB es c = true ∧ c.length ≤ 70 ∧ pp.1.y = tyParts ++ ⟨c.toArray⟩ ∧ pp.1.b = ⟨(encP20 c es).toArray⟩) ∨ pp.1.y = tyPlain)) := by
  subst h
  unfold planP
  split
  · exact .inl ⟨by decide, rfl⟩
  rename_i h1
  split
  · exact .inl ⟨by decide, rfl⟩
  split
  · rename_i hG
    have hk : okD l cs = true := by
      cases hk : okD l cs
      · exact absurd (.inl hk) h1
      · rfl
    exact .inr (.inl ⟨rfl, hG, setS l f s ⟨#[102, 111, 114, 109, 97, 99, 116, 105, 111, 110]⟩ ⟨#[97, 99, 116, 105, 111, 110]⟩, setS_size (okD_iff.1 hk).1 f s ⟨#[102, 111, 114, 109, 97, 99, 116, 105, 111, 110]⟩ ⟨#[97, 99, 116, 105, 111, 110]⟩, rfl⟩)
  rename_i hG
  split
  · rename_i hDi
    exact .inr (.inr (.inl ⟨rfl, hDi, rfl⟩))
  rename_i hDi
  split
  · cases hc : chosen es X with
    | none =>
      refine .inl ⟨?_, rfl⟩
      show (10 : Int) ≠ 0
      decide
    | some c =>
      obtain ⟨h70, hcl⟩ := chosen_size hc
      have hb : bodyT 2 es ⟨c.toArray⟩ = (⟨(encP20 c es).toArray⟩, tyParts ++ ⟨c.toArray⟩, 0) := by
        unfold bodyT
        rw [if_neg (by decide), if_pos rfl, show (ByteArray.mk c.toArray).data.toList = c from rfl, hcl]
        rfl
      exact .inr (.inr (.inr ⟨rfl, hG, hDi, .inr (.inl ⟨c, hcl, h70, congrArg (fun q : ByteArray × ByteArray × Int => q.2.1) hb, congrArg (fun q : ByteArray × ByteArray × Int => q.1) hb⟩)⟩))
  · rename_i h2
    refine .inr (.inr (.inr ⟨rfl, hG, hDi, ?_⟩))
    have hk : kinF l f s = 1 ∨ kinF l f s = 3 := by
      have hh : hasB l f = true := by
        cases hh : hasB l f
        · exact absurd (.inr hh) h1
        · rfl
      revert h2
      unfold kinF
      rw [if_pos hh]
      split
      · intro h; exact absurd rfl h
      · split
        · intro _; exact .inr rfl
        · intro _; exact .inl rfl
    rcases hk with hk | hk
    · rw [hk]; exact .inl ⟨rfl, rfl⟩
    · rw [hk]; exact .inr (.inr rfl)
set_option maxHeartbeats 4000000 in
set_option maxRecDepth 100000 in
theorem submitBack_walk (l : List Nd) (cs : List Ct) (vn vc : Value) (f s : Int) (X : List (List UInt8)) (vx : Value) (es : List Ent) (u : Value) (w : World) (hD : DocAt l cs vn vc w) (hV : Txts X vx w) (hU : Ents es u w) (hT : Tables w) :
    Calls Tryz.prog 4 #[.agg #[vn, vc], .agg #[.int .i64 f, .int .i64 s, vx], u] w fun e w' => e = .returned (.bool true) ∧ Below w.heap.size w w' := by
  obtain ⟨a1, cap1, rfl⟩ := hD.nodes.nodes.len
  obtain ⟨a2, cap2, rfl⟩ := hD.ctls.len
  obtain ⟨a3, cap3, rfl⟩ := hV.len
  obtain ⟨a4, cap4, rfl⟩ := hU.len
  obtain ⟨hD1, hb1, hs1, c0, c1⟩ := doc_box (T := 25) hD
  obtain ⟨W1, hW1⟩ : ∃ W1, W1 = w.alloc (.cells #[.slice a1 l.length cap1, .slice a2 cs.length cap2] 25) := ⟨_, rfl⟩
  rw [← hW1] at hD1 hb1 hs1 c0 c1
  have hbA := one_allocV (w := W1) (.cells #[.int .i64 f, .int .i64 s, .slice a3 X.length cap3] 28)
  have hn0 := Go.heap_alloc_new W1 (.cells #[.int .i64 f, .int .i64 s, .slice a3 X.length cap3] 28)
  have hs2 : (W1.alloc (.cells #[.int .i64 f, .int .i64 s, .slice a3 X.length cap3] 28)).heap.size = W1.heap.size + 1 := by simp
  obtain ⟨W2, hW2⟩ : ∃ W2, W2 = W1.alloc (.cells #[.int .i64 f, .int .i64 s, .slice a3 X.length cap3] 28) := ⟨_, rfl⟩
  rw [← hW2] at hbA hn0 hs2
  rw [hs1] at hn0 hs2
  have d0 := cellK hbA (by omega) c0
  have d1 := cellK hbA (by omega) c1
  have hD2 := hD1.kept hbA
  have hb2 := bs hb1 hbA
  have HW1 := Lib.hid hW1
  have HW2 := Lib.hid hW2
  clear hW1 hW2 hbA hb1 c0 c1 hD1 hs1
  have hlong := long24_any es (.slice a4 es.length cap4) X (.slice a3 X.length cap3)
  cases hlg : longB es || longX X
  case true =>
    have HLG := Lib.hid hlg
    clear hlg
    go_enter Tryz.func4, Tryz.ntmps4
    go_wp2_with fail
    rw [← HW1.out, ← HW2.out]
    refine (wakes24_any _).mono ?_
    rintro e w3 ⟨rfl, hb3⟩
    obtain ⟨x0, x1, x2, _, _, _⟩ := three_of (blk_kept hb3 hn0)
    go_wp2_with fail
    refine (hlong _ (hU.kept (bs hb2 hb3)) (hV.kept (bs hb2 hb3))).mono ?_
    rintro e w4 ⟨rfl, rfl⟩
    rw [HLG.out]
    go_wp2_with fail
    go_ret
    exact ⟨rfl, bs hb2 hb3⟩
  obtain ⟨hlb, hlx⟩ : longB es = false ∧ longX X = false := by
    cases h : longB es
    · rw [h] at hlg; exact ⟨rfl, hlg⟩
    · rw [h] at hlg; cases hlg
  obtain ⟨h60, hS⟩ := long20_no hlb
  obtain ⟨h20, h500⟩ := longX_no hlx
  have HLG := Lib.hid hlg
  obtain ⟨⟨⟨m, a, t, b, y⟩, n⟩, hpp⟩ : ∃ pp, planP l cs f s es X = pp := ⟨_, rfl⟩
  have hIS := Lib.hid (planP_is hpp)
  have HPP := Lib.hid hpp
  clear hlg hlb hlx hpp h500
  go_enter Tryz.func4, Tryz.ntmps4
  go_wp2_with fail
  rw [← HW1.out, ← HW2.out]
  refine (wakes24_any _).mono ?_
  rintro e w3 ⟨rfl, hb3⟩
  have hn3 := blk_kept hb3 hn0
  obtain ⟨x0, x1, x2, x3, x4, x5⟩ := three_of hn3
  have hb03 := bs hb2 hb3
  go_wp2_with fail
  refine (hlong _ (hU.kept hb03) (hV.kept hb03)).mono ?_
  rintro e w4 ⟨rfl, rfl⟩
  rw [HLG.out]
  have i0 := cellK hb3 (by omega) d0
  have i1 := cellK hb3 (by omega) d1
  have hD3 := hD2.kept hb3
  have hU3 := hU.kept hb03
  have hV3 := hV.kept hb03
  have hT3 := hT.kept hb03
  have hg3 := hb3.size
  have hlt3 : w.heap.size < w3.heap.size := by omega
  have hlt3' : w.heap.size + 1 < w3.heap.size := by omega
  clear hlong hD2 hD hU hV hT hn0 d0 d1 hb2 hb3 hn3 hs2 hg3
  go_upto_region 5 with fail
  go_cut [7, 8] (fun s7 s8 wx => ∃ p : Nat, s7 = .pointer (some ⟨p, 0, none⟩) ∧ s8 = .int .i64 n ∧ wx.heap[p]? = some (.cells #[.string m, .string a, .string t, .string b, .string y] 33 (0, 0)) ∧ Below w3.heap.size w3 wx)
  case first =>
    have hbd : Below w3.heap.size w3 w3.drew := below_draws w3 1
    have hst : ∀ W W' : World, Below W.heap.size W W' → ∀ j v, (([fun v _ => v = .agg #[.slice a1 l.length cap1, .slice a2 cs.length cap2], fun v W => ∃ vn' vc', v = .agg #[vn', vc'] ∧ DocAt l cs vn' vc' W, fun v _ => v = .pointer (some ⟨w.heap.size + 1, 0, none⟩), fun v _ => v = .int .i64 f, fun v _ => v = .pointer (some ⟨w.heap.size + 1, 1, none⟩), fun v _ => v = .int .i64 s, fun v _ => v = .slice a4 es.length cap4, fun v _ => v = .pointer (some ⟨w.heap.size + 1, 2, none⟩), fun v _ => v = .slice a3 X.length cap3, fun v _ => v = .tuple #[.agg #[.string m, .string a, .string t, .string b, .string y], .int .i64 n], fun v _ => v = .tuple #[.agg #[.string m, .string a, .string t, .string b, .string y], .int .i64 n], fun v _ => v = .agg #[.string m, .string a, .string t, .string b, .string y], fun v _ => v = .int .i64 n, fun v W => ∃ p, v = .pointer (some ⟨p, 0, none⟩) ∧ w3.heap.size ≤ p ∧ ∃ c0 c1 c2 c3 c4, W.heap[p]? = some (.cells #[c0, c1, c2, c3, c4] 33 (0, 0)), fun _ _ => True, fun v _ => v = .int .i64 n] : List (Value → World → Prop)).getD j fun _ _ => True) v W → (([fun v _ => v = .agg #[.slice a1 l.length cap1, .slice a2 cs.length cap2], fun v W => ∃ vn' vc', v = .agg #[vn', vc'] ∧ DocAt l cs vn' vc' W, fun v _ => v = .pointer (some ⟨w.heap.size + 1, 0, none⟩), fun v _ => v = .int .i64 f, fun v _ => v = .pointer (some ⟨w.heap.size + 1, 1, none⟩), fun v _ => v = .int .i64 s, fun v _ => v = .slice a4 es.length cap4, fun v _ => v = .pointer (some ⟨w.heap.size + 1, 2, none⟩), fun v _ => v = .slice a3 X.length cap3, fun v _ => v = .tuple #[.agg #[.string m, .string a, .string t, .string b, .string y], .int .i64 n], fun v _ => v = .tuple #[.agg #[.string m, .string a, .string t, .string b, .string y], .int .i64 n], fun v _ => v = .agg #[.string m, .string a, .string t, .string b, .string y], fun v _ => v = .int .i64 n, fun v W => ∃ p, v = .pointer (some ⟨p, 0, none⟩) ∧ w3.heap.size ≤ p ∧ ∃ c0 c1 c2 c3 c4, W.heap[p]? = some (.cells #[c0, c1, c2, c3, c4] 33 (0, 0)), fun _ _ => True, fun v _ => v = .int .i64 n] : List (Value → World → Prop)).getD j fun _ _ => True) v W' := fun W W' hb j v h => match j, h with
      | 0, h => h
      | 1, ⟨x1, x2, h1, h2⟩ => ⟨x1, x2, h1, h2.kept hb⟩
      | 2, h => h
      | 3, h => h
      | 4, h => h
      | 5, h => h
      | 6, h => h
      | 7, h => h
      | 8, h => h
      | 9, h => h
      | 10, h => h
      | 11, h => h
      | 12, h => h
      | 13, ⟨p, h1, h2, c0, c1, c2, c3, c4, h3⟩ => ⟨p, h1, h2, c0, c1, c2, c3, c4, blk_kept hb h3⟩
      | 14, h => h
      | 15, h => h
      | _ + 16, _ => trivial
    refine wp_region_par1 [14, 15] (fun W => Below w3.heap.size w3 W) [fun v _ => v = .agg #[.slice a1 l.length cap1, .slice a2 cs.length cap2], fun v W => ∃ vn' vc', v = .agg #[vn', vc'] ∧ DocAt l cs vn' vc' W, fun v _ => v = .pointer (some ⟨w.heap.size + 1, 0, none⟩), fun v _ => v = .int .i64 f, fun v _ => v = .pointer (some ⟨w.heap.size + 1, 1, none⟩), fun v _ => v = .int .i64 s, fun v _ => v = .slice a4 es.length cap4, fun v _ => v = .pointer (some ⟨w.heap.size + 1, 2, none⟩), fun v _ => v = .slice a3 X.length cap3, fun v _ => v = .tuple #[.agg #[.string m, .string a, .string t, .string b, .string y], .int .i64 n], fun v _ => v = .tuple #[.agg #[.string m, .string a, .string t, .string b, .string y], .int .i64 n], fun v _ => v = .agg #[.string m, .string a, .string t, .string b, .string y], fun v _ => v = .int .i64 n, fun v W => ∃ p, v = .pointer (some ⟨p, 0, none⟩) ∧ w3.heap.size ≤ p ∧ ∃ c0 c1 c2 c3 c4, W.heap[p]? = some (.cells #[c0, c1, c2, c3, c4] 33 (0, 0)), fun _ _ => True, fun v _ => v = .int .i64 n] 14 13 (fun v W => ∃ p, v = .pointer (some ⟨p, 0, none⟩) ∧ w3.heap.size ≤ p ∧ W.heap[p]? = some (.cells #[.string m, .string a, .string t, .string b, .string y] 33 (0, 0))) (by kernel_rfl) rfl (by kernel_rfl) (by kernel_rfl) (by decide) (by kernel_rfl) (by decide) hbd ?_ ?_
    · refine ⟨fun A W hF hC hd K0 hK => ?_, fun A W hF hC hd K0 hK => ?_, fun A W hF hC hd K0 hK => ?_, fun A W hF hC hd K0 hK => ?_, fun A W hF hC hd K0 hK => ?_, fun A W hF hC hd K0 hK => ?_, fun A W hF hC hd K0 hK => ?_, fun A W hF hC hd K0 hK => ?_, fun A W hF hC hd K0 hK => ?_, fun A W hF hC hd K0 hK => ?_, fun A W hF hC hd K0 hK => ?_, fun A W hF hC hd K0 hK => ?_, fun A W hF hC hd K0 hK => ?_, fun A W hF hC hd K0 hK => ?_, fun A W hF hC hd K0 hK => ?_, fun A W hF hC hd K0 hK => ?_, trivial⟩
      · have s3 : A.tmps.getD 3 undef = .pointer (some ⟨w.heap.size, 0, none⟩) := hF.at 3 (by kernel_rfl)
        have hbC := hC
        have q0 := cellK hbC hlt3 i0
        have q1 := cellK hbC hlt3 i1
        go_simp
        exact hK _ _ hC (fun _ => rfl) (fun h => absurd h (by decide)) (.inl rfl)
      · have s23 : A.tmps.getD 23 undef = .agg #[.slice a1 l.length cap1, .slice a2 cs.length cap2] := parR_of 0 (by decide) rfl (hd 0 (by kernel_rfl))
        go_simp
        refine (lawCopied24_any l cs _ _ _ (hD3.kept hC)).mono ?_
        rintro e w5 ⟨vn5, vc5, rfl, hO5, hb5⟩
        exact hK _ _ (bs hC hb5) (fun _ => ⟨vn5, vc5, rfl, hO5⟩) (fun h => absurd h (by decide)) (.inr (par_keep (hst _ _ hb5) (fun v ⟨p, h1, h2, h3⟩ => ⟨p, h1, h2, blk_kept hb5 h3⟩)))
      · have s4 : A.tmps.getD 4 undef = .pointer (some ⟨w.heap.size + 1, 0, none⟩) := hF.at 4 (by kernel_rfl)
        go_simp
        exact hK _ _ hC (fun _ => rfl) (fun h => absurd h (by decide)) (.inl rfl)
      · have s25 : A.tmps.getD 25 undef = .pointer (some ⟨w.heap.size + 1, 0, none⟩) := parR_of 2 (by decide) rfl (hd 2 (by kernel_rfl))
        have hbC := hC
        have q0 := cellK hbC hlt3' x0
        have q1 := cellK hbC hlt3' x1
        have q2 := cellK hbC hlt3' x2
        go_simp
        exact hK _ _ hC (fun _ => rfl) (fun h => absurd h (by decide)) (.inl rfl)
      · have s4 : A.tmps.getD 4 undef = .pointer (some ⟨w.heap.size + 1, 0, none⟩) := hF.at 4 (by kernel_rfl)
        go_simp
        exact hK _ _ hC (fun _ => rfl) (fun h => absurd h (by decide)) (.inl rfl)
      · have s27 : A.tmps.getD 27 undef = .pointer (some ⟨w.heap.size + 1, 1, none⟩) := parR_of 4 (by decide) rfl (hd 4 (by kernel_rfl))
        have hbC := hC
        have q0 := cellK hbC hlt3' x0
        have q1 := cellK hbC hlt3' x1
        have q2 := cellK hbC hlt3' x2
        go_simp
        exact hK _ _ hC (fun _ => rfl) (fun h => absurd h (by decide)) (.inl rfl)
      · have s2 : A.tmps.getD 2 undef = .slice a4 es.length cap4 := hF.at 2 (by kernel_rfl)
        go_simp
        exact hK _ _ hC (fun _ => rfl) (fun h => absurd h (by decide)) (.inl rfl)
      · have s4 : A.tmps.getD 4 undef = .pointer (some ⟨w.heap.size + 1, 0, none⟩) := hF.at 4 (by kernel_rfl)
        go_simp
        exact hK _ _ hC (fun _ => rfl) (fun h => absurd h (by decide)) (.inl rfl)
      · have s30 : A.tmps.getD 30 undef = .pointer (some ⟨w.heap.size + 1, 2, none⟩) := parR_of 7 (by decide) rfl (hd 7 (by kernel_rfl))
        have hbC := hC
        have q0 := cellK hbC hlt3' x0
        have q1 := cellK hbC hlt3' x1
        have q2 := cellK hbC hlt3' x2
        go_simp
        exact hK _ _ hC (fun _ => rfl) (fun h => absurd h (by decide)) (.inl rfl)
      · obtain ⟨vn5, vc5, h24, hO5⟩ := parR_of 1 (by decide) rfl (hd 1 (by kernel_rfl))
        have s24 : A.tmps.getD 24 undef = .agg #[vn5, vc5] := h24
        have s26 : A.tmps.getD 26 undef = .int .i64 f := parR_of 3 (by decide) rfl (hd 3 (by kernel_rfl))
        have s28 : A.tmps.getD 28 undef = .int .i64 s := parR_of 5 (by decide) rfl (hd 5 (by kernel_rfl))
        have s29 : A.tmps.getD 29 undef = .slice a4 es.length cap4 := parR_of 6 (by decide) rfl (hd 6 (by kernel_rfl))
        have s31 : A.tmps.getD 31 undef = .slice a3 X.length cap3 := parR_of 8 (by decide) rfl (hd 8 (by kernel_rfl))
        go_simp
        refine (make_any l cs _ _ f s es _ X _ (by omega) hS (by omega) _ hO5 (hU3.kept hC) (hV3.kept hC) (hT3.kept hC)).mono ?_
        rintro e w5 ⟨rfl, hb5⟩
        rw [HPP.out]
        exact hK _ _ (bs hC hb5) (fun _ => rfl) (fun h => absurd h (by decide)) (.inr (par_keep (hst _ _ hb5) (fun v ⟨p, h1, h2, h3⟩ => ⟨p, h1, h2, blk_kept hb5 h3⟩)))
      · have s32 : A.tmps.getD 32 undef = .tuple #[.agg #[.string m, .string a, .string t, .string b, .string y], .int .i64 n] := parR_of 9 (by decide) rfl (hd 9 (by kernel_rfl))
        go_simp
        exact hK _ _ hC (fun _ => rfl) (fun h => absurd h (by decide)) (.inl rfl)
      · have s22 : A.tmps.getD 22 undef = .tuple #[.agg #[.string m, .string a, .string t, .string b, .string y], .int .i64 n] := parR_of 10 (by decide) rfl (hd 10 (by kernel_rfl))
        go_simp
        exact hK _ _ hC (fun _ => rfl) (fun h => absurd h (by decide)) (.inl rfl)
      · have s22 : A.tmps.getD 22 undef = .tuple #[.agg #[.string m, .string a, .string t, .string b, .string y], .int .i64 n] := parR_of 10 (by decide) rfl (hd 10 (by kernel_rfl))
        go_simp
        exact hK _ _ hC (fun _ => rfl) (fun h => absurd h (by decide)) (.inl rfl)
      · go_simp
        exact hK _ _ (gr_alloc hC) (fun _ => ⟨W.heap.size, rfl, hC.size, _, _, _, _, _, Go.heap_alloc_new W _⟩) (fun h => absurd h (by decide)) (.inr (par_keep (hst _ _ (one_allocV _)) (fun v ⟨p, h1, h2, h3⟩ => ⟨p, h1, h2, blk_kept (one_allocV _) h3⟩)))
      · obtain ⟨p, hp, hge, c0, c1, c2, c3, c4, hh⟩ := parR_of 13 (by decide) rfl (hd 13 (by kernel_rfl))
        have s7 : A.tmps.getD 7 undef = .pointer (some ⟨p, 0, none⟩) := hp
        have s33 : A.tmps.getD 33 undef = .agg #[.string m, .string a, .string t, .string b, .string y] := parR_of 11 (by decide) rfl (hd 11 (by kernel_rfl))
        obtain ⟨p0, p1, p2, p3, p4, r0, r1, r2, r3, r4⟩ := five_of hh
        go_simp
        exact hK undef _ (hC.trans (set5_below _ p _ _ _ _ _ hge)) (fun h => absurd rfl h) (fun _ => ⟨p, hp, hge, set5_heap _ _ _ _ _ hh⟩) (.inr (by
          intro j hj val h
          have key : ∀ L : List Nat, j ∈ L → L.all (fun j => j == 10 || (j == 12 || j == 15)) = true → (j == 10 || (j == 12 || j == 15)) = true := fun L h1 h2 => List.all_eq_true.1 h2 j h1
          have h1 := key _ hj (by kernel_rfl)
          simp only [Bool.or_eq_true, beq_iff_eq] at h1
          rcases h1 with rfl | rfl | rfl
          · have h2 : val 10 = .tuple #[.agg #[.string m, .string a, .string t, .string b, .string y], .int .i64 n] := h
            exact h2
          · have h2 : val 12 = .int .i64 n := h
            exact h2
          · have h2 : val 15 = .int .i64 n := h
            exact h2))
      · have s34 : A.tmps.getD 34 undef = .int .i64 n := parR_of 12 (by decide) rfl (hd 12 (by kernel_rfl))
        go_simp
        exact hK _ _ hC (fun _ => rfl) (fun h => absurd h (by decide)) (.inl rfl)
    · intro A W hF hC hfin
      obtain ⟨p, hp, hge, hh⟩ := parR_st (hfin 14 (by decide))
      have h7 : A.tmps.getD 7 undef = .pointer (some ⟨p, 0, none⟩) := hp
      have h8 : A.tmps.getD 8 undef = .int .i64 n := parR_of 15 (by decide) rfl (hfin 15 (by decide))
      clear hp
      have ha := hF.lay (fin := [14, 15]) rfl (by kernel_rfl)
      simp only [List.foldl_cons, List.foldl_nil] at ha
      rw [h7, h8] at ha
      generalize A.tmps.getD 23 undef = v23 at ha
      generalize A.tmps.getD 24 undef = v24 at ha
      generalize A.tmps.getD 25 undef = v25 at ha
      generalize A.tmps.getD 26 undef = v26 at ha
      generalize A.tmps.getD 27 undef = v27 at ha
      generalize A.tmps.getD 28 undef = v28 at ha
      generalize A.tmps.getD 29 undef = v29 at ha
      generalize A.tmps.getD 30 undef = v30 at ha
      generalize A.tmps.getD 31 undef = v31 at ha
      generalize A.tmps.getD 32 undef = v32 at ha
      generalize A.tmps.getD 22 undef = v22 at ha
      generalize A.tmps.getD 33 undef = v33 at ha
      generalize A.tmps.getD 34 undef = v34 at ha
      simp only [Act.put, List.setIfInBounds_toArray, List.set_cons_zero, List.set_cons_succ] at ha
      clear hF hfin
      subst ha
      go_wp2_with fail
      go_meet
      exact ⟨p, rfl, rfl, hh, hC⟩
  case rest =>
    obtain ⟨p, rfl, rfl, hq, hbx⟩ := hcut
    obtain ⟨wx, rfl⟩ := name_belowB hbx
    have hUx := hU3.kept hbx
    have hTx := hT3.kept hbx
    have hbb := bs hb03 hbx
    obtain ⟨p0, p1, p2, p3, p4, r0, r1, r2, r3, r4⟩ := five_of hq
    clear x0 x1 x2 x3 x4 x5 i0 i1 hD3 hU3 hV3 hT3 hb03 hbx
    rcases hIS.out with ⟨hn, h1⟩ | ⟨hn, hm, a0, ha0, ha⟩ | ⟨hn, hm, hy⟩ | ⟨hn, hm1, hm2, hy⟩
    · try simp only at hn h1
      have hz := intNe hn
      have qn : (n != 0) = true := by rw [bne, hz]; rfl
      have hpe := congrArg plV h1
      simp only [plV, noPl, Value.agg.injEq, Array.mk.injEq, List.cons.injEq, Value.string.injEq, and_true] at hpe
      obtain ⟨rfl, rfl, rfl, rfl, rfl⟩ := hpe
      clear hn h1 hz
      go_wp2_with fail
      go_ret
      exact ⟨rfl, hbb⟩
    · try simp only at hn hm ha
      subst hn
      subst hm
      have hzE : (encP (told es)).length ≤ 60 * 40001 := by
        rw [encP_told]
        have h1 := jn_prt_len es hS
        have h2 : es.length * 40001 ≤ 60 * 40001 := Nat.mul_le_mul_right _ h60
        omega
      obtain ⟨q1, t1, hA1, hA2, hA3, hA4⟩ := qry_from a0.data.toList (encP (told es)) (encP_no35 es)
      have hal : a.data.toList = qry a0.data.toList (encP (told es)) := by rw [ha]; rfl
      rw [← hal] at hA1 hA3
      have hPE := Lib.hid (encP_partsB es hS h60)
      have hDE := Lib.hid (decU_encPB es)
      have ha0l : a0.data.toList.length = a0.size := by rw [Array.length_toList]; rfl
      have hsa : a.data.toList.length = a.size := by rw [Array.length_toList]; rfl
      have htl : (upTo 35 a.data.toList).length ≤ a.data.toList.length := upTo_len _ _
      have hT0 := Lib.hid (fstAt_zero 35 a.data.toList)
      have hTake := Lib.hid (upTo_take 35 a.data.toList)
      have hzt : t1.length ≤ a0.data.toList.length := by
        have h1 := congrArg List.length (hal.symm.trans hA1)
        unfold qry at h1
        simp only [List.length_append, List.length_cons, List.length_drop] at h1
        have h2 := congrArg List.length hA3
        have h3 := upTo_len 63 (upTo 35 a0.data.toList)
        have h4 := upTo_len 35 a0.data.toList
        have h5 : upTo 63 (upTo 35 a0.data.toList) = q1 ∨ True := .inr trivial
        omega
      have hza : a.size ≤ 3000000 := by
        rw [← hsa, hA1]
        simp only [List.length_append, List.length_cons]
        omega
      obtain ⟨T, hTT⟩ : ∃ T, (upTo 35 a.data.toList).length = T := ⟨_, rfl⟩
      have hTE : T = q1.length + 1 + (encP (told es)).length := by
        rw [← hTT, hA3]
        simp only [List.length_append, List.length_cons]
        omega
      have hTs : T ≤ a.size := by omega
      rw [hTT] at hT0 hTake
      have hH : a.data.toList.take T = q1 ++ 63 :: encP (told es) := hTake.out.trans hA3
      have HF0 := Lib.hid (show fromAt 63 (a.data.toList.take T) 0 = (q1.length : Int) + 1 by rw [hH]; exact fromAt_mid q1 _ hA2)
      have HH := Lib.hid hH
      have hEnd1 := Lib.hid (fstAt_end 35 a.data.toList)
      have hEnd2 := Lib.hid (show fromAt 63 (a.data.toList.take T) T = -1 by
        have h := fromAt_end 63 (a.data.toList.take T)
        rwa [show (a.data.toList.take T).length = T by rw [List.length_take, hsa]; omega] at h)
      rw [hsa] at hEnd1
      generalize encP (told es) = E at *
      have HTE := Lib.hid hTE
      have hq1T : q1.length + 1 ≤ T := by omega
      clear hA1 hA2 hA3 hA4 hal ha ha0 htl hzt ha0l hTT hH hTake hsa hTE
      go_wp2_with fail
      go_quiet (fail)
      have e0 : (wx.drewN nq).cell? ⟨p, 0, none⟩ = some (.string ⟨#[103, 101, 116]⟩) := p0
      have e1 : (wx.drewN nq).cell? ⟨p, 1, none⟩ = some (.string a) := p1
      have hbW := bs hbb (below_draws wx nq)
      have hUW := hUx.kept (below_draws wx nq)
      have hTW := hTx.kept (below_draws wx nq)
      clear p0 p1 p2 p3 p4 r0 r1 r2 r3 r4 hbb hUx hTx hq
      generalize wx.drewN nq = W at *
      go_wp2_with fail
      go_loop [10, 11] (fun u i => ∃ (k : Nat) (j : Int), k ≤ a.size ∧ j + 1 = (k : Int) ∧ i = .int .i64 j ∧ u = .int .i64 ((fstAt 35 a.data.toList k : Nat) : Int)) (fun _ i => (intOf i + 1).toNat)
      case atStart => exact ⟨a.size, (a.size : Int) - 1, Nat.le_refl _, by omega, by go_num, by rw [hEnd1.out]⟩
      case round =>
        obtain ⟨k, j, hk, hj, rfl, rfl⟩ := hrel
        cases k with
        | succ k =>
          obtain rfl : j = (k : Int) := by omega
          have hkl : k < a.size := by omega
          have hk0 : (0 : Int) ≤ (k : Int) := by omega
          have hk1 : (k : Int) < (a.size : Int) := by omega
          by_cases h35 : a[k] = 35
          · have hc : ((a[k].toNat : Int) == 35) = true := byteEq_yes h35
            have hF := Lib.hid (fstB_yes 35 a k hkl h35)
            clear h35
            go_wp2_with fail
            go_round
            case rel => exact ⟨k, (k : Int) - 1, by omega, by omega, by go_num, by rw [hF.out]⟩
            case measure => (simp [intOf]) <;> omega
          · have hc : ((a[k].toNat : Int) == 35) = false := byteEq_no h35
            have hF := Lib.hid (fstB_no 35 a k hkl h35)
            clear h35
            go_wp2_with fail
            go_round
            case rel => exact ⟨k, (k : Int) - 1, by omega, by omega, by go_num, by rw [hF.out]⟩
            case measure => (simp [intOf]) <;> omega
        | zero =>
          obtain rfl : j = -1 := by omega
          rw [hT0.out]
          go_wp2_with fail
          go_loop [9, 12] (fun u i => ∃ (k : Nat) (j : Int), k ≤ T ∧ j + 1 = (k : Int) ∧ i = .int .i64 j ∧ u = .int .i64 (fromAt 63 (a.data.toList.take T) k)) (fun _ i => (intOf i + 1).toNat)
          case atStart => exact ⟨T, (T : Int) - 1, Nat.le_refl _, by omega, by go_num, by rw [hEnd2.out]⟩
          case round =>
            obtain ⟨k, j, hk, hj, rfl, rfl⟩ := hrel
            cases k with
            | succ k =>
              obtain rfl : j = (k : Int) := by omega
              clear hj
              have hkT : k < T := by omega
              have hkl : k < a.size := by omega
              have hk0 : (0 : Int) ≤ (k : Int) := by omega
              have hk1 : (k : Int) < (a.size : Int) := by omega
              by_cases h63 : a[k] = 63
              · have hc : ((a[k].toNat : Int) == 63) = true := byteEq_yes h63
                have hF := Lib.hid (fromB_yes 63 a T k hTs hkT h63)
                clear h63
                go_wp2_with fail
                go_round
                case rel => exact ⟨k, (k : Int) - 1, by omega, by omega, by go_num, by rw [hF.out]⟩
                case measure => (simp [intOf]) <;> omega
              · have hc : ((a[k].toNat : Int) == 63) = false := byteEq_no h63
                have hF := Lib.hid (fromB_no 63 a T k hTs hkT h63)
                clear h63
                go_wp2_with fail
                go_round
                case rel => exact ⟨k, (k : Int) - 1, by omega, by omega, by go_num, by rw [hF.out]⟩
                case measure => (simp [intOf]) <;> omega
            | zero =>
              obtain rfl : j = -1 := by omega
              rw [HF0.out]
              have hf0 : (0 : Int) ≤ (q1.length : Int) + 1 := by omega
              have hf1 : (q1.length : Int) + 1 ≤ (T : Int) := by omega
              have hf2 : (T : Int) ≤ (a.size : Int) := by omega
              have hEx : (a.extract (q1.length + 1) T).data.toList = E := by
                have h1 := HH.out
                have h2 : (a.data.toList.take T).drop (q1.length + 1) = (q1 ++ 63 :: E).drop (q1.length + 1) := by rw [h1]
                rw [show q1 ++ 63 :: E = (q1 ++ [63]) ++ E by simp, show q1.length + 1 = (q1 ++ [63]).length by simp, List.drop_left, List.drop_take] at h2
                rw [Lib.extract_data, ← h2]
                simp
              have hExz : (a.extract (q1.length + 1) T).size = E.length := by rw [← hEx, Array.length_toList]; rfl
              go_wp2_with fail
              refine (urlDecode_any _ (by rw [hExz]; omega) (by rw [hEx]; exact hPE.out) _ hTW).mono ?_
              rintro e w6 ⟨⟨v6, rfl, hO6⟩, hb6⟩
              rw [hEx, hDE.out] at hO6
              have hO6' := hO6.ents
              clear hO6
              go_wp2_with fail
              refine (refPlain19_any es _ _ (hUW.kept hb6) (by omega) hS).mono ?_
              rintro e w7 ⟨⟨v7, rfl, hO7⟩, hb7⟩
              have hO7' := hO7.ents
              go_wp2_with fail
              refine (sameFiles_yes _ v6 v7 _ (hO6'.kept hb7) hO7' (by rw [List.length_map]; omega)).mono ?_
              rintro e w8 ⟨rfl, hb8⟩
              go_wp2_with fail
              go_ret
              exact ⟨rfl, bs (bs (bs hbW hb6) hb7) hb8⟩
    · try simp only at hn hm hy
      subst hn
      subst hm
      subst hy
      go_wp2_with fail
      go_ret
      exact ⟨rfl, hbb⟩
    · try simp only at hn hm1 hm2 hy
      subst hn
      have g1 := sFalse hm1
      have g2 := sFalse hm2
      rw [get_toList] at g1
      rw [dia24_toList] at g2
      clear hm1 hm2
      rcases hy with ⟨rfl, rfl⟩ | ⟨c, hcl, h70, rfl, rfl⟩ | rfl
      · have hzE : (encP (told es)).length ≤ 60 * 40001 := by
          rw [encP_told]
          have h1 := jn_prt_len es hS
          have h2 : es.length * 40001 ≤ 60 * 40001 := Nat.mul_le_mul_right _ h60
          omega
        have hPE := Lib.hid (encP_partsB es hS h60)
        have hDE := Lib.hid (decU_encPB es)
        generalize encP (told es) = E at *
        unfold tyForm at *
        go_wp2_with fail
        refine (urlDecode_any ⟨E.toArray⟩ (by rw [size_mk]; omega) hPE.out _ hTx).mono ?_
        rintro e w6 ⟨⟨v6, rfl, hO6⟩, hb6⟩
        rw [show (ByteArray.mk E.toArray).data.toList = E from rfl, hDE.out] at hO6
        have hO6' := hO6.ents
        clear hO6
        go_wp2_with fail
        refine (refPlain19_any es _ _ (hUx.kept hb6) (by omega) hS).mono ?_
        rintro e w7 ⟨⟨v7, rfl, hO7⟩, hb7⟩
        have hO7' := hO7.ents
        go_wp2_with fail
        refine (sameFiles_yes _ v6 v7 _ (hO6'.kept hb7) hO7' (by rw [List.length_map]; omega)).mono ?_
        rintro e w8 ⟨rfl, hb8⟩
        go_wp2_with fail
        go_ret
        exact ⟨rfl, bs (bs (bs hbb hb6) hb7) hb8⟩
      · have hD := Lib.hid (decE_enc c es hcl)
        have hc1 : 1 ≤ c.length ∧ c.length ≤ 70 := by
          unfold clearB fitB at hcl
          simp only [Bool.and_eq_true, decide_eq_true_eq] at hcl
          omega
        have hle : (encP20 c es).length ≤ 3604636 := encP20_len c (by omega) es h60 hS
        generalize encP20 c es = E at *
        have hyz : (tyParts ++ ⟨c.toArray⟩ : ByteArray).size = 30 + c.length := by
          rw [← size_list, show (tyParts ++ ⟨c.toArray⟩ : ByteArray).data.toList = tyParts.data.toList ++ c by simp, List.length_append]
          rfl
        have hyt : ((tyParts ++ ⟨c.toArray⟩ : ByteArray).extract 0 30).data.toList = tyParts.data.toList := by
          rw [Lib.extract_data, show (tyParts ++ ⟨c.toArray⟩ : ByteArray).data.toList = tyParts.data.toList ++ c by simp, List.drop_zero, show 30 - 0 = tyParts.data.toList.length from rfl, List.take_left]
        have hyd : ((tyParts ++ ⟨c.toArray⟩ : ByteArray).extract 30 (tyParts ++ ⟨c.toArray⟩ : ByteArray).size).data.toList = c := by
          rw [hyz, Lib.extract_data, show (tyParts ++ ⟨c.toArray⟩ : ByteArray).data.toList = tyParts.data.toList ++ c by simp, show (30 : Nat) = tyParts.data.toList.length from rfl, List.drop_left]
          simp
        generalize (tyParts ++ ⟨c.toArray⟩ : ByteArray) = y at *
        have k1 : decide ((30 : Int) < (y.size : Int)) = true := decide_eq_true (by omega)
        have k2 : (30 : Int) ≤ (y.size : Int) := by omega
        have k3 : (y.toList == [97, 112, 112, 108, 105, 99, 97, 116, 105, 111, 110, 47, 120, 45, 119, 119, 119, 45, 102, 111, 114, 109, 45, 117, 114, 108, 101, 110, 99, 111, 100, 101, 100]) = false := by
          rw [ByteArray.toList_eq, beq_eq_false_iff_ne]
          intro h
          rw [Lib.extract_data, List.drop_zero, h] at hyt
          revert hyt
          decide +kernel
        have k4 : ((y.extract 0 30).toList == [109, 117, 108, 116, 105, 112, 97, 114, 116, 47, 102, 111, 114, 109, 45, 100, 97, 116, 97, 59, 32, 98, 111, 117, 110, 100, 97, 114, 121, 61]) = true := by
          rw [ByteArray.toList_eq, hyt]
          rfl
        have HYD := Lib.hid hyd
        clear hyt hyd hcl hyz
        have hbd := below_draws wx 1
        have e3 : wx.drew.cell? ⟨p, 3, none⟩ = some (.string ⟨E.toArray⟩) := p3
        have e4 : wx.drew.cell? ⟨p, 4, none⟩ = some (.string y) := p4
        have hTd := hTx.kept hbd
        have hpx : p < wx.heap.size := (Array.getElem?_eq_some_iff.1 hq).1
        go_wp2_with fail
        have hst : ∀ W W' : World, Below W.heap.size W W' → ∀ j v, (([fun v _ => v = .pointer (some ⟨p, 3, none⟩), fun v _ => v = .string ⟨E.toArray⟩, fun v _ => v = .pointer (some ⟨p, 4, none⟩), fun v _ => v = .string y, fun v _ => v = .string ⟨#[109, 117, 108, 116, 105, 112, 97, 114, 116, 47, 102, 111, 114, 109, 45, 100, 97, 116, 97, 59, 32, 98, 111, 117, 110, 100, 97, 114, 121, 61]⟩, fun v _ => v = .int .i64 30, fun v _ => v = .string (y.extract 30 y.size), fun v W => ∃ v6, v = .tuple #[v6, .int .i64 0] ∧ Ents (es.map tld) v6 W, fun v W => ∃ v6, v = .tuple #[v6, .int .i64 0] ∧ Ents (es.map tld) v6 W, fun v W => Ents (es.map tld) v W, fun v _ => v = .int .i64 0, fun v W => Ents (es.map tld) v W, fun v _ => v = .int .i64 0] : List (Value → World → Prop)).getD j fun _ _ => True) v W → (([fun v _ => v = .pointer (some ⟨p, 3, none⟩), fun v _ => v = .string ⟨E.toArray⟩, fun v _ => v = .pointer (some ⟨p, 4, none⟩), fun v _ => v = .string y, fun v _ => v = .string ⟨#[109, 117, 108, 116, 105, 112, 97, 114, 116, 47, 102, 111, 114, 109, 45, 100, 97, 116, 97, 59, 32, 98, 111, 117, 110, 100, 97, 114, 121, 61]⟩, fun v _ => v = .int .i64 30, fun v _ => v = .string (y.extract 30 y.size), fun v W => ∃ v6, v = .tuple #[v6, .int .i64 0] ∧ Ents (es.map tld) v6 W, fun v W => ∃ v6, v = .tuple #[v6, .int .i64 0] ∧ Ents (es.map tld) v6 W, fun v W => Ents (es.map tld) v W, fun v _ => v = .int .i64 0, fun v W => Ents (es.map tld) v W, fun v _ => v = .int .i64 0] : List (Value → World → Prop)).getD j fun _ _ => True) v W' := fun W W' hb j v h => match j, h with
          | 0, h => h
          | 1, h => h
          | 2, h => h
          | 3, h => h
          | 4, h => h
          | 5, h => h
          | 6, h => h
          | 7, ⟨x1, h1, h2⟩ => ⟨x1, h1, h2.kept hb⟩
          | 8, ⟨x1, h1, h2⟩ => ⟨x1, h1, h2.kept hb⟩
          | 9, h => Ents.kept (w := W) h hb
          | 10, h => h
          | 11, h => Ents.kept (w := W) h hb
          | 12, h => h
          | _ + 13, _ => trivial
        refine wp_region_par0 [11, 12] (fun W => Below wx.heap.size wx W) [fun v _ => v = .pointer (some ⟨p, 3, none⟩), fun v _ => v = .string ⟨E.toArray⟩, fun v _ => v = .pointer (some ⟨p, 4, none⟩), fun v _ => v = .string y, fun v _ => v = .string ⟨#[109, 117, 108, 116, 105, 112, 97, 114, 116, 47, 102, 111, 114, 109, 45, 100, 97, 116, 97, 59, 32, 98, 111, 117, 110, 100, 97, 114, 121, 61]⟩, fun v _ => v = .int .i64 30, fun v _ => v = .string (y.extract 30 y.size), fun v W => ∃ v6, v = .tuple #[v6, .int .i64 0] ∧ Ents (es.map tld) v6 W, fun v W => ∃ v6, v = .tuple #[v6, .int .i64 0] ∧ Ents (es.map tld) v6 W, fun v W => Ents (es.map tld) v W, fun v _ => v = .int .i64 0, fun v W => Ents (es.map tld) v W, fun v _ => v = .int .i64 0] (by kernel_rfl) rfl (by kernel_rfl) (by kernel_rfl) (by decide) hbd ?_ ?_
        · refine ⟨fun A W hF hC hd K0 hK => ?_, fun A W hF hC hd K0 hK => ?_, fun A W hF hC hd K0 hK => ?_, fun A W hF hC hd K0 hK => ?_, fun A W hF hC hd K0 hK => ?_, fun A W hF hC hd K0 hK => ?_, fun A W hF hC hd K0 hK => ?_, fun A W hF hC hd K0 hK => ?_, fun A W hF hC hd K0 hK => ?_, fun A W hF hC hd K0 hK => ?_, fun A W hF hC hd K0 hK => ?_, fun A W hF hC hd K0 hK => ?_, fun A W hF hC hd K0 hK => ?_, trivial⟩
          · have s7 : A.tmps.getD 7 undef = .pointer (some ⟨p, 0, none⟩) := hF.at 7 (by kernel_rfl)
            go_simp
            exact hK _ _ hC (fun _ => rfl) (fun h => absurd h (by decide)) (.inl rfl)
          · have s111 : A.tmps.getD 111 undef = .pointer (some ⟨p, 3, none⟩) := parR_of 0 (by decide) rfl (hd 0 (by kernel_rfl))
            have q3 := cellK hC hpx p3
            go_simp
            exact hK _ _ hC (fun _ => rfl) (fun h => absurd h (by decide)) (.inl rfl)
          · have s7 : A.tmps.getD 7 undef = .pointer (some ⟨p, 0, none⟩) := hF.at 7 (by kernel_rfl)
            go_simp
            exact hK _ _ hC (fun _ => rfl) (fun h => absurd h (by decide)) (.inl rfl)
          · have s113 : A.tmps.getD 113 undef = .pointer (some ⟨p, 4, none⟩) := parR_of 2 (by decide) rfl (hd 2 (by kernel_rfl))
            have q4 := cellK hC hpx p4
            go_simp
            exact hK _ _ hC (fun _ => rfl) (fun h => absurd h (by decide)) (.inl rfl)
          · have s13 : A.tmps.getD 13 undef = .string ⟨#[109, 117, 108, 116, 105, 112, 97, 114, 116, 47, 102, 111, 114, 109, 45, 100, 97, 116, 97, 59, 32, 98, 111, 117, 110, 100, 97, 114, 121, 61]⟩ := hF.at 13 (by kernel_rfl)
            go_simp
            exact hK _ _ hC (fun _ => rfl) (fun h => absurd h (by decide)) (.inl rfl)
          · have s115 : A.tmps.getD 115 undef = .string ⟨#[109, 117, 108, 116, 105, 112, 97, 114, 116, 47, 102, 111, 114, 109, 45, 100, 97, 116, 97, 59, 32, 98, 111, 117, 110, 100, 97, 114, 121, 61]⟩ := parR_of 4 (by decide) rfl (hd 4 (by kernel_rfl))
            go_simp
            exact hK _ _ hC (fun _ => rfl) (fun h => absurd h (by decide)) (.inl rfl)
          · have s114 : A.tmps.getD 114 undef = .string y := parR_of 3 (by decide) rfl (hd 3 (by kernel_rfl))
            have s116 : A.tmps.getD 116 undef = .int .i64 30 := parR_of 5 (by decide) rfl (hd 5 (by kernel_rfl))
            go_simp
            exact hK _ _ hC (fun _ => rfl) (fun h => absurd h (by decide)) (.inl rfl)
          · have s112 : A.tmps.getD 112 undef = .string ⟨E.toArray⟩ := parR_of 1 (by decide) rfl (hd 1 (by kernel_rfl))
            have s117 : A.tmps.getD 117 undef = .string (y.extract 30 y.size) := parR_of 6 (by decide) rfl (hd 6 (by kernel_rfl))
            go_simp
            refine (decode20_any ⟨E.toArray⟩ (y.extract 30 y.size) (by rw [size_mk]; omega) _ (hTx.kept hC)).mono ?_
            rintro e w6 ⟨⟨v6, rfl, hV6⟩, hb6⟩
            rw [show (ByteArray.mk E.toArray).data.toList = E from rfl, HYD.out, hD.out] at hV6 ⊢
            simp only [Option.isSome, if_true, Option.getD_some] at hV6 ⊢
            rw [List.map_map, show entOf ∘ tld5 = tld from funext tld5_ent] at hV6
            exact hK _ _ (bs hC hb6) (fun _ => ⟨v6, rfl, hV6⟩) (fun h => absurd h (by decide)) (.inr (par_keep (hst _ _ hb6) (fun _ h => h)))
          · obtain ⟨v6, h118, hV6⟩ := parR_of 7 (by decide) rfl (hd 7 (by kernel_rfl))
            have s118 : A.tmps.getD 118 undef = .tuple #[v6, .int .i64 0] := h118
            go_simp
            exact hK _ _ hC (fun _ => ⟨v6, rfl, hV6⟩) (fun h => absurd h (by decide)) (.inl rfl)
          · obtain ⟨v6, h110, hV6⟩ := parR_of 8 (by decide) rfl (hd 8 (by kernel_rfl))
            have s110 : A.tmps.getD 110 undef = .tuple #[v6, .int .i64 0] := h110
            go_simp
            exact hK _ _ hC (fun _ => hV6) (fun h => absurd h (by decide)) (.inl rfl)
          · obtain ⟨v6, h110, hV6⟩ := parR_of 8 (by decide) rfl (hd 8 (by kernel_rfl))
            have s110 : A.tmps.getD 110 undef = .tuple #[v6, .int .i64 0] := h110
            go_simp
            exact hK _ _ hC (fun _ => rfl) (fun h => absurd h (by decide)) (.inl rfl)
          · have hV6 : Ents (es.map tld) (A.tmps.getD 119 undef) W := parR_of 9 (by decide) rfl (hd 9 (by kernel_rfl))
            obtain ⟨v6, s119⟩ : ∃ v6, A.tmps.getD 119 undef = v6 := ⟨_, rfl⟩
            rw [s119] at hV6
            go_simp
            exact hK _ _ hC (fun _ => hV6) (fun h => absurd h (by decide)) (.inl rfl)
          · have s120 : A.tmps.getD 120 undef = .int .i64 0 := parR_of 10 (by decide) rfl (hd 10 (by kernel_rfl))
            go_simp
            exact hK _ _ hC (fun _ => rfl) (fun h => absurd h (by decide)) (.inl rfl)
        · intro A W hF hC hfin
          have hV6 : Ents (es.map tld) (A.tmps.getD 14 undef) W := parR_of 11 (by decide) rfl (hfin 11 (by decide))
          have h15 : A.tmps.getD 15 undef = .int .i64 0 := parR_of 12 (by decide) rfl (hfin 12 (by decide))
          have ha := hF.lay (fin := [11, 12]) rfl (by kernel_rfl)
          simp only [List.foldl_cons, List.foldl_nil] at ha
          rw [h15] at ha
          generalize A.tmps.getD 111 undef = v111 at ha
          generalize A.tmps.getD 112 undef = v112 at ha
          generalize A.tmps.getD 113 undef = v113 at ha
          generalize A.tmps.getD 114 undef = v114 at ha
          generalize A.tmps.getD 115 undef = v115 at ha
          generalize A.tmps.getD 116 undef = v116 at ha
          generalize A.tmps.getD 117 undef = v117 at ha
          generalize A.tmps.getD 118 undef = v118 at ha
          generalize A.tmps.getD 110 undef = v110 at ha
          generalize A.tmps.getD 119 undef = v119 at ha
          generalize A.tmps.getD 120 undef = v120 at ha
          generalize A.tmps.getD 14 undef = v14 at ha hV6
          simp only [Act.put, List.setIfInBounds_toArray, List.set_cons_zero, List.set_cons_succ] at ha
          clear hF hfin
          subst ha
          have hb06 := hC
          go_wp2_with fail
          refine (refTold_any es _ _ (hUx.kept hb06) (by omega) hS).mono ?_
          rintro e w7 ⟨⟨v7, rfl, hO7⟩, hb7⟩
          go_wp2_with fail
          refine (sameFiles_yes (es.map tld) v14 v7 _ (hV6.kept hb7) hO7.ents (by rw [List.length_map]; omega)).mono ?_
          rintro e w8 ⟨rfl, hb8⟩
          go_wp2_with fail
          go_ret
          exact ⟨rfl, bs (bs (bs hbb hb06) hb7) hb8⟩
      · unfold tyPlain at *
        go_wp2_with fail
        go_ret
        exact ⟨rfl, hbb⟩
end Go.Proofs.YtafbghlldlconaaGreatDoor

/-
  THE LAST STEP OF A LAW'S ROW where of the world behind the call 'Below' alone is known.
-/
namespace Go.Proofs.YtafbghlldlconaaGreatDoor
set_option linter.unusedVariables false
set_option linter.unusedSimpArgs false
open Go.RowKit Go.WideShapes Go.ChangeShapes
section
variable {H : Type} {enc : TypeId × Value → H} {P : Program}
theorem post_of_below {f : Func} {s : ChangeSpec} {apart fresh handsOn again : Bool} {W W' : World} {args : Array Value} {v : Value} {ds gs : List (DataW H)} {before pa pv : List MemPlace}
    (hW : DataW.Whole enc P f.params.toList s.vars apart W args.toList ds gs before)
    (hres : ∀ (b : Nat) (sp : Nat → Bool) (hd : Bool), DataW.TrodAll enc P W' b sp hd f.resultTypes.toList (v.resultList f.resultTypes.size) (s.fn H (ds ++ gs)).results [])
    (hargs : ∀ sp : Nat → Bool, (∀ p ∈ before, sp p.block = true) → DataW.TrodAll enc P W' 0 sp true f.params.toList args.toList (s.fn H (ds ++ gs)).args pa)
    (hvars : ∀ sp : Nat → Bool, (∀ p ∈ before, sp p.block = true) → DataW.TrodVars enc P W' sp s.vars (s.fn H (ds ++ gs)).vars pv)
    (hps : before = pa ++ pv) (hb : Below W.heap.size W W')
    (hok : ∀ (j : Nat) (t : TypeId) (r : Value), f.resultTypes[j]? = some t → (v.resultList f.resultTypes.size)[j]? = some r → Value.okWide P W' .any 0 t r) :
    s.post enc P f apart fresh handsOn again W args v W' := by
  have hlt : ∀ p ∈ before, p.block < W.heap.size := fun p hp => hW.lt p hp
  have hold : ∀ p ∈ before, (fun b => decide (b < W.heap.size)) p.block = true := fun p hp => by simpa using hlt p hp
  refine ⟨ds, gs, before, [], pa, pv, hW, hres _ _ _, hargs _ hold, hvars _ hold, World.keptBut_mono (fun p hp => ⟨hp, ?_⟩) (hb.frame (· ∈ before)), fun _ => ?_⟩
  · rw [hps, List.mem_append] at hp
    exact Or.inr hp
  · obtain ⟨_, _, _, _, _, hz, hn⟩ := hW
    refine ⟨hok, _, _, ([] ++ pa) ++ pv, ⟨[] ++ pa, pv, trodAll_append (hargs _ (fun _ _ => rfl)) (hres _ _ _), hvars _ (fun _ _ => rfl), rfl, ?_, ?_⟩, ?_⟩
    · intro b off hp
      have hin : MemPlace.cell b off ∈ before := by rw [hps]; simpa using hp
      rw [hb.frozen (hlt _ hin)]
      exact hz b off hin
    · intro ha
      have := hn ha
      rw [hps] at this
      simpa using this
    · intro p hp _
      rw [hps]
      simpa using hp
end
end Go.Proofs.YtafbghlldlconaaGreatDoor

/-
  WHAT THE ARGUMENTS READ BEHIND A CALL that has kept all older blocks: what they read before, whatever their types.
-/
namespace Go.Proofs.YtafbghlldlconaaGreatDoor
set_option linter.unusedVariables false
set_option linter.unusedSimpArgs false
open Go.RowKit Go.WideShapes Go.ChangeShapes
section
variable {H : Type} {enc : TypeId × Value → H} {P : Program}
theorem same_below {W W' : World} (hb : Below W.heap.size W W') {p : MemPlace} (hp : p.block < W.heap.size) : W.sameAt W' p := by
  cases p with
  | cell b off =>
    show W'.cell? _ = W.cell? _
    have : W'.heap[b]? = W.heap[b]? := hb.block b hp
    simp only [World.cell?, this]
  | map b => exact hb.block b hp
theorem args_stay {T : TypeId → Prop} (K : Kids P T) (hz : ∀ {t e : TypeId}, T t → P.underlying t = some (.slice e) → 0 < P.cellsOf e) {W W' : World} {sp : Nat → Bool} (hb : Below W.heap.size W W') :
    ∀ {ts : List TypeId} {vs : List Value} {ds : List (DataW H)} {ps : List MemPlace}, (∀ t ∈ ts, T t) → DataW.TrodAll enc P W 0 (fun _ => true) true ts vs ds ps → (∀ p ∈ ps, p.block < W.heap.size) → (∀ p ∈ ps, sp p.block = true) → DataW.TrodAll enc P W' 0 sp true ts vs ds ps
  | [], [], [], _, _, h, _, _ => h
  | _ :: _, _ :: _, _ :: _, _, hT, ⟨p, q, ⟨n, h1⟩, h2, e⟩, hlt, hs =>
    ⟨p, q, ⟨n, DataW.trod_stays K hz (fun h => by cases h) (hT _ (List.mem_cons.2 (Or.inl rfl))) h1
        (fun x hx => same_below hb (hlt x (by rw [e]; exact List.mem_append_left _ hx))) (fun x hx => hs x (by rw [e]; exact List.mem_append_left _ hx))⟩,
      args_stay K hz hb (fun t ht => hT t (List.mem_cons.2 (Or.inr ht))) h2 (fun x hx => hlt x (by rw [e]; exact List.mem_append_right _ hx)) (fun x hx => hs x (by rw [e]; exact List.mem_append_right _ hx)), e⟩
end
end Go.Proofs.YtafbghlldlconaaGreatDoor

/-
  OPENING ARGUMENTS: helpers; what arguments of any type read behind the call.
-/
namespace Go.Proofs.YtafbghlldlconaaGreatDoor
set_option linter.unusedVariables false
set_option linter.unusedSimpArgs false
open Go.RowKit Go.ChangeShapes Go.WideShapes Go.Deep

theorem list_of {α : Type} {P : Nat → α → Prop} : ∀ n, (∀ i, i < n → ∃ x, P i x) → ∃ l : List α, l.length = n ∧ ∀ i x, l[i]? = some x → P i x
  | 0, _ => ⟨[], rfl, fun i x h => by simp at h⟩
  | n + 1, h => by
    obtain ⟨l, hl, hp⟩ := list_of n (fun i hi => h i (by omega))
    obtain ⟨x, hx⟩ := h n (by omega)
    refine ⟨l ++ [x], by simp [hl], fun i y hy => ?_⟩
    by_cases e : i < l.length
    · rw [List.getElem?_append_left e] at hy; exact hp i y hy
    · rw [List.getElem?_append_right (by omega)] at hy
      have : i - l.length = 0 := by
        have := (List.getElem?_eq_some_iff.1 hy).1
        simp at this; exact this
      rw [this] at hy
      simp at hy
      obtain rfl : i = n := by omega
      rw [← hy]; exact hx
theorem spot_none {w : World} {a : Addr} {k : Nat} {v : Value} (h : w.cell? (a.add k) = some v) (hk : k = 0) : a.spot = none ∧ a.block < w.heap.size := by
  subst hk
  have e : a.add 0 = a := by simp [Addr.add]
  rw [e] at h
  simp only [World.cell?] at h
  cases hb : w.heap[a.block]? with
  | none => rw [hb] at h; cases h
  | some o =>
    have hlt := (Array.getElem?_eq_some_iff.1 hb).1
    rw [hb] at h
    cases o with
    | cells c t f =>
      simp only at h
      cases hs : a.spot with
      | none => exact ⟨rfl, hlt⟩
      | some z => rw [hs] at h; simp at h
    | _ => simp at h

section
variable {H : Type} {enc : TypeId × Value → H} {w : World} {spare : Nat → Bool} {held : Bool}
theorem kids_all : Kids Tryz.prog (· < Tryz.prog.types.size) := kids_rows (by kernel_rfl) (by kernel_rfl)
theorem full_all : ∀ t e, t < Tryz.prog.types.size → Tryz.prog.underlying t = some (.slice e) → 0 < Tryz.prog.cellsOf e := slices_full_of Tryz.prog (by kernel_rfl)
/-- what the arguments read behind the call -/
theorem args_again {W W' : World} {ts : List TypeId} {vs : List Value} {ds : List (DataW H)} {ps : List MemPlace} (hts : (ts.all fun t => decide (t < Tryz.prog.types.size)) = true) (hb : Below W.heap.size W W')
    (h : DataW.TrodAll enc Tryz.prog W 0 (fun _ => true) true ts vs ds ps) (hlt : ∀ p ∈ ps, p.block < W.heap.size) (sp : Nat → Bool) (hs : ∀ p ∈ ps, sp p.block = true) : DataW.TrodAll enc Tryz.prog W' 0 sp true ts vs ds ps :=
  args_stay kids_all (fun ht hu => full_all _ _ ht hu) hb (fun t ht => of_decide_eq_true (List.all_eq_true.1 hts t ht)) h hlt hs
end
end Go.Proofs.YtafbghlldlconaaGreatDoor

/-
  AN ARGUMENT THAT IS A DOCUMENT's NODES, opened.
-/
namespace Go.Proofs.YtafbghlldlconaaGreatDoor
set_option linter.unusedVariables false
set_option linter.unusedSimpArgs false
open Go.RowKit Go.ChangeShapes Go.WideShapes Go.Deep

section
variable {H : Type} {enc : TypeId × Value → H} {P : Program} {w : World} {base : Nat} {spare : Nat → Bool} {held : Bool}
def WOk (P : Program) (t : TypeId) (d : DataW H) : Prop := ∀ n ∈ d.weights P t, n ≤ reachBytes
theorem weightsAll_mem {e : TypeId} {d : DataW H} : ∀ {ds : List (DataW H)}, d ∈ ds → ∀ n ∈ d.weights P e, n ∈ DataW.weightsAll P e ds
  | d0 :: ds, hm, n, hn => by
    simp only [DataW.weightsAll, List.mem_append]
    rcases List.mem_cons.1 hm with rfl | hm
    · exact .inl hn
    · exact .inr (weightsAll_mem hm n hn)
theorem wok_arg {ts : List TypeId} {ds : List (DataW H)} (h : (DataW.weightsEach P ts ds).all (· ≤ reachBytes) = true) {j : Nat} {t : TypeId} {d : DataW H} (ht : ts[j]? = some t) (hd : ds[j]? = some d) : WOk P t d :=
  fun n hn => by simpa using List.all_eq_true.1 h _ (DataW.weights_mem_each ht hd n hn)
theorem open_slice_w {t e : TypeId} {fuel : Nat} {cs : List Value} {x : DataW H × List MemPlace} (ht : P.underlying t = some (.slice e)) (h : DataW.trod enc P w base spare held fuel t cs = some x) (hw : WOk P t x.1) :
    cs = [.slice none 0 0] ∨
    ∃ (a : Addr) (len cap : Nat), cs = [.slice (some a) len cap] ∧ len ≤ cap ∧ len * P.bytesOf e ≤ reachBytes ∧
      ∀ i, i < len → ∃ (cs' : List Value) (n : Nat) (y : DataW H × List MemPlace), w.cells? base (a.add (i * P.cellsOf e)) (P.cellsOf e) = some cs' ∧ DataW.trod enc P w base spare held n e cs' = some y ∧ WOk P e y.1 := by
  rcases open_slice ht h with ⟨h0, _⟩ | ⟨a, len, cap, m, n, D, Pl, hcs, hb, hl, hm, hmm, hx, hi⟩
  · exact .inl h0
  · refine .inr ⟨a, len, cap, hcs, hl, ?_, fun i him => ?_⟩
    · have h1 := hw ((((List.range len).map D).length + ((List.range (m - len)).map fun j => D (len + j)).length) * P.bytesOf e) (by rw [hx]; simp only [DataW.weights, ht]; exact List.mem_cons_self ..)
      rw [List.length_map, List.length_range] at h1
      exact Nat.le_trans (Nat.mul_le_mul_right _ (by omega)) h1
    · obtain ⟨cs', hc, ht'⟩ := hi i (by rw [hmm]; split <;> omega)
      refine ⟨cs', n, (D i, Pl i), hc, ht', fun k hk => hw k ?_⟩
      rw [hx]
      simp only [DataW.weights, ht]
      exact List.mem_cons_of_mem _ (List.mem_append_left _ (weightsAll_mem (List.mem_map.2 ⟨i, List.mem_range.2 him, rfl⟩) k hk))
theorem open_struct_w {t : TypeId} {fs : Array Field} {fuel : Nat} {cs : List Value} {x : DataW H × List MemPlace} (ht : P.underlying t = some (.struct fs)) (hone : oneCellFields P fs = true) (h : DataW.trod enc P w base spare held fuel t cs = some x) (hw : WOk P t x.1) (hC : P.cellsOf t = fs.size) :
    ∀ (j : Nat) (f : Field), fs[j]? = some f → ∃ (n : Nat) (v : Value) (y : DataW H × List MemPlace), cs[j]? = some v ∧ DataW.trod enc P w base spare held n f.type [v] = some y ∧ WOk P f.type y.1 := by
  intro j f hj
  obtain ⟨ys, n', hn', hy, hlen, hyl, hf⟩ := DataW.trod_struct ht h
  obtain ⟨ho, hk⟩ := hone_of hone j f hj
  have hjl : j < fs.size := (Array.getElem?_eq_some_iff.1 hj).1
  have hv : cs[j]? = some (cs[j]'(by omega)) := List.getElem?_eq_getElem (by omega)
  have h1 := hf j f hj
  rw [ho, hk] at h1
  have hone' : (cs.drop j).take 1 = [cs[j]'(by omega)] := by
    rw [List.drop_eq_getElem_cons (by omega)]
    rfl
  rw [hone'] at h1
  have hys : ys[j]? = some (ys[j]'(by omega)) := List.getElem?_eq_getElem (by omega)
  refine ⟨n', _, _, hv, h1.trans hys, fun k hk => hw k ?_⟩
  rw [hy]
  simp only [DataW.weights, ht]
  refine DataW.weights_mem_each (j := j) (t := f.type) (d := (ys[j]'(by omega)).1) ?_ ?_ k hk
  · rw [List.getElem?_map, Array.getElem?_toList, hj]; rfl
  · rw [List.getElem?_map, hys]; rfl
end
section
variable {H : Type} {enc : TypeId × Value → H} {w : World} {base : Nat} {spare : Nat → Bool} {held : Bool}
theorem wok_str {s : ByteArray} {t : TypeId} (h : WOk (H := H) Tryz.prog t (.lit (.string s.data.toList))) : s.size ≤ 140737488351232 := by
  have := h s.data.toList.length (by simp [DataW.weights])
  rw [Array.length_toList] at this
  exact this
theorem slice_at {α : Type} {l : List α} {a : Addr} {cap : Nat} {step : Nat} {v : Value} (hv : v = .slice (some a) l.length cap) (hst : l ≠ [] → ∃ u, w.cell? (a.add (0 * step)) = some u) :
    (l = [] ∧ ∃ a cap, v = .slice a 0 cap ∧ (a = none → cap = 0)) ∨ ∃ b o, a = ⟨b, o, none⟩ ∧ b < w.heap.size := by
  subst hv
  by_cases h : l = []
  · subst h
    exact .inl ⟨rfl, _, cap, rfl, fun e => by cases e⟩
  · obtain ⟨u, hu⟩ := hst h
    obtain ⟨hsp, hb⟩ := spot_none hu (Nat.zero_mul _)
    obtain ⟨b, o, sp⟩ := a
    simp only at hsp hb
    subst hsp
    exact .inr ⟨b, o, rfl, hb⟩
set_option maxRecDepth 100000 in
theorem open_atts {fuel : Nat} {v : Value} {x : DataW H × List MemPlace} (h : DataW.trod enc Tryz.prog w base spare held fuel 51 [v] = some x) (hw : WOk Tryz.prog 51 x.1) :
    ∃ l, Atts l v w ∧ l.length * 32 ≤ 140737488351232 ∧ ∀ a ∈ l, a.n.size ≤ 140737488351232 ∧ a.v.size ≤ 140737488351232 := by
  rcases open_slice_w Tryz.underlying51 h hw with hc | ⟨a, len, cap, hc, hl, hby, hi⟩
  · have hc' : v = .slice none 0 0 := (List.cons.inj hc).1
    exact ⟨[], .inl ⟨rfl, none, 0, hc', fun _ => rfl⟩, by simp, by simp⟩
  · have hc' : v = .slice (some a) len cap := (List.cons.inj hc).1
    rw [show Tryz.prog.bytesOf 117 = 32 by kernel_rfl, show reachBytes = 140737488351232 by rfl] at hby
    rw [show Tryz.prog.cellsOf 117 = 2 by kernel_rfl] at hi
    obtain ⟨l, hlen, hes⟩ := list_of (α := At) (P := fun i e => (w.cell? (a.add (i * 2)) = some (.string e.n) ∧ w.cell? (a.add (i * 2 + 1)) = some (.string e.v)) ∧ e.n.size ≤ 140737488351232 ∧ e.v.size ≤ 140737488351232) len (fun i hil => by
      obtain ⟨cs', n, y, hcc, hty, hwy⟩ := hi i hil
      obtain ⟨_, hcl, hat⟩ := World.cells?_some hcc
      have hS := open_struct_w Tryz.underlying117 (by kernel_rfl) hty hwy (by kernel_rfl)
      obtain ⟨n0, v0, y0, c0, t0, w0⟩ := hS 0 _ rfl
      obtain ⟨n1, v1, y1, c1, t1, w1⟩ := hS 1 _ rfl
      obtain ⟨s0, e0, rfl, _⟩ := DataW.trod_string Tryz.underlying9 t0
      obtain ⟨s1, e1, rfl, _⟩ := DataW.trod_string Tryz.underlying9 t1
      obtain rfl := (List.cons.inj e0).1
      obtain rfl := (List.cons.inj e1).1
      have d0 := hat 0 (by omega)
      have d1 := hat 1 (by omega)
      rw [Go.Deep.add_add, c0] at d0
      rw [Go.Deep.add_add, c1] at d1
      exact ⟨⟨s0, s1⟩, ⟨d0, d1⟩, wok_str w0, wok_str w1⟩)
    subst hlen
    refine ⟨l, ?_, by omega, fun e he => ?_⟩
    · rcases slice_at (step := 2) (w := w) hc' (fun h => by
        have hn : 0 < l.length := List.length_pos_iff.2 h
        exact ⟨_, (hes 0 l[0] (List.getElem?_eq_getElem hn)).1.1⟩) with h | ⟨b, o, rfl, hb⟩
      · exact .inl h
      · refine .inr ⟨b, o, cap, hc', hl, hb, fun j x hx => ?_⟩
        have hh := (hes j x hx).1
        rw [addr_add, addr_add] at hh
        exact hh
    · obtain ⟨j, hj, rfl⟩ := List.getElem_of_mem he
      exact (hes j _ (List.getElem?_eq_getElem hj)).2
set_option maxRecDepth 100000 in
theorem open_nums {fuel : Nat} {v : Value} {x : DataW H × List MemPlace} (h : DataW.trod enc Tryz.prog w base spare held fuel 52 [v] = some x) (hw : WOk Tryz.prog 52 x.1) :
    ∃ l, Nums l v w ∧ l.length * 8 ≤ 140737488351232 := by
  rcases open_slice_w Tryz.underlying52 h hw with hc | ⟨a, len, cap, hc, hl, hby, hi⟩
  · have hc' : v = .slice none 0 0 := (List.cons.inj hc).1
    exact ⟨[], .inl ⟨rfl, none, 0, hc', fun _ => rfl⟩, by simp⟩
  · have hc' : v = .slice (some a) len cap := (List.cons.inj hc).1
    rw [show Tryz.prog.bytesOf 3 = 8 by kernel_rfl, show reachBytes = 140737488351232 by rfl] at hby
    rw [show Tryz.prog.cellsOf 3 = 1 by kernel_rfl] at hi
    obtain ⟨l, hlen, hes⟩ := list_of (α := Int) (P := fun i e => w.cell? (a.add (i * 1)) = some (.int .i64 e)) len (fun i hil => by
      obtain ⟨cs', n, y, hcc, hty, hwy⟩ := hi i hil
      obtain ⟨_, hcl, hat⟩ := World.cells?_some hcc
      obtain ⟨s0, e0, rfl, _⟩ := DataW.trod_int Tryz.underlying3 hty
      subst e0
      have d0 := hat 0 (by omega)
      rw [Go.Deep.add_add] at d0
      exact ⟨s0, d0⟩)
    subst hlen
    refine ⟨l, ?_, by omega⟩
    rcases slice_at (step := 1) (w := w) hc' (fun h => by
      have hn : 0 < l.length := List.length_pos_iff.2 h
      exact ⟨_, hes 0 l[0] (List.getElem?_eq_getElem hn)⟩) with h | ⟨b, o, rfl, hb⟩
    · exact .inl h
    · refine .inr ⟨b, o, cap, hc', hl, hb, fun j x hx => ?_⟩
      have hh := hes j x hx
      rw [addr_add, Nat.mul_one] at hh
      exact hh
set_option maxRecDepth 100000 in
theorem open_nodes_trod {fuel : Nat} {v : Value} {x : DataW H × List MemPlace} (h : DataW.trod enc Tryz.prog w base spare held fuel 22 [v] = some x) (hw : WOk Tryz.prog 22 x.1) :
    ∃ l, Came l v w := by
  rcases open_slice_w Tryz.underlying22 h hw with hc | ⟨a, len, cap, hc, hl, hby, hi⟩
  · have hc' : v = .slice none 0 0 := (List.cons.inj hc).1
    exact ⟨[], .inl ⟨rfl, none, 0, hc', fun _ => rfl⟩, by simp, by simp, by simp, by simp⟩
  · have hc' : v = .slice (some a) len cap := (List.cons.inj hc).1
    rw [show Tryz.prog.bytesOf 54 = 88 by kernel_rfl, show reachBytes = 140737488351232 by rfl] at hby
    rw [show Tryz.prog.cellsOf 54 = 5 by kernel_rfl] at hi
    obtain ⟨l, hlen, hes⟩ := list_of (α := Nd) (P := fun i e => (∃ va vk, w.cell? (a.add (i * 5)) = some (.string e.nm) ∧ w.cell? (a.add (i * 5 + 1)) = some (.string e.tx) ∧ w.cell? (a.add (i * 5 + 2)) = some va ∧ w.cell? (a.add (i * 5 + 3)) = some (.int .i64 e.pa) ∧ w.cell? (a.add (i * 5 + 4)) = some vk ∧ Atts e.ats va w ∧ Nums e.ks vk w) ∧ Fits e ∧ e.ats.length * 32 ≤ 140737488351232 ∧ e.ks.length * 8 ≤ 140737488351232) len (fun i hil => by
      obtain ⟨cs', n, y, hcc, hty, hwy⟩ := hi i hil
      obtain ⟨_, hcl, hat⟩ := World.cells?_some hcc
      have hS := open_struct_w Tryz.underlying54 (by kernel_rfl) hty hwy (by kernel_rfl)
      obtain ⟨n0, v0, y0, c0, t0, w0⟩ := hS 0 _ rfl
      obtain ⟨n1, v1, y1, c1, t1, w1⟩ := hS 1 _ rfl
      obtain ⟨n2, v2, y2, c2, t2, w2⟩ := hS 2 _ rfl
      obtain ⟨n3, v3, y3, c3, t3, w3⟩ := hS 3 _ rfl
      obtain ⟨n4, v4, y4, c4, t4, w4⟩ := hS 4 _ rfl
      obtain ⟨s0, e0, rfl, _⟩ := DataW.trod_string Tryz.underlying9 t0
      obtain ⟨s1, e1, rfl, _⟩ := DataW.trod_string Tryz.underlying9 t1
      obtain ⟨s3, e3, rfl, _⟩ := DataW.trod_int Tryz.underlying3 t3
      obtain rfl := (List.cons.inj e0).1
      obtain rfl := (List.cons.inj e1).1
      obtain rfl := (List.cons.inj e3).1
      obtain ⟨l2, h2, f2, g2⟩ := open_atts t2 w2
      obtain ⟨l4, h4, f4⟩ := open_nums t4 w4
      have d0 := hat 0 (by omega)
      have d1 := hat 1 (by omega)
      have d2 := hat 2 (by omega)
      have d3 := hat 3 (by omega)
      have d4 := hat 4 (by omega)
      rw [Go.Deep.add_add, c0] at d0
      rw [Go.Deep.add_add, c1] at d1
      rw [Go.Deep.add_add, c2] at d2
      rw [Go.Deep.add_add, c3] at d3
      rw [Go.Deep.add_add, c4] at d4
      exact ⟨⟨s0, s1, l2, s3, l4⟩, ⟨v2, v4, d0, d1, d2, d3, d4, h2, h4⟩, ⟨wok_str w0, wok_str w1, by show l2.length ≤ _; omega, by show l4.length ≤ _; omega, g2⟩, f2, f4⟩)
    subst hlen
    have hall : ∀ e ∈ l, Fits e ∧ e.ats.length * 32 ≤ 140737488351232 ∧ e.ks.length * 8 ≤ 140737488351232 := fun e he => by
      obtain ⟨j, hj, rfl⟩ := List.getElem_of_mem he
      exact (hes j _ (List.getElem?_eq_getElem hj)).2
    refine ⟨l, ?_, fun e he => (hall e he).1, by omega, fun e he => (hall e he).2.1, fun e he => (hall e he).2.2⟩
    · rcases slice_at (step := 5) (w := w) hc' (fun h => by
        have hn : 0 < l.length := List.length_pos_iff.2 h
        obtain ⟨⟨_, _, c, _⟩, _⟩ := hes 0 l[0] (List.getElem?_eq_getElem hn)
        exact ⟨_, c⟩) with h | ⟨b, o, rfl, hb⟩
      · exact .inl h
      · refine .inr ⟨b, o, cap, hc', hl, hb, fun j x hx => ?_⟩
        have hh := (hes j x hx).1
        simp only [addr_add] at hh
        exact hh
set_option maxRecDepth 100000 in
/-- OPENED: a document's nodes -/
theorem open_nodes {r : Reach} {b0 : Nat} {v : Value} {d : DataW H} {p : List MemPlace} (hv : Value.okWide Tryz.prog w r b0 22 v) (h : DataW.Trod enc Tryz.prog w base spare held 22 v d p) (hw : WOk Tryz.prog 22 d) :
    ∃ l, Came l v w := by
  obtain ⟨a, len, cap, rfl⟩ := okWide_slice Tryz.underlying22 hv
  obtain ⟨fuel, hf⟩ := h
  exact open_nodes_trod hf hw
end
end Go.Proofs.YtafbghlldlconaaGreatDoor

/-
  AN ARGUMENT THAT IS A DOCUMENT WITH STATES, opened.
-/
namespace Go.Proofs.YtafbghlldlconaaGreatDoor
set_option linter.unusedVariables false
set_option linter.unusedSimpArgs false
open Go.RowKit Go.ChangeShapes Go.WideShapes Go.Deep

section
variable {H : Type} {enc : TypeId × Value → H} {w : World} {base : Nat} {spare : Nat → Bool} {held : Bool}
set_option maxRecDepth 100000 in
theorem open_ents_w {fuel : Nat} {v : Value} {x : DataW H × List MemPlace} (h : DataW.trod enc Tryz.prog w base spare held fuel 29 [v] = some x) (hw : WOk Tryz.prog 29 x.1) :
    ∃ l, Ents l v w ∧ l.length * 72 ≤ 140737488351232 := by
  rcases open_slice_w Tryz.underlying29 h hw with hc | ⟨a, len, cap, hc, hl, hby, hi⟩
  · have hc' : v = .slice none 0 0 := (List.cons.inj hc).1
    exact ⟨[], .inl ⟨rfl, none, 0, hc', fun _ => rfl⟩, by simp⟩
  · have hc' : v = .slice (some a) len cap := (List.cons.inj hc).1
    rw [show Tryz.prog.bytesOf 73 = 72 by kernel_rfl, show reachBytes = 140737488351232 by rfl] at hby
    rw [show Tryz.prog.cellsOf 73 = 5 by kernel_rfl] at hi
    obtain ⟨l, hlen, hes⟩ := list_of (α := Ent) (P := fun i e => ∀ j u, (entCells e)[j]? = some u → w.cell? (a.add (i * 5 + j)) = some u) len (fun i hil => by
      obtain ⟨cs', n, y, hcc, hty, hwy⟩ := hi i hil
      obtain ⟨_, hcl, hat⟩ := World.cells?_some hcc
      have hS := open_struct_w Tryz.underlying73 (by kernel_rfl) hty hwy (by kernel_rfl)
      obtain ⟨n0, v0, y0, c0, t0, w0⟩ := hS 0 _ rfl
      obtain ⟨n1, v1, y1, c1, t1, w1⟩ := hS 1 _ rfl
      obtain ⟨n2, v2, y2, c2, t2, w2⟩ := hS 2 _ rfl
      obtain ⟨n3, v3, y3, c3, t3, w3⟩ := hS 3 _ rfl
      obtain ⟨n4, v4, y4, c4, t4, w4⟩ := hS 4 _ rfl
      obtain ⟨s0, e0, _⟩ := DataW.trod_string Tryz.underlying9 t0
      obtain ⟨s1, e1, _⟩ := DataW.trod_string Tryz.underlying9 t1
      obtain ⟨s2, e2, _⟩ := DataW.trod_bool Tryz.underlying4 t2
      obtain ⟨s3, e3, _⟩ := DataW.trod_string Tryz.underlying9 t3
      obtain ⟨s4, e4, _⟩ := DataW.trod_string Tryz.underlying9 t4
      obtain rfl := (List.cons.inj e0).1
      obtain rfl := (List.cons.inj e1).1
      obtain rfl := (List.cons.inj e2).1
      obtain rfl := (List.cons.inj e3).1
      obtain rfl := (List.cons.inj e4).1
      have d0 := hat 0 (by omega)
      have d1 := hat 1 (by omega)
      have d2 := hat 2 (by omega)
      have d3 := hat 3 (by omega)
      have d4 := hat 4 (by omega)
      rw [Go.Deep.add_add, c0] at d0
      rw [Go.Deep.add_add, c1] at d1
      rw [Go.Deep.add_add, c2] at d2
      rw [Go.Deep.add_add, c3] at d3
      rw [Go.Deep.add_add, c4] at d4
      refine ⟨⟨s0, s1, s2, s3, s4⟩, fun j u hu => ?_⟩
      match j, hu with
      | 0, hu => cases hu; exact d0
      | 1, hu => cases hu; exact d1
      | 2, hu => cases hu; exact d2
      | 3, hu => cases hu; exact d3
      | 4, hu => cases hu; exact d4)
    subst hlen
    refine ⟨l, ?_, by omega⟩
    rcases slice_at (step := 5) (w := w) hc' (fun h => by
      have hn : 0 < l.length := List.length_pos_iff.2 h
      exact ⟨_, hes 0 l[0] (List.getElem?_eq_getElem hn) 0 _ rfl⟩) with h | ⟨b, o, rfl, hb⟩
    · exact .inl h
    · refine .inr ⟨b, o, cap, hc', hb, fun j e he i u hu => ?_⟩
      have hh := hes j e he i u hu
      rw [addr_add] at hh
      rw [Nat.add_assoc]
      exact hh
set_option maxHeartbeats 1000000 in
set_option maxRecDepth 100000 in
theorem open_ctls_w {fuel : Nat} {v : Value} {x : DataW H × List MemPlace} (h : DataW.trod enc Tryz.prog w base spare held fuel 23 [v] = some x) (hw : WOk Tryz.prog 23 x.1) :
    ∃ cs, Ctls cs v w ∧ SizedC cs := by
  rcases open_slice_w Tryz.underlying23 h hw with hc | ⟨a, len, cap, hc, hl, hby, hi⟩
  · have hc' : v = .slice none 0 0 := (List.cons.inj hc).1
    exact ⟨[], ⟨[], rfl, .inl ⟨rfl, none, 0, hc', fun _ => rfl⟩, by simp⟩, by simp, by simp⟩
  · have hc' : v = .slice (some a) len cap := (List.cons.inj hc).1
    rw [show Tryz.prog.bytesOf 104 = 64 by kernel_rfl, show reachBytes = 140737488351232 by rfl] at hby
    rw [show Tryz.prog.cellsOf 104 = 10 by kernel_rfl] at hi
    obtain ⟨L, hlen, hes⟩ := list_of (α := CtT) (P := fun i t => (∀ j u, (ctC t)[j]? = some u → w.cell? (a.add (i * 10 + j)) = some u) ∧ Ents t.1.fi t.2 w ∧ t.1.fi.length * 72 ≤ 140737488351232) len (fun i hil => by
      obtain ⟨cs', n, y, hcc, hty, hwy⟩ := hi i hil
      obtain ⟨_, hcl, hat⟩ := World.cells?_some hcc
      have hS := open_struct_w Tryz.underlying104 (by kernel_rfl) hty hwy (by kernel_rfl)
      obtain ⟨n0, v0, y0, c0, t0, w0⟩ := hS 0 _ rfl
      obtain ⟨n1, v1, y1, c1, t1, w1⟩ := hS 1 _ rfl
      obtain ⟨n2, v2, y2, c2, t2, w2⟩ := hS 2 _ rfl
      obtain ⟨n3, v3, y3, c3, t3, w3⟩ := hS 3 _ rfl
      obtain ⟨n4, v4, y4, c4, t4, w4⟩ := hS 4 _ rfl
      obtain ⟨n5, v5, y5, c5, t5, w5⟩ := hS 5 _ rfl
      obtain ⟨n6, v6, y6, c6, t6, w6⟩ := hS 6 _ rfl
      obtain ⟨n7, v7, y7, c7, t7, w7⟩ := hS 7 _ rfl
      obtain ⟨n8, v8, y8, c8, t8, w8⟩ := hS 8 _ rfl
      obtain ⟨n9, v9, y9, c9, t9, w9⟩ := hS 9 _ rfl
      obtain ⟨s0, e0, _⟩ := DataW.trod_string Tryz.underlying9 t0
      obtain ⟨s1, e1, _⟩ := DataW.trod_bool Tryz.underlying4 t1
      obtain ⟨s2, e2, _⟩ := DataW.trod_bool Tryz.underlying4 t2
      obtain ⟨s3, e3, _⟩ := DataW.trod_bool Tryz.underlying4 t3
      obtain ⟨s4, e4, _⟩ := DataW.trod_bool Tryz.underlying4 t4
      obtain ⟨s5, e5, _⟩ := DataW.trod_bool Tryz.underlying4 t5
      obtain ⟨s6, e6, _⟩ := DataW.trod_bool Tryz.underlying4 t6
      obtain ⟨s7, e7, _⟩ := DataW.trod_bool Tryz.underlying4 t7
      obtain ⟨s8, e8, _⟩ := DataW.trod_string Tryz.underlying9 t8
      obtain ⟨fi, hfi, hfl⟩ := open_ents_w t9 w9
      obtain rfl := (List.cons.inj e0).1
      obtain rfl := (List.cons.inj e1).1
      obtain rfl := (List.cons.inj e2).1
      obtain rfl := (List.cons.inj e3).1
      obtain rfl := (List.cons.inj e4).1
      obtain rfl := (List.cons.inj e5).1
      obtain rfl := (List.cons.inj e6).1
      obtain rfl := (List.cons.inj e7).1
      obtain rfl := (List.cons.inj e8).1
      have d0 := hat 0 (by omega)
      have d1 := hat 1 (by omega)
      have d2 := hat 2 (by omega)
      have d3 := hat 3 (by omega)
      have d4 := hat 4 (by omega)
      have d5 := hat 5 (by omega)
      have d6 := hat 6 (by omega)
      have d7 := hat 7 (by omega)
      have d8 := hat 8 (by omega)
      have d9 := hat 9 (by omega)
      rw [Go.Deep.add_add, c0] at d0
      rw [Go.Deep.add_add, c1] at d1
      rw [Go.Deep.add_add, c2] at d2
      rw [Go.Deep.add_add, c3] at d3
      rw [Go.Deep.add_add, c4] at d4
      rw [Go.Deep.add_add, c5] at d5
      rw [Go.Deep.add_add, c6] at d6
      rw [Go.Deep.add_add, c7] at d7
      rw [Go.Deep.add_add, c8] at d8
      rw [Go.Deep.add_add, c9] at d9
      refine ⟨(⟨s0, s1, s2, s3, s4, s5, s6, s7, s8, fi⟩, v9), fun j u hu => ?_, hfi, hfl⟩
      match j, hu with
      | 0, hu => cases hu; exact d0
      | 1, hu => cases hu; exact d1
      | 2, hu => cases hu; exact d2
      | 3, hu => cases hu; exact d3
      | 4, hu => cases hu; exact d4
      | 5, hu => cases hu; exact d5
      | 6, hu => cases hu; exact d6
      | 7, hu => cases hu; exact d7
      | 8, hu => cases hu; exact d8
      | 9, hu => cases hu; exact d9)
    subst hlen
    have hall : ∀ t ∈ L, Ents t.1.fi t.2 w ∧ t.1.fi.length * 72 ≤ 140737488351232 := fun t ht => by
      obtain ⟨j, hj, rfl⟩ := List.getElem_of_mem ht
      exact (hes j _ (List.getElem?_eq_getElem hj)).2
    refine ⟨L.map (·.1), ⟨L, rfl, ?_, fun t ht => (hall t ht).1⟩, by rw [List.length_map]; omega, fun c hc => ?_⟩
    · rcases slice_at (step := 10) (w := w) hc' (fun h => by
        have hn : 0 < L.length := List.length_pos_iff.2 h
        exact ⟨_, (hes 0 L[0] (List.getElem?_eq_getElem hn)).1 0 _ rfl⟩) with h | ⟨b, o, rfl, hb⟩
      · exact .inl h
      · refine .inr ⟨b, o, cap, hc', hl, hb, fun j e he i u hu => ?_⟩
        have hh := (hes j e he).1 i u hu
        rw [addr_add] at hh
        rw [Nat.add_assoc]
        exact hh
    · obtain ⟨t, ht, rfl⟩ := List.mem_map.1 hc
      exact (hall t ht).2
set_option maxRecDepth 100000 in
/-- OPENED: a document with states -/
theorem open_doc {r : Reach} {b0 : Nat} {v : Value} {d : DataW H} {p : List MemPlace} (hv : Value.okWide Tryz.prog w r b0 25 v) (h : DataW.Trod enc Tryz.prog w base spare held 25 v d p) (hw : WOk Tryz.prog 25 d) :
    ∃ l cs vn vc, v = .agg #[vn, vc] ∧ DocAt l cs vn vc w := by
  unfold Value.okWide at hv
  rw [Tryz.underlying25] at hv
  obtain ⟨cs, rfl, hsz, _⟩ := hv
  rw [show Tryz.prog.cellsOf 25 = 2 by kernel_rfl] at hsz
  obtain ⟨fuel, hf⟩ := h
  have hcs : cs = #[cs[0], cs[1]] := by
    apply Array.ext
    · simpa using hsz
    · intro i h1 h2
      match i, h1 with
      | 0, _ => rfl
      | 1, _ => rfl
      | n + 2, h => omega
  generalize cs[0] = v0 at hcs
  generalize cs[1] = v1 at hcs
  subst hcs
  have hS := open_struct_w Tryz.underlying25 (by kernel_rfl) hf hw (by kernel_rfl)
  obtain ⟨n0, u0, y0, c0, t0, w0⟩ := hS 0 _ rfl
  obtain ⟨n1, u1, y1, c1, t1, w1⟩ := hS 1 _ rfl
  cases c0
  cases c1
  obtain ⟨l, hl⟩ := open_nodes_trod t0 w0
  obtain ⟨cs, hc, hz⟩ := open_ctls_w t1 w1
  exact ⟨l, cs, v0, v1, rfl, ⟨hl, hc, hz⟩⟩
end
end Go.Proofs.YtafbghlldlconaaGreatDoor
