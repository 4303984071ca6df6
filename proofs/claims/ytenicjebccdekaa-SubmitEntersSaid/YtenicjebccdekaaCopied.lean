/-
  A DOCUMENT OF ITS OWN: ref10.Copied: the walk.
-/
import Derived.Test.YtenicjebccdekaaNodeRow
import Derived.Test.YtenicjebccdekaaSized
import Derived.Test.YtenicjebccdekaaSteps
import Derived.Test.YtenicjebccdekaaDraws
import Derived.Deep.RegionLaw
namespace Go.Proofs.Ytenicjebccdekaa
set_option linter.unusedVariables false
set_option linter.unusedSimpArgs false
open Go.RowKit

theorem cpS_kept {b o : Nat} {c0 c1 c2 : Value} {w1 W W' : World} (h : W.cell? ⟨b, o, none⟩ = some c0 ∧ W.cell? ⟨b, o + 1, none⟩ = some c1 ∧ W.cell? ⟨b, o + 3, none⟩ = some c2 ∧ b < w1.heap.size ∧ Below w1.heap.size w1 W) (hb : Below W.heap.size W W') :
    W'.cell? ⟨b, o, none⟩ = some c0 ∧ W'.cell? ⟨b, o + 1, none⟩ = some c1 ∧ W'.cell? ⟨b, o + 3, none⟩ = some c2 ∧ b < w1.heap.size ∧ Below w1.heap.size w1 W' := by
  obtain ⟨h0, h1, h2, he, hbe⟩ := h
  have hs := hbe.size
  exact ⟨cellK hb (by omega) h0, cellK hb (by omega) h1, cellK hb (by omega) h2, he, hbe.trans (hb.mono hs)⟩
theorem cpS_drew {b o : Nat} {c0 c1 c2 : Value} {w1 W : World} (h : W.cell? ⟨b, o, none⟩ = some c0 ∧ W.cell? ⟨b, o + 1, none⟩ = some c1 ∧ W.cell? ⟨b, o + 3, none⟩ = some c2 ∧ b < w1.heap.size ∧ Below w1.heap.size w1 W) :
    W.drew.cell? ⟨b, o, none⟩ = some c0 ∧ W.drew.cell? ⟨b, o + 1, none⟩ = some c1 ∧ W.drew.cell? ⟨b, o + 3, none⟩ = some c2 ∧ b < w1.heap.size ∧ Below w1.heap.size w1 W.drew :=
  cpS_kept h ⟨rfl, rfl, rfl, Nat.le_refl _, fun _ _ => rfl⟩
theorem cpS_alloc {b o : Nat} {c0 c1 c2 : Value} {w1 W : World} (ob : Obj) (h : W.cell? ⟨b, o, none⟩ = some c0 ∧ W.cell? ⟨b, o + 1, none⟩ = some c1 ∧ W.cell? ⟨b, o + 3, none⟩ = some c2 ∧ b < w1.heap.size ∧ Below w1.heap.size w1 W) :
    (W.alloc ob).cell? ⟨b, o, none⟩ = some c0 ∧ (W.alloc ob).cell? ⟨b, o + 1, none⟩ = some c1 ∧ (W.alloc ob).cell? ⟨b, o + 3, none⟩ = some c2 ∧ b < w1.heap.size ∧ Below w1.heap.size w1 (W.alloc ob) :=
  cpS_kept h ((Below.refl W.heap.size W).alloc (Nat.le_refl _) ob)
theorem cpS_at {b o : Nat} {c0 c1 c2 : Value} {w1 W W' : World} (h : W.cell? ⟨b, o, none⟩ = some c0 ∧ W.cell? ⟨b, o + 1, none⟩ = some c1 ∧ W.cell? ⟨b, o + 3, none⟩ = some c2 ∧ b < w1.heap.size ∧ Below w1.heap.size w1 W) (hb : Below w1.heap.size W W') :
    W'.cell? ⟨b, o, none⟩ = some c0 ∧ W'.cell? ⟨b, o + 1, none⟩ = some c1 ∧ W'.cell? ⟨b, o + 3, none⟩ = some c2 ∧ b < w1.heap.size ∧ Below w1.heap.size w1 W' := by
  obtain ⟨h0, h1, h2, he, hbe⟩ := h
  exact ⟨cellK hb he h0, cellK hb he h1, cellK hb he h2, he, hbe.trans hb⟩
/-- a world that has no name gets one -/
theorem name_world {W : World} {g : Nat} {o : Obj} (_h : W.heap[g]? = some o) : ∃ W' : World, W' = W := ⟨W, rfl⟩
theorem grown_none {W w' : World} (h : W.grownBy w' none) : Below W.heap.size W w' := (Below.refl _ W).grown h (Nat.le_refl _) (fun k hk => by cases hk)
set_option maxHeartbeats 4000000 in
set_option maxRecDepth 100000 in
theorem copied_any (l : List Nd) (v : Value) (w : World) (hZ : Sized l) (hU : Nodes l v w) :
    Calls Try.prog 16 #[v] w fun e w' => ∃ L vo, e = .returned vo ∧ Hid (L.map (·.1) = l) ∧ ON w.heap.size L vo w' ∧ Below w.heap.size w w' := by
  obtain ⟨a, cap, rfl⟩ := hU.len
  have hll := hZ.len
  go_enter Try.func16, Try.ntmps16
  go_wp2_with fail
  go_loopw [3, 4] (fun vo i wr => ∃ k L, k ≤ l.length ∧ i = .int .i64 (k : Nat) ∧ Hid (L.map (·.1) = l.take k) ∧ ON w.heap.size L vo wr ∧ Below w.heap.size w wr) (fun _ i _ => l.length - (intOf i).toNat)
  case atStart => exact ⟨0, [], Nat.zero_le _, rfl, Lib.hid rfl, ON.nil _ _, Below.refl _ _⟩
  case round =>
    obtain ⟨k, L, hk, rfl, hL, hON, hbel⟩ := hrel
    have hsz := hbel.size
    by_cases hlt : k < l.length
    · have hUr := hU.kept hbel
      obtain ⟨b, o, cap', va, vk, hv, hb, c0, c1, c2, c3, c4, hat, hks⟩ := hUr.at hlt
      cases hv
      have hza := hZ.at' _ (List.getElem_mem hlt)
      have hzk := hZ.ki' _ (List.getElem_mem hlt)
      have hLk := Lib.hid (show L.map (·.1) ++ [l[k]] = l.take (k + 1) by rw [hL.out, List.take_succ_eq_append_getElem hlt])
      have hLl := Lib.hid (show L.length = k by have := congrArg List.length hL.out; rw [List.length_map, List.length_take] at this; omega)
      generalize l[k] = x at *
      have hk0 : (0 : Int) ≤ (k : Int) := by omega
      have hk1 : (k : Int) < (l.length : Int) := by omega
      have hS1 := And.intro c0 (And.intro c1 (And.intro c3 (And.intro hb (Below.refl wr.heap.size wr))))
      obtain ⟨a1, cap1, rfl⟩ := hat.len
      obtain ⟨a2, cap2, rfl⟩ := hks.len
      go_upto_region 5 with fail
      go_cut [5] (fun s5 wx => ∃ g, s5 = .pointer (some ⟨g, 0, none⟩) ∧ wx.heap[g]? = some (.cells #[.string x.nm, .string x.tx, .slice none 0 0, .int .i64 x.pa, .slice none 0 0] 35 (0, 0)) ∧ wr.heap.size ≤ g ∧ Below wr.heap.size wr wx)
      case first =>
        go_region_held3 (fun W => W.cell? ⟨b, o + k * 5, none⟩ = some (.string x.nm) ∧ W.cell? ⟨b, o + k * 5 + 1, none⟩ = some (.string x.tx) ∧ W.cell? ⟨b, o + k * 5 + 3, none⟩ = some (.int .i64 x.pa) ∧ b < wr.heap.size ∧ Below wr.heap.size wr W) (with_reducible first | assumption | exact cpS_drew (by assumption) | exact cpS_alloc _ (by assumption) | exact cpS_drew (cpS_alloc _ hS1) | exact cpS_alloc _ (cpS_drew hS1) | exact cpS_kept (by assumption) (by assumption) | exact cpS_at (by assumption) (below_re _ _ _ (by assumption)) | exact cpS_at (by assumption) (set5_below _ _ _ _ _ _ _ (by first | assumption | exact Nat.le_refl _))) ((first
          | fail))
        all_goals
          go_wp2_with fail
          go_meet
          exact ⟨_, rfl, Go.heap_alloc_new _ _, Nat.le_refl _, (by assumption : _ ∧ _ ∧ _ ∧ _ ∧ _).2.2.2.2⟩
      case rest =>
        obtain ⟨g, rfl, hg, hgw, hb1⟩ := hcut
        obtain ⟨W1, rfl⟩ := name_world hg
        have hgs := (Array.getElem?_eq_some_iff.1 hg).1
        have hs1 := hb1.size
        obtain ⟨x0, x1, x2, x3, x4, f0, f1, f2, f3, f4⟩ := five_of hg
        have d2 := cellK hb1 hb c2
        have d4 := cellK hb1 hb c4
        have hat1 := hat.kept hb1
        have hks1 := hks.kept hb1
        have hON1 := hON.kept hb1
        have hsb : w.heap.size ≤ W1.heap.size := by omega
        have hby1 : (([] : List At).length + x.ats.length) * 32 ≤ 140737488355328 := by rw [List.length_nil]; omega
        go_upto_region 6 with fail
        go_cut [] (fun wy => ∃ aq capq, wy.heap[g]? = some (.cells #[.string x.nm, .string x.tx, .slice aq x.ats.length capq, .int .i64 x.pa, .slice none 0 0] 35 (0, 0)) ∧ OA w.heap.size x.ats (.slice aq x.ats.length capq) wy ∧ Below wr.heap.size wr wy)
        case first =>
          first | go_region_law ((first
            | (refine step_append_atts (W := W1.drew) (base := w.heap.size) (l := []) rfl _ _ rfl rfl rfl hat1 rfl (World.ownsRow_nil _ _ _ _) hby1 hsb ?_; intro v' w3 hA3 hg3 _; obtain ⟨aq, capq, rfl, _⟩ := own_form hA3; have hb3 : Below W1.heap.size W1 w3 := ((Below.refl _ W1).drew).trans (grown_none hg3); have zz := blk_kept hb3 hg; obtain ⟨_, _, _, _, _, _, _, _, _, _⟩ := five_of zz))) | fail
          all_goals
            go_wp2_with fail
            go_meet
            exact ⟨aq, capq, setCell_heap (i := 2) _ zz, own_set hA3 zz (by decide), (hb1.trans (hb3.mono hs1)).setCell hgw _⟩
        case rest =>
          obtain ⟨aq, capq, hg2, hA2, hb2⟩ := hcut
          obtain ⟨W2, rfl⟩ := name_world hg2
          have hgs2 := (Array.getElem?_eq_some_iff.1 hg2).1
          have hs2 := hb2.size
          clear x0 x1 x2 x3 x4 f0 f1 f2 f3 f4 d2 d4 hat1 hks1 hON1 hg hs1
          obtain ⟨x0, x1, x2, x3, x4, f0, f1, f2, f3, f4⟩ := five_of hg2
          have d4 := cellK hb2 hb c4
          have hks2 := hks.kept hb2
          have hsb2 : w.heap.size ≤ W2.heap.size := by omega
          have hby2 : (([] : List Int).length + x.ks.length) * 8 ≤ 140737488355328 := by rw [List.length_nil]; omega
          go_upto_region 7 with fail
          go_cut [] (fun wy => ∃ aq' capq', wy.heap[g]? = some (.cells #[.string x.nm, .string x.tx, .slice aq x.ats.length capq, .int .i64 x.pa, .slice aq' x.ks.length capq'] 35 (0, 0)) ∧ OA w.heap.size x.ats (.slice aq x.ats.length capq) wy ∧ OI w.heap.size x.ks (.slice aq' x.ks.length capq') wy ∧ Below wr.heap.size wr wy)
          case first =>
            first | go_region_law ((first
              | (refine step_append_nums (W := W2.drew) (base := w.heap.size) (l := []) rfl _ _ rfl rfl rfl hks2 rfl (World.ownsRow_nil _ _ _ _) hby2 hsb2 ?_; intro v' w3 hI3 hg3 _; obtain ⟨ap, capp, rfl, _⟩ := own_form hI3; have hb3 : Below W2.heap.size W2 w3 := ((Below.refl _ W2).drew).trans (grown_none hg3); have hA3 := own_keep hA2 hb3; have zz := blk_kept hb3 hg2; obtain ⟨_, _, _, _, _, _, _, _, _, _⟩ := five_of zz))) | fail
            all_goals
              go_wp2_with fail
              go_meet
              exact ⟨ap, capp, setCell_heap (i := 4) _ zz, own_set hA3 zz (by decide), own_set hI3 zz (by decide), (hb2.trans (hb3.mono hs2)).setCell hgw _⟩
          case rest =>
            obtain ⟨ap, capp, hg3, hA3, hI3, hb3⟩ := hcut
            obtain ⟨W3, rfl⟩ := name_world hg3
            have hs3 := hb3.size
            clear x0 x1 x2 x3 x4 f0 f1 f2 f3 f4 d4 hks2 hA2 hb2
            obtain ⟨x0, x1, x2, x3, x4, f0, f1, f2, f3, f4⟩ := five_of hg3
            have hON3 := hON.kept hb3
            have hby3 : (L.length + 1) * 88 ≤ 140737488355328 := by rw [hLl.out]; omega
            have hsb3 : w.heap.size ≤ W3.heap.size := by omega
            clear f0 f1 f2 f3 f4 c0 c1 c2 c3 c4 hat hks
            go_wp2_with (at_builtin; refine wpList_append_node rfl _ _ rfl rfl rfl x _ _ hON3 hA3 hI3 hby3 hsb3 ?_; intro v5 w5 hON5 hb5)
            go_roundw
            case rel => exact ⟨k + 1, L ++ [(x, _, _)], by omega, by go_num, Lib.hid (by rw [List.map_append, ← hLk.out]; rfl), hON5, (hbel.trans (hb3.mono hsz)).trans hb5⟩
            case measure => simp [intOf]; omega
    · obtain rfl : k = l.length := by omega
      have hR := Lib.hid (show L.map (·.1) = l by rw [hL.out, List.take_of_length_le (Nat.le_refl _)])
      go_wp2_with fail
      go_ret
      exact ⟨L, _, rfl, hR, hON, hbel⟩
/-- what the copy reads -/
theorem copied_nodes (l : List Nd) (v : Value) (w : World) (hC : Came l v w) :
    Calls Try.prog 16 #[v] w fun e w' => ∃ vo, e = .returned vo ∧ Came l vo w' ∧ Below w.heap.size w w' :=
  (copied_any l v w hC.sized hC.nodes).mono fun _ _ ⟨L, vo, he, hL, hON, hb⟩ => ⟨vo, he, ⟨by have := hON.nodes; rwa [hL.out] at this, hC.fits, hC.sized⟩, hb⟩
end Go.Proofs.Ytenicjebccdekaa
