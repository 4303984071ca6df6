import Derived.Test.YtafbghlldlconaaGreatPart11
import Derived.Test.YtafbghlldlconaaGreatPart6
import Derived.Test.YtafbghlldlconaaGreatPart13
import Derived.Deep.RegionHeld3
import Derived.Deep.RegionWith
import Derived.StillTail
import Derived.StillTailTactics
import Derived.Test.YtafbghlldlconaaGreatPart1
import Derived.BigQuiet
/-
  OPTIONS by the document: ref15.Owner, List, Off, Text: the walks.
-/
namespace Go.Proofs.YtafbghlldlconaaGreat
set_option linter.unusedVariables false
set_option linter.unusedSimpArgs false
open Go.RowKit PT

theorem grp_toList : (⟨#[111, 112, 116, 103, 114, 111, 117, 112]⟩ : ByteArray).toList = [111, 112, 116, 103, 114, 111, 117, 112] := by rw [ByteArray.toList_eq]
theorem sel_toList : (⟨#[115, 101, 108, 101, 99, 116]⟩ : ByteArray).toList = [115, 101, 108, 101, 99, 116] := by rw [ByteArray.toList_eq]
theorem opt_toList : (⟨#[111, 112, 116, 105, 111, 110]⟩ : ByteArray).toList = [111, 112, 116, 105, 111, 110] := by rw [ByteArray.toList_eq]
theorem disA_at2 {l : List Nd} {k : Nat} (hk : k < l.length) : disA l k = (atO l[k].ats ⟨#[100, 105, 115, 97, 98, 108, 101, 100]⟩).isSome := by unfold disA; rw [atsOf_at hk]
theorem ownR_neg {l : List Nd} {k : Int} (h : selUp l k < 0) : ownR l k = -1 := if_pos (.inl h)
theorem ownR_no {l : List Nd} {k : Int} (h : nmOf l (selUp l k) ≠ ⟨#[115, 101, 108, 101, 99, 116]⟩) : ownR l k = -1 := if_pos (.inr h)
theorem ownR_yes {l : List Nd} {k : Int} (h0 : 0 ≤ selUp l k) (h : nmOf l (selUp l k) = ⟨#[115, 101, 108, 101, 99, 116]⟩) : ownR l k = selUp l k := if_neg (fun e => e.elim (fun a => by omega) (fun a => a h))
set_option maxHeartbeats 1000000 in
set_option maxRecDepth 100000 in
theorem refOwner15_any (l : List Nd) (v : Value) (K : Nat) (hkl : K < l.length) (hRP : RightP l) (w : World) (hU : Nodes l v w) :
    Calls Tryz.prog 78 #[v, .int .i64 K] w fun e w' => e = .returned (.int .i64 (ownR l K)) ∧ Below w.heap.size w w' := by
  have hmax := hRP.max
  obtain ⟨b, o, cap, va, vk, rfl, hb, c0, c1, c2, c3, c4, hat, hks⟩ := hU.at hkl
  have hpa := paOf_at hkl
  rw [← hpa] at c3
  have hp0 := hRP.pa_ge (c := (K : Int)) (by omega) (by omega)
  have hp1 := hRP.pa_lt (c := (K : Int)) (by omega) (by omega)
  have hK0 : (0 : Int) ≤ (K : Int) := by omega
  have hK1 : (K : Int) < (l.length : Int) := by omega
  have hS := show selUp l (K : Nat) = if 0 ≤ paOf l (K : Nat) ∧ nmOf l (paOf l (K : Nat)) = ⟨#[111, 112, 116, 103, 114, 111, 117, 112]⟩ then paOf l (paOf l (K : Nat)) else paOf l (K : Nat) from rfl
  clear hpa
  generalize paOf l (K : Nat) = p at *
  by_cases hp : 0 ≤ p
  case neg =>
    have hR := Lib.hid (ownR_neg (l := l) (k := (K : Nat)) (by rw [hS, if_neg (fun h => hp h.1)]; omega))
    have q1 : decide (0 ≤ p) = false := decide_eq_false hp
    have q2 : decide (p < 0) = true := decide_eq_true (by omega)
    have q3 : p < 0 := by omega
    clear hS
    go_enter Tryz.func78, Tryz.ntmps78
    go_wp2_with fail
    go_ret
    exact ⟨ret_int hR.out.symm, Below.refl _ _⟩
  obtain ⟨q, rfl⟩ := Int.eq_ofNat_of_zero_le hp
  have hql : q < l.length := by omega
  obtain ⟨b6, o6, cap6, wa, wk, hv6, hb6, e0, e1, e2, e3, e4, hat6, hks6⟩ := hU.at hql
  cases hv6
  have hnq := nmOf_at hql
  have hpq := paOf_at hql
  rw [← hnq] at e0
  rw [← hpq] at e3
  have hq0 : (0 : Int) ≤ (q : Int) := by omega
  have hq1 : (q : Int) < (l.length : Int) := by omega
  have q1 : decide ((0 : Int) ≤ (q : Int)) = true := decide_eq_true hq0
  have q2 : decide ((q : Int) < 0) = false := decide_eq_false (by omega)
  clear hnq hpq hp hp0 hp1
  have hp2 := hRP.pa_ge (c := (q : Int)) (by omega) (by omega)
  have hp3 := hRP.pa_lt (c := (q : Int)) (by omega) (by omega)
  by_cases hg : nmOf l (q : Nat) = ⟨#[111, 112, 116, 103, 114, 111, 117, 112]⟩
  · have hS2 := hS.trans (if_pos ⟨hq0, hg⟩)
    have g1 := sTrue hg
    rw [grp_toList] at g1
    clear hS hg
    obtain ⟨p2, hpp⟩ : ∃ p2, paOf l (q : Nat) = p2 := ⟨_, rfl⟩
    rw [hpp] at hS2 e3 hp2 hp3
    clear hpp
    by_cases hpz : 0 ≤ p2
    case neg =>
      have hR := Lib.hid (ownR_neg (l := l) (k := (K : Nat)) (by rw [hS2]; omega))
      have q3 : decide (p2 < 0) = true := decide_eq_true (by omega)
      have q4 : p2 < 0 := by omega
      clear hS2
      generalize nmOf l (q : Nat) = nm at *
      go_enter Tryz.func78, Tryz.ntmps78
      go_wp2_with fail
      go_ret
      exact ⟨ret_int hR.out.symm, Below.refl _ _⟩
    obtain ⟨u, rfl⟩ := Int.eq_ofNat_of_zero_le hpz
    have hul : u < l.length := by omega
    obtain ⟨b7, o7, cap7, ya, yk, hv7, hb7, f0, f1, f2, f3, f4, hat7, hks7⟩ := hU.at hul
    cases hv7
    have hnu := nmOf_at hul
    rw [← hnu] at f0
    have hu0 : (0 : Int) ≤ (u : Int) := by omega
    have hu1 : (u : Int) < (l.length : Int) := by omega
    have q3 : decide ((u : Int) < 0) = false := decide_eq_false (by omega)
    clear hnu
    by_cases hs : nmOf l (u : Nat) = ⟨#[115, 101, 108, 101, 99, 116]⟩
    · have hR := Lib.hid (show ownR l (K : Nat) = (u : Nat) from (ownR_yes (by rw [hS2]; omega) (by rw [hS2]; exact hs)).trans hS2)
      have g2 := sTrue hs
      rw [sel_toList] at g2
      clear hS2 hs
      generalize nmOf l (q : Nat) = nm at *
      generalize nmOf l (u : Nat) = nu at *
      go_enter Tryz.func78, Tryz.ntmps78
      go_wp2_with fail
      go_ret
      exact ⟨ret_int hR.out.symm, Below.refl _ _⟩
    · have hR := Lib.hid (ownR_no (l := l) (k := (K : Nat)) (by rw [hS2]; exact hs))
      have g2 := sFalse hs
      rw [sel_toList] at g2
      clear hS2 hs
      generalize nmOf l (q : Nat) = nm at *
      generalize nmOf l (u : Nat) = nu at *
      go_enter Tryz.func78, Tryz.ntmps78
      go_wp2_with fail
      go_ret
      exact ⟨ret_int hR.out.symm, Below.refl _ _⟩
  · have hS2 := hS.trans (if_neg (fun h => hg h.2))
    have g1 := sFalse hg
    rw [grp_toList] at g1
    clear hS hg
    by_cases hs : nmOf l (q : Nat) = ⟨#[115, 101, 108, 101, 99, 116]⟩
    · have hR := Lib.hid (show ownR l (K : Nat) = (q : Nat) from (ownR_yes (by rw [hS2]; omega) (by rw [hS2]; exact hs)).trans hS2)
      have g2 := sTrue hs
      rw [sel_toList] at g2
      clear hS2 hs
      generalize nmOf l (q : Nat) = nm at *
      go_enter Tryz.func78, Tryz.ntmps78
      go_wp2_with fail
      go_ret
      exact ⟨ret_int hR.out.symm, Below.refl _ _⟩
    · have hR := Lib.hid (ownR_no (l := l) (k := (K : Nat)) (by rw [hS2]; exact hs))
      have g2 := sFalse hs
      rw [sel_toList] at g2
      clear hS2 hs
      generalize nmOf l (q : Nat) = nm at *
      go_enter Tryz.func78, Tryz.ntmps78
      go_wp2_with fail
      go_ret
      exact ⟨ret_int hR.out.symm, Below.refl _ _⟩
set_option maxHeartbeats 2000000 in
set_option maxRecDepth 100000 in
theorem refOptList_any (l : List Nd) (v : Value) (id : Int) (hl : l.length ≤ 1000000000000000000) (hz : ∀ x ∈ l, Fits x) (w : World) (hU : Nodes l v w) :
    Calls Tryz.prog 52 #[v, .int .i64 id] w fun e w' => ∃ vo, e = .returned vo ∧ OV w.heap.size 3 (ints (listF l id)) vo w' ∧ Below w.heap.size w w' := by
  obtain ⟨a, cap, rfl⟩ := hU.len
  cases hh : isF l id 23
  · have HH := Lib.hid hh
    have hR := Lib.hid (show listF l id = [] by unfold listF; rw [hh]; rfl)
    clear hh
    go_enter Tryz.func52, Tryz.ntmps52
    go_wp2_with fail
    refine (refIs15_any l _ id 23 hl hz _ hU).mono ?_
    rintro e w' ⟨rfl, hb⟩
    rw [HH.out]
    go_wp2_with fail
    go_ret
    exact ⟨_, rfl, by rw [hR.out]; exact OV.nil _ _ _, hb⟩
  have HH := Lib.hid hh
  have hc := (isF_30 (by omega)).1 hh
  have hRP := (rightB_iff l).1 hc.1
  obtain ⟨i0, i1⟩ := kindF_pos (l := l) (k := id) (by omega)
  have hks := hc.2
  rw [kindF_in i0 i1, kOf_sel i0 i1] at hks
  have hR := Lib.hid (show listF l id = (ord l id).filter (optR l id) by unfold listF; rw [hh, if_pos rfl, opts_same hRP i0 i1 hks])
  have hlen := ord_len hRP i0 i1
  have hmem := Lib.hid (fun k (h : k ∈ ord l id) => ord_mem hRP i0 i1 h)
  have HP := Lib.hid (fun k => show optR l id k = (decide (nmOf l k = ⟨#[111, 112, 116, 105, 111, 110]⟩) && decide (ownR l k = id)) from rfl)
  obtain ⟨K, rfl⟩ := Int.eq_ofNat_of_zero_le i0
  have hkl : K < l.length := by omega
  have hmax := hRP.max
  clear hh hc hks
  go_enter Tryz.func52, Tryz.ntmps52
  go_wp2_with fail
  refine (refIs15_any l _ _ 23 hl hz _ hU).mono ?_
  rintro e w1 ⟨rfl, hb1⟩
  rw [HH.out]
  go_wp2_with fail
  refine (refOrder_any l hRP K hkl _ _ hz (hU.kept hb1)).mono ?_
  generalize ord l (K : Nat) = I at hlen hmem hR ⊢
  rintro e w3 ⟨vo, rfl, hov, hb3⟩
  obtain ⟨a1, c1, rfl, _⟩ := hov.form
  rw [ints_len] at hov ⊢
  have hb13 := bs hb1 hb3
  have hg3 := hb13.size
  go_wp2_with fail
  go_loopw [5, 7] (fun vo i wr => ∃ k : Nat, k ≤ I.length ∧ i = .int .i64 k ∧ OV w3.heap.size 3 (ints ((I.take k).filter (optR l (K : Nat)))) vo wr ∧ Below w3.heap.size w3 wr) (fun _ i _ => I.length - (intOf i).toNat)
  case atStart => exact ⟨0, Nat.zero_le _, rfl, OV.nil _ _ _, Below.refl _ _⟩
  case round =>
    obtain ⟨k, hk, rfl, ho, hbel⟩ := hrel
    have hb0r := hb13.trans (hbel.mono hg3)
    have hsz := hbel.size
    by_cases hlt : k < I.length
    · obtain ⟨c0, c1', _⟩ := hmem.out I[k] (List.getElem_mem hlt)
      have hov' := hov.kept hbel
      obtain ⟨g, gc, hv, _, hcell⟩ := hov'.at (by intro e; have := congrArg List.length e; rw [ints_len, List.length_nil] at this; omega)
      rw [ints_len] at hv
      cases hv
      have hgb : g < wr.heap.size := by
        have := (World.ownsRow.lt hov' g rfl).2
        omega
      have hcc := hcell k (.int .i64 I[k]) (by rw [ints, List.getElem?_map, List.getElem?_eq_getElem hlt]; rfl)
      have hfs := Lib.hid (filter_snoc (p := optR l (K : Nat)) hlt)
      have hfl : ((I.take k).filter (optR l (K : Nat))).length ≤ k := Nat.le_trans (List.length_filter_le _ _) (List.length_take_le _ _)
      have hk0 : (0 : Int) ≤ (k : Int) := by omega
      have hk1 : (k : Int) < (I.length : Int) := by omega
      have hp := HP.out I[k]
      generalize I[k] = c at *
      obtain ⟨q, rfl⟩ := Int.eq_ofNat_of_zero_le c0
      have hq : q < l.length := by omega
      obtain ⟨b6, o6, cap6, wa, wk, hv6, hb6, e0, e1, e2, e3, e4, hat6, hks6⟩ := (hU.kept hb0r).at hq
      cases hv6
      have hnq := nmOf_at hq
      rw [← hnq] at e0
      have hq0 : (0 : Int) ≤ (q : Int) := by omega
      have hq1 : (q : Int) < (l.length : Int) := by omega
      clear hnq
      by_cases hn : nmOf l (q : Nat) = ⟨#[111, 112, 116, 105, 111, 110]⟩
      case neg =>
        have hE := Lib.hid (show (if optR l (K : Nat) (q : Nat) = true then [(q : Int)] else []) = ([] : List Int) by rw [hp, decide_eq_false hn]; rfl)
        have g1 := sFalse hn
        rw [opt_toList] at g1
        clear hp hn
        generalize nmOf l (q : Nat) = nm at *
        go_wp2_with fail
        go_roundw
        case rel => exact ⟨k + 1, by omega, by go_num, by rw [hfs.out, hE.out, List.append_nil]; exact ho, hbel⟩
        case measure => simp [intOf]; omega
      have g1 := sTrue hn
      rw [opt_toList] at g1
      by_cases hf : ownR l (q : Nat) = (K : Nat)
      · have hE := Lib.hid (show (if optR l (K : Nat) (q : Nat) = true then [(q : Int)] else []) = [(q : Int)] by rw [hp, decide_eq_true hn, decide_eq_true hf]; rfl)
        have HF := Lib.hid hf
        have hrun := refOwner15_any l _ q hq hRP _ (hU.kept hb0r)
        clear hp hn hf
        generalize nmOf l (q : Nat) = nm at *
        go_wp2_with fail
        refine hrun.mono ?_
        rintro e w6 ⟨rfl, hb6'⟩
        rw [HF.out]
        have hcc6 := cellK hb6' hgb hcc
        have hb36 := bs hbel hb6'
        have ho6 := ho.kept hb6'
        have hg6 := hb36.size
        go_wp2_with (at_builtin; refine wpList_append_cell rfl _ _ 39 3 rfl Tryz.underlying39 info_i64 rfl (by decide) rfl rfl (.int .i64 (q : Nat)) rfl ho6 (by rw [ints_len]; omega) hg6 ?_; intro v' w7 hov7 hb7)
        go_roundw
        case rel => exact ⟨k + 1, by omega, by go_num, by rw [hfs.out, hE.out, ints_snoc]; exact hov7, hb36.trans hb7⟩
        case measure => simp [intOf]; omega
      · have hE := Lib.hid (show (if optR l (K : Nat) (q : Nat) = true then [(q : Int)] else []) = ([] : List Int) by rw [hp, decide_eq_false hf, Bool.and_false]; rfl)
        have HF := Lib.hid (intNe hf)
        have hrun := refOwner15_any l _ q hq hRP _ (hU.kept hb0r)
        clear hp hn hf
        generalize nmOf l (q : Nat) = nm at *
        go_wp2_with fail
        refine hrun.mono ?_
        rintro e w6 ⟨rfl, hb6'⟩
        have hq2 := HF.out
        go_wp2_with fail
        go_roundw
        case rel => exact ⟨k + 1, by omega, by go_num, by rw [hfs.out, hE.out, List.append_nil]; exact ho.kept hb6', bs hbel hb6'⟩
        case measure => simp [intOf]; omega
    · obtain rfl : k = I.length := by omega
      go_wp2_with fail
      go_ret
      exact ⟨_, rfl, by rw [hR.out]; rw [List.take_length] at ho; exact ov_base ho hg3, bs hb13 hbel⟩
set_option maxHeartbeats 1000000 in
set_option maxRecDepth 100000 in
theorem refOff_any (l : List Nd) (v : Value) (id : Int) (hl : l.length ≤ 1000000000000000000) (hz : ∀ x ∈ l, Fits x) (w : World) (hU : Nodes l v w) :
    Calls Tryz.prog 53 #[v, .int .i64 id] w fun e w' => e = .returned (.bool (offF l id)) ∧ Below w.heap.size w w' := by
  obtain ⟨a, cap, rfl⟩ := hU.len
  have hOF := show offF l id = (isF l id 32 && offA l id) from rfl
  cases hi : isF l id 32
  · have HI := Lib.hid hi
    have hR := Lib.hid (show offF l id = false by rw [hOF, hi]; rfl)
    clear hi hOF
    go_enter Tryz.func53, Tryz.ntmps53
    go_wp2_with fail
    refine (refIs15_any l _ id 32 hl hz _ hU).mono ?_
    rintro e w2 ⟨rfl, hb2⟩
    rw [HI.out]
    go_wp2_with fail
    go_ret
    exact ⟨ret_bool hR.out.symm, hb2⟩
  have HI := Lib.hid hi
  have hc := (isF_30 (by omega)).1 hi
  obtain ⟨i0, i1⟩ := kindF_pos (l := l) (k := id) (by omega)
  have hRP := (rightB_iff l).1 hc.1
  obtain ⟨K, rfl⟩ := Int.eq_ofNat_of_zero_le i0
  have hkl : K < l.length := by omega
  have hO := show offF l (K : Nat) = (disA l (K : Nat) || (decide (0 ≤ paOf l (K : Nat)) && (decide (kOf l (paOf l (K : Nat)) = 33) && disA l (paOf l (K : Nat))))) by rw [hOF, hi]; rfl
  clear hi hc hOF
  have hmax := hRP.max
  obtain ⟨b, o, cap, va, vk, hv, hb, c0, c1, c2, c3, c4, hat, hks⟩ := hU.at hkl
  cases hv
  obtain ⟨z1, z2⟩ := hRP.vals _ (List.getElem_mem hkl)
  have hpa := paOf_at hkl
  rw [disA_at2 hkl] at hO
  rw [← hpa] at c3
  have hp0 := hRP.pa_ge (c := (K : Int)) (by omega) (by omega)
  have hp1 := hRP.pa_lt (c := (K : Int)) (by omega) (by omega)
  clear hpa
  generalize paOf l (K : Nat) = p at *
  obtain ⟨nd, hx⟩ : ∃ nd, l[K] = nd := ⟨_, rfl⟩
  rw [hx] at c0 c1 hat z1 z2 hO
  clear hx
  have hHas := fun (W : World) (hb : Below w.heap.size w W) => refHas15_any ⟨nd.nm, nd.tx, nd.ats, p, []⟩ va vk ⟨#[100, 105, 115, 97, 98, 108, 101, 100]⟩ z1 W (hat.kept hb)
  have HHas := Lib.hid (show ∀ (W : World), Below w.heap.size w W → Calls Tryz.prog 74 #[.agg #[.string nd.nm, .string nd.tx, va, .int .i64 p, vk], .string ⟨#[100, 105, 115, 97, 98, 108, 101, 100]⟩] W fun e w' => e = .returned (.bool (atO nd.ats ⟨#[100, 105, 115, 97, 98, 108, 101, 100]⟩).isSome) ∧ Below W.heap.size W w' from hHas)
  have hK0 : (0 : Int) ≤ (K : Int) := by omega
  have hK1 : (K : Int) < (l.length : Int) := by omega
  clear hHas
  cases hs : (atO nd.ats ⟨#[100, 105, 115, 97, 98, 108, 101, 100]⟩).isSome
  case true =>
    have HS := Lib.hid hs
    have hR := Lib.hid (show offF l (K : Nat) = true by rw [hO, hs]; rfl)
    clear hs hO
    go_enter Tryz.func53, Tryz.ntmps53
    go_wp2_with fail
    refine (refIs15_any l _ _ 32 hl hz _ hU).mono ?_
    rintro e w2 ⟨rfl, hb2⟩
    rw [HI.out]
    have d0 := cellK hb2 hb c0
    have d1 := cellK hb2 hb c1
    have d2 := cellK hb2 hb c2
    have d3 := cellK hb2 hb c3
    have d4 := cellK hb2 hb c4
    go_wp2_with fail
    refine (HHas.out _ hb2).mono ?_
    rintro e w3 ⟨rfl, hb3⟩
    rw [HS.out]
    go_wp2_with fail
    go_ret
    exact ⟨ret_bool hR.out.symm, bs hb2 hb3⟩
  rw [hs, Bool.false_or] at hO
  have HS := Lib.hid hs
  clear hs
  by_cases hp : 0 ≤ p
  case neg =>
    have hR := Lib.hid (show offF l (K : Nat) = false by rw [hO, decide_eq_false hp]; rfl)
    have hq : decide (0 ≤ p) = false := decide_eq_false hp
    clear hO
    go_enter Tryz.func53, Tryz.ntmps53
    go_wp2_with fail
    refine (refIs15_any l _ _ 32 hl hz _ hU).mono ?_
    rintro e w2 ⟨rfl, hb2⟩
    rw [HI.out]
    have d0 := cellK hb2 hb c0
    have d1 := cellK hb2 hb c1
    have d2 := cellK hb2 hb c2
    have d3 := cellK hb2 hb c3
    have d4 := cellK hb2 hb c4
    go_wp2_with fail
    refine (HHas.out _ hb2).mono ?_
    rintro e w3 ⟨rfl, hb3⟩
    rw [HS.out]
    go_wp2_with fail
    go_ret
    exact ⟨ret_bool hR.out.symm, bs hb2 hb3⟩
  rw [decide_eq_true hp, Bool.true_and] at hO
  obtain ⟨q, rfl⟩ := Int.eq_ofNat_of_zero_le hp
  have hql : q < l.length := by omega
  obtain ⟨b6, o6, cap6, wa, wk, hv6, hb6, e0, e1, e2, e3, e4, hat6, hks6⟩ := hU.at hql
  cases hv6
  obtain ⟨y1, y2⟩ := hRP.vals _ (List.getElem_mem hql)
  have hdq := disA_at2 hql
  have hkq := (kOf_grp (l := l) (k := (q : Int)) (by omega) (by omega))
  rw [nmOf_at hql] at hkq
  rw [hdq] at hO
  generalize l[q] = y at *
  have hq0 : (0 : Int) ≤ (q : Int) := by omega
  have hq1 : (q : Int) < (l.length : Int) := by omega
  have q1 : decide ((0 : Int) ≤ (q : Int)) = true := decide_eq_true hq0
  clear hdq hp hp0 hp1
  by_cases hk : kOf l (q : Nat) = 33
  · have hR := Lib.hid (hO.trans (by rw [decide_eq_true hk, Bool.true_and]))
    have g1 := sTrue (hkq.1 hk)
    rw [grp_toList] at g1
    clear hk hO hkq
    go_enter Tryz.func53, Tryz.ntmps53
    go_wp2_with fail
    refine (refIs15_any l _ _ 32 hl hz _ hU).mono ?_
    rintro e w2 ⟨rfl, hb2⟩
    rw [HI.out]
    have d0 := cellK hb2 hb c0
    have d1 := cellK hb2 hb c1
    have d2 := cellK hb2 hb c2
    have d3 := cellK hb2 hb c3
    have d4 := cellK hb2 hb c4
    go_wp2_with fail
    refine (HHas.out _ hb2).mono ?_
    rintro e w3 ⟨rfl, hb3⟩
    rw [HS.out]
    have hb23 := bs hb2 hb3
    have f0 := cellK hb23 hb6 e0
    have f1 := cellK hb23 hb6 e1
    have f2 := cellK hb23 hb6 e2
    have f3 := cellK hb23 hb6 e3
    have f4 := cellK hb23 hb6 e4
    go_wp2_with fail
    refine (refHas15_any y wa wk ⟨#[100, 105, 115, 97, 98, 108, 101, 100]⟩ y1 _ (hat6.kept hb23)).mono ?_
    rintro e w4 ⟨rfl, hb4⟩
    go_wp2_with fail
    go_ret
    exact ⟨ret_bool hR.out.symm, bs hb23 hb4⟩
  · have hR := Lib.hid (show offF l (K : Nat) = false by rw [hO, decide_eq_false hk]; rfl)
    have g1 := sFalse (fun e => hk (hkq.2 e))
    rw [grp_toList] at g1
    clear hk hO hkq
    go_enter Tryz.func53, Tryz.ntmps53
    go_wp2_with fail
    refine (refIs15_any l _ _ 32 hl hz _ hU).mono ?_
    rintro e w2 ⟨rfl, hb2⟩
    rw [HI.out]
    have d0 := cellK hb2 hb c0
    have d1 := cellK hb2 hb c1
    have d2 := cellK hb2 hb c2
    have d3 := cellK hb2 hb c3
    have d4 := cellK hb2 hb c4
    go_wp2_with fail
    refine (HHas.out _ hb2).mono ?_
    rintro e w3 ⟨rfl, hb3⟩
    rw [HS.out]
    have hb23 := bs hb2 hb3
    have f0 := cellK hb23 hb6 e0
    have f1 := cellK hb23 hb6 e1
    have f2 := cellK hb23 hb6 e2
    have f3 := cellK hb23 hb6 e3
    have f4 := cellK hb23 hb6 e4
    go_wp2_with fail
    go_ret
    exact ⟨ret_bool hR.out.symm, hb23⟩
set_option maxHeartbeats 1000000 in
set_option maxRecDepth 100000 in
theorem refText15_any (l : List Nd) (v : Value) (id : Int) (hl : l.length ≤ 1000000000000000000) (hz : ∀ x ∈ l, Fits x) (w : World) (hU : Nodes l v w) :
    Calls Tryz.prog 54 #[v, .int .i64 id] w fun e w' => e = .returned (.string (textO l id)) ∧ Below w.heap.size w w' := by
  obtain ⟨a, cap, rfl⟩ := hU.len
  cases hi : isF l id 32
  · have HI := Lib.hid hi
    have hR := Lib.hid (show textO l id = ⟨#[]⟩ by unfold textO; rw [hi]; rfl)
    clear hi
    go_enter Tryz.func54, Tryz.ntmps54
    go_wp2_with fail
    refine (refIs15_any l _ id 32 hl hz _ hU).mono ?_
    rintro e w2 ⟨rfl, hb2⟩
    rw [HI.out]
    go_wp2_with fail
    go_ret
    exact ⟨by rw [hR.out]; rfl, hb2⟩
  have HI := Lib.hid hi
  have hc := (isF_30 (by omega)).1 hi
  obtain ⟨i0, i1⟩ := kindF_pos (l := l) (k := id) (by omega)
  have hRP := (rightB_iff l).1 hc.1
  obtain ⟨K, rfl⟩ := Int.eq_ofNat_of_zero_le i0
  have hkl : K < l.length := by omega
  have hsz := txtF_size hRP (i := (K : Int)) (by omega) (by omega)
  have hV := show textO l (K : Nat) = match atO (atsOf l (K : Nat)) vAt with | some s => s | none => ⟨(collapse (txtF l (K : Nat)).data.toList).toArray⟩ by
    unfold textO
    rw [hi]
    rfl
  rw [atsOf_at hkl] at hV
  clear hi hc
  obtain ⟨b, o, cap, va, vk, hv, hb, c0, c1, c2, c3, c4, hat, hks⟩ := hU.at hkl
  cases hv
  obtain ⟨z1, z2⟩ := hRP.vals _ (List.getElem_mem hkl)
  generalize l[K] = nd at *
  have hK0 : (0 : Int) ≤ (K : Int) := by omega
  have hK1 : (K : Int) < (l.length : Int) := by omega
  cases ha : atO nd.ats vAt with
  | none =>
    have hR := Lib.hid (show textO l (K : Nat) = ⟨(collapse (txtF l (K : Nat)).data.toList).toArray⟩ by rw [hV, ha])
    have HA := Lib.hid ha
    clear hV ha
    go_enter Tryz.func54, Tryz.ntmps54
    go_wp2_with fail
    refine (refIs15_any l _ _ 32 hl hz _ hU).mono ?_
    rintro e w2 ⟨rfl, hb2⟩
    rw [HI.out]
    have d2 := cellK hb2 hb c2
    go_wp2_with fail
    refine (refAttr14_any nd.ats _ vAt z1 _ (hat.kept hb2)).mono ?_
    rw [HA.out]
    unfold atT
    rintro e w3 ⟨rfl, rfl⟩
    go_wp2_with fail
    refine (refTreeText_any l _ K hkl hRP _ (hU.kept hb2)).mono ?_
    rintro e w4 ⟨rfl, hb4⟩
    go_wp2_with fail
    refine (refCollapse_any _ _ (by omega)).mono ?_
    rintro e w5 ⟨rfl, hb5⟩
    go_wp2_with fail
    go_ret
    exact ⟨by rw [hR.out]; rfl, bs (bs hb2 hb4) hb5⟩
  | some s =>
    have hR := Lib.hid (show textO l (K : Nat) = s by rw [hV, ha])
    have HA := Lib.hid ha
    clear hV ha
    go_enter Tryz.func54, Tryz.ntmps54
    go_wp2_with fail
    refine (refIs15_any l _ _ 32 hl hz _ hU).mono ?_
    rintro e w2 ⟨rfl, hb2⟩
    rw [HI.out]
    have d2 := cellK hb2 hb c2
    go_wp2_with fail
    refine (refAttr14_any nd.ats _ vAt z1 _ (hat.kept hb2)).mono ?_
    rw [HA.out]
    unfold atT
    rintro e w3 ⟨rfl, rfl⟩
    go_wp2_with fail
    go_ret
    exact ⟨by rw [hR.out]; rfl, hb2⟩
end Go.Proofs.YtafbghlldlconaaGreat

/-
  WHAT IS DISABLED by the document: ref16.spared, ref16.Disabled: the walks.
-/
namespace Go.Proofs.YtafbghlldlconaaGreat
set_option linter.unusedVariables false
set_option linter.unusedSimpArgs false
open Go.RowKit PT

theorem leg_toList : (⟨#[108, 101, 103, 101, 110, 100]⟩ : ByteArray).toList = [108, 101, 103, 101, 110, 100] := by rw [ByteArray.toList_eq]
theorem set_toList : (⟨#[102, 105, 101, 108, 100, 115, 101, 116]⟩ : ByteArray).toList = [102, 105, 101, 108, 100, 115, 101, 116] := by rw [ByteArray.toList_eq]
theorem legQ_hit {l : List Nd} {f : Int} {k : Nat} (hk : k < (ksOf l f).length) (hno : ∀ x ∈ (ksOf l f).take k, decide (nmOf l x = ⟨#[108, 101, 103, 101, 110, 100]⟩) = false) (h : nmOf l (ksOf l f)[k] = ⟨#[108, 101, 103, 101, 110, 100]⟩) : legQ l f = some (ksOf l f)[k] := by
  unfold legQ
  rw [List.find?_eq_some_iff_getElem]
  refine ⟨decide_eq_true h, k, hk, rfl, fun j hj => ?_⟩
  have := hno (ksOf l f)[j] (by
    rw [List.mem_take_iff_getElem]
    exact ⟨j, by omega, rfl⟩)
  simpa using this
theorem legQ_none {l : List Nd} {f : Int} (hno : ∀ x ∈ ksOf l f, decide (nmOf l x = ⟨#[108, 101, 103, 101, 110, 100]⟩) = false) : legQ l f = none := by
  unfold legQ
  rw [List.find?_eq_none]
  intro x hx
  rw [hno x hx]
  exact Bool.false_ne_true
set_option maxHeartbeats 4000000 in
set_option maxRecDepth 100000 in
theorem spared_any (l : List Nd) (v : Value) (K F : Nat) (hkl : K < l.length) (hfl : F < l.length) (hRP : RightP l) (w : World) (hU : Nodes l v w) :
    Calls Tryz.prog 76 #[v, .int .i64 K, .int .i64 F] w fun e w' => e = .returned (.bool (spB l K F)) ∧ w = w' := by
  obtain ⟨a, cap, rfl⟩ := hU.len
  obtain ⟨b, o, cap', va, vk, hv, hb, c0, c1, c2, c3, c4, hat, hks⟩ := hU.at hfl
  cases hv
  have hke := ksOf_at hfl
  have hkid := Lib.hid (fun (c : Int) (hc : c ∈ ksOf l F) => hRP.kid (k := (F : Int)) (by omega) (by omega) hc)
  have hhit := Lib.hid (fun k hk hno h => legQ_hit (l := l) (f := F) (k := k) hk hno h)
  have hnone := Lib.hid (fun h => legQ_none (l := l) (f := F) h)
  have hkn := hRP.nodup (k := (F : Int)) (by omega) (by omega)
  have hkz : (ksOf l (F : Int)).length ≤ 400 := Nat.le_trans (nodup_len hkn (fun c' hc' => ⟨(hRP.kid (by omega) (by omega) hc').1, (hRP.kid (by omega) (by omega) hc').2.1⟩)) hRP.max
  have hSp := Lib.hid (show spB l K F = match legQ l F with | some k => decide (k = (K : Int)) || withinF l k (paOf l K) | none => false from rfl)
  rw [hke] at hkz hkid hhit hnone
  clear hkn hke
  generalize l[F] = x at *
  obtain ⟨a2, cap2, rfl⟩ := hks.len
  have hF0 : (0 : Int) ≤ (F : Int) := by omega
  have hF1 : (F : Int) < (l.length : Int) := by omega
  go_enter Tryz.func76, Tryz.ntmps76
  go_wp2_with fail
  go_loop [7] (fun i => ∃ k : Nat, k ≤ x.ks.length ∧ i = .int .i64 k ∧ Hid (∀ c ∈ x.ks.take k, decide (nmOf l c = ⟨#[108, 101, 103, 101, 110, 100]⟩) = false)) (fun i => x.ks.length - (intOf i).toNat)
  case atStart => exact ⟨0, Nat.zero_le _, rfl, Lib.hid (by simp)⟩
  case round =>
    obtain ⟨k, hk, rfl, hA⟩ := hrel
    by_cases hlt : k < x.ks.length
    · obtain ⟨kb, ko, kcap', kv, khb, kc0⟩ := hks.at hlt
      cases kv
      obtain ⟨d0, d1, _⟩ := hkid.out x.ks[k] (List.getElem_mem hlt)
      have hT := Lib.hid (fun h => take_mem_snoc (P := fun c => decide (nmOf l c = ⟨#[108, 101, 103, 101, 110, 100]⟩) = false) hlt hA.out h)
      have hH := Lib.hid (fun h => hhit.out k hlt hA.out h)
      have hk0 : (0 : Int) ≤ (k : Int) := by omega
      have hk1 : (k : Int) < (x.ks.length : Int) := by omega
      generalize x.ks[k] = c at *
      obtain ⟨q, rfl⟩ := Int.eq_ofNat_of_zero_le d0
      have hq : q < l.length := by omega
      have hnm := nmOf_at hq
      obtain ⟨b2, o2, cap2', va2, vk2, hv, hb2, g0, g1, g2, g3, g4, _, _⟩ := hU.at hq
      cases hv
      by_cases hn : nmOf l (q : Nat) = ⟨#[108, 101, 103, 101, 110, 100]⟩
      · have hN := hH.out hn
        have hN := Lib.hid (show spB l K F = (decide ((q : Int) = (K : Int)) || withinF l q (paOf l K)) by rw [hSp.out, hN])
        rw [hnm] at hn
        have q1 := sTrue hn
        rw [leg_toList] at q1
        clear hn hnm
        generalize l[q] = y at *
        by_cases e : (q : Int) = (K : Int)
        · have hM := Lib.hid (show spB l K F = true by rw [hN.out, decide_eq_true e]; rfl)
          have q3 : ((q : Int) == (K : Int)) = true := by rw [e]; exact beq_self_eq_true _
          have q4 : decide ((q : Int) = (K : Int)) = true := decide_eq_true e
          have q5 : q = K := by omega
          clear e
          subst q5
          go_wp2_with fail
          go_ret
          exact ⟨ret_bool hM.out.symm, rfl⟩
        · have hM := Lib.hid (show spB l K F = withinF l q (paOf l K) by rw [hN.out, decide_eq_false e]; rfl)
          have q3 := intNe e
          have q4 : decide (q = K) = false := decide_eq_false (by omega)
          have q5 : (q == K) = false := by rw [beq_eq_false_iff_ne]; omega
          clear e
          go_wp2_with fail
          refine (refWithin_any l _ K q hkl hRP _ hU).mono ?_
          rintro e w2 ⟨rfl, rfl⟩
          go_wp2_with fail
          go_ret
          exact ⟨ret_bool hM.out.symm, rfl⟩
      · have hN := Lib.hid (hT.out (decide_eq_false hn))
        rw [hnm] at hn
        have q1 := sFalse hn
        rw [leg_toList] at q1
        clear hn hnm
        generalize l[q] = y at *
        go_wp2_with fail
        go_round
        case rel => exact ⟨k + 1, by omega, by go_num, hN⟩
        case measure => simp [intOf]; omega
    · obtain rfl : k = x.ks.length := by omega
      have hN := hnone.out (by have := hA.out; rwa [List.take_of_length_le (Nat.le_refl _)] at this)
      have hN := Lib.hid (show spB l K F = false by rw [hSp.out, hN])
      go_wp2_with fail
      go_ret
      exact ⟨ret_bool hN.out.symm, rfl⟩
theorem upDis_none {l : List Nd} (h : RightP l) {id : Int} (h0 : 0 ≤ id) (h1 : id < l.length) (hno : ∀ f : Nat, f < l.length → setQ l id f = false) : upDis l id = false := by
  cases hu : upDis l id
  · rfl
  · obtain ⟨f, f0, f1, hf⟩ := (upDis_iff h h0 h1).1 hu
    obtain ⟨q, rfl⟩ := Int.eq_ofNat_of_zero_le f0
    rw [hno q (by omega)] at hf
    cases hf
set_option maxHeartbeats 4000000 in
set_option maxRecDepth 100000 in
theorem refDisabled_any (l : List Nd) (v : Value) (id : Int) (hl : l.length ≤ 1000000000000000000) (hz : ∀ x ∈ l, Fits x) (w : World) (hU : Nodes l v w) :
    Calls Tryz.prog 51 #[v, .int .i64 id] w fun e w' => e = .returned (.bool (disF l id)) ∧ Below w.heap.size w w' := by
  obtain ⟨a, cap, rfl⟩ := hU.len
  cases hh : hasB l id
  · have HH := Lib.hid hh
    have hR := Lib.hid (disF_out hh)
    clear hh
    go_enter Tryz.func51, Tryz.ntmps51
    go_wp2_with fail
    refine (refHas10_any l _ id hl hz _ hU).mono ?_
    rintro e w' ⟨rfl, hb⟩
    rw [HH.out]
    go_wp2_with fail
    go_ret
    exact ⟨ret_bool hR.out.symm, hb⟩
  have HH := Lib.hid hh
  obtain ⟨i0, i1, hRP⟩ := (hasB_iff l id).1 hh
  have hD := disF_in hRP i0 i1
  obtain ⟨K, rfl⟩ := Int.eq_ofNat_of_zero_le i0
  have hkl : K < l.length := by omega
  clear hh
  obtain ⟨k0, k1⟩ := kindF_range l (K : Nat)
  rw [kindF_in i0 i1] at k0 k1
  obtain ⟨kk, hkk⟩ : ∃ kk, kOf l (K : Nat) = kk := ⟨_, rfl⟩
  rw [hkk] at k0 k1 hD
  have HKI := Lib.hid hkk
  clear hkk
  by_cases hA : submB kk = false ∧ kk ≠ 29
  · obtain ⟨hL, h29⟩ := hA
    have hR := Lib.hid (show disF l (K : Nat) = false by rw [hD, hL, decide_eq_false h29]; simp)
    have HL := Lib.hid hL
    have q1 : (kk == 29) = false := intNe h29
    have q2 : (kk != 29) = true := by rw [bne, q1]; rfl
    clear hL h29 hD
    go_enter Tryz.func51, Tryz.ntmps51
    go_wp2_with fail
    refine (refHas10_any l _ _ hl hz _ hU).mono ?_
    rintro e w1 ⟨rfl, hb1⟩
    rw [HH.out]
    go_wp2_with fail
    refine (ref16Kind_any l _ K hkl hRP _ (hU.kept hb1)).mono ?_
    rintro e w2 ⟨rfl, hb2⟩
    rw [HKI.out]
    go_wp2_with fail
    refine (refIs2_any kk k0 k1 _).mono ?_
    rintro e w3 ⟨rfl, rfl⟩
    rw [HL.out]
    go_wp2_with fail
    go_ret
    exact ⟨ret_bool hR.out.symm, bs hb1 hb2⟩
  have hS : (submB kk || decide (kk = 29)) = true := by
    cases hs : submB kk
    · rw [decide_eq_true (by by_cases e : kk = 29; exact e; exact absurd ⟨hs, e⟩ hA)]; rfl
    · rfl
  rw [hS, Bool.true_and] at hD
  obtain ⟨b9, HL, hq⟩ : ∃ b, Hid (submB kk = b) ∧ (b = true ∨ (b = false ∧ Hid ((kk == 29) = true) ∧ Hid ((kk != 29) = false))) := by
    by_cases hs : submB kk = true
    · exact ⟨true, Lib.hid hs, .inl rfl⟩
    · have hs' : submB kk = false := by simpa using hs
      have e : kk = 29 := by by_cases e : kk = 29; exact e; exact absurd ⟨hs', e⟩ hA
      exact ⟨false, Lib.hid hs', .inr ⟨rfl, by unfold Hid; rw [e]; rfl, by unfold Hid; rw [e]; rfl⟩⟩
  clear hS hA
  have hmax := hRP.max
  have hD := Lib.hid hD
  have hdA := Lib.hid (show disA l (K : Nat) = (atO l[K].ats ⟨#[100, 105, 115, 97, 98, 108, 101, 100]⟩).isSome by unfold disA; rw [atsOf_at hkl])
  have hal := one_ats (hRP.node K _ (List.getElem?_eq_getElem hkl)).1
  have hK0 : (0 : Int) ≤ (K : Int) := by omega
  have hK1 : (K : Int) < (l.length : Int) := by omega
  have hyes := Lib.hid (fun (f : Nat) (hf : f < l.length) (h : setQ l (K : Nat) f = true) => (upDis_iff hRP i0 i1).2 ⟨f, by omega, by omega, h⟩)
  have hno := Lib.hid (fun h => upDis_none hRP i0 i1 h)
  go_enter Tryz.func51, Tryz.ntmps51
  go_wp2_with fail
  refine (refHas10_any l _ _ hl hz _ hU).mono ?_
  rintro e w1 ⟨rfl, hb1⟩
  rw [HH.out]
  go_wp2_with fail
  refine (ref16Kind_any l _ K hkl hRP _ (hU.kept hb1)).mono ?_
  rintro e w2 ⟨rfl, hb2⟩
  rw [HKI.out]
  have hb02 := bs hb1 hb2
  go_wp2_with fail
  refine (refIs2_any kk k0 k1 _).mono ?_
  rintro e w3 ⟨rfl, rfl⟩
  rw [HL.out]
  obtain ⟨b, o, cap', va, vk, hv, hb, c0, c1, c2, c3, c4, hat, hks⟩ := (hU.kept hb02).at hkl
  cases hv
  generalize l[K] = x at *
  obtain ⟨a1, cap1, rfl⟩ := hat.len
  obtain ⟨a2, cap2, rfl⟩ := hks.len
  rcases hq with rfl | ⟨rfl, hq1, hq2⟩
  case' inr => have q1 := hq1.out; have q2 := hq2.out
  all_goals
    go_wp2_with fail
    refine (refHas15_any x _ _ ⟨#[100, 105, 115, 97, 98, 108, 101, 100]⟩ (by omega) _ hat).mono ?_
    rintro e w4 ⟨rfl, hb4⟩
    have hb04 := bs hb02 hb4
    have hg4 := hb04.size
    rw [← hdA.out]
    cases hda : disA l (K : Nat)
    case true =>
      have hR := Lib.hid (show disF l (K : Nat) = true by rw [hD.out, hda]; rfl)
      clear hda
      go_wp2_with fail
      go_ret
      exact ⟨ret_bool hR.out.symm, hb04⟩
    have hR := Lib.hid (show disF l (K : Nat) = upDis l (K : Nat) by rw [hD.out, hda]; rfl)
    clear hda
    go_wp2_with fail
    go_loopw [6] (fun i wr => ∃ k : Nat, k ≤ l.length ∧ i = .int .i64 k ∧ Hid (∀ f : Nat, f < k → setQ l (K : Nat) f = false) ∧ Below w4.heap.size w4 wr) (fun i _ => l.length - (intOf i).toNat)
    case atStart => exact ⟨0, Nat.zero_le _, rfl, Lib.hid (fun f hf => absurd hf (Nat.not_lt_zero _)), Below.refl _ _⟩
    case round =>
      obtain ⟨f, hfl, rfl, hA, hbel⟩ := hrel
      have hb0r := hb04.trans (hbel.mono hg4)
      by_cases hlt : f < l.length
      · have hstep := Lib.hid (fun (h : setQ l (K : Nat) f = false) => show ∀ g : Nat, g < f + 1 → setQ l (K : Nat) g = false from fun g hg => by
          by_cases e : g = f
          · rw [e]; exact h
          · exact hA.out g (by omega))
        have hs := show setQ l (K : Nat) f = (decide (nmOf l f = ⟨#[102, 105, 101, 108, 100, 115, 101, 116]⟩) && (disA l f && (withinF l f (paOf l (K : Nat)) && !spB l (K : Nat) f))) from rfl
        have hhit := Lib.hid (hyes.out f hlt)
        have hal2 := one_ats (hRP.node f _ (List.getElem?_eq_getElem hlt)).1
        have hdP := Lib.hid (show disA l (f : Nat) = (atO l[f].ats ⟨#[100, 105, 115, 97, 98, 108, 101, 100]⟩).isSome by unfold disA; rw [atsOf_at hlt])
        have hUr := hU.kept hb0r
        obtain ⟨b2, o2, cap2, va2, vk2, hv, hbb, g0, g1, g2, g3, g4, hat2, hks2⟩ := hUr.at hlt
        cases hv
        rw [nmOf_at hlt] at hs
        have hf0 : (0 : Int) ≤ (f : Int) := by omega
        have hf1 : (f : Int) < (l.length : Int) := by omega
        have hfz : f < 1000000000000000000 := by omega
        generalize l[f] = y at *
        obtain ⟨a3, cap3, rfl⟩ := hat2.len
        obtain ⟨a4, cap4, rfl⟩ := hks2.len
        by_cases hn : y.nm = ⟨#[102, 105, 101, 108, 100, 115, 101, 116]⟩
        case neg =>
          have hN := Lib.hid (hstep.out (by rw [hs, decide_eq_false hn]; rfl))
          have q1 := sFalse hn
          rw [set_toList] at q1
          clear hn hs
          go_wp2_with fail
          go_roundw
          case rel => exact ⟨f + 1, by omega, by go_num, hN, hbel⟩
          case measure => simp [intOf]; omega
        rw [decide_eq_true hn, Bool.true_and] at hs
        have q1 := sTrue hn
        rw [set_toList] at q1
        clear hn
        cases hda : disA l (f : Nat)
        case false =>
          have hN := Lib.hid (hstep.out (by rw [hs, hda]; rfl))
          have HD := Lib.hid (hdP.out.symm.trans hda)
          clear hda hs
          go_wp2_with fail
          refine (refHas15_any y _ _ ⟨#[100, 105, 115, 97, 98, 108, 101, 100]⟩ (by omega) _ hat2).mono ?_
          rintro e w5 ⟨rfl, hb5⟩
          rw [HD.out]
          go_wp2_with fail
          go_roundw
          case rel => exact ⟨f + 1, by omega, by go_num, hN, bs hbel hb5⟩
          case measure => simp [intOf]; omega
        have HD := Lib.hid (hdP.out.symm.trans hda)
        rw [hda, Bool.true_and] at hs
        clear hda
        cases hw : withinF l (f : Nat) (paOf l (K : Nat))
        case false =>
          have hN := Lib.hid (hstep.out (by rw [hs, hw]; rfl))
          have HW := Lib.hid hw
          clear hw hs
          go_wp2_with fail
          refine (refHas15_any y _ _ ⟨#[100, 105, 115, 97, 98, 108, 101, 100]⟩ (by omega) _ hat2).mono ?_
          rintro e w5 ⟨rfl, hb5⟩
          rw [HD.out]
          go_wp2_with fail
          refine (refWithin_any l _ K (f : Nat) hkl hRP _ (hUr.kept hb5)).mono ?_
          rintro e w6 ⟨rfl, rfl⟩
          rw [HW.out]
          go_wp2_with fail
          go_roundw
          case rel => exact ⟨f + 1, by omega, by go_num, hN, bs hbel hb5⟩
          case measure => simp [intOf]; omega
        have HW := Lib.hid hw
        rw [hw, Bool.true_and] at hs
        clear hw
        cases hsp : spB l (K : Nat) (f : Nat)
        case true =>
          have hN := Lib.hid (hstep.out (by rw [hs, hsp]; rfl))
          have HS := Lib.hid hsp
          clear hsp hs
          go_wp2_with fail
          refine (refHas15_any y _ _ ⟨#[100, 105, 115, 97, 98, 108, 101, 100]⟩ (by omega) _ hat2).mono ?_
          rintro e w5 ⟨rfl, hb5⟩
          rw [HD.out]
          go_wp2_with fail
          refine (refWithin_any l _ K (f : Nat) hkl hRP _ (hUr.kept hb5)).mono ?_
          rintro e w6 ⟨rfl, rfl⟩
          rw [HW.out]
          go_wp2_with fail
          refine (spared_any l _ K f hkl hlt hRP _ (hUr.kept hb5)).mono ?_
          rintro e w6 ⟨rfl, rfl⟩
          rw [HS.out]
          go_wp2_with fail
          go_roundw
          case rel => exact ⟨f + 1, by omega, by go_num, hN, bs hbel hb5⟩
          case measure => simp [intOf]; omega
        have hN := Lib.hid (hhit.out (by rw [hs, hsp]; rfl))
        have HS := Lib.hid hsp
        clear hsp hs
        go_wp2_with fail
        refine (refHas15_any y _ _ ⟨#[100, 105, 115, 97, 98, 108, 101, 100]⟩ (by omega) _ hat2).mono ?_
        rintro e w5 ⟨rfl, hb5⟩
        rw [HD.out]
        go_wp2_with fail
        refine (refWithin_any l _ K (f : Nat) hkl hRP _ (hUr.kept hb5)).mono ?_
        rintro e w6 ⟨rfl, rfl⟩
        rw [HW.out]
        go_wp2_with fail
        refine (spared_any l _ K f hkl hlt hRP _ (hUr.kept hb5)).mono ?_
        rintro e w6 ⟨rfl, rfl⟩
        rw [HS.out]
        go_wp2_with fail
        go_ret
        exact ⟨ret_bool (by rw [hR.out, hN.out]), bs hb0r hb5⟩
      · obtain rfl : f = l.length := by omega
        have hN := Lib.hid (hno.out hA.out)
        go_wp2_with fail
        go_ret
        exact ⟨ret_bool (by rw [hR.out, hN.out]), hb0r⟩
end Go.Proofs.YtafbghlldlconaaGreat

/-
  DOES A CONTROL ADD ANYTHING, by the document: ref22.Adds: the walk.
-/
namespace Go.Proofs.YtafbghlldlconaaGreat
set_option linter.unusedVariables false
set_option linter.unusedSimpArgs false
open Go.RowKit PT

set_option maxHeartbeats 2000000 in
set_option maxRecDepth 100000 in
theorem refAdds_any (l : List Nd) (cs : List Ct) (vn vc : Value) (K : Nat) (sub : Int) (hkl : K < l.length) (hRP : RightP l) (hll : l.length = cs.length) (w : World) (hD : DocAt l cs vn vc w) :
    Calls Tryz.prog 25 #[.agg #[vn, vc], .int .i64 K, .int .i64 sub] w fun e w' => e = .returned (.bool (addB l cs K sub)) ∧ Below w.heap.size w w' := by
  have hmax := hD.nodes.len
  have hfits := hD.nodes.fits
  obtain ⟨a1, cap1, rfl⟩ := hD.nodes.nodes.len
  obtain ⟨a2, cap2, rfl⟩ := hD.ctls.len
  obtain ⟨hD1, hb1, hs1, c0, c1⟩ := doc_box (T := 25) hD
  have hkc : K < cs.length := by omega
  have hHB := hasB_yes hRP (k := (K : Int)) (by omega) (by omega)
  obtain ⟨b, o, cap', va, vk, hv, hb, e0, e1, e2, e3, e4, hat, hks⟩ := hD1.nodes.nodes.at hkl
  cases hv
  obtain ⟨b', o', cap'', vf, hv, hb', ⟨x0, x1, x2, x3, x4, x5, x6, x7, x8, x9⟩, hEn⟩ := hD1.ctls.at hkc
  cases hv
  have z1 := one_ats (hRP.node K _ (List.getElem?_eq_getElem hkl)).1
  have z3 := one_vals (hRP.node K _ (List.getElem?_eq_getElem hkl)).1
  have hA := show addB l cs (K : Nat) sub = (if 0 ≤ upB l (K : Nat) dlS ∨ disF l (K : Nat) = true then false
    else if kOf l (K : Nat) = 20 then decide (((K : Nat) : Int) = sub)
    else if (nmF l (K : Nat)).size = 0 ∨ kOf l (K : Nat) = 22 ∨ kOf l (K : Nat) = 21 ∨ kOf l (K : Nat) = 26 ∨ kOf l (K : Nat) = 27 then false
    else if kOf l (K : Nat) = 19 ∨ kOf l (K : Nat) = 25 then decide (((K : Nat) : Int) = sub)
    else if kOf l (K : Nat) = 16 ∨ kOf l (K : Nat) = 17 then (ctOf cs (K : Nat)).ch
    else true) from rfl
  have hU := show upB l (K : Nat) dlS = nearF l dlS (paOf l (K : Nat)) from if_pos hHB
  rw [hU, kOf_at hkl, ctOf_at hkc] at hA
  have hnm := show (atO l[K].ats nameS).getD ⟨#[]⟩ = nmF l (K : Nat) by unfold nmF; rw [atsOf_at hkl]
  obtain ⟨nd, hnd⟩ : ∃ nd, l[K] = nd := ⟨_, rfl⟩
  rw [hnd] at e0 e1 e3 hat hks z1 z3 hA hnm
  obtain ⟨ch, hch⟩ : ∃ ch, cs[K].ch = ch := ⟨_, rfl⟩
  rw [hch] at x3 hA
  clear hnd hch hU x0 x1 x2 x4 x5 x6 x7 x8 x9 hEn hHB hll
  obtain ⟨k0, k1⟩ := kindOf_range nd
  obtain ⟨kk, hkk⟩ : ∃ kk, kindOf nd = kk := ⟨_, rfl⟩
  rw [hkk] at hA k0 k1
  have HK := Lib.hid hkk
  obtain ⟨u, hu0⟩ : ∃ u, nearF l dlS (paOf l (K : Nat)) = u := ⟨_, rfl⟩
  rw [hu0] at hA
  have HU := Lib.hid hu0
  obtain ⟨nm, hnme⟩ : ∃ nm, nmF l (K : Nat) = nm := ⟨_, rfl⟩
  rw [hnme] at hA hnm
  have HN := Lib.hid hnm
  have HA := Lib.hid hA
  have hK0 : (0 : Int) ≤ (K : Int) := by omega
  have hK1 : (K : Int) < (l.length : Int) := by omega
  have hK2 : (K : Int) < (cs.length : Int) := by omega
  clear hkk hu0 hnme hnm hA
  go_enter Tryz.func25, Tryz.ntmps25
  go_wp2_with fail
  generalize World.alloc w _ = W1 at hD1 hb1 hs1 c0 c1 hat hks e0 e1 e2 e3 e4 x3 hb hb' ⊢
  refine (refOf11_any nd va vk (by omega) (fun a ha => Nat.le_trans (z3 a ha) (by omega)) _ hat).mono ?_
  rintro e w2 ⟨rfl, hb2⟩
  rw [HK.out]
  have d0 := cellK hb2 (by omega) c0
  have f2 := cellK hb2 hb e2
  go_wp2_with fail
  refine (refAttr14_any nd.ats _ nameS (by omega) _ (hat.kept hb2)).mono ?_
  unfold atT
  rintro e w3 ⟨rfl, rfl⟩
  rw [HN.out]
  have hD2 := hD1.kept hb2
  go_wp2_with fail
  refine (refUp_any l _ K dlS hkl hRP _ hD2.nodes.nodes).mono ?_
  rintro e w3 ⟨rfl, rfl⟩
  rw [HU.out]
  have hbw := bs hb1 hb2
  by_cases hu : 0 ≤ u
  · have hR := Lib.hid (HA.out.trans (if_pos (.inl hu)))
    have hu1 : decide (0 ≤ u) = true := decide_eq_true hu
    go_wp2_with fail
    go_ret
    exact ⟨ret_bool hR.out.symm, hbw⟩
  have hu1 : decide (0 ≤ u) = false := decide_eq_false hu
  cases hd : disF l (K : Nat)
  case true =>
    have hR := Lib.hid (HA.out.trans (if_pos (.inr hd)))
    have HD := Lib.hid hd
    clear hd hu
    go_wp2_with fail
    refine (refDisabled_any l _ (K : Nat) hmax hfits _ hD2.nodes.nodes).mono ?_
    rintro e w4 ⟨rfl, hb4⟩
    rw [HD.out]
    go_wp2_with fail
    go_ret
    exact ⟨ret_bool hR.out.symm, bs hbw hb4⟩
  have hA2 := HA.out.trans (if_neg (fun h => by
    rcases h with h | h
    · exact hu h
    · rw [hd] at h; cases h))
  have HA2 := Lib.hid hA2
  have HD := Lib.hid hd
  clear hA2 hd hu
  go_wp2_with fail
  refine (refDisabled_any l _ (K : Nat) hmax hfits _ hD2.nodes.nodes).mono ?_
  rintro e w4 ⟨rfl, hb4⟩
  rw [HD.out]
  have hb24 := bs hb2 hb4
  have g1 := cellK hb24 (by omega) c1
  have y3 := cellK hb24 hb' x3
  have hbe := bs hbw hb4
  clear d0 f2 hb2 hb4 hb24 hu1 c0 c1 x3 e0 e1 e2 e3 e4 hat hks
  by_cases h20 : kk = 20
  · have hR := HA2.out.trans (if_pos h20)
    subst h20
    by_cases hs : ((K : Nat) : Int) = sub
    · have hR := Lib.hid (hR.trans (decide_eq_true hs))
      have qs : (((K : Nat) : Int) == sub) = true := by rw [hs]; exact beq_self_eq_true _
      clear hs
      go_wp2_with fail
      go_ret
      exact ⟨ret_bool hR.out.symm, hbe⟩
    · have hR := Lib.hid (hR.trans (decide_eq_false hs))
      have qs := intNe hs
      clear hs
      go_wp2_with fail
      go_ret
      exact ⟨ret_bool hR.out.symm, hbe⟩
  have hA3 := HA2.out.trans (if_neg h20)
  by_cases hz : nm.size = 0
  · have hR := Lib.hid (hA3.trans (if_pos (.inl hz)))
    have q20 := intNe h20
    have qz : ((nm.size : Int) == 0) = true := by rw [hz]; rfl
    have qz2 : (nm.size == 0) = true := by rw [hz]; rfl
    clear h20 hA3
    go_wp2_with fail
    go_ret
    exact ⟨ret_bool hR.out.symm, hbe⟩
  have qz : ((nm.size : Int) == 0) = false := intNe (by omega)
  by_cases hA : kk = 22 ∨ kk = 21 ∨ kk = 26 ∨ kk = 27
  · have hR := Lib.hid (hA3.trans (if_pos (.inr hA)))
    clear h20 hA3 hz
    rcases hA with rfl | rfl | rfl | rfl
    all_goals
      go_wp2_with fail
      go_ret
      exact ⟨ret_bool hR.out.symm, hbe⟩
  have hA4 := hA3.trans (if_neg (fun h => h.elim hz hA))
  clear hA3 hz
  by_cases hF : kk = 19 ∨ kk = 25
  · have hR0 := hA4.trans (if_pos hF)
    clear hA h20 hA4
    by_cases hs : ((K : Nat) : Int) = sub
    · have hR := Lib.hid (hR0.trans (decide_eq_true hs))
      have qs : (((K : Nat) : Int) == sub) = true := by rw [hs]; exact beq_self_eq_true _
      clear hs hR0
      rcases hF with rfl | rfl
      all_goals
        go_wp2_with fail
        go_ret
        exact ⟨ret_bool hR.out.symm, hbe⟩
    · have hR := Lib.hid (hR0.trans (decide_eq_false hs))
      have qs := intNe hs
      clear hs hR0
      rcases hF with rfl | rfl
      all_goals
        go_wp2_with fail
        go_ret
        exact ⟨ret_bool hR.out.symm, hbe⟩
  have hA5 := hA4.trans (if_neg hF)
  by_cases hC : kk = 16 ∨ kk = 17
  · have hR := Lib.hid (hA5.trans (if_pos hC))
    clear hA h20 hA4 hA5 hF
    rcases hC with rfl | rfl
    all_goals
      go_wp2_with fail
      go_ret
      exact ⟨ret_bool hR.out.symm, hbe⟩
  have hR := Lib.hid (hA5.trans (if_neg hC))
  have q20 := intNe h20
  have q22 := intNe (show kk ≠ 22 from fun h => hA (.inl h))
  have q21 := intNe (show kk ≠ 21 from fun h => hA (.inr (.inl h)))
  have q26 := intNe (show kk ≠ 26 from fun h => hA (.inr (.inr (.inl h))))
  have q27 := intNe (show kk ≠ 27 from fun h => hA (.inr (.inr (.inr h))))
  have q16 := intNe (show kk ≠ 16 from fun h => hC (.inl h))
  have q17 := intNe (show kk ≠ 17 from fun h => hC (.inr h))
  have q19 := intNe (show kk ≠ 19 from fun h => hF (.inl h))
  have q25 := intNe (show kk ≠ 25 from fun h => hF (.inr h))
  clear hA hA4 hA5 hC hF h20
  go_wp2_with fail
  go_ret
  exact ⟨ret_bool hR.out.symm, hbe⟩
end Go.Proofs.YtafbghlldlconaaGreat

/-
  A CONTROL's ENTRIES by the document: ref22.Of: the walk.
-/
namespace Go.Proofs.YtafbghlldlconaaGreat
set_option linter.unusedVariables false
set_option linter.unusedSimpArgs false
open Go.RowKit PT

/-- 'out = append(out, e)' in a region that draws its order: the entry lies in the block g -/
theorem step_append_ent {W : World} {ops : Array Oper} {o : Oper} {a : Act} {K : Act → World → Prop} {Q : Exit → Act → World → Prop} {E : Prop} (hgd : o.guard = none) (s x : Operand)
    (ho : o.op = .call { callee := .builtin .append, args := #[s, x], argTypes := #[26, 26] })
    {base : Nat} {l : List Ent} {v : Value} (hs : a.eval s = v) (g : Nat) (hx : a.eval x = .slice (some ⟨g, 0, none⟩) 1 1) (e : Ent) (hc : W.heap[g]? = some (.cells #[.string e.n, .string e.v, .bool e.f, .string e.fn, .string e.t] 56 (0, 0)))
    (hown : OE base l v W) (hlen : l.length < 1000000000) (hbase : base ≤ W.heap.size)
    (h : ∀ v' w', OE base (l ++ [e]) v' w' → Below base W w' → K (a.put o.dst v') w') : if Region.wanted o (yielded ops a.tmps) then o.wp Tryz.prog a W K Q else E := by
  refine step_append_any hgd s x 26 56 ho Tryz.underlying26 info_ent rfl (by decide) hs (ao := some ⟨g, 0, none⟩) (m := 1) (cap := 1) (news := entCells e) hx (fun e => by cases e) rfl (fun ad had j u hu => ?_) ?_ hown (by unfold maxLen; omega) (by omega) hbase fun v' w' h1 h2 => h v' w' ?_ (own_below hown h2 hbase)
  · cases had
    rw [addr_add, Nat.zero_add]
    simp only [World.cell?, hc]
    simpa [entCells] using hu
  · intro u hu
    simp only [entCells, List.mem_cons, List.not_mem_nil, or_false] at hu
    rcases hu with rfl | rfl | rfl | rfl | rfl <;> rfl
  · unfold OE
    rw [List.length_append, List.flatMap_append, List.flatMap_cons, List.flatMap_nil, List.append_nil]
    exact h1
theorem thS_at {b p q r : Nat} {v1 v2 v3 : Value} {w1 W W' : World} (h : W.cell? ⟨b, p, none⟩ = some v1 ∧ W.cell? ⟨b, q, none⟩ = some v2 ∧ W.cell? ⟨b, r, none⟩ = some v3 ∧ b < w1.heap.size ∧ Below w1.heap.size w1 W) (hb : Below w1.heap.size W W') :
    W'.cell? ⟨b, p, none⟩ = some v1 ∧ W'.cell? ⟨b, q, none⟩ = some v2 ∧ W'.cell? ⟨b, r, none⟩ = some v3 ∧ b < w1.heap.size ∧ Below w1.heap.size w1 W' := by
  obtain ⟨h0, h1, h2, h3, hbe⟩ := h
  exact ⟨cellK hb h3 h0, cellK hb h3 h1, cellK hb h3 h2, h3, hbe.trans hb⟩
theorem thS_drew {b p q r : Nat} {v1 v2 v3 : Value} {w1 W : World} (h : W.cell? ⟨b, p, none⟩ = some v1 ∧ W.cell? ⟨b, q, none⟩ = some v2 ∧ W.cell? ⟨b, r, none⟩ = some v3 ∧ b < w1.heap.size ∧ Below w1.heap.size w1 W) :
    W.drew.cell? ⟨b, p, none⟩ = some v1 ∧ W.drew.cell? ⟨b, q, none⟩ = some v2 ∧ W.drew.cell? ⟨b, r, none⟩ = some v3 ∧ b < w1.heap.size ∧ Below w1.heap.size w1 W.drew := thS_at h ⟨rfl, rfl, rfl, Nat.le_refl _, fun _ _ => rfl⟩
theorem thS_alloc {b p q r : Nat} {v1 v2 v3 : Value} {w1 W : World} (o : Obj) (h : W.cell? ⟨b, p, none⟩ = some v1 ∧ W.cell? ⟨b, q, none⟩ = some v2 ∧ W.cell? ⟨b, r, none⟩ = some v3 ∧ b < w1.heap.size ∧ Below w1.heap.size w1 W) :
    (W.alloc o).cell? ⟨b, p, none⟩ = some v1 ∧ (W.alloc o).cell? ⟨b, q, none⟩ = some v2 ∧ (W.alloc o).cell? ⟨b, r, none⟩ = some v3 ∧ b < w1.heap.size ∧ Below w1.heap.size w1 (W.alloc o) := thS_at h ((one_alloc o).mono h.2.2.2.2.size)
theorem hsS_kept {b1 p1 b2 p2 : Nat} {v1 v2 : Value} {w1 W W' : World} (h : W.cell? ⟨b1, p1, none⟩ = some v1 ∧ W.cell? ⟨b2, p2, none⟩ = some v2 ∧ b1 < w1.heap.size ∧ b2 < w1.heap.size ∧ Below w1.heap.size w1 W) (hb : Below W.heap.size W W') :
    W'.cell? ⟨b1, p1, none⟩ = some v1 ∧ W'.cell? ⟨b2, p2, none⟩ = some v2 ∧ b1 < w1.heap.size ∧ b2 < w1.heap.size ∧ Below w1.heap.size w1 W' := by
  obtain ⟨h0, h1, h2, h3, hbe⟩ := h
  have hs := hbe.size
  exact ⟨cellK hb (by omega) h0, cellK hb (by omega) h1, h2, h3, hbe.trans (hb.mono hs)⟩
theorem hsS_drew {b1 p1 b2 p2 : Nat} {v1 v2 : Value} {w1 W : World} (h : W.cell? ⟨b1, p1, none⟩ = some v1 ∧ W.cell? ⟨b2, p2, none⟩ = some v2 ∧ b1 < w1.heap.size ∧ b2 < w1.heap.size ∧ Below w1.heap.size w1 W) :
    W.drew.cell? ⟨b1, p1, none⟩ = some v1 ∧ W.drew.cell? ⟨b2, p2, none⟩ = some v2 ∧ b1 < w1.heap.size ∧ b2 < w1.heap.size ∧ Below w1.heap.size w1 W.drew := hsS_kept h ⟨rfl, rfl, rfl, Nat.le_refl _, fun _ _ => rfl⟩
theorem hsS_alloc {b1 p1 b2 p2 : Nat} {v1 v2 : Value} {w1 W : World} (o : Obj) (h : W.cell? ⟨b1, p1, none⟩ = some v1 ∧ W.cell? ⟨b2, p2, none⟩ = some v2 ∧ b1 < w1.heap.size ∧ b2 < w1.heap.size ∧ Below w1.heap.size w1 W) :
    (W.alloc o).cell? ⟨b1, p1, none⟩ = some v1 ∧ (W.alloc o).cell? ⟨b2, p2, none⟩ = some v2 ∧ b1 < w1.heap.size ∧ b2 < w1.heap.size ∧ Below w1.heap.size w1 (W.alloc o) := hsS_kept h (one_alloc o)
theorem hsS_at {b1 p1 b2 p2 : Nat} {v1 v2 : Value} {w1 W W' : World} (h : W.cell? ⟨b1, p1, none⟩ = some v1 ∧ W.cell? ⟨b2, p2, none⟩ = some v2 ∧ b1 < w1.heap.size ∧ b2 < w1.heap.size ∧ Below w1.heap.size w1 W) (hb : Below w1.heap.size W W') :
    W'.cell? ⟨b1, p1, none⟩ = some v1 ∧ W'.cell? ⟨b2, p2, none⟩ = some v2 ∧ b1 < w1.heap.size ∧ b2 < w1.heap.size ∧ Below w1.heap.size w1 W' := by
  obtain ⟨h0, h1, h2, h3, hbe⟩ := h
  exact ⟨cellK hb h2 h0, cellK hb h3 h1, h2, h3, hbe.trans hb⟩
theorem hsS_below {b1 p1 b2 p2 : Nat} {v1 v2 : Value} {w1 W : World} (h : W.cell? ⟨b1, p1, none⟩ = some v1 ∧ W.cell? ⟨b2, p2, none⟩ = some v2 ∧ b1 < w1.heap.size ∧ b2 < w1.heap.size ∧ Below w1.heap.size w1 W) : Below w1.heap.size w1 W := h.2.2.2.2
set_option maxHeartbeats 2000000 in
set_option maxRecDepth 100000 in
theorem refOf22_any (l : List Nd) (cs : List Ct) (vn vc : Value) (K : Nat) (hkl : K < l.length) (hRP : RightP l) (hll : l.length = cs.length) (hB : SmallC cs) (w : World) (hD : DocAt l cs vn vc w) :
    Calls Tryz.prog 26 #[.agg #[vn, vc], .int .i64 K] w fun e w' => ∃ vo, e = .returned vo ∧ Ents (ofF l cs K) vo w' ∧ Below w.heap.size w w' := by
  have hmax := hD.nodes.len
  have hfits := hD.nodes.fits
  obtain ⟨a1, cap1, rfl⟩ := hD.nodes.nodes.len
  obtain ⟨a2, cap2, rfl⟩ := hD.ctls.len
  obtain ⟨hD1, hb1, hs1, c0, c1⟩ := doc_box (T := 25) hD
  have hkc : K < cs.length := by omega
  have HLL := Lib.hid hll
  obtain ⟨b, o, cap', va, vk, hv, hb, e0, e1, e2, e3, e4, hat, hks⟩ := hD1.nodes.nodes.at hkl
  cases hv
  obtain ⟨b', o', cap'', vf, hv, hb', ⟨x0, x1, x2, x3, x4, x5, x6, x7, x8, x9⟩, hEn⟩ := hD1.ctls.at hkc
  cases hv
  obtain ⟨a5, c5, rfl⟩ := hEn.len
  have z1 := one_ats (hRP.node K _ (List.getElem?_eq_getElem hkl)).1
  have z3 := one_vals (hRP.node K _ (List.getElem?_eq_getElem hkl)).1
  obtain ⟨hB1, hB2⟩ := hB _ (List.getElem_mem hkc)
  have hO := show ofF l cs (K : Nat) = if kOf l (K : Nat) = 20 then entsImg (nmF l (K : Nat))
    else if kOf l (K : Nat) = 23 then entsSel l cs (K : Nat) (nmF l (K : Nat))
    else if kOf l (K : Nat) = 18 then entsFile (ctOf cs (K : Nat)).fi (nmF l (K : Nat))
    else [⟨nmF l (K : Nat), (if kOf l (K : Nat) = 1 ∧ nmF l (K : Nat) = charS then utfS else valF (kOf l (K : Nat)) (ctOf cs (K : Nat)) (atsOf l (K : Nat))), false, ⟨#[]⟩, ⟨#[]⟩⟩] from rfl
  have hnz : (nmF l (K : Nat)).size ≤ 4000 := by
    unfold nmF
    rw [atsOf_at hkl]
    exact atO_size _ _ (fun a ha => z3 a ha)
  have hnm := show (atO l[K].ats nameS).getD ⟨#[]⟩ = nmF l (K : Nat) by unfold nmF; rw [atsOf_at hkl]
  rw [kOf_at hkl, ctOf_at hkc, atsOf_at hkl] at hO
  obtain ⟨nd, hnd⟩ : ∃ nd, l[K] = nd := ⟨_, rfl⟩
  rw [hnd] at e0 e1 e3 hat hks z1 z3 hO hnm
  obtain ⟨c, hcc⟩ : ∃ c, cs[K] = c := ⟨_, rfl⟩
  rw [hcc] at x0 x1 x2 x3 x4 x5 x6 x7 x8 x9 hEn hB1 hB2 hO
  clear hnd hcc
  obtain ⟨k0, k1⟩ := kindOf_range nd
  obtain ⟨kk, hkk⟩ : ∃ kk, kindOf nd = kk := ⟨_, rfl⟩
  rw [hkk] at hO k0 k1
  have HK := Lib.hid hkk
  obtain ⟨vv, hvv⟩ : ∃ vv, valF kk c nd.ats = vv := ⟨_, rfl⟩
  rw [hvv] at hO
  have HV := Lib.hid hvv
  obtain ⟨nm, hnme⟩ : ∃ nm, nmF l (K : Nat) = nm := ⟨_, rfl⟩
  rw [hnme] at hO hnz hnm
  have HN := Lib.hid hnm
  have HO := Lib.hid hO
  clear hkk hvv hnme hO hnm hll
  have hK0 : (0 : Int) ≤ (K : Int) := by omega
  have hK1 : (K : Int) < (l.length : Int) := by omega
  have hK2 : (K : Int) < (cs.length : Int) := by omega
  have hcl : charS.toList = [95, 99, 104, 97, 114, 115, 101, 116, 95] := by unfold charS; rw [ByteArray.toList_eq]
  go_enter Tryz.func26, Tryz.ntmps26
  go_wp2_with fail
  generalize World.alloc w _ = W1 at hD1 hb1 hs1 c0 c1 hat hks e0 e1 e2 e3 e4 x0 x1 x2 x3 x4 x5 x6 x7 x8 x9 hEn hb hb' ⊢
  refine (refOf11_any nd va vk (by omega) (fun a ha => Nat.le_trans (z3 a ha) (by omega)) _ hat).mono ?_
  rintro e w2 ⟨rfl, hb2⟩
  rw [HK.out]
  have d0 := cellK hb2 (by omega) c0
  have d1 := cellK hb2 (by omega) c1
  have f2 := cellK hb2 hb e2
  have hD2 := hD1.kept hb2
  have hg2 := hb2.size
  have hbw := bs hb1 hb2
  go_wp2_with fail
  refine (refAttr14_any nd.ats _ nameS (by omega) _ (hat.kept hb2)).mono ?_
  unfold atT
  rintro e w3 ⟨rfl, rfl⟩
  rw [HN.out]
  by_cases h20 : kk = 20
  · have hR := Lib.hid (HO.out.trans (if_pos h20))
    subst h20
    have oe0 := OE.nil w2.heap.size w2
    by_cases hz : nm.size = 0
    · have hdt := Lib.hid (show dotS nm = nm from if_pos hz)
      obtain rfl : nm = ⟨#[]⟩ := size0.2 hz
      clear hz
      go_wp2_with (at_builtin; first | (refine wpList_append_ent rfl _ _ rfl rfl rfl ⟨⟨#[120]⟩, ⟨#[48]⟩, false, ⟨#[]⟩, ⟨#[]⟩⟩ oe0 (by simp) (Nat.le_refl _) ?_; intro v' w4 ho4 hb4; have hs4 := hb4.size) | (refine wpList_append_ent rfl _ _ rfl rfl rfl ⟨⟨#[121]⟩, ⟨#[48]⟩, false, ⟨#[]⟩, ⟨#[]⟩⟩ ho4 (by simp) hs4 ?_; intro v' w5 ho5 hb5))
      go_ret
      exact ⟨_, rfl, by rw [hR.out]; exact ho5.ents, bs hbw (hb4.trans hb5)⟩
    · have hdt := Lib.hid (show dotS nm = nm ++ ⟨#[46]⟩ from if_neg hz)
      have r1 : decide ((0 : Int) < (nm.size : Int)) = true := decide_eq_true (by omega)
      have r2 : decide (0 < nm.size) = true := decide_eq_true (by omega)
      have r3 : 0 < nm.size := by omega
      have u1 : ¬ 9223372036854775807 < nm.size + 1 := by omega
      have u2 : ¬ 9223372036854775807 < nm.size + 1 + 1 := by omega
      go_wp2_with (at_builtin; first | (refine wpList_append_ent rfl _ _ rfl rfl rfl ⟨nm ++ (⟨#[46]⟩ : ByteArray) ++ (⟨#[120]⟩ : ByteArray), ⟨#[48]⟩, false, ⟨#[]⟩, ⟨#[]⟩⟩ oe0 (by simp) (Nat.le_refl _) ?_; intro v' w4 ho4 hb4; have hs4 := hb4.size) | (refine wpList_append_ent rfl _ _ rfl rfl rfl ⟨nm ++ (⟨#[46]⟩ : ByteArray) ++ (⟨#[121]⟩ : ByteArray), ⟨#[48]⟩, false, ⟨#[]⟩, ⟨#[]⟩⟩ ho4 (by simp) hs4 ?_; intro v' w5 ho5 hb5))
      go_ret
      exact ⟨_, rfl, by rw [hR.out]; unfold entsImg; rw [hdt.out]; exact ho5.ents, bs hbw (hb4.trans hb5)⟩
  have hO2 := HO.out.trans (if_neg h20)
  have hne0 := OE.nil w2.heap.size w2
  by_cases h23 : kk = 23
  · have hR := Lib.hid (hO2.trans (if_pos h23))
    subst h23
    clear hO2 h20
    have hRS := Lib.hid (show entsSel l cs (K : Nat) nm = ((listF l (K : Nat)).filter (selO l cs)).map (entO l nm) from rfl)
    have hlist : (listF l (K : Nat)).length ≤ 400 := by
      unfold listF
      split
      · rename_i hi
        have hc := (isF_30 (by omega)).1 hi
        obtain ⟨i0, i1⟩ := kindF_pos (l := l) (k := (K : Nat)) (by omega)
        have hks := hc.2
        rw [kindF_in i0 i1, kOf_sel i0 i1] at hks
        have h1 := optsOf_len hRP i0 i1 hks
        have h2 := hRP.max
        omega
      · exact Nat.zero_le _
    have hmem := Lib.hid (fun o (h : o ∈ listF l (K : Nat)) => listF_mem h)
    clear hat hks hEn e0 e1 e2 e3 e4 x0 x1 x2 x3 x4 x5 x6 x7 x8 x9 z1 z3 hB1 hB2 f2 c0 c1 hne0 hcl
    go_wp2_with fail
    refine (refOptList_any l _ (K : Nat) hmax hfits _ hD2.nodes.nodes).mono ?_
    generalize listF l (K : Nat) = L at *
    rintro e w4 ⟨vo, rfl, hov, hb4⟩
    obtain ⟨ai, ci, rfl, _⟩ := hov.form
    rw [ints_len] at hov ⊢
    have hD4 := hD2.kept hb4
    have hg4 := hb4.size
    have u0 := cellK hb4 (by omega) d0
    have u1 := cellK hb4 (by omega) d1
    have hb04 := bs hbw hb4
    clear d0 d1
    go_wp2_with fail
    go_loopw [5, 10] (fun u i wr => ∃ k : Nat, k ≤ L.length ∧ i = .int .i64 k ∧ OE w4.heap.size (((L.take k).filter (selO l cs)).map (entO l nm)) u wr ∧ Below w4.heap.size w4 wr) (fun _ i _ => L.length - (intOf i).toNat)
    case atStart => exact ⟨0, Nat.zero_le _, rfl, OE.nil _ _, Below.refl _ _⟩
    case round =>
      obtain ⟨k, hk, rfl, ho, hbel⟩ := hrel
      have hsz := hbel.size
      have hDr := hD4.kept hbel
      have r0 := cellK hbel (by omega) u0
      have r1 := cellK hbel (by omega) u1
      by_cases hlt : k < L.length
      · obtain ⟨o0, o1, o32⟩ := hmem.out _ (List.getElem_mem hlt)
        have hov' := hov.kept hbel
        obtain ⟨g, gc, hv, _, hcell⟩ := hov'.at (by intro e; have := congrArg List.length e; rw [ints_len, List.length_nil] at this; omega)
        rw [ints_len] at hv
        cases hv
        have hgb : g < wr.heap.size := by
          have := (World.ownsRow.lt hov' g rfl).2
          omega
        have hcc := hcell k (.int .i64 L[k]) (by rw [ints, List.getElem?_map, List.getElem?_eq_getElem hlt]; rfl)
        have hfs := Lib.hid (show ((L.take (k + 1)).filter (selO l cs)).map (entO l nm) = ((L.take k).filter (selO l cs)).map (entO l nm) ++ if selO l cs L[k] = true then [entO l nm L[k]] else [] by
          rw [filter_snoc hlt, List.map_append]
          congr 1
          split <;> rfl)
        have hfl : (((L.take k).filter (selO l cs)).map (entO l nm)).length ≤ k := by
          rw [List.length_map]
          exact Nat.le_trans (List.length_filter_le _ _) (List.length_take_le _ _)
        have hk0 : (0 : Int) ≤ (k : Int) := by omega
        have hk1 : (k : Int) < (L.length : Int) := by omega
        generalize L[k] = c' at *
        obtain ⟨q, rfl⟩ := Int.eq_ofNat_of_zero_le o0
        have hql : q < cs.length := by rw [← HLL.out]; omega
        have hq0 : (0 : Int) ≤ (q : Int) := by omega
        have hq1 : (q : Int) < (cs.length : Int) := by omega
        obtain ⟨b2, o2, cap2', vf2, hv, hbb, ⟨_, _, _, _, _, _, x6, _, _, _⟩, hE2⟩ := hDr.ctls.at hql
        cases hv
        have hse := show selO l cs (q : Nat) = ((ctOf cs (q : Nat)).se && !offF l (q : Nat)) from rfl
        rw [ctOf_at hql] at hse
        obtain ⟨sb, hsb⟩ : ∃ sb, cs[q].se = sb := ⟨_, rfl⟩
        rw [hsb] at x6 hse
        clear hsb
        cases sb
        · have hN := Lib.hid (show ((L.take (k + 1)).filter (selO l cs)).map (entO l nm) = ((L.take k).filter (selO l cs)).map (entO l nm) from hfs.out.trans (by rw [hse, Bool.false_and, if_neg Bool.false_ne_true, List.append_nil]))
          clear hse
          go_wp2_with fail
          go_quiet (fail)
          go_wp2_with fail
          go_roundw
          case rel => exact ⟨k + 1, by omega, by go_num, by rw [hN.out]; exact ho.kept (below_draws wr _), hbel.trans ((below_draws wr _).mono hsz)⟩
          case measure => simp [intOf]; omega
        · have hbd : Below wr.heap.size wr wr.drew := below_draws wr 1
          cases hof : offF l (q : Nat)
          · have hN := Lib.hid (show ((L.take (k + 1)).filter (selO l cs)).map (entO l nm) = ((L.take k).filter (selO l cs)).map (entO l nm) ++ [entO l nm (q : Nat)] from hfs.out.trans (by rw [hse, hof]; rfl))
            have HO1 := Lib.hid hof
            clear hse hof
            go_wp2_with fail
            refine wp_region_still_tail 16 (by kernel_rfl) (by kernel_rfl) ?_
            simp only [List.take_succ_cons, List.take_zero, List.drop_succ_cons, List.drop_zero]
            repeat still_step
            refine wpStill_nil ?_
            change wpList _ _ _ _ _ wr.drew
            go_wp2_with fail
            refine (refOff_any l _ (q : Nat) hmax hfits _ (hDr.nodes.nodes.kept hbd)).mono ?_
            rintro e w6 ⟨rfl, hb6⟩
            rw [HO1.out]
            have hb06 := bs hbd hb6
            have hbd6 : Below w6.heap.size w6 w6.drew := below_draws w6 1
            have hb7 := bs hb06 hbd6
            have s0 := cellK hb06 (by omega) r0
            have t0 := cellK hb7 (by omega) r0
            have hcc6 := cellK hb06 hgb hcc
            have hcc7 := cellK hb7 hgb hcc
            have hU7 := hDr.nodes.nodes.kept hb7
            have ho7 := ho.kept hb7
            have hbr7 := hbel.trans (hb7.mono hsz)
            have hg7 := hbr7.size
            go_wp2_with fail
            have hgw : g < w4.heap.size := (World.ownsRow.lt hov g rfl).2
            have hbr6 := hbel.trans (hb06.mono hsz)
            have hS1 := And.intro s0 (And.intro hcc6 (And.intro (show w.heap.size < w4.heap.size by omega) (And.intro hgw hbr6)))
            have hU6 := hDr.nodes.nodes.kept hb06
            have ho6 := ho.kept hb06
            have hg6 := hbr6.size
            have hkL : k < 1000000000 := by omega
            have hfB : (((L.take k).filter (selO l cs)).map (entO l nm)).length < 1000000000 := by omega
            clear hov hov' hcell hb7 hbd6 t0 hcc7 hU7 ho7 hbr7 hg7 hDr hD4 hD2 hD1 u0 u1 r0 r1 x6 hE2 hD hfs hmem hR hRS hcc s0 hcc6 hbel hb06 ho hbd hb6
            first | go_region_held3 (fun W => W.cell? ⟨w.heap.size, 0, none⟩ = some (.slice (some ⟨b, o, none⟩) l.length cap1) ∧ W.cell? ⟨g, k, none⟩ = some (.int .i64 (q : Nat)) ∧ w.heap.size < w4.heap.size ∧ g < w4.heap.size ∧ Below w4.heap.size w4 W) (with_reducible first | assumption | exact hsS_drew (by assumption) | exact hsS_alloc _ (by assumption) | exact hsS_kept (by assumption) (by assumption) | exact hsS_at (by assumption) (by assumption) | exact hsS_at (hsS_alloc _ (by assumption)) (by assumption)) ((first
              | (go_at_call 54; refine (refText15_any l _ (q : Nat) hmax hfits _ (hU6.kept (below_draws w6 1))).mono ?_; rintro e w9 ⟨rfl, hb9⟩; have hS9 := hsS_kept (hsS_drew hS1) hb9; have ho9 := ho6.kept (bs (below_draws w6 1) hb9); have hg9 := (hsS_below hS9).size)
              | (refine step_append_ent rfl _ _ rfl rfl _ rfl (entO l nm (q : Nat)) (Go.heap_alloc_new _ _) (ho9.alloc _) hfB (by simp; omega) ?_; intro v' w10 ho10 hb10))) | fail
            all_goals (try go_wp2_with fail)
            all_goals
              go_roundw
              case rel => exact ⟨k + 1, by omega, by go_num, by rw [hN.out]; exact ho10, ((hsS_below hS9).alloc hg9 _).trans hb10⟩
              case measure => simp [intOf]; omega
          · have hN := Lib.hid (show ((L.take (k + 1)).filter (selO l cs)).map (entO l nm) = ((L.take k).filter (selO l cs)).map (entO l nm) from hfs.out.trans (by rw [hse, hof, if_neg (by decide), List.append_nil]))
            have HO1 := Lib.hid hof
            clear hse hof
            go_wp2_with fail
            refine wp_region_still_tail 16 (by kernel_rfl) (by kernel_rfl) ?_
            simp only [List.take_succ_cons, List.take_zero, List.drop_succ_cons, List.drop_zero]
            repeat still_step
            refine wpStill_nil ?_
            change wpList _ _ _ _ _ wr.drew
            go_wp2_with fail
            refine (refOff_any l _ (q : Nat) hmax hfits _ (hDr.nodes.nodes.kept hbd)).mono ?_
            rintro e w6 ⟨rfl, hb6⟩
            rw [HO1.out]
            have hb06 := bs hbd hb6
            go_wp2_with fail
            go_roundw
            case rel => exact ⟨k + 1, by omega, by go_num, by rw [hN.out]; exact ho.kept hb06, hbel.trans (hb06.mono hsz)⟩
            case measure => simp [intOf]; omega
      · obtain rfl : k = L.length := by omega
        go_wp2_with fail
        go_ret
        exact ⟨_, rfl, by rw [hR.out, hRS.out]; rw [List.take_length] at ho; exact ho.ents, bs hb04 hbel⟩
  have hO3 := hO2.trans (if_neg h23)
  by_cases h18 : kk = 18
  · have hR := Lib.hid (hO3.trans (if_pos h18))
    subst h18
    clear hO2 hO3 h20 h23
    have hE2 := hEn.kept hb2
    have y9 := cellK hb2 hb' x9
    clear hat hks e0 e1 e2 e3 e4 x0 x1 x2 x3 x4 x5 x6 x7 x8 z1 z3 hB2 f2 c0 c1 hne0 hcl d0
    go_wp2_with fail
    go_loopw [5, 12] (fun u i wr => ∃ k : Nat, k ≤ c.fi.length ∧ i = .int .i64 k ∧ OE w2.heap.size ((c.fi.take k).map (entFi nm)) u wr ∧ Below w2.heap.size w2 wr) (fun _ i _ => c.fi.length - (intOf i).toNat)
    case atStart => exact ⟨0, Nat.zero_le _, rfl, OE.nil _ _, Below.refl _ _⟩
    case round =>
      obtain ⟨k, hk, rfl, ho, hbel⟩ := hrel
      have hsz := hbel.size
      by_cases hlt : k < c.fi.length
      · obtain ⟨b2, o2, cx, hv, hbb, x0', x1', x2', x3', x4'⟩ := hE2.five hlt
        cases hv
        have x1 := cellK hbel hbb x1'
        have x3 := cellK hbel hbb x3'
        have x4 := cellK hbel hbb x4'
        have hTk := Lib.hid (show ((c.fi.take (k + 1)).map (entFi nm)) = (c.fi.take k).map (entFi nm) ++ [entFi nm c.fi[k]] by rw [List.take_succ_eq_append_getElem hlt, List.map_append]; rfl)
        have hlen : ((c.fi.take k).map (entFi nm)).length < 1000000000 := by rw [List.length_map, List.length_take]; omega
        have hk0 : (0 : Int) ≤ (k : Int) := by omega
        have hk1 : (k : Int) < (c.fi.length : Int) := by omega
        generalize c.fi[k] = x at *
        have hS1 := And.intro x1 (And.intro x3 (And.intro x4 (And.intro hbb hbel)))
        clear x0' x1' x2' x3' x4' x1 x3 x4 hE2 hbb
        go_wp2_with fail
        first | go_region_held3 (fun W => W.cell? ⟨b2, o2 + k * 5 + 1, none⟩ = some (.string x.v) ∧ W.cell? ⟨b2, o2 + k * 5 + 3, none⟩ = some (.string x.fn) ∧ W.cell? ⟨b2, o2 + k * 5 + 4, none⟩ = some (.string x.t) ∧ b2 < w2.heap.size ∧ Below w2.heap.size w2 W) (with_reducible first | assumption | exact thS_drew (by assumption) | exact thS_alloc _ (by assumption) | exact thS_drew (thS_alloc _ hS1) | exact thS_at (by assumption) (by assumption) | exact thS_at (thS_drew (thS_alloc _ hS1)) (by assumption)) ((refine step_append_ent rfl _ _ rfl rfl _ rfl (entFi nm x) (Go.heap_alloc_new _ _) ((ho.kept (below_draws wr _)).alloc _) hlen (by simp; omega) ?_; intro v' w10 ho10 hb10)) | fail
        all_goals (try go_wp2_with fail)
        all_goals
          go_roundw
          case rel => exact ⟨k + 1, by omega, by go_num, by rw [hTk.out]; exact ho10, ((hbel.alloc hsz _).drew).trans hb10⟩
          case measure => simp [intOf]; omega
      · obtain rfl : k = c.fi.length := by omega
        rw [List.take_length] at ho
        by_cases h0 : c.fi.length = 0
        · have hF := Lib.hid (show entsFile c.fi nm = [⟨nm, ⟨#[]⟩, true, ⟨#[]⟩, octS⟩] from if_pos h0)
          have q0 : ((c.fi.length : Int) == 0) = true := by rw [h0]; rfl
          have hnil : c.fi.map (entFi nm) = [] := by rw [List.length_eq_zero_iff.1 h0]; rfl
          rw [hnil] at ho
          clear h0 hnil
          go_wp2_with (at_builtin; refine wpList_append_ent rfl _ _ rfl rfl rfl ⟨nm, ⟨#[]⟩, true, ⟨#[]⟩, octS⟩ ho (by simp) hsz ?_; intro v' w6 ho6 hb6)
          go_ret
          exact ⟨_, rfl, by rw [hR.out, hF.out]; exact ho6.ents, bs hbw (hbel.trans hb6)⟩
        · have hF := Lib.hid (show entsFile c.fi nm = c.fi.map (entFi nm) from if_neg h0)
          have q0 : ((c.fi.length : Int) == 0) = false := intNe (by omega)
          clear h0
          go_wp2_with fail
          go_ret
          exact ⟨_, rfl, by rw [hR.out, hF.out]; exact ho.ents, bs hbw hbel⟩
  have hR0 := hO3.trans (if_neg h18)
  have y0 := cellK hb2 hb' x0
  have y1 := cellK hb2 hb' x1
  have y2' := cellK hb2 hb' x2
  have y3 := cellK hb2 hb' x3
  have y4 := cellK hb2 hb' x4
  have y5 := cellK hb2 hb' x5
  have y6 := cellK hb2 hb' x6
  have y7 := cellK hb2 hb' x7
  have y8 := cellK hb2 hb' x8
  have y9 := cellK hb2 hb' x9
  have q20 := intNe h20
  have q23 := intNe h23
  have q18 := intNe h18
  clear hO2 hO3 h20 h23 h18
  go_wp2_with fail
  refine wp_region_still_tail 12 (by kernel_rfl) (by kernel_rfl) ?_
  simp only [List.take_succ_cons, List.take_zero, List.drop_succ_cons, List.drop_zero]
  repeat still_step
  refine wpStill_nil ?_
  change wpList _ _ _ _ _ w2.drew
  have hbd : Below w2.heap.size w2 w2.drew := below_draws w2 1
  go_wp2_with fail
  refine (refValue14_any kk k0 k1 c _ nd.ats _ (by omega) (fun _ x hx => Nat.le_trans (hB2 x hx) (by omega)) _ (hEn.kept (bs hb2 hbd)) ((hat.kept hb2).kept hbd)).mono ?_
  rintro e w5 ⟨rfl, hb5⟩
  rw [HV.out]
  have hb25 := bs hbd hb5
  have oe5 := OE.nil w5.heap.size w5
  have hbe := bs hbw hb25
  clear d0 d1 f2 y0 y1 y2' y3 y4 y5 y6 y7 y8 y9 hbd hb5
  by_cases hch : kk = 1 ∧ nm = charS
  · have hR := Lib.hid (show ofF l cs (K : Nat) = [⟨nm, utfS, false, ⟨#[]⟩, ⟨#[]⟩⟩] by rw [hR0, if_pos hch])
    obtain ⟨h1, h2⟩ := hch
    have hq := sTrue h2
    rw [hcl] at hq
    subst h1
    clear h2 hcl hR0
    go_wp2_with (at_builtin; refine wpList_append_ent rfl _ _ rfl rfl rfl ⟨nm, utfS, false, ⟨#[]⟩, ⟨#[]⟩⟩ oe5 (by simp) (Nat.le_refl _) ?_; intro v' w6 ho6 hb6)
    go_ret
    exact ⟨_, rfl, by rw [hR.out]; exact ho6.ents, bs hbe hb6⟩
  · have hR := Lib.hid (show ofF l cs (K : Nat) = [⟨nm, vv, false, ⟨#[]⟩, ⟨#[]⟩⟩] by rw [hR0, if_neg hch])
    by_cases h1 : kk = 1
    · have hq := sFalse (fun e => hch ⟨h1, e⟩)
      rw [hcl] at hq
      subst h1
      clear hch hcl hR0
      go_wp2_with (at_builtin; refine wpList_append_ent rfl _ _ rfl rfl rfl ⟨nm, vv, false, ⟨#[]⟩, ⟨#[]⟩⟩ oe5 (by simp) (Nat.le_refl _) ?_; intro v' w6 ho6 hb6)
      go_ret
      exact ⟨_, rfl, by rw [hR.out]; exact ho6.ents, bs hbe hb6⟩
    · have q1 := intNe h1
      clear hch hcl hR0 h1
      go_wp2_with (at_builtin; refine wpList_append_ent rfl _ _ rfl rfl rfl ⟨nm, vv, false, ⟨#[]⟩, ⟨#[]⟩⟩ oe5 (by simp) (Nat.le_refl _) ?_; intro v' w6 ho6 hb6)
      go_ret
      exact ⟨_, rfl, by rw [hR.out]; exact ho6.ents, bs hbe hb6⟩
end Go.Proofs.YtafbghlldlconaaGreat

/-
  A REGION WHOSE CALLS ONLY GROW THE HEAP: one walk in the order of the text serves every order (the kit's law on a class of worlds, at the class 'all that lies below is as it was').
-/
namespace Go.Proofs.YtafbghlldlconaaGreat
set_option linter.unusedVariables false
set_option linter.unusedSimpArgs false
open Go.RowKit Lib
structure Aft (W : World) where
  w : World
  is : Below W.heap.size W w
instance aft_some (W : World) : Nonempty (Aft W) := ⟨⟨W, Below.refl _ _⟩⟩
theorem wp_region_after {P : Program} {id : Nat} {Q : Exit → Act → World → Prop} {a : Act} {w W : World} {l : List Oper} (hm : P.follows .mixedOrders = true) (hB : Region.lexB .any l.toArray = true) (hb : Below W.heap.size W w)
    (h : wpQuiet P l.toArray (fun w' => ∃ d : Aft W, w' = d.w) (fun a' => ∀ w', (∃ d : Aft W, w' = d.w) → Q .normal a' w') l a) : (Code.region id l.toArray true).wp P Q a w :=
  wp_region_quiet (C := fun w' => ∃ d : Aft W, w' = d.w) hm hB ⟨⟨w.drew, ⟨hb.1, hb.2, hb.3, hb.4, hb.5⟩⟩, rfl⟩ (by simpa using h)
theorem Calls.after {P : Program} {f : FuncId} {args : Array Value} {W : World} {d : Aft W} {v : Value} (h : Calls P f args d.w fun e w' => e = .returned v ∧ Below d.w.heap.size d.w w') : Calls P f args d.w fun e w'' => e = .returned v ∧ ∃ d' : Aft W, w'' = d'.w :=
  h.mono fun _ w' ⟨he, hb⟩ => ⟨he, ⟨w', d.is.trans (hb.mono d.is.size)⟩, rfl⟩
end Go.Proofs.YtafbghlldlconaaGreat

/-
  WHAT A FORM SUBMITS, by the document: ref22.List: the walk.
-/
namespace Go.Proofs.YtafbghlldlconaaGreat
set_option linter.unusedVariables false
set_option linter.unusedSimpArgs false
open Go.RowKit PT

theorem step_append_entsG {W : World} {ops : Array Oper} {o : Oper} {a : Act} {K : Act → World → Prop} {Q : Exit → Act → World → Prop} {E : Prop} (hgd : o.guard = none) (s x : Operand)
    (ho : o.op = .call { callee := .builtin .append, args := #[s, x], argTypes := #[26, 26] })
    {base : Nat} {l es : List Ent} {v : Value} (hs : a.eval s = v) {u : Value} (hx : a.eval x = u) (hE : Ents es u W)
    (hown : OE base l v W) (hlen : l.length + es.length < 1000000000) (hbase : base ≤ W.heap.size)
    (h : ∀ v' w', OE base (l ++ es) v' w' → Below base W w' → K (a.put o.dst v') w') : if Region.wanted o (yielded ops a.tmps) then o.wp Tryz.prog a W K Q else E := by
  obtain ⟨ao, cap, rfl⟩ := hE.len
  refine step_append_any hgd s x 26 56 ho Tryz.underlying26 info_ent rfl (by decide) hs hx hE.none_cap (flat_size entCells_len es) (fun ad had => by subst had; exact hE.src) ?_ hown (by unfold maxLen; omega) (by omega) hbase fun v' w' h1 h2 => h v' w' ?_ (own_below hown h2 hbase)
  · intro u hu
    obtain ⟨e, _, hu⟩ := List.mem_flatMap.1 hu
    simp only [entCells, List.mem_cons, List.not_mem_nil, or_false] at hu
    rcases hu with rfl | rfl | rfl | rfl | rfl <;> rfl
  · unfold OE
    rw [List.length_append, List.flatMap_append]
    exact h1
theorem nT_kept {n g k : Nat} {v1 v2 v3 : Value} {w1 W W' : World} (h : W.cell? ⟨n, 0, none⟩ = some v1 ∧ W.cell? ⟨n, 1, none⟩ = some v2 ∧ W.cell? ⟨g, k, none⟩ = some v3 ∧ n < w1.heap.size ∧ g < w1.heap.size ∧ Below w1.heap.size w1 W) (hb : Below W.heap.size W W') :
    W'.cell? ⟨n, 0, none⟩ = some v1 ∧ W'.cell? ⟨n, 1, none⟩ = some v2 ∧ W'.cell? ⟨g, k, none⟩ = some v3 ∧ n < w1.heap.size ∧ g < w1.heap.size ∧ Below w1.heap.size w1 W' := by
  obtain ⟨h1, h2, h3, a1, a2, hbe⟩ := h
  have := hbe.size
  exact ⟨cellK hb (by omega) h1, cellK hb (by omega) h2, cellK hb (by omega) h3, a1, a2, hbe.trans (hb.mono hbe.size)⟩
theorem nT_drew {n g k : Nat} {v1 v2 v3 : Value} {w1 W : World} (h : W.cell? ⟨n, 0, none⟩ = some v1 ∧ W.cell? ⟨n, 1, none⟩ = some v2 ∧ W.cell? ⟨g, k, none⟩ = some v3 ∧ n < w1.heap.size ∧ g < w1.heap.size ∧ Below w1.heap.size w1 W) :
    W.drew.cell? ⟨n, 0, none⟩ = some v1 ∧ W.drew.cell? ⟨n, 1, none⟩ = some v2 ∧ W.drew.cell? ⟨g, k, none⟩ = some v3 ∧ n < w1.heap.size ∧ g < w1.heap.size ∧ Below w1.heap.size w1 W.drew := nT_kept h ⟨rfl, rfl, rfl, Nat.le_refl _, fun _ _ => rfl⟩
theorem nT_at {n g k : Nat} {v1 v2 v3 : Value} {w1 W W' : World} (h : W.cell? ⟨n, 0, none⟩ = some v1 ∧ W.cell? ⟨n, 1, none⟩ = some v2 ∧ W.cell? ⟨g, k, none⟩ = some v3 ∧ n < w1.heap.size ∧ g < w1.heap.size ∧ Below w1.heap.size w1 W) (hb : Below w1.heap.size W W') :
    W'.cell? ⟨n, 0, none⟩ = some v1 ∧ W'.cell? ⟨n, 1, none⟩ = some v2 ∧ W'.cell? ⟨g, k, none⟩ = some v3 ∧ n < w1.heap.size ∧ g < w1.heap.size ∧ Below w1.heap.size w1 W' := by
  obtain ⟨h1, h2, h3, a1, a2, hbe⟩ := h
  exact ⟨cellK hb a1 h1, cellK hb a1 h2, cellK hb a2 h3, a1, a2, hbe.trans hb⟩
set_option maxHeartbeats 4000000 in
set_option maxRecDepth 100000 in
theorem refList22_any (l : List Nd) (cs : List Ct) (vn vc : Value) (form sub : Int) (hB : SmallC cs) (w : World) (hD : DocAt l cs vn vc w) :
    Calls Tryz.prog 6 #[.agg #[vn, vc], .int .i64 form, .int .i64 sub] w fun e w' => ∃ vo, e = .returned (.tuple #[vo, .int .i64 (eOf l cs form)]) ∧ Ents (lOf l cs form sub) vo w' ∧ Below w.heap.size w w' := by
  have hmax := hD.nodes.len
  have hfits := hD.nodes.fits
  obtain ⟨a1, cap1, rfl⟩ := hD.nodes.nodes.len
  obtain ⟨a2, cap2, rfl⟩ := hD.ctls.len
  obtain ⟨hD1, hb1, hs1, c0, c1⟩ := doc_box (T := 25) hD
  have bad : ∀ n : Int, eOf l cs form = n → n ≠ 0 → ∀ w' : World, Below w.heap.size w w' → ∃ vo, Ending.returned (.tuple #[.slice none 0 0, .int .i64 n]) = .returned (.tuple #[vo, .int .i64 (eOf l cs form)]) ∧ Ents (lOf l cs form sub) vo w' ∧ Below w.heap.size w w' :=
    fun n h hn w' hb => ⟨_, by rw [h], by rw [show lOf l cs form sub = [] from if_neg (by rw [h]; exact hn)]; exact ents_nil _, hb⟩
  have Bad := Lib.hid bad
  clear bad
  have hE := eOf_cases (l := l) (cs := cs) (form := form)
  cases hk : okD l cs
  · have hR := Lib.hid (hE.trans (if_pos (.inl hk)))
    have HK := Lib.hid hk
    clear hk hE
    go_enter Tryz.func6, Tryz.ntmps6
    go_wp2_with fail
    refine (refRight15_any l cs _ _ _ hD1).mono ?_
    rintro e w2 ⟨rfl, hb2⟩
    rw [HK.out]
    go_wp2_with fail
    go_ret2
    exact Bad.out 4 hR.out (by decide) _ (bs hb1 hb2)
  obtain ⟨hRP, hll⟩ := okD_iff.1 hk
  have HK := Lib.hid hk
  have HLL := Lib.hid hll
  clear hll
  cases hh : hasB l form
  · have hR := Lib.hid (hE.trans (if_pos (.inr (by
      by_cases h0 : form < 0
      · exact .inl h0
      · refine .inr ?_
        by_cases h1 : (l.length : Int) ≤ form
        · exact h1
        · rw [hasB_yes hRP (by omega) (by omega)] at hh
          cases hh))))
    have HH := Lib.hid hh
    clear hk hE hh
    go_enter Tryz.func6, Tryz.ntmps6
    go_wp2_with fail
    refine (refRight15_any l cs _ _ _ hD1).mono ?_
    rintro e w2 ⟨rfl, hb2⟩
    rw [HK.out]
    have d0 := cellK hb2 (by omega) c0
    go_wp2_with fail
    refine (refHas10_any l _ form hmax hfits _ (hD1.kept hb2).nodes.nodes).mono ?_
    rintro e w3 ⟨rfl, hb3⟩
    rw [HH.out]
    go_wp2_with fail
    go_ret2
    exact Bad.out 4 hR.out (by decide) _ (bs (bs hb1 hb2) hb3)
  have HH := Lib.hid hh
  obtain ⟨h0, h1, _⟩ := (hasB_iff l form).1 hh
  rw [if_neg (fun h => by
    rcases h with h | h | h
    · rw [hk] at h; cases h
    · omega
    · omega)] at hE
  obtain ⟨K, rfl⟩ := Int.eq_ofNat_of_zero_le h0
  have hkl : K < l.length := by omega
  obtain ⟨b, o, cap', va, vk, hv, hb, e0, e1, e2, e3, e4, hat, hks⟩ := hD1.nodes.nodes.at hkl
  cases hv
  have hko := kOf_at hkl
  have hfm := kind_form l[K]
  rw [hko] at hE
  generalize l[K] = nd at *
  have hK0 : (0 : Int) ≤ (K : Int) := by omega
  have hK1 : (K : Int) < (l.length : Int) := by omega
  clear hk h0 h1 hko hh
  by_cases h30 : kindOf nd = 30
  case neg =>
    have hR := Lib.hid (hE.trans (if_neg h30))
    have g1 := sFalse (fun e => h30 (hfm.2 e))
    rw [form_toList] at g1
    clear hE h30 hfm
    go_enter Tryz.func6, Tryz.ntmps6
    go_wp2_with fail
    refine (refRight15_any l cs _ _ _ hD1).mono ?_
    rintro e w2 ⟨rfl, hb2⟩
    rw [HK.out]
    have d0 := cellK hb2 (by omega) c0
    go_wp2_with fail
    refine (refHas10_any l _ (K : Nat) hmax hfits _ (hD1.kept hb2).nodes.nodes).mono ?_
    rintro e w3 ⟨rfl, hb3⟩
    rw [HH.out]
    have hb23 := bs hb2 hb3
    have d03 := cellK hb23 (by omega) c0
    have f0 := cellK hb23 hb e0
    have g2 : (nd.nm.toList != [102, 111, 114, 109]) = true := by rw [bne, g1]; rfl
    go_wp2_with fail
    go_ret2
    exact Bad.out 3 hR.out (by decide) _ (bs hb1 hb23)
  have hR := Lib.hid (hE.trans (if_pos h30))
  have g1 := sTrue (hfm.1 h30)
  rw [form_toList] at g1
  clear hE h30 hfm
  obtain ⟨t0, t1⟩ := topF_range hRP hK0 hK1
  have hLO := show lOf l cs (K : Nat) sub = (ord l (topF l (K : Nat))).flatMap (fromF l cs (K : Nat) sub) from if_pos hR.out
  have hmem := Lib.hid (fun k (h : k ∈ ord l (topF l (K : Nat))) => ord_mem hRP t0 t1 h)
  have hln := ord_len hRP t0 t1
  have hmx := hRP.max
  obtain ⟨T, hT⟩ := Int.eq_ofNat_of_zero_le t0
  have hTl : T < l.length := by omega
  have HT := Lib.hid hT
  rw [hT] at hLO hmem hln
  have hord := fun W hU => refOrder_any l hRP T hTl (.slice (some ⟨b, o, none⟩) l.length cap1) W hfits hU
  clear hT t0 t1
  generalize ord l (T : Nat) = I at *
  have HLO := Lib.hid hLO
  have HORD := Lib.hid hord
  have hflB := Lib.hid (fun k => flat_lenB (l := l) hB (K : Nat) sub (I.take k))
  clear hLO hord
  go_enter Tryz.func6, Tryz.ntmps6
  go_wp2_with fail
  generalize World.alloc w _ = W1 at hD1 hb1 hs1 c0 c1 e0 e1 e2 e3 e4 hat hks hb ⊢
  refine (refRight15_any l cs _ _ _ hD1).mono ?_
  rintro e w2 ⟨rfl, hb2⟩
  rw [HK.out]
  have d0 := cellK hb2 (by omega) c0
  go_wp2_with fail
  refine (refHas10_any l _ (K : Nat) hmax hfits _ (hD1.kept hb2).nodes.nodes).mono ?_
  rintro e w3 ⟨rfl, hb3⟩
  rw [HH.out]
  have hb23 := bs hb2 hb3
  clear d0
  have hbd : Below w3.heap.size w3 w3.drew := below_draws w3 1
  have hbx := bs hb23 hbd
  have hDd := hD1.kept hbx
  have d0 := cellK hb23 (by omega) c0
  have f0 := cellK hb23 hb e0
  have d0d := cellK hbx (by omega) c0
  have g2 : (nd.nm.toList != [102, 111, 114, 109]) = false := by rw [bne, g1]; rfl
  have hgx := hbx.size
  clear hb3 hb2 hbd hb23
  go_upto_region 6 with fail
  go_cut [9] (fun s9 wx => ∃ ai ci, s9 = .slice ai I.length ci ∧ OV 0 3 (ints I) (.slice ai I.length ci) wx ∧ Below W1.heap.size W1 wx)
  case first =>
    clear hflB HLO hmem
    go_region_with ((first
      | (go_at_call 21; (with_reducible refine (refTop_any l _ K hkl hRP _ hDd.nodes.nodes).mono ?_); rintro e w4 ⟨rfl, rfl⟩; rw [HT.out])
      | (go_at_call 20; (with_reducible refine (HORD.out _ hDd.nodes.nodes).mono ?_); rintro e w5 ⟨vo, rfl, hov, hb5⟩; obtain ⟨ai, ci, rfl, _⟩ := hov.form; have hb15 := bs hbx hb5; rw [ints_len] at hov ⊢)))
    all_goals
      go_wp2_with fail
      go_meet
      exact ⟨_, _, rfl, ov_base hov (Nat.zero_le _), hb15⟩
  case rest =>
  obtain ⟨ai, ci, rfl, hov, hb15⟩ := hcut
  obtain ⟨wx, rfl⟩ := name_below hb15
  clear hbx hDd d0 d0d hgx f0
  have hD5 := hD1.kept hb15
  have hg5 := hb15.size
  have d0 := cellK hb15 (by omega) c0
  have d1 := cellK hb15 (by omega) c1
  have hbw := bs hb1 hb15
  go_wp2_with fail
  go_loopw [8, 10] (fun u i wr => ∃ k : Nat, k ≤ I.length ∧ i = .int .i64 k ∧ OE wx.heap.size ((I.take k).flatMap (fromF l cs (K : Nat) sub)) u wr ∧ Below wx.heap.size wx wr) (fun _ i _ => I.length - (intOf i).toNat)
  case atStart => exact ⟨0, Nat.zero_le _, rfl, OE.nil _ _, Below.refl _ _⟩
  case round =>
    obtain ⟨k, hk, rfl, ho, hbel⟩ := hrel
    have hsz := hbel.size
    have hDr := hD5.kept hbel
    have r0 := cellK hbel (by omega) d0
    have r1 := cellK hbel (by omega) d1
    have hB0 := hflB.out k
    have hlk : (I.take k).length ≤ 400 := by rw [List.length_take]; omega
    have hB1 : ((I.take k).flatMap (fromF l cs (K : Nat) sub)).length ≤ 400 * 1048576 := Nat.le_trans hB0 (Nat.mul_le_mul_right _ hlk)
    by_cases hlt : k < I.length
    · obtain ⟨q0, q1, _⟩ := hmem.out _ (List.getElem_mem hlt)
      have hov' := hov.kept hbel
      obtain ⟨g, gc, hv, _, hcell⟩ := hov'.at (by intro e; have := congrArg List.length e; rw [ints_len, List.length_nil] at this; omega)
      rw [ints_len] at hv
      cases hv
      have hgx : g < wx.heap.size := (World.ownsRow.lt hov g rfl).2
      have hgb : g < wr.heap.size := by omega
      have hcc := hcell k (.int .i64 I[k]) (by rw [ints, List.getElem?_map, List.getElem?_eq_getElem hlt]; rfl)
      have hfs := Lib.hid (flat_snoc (f := fromF l cs (K : Nat) sub) hlt)
      have hk0 : (0 : Int) ≤ (k : Int) := by omega
      have hk1 : (k : Int) < (I.length : Int) := by omega
      generalize I[k] = c at *
      obtain ⟨q, rfl⟩ := Int.eq_ofNat_of_zero_le q0
      have hql : q < l.length := by omega
      have hq0 : (0 : Int) ≤ (q : Int) := by omega
      have hq1 : (q : Int) < (l.length : Int) := by omega
      have hfr := show fromF l cs (K : Nat) sub (q : Nat) = if (submB (kOf l (q : Nat)) && decide (formF l (q : Nat) = (K : Nat))) = true then (if addB l cs (q : Nat) sub = true then ofF l cs (q : Nat) else []) else [] from rfl
      have hfB := fromF_len (l := l) hB (K : Nat) sub (q : Nat)
      have y1 := one_ats (hRP.node q _ (List.getElem?_eq_getElem hql)).1
      have y2 := one_vals (hRP.node q _ (List.getElem?_eq_getElem hql)).1
      obtain ⟨b, o, cap', wa, wk, hv, hb, e0, e1, e2, e3, e4, hatq, hksq⟩ := hDr.nodes.nodes.at hql
      cases hv
      have hkq := kOf_at hql
      rw [hkq] at hfr
      generalize l[q] = y at *
      obtain ⟨k0, k1⟩ := kindOf_range y
      obtain ⟨kk, hkk⟩ : ∃ kk, kindOf y = kk := ⟨_, rfl⟩
      rw [hkk] at hfr k0 k1
      have HKK := Lib.hid hkk
      clear hkk hkq
      have hLTn : w.heap.size < wr.heap.size := by omega
      have u0 := fun d : Aft wr => cellK d.is hLTn r0
      have u1 := fun d : Aft wr => cellK d.is hLTn r1
      have ucc := fun d : Aft wr => cellK d.is hgb hcc
      have n0 := fun d : Aft wr => cellK d.is hb e0
      have n1 := fun d : Aft wr => cellK d.is hb e1
      have n2 := fun d : Aft wr => cellK d.is hb e2
      have n3 := fun d : Aft wr => cellK d.is hb e3
      have n4 := fun d : Aft wr => cellK d.is hb e4
      have HDA := Lib.hid (fun d : Aft wr => hDr.kept d.is)
      have HAT := Lib.hid (fun d : Aft wr => hatq.kept d.is)
      have HY := Lib.hid (And.intro y1 y2)
      have HLL2 := HLL
      have hRPq := hRP
      clear hov hov' hcell hflB hmem HORD HH HK HLO hD1 hD hD5 hksq r0 r1 hcc e0 e1 e2 e3 e4 d0 d1 hks hat y1 y2
      have hcase : (submB kk = false ∨ (submB kk = true ∧ formF l (q : Nat) ≠ (K : Nat)) ∨ (submB kk = true ∧ formF l (q : Nat) = (K : Nat) ∧ addB l cs (q : Nat) sub = false)) ∨ (submB kk = true ∧ formF l (q : Nat) = (K : Nat) ∧ addB l cs (q : Nat) sub = true) := by
        cases submB kk <;> cases addB l cs (q : Nat) sub <;> by_cases h : formF l (q : Nat) = (K : Nat) <;> simp [h]
      rw [← formF_Form ((rightB_iff l).2 hRP)] at hfr hcase
      obtain ⟨ff, hff⟩ : ∃ ff, FormF l (q : Nat) = ff := ⟨_, rfl⟩
      rw [hff] at hfr hcase
      have HFF := Lib.hid hff
      clear hff
      rcases hcase with hno | ⟨hS, hF, hA⟩
      · have hN := Lib.hid (show (I.take (k + 1)).flatMap (fromF l cs (K : Nat) sub) = (I.take k).flatMap (fromF l cs (K : Nat) sub) by
          rw [hfs.out, hfr]
          rcases hno with h | ⟨h, h2⟩ | ⟨h, h2, h3⟩
          · rw [h, Bool.false_and, if_neg Bool.false_ne_true, List.append_nil]
          · rw [decide_eq_false h2, Bool.and_false, if_neg Bool.false_ne_true, List.append_nil]
          · rw [h3, if_neg Bool.false_ne_true]; split <;> rw [List.append_nil])
        clear hfr hfB
        rcases hno with hS | ⟨hS, hF⟩ | ⟨hS, hF, hA⟩
        · have HS := Lib.hid hS
          clear hS
          go_wp2_with fail
          refine wp_region_after (W := wr) (by kernel_rfl) (by kernel_rfl) (Below.refl _ _) ?_
          repeat (go_big_quiet_step (first
            | (go_at_call 23; refine Calls.after (v := .int .i64 kk) ?_; refine (refOf11_any y wa wk (by have := HY.out.1; omega) (fun a ha => Nat.le_trans (HY.out.2 a ha) (by omega)) _ (HAT.out _)).mono ?_; rintro e w6 ⟨rfl, hb6⟩; rw [HKK.out]; exact ⟨rfl, hb6⟩)
            | (go_at_call 22; refine Calls.after (v := .bool false) ?_; refine (refIs2_any kk k0 k1 _).mono ?_; rintro e w7 ⟨rfl, rfl⟩; rw [HS.out]; exact ⟨rfl, Below.refl _ _⟩)))
          refine wpQuiet_nil ?_
          rintro _ ⟨d, rfl⟩
          go_wp2_with fail
          go_roundw
          case rel => exact ⟨k + 1, by omega, by go_num, by rw [hN.out]; exact ho.kept d.is, hbel.trans (d.is.mono hsz)⟩
          case measure => simp [intOf]; omega
        · have HS := Lib.hid hS
          have qF := intNe hF
          clear hS hF
          go_wp2_with fail
          refine wp_region_after (W := wr) (by kernel_rfl) (by kernel_rfl) (Below.refl _ _) ?_
          repeat (go_big_quiet_step (first
            | (go_at_call 23; refine Calls.after (v := .int .i64 kk) ?_; refine (refOf11_any y wa wk (by have := HY.out.1; omega) (fun a ha => Nat.le_trans (HY.out.2 a ha) (by omega)) _ (HAT.out _)).mono ?_; rintro e w6 ⟨rfl, hb6⟩; rw [HKK.out]; exact ⟨rfl, hb6⟩)
            | (go_at_call 22; refine Calls.after (v := .bool true) ?_; refine (refIs2_any kk k0 k1 _).mono ?_; rintro e w7 ⟨rfl, rfl⟩; rw [HS.out]; exact ⟨rfl, Below.refl _ _⟩)
            | (go_at_call 24; refine Calls.after (v := .int .i64 ff) ?_; refine (refForm_any l _ (q : Nat) hmax hfits _ (HDA.out _).nodes.nodes).mono ?_; rintro e w7 ⟨rfl, hb7⟩; rw [HFF.out]; exact ⟨rfl, hb7⟩)))
          refine wpQuiet_nil ?_
          rintro _ ⟨d, rfl⟩
          go_wp2_with fail
          go_roundw
          case rel => exact ⟨k + 1, by omega, by go_num, by rw [hN.out]; exact ho.kept d.is, hbel.trans (d.is.mono hsz)⟩
          case measure => simp [intOf]; omega
        · have HS := Lib.hid hS
          have qF : (ff == (K : Int)) = true := by rw [hF]; exact beq_self_eq_true _
          have HA := Lib.hid hA
          clear hS hF hA
          go_wp2_with fail
          refine wp_region_after (W := wr) (by kernel_rfl) (by kernel_rfl) (Below.refl _ _) ?_
          repeat (go_big_quiet_step (first
            | (go_at_call 23; refine Calls.after (v := .int .i64 kk) ?_; refine (refOf11_any y wa wk (by have := HY.out.1; omega) (fun a ha => Nat.le_trans (HY.out.2 a ha) (by omega)) _ (HAT.out _)).mono ?_; rintro e w6 ⟨rfl, hb6⟩; rw [HKK.out]; exact ⟨rfl, hb6⟩)
            | (go_at_call 22; refine Calls.after (v := .bool true) ?_; refine (refIs2_any kk k0 k1 _).mono ?_; rintro e w7 ⟨rfl, rfl⟩; rw [HS.out]; exact ⟨rfl, Below.refl _ _⟩)
            | (go_at_call 24; refine Calls.after (v := .int .i64 ff) ?_; refine (refForm_any l _ (q : Nat) hmax hfits _ (HDA.out _).nodes.nodes).mono ?_; rintro e w7 ⟨rfl, hb7⟩; rw [HFF.out]; exact ⟨rfl, hb7⟩)
            | (go_at_call 25; refine Calls.after (v := .bool false) ?_; refine (refAdds_any l cs _ _ q sub hql hRP HLL.out _ (HDA.out _)).mono ?_; rintro e w7 ⟨rfl, hb7⟩; rw [HA.out]; exact ⟨rfl, hb7⟩)))
          refine wpQuiet_nil ?_
          rintro _ ⟨d, rfl⟩
          go_wp2_with fail
          go_roundw
          case rel => exact ⟨k + 1, by omega, by go_num, by rw [hN.out]; exact ho.kept d.is, hbel.trans (d.is.mono hsz)⟩
          case measure => simp [intOf]; omega
      · have hN := Lib.hid (show (I.take (k + 1)).flatMap (fromF l cs (K : Nat) sub) = (I.take k).flatMap (fromF l cs (K : Nat) sub) ++ ofF l cs (q : Nat) by
          rw [hfs.out, hfr, hS, decide_eq_true hF, hA]; rfl)
        have hfO : (ofF l cs (q : Nat)).length ≤ 1048576 := by
          have h := fromF_len (l := l) hB (K : Nat) sub (q : Nat)
          rw [show fromF l cs (K : Nat) sub (q : Nat) = ofF l cs (q : Nat) by rw [hfr, hS, decide_eq_true hF, hA]; rfl] at h
          exact h
        have HS := Lib.hid hS
        have qF : (ff == (K : Int)) = true := by rw [hF]; exact beq_self_eq_true _
        have HA := Lib.hid hA
        clear hS hF hA hfr hfB
        go_wp2_with fail
        refine wp_region_after (W := wr) (by kernel_rfl) (by kernel_rfl) (Below.refl _ _) ?_
        repeat (go_big_quiet_step (first
          | (go_at_call 23; refine Calls.after (v := .int .i64 kk) ?_; refine (refOf11_any y wa wk (by have := HY.out.1; omega) (fun a ha => Nat.le_trans (HY.out.2 a ha) (by omega)) _ (HAT.out _)).mono ?_; rintro e w6 ⟨rfl, hb6⟩; rw [HKK.out]; exact ⟨rfl, hb6⟩)
          | (go_at_call 22; refine Calls.after (v := .bool true) ?_; refine (refIs2_any kk k0 k1 _).mono ?_; rintro e w7 ⟨rfl, rfl⟩; rw [HS.out]; exact ⟨rfl, Below.refl _ _⟩)
          | (go_at_call 24; refine Calls.after (v := .int .i64 ff) ?_; refine (refForm_any l _ (q : Nat) hmax hfits _ (HDA.out _).nodes.nodes).mono ?_; rintro e w7 ⟨rfl, hb7⟩; rw [HFF.out]; exact ⟨rfl, hb7⟩)
          | (go_at_call 25; refine Calls.after (v := .bool true) ?_; refine (refAdds_any l cs _ _ q sub hql hRP HLL.out _ (HDA.out _)).mono ?_; rintro e w7 ⟨rfl, hb7⟩; rw [HA.out]; exact ⟨rfl, hb7⟩)))
        refine wpQuiet_nil ?_
        rintro _ ⟨d, rfl⟩
        have s0 := u0 d
        have s1 := u1 d
        have s2 := ucc d
        have hDw := HDA.out d
        have hod := ho.kept d.is
        have hbd := hbel.trans (d.is.mono hsz)
        have hgd := hbd.size
        clear u0 u1 ucc n0 n1 n2 n3 n4 HAT HDA
        generalize d.w = W at s0 s1 s2 hDw hod hbd hgd ⊢
        have hS1 := And.intro s0 (And.intro s1 (And.intro s2 (And.intro (show w.heap.size < wx.heap.size by omega) (And.intro hgx hbd))))
        clear s0 s1 s2 ho hbel hDr hatq HY hgb hb
        go_wp2_with fail
        first | go_region_held3 (fun W => W.cell? ⟨w.heap.size, 0, none⟩ = some (.slice (some ⟨b, o, none⟩) l.length cap1) ∧ W.cell? ⟨w.heap.size, 1, none⟩ = some (.slice a2 cs.length cap2) ∧ W.cell? ⟨g, k, none⟩ = some (.int .i64 (q : Nat)) ∧ w.heap.size < wx.heap.size ∧ g < wx.heap.size ∧ Below wx.heap.size wx W) (with_reducible first | assumption | exact nT_drew (by assumption) | exact nT_kept (by assumption) (by assumption) | exact nT_at (by assumption) (by assumption)) ((first
          | (go_at_call 26; refine (refOf22_any l cs _ _ q hql hRP HLL.out hB _ (hDw.kept (below_draws W 1))).mono ?_; rintro e w9 ⟨vo, rfl, hEo, hb9⟩; have hS9 := nT_kept (nT_drew hS1) hb9; have ho9 := hod.kept (bs (below_draws W 1) hb9); have hg9 := hS9.2.2.2.2.2.size)
          | (refine step_append_entsG rfl _ _ rfl rfl rfl hEo ho9 (by omega) hg9 ?_; intro v' w10 ho10 hb10))) | fail
        all_goals (try go_wp2_with fail)
        all_goals
          go_roundw
          case rel => exact ⟨k + 1, by omega, by go_num, by rw [hN.out]; exact ho10, hS9.2.2.2.2.2.trans hb10⟩
          case measure => simp [intOf]; omega
    · obtain rfl : k = I.length := by omega
      go_wp2_with fail
      go_ret2
      exact ⟨_, by rw [hR.out]; rfl, by rw [HLO.out]; rw [List.take_length] at ho; exact ho.ents, bs hbw hbel⟩
end Go.Proofs.YtafbghlldlconaaGreat
