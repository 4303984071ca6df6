import Derived.Test.YtenicjebccdekaaPart6
import Derived.Test.YtenicjebccdekaaPart2
import Derived.DeepKeys4
/-
  GROUPS OF RADIO BUTTONS: keys, group.radio, group.of, group.order: the walks.
-/
namespace Go.Proofs.Ytenicjebccdekaa
set_option linter.unusedVariables false
set_option linter.unusedSimpArgs false
open Go.RowKit PT

/-- what a group has in common -/
structure GKey where
  nm : ByteArray
  f : Int
  t : Int
  s : Int
def keyV (κ : GKey) : Value := .agg #[.string κ.nm, .int .i64 κ.f, .int .i64 κ.t, .int .i64 κ.s]
def radB (l : List Nd) (k : Int) : Bool := decide (kindF l k = 17)
noncomputable def nameF (l : List Nd) (k : Int) : ByteArray := (attF l k ⟨#[110, 97, 109, 101]⟩).getD ⟨#[]⟩
noncomputable def keyF (l : List Nd) (k : Int) : GKey := if (nameF l k).size = 0 then ⟨⟨#[]⟩, -2, 0, k⟩ else ⟨nameF l k, FormF l k, topB l k, -1⟩
noncomputable def keyL (κ : GKey) : Lit := (keyOf Try.prog 73 (keyV κ)).getD .nil
theorem keyLaw : Go.Maps.Keyed Try.prog 73 := Go.Maps.Keyed.of_law (deep_law_laid (P := Try.prog) (by kernel_rfl) (m := 2) (by omega) (of_decide_eq_true (by kernel_rfl)) (by kernel_rfl) (by kernel_rfl))
set_option maxRecDepth 100000 in
theorem keyOf_key {κ : GKey} (h0 : κ.nm.size ≤ maxLen) (h1 : (Lit.int .i64 κ.f).wf = true) (h2 : (Lit.int .i64 κ.t).wf = true) (h3 : (Lit.int .i64 κ.s).wf = true) : keyOf Try.prog 73 (keyV κ) = some (keyL κ) := by
  have key : ∃ x, keyOf Try.prog 73 (keyV κ) = some x := by
    unfold keyOf keyV
    rw [Try.underlying73]
    have hk : Try.prog.keyType 73 = true := by kernel_rfl
    have hf : (Value.agg #[.string κ.nm, .int .i64 κ.f, .int .i64 κ.t, .int .i64 κ.s]).formed Try.prog 73 = true := by
      have hc : Try.prog.cellsOf 73 = 4 := by kernel_rfl
      simp [Value.formed, Try.underlying73, hc]
    obtain ⟨m, hm⟩ : ∃ m, Try.prog.types.size + 1 = m + 1 + 1 := ⟨Try.prog.types.size - 1, by have : 0 < Try.prog.types.size := of_decide_eq_true (by kernel_rfl); omega⟩
    have hc : Try.prog.cellsOf 73 = 4 := by kernel_rfl
    have hcs : Try.prog.cellsOf 9 = 1 := by kernel_rfl
    have hci : Try.prog.cellsOf 3 = 1 := by kernel_rfl
    simp only [hk, hf, Bool.and_self, if_true, hm]
    simp [Program.keyLits, Try.underlying73, Try.underlying9, Try.underlying3, hc, hcs, hci, Value.cells, h0, h1, h2, h3]
  obtain ⟨x, hx⟩ := key
  unfold keyL
  rw [hx]
  rfl
theorem keyL_inj {κ κ' : GKey} (h0 : κ.nm.size ≤ maxLen) (h1 : (Lit.int .i64 κ.f).wf = true) (h2 : (Lit.int .i64 κ.t).wf = true) (h3 : (Lit.int .i64 κ.s).wf = true)
    (h0' : κ'.nm.size ≤ maxLen) (h1' : (Lit.int .i64 κ'.f).wf = true) (h2' : (Lit.int .i64 κ'.t).wf = true) (h3' : (Lit.int .i64 κ'.s).wf = true) (h : keyL κ = keyL κ') : κ = κ' := by
  have e1 := keyOf_key h0 h1 h2 h3
  have e2 := keyOf_key h0' h1' h2' h3'
  rw [h] at e1
  have := keyLaw.inj e1 e2
  unfold keyV at this
  obtain ⟨a, b, c, d⟩ := κ
  obtain ⟨a', b', c', d'⟩ := κ'
  simp at this
  obtain ⟨rfl, rfl, rfl, rfl⟩ := this
  rfl
set_option maxHeartbeats 4000000 in
set_option maxRecDepth 100000 in
theorem radio_any (l : List Nd) (v : Value) (id : Int) (hl : l.length ≤ 1000000000000000000) (hRP : RightP l) (w : World) (hU : Nodes l v w) :
    Calls Try.prog 76 #[v, .int .i64 id] w fun e w' => e = .returned (.bool (radB l id)) ∧ Below w.heap.size w w' := by
  obtain ⟨a, cap, rfl⟩ := hU.len
  by_cases h0 : 0 ≤ id
  case neg =>
    have hR := Lib.hid (show radB l id = false by unfold radB kindF; rw [if_neg (fun h => h0 h.1)]; rfl)
    have h0' : decide (0 ≤ id) = false := decide_eq_false h0
    go_enter Try.func76, Try.ntmps76
    go_wp2_with fail
    go_ret
    exact ⟨ret_bool hR.out.symm, Below.refl _ _⟩
  by_cases h1 : id < l.length
  case neg =>
    have hR := Lib.hid (show radB l id = false by unfold radB kindF; rw [if_neg (fun h => h1 h.2)]; rfl)
    have h1' : decide (id < (l.length : Int)) = false := decide_eq_false h1
    go_enter Try.func76, Try.ntmps76
    go_wp2_with fail
    go_ret
    exact ⟨ret_bool hR.out.symm, Below.refl _ _⟩
  obtain ⟨K, rfl⟩ := Int.eq_ofNat_of_zero_le h0
  have hkl : K < l.length := by omega
  obtain ⟨b, o, cap', va, vk, hv, hb, c0, c1, c2, c3, c4, hat, hks⟩ := hU.at hkl
  cases hv
  have hR := Lib.hid (show radB l (K : Nat) = decide (kindOf l[K] = 17) by unfold radB; rw [kindF_in h0 h1, kOf_at hkl])
  obtain ⟨z1, z2⟩ := hRP.vals _ (List.getElem_mem hkl)
  generalize l[K] = x at *
  have hK0 : (0 : Int) ≤ (K : Int) := by omega
  have hK1 : (K : Int) < (l.length : Int) := by omega
  by_cases hk : kindOf x = 17
  · have HK := Lib.hid hk
    have hR := Lib.hid (hR.out.trans (decide_eq_true hk))
    clear hk
    go_enter Try.func76, Try.ntmps76
    go_wp2_with fail
    refine (kindsOf_any x va vk z1 z2 _ hat).mono ?_
    rintro e w1 ⟨rfl, hb1⟩
    rw [HK.out]
    go_wp2_with fail
    go_ret
    exact ⟨ret_bool hR.out.symm, hb1⟩
  · have hq := Lib.hid (intNe hk)
    have hR := Lib.hid (hR.out.trans (decide_eq_false hk))
    clear hk
    go_enter Try.func76, Try.ntmps76
    go_wp2_with fail
    refine (kindsOf_any x va vk z1 z2 _ hat).mono ?_
    rintro e w1 ⟨rfl, hb1⟩
    have q1 := hq.out
    go_wp2_with fail
    go_ret
    exact ⟨ret_bool hR.out.symm, hb1⟩
theorem four_of {W : World} {g : Nat} {a b c d : Value} {t : TypeId} (h : W.heap[g]? = some (.cells #[a, b, c, d] t (0, 0))) :
    W.cell? ⟨g, 0, none⟩ = some a ∧ W.cell? ⟨g, 1, none⟩ = some b ∧ W.cell? ⟨g, 2, none⟩ = some c ∧ W.cell? ⟨g, 3, none⟩ = some d ∧
    W.frozen? ⟨g, 0, none⟩ = false ∧ W.frozen? ⟨g, 1, none⟩ = false ∧ W.frozen? ⟨g, 2, none⟩ = false ∧ W.frozen? ⟨g, 3, none⟩ = false := by
  simp [World.cell?, World.frozen?, h]
theorem set4_heap {W : World} {g : Nat} {a0 b0 c0 d0 : Value} {t : TypeId} (a b c d : Value) (h : W.heap[g]? = some (.cells #[a0, b0, c0, d0] t (0, 0))) :
    ((((W.setCell ⟨g, 0, none⟩ a).setCell ⟨g, 1, none⟩ b).setCell ⟨g, 2, none⟩ c).setCell ⟨g, 3, none⟩ d).heap[g]? = some (.cells #[a, b, c, d] t (0, 0)) := by
  rw [setCell_heap d (setCell_heap c (setCell_heap b (setCell_heap a h)))]
  rfl
theorem set4_below {B : Nat} (W : World) (g : Nat) (a b c d : Value) (hB : B ≤ g) : Below B W ((((W.setCell ⟨g, 0, none⟩ a).setCell ⟨g, 1, none⟩ b).setCell ⟨g, 2, none⟩ c).setCell ⟨g, 3, none⟩ d) :=
  ((((Below.refl B W).setCell (p := ⟨g, 0, none⟩) hB a).setCell (p := ⟨g, 1, none⟩) hB b).setCell (p := ⟨g, 2, none⟩) hB c).setCell (p := ⟨g, 3, none⟩) hB d
set_option maxHeartbeats 4000000 in
set_option maxRecDepth 100000 in
theorem groupOf_any (l : List Nd) (v : Value) (id : Int) (hl : l.length ≤ 1000000000000000000) (hz : ∀ x ∈ l, Fits x) (w : World) (hU : Nodes l v w) :
    Calls Try.prog 78 #[v, .int .i64 id] w fun e w' => e = .returned (keyV (keyF l id)) ∧ Below w.heap.size w w' := by
  obtain ⟨a, cap, rfl⟩ := hU.len
  have hb0 := (Below.refl w.heap.size w).alloc (Nat.le_refl _) (.cells #[.string ⟨#[]⟩, .int .i64 0, .int .i64 0, .int .i64 0] 73)
  have hn0 := Go.heap_alloc_new w (.cells #[.string ⟨#[]⟩, .int .i64 0, .int .i64 0, .int .i64 0] 73)
  have hU0 := hU.kept hb0
  have hs0 : (w.alloc (.cells #[.string ⟨#[]⟩, .int .i64 0, .int .i64 0, .int .i64 0] 73)).heap.size = w.heap.size + 1 := by simp
  have hNm := Lib.hid (show nameF l id = (attF l id ⟨#[110, 97, 109, 101]⟩).getD ⟨#[]⟩ from rfl)
  have hK := show keyF l id = (if (nameF l id).size = 0 then ⟨⟨#[]⟩, -2, 0, id⟩ else ⟨nameF l id, FormF l id, topB l id, -1⟩) from rfl
  obtain ⟨nm, hnm⟩ : ∃ nm, nameF l id = nm := ⟨_, rfl⟩
  rw [hnm] at hK
  have HN := Lib.hid (hNm.out.symm.trans hnm)
  clear hnm
  by_cases hs : nm.size = 0
  · have hR := Lib.hid (hK.trans (if_pos hs))
    have e1 := emp_yes hs
    have e2 := empt_yes hs
    clear hs hK
    go_enter Try.func78, Try.ntmps78
    go_wp2_with fail
    generalize World.alloc _ _ = W0 at hb0 hn0 hU0 hs0 ⊢
    refine (attr_any l _ id ⟨#[110, 97, 109, 101]⟩ hl hz _ hU0).mono ?_
    unfold atT
    rw [HN.out]
    rintro e w1 ⟨rfl, hb1⟩
    have hn1 := blk_kept hb1 hn0
    obtain ⟨x0, x1, x2, x3, f0, f1, f2, f3⟩ := four_of hn1
    have hb01 := bs hb0 hb1
    have hg1 := hb1.size
    go_wp2_with fail
    have z := set4_heap (.string ⟨#[]⟩) (.int .i64 (-2)) (.int .i64 0) (.int .i64 id) hn1
    have hb9 := (hb01).trans (set4_below _ w.heap.size (.string ⟨#[]⟩) (.int .i64 (-2)) (.int .i64 0) (.int .i64 id) (Nat.le_refl w.heap.size))
    generalize World.setCell (World.setCell (World.setCell (World.setCell _ _ _) _ _) _ _) _ _ = W9 at z hb9 ⊢
    obtain ⟨y0, y1, y2, y3, _, _, _, _⟩ := four_of z
    exact bodyPost_ret (v := .agg #[.string ⟨#[]⟩, .int .i64 (-2), .int .i64 0, .int .i64 id]) (by simp [results, Try.results78, go_sem, y0, y1, y2, y3]) rfl ⟨by rw [hR.out]; rfl, hb9⟩
  · have hR := Lib.hid (hK.trans (if_neg hs))
    have e1 := emp_no hs
    have e2 := empt_no hs
    clear hs hK
    go_enter Try.func78, Try.ntmps78
    go_wp2_with fail
    generalize World.alloc _ _ = W0 at hb0 hn0 hU0 hs0 ⊢
    refine (attr_any l _ id ⟨#[110, 97, 109, 101]⟩ hl hz _ hU0).mono ?_
    unfold atT
    rw [HN.out]
    rintro e w1 ⟨rfl, hb1⟩
    go_wp2_with fail
    refine (ownerFormTop_any l _ id hl hz _ (hU0.kept hb1)).mono ?_
    rintro e w2 ⟨rfl, hb2⟩
    have hU2 := (hU0.kept hb1).kept hb2
    go_wp2_with fail
    refine (top_any l _ id hl hz _ hU2).mono ?_
    rintro e w3 ⟨rfl, hb3⟩
    have hn3 := blk_kept hb3 (blk_kept hb2 (blk_kept hb1 hn0))
    obtain ⟨x0, x1, x2, x3, f0, f1, f2, f3⟩ := four_of hn3
    have hb03 := bs (bs (bs hb0 hb1) hb2) hb3
    go_wp2_with fail
    have z := set4_heap (.string nm) (.int .i64 (FormF l id)) (.int .i64 (topB l id)) (.int .i64 (-1)) hn3
    have hb9 := (hb03).trans (set4_below _ w.heap.size (.string nm) (.int .i64 (FormF l id)) (.int .i64 (topB l id)) (.int .i64 (-1)) (Nat.le_refl w.heap.size))
    generalize World.setCell (World.setCell (World.setCell (World.setCell _ _ _) _ _) _ _) _ _ = W9 at z hb9 ⊢
    obtain ⟨y0, y1, y2, y3, _, _, _, _⟩ := four_of z
    exact bodyPost_ret (v := .agg #[.string nm, .int .i64 (FormF l id), .int .i64 (topB l id), .int .i64 (-1)]) (by simp [results, Try.results78, go_sem, y0, y1, y2, y3]) rfl ⟨by rw [hR.out]; rfl, hb9⟩
set_option maxHeartbeats 4000000 in
set_option maxRecDepth 100000 in
theorem gorder_any (l : List Nd) (hRP : RightP l) : ∀ (n K : Nat), K < l.length → l.length + 2 ≤ n + dep l K → ∀ (v : Value) (w : World), (∀ x ∈ l, Fits x) → Nodes l v w →
    Calls Try.prog 108 #[v, .int .i64 K] w fun e w' => ∃ vo, e = .returned vo ∧ OV w.heap.size 3 (ints (ord l K)) vo w' ∧ Below w.heap.size w w' := by
  intro n
  induction n with
  | zero => intro K _ hd; have := dep_le l K; omega
  | succ n ih =>
    intro K hK hd v w hz hU
    obtain ⟨a, cap, rfl⟩ := hU.len
    have hmax := hRP.max
    obtain ⟨b, o, cap', va, vk, hv, hb, c0, c1, c2, c3, c4, hat, hks⟩ := hU.at hK
    cases hv
    obtain ⟨_, _, _, z3, _⟩ := hz _ (List.getElem_mem hK)
    have hke := Lib.hid (ksOf_at hK)
    have hkid := Lib.hid (fun (c : Int) (hc : c ∈ ksOf l K) => hRP.kid (k := (K : Int)) (by omega) (by omega) hc)
    have hdk := Lib.hid (fun (c : Int) (hc : c ∈ ksOf l K) => dep_kid hRP (k := (K : Int)) (by omega) (by omega) hc)
    have hoe := Lib.hid (ord_eq hRP (k := (K : Int)) (by omega) (by omega))
    have hpre := Lib.hid (fun k => ord_pre hRP (K := K) (k := k) hK)
    generalize l[K] = x at *
    rw [hke.out] at hkid hdk hoe hpre
    have hK0 : (0 : Int) ≤ (K : Int) := by omega
    have hK1 : (K : Int) < (l.length : Int) := by omega
    have hb0 := (Below.refl w.heap.size w).alloc (Nat.le_refl _) (.cells #[.int .i64 K] 3)
    have hlit : OV w.heap.size 3 (ints [(K : Int)]) (.slice (some ⟨w.heap.size, 0, none⟩) 1 1) (w.alloc (.cells #[.int .i64 K] 3)) := World.ownsRow_lit w #[.int .i64 K] 1 (Nat.le_refl _) (by unfold maxLen; omega) rfl
    have hs0 : w.heap.size ≤ (w.alloc (.cells #[.int .i64 K] 3)).heap.size := by simp
    replace c4 := cellK hb0 hb c4
    replace c3 := cellK hb0 hb c3
    obtain ⟨ka, kcap, rfl⟩ := hks.len
    go_enter Try.func108, Try.ntmps108
    go_upto_region 2 with fail
    generalize World.alloc _ _ = W0 at hb0 hlit hs0 c3 c4 ⊢
    go_wp2_with fail
    go_loopw [5, 16] (fun vo i wr => ∃ k : Nat, k ≤ x.ks.length ∧ i = .int .i64 k ∧ OV w.heap.size 3 (ints ((K : Int) :: (x.ks.take k).flatMap (ord l))) vo wr ∧ Below w.heap.size w wr) (fun _ i _ => x.ks.length - (intOf i).toNat)
    case atStart => exact ⟨0, Nat.zero_le _, rfl, by simpa using hlit, hb0⟩
    case round =>
      obtain ⟨k, hk, rfl, hov, hbel⟩ := hrel
      have hsz := hbel.size
      by_cases hlt : k < x.ks.length
      · have hUr := hU.kept hbel
        obtain ⟨kb, ko, kcap', kv, khb, kc0⟩ := (hks.kept hbel).at hlt
        cases kv
        have hmem := List.getElem_mem hlt
        have hk0 : (0 : Int) ≤ (k : Int) := by omega
        have hk1 : (k : Int) < (x.ks.length : Int) := by omega
        have htk := Lib.hid (show (x.ks.take (k + 1)).flatMap (ord l) = (x.ks.take k).flatMap (ord l) ++ ord l x.ks[k] by
          rw [List.take_add_one, List.getElem?_eq_getElem hlt, List.flatMap_append]; simp)
        generalize x.ks[k] = c at *
        obtain ⟨d0, d1, _⟩ := hkid.out c hmem
        have hdc := hdk.out c hmem
        obtain ⟨q, rfl⟩ := Int.eq_ofNat_of_zero_le d0
        have hq : q < l.length := by omega
        have hq9 := Lib.hid (show l.length + 2 ≤ n + dep l (q : Int) by omega)
        have hp1 := hpre.out k
        have hol := ord_len hRP (k := (q : Int)) (by omega) (by omega)
        clear hdc
        go_wp2_with fail
        refine (ih q hq hq9.out _ _ hz hUr).mono ?_
        rintro e w' ⟨vo2, rfl, hov2, hb5⟩
        have hovW := hov.kept hb5
        have hbW := hbel.trans (hb5.mono hsz)
        have hgW := hbW.size
        have hne : ints (ord l (q : Int)) ≠ [] := by rw [ord_eq hRP (by omega) (by omega)]; simp [ints]
        obtain ⟨g, gcap, rfl, _, hcell⟩ := hov2.at hne
        have hil : (ints (ord l (q : Int))).length = (ord l (q : Int)).length := by simp [ints]
        have hil2 : (ints ((K : Int) :: (x.ks.take k).flatMap (ord l))).length = ((K : Int) :: (x.ks.take k).flatMap (ord l)).length := by simp [ints]
        go_wp2_with (at_builtin; refine wpList_append_row rfl _ _ 28 3 rfl Try.underlying28 info_i64 rfl (by decide) rfl rfl hil (fun j u hu => by rw [addr_add, Nat.zero_add]; exact hcell j u hu) (ints_one _) hovW (by rw [hil, hil2]; omega) hgW ?_; intro v' w1 hov3 hb6)
        go_roundw
        case rel => exact ⟨k + 1, by omega, by go_num, by rw [htk.out]; simpa [ints] using hov3, hbW.trans (hb6.mono (by omega))⟩
        case measure => simp [intOf]; omega
      · obtain rfl : k = x.ks.length := by omega
        rw [List.take_of_length_le (Nat.le_refl _)] at hov
        go_wp2_with fail
        go_ret
        exact ⟨_, rfl, by rw [hoe.out]; exact hov, hbel⟩
end Go.Proofs.Ytenicjebccdekaa

/-
  EACH CONTROL IS AN ELEMENT OF JUST ONE FORM: plain laws.
-/
namespace Go.Proofs.Ytenicjebccdekaa
set_option linter.unusedVariables false
set_option linter.unusedSimpArgs false
open Go.RowKit PT

theorem near_name {l : List Nd} (h : RightP l) (s : ByteArray) : ∀ (n : Nat) (k : Int), dep l k ≤ n → k < l.length → 0 ≤ nearF l s k → nmOf l (nearF l s k) = s ∧ nearF l s k < l.length
  | 0, k, hn, h1, hp => by
    have hk : k < 0 := by
      by_cases h0 : 0 ≤ k
      · have := dep_eq h h0 h1; omega
      · omega
    rw [nearF_neg l s hk] at hp
    omega
  | n + 1, k, hn, h1, hp => by
    by_cases h0 : 0 ≤ k
    · by_cases hm : nmOf l k = s
      · rw [nearF_hit h h0 h1 hm]
        exact ⟨hm, h1⟩
      · rw [nearF_go h h0 h1 hm] at hp ⊢
        have hd := dep_eq h h0 h1
        exact near_name h s n (paOf l k) (by omega) (h.pa_lt h0 h1) hp
    · rw [nearF_neg l s (by omega)] at hp
      omega
theorem up_kind {l : List Nd} (h : RightP l) {k : Int} (hp : 0 ≤ upB l k ⟨#[102, 111, 114, 109]⟩) : kindF l (upB l k ⟨#[102, 111, 114, 109]⟩) = 30 := by
  unfold upB at hp ⊢
  split
  · rename_i hh
    rw [if_pos hh] at hp
    obtain ⟨h0, h1, _⟩ := (hasB_iff l k).1 hh
    obtain ⟨hn, hl⟩ := near_name h ⟨#[102, 111, 114, 109]⟩ _ (paOf l k) (Nat.le_refl _) (h.pa_lt h0 h1) hp
    exact (kindF_form hp hl).2 hn
  · rename_i hh
    rw [if_neg hh] at hp
    omega
theorem form_kind {l : List Nd} (h : RightP l) {k : Int} (hp : 0 ≤ formF l k) : kindF l (formF l k) = 30 := by
  unfold formF at hp ⊢
  split
  · rename_i hc
    rw [if_pos hc] at hp
    omega
  · rename_i hc
    rw [if_neg hc] at hp
    cases ha : attF l k ⟨#[102, 111, 114, 109]⟩ with
    | none =>
      rw [ha] at hp
      exact up_kind h hp
    | some s =>
      rw [ha] at hp
      have hp' : 0 ≤ (if topB l k = 0 then (if kindF l (namedF l s) = 30 then namedF l s else -1) else upB l k ⟨#[102, 111, 114, 109]⟩) := hp
      show kindF l (if topB l k = 0 then (if kindF l (namedF l s) = 30 then namedF l s else -1) else upB l k ⟨#[102, 111, 114, 109]⟩) = 30
      by_cases ht : topB l k = 0
      · rw [if_pos ht] at hp' ⊢
        by_cases hk : kindF l (namedF l s) = 30
        · rw [if_pos hk]; exact hk
        · rw [if_neg hk] at hp'; omega
      · rw [if_neg ht] at hp' ⊢
        exact up_kind h hp'
theorem root_uniq {l : List Nd} (h : RightP l) {k t : Int} (k1 : k < l.length) (t1 : t < l.length) (ht : paOf l t < 0) (ha : Anc l k t) (h0 : 0 ≤ k) (t0 : 0 ≤ t) : topF l k = t := by
  obtain ⟨a, b, c, d⟩ := topF_all h _ k (Nat.le_refl _) h0 k1
  have e1 : dep l (topF l k) = 1 := by
    rw [dep_eq h a b]
    have : dep l (paOf l (topF l k)) = 0 := depF_neg l c _
    omega
  have e2 : dep l t = 1 := by
    rw [dep_eq h t0 t1]
    have : dep l (paOf l t) = 0 := depF_neg l ht _
    omega
  exact Anc.uniq h (by rw [e1, e2]) _ k rfl k1 d ha
theorem ord_top {l : List Nd} (h : RightP l) {k f : Int} (k0 : 0 ≤ k) (k1 : k < l.length) (f0 : 0 ≤ f) (f1 : f < l.length) : k ∈ ord l (topF l f) ↔ topF l k = topF l f := by
  obtain ⟨a, b, c, d⟩ := topF_all h _ f (Nat.le_refl _) f0 f1
  constructor
  · intro hm
    obtain ⟨_, _, ha⟩ := ord_mem h a b hm
    exact root_uniq h k1 b c ha k0 a
  · intro e
    obtain ⟨a', b', c', d'⟩ := topF_all h _ k (Nat.le_refl _) k0 k1
    rw [e] at d'
    exact (ord_full h _ k (Nat.le_refl _) k0 k1 d').1
theorem S_single (n f v : Nat) (hf : f < n) : S n (fun j => if j = f then v else 0) = v := by
  induction n with
  | zero => omega
  | succ n ih =>
    show S n (fun j => if j = f then v else 0) + (if n = f then v else 0) = v
    by_cases e : n = f
    · subst e
      rw [if_pos rfl, S_congr (g := fun _ => 0) (fun i hi => if_neg (by omega)), S_zero]
      omega
    · rw [ih (by omega), if_neg e]
      omega
theorem S_bound {f : Nat → Nat} {m : Nat} : ∀ n, (∀ j, j < n → f j ≤ m) → S n f ≤ n * m
  | 0, _ => by rw [Nat.zero_mul]; exact Nat.le_refl _
  | n + 1, h => by
    have := S_bound n (fun j hj => h j (by omega))
    have h2 := h n (by omega)
    show S n f + f n ≤ (n + 1) * m
    rw [Nat.add_mul]; omega
/-- how often a node stands among the elements of so many nodes -/
noncomputable def cnt (l : List Nd) (i k : Nat) : Nat := S i (fun j => (elemsF l (j : Nat)).count (k : Int))
noncomputable def wantP (l : List Nd) (k : Nat) : Bool := decide (0 ≤ formF l (k : Nat)) && (listB (kOf l (k : Nat)) && decide (topF l (k : Nat) = topF l (formF l (k : Nat))))
theorem elems_mem {l : List Nd} {j : Int} {k : Int} : k ∈ elemsF l j ↔ k ∈ inF l j ∧ listB (kindF l k) = true ∧ formF l k = j := by
  unfold elemsF elP
  rw [List.mem_filter, Bool.and_eq_true, decide_eq_true_iff]
theorem inF_nodup {l : List Nd} (h : RightP l) (j : Int) : (inF l j).Nodup := by
  unfold inF
  split
  · rename_i hc
    obtain ⟨i0, i1⟩ := kindF_pos (l := l) (k := j) (by omega)
    obtain ⟨t0, t1⟩ := topF_range h i0 i1
    exact nodup_ordF h _ _ t0 t1
  · exact List.nodup_nil
theorem elems_count {l : List Nd} (h : RightP l) (j k : Int) : (elemsF l j).count k = if k ∈ elemsF l j then 1 else 0 := by
  have hn : (elemsF l j).Nodup := (inF_nodup h j).filter _
  have h1 := List.nodup_iff_count.1 hn k
  split
  · rename_i hm
    have := List.count_pos_iff.2 hm
    omega
  · rename_i hm
    exact List.count_eq_zero.2 hm
theorem cnt_one {l : List Nd} (h : RightP l) {k : Nat} (hk : k < l.length) : cnt l l.length k = if wantP l k = true then 1 else 0 := by
  have k0 : (0 : Int) ≤ (k : Int) := by omega
  have k1 : (k : Int) < l.length := by omega
  unfold cnt
  by_cases hf : 0 ≤ formF l (k : Nat)
  · have hkf := form_kind h hf
    obtain ⟨_, f1⟩ := kindF_pos (l := l) (k := formF l (k : Nat)) (by omega)
    obtain ⟨f, hfe⟩ := Int.eq_ofNat_of_zero_le hf
    have hfl : f < l.length := by omega
    rw [S_congr (g := fun j => if j = f then (if wantP l k = true then 1 else 0) else 0) (fun j hj => ?_), S_single _ _ _ hfl]
    rw [elems_count h]
    by_cases e : j = f
    · subst e
      rw [if_pos rfl]
      have : (k : Int) ∈ elemsF l (j : Nat) ↔ wantP l k = true := by
        rw [elems_mem]
        unfold wantP inF
        rw [if_pos ⟨rightB_yes h, by rw [← hfe]; exact hkf⟩, ord_top h k0 k1 (by omega) (by omega)]
        simp only [Bool.and_eq_true, decide_eq_true_iff]
        rw [kindF_in k0 k1, hfe]
        constructor
        · rintro ⟨a, b, c⟩
          exact ⟨by omega, b, a⟩
        · rintro ⟨a, b, c⟩
          exact ⟨c, b, rfl⟩
      by_cases hw : wantP l k = true
      · rw [if_pos (this.2 hw), if_pos hw]
      · rw [if_neg (fun e => hw (this.1 e)), if_neg hw]
    · rw [if_neg e, if_neg]
      intro hm
      have := (elems_mem.1 hm).2.2
      rw [hfe] at this
      omega
  · have hw : wantP l k = false := by unfold wantP; rw [decide_eq_false hf]; rfl
    rw [hw, S_congr (g := fun _ => 0) (fun j hj => ?_), S_zero]
    · rfl
    · rw [elems_count h, if_neg]
      intro hm
      have := (elems_mem.1 hm).2.2
      omega
theorem elems_range {l : List Nd} {j k : Int} (hm : k ∈ elemsF l j) : 0 ≤ k ∧ k < l.length ∧ formF l k = j := by
  have h := elems_mem.1 hm
  obtain ⟨_, _, _, a, b, _⟩ := inF_mem h.1
  exact ⟨a, b, h.2.2⟩
theorem cnt_le {l : List Nd} (h : RightP l) {i : Nat} (hi : i ≤ l.length) (k : Nat) : cnt l i k ≤ 400 := by
  have h1 : cnt l i k ≤ i * 1 := S_bound i (fun j _ => by
    rw [elems_count h]
    split <;> omega)
  have := h.max
  omega
/-- a row of numbers -/
def rowN (n : Nat) (f : Nat → Nat) : Array Value := ((List.range n).map fun c => Value.int .i64 (f c : Nat)).toArray
theorem rowN_size (n : Nat) (f : Nat → Nat) : (rowN n f).size = n := by simp [rowN]
theorem rowN_get {n : Nat} (f : Nat → Nat) {q : Nat} (hq : q < n) : (rowN n f)[q]? = some (.int .i64 (f q : Nat)) := by simp [rowN, hq]
theorem rowN_made (n : Nat) : madeCells #[.int .i64 0] n = rowN n (fun _ => 0) := by
  apply Array.ext_getElem?
  intro j
  by_cases hj : j < n
  · simp [rowN, madeCells, hj, Nat.mod_one]
  · simp [rowN, madeCells, hj]
theorem rowN_set {n : Nat} (f : Nat → Nat) (q : Nat) (z : Nat) : (rowN n f).setIfInBounds q (.int .i64 (z : Nat)) = rowN n (fun c => if c = q then z else f c) := by
  apply Array.ext_getElem?
  intro j
  rw [Array.getElem?_setIfInBounds]
  by_cases hj : j < n
  · by_cases e : q = j
    · subst e; rw [if_pos rfl, rowN_size, if_pos hj, rowN_get _ hj, if_pos rfl]
    · rw [if_neg e, rowN_get _ hj, rowN_get _ hj, if_neg (fun h => e h.symm)]
  · rw [Array.getElem?_eq_none (by rw [rowN_size]; omega), Array.getElem?_eq_none (xs := rowN n _) (by rw [rowN_size]; omega)]
    rw [rowN_size]
    by_cases e : q = j
    · rw [if_pos e, if_neg (by omega)]
    · rw [if_neg e]
theorem rowN_congr {n : Nat} {f g : Nat → Nat} (h : ∀ c, c < n → f c = g c) : rowN n f = rowN n g := by
  unfold rowN
  congr 1
  exact List.map_congr_left fun c hc => by rw [h c (List.mem_range.1 hc)]
end Go.Proofs.Ytenicjebccdekaa

/-
  GROUPS OF RADIO BUTTONS: what the map of them holds: plain laws.
-/
namespace Go.Proofs.Ytenicjebccdekaa
set_option linter.unusedVariables false
set_option linter.unusedSimpArgs false
open Go.RowKit PT

theorem near_ge {l : List Nd} (h : RightP l) (s : ByteArray) : ∀ (n : Nat) (k : Int), dep l k ≤ n → k < l.length → -1 ≤ nearF l s k
  | 0, k, hn, h1 => by
    have hk : k < 0 := by
      by_cases h0 : 0 ≤ k
      · have := dep_eq h h0 h1; omega
      · omega
    rw [nearF_neg l s hk]; omega
  | n + 1, k, hn, h1 => by
    by_cases h0 : 0 ≤ k
    · by_cases hm : nmOf l k = s
      · rw [nearF_hit h h0 h1 hm]; omega
      · rw [nearF_go h h0 h1 hm]
        have hd := dep_eq h h0 h1
        exact near_ge h s n (paOf l k) (by omega) (h.pa_lt h0 h1)
    · rw [nearF_neg l s (by omega)]; omega
theorem up_ge {l : List Nd} (h : RightP l) (k : Int) (s : ByteArray) : -1 ≤ upB l k s := by
  unfold upB
  split
  · rename_i hh
    obtain ⟨h0, h1, _⟩ := (hasB_iff l k).1 hh
    exact near_ge h s _ _ (Nat.le_refl _) (h.pa_lt h0 h1)
  · omega
theorem Form_range {l : List Nd} (k : Int) (hl : l.length ≤ 400) : -1 ≤ FormF l k ∧ FormF l k ≤ 400 := by
  unfold FormF
  split
  · rename_i hr
    have h := (rightB_iff l).1 hr
    have hge : -1 ≤ formF l k := by
      unfold formF
      split
      · omega
      · split
        · rename_i s _
          split
          · split
            · rcases namedF_range l s with e | e <;> omega
            · omega
          · exact up_ge h _ _
        · exact up_ge h _ _
    refine ⟨hge, ?_⟩
    by_cases hp : 0 ≤ formF l k
    · have := form_kind h hp
      obtain ⟨_, b⟩ := kindF_pos (l := l) (k := formF l k) (by omega)
      omega
    · omega
  · omega
theorem topB_range (l : List Nd) (k : Int) (hl : l.length ≤ 400) : -1 ≤ topB l k ∧ topB l k ≤ 400 := by
  unfold topB
  split
  · rename_i hh
    obtain ⟨h0, h1, h⟩ := (hasB_iff l k).1 hh
    obtain ⟨a, b⟩ := topF_range h h0 h1
    omega
  · omega
theorem name_size {l : List Nd} (h : RightP l) (k : Int) : (nameF l k).size ≤ 4000 := by
  unfold nameF attF
  split
  · refine atO_size (atsOf l k) _ (fun a ha => ?_)
    unfold atsOf at ha
    split at ha
    · rename_i x hx
      exact one_vals (h.node _ x hx).1 a ha
    · cases ha
  · decide
theorem key_ok {l : List Nd} (h : RightP l) {k : Int} (h0 : 0 ≤ k) (h1 : k < l.length) : (keyF l k).nm.size ≤ maxLen ∧ (Lit.int .i64 (keyF l k).f).wf = true ∧ (Lit.int .i64 (keyF l k).t).wf = true ∧ (Lit.int .i64 (keyF l k).s).wf = true := by
  have hm := h.max
  have hn := name_size h k
  obtain ⟨f0, f1⟩ := Form_range (l := l) k hm
  obtain ⟨t0, t1⟩ := topB_range l k hm
  have wf : ∀ z : Int, -9223372036854775808 ≤ z → z ≤ 9223372036854775807 → (Lit.int .i64 z).wf = true := fun z a b => WalkArith.wf_i64 ⟨a, b⟩
  have hmx : (4000 : Nat) ≤ maxLen := by unfold maxLen; omega
  unfold keyF
  split
  · exact ⟨Nat.zero_le _, wf (-2) (by omega) (by omega), wf 0 (by omega) (by omega), wf k (by omega) (by omega)⟩
  · exact ⟨Nat.le_trans hn hmx, wf (FormF l k) (by omega) (by omega), wf (topB l k) (by omega) (by omega), wf (-1) (by omega) (by omega)⟩
noncomputable def klF (l : List Nd) (k : Int) : Lit := keyL (keyF l k)
theorem klF_of {l : List Nd} (h : RightP l) {k : Int} (h0 : 0 ≤ k) (h1 : k < l.length) : keyOf Try.prog 73 (keyV (keyF l k)) = some (klF l k) := by
  obtain ⟨a, b, c, d⟩ := key_ok h h0 h1
  exact keyOf_key a b c d
theorem klF_iff {l : List Nd} (h : RightP l) {j k : Int} (j0 : 0 ≤ j) (j1 : j < l.length) (h0 : 0 ≤ k) (h1 : k < l.length) : klF l j = klF l k ↔ keyF l j = keyF l k := by
  obtain ⟨a, b, c, d⟩ := key_ok h h0 h1
  obtain ⟨a', b', c', d'⟩ := key_ok h j0 j1
  exact ⟨fun e => keyL_inj a' b' c' d' a b c d e, fun e => by unfold klF; rw [e]⟩
/-- what so many trees' radio buttons are, in order -/
noncomputable def treesF (l : List Nd) : Nat → List Int
  | 0 => []
  | n + 1 => treesF l n ++ if paOf l (n : Nat) < 0 then (ord l (n : Nat)).filter (radB l) else []
theorem treesF_succ (l : List Nd) (n : Nat) : treesF l (n + 1) = treesF l n ++ if paOf l (n : Nat) < 0 then (ord l (n : Nat)).filter (radB l) else [] := rfl
theorem trees_len {l : List Nd} (h : RightP l) : ∀ n, n ≤ l.length → (treesF l n).length ≤ n * 400
  | 0, _ => Nat.zero_le _
  | n + 1, hn => by
    have ih := trees_len h n (by omega)
    have hm := h.max
    have ho := ord_len h (k := (n : Int)) (by omega) (by omega)
    have hf := List.length_filter_le (radB l) (ord l (n : Nat))
    have e : (n + 1) * 400 = n * 400 + 400 := by rw [Nat.add_mul, Nat.one_mul]
    rw [treesF_succ, List.length_append, e]
    split
    · exact Nat.add_le_add ih (Nat.le_trans hf (Nat.le_trans ho hm))
    · rw [List.length_nil, Nat.add_zero]; exact Nat.le_trans ih (Nat.le_add_right _ _)
theorem trees_mem {l : List Nd} (h : RightP l) : ∀ n, n ≤ l.length → ∀ c ∈ treesF l n, 0 ≤ c ∧ c < l.length ∧ radB l c = true ∧ 0 ≤ topF l c ∧ topF l c < n
  | 0, _, c, hc => by cases hc
  | n + 1, hn, c, hc => by
    rw [treesF_succ] at hc
    rcases List.mem_append.1 hc with hc | hc
    · obtain ⟨a, b, d, e, f⟩ := trees_mem h n (by omega) c hc
      exact ⟨a, b, d, e, by omega⟩
    · split at hc
      · rename_i hp
        obtain ⟨hm, hr⟩ := List.mem_filter.1 hc
        obtain ⟨a, b, ha⟩ := ord_mem h (k := (n : Int)) (by omega) (by omega) hm
        have ht := root_uniq h b (t := (n : Int)) (by omega) hp ha a (by omega)
        exact ⟨a, b, hr, by omega, by omega⟩
      · cases hc
/-- a group's members are among the nodes of one tree -/
theorem trees_filter {l : List Nd} (h : RightP l) (p : Int → Bool) {r : Nat} (hp : ∀ c : Int, 0 ≤ c → c < l.length → p c = true → topF l c = r) (hr : paOf l (r : Nat) < 0) : ∀ n, n ≤ l.length → (treesF l n).filter p = if r < n then ((ord l (r : Nat)).filter (radB l)).filter p else []
  | 0, _ => rfl
  | n + 1, hn => by
    rw [treesF_succ, List.filter_append, trees_filter h p hp hr n (by omega)]
    by_cases hpa : paOf l (n : Nat) < 0
    · rw [if_pos hpa]
      by_cases e : r = n
      · subst e
        rw [if_neg (Nat.lt_irrefl _), if_pos (Nat.lt_succ_self _)]
        rfl
      · have : ((ord l (n : Nat)).filter (radB l)).filter p = [] := by
          rw [List.filter_eq_nil_iff]
          intro c hc hpc
          obtain ⟨hm, _⟩ := List.mem_filter.1 hc
          obtain ⟨a, b, ha⟩ := ord_mem h (k := (n : Int)) (by omega) (by omega) hm
          have h1 := root_uniq h b (t := (n : Int)) (by omega) hpa ha a (by omega)
          have h2 := hp c a b hpc
          omega
        rw [this, List.append_nil]
        by_cases h3 : r < n
        · rw [if_pos h3, if_pos (by omega)]
        · rw [if_neg h3, if_neg (by omega)]
    · rw [if_neg hpa, List.filter_nil, List.append_nil]
      by_cases e : r = n
      · subst e; exact absurd hr hpa
      · by_cases h3 : r < n
        · rw [if_pos h3, if_pos (by omega)]
        · rw [if_neg h3, if_neg (by omega)]
/-! what the map reads as -/
abbrev Du := DataW Unit
def itemsD : Du → List Du
  | .slice es _ => es
  | _ => []
theorem items_row {w : World} {base : Nat} {e : TypeId} {v : Value} {zs : List Int} (h : w.ownsInts base e .i64 v zs) : itemsD (rowDatum .i64 v zs) = ChangeShapes.lits .i64 zs := by
  rcases h.datum (H := Unit) with ⟨h1, h2⟩ | h1
  · rw [h1, h2]; rfl
  · rw [h1]; rfl
theorem lits_inj : ∀ {a b : List Int}, ChangeShapes.lits (H := Unit) .i64 a = ChangeShapes.lits .i64 b → a = b := by
  intro a b h
  unfold ChangeShapes.lits at h
  exact (List.map_inj_right (fun x y e => by injection e with e; injection e)).1 h
noncomputable def isK (l : List Nd) (kl : Lit) (k : Int) : Bool := @decide (klF l k = kl) (Classical.propDecidable _)
theorem isK_iff (l : List Nd) (kl : Lit) (k : Int) : isK l kl k = true ↔ klF l k = kl := @decide_eq_true_iff _ (Classical.propDecidable _)
/-- the members with a key -/
noncomputable def atK (l : List Nd) (T : List Int) (kl : Lit) : List Int := T.filter (isK l kl)
theorem atK_snoc (l : List Nd) (T : List Int) (kl : Lit) (c : Int) : atK l (T ++ [c]) kl = atK l T kl ++ if isK l kl c = true then [c] else [] := by
  unfold atK
  rw [List.filter_append]
  congr 1
  cases h : isK l kl c
  · rw [if_neg Bool.false_ne_true]; simp [h]
  · rw [if_pos rfl]; simp [h]
structure GInv (l : List Nd) (T : List Int) (D : Du) : Prop where
  map : Go.Maps.IsMap D
  items : ∀ kl, itemsD (D.atKey kl .nil) = ChangeShapes.lits .i64 (atK l T kl)
  has : ∀ kl, Go.Maps.has D kl = true ↔ ∃ k ∈ T, klF l k = kl
theorem GInv.nil (l : List Nd) : GInv l [] (.map []) := ⟨Go.Maps.isMap_empty, fun kl => rfl, fun kl => Iff.intro (fun h => by cases h) (fun h => by obtain ⟨_, h, _⟩ := h; cases h)⟩
theorem GInv.zs {l : List Nd} {T : List Int} {D : Du} (h : GInv l T D) {kl : Lit} {w : World} {base : Nat} {e : TypeId} {v : Value} {zs : List Int} (ho : w.ownsInts base e .i64 v zs) (hat : D.atKey kl .nil = rowDatum .i64 v zs) : zs = atK l T kl := by
  have := h.items kl
  rw [hat, items_row ho] at this
  exact lits_inj this
set_option maxRecDepth 100000 in
theorem GInv.step {l : List Nd} {T : List Int} {D : Du} (h : GInv l T D) {c : Int} (hk : WideAt.IsKeyLit (klF l c)) {w w' : World} {base : Nat} {e : TypeId} {v v' : Value} {zs : List Int} (ho : w.ownsInts base e .i64 v zs) (hat : D.atKey (klF l c) .nil = rowDatum .i64 v zs)
    (ho' : w'.ownsInts base e .i64 v' (zs ++ [c])) : GInv l (T ++ [c]) (D.put (klF l c) (rowDatum .i64 v' (zs ++ [c]))) := by
  have hz := h.zs ho hat
  refine ⟨h.map.put _ _, fun kl => ?_, fun kl => ?_⟩
  · by_cases e : kl = klF l c
    · subst e
      rw [Go.Maps.atKey_put_same h.map hk, items_row ho', hz, atK_snoc, if_pos ((isK_iff l _ c).2 rfl)]
    · rw [Go.Maps.atKey_put_other e, h.items kl, atK_snoc, if_neg (fun h => e ((isK_iff l _ c).1 h).symm), List.append_nil]
  · by_cases e : kl = klF l c
    · subst e
      exact ⟨fun _ => ⟨c, by simp, rfl⟩, fun _ => Go.Maps.has_put_same h.map hk _⟩
    · rw [Go.Maps.has_put_other e, h.has kl]
      constructor
      · rintro ⟨k, hk, hkl⟩
        exact ⟨k, List.mem_append_left _ hk, hkl⟩
      · rintro ⟨k, hk, hkl⟩
        rcases List.mem_append.1 hk with hk | hk
        · exact ⟨k, hk, hkl⟩
        · rw [List.mem_singleton.1 hk] at hkl
          exact absurd hkl.symm e
theorem GInv.keep {l : List Nd} {T T' : List Int} {D : Du} (h : GInv l T D) (e : T = T') : GInv l T' D := e ▸ h
end Go.Proofs.Ytenicjebccdekaa

/-
  GROUPS OF RADIO BUTTONS: group.all: the walk.
-/
namespace Go.Proofs.Ytenicjebccdekaa
set_option linter.unusedVariables false
set_option linter.unusedSimpArgs false
open Go.RowKit PT

theorem bel_grown {w w' : World} (h : Below w.heap.size w w') : w.grownBy w' none := ⟨h.os, h.tape, h.output, h.size, fun k hk _ => h.block k hk⟩
section
variable {w w' : World} {base b n : Nat} {D : Du} {No : Nat → Prop}
theorem og_below (h : w.ownsGroups Try.prog 73 base 3 .i64 b n D) (hb : Below w.heap.size w w') : w'.ownsGroups Try.prog 73 base 3 .i64 b n D :=
  World.ownsGroups.kept h (bel_grown hb) (by simp) (fun _ _ _ x _ => by cases x.val.ownBlock <;> simp)
theorem og_lt (h : w.ownsGroups Try.prog 73 base 3 .i64 b n D) : b < w.heap.size ∧ b < base := by
  obtain ⟨es, clock, hb, _, _, _, hbb, _⟩ := h
  exact ⟨(Array.getElem?_eq_some_iff.1 hb).1, hbb⟩
theorem sh_below (h : w.Shuns b No) (hb : Below w.heap.size w w') (hlt : b < w.heap.size) : w'.Shuns b No := World.Shuns.kept h (bel_grown hb) hlt (by simp)
theorem ov_grown {B : Nat} {T : TypeId} {t : List Value} {v : Value} {row : Option Nat} (h : OV B T t v w) (hg : w.grownBy w' row) (hne : v.ownBlock = none ∨ v.ownBlock ≠ row) : OV B T t v w' := World.ownsRow.kept h hg hne
end
set_option maxHeartbeats 8000000 in
set_option maxRecDepth 100000 in
theorem groupAll_any (l : List Nd) (hRP : RightP l) (v : Value) (w : World) (hz : ∀ x ∈ l, Fits x) (hU : Nodes l v w) :
    Calls Try.prog 77 #[v] w fun e w' => ∃ D : Du, e = .returned (.map (some w.heap.size)) ∧ w'.ownsGroups Try.prog 73 (w.heap.size + 1) 3 .i64 w.heap.size (treesF l l.length).length D ∧ GInv l (treesF l l.length) D ∧ Below w.heap.size w w' := by
  obtain ⟨a, cap, rfl⟩ := hU.len
  have hmax := hRP.max
  have hl : l.length ≤ 1000000000000000000 := by omega
  have hmm := @run_makeMap Try.prog
  have hb0 := (Below.refl w.heap.size w).alloc (Nat.le_refl _) (.map #[] 0)
  have hG0 := World.ownsGroups_made (H := Unit) w Try.prog 73 3 .i64
  have hs0 : (w.alloc (.map #[] 0)).heap.size = w.heap.size + 1 := by simp
  have hz0 : ∀ u : World, (zeroValue 28).run Try.prog u = .ok (.slice none 0 0) u := fun u => by kernel_rfl
  have hcd := (by kernel_rfl : (Try.prog.info? 3).map (fun i => (i.zero, i.size, i.bytes)) = some (some (.int .i64 0), 1, 8))
  obtain ⟨i0, hi, hzz0, hzz1, hzz2⟩ := info_parts hcd
  have HZ0 := Lib.hid hz0
  have HI := Lib.hid hi
  have HI0 := Lib.hid hzz0
  have HI1 := Lib.hid hzz1
  have HI2 := Lib.hid hzz2
  clear hz0 hcd hi hzz0 hzz1 hzz2
  go_enter Try.func77, Try.ntmps77
  go_wp2_with fail
  generalize World.alloc _ _ = W0 at hb0 hG0 hs0 ⊢
  clear hmm
  go_loopw [11] (fun i wr => ∃ (k : Nat) (D : Du), k ≤ l.length ∧ i = .int .i64 k ∧ wr.ownsGroups Try.prog 73 (w.heap.size + 1) 3 .i64 w.heap.size (treesF l k).length D ∧ GInv l (treesF l k) D ∧ Below w.heap.size w wr) (fun i _ => l.length - (intOf i).toNat)
  case atStart => exact ⟨0, _, Nat.zero_le _, rfl, hG0, GInv.nil l, hb0⟩
  case round =>
    obtain ⟨i, D, hik, rfl, hG, hInv, hbel⟩ := hrel
    have hUr := hU.kept hbel
    by_cases hlt : i < l.length
    · obtain ⟨b, o, cap', va, vk, hv, hb, c0, c1, c2, c3, c4, hat, hks⟩ := hUr.at hlt
      cases hv
      have hpa := Lib.hid (paOf_at hlt)
      have htr := Lib.hid (treesF_succ l i)
      generalize l[i] = x at *
      have hi0 : (0 : Int) ≤ (i : Int) := by omega
      have hi1 : (i : Int) < (l.length : Int) := by omega
      by_cases hp : 0 ≤ x.pa
      · have hN := Lib.hid (show treesF l i = treesF l (i + 1) by rw [htr.out, hpa.out, if_neg (by omega), List.append_nil])
        go_wp2_with fail
        go_roundw
        case rel => exact ⟨i + 1, D, by omega, by go_num, by rw [← hN.out]; exact hG, hInv.keep hN.out, hbel⟩
        case measure => simp [intOf]; omega
      · have hp9 : decide (0 ≤ x.pa) = false := decide_eq_false hp
        have hN := Lib.hid (show treesF l i ++ (ord l (i : Nat)).filter (radB l) = treesF l (i + 1) by rw [htr.out, hpa.out, if_pos (by omega)])
        have hol := ord_len hRP hi0 hi1
        have hmem := Lib.hid (fun c (h : c ∈ ord l (i : Nat)) => ord_mem hRP hi0 hi1 h)
        have htl := trees_len hRP i hik
        have hop : 0 < (ord l (i : Nat)).length := by rw [ord_eq hRP hi0 hi1]; simp
        clear hp
        go_wp2_with fail
        refine (gorder_any l hRP (l.length + 2) i hlt (by omega) _ _ hz hUr).mono ?_
        generalize ord l (i : Nat) = I at hol hmem hN hop ⊢
        rintro e w5 ⟨vo, rfl, hov, hb5⟩
        obtain ⟨gI, gc, rfl, hgI, _⟩ := hov.at (by intro e; have := congrArg List.length e; rw [ints_len, List.length_nil] at this; omega)
        rw [ints_len] at hov ⊢
        have hG5 := og_below hG hb5
        have hwr := (og_lt hG).1
        have hSh : wr.Shuns w.heap.size (fun g => g = gI) := World.Shuns.reno (No := fun _ => False) (fun _ _ _ _ _ _ _ h => h) hG (fun g hg => .inr (by omega))
        have hSh5 := sh_below hSh hb5 hwr
        have hbel5 := hbel.trans (hb5.mono hbel.size)
        go_wp2_with fail
        go_loopw [24] (fun j ws => ∃ (t : Nat) (D : Du), t ≤ I.length ∧ j = .int .i64 t ∧ ws.ownsGroups Try.prog 73 (w.heap.size + 1) 3 .i64 w.heap.size (treesF l i ++ (I.take t).filter (radB l)).length D ∧ GInv l (treesF l i ++ (I.take t).filter (radB l)) D ∧ ws.Shuns w.heap.size (fun g => g = gI) ∧ OV wr.heap.size 3 (ints I) (.slice (some ⟨gI, 0, none⟩) I.length gc) ws ∧ Below w.heap.size w ws) (fun j _ => I.length - (intOf j).toNat)
        case atStart => exact ⟨0, D, Nat.zero_le _, rfl, by simpa using hG5, hInv.keep (by simp), hSh5, hov, hbel5⟩
        case round =>
          obtain ⟨t, D, htk, rfl, hG, hInv, hSh, hov, hbel⟩ := hrel
          by_cases hlt2 : t < I.length
          · have hcc := hov.cell t (.int .i64 I[t]) (by rw [ints, List.getElem?_map, List.getElem?_eq_getElem hlt2]; rfl)
            rw [addr_add, Nat.zero_add] at hcc
            obtain ⟨d0, d1, _⟩ := hmem.out I[t] (List.getElem_mem hlt2)
            have hfs := Lib.hid (filter_snoc (p := radB l) hlt2)
            have ht0 : (0 : Int) ≤ (t : Int) := by omega
            have ht1 : (t : Int) < (I.length : Int) := by omega
            have hTl : (treesF l i ++ (I.take t).filter (radB l)).length ≤ 200000 := by
              rw [List.length_append]
              have := List.length_filter_le (radB l) (I.take t)
              have := List.length_take_le t I
              omega
            generalize I[t] = c at *
            cases hr : radB l c
            · have HR := Lib.hid hr
              have hT2 := Lib.hid (show treesF l i ++ (I.take t).filter (radB l) = treesF l i ++ (I.take (t + 1)).filter (radB l) by rw [hfs.out, hr]; simp)
              clear hr
              go_wp2_with fail
              refine (radio_any l _ c hl hRP _ (hU.kept hbel)).mono ?_
              rintro e w6 ⟨rfl, hb6⟩
              rw [HR.out]
              go_wp2_with fail
              go_roundw
              case rel => exact ⟨t + 1, D, by omega, by go_num, by rw [← hT2.out]; exact og_below hG hb6, hInv.keep hT2.out, sh_below hSh hb6 (og_lt hG).1, hov.kept hb6, hbel.trans (hb6.mono hbel.size)⟩
              case measure => simp [intOf]; omega
            · have HR := Lib.hid hr
              have hT2 := Lib.hid (show (treesF l i ++ (I.take t).filter (radB l)) ++ [c] = treesF l i ++ (I.take (t + 1)).filter (radB l) by rw [hfs.out, hr, List.append_assoc]; simp)
              have hkey := klF_of hRP d0 d1
              have hKL := keyLaw.key hkey
              clear hr
              unfold keyV at hkey
              have HKey := Lib.hid hkey
              clear hkey
              go_wp2_with fail
              refine (radio_any l _ c hl hRP _ (hU.kept hbel)).mono ?_
              rintro e w6 ⟨rfl, hb6⟩
              rw [HR.out]
              have hbel6 := hbel.trans (hb6.mono hbel.size)
              have hG6 := og_below hG hb6
              have hSh6 := sh_below hSh hb6 (og_lt hG).1
              have hov6 := hov.kept hb6
              go_wp2_with fail
              refine (groupOf_any l _ c hl hz _ (hU.kept hbel6)).mono ?_
              unfold keyV
              rintro e w7 ⟨rfl, hb7⟩
              have hbel7 := hbel6.trans (hb7.mono hbel6.size)
              have hG7 := og_below hG6 hb7
              have hSh7 := sh_below hSh6 hb7 (og_lt hG6).1
              have hov7 := hov6.kept hb7
              generalize treesF l i ++ (I.take t).filter (radB l) = T at *
              have hTm : T.length < maxLen := by unfold maxLen; omega
              have hw7b := (og_lt hG7).1
              have hgI7 : gI < w7.heap.size := (World.ownsRow.lt hov7 gI rfl).2
              have hwf : (Lit.int .i64 c).wf = true := WalkArith.wf_i64 ⟨by omega, by omega⟩
              have hbA := ((Below.refl w7.heap.size w7).alloc (Nat.le_refl _) (.cells #[.string (keyF l c).nm, .int .i64 (keyF l c).f, .int .i64 (keyF l c).t, .int .i64 (keyF l c).s] 73)).alloc (by simp) (.cells #[.int .i64 c] 3)
              have hsA : ((w7.alloc (.cells #[.string (keyF l c).nm, .int .i64 (keyF l c).f, .int .i64 (keyF l c).t, .int .i64 (keyF l c).s] 73)).alloc (.cells #[.int .i64 c] 3)).heap.size = w7.heap.size + 1 + 1 := by simp
              have hcA : ((w7.alloc (.cells #[.string (keyF l c).nm, .int .i64 (keyF l c).f, .int .i64 (keyF l c).t, .int .i64 (keyF l c).s] 73)).alloc (.cells #[.int .i64 c] 3)).cell? ⟨w7.heap.size + 1, 0, none⟩ = some (.int .i64 c) := by
                have hn := Go.heap_alloc_new (w7.alloc (.cells #[.string (keyF l c).nm, .int .i64 (keyF l c).f, .int .i64 (keyF l c).t, .int .i64 (keyF l c).s] 73)) (.cells #[.int .i64 c] 3)
                rw [show (w7.alloc (.cells #[.string (keyF l c).nm, .int .i64 (keyF l c).f, .int .i64 (keyF l c).t, .int .i64 (keyF l c).s] 73)).heap.size = w7.heap.size + 1 by simp] at hn
                simp only [World.cell?, hn]
                rfl
              have HSA := Lib.hid hsA
              have HCA := Lib.hid hcA
              clear hsA hcA
              have hwb : w.heap.size < w7.heap.size := hw7b
              go_wp2_with (first
                | (refine wpList_entry_groups (H := Unit) _ rfl _ _ 70 rfl 73 28 3 .i64 keyLaw Try.underlying70 HZ0.out (w.heap.size + 1) w.heap.size T.length D rfl (og_below hG7 hbA) (fun g => g = gI) (sh_below hSh7 hbA hw7b) (fun g hg => by rw [HSA.out]; omega) hTm _ _ rfl HKey.out ?_; intro va zs st wE hat hoi hzl hgE hbb hszE hvN hback; have hsrc : ∀ j u, [Value.int .i64 c][j]? = some u → wE.cell? ((⟨w7.heap.size + 1, 0, none⟩ : Addr).add j) = some u := (fun j u hj => match j, hj with | 0, hj => (by cases hj; rw [addr_add]; exact hgE.cell HCA.out (by simp; omega))); have hszE2 : wE.heap.size = w7.heap.size + 1 + 1 := hszE.trans HSA.out; have HsE := Lib.hid hszE2; clear hszE hszE2)
                | (at_builtin; refine wpList_append_own_at _ rfl _ _ 28 rfl (w.heap.size + 1) 3 i0 (.int .i64 0) 1 8 Try.underlying28 HI.out HI0.out HI1.out HI2.out rfl (by decide) _ _ _ rfl hoi.1 ⟨w7.heap.size + 1, 0, none⟩ 1 1 [.int .i64 c] rfl rfl hsrc (fun u hu => by rw [List.mem_singleton.1 hu]; rfl) (by unfold maxLen; omega) (by omega) (by rw [HsE.out]; omega) ?_; intro v' w9 hown' hgrow _ hloc)
                | (refine wpList_entryStore_back _ rfl _ _ _ 70 rfl hback rfl rfl rfl hgrow (hoi.appended hown' hwf) (by rw [List.length_append, List.length_singleton]; omega) (hloc.imp id (fun h => ⟨_, h, Nat.le_refl _⟩)) ?_; intro w10 hG10 hg10 hSh10))
              have hovA := hov7.kept hbA
              have hbI : gI ≠ w.heap.size := by
                have := hgI
                omega
              have hovE := ov_grown hovA hgE (.inr (fun e => hbI (by cases e; rfl)))
              have hov9 := ov_grown hovE hgrow (.inr (fun e => hvN gI e.symm rfl))
              have hov10 := ov_grown hov9 hg10 (.inr (fun e => hbI (by cases e; rfl)))
              have hbelA := hbel7.trans (hbA.mono hbel7.size)
              have hbelE := hbelA.grown hgE (by rw [HSA.out]; omega) (fun k hk => by cases hk; exact Nat.le_refl _)
              have hbel9 := hbelE.grown hgrow (by rw [HsE.out]; omega) (fun k hk => by have := (hoi.1.lt k hk).1; omega)
              have hbel10 := hbel9.grown hg10 (Nat.le_trans (by rw [HsE.out]; omega) hgrow.size) (fun k hk => by cases hk; exact Nat.le_refl _)
              go_roundw
              case rel => exact ⟨t + 1, _, by omega, by go_num, by rw [← hT2.out, List.length_append]; exact hG10, (hInv.step hKL hoi hat (hoi.appended hown' hwf)).keep hT2.out, hSh10, hov10, hbel10⟩
              case measure => simp [intOf]; omega
          · obtain rfl : t = I.length := by omega
            rw [List.take_of_length_le (Nat.le_refl _)] at hG hInv
            go_wp2_with fail
            exact ⟨⟨i + 1, D, by omega, by go_num, by rw [← hN.out]; exact hG, hInv.keep hN.out, hbel⟩, by simp [intOf]; omega⟩
    · obtain rfl : i = l.length := by omega
      go_wp2_with fail
      go_ret
      exact ⟨D, rfl, hG, hInv, hbel⟩
end Go.Proofs.Ytenicjebccdekaa

/-
  A FORM's ELEMENTS AND DEFAULT BUTTON by the document: ref16.Elements, ref16.Default: the walks.
-/
namespace Go.Proofs.Ytenicjebccdekaa
set_option linter.unusedVariables false
set_option linter.unusedSimpArgs false
open Go.RowKit PT

theorem inF_no {l : List Nd} {id : Int} (h : isF l id 30 = false) : inF l id = [] := if_neg (fun e => by rw [(isF_30 (by omega)).2 e] at h; cases h)
set_option maxHeartbeats 4000000 in
set_option maxRecDepth 100000 in
theorem refElements_any (l : List Nd) (v : Value) (id : Int) (hl : l.length ≤ 1000000000000000000) (hz : ∀ x ∈ l, Fits x) (w : World) (hU : Nodes l v w) :
    Calls Try.prog 20 #[v, .int .i64 id] w fun e w' => ∃ vo, e = .returned vo ∧ OV w.heap.size 3 (ints (elemsF l id)) vo w' ∧ Below w.heap.size w w' := by
  obtain ⟨a, cap, rfl⟩ := hU.len
  cases hh : isF l id 30
  · have HH := Lib.hid hh
    have hR := Lib.hid (show elemsF l id = [] by unfold elemsF; rw [inF_no hh]; rfl)
    clear hh
    go_enter Try.func20, Try.ntmps20
    go_wp2_with fail
    refine (refIs15_any l _ id 30 hl hz _ hU).mono ?_
    rintro e w' ⟨rfl, hb⟩
    rw [HH.out]
    go_wp2_with fail
    go_ret
    exact ⟨_, rfl, by rw [hR.out]; exact OV.nil _ _ _, hb⟩
  have HH := Lib.hid hh
  have hc := (isF_30 (by omega)).1 hh
  have hRP := (rightB_iff l).1 hc.1
  obtain ⟨i0, i1⟩ := kindF_pos (l := l) (k := id) (by omega)
  obtain ⟨t0, t1⟩ := topF_range hRP i0 i1
  have hI := show inF l id = ord l (topF l id) from if_pos hc
  have hlen := inF_len (l := l) id
  have hmem := Lib.hid (fun k (h : k ∈ inF l id) => inF_mem h)
  have hRight := Lib.hid hc.1
  have hR := Lib.hid (show elemsF l id = (inF l id).filter (elP l id) from rfl)
  have HP := Lib.hid (fun k => show elP l id k = (listB (kindF l k) && decide (formF l k = id)) from rfl)
  obtain ⟨K, rfl⟩ := Int.eq_ofNat_of_zero_le i0
  have hkl : K < l.length := by omega
  clear hh hc
  obtain ⟨T, hT⟩ := Int.eq_ofNat_of_zero_le t0
  have hTl : T < l.length := by omega
  rw [hT] at hI
  have HT := Lib.hid hT
  have hmax := hRP.max
  clear hT t0 t1
  go_enter Try.func20, Try.ntmps20
  go_wp2_with fail
  refine (refIs15_any l _ _ 30 hl hz _ hU).mono ?_
  rintro e w1 ⟨rfl, hb1⟩
  rw [HH.out]
  go_wp2_with fail
  refine (refTop_any l _ K hkl hRP _ (hU.kept hb1)).mono ?_
  rintro e w2 ⟨rfl, rfl⟩
  rw [HT.out]
  go_wp2_with fail
  refine (refOrder_any l hRP T hTl _ _ hz (hU.kept hb1)).mono ?_
  rw [← hI]
  clear hI
  generalize inF l (K : Nat) = I at hlen hmem hR ⊢
  rintro e w3 ⟨vo, rfl, hov, hb3⟩
  obtain ⟨a1, c1, rfl, _⟩ := hov.form
  rw [ints_len] at hov ⊢
  have hb13 := bs hb1 hb3
  have hg3 := hb13.size
  have hsi : I.length ≤ 1000000000000000000 := by omega
  go_wp2_with fail
  go_loopw [5, 7] (fun vo i wr => ∃ k : Nat, k ≤ I.length ∧ i = .int .i64 k ∧ OV w3.heap.size 3 (ints ((I.take k).filter (elP l (K : Nat)))) vo wr ∧ Below w3.heap.size w3 wr) (fun _ i _ => I.length - (intOf i).toNat)
  case atStart => exact ⟨0, Nat.zero_le _, rfl, OV.nil _ _ _, Below.refl _ _⟩
  case round =>
    obtain ⟨k, hk, rfl, ho, hbel⟩ := hrel
    have hb0r := hb13.trans (hbel.mono hg3)
    have hsz := hbel.size
    by_cases hlt : k < I.length
    · obtain ⟨_, id0, id1, c0, c1', _⟩ := hmem.out I[k] (List.getElem_mem hlt)
      have hov' := hov.kept hbel
      obtain ⟨g, gc, hv, _, hcell⟩ := hov'.at (by intro e; have := congrArg List.length e; rw [ints_len, List.length_nil] at this; omega)
      rw [ints_len] at hv
      cases hv
      have hgb : g < wr.heap.size := by
        have := (World.ownsRow.lt hov' g rfl).2
        omega
      have hcc := hcell k (.int .i64 I[k]) (by rw [ints, List.getElem?_map, List.getElem?_eq_getElem hlt]; rfl)
      have hfs := Lib.hid (filter_snoc (p := elP l (K : Nat)) hlt)
      have hfl : ((I.take k).filter (elP l (K : Nat))).length ≤ k := Nat.le_trans (List.length_filter_le _ _) (List.length_take_le _ _)
      have hk0 : (0 : Int) ≤ (k : Int) := by omega
      have hk1 : (k : Int) < (I.length : Int) := by omega
      have hp := HP.out I[k]
      generalize I[k] = c at *
      obtain ⟨q, rfl⟩ := Int.eq_ofNat_of_zero_le c0
      have hq : q < l.length := by omega
      rw [kindF_in c0 c1'] at hp
      obtain ⟨r0, r1⟩ := kindF_range l (q : Nat)
      rw [kindF_in c0 c1'] at r0 r1
      cases hL : listB (kOf l (q : Nat))
      · have HL := Lib.hid hL
        have hE := Lib.hid (show (if elP l (K : Nat) (q : Nat) = true then [(q : Int)] else []) = ([] : List Int) by rw [hp, hL]; rfl)
        clear hp hL
        go_wp2_with fail
        refine (ref16Kind_any l _ q hq hRP _ (hU.kept hb0r)).mono ?_
        rintro e w4 ⟨rfl, hb4⟩
        go_wp2_with fail
        refine (refIs1_any _ r0 r1 _).mono ?_
        rintro e w5 ⟨rfl, rfl⟩
        rw [HL.out]
        go_wp2_with fail
        go_roundw
        case rel => exact ⟨k + 1, by omega, by go_num, by rw [hfs.out, hE.out, List.append_nil]; exact ho.kept hb4, bs hbel hb4⟩
        case measure => simp [intOf]; omega
      · have HL := Lib.hid hL
        by_cases hf : formF l (q : Nat) = K
        · have HF := Lib.hid ((formF_Form hRight.out (q : Nat)).trans hf)
          have hE := Lib.hid (show (if elP l (K : Nat) (q : Nat) = true then [(q : Int)] else []) = [(q : Int)] by rw [hp, hL, decide_eq_true hf]; rfl)
          clear hp hL hf
          go_wp2_with fail
          refine (ref16Kind_any l _ q hq hRP _ (hU.kept hb0r)).mono ?_
          rintro e w4 ⟨rfl, hb4⟩
          have hb04 := bs hb0r hb4
          have hcc4 := cellK hb4 hgb hcc
          go_wp2_with fail
          refine (refIs1_any _ r0 r1 _).mono ?_
          rintro e w5 ⟨rfl, rfl⟩
          rw [HL.out]
          go_wp2_with fail
          refine (refForm_any l _ (q : Nat) hl hz _ (hU.kept hb04)).mono ?_
          rintro e w6 ⟨rfl, hb6⟩
          rw [HF.out]
          have hb06 := bs hb04 hb6
          have hcc6 := cellK hb6 (by have := hb4.size; omega) hcc4
          have hb36 := bs (bs hbel hb4) hb6
          have ho6 := (ho.kept hb4).kept hb6
          have hg6 := hb36.size
          go_wp2_with (at_builtin; refine wpList_append_cell rfl _ _ 28 3 rfl Try.underlying28 info_i64 rfl (by decide) rfl rfl (.int .i64 (q : Nat)) rfl ho6 (by rw [ints_len]; omega) hg6 ?_; intro v' w7 hov7 hb7)
          go_roundw
          case rel => exact ⟨k + 1, by omega, by go_num, by rw [hfs.out, hE.out, ints_snoc]; exact hov7, hb36.trans hb7⟩
          case measure => simp [intOf]; omega
        · have hE := Lib.hid (show (if elP l (K : Nat) (q : Nat) = true then [(q : Int)] else []) = ([] : List Int) by rw [hp, hL, decide_eq_false hf]; rfl)
          clear hp hL
          have q1 := intNe hf
          rw [← formF_Form hRight.out (q : Nat)] at q1
          have HQ := Lib.hid q1
          clear q1 hf
          go_wp2_with fail
          refine (ref16Kind_any l _ q hq hRP _ (hU.kept hb0r)).mono ?_
          rintro e w4 ⟨rfl, hb4⟩
          have hb04 := bs hb0r hb4
          have hcc4 := cellK hb4 hgb hcc
          go_wp2_with fail
          refine (refIs1_any _ r0 r1 _).mono ?_
          rintro e w5 ⟨rfl, rfl⟩
          rw [HL.out]
          go_wp2_with fail
          refine (refForm_any l _ (q : Nat) hl hz _ (hU.kept hb04)).mono ?_
          rintro e w6 ⟨rfl, hb6⟩
          have q1 := HQ.out
          go_wp2_with fail
          go_roundw
          case rel => exact ⟨k + 1, by omega, by go_num, by rw [hfs.out, hE.out, List.append_nil]; exact (ho.kept hb4).kept hb6, bs (bs hbel hb4) hb6⟩
          case measure => simp [intOf]; omega
    · obtain rfl : k = I.length := by omega
      rw [List.take_of_length_le (Nat.le_refl _)] at ho
      go_wp2_with fail
      go_ret
      exact ⟨_, rfl, by rw [hR.out]; exact ov_base ho hg3, hb0r⟩
set_option maxHeartbeats 4000000 in
set_option maxRecDepth 100000 in
theorem refDefault_any (l : List Nd) (v : Value) (id : Int) (hl : l.length ≤ 1000000000000000000) (hz : ∀ x ∈ l, Fits x) (w : World) (hU : Nodes l v w) :
    Calls Try.prog 22 #[v, .int .i64 id] w fun e w' => e = .returned (.int .i64 (defF l id)) ∧ Below w.heap.size w w' := by
  obtain ⟨a, cap, rfl⟩ := hU.len
  cases hh : isF l id 30
  · have HH := Lib.hid hh
    have hR := Lib.hid (show defF l id = -1 by unfold defF; rw [inF_no hh]; rfl)
    clear hh
    go_enter Try.func22, Try.ntmps22
    go_wp2_with fail
    refine (refIs15_any l _ id 30 hl hz _ hU).mono ?_
    rintro e w' ⟨rfl, hb⟩
    rw [HH.out]
    go_wp2_with fail
    go_ret
    exact ⟨ret_int hR.out.symm, hb⟩
  have HH := Lib.hid hh
  have hc := (isF_30 (by omega)).1 hh
  have hRP := (rightB_iff l).1 hc.1
  obtain ⟨i0, i1⟩ := kindF_pos (l := l) (k := id) (by omega)
  obtain ⟨t0, t1⟩ := topF_range hRP i0 i1
  have hI := show inF l id = ord l (topF l id) from if_pos hc
  have hlen := inF_len (l := l) id
  have hmem := Lib.hid (fun k (h : k ∈ inF l id) => inF_mem h)
  have hRight := Lib.hid hc.1
  have hR := Lib.hid (show defF l id = firstF (defP l id) (inF l id) from rfl)
  have HP := Lib.hid (fun k => show defP l id k = (firesB (kindF l k) && decide (formF l k = id)) from rfl)
  obtain ⟨K, rfl⟩ := Int.eq_ofNat_of_zero_le i0
  have hkl : K < l.length := by omega
  clear hh hc
  obtain ⟨T, hT⟩ := Int.eq_ofNat_of_zero_le t0
  have hTl : T < l.length := by omega
  rw [hT] at hI
  have HT := Lib.hid hT
  have hmax := hRP.max
  clear hT t0 t1
  go_enter Try.func22, Try.ntmps22
  go_wp2_with fail
  refine (refIs15_any l _ _ 30 hl hz _ hU).mono ?_
  rintro e w1 ⟨rfl, hb1⟩
  rw [HH.out]
  go_wp2_with fail
  refine (refTop_any l _ K hkl hRP _ (hU.kept hb1)).mono ?_
  rintro e w2 ⟨rfl, rfl⟩
  rw [HT.out]
  go_wp2_with fail
  refine (refOrder_any l hRP T hTl _ _ hz (hU.kept hb1)).mono ?_
  rw [← hI]
  clear hI
  generalize inF l (K : Nat) = I at hlen hmem hR ⊢
  rintro e w3 ⟨vo, rfl, hov, hb3⟩
  obtain ⟨a1, c1, rfl, _⟩ := hov.form
  rw [ints_len] at hov ⊢
  have hb13 := bs hb1 hb3
  have hg3 := hb13.size
  have hsi : I.length ≤ 1000000000000000000 := by omega
  go_wp2_with fail
  go_loopw [6] (fun i wr => ∃ k : Nat, k ≤ I.length ∧ i = .int .i64 k ∧ Hid (∀ x ∈ I.take k, defP l (K : Nat) x = false) ∧ Below w3.heap.size w3 wr) (fun i _ => I.length - (intOf i).toNat)
  case atStart => exact ⟨0, Nat.zero_le _, rfl, Lib.hid (by simp), Below.refl _ _⟩
  case round =>
    obtain ⟨k, hk, rfl, hA, hbel⟩ := hrel
    have hb0r := hb13.trans (hbel.mono hg3)
    have hsz := hbel.size
    by_cases hlt : k < I.length
    · obtain ⟨_, id0, id1, c0, c1', _⟩ := hmem.out I[k] (List.getElem_mem hlt)
      have hov' := hov.kept hbel
      obtain ⟨g, gc, hv, _, hcell⟩ := hov'.at (by intro e; have := congrArg List.length e; rw [ints_len, List.length_nil] at this; omega)
      rw [ints_len] at hv
      cases hv
      have hgb : g < wr.heap.size := by
        have := (World.ownsRow.lt hov' g rfl).2
        omega
      have hcc := hcell k (.int .i64 I[k]) (by rw [ints, List.getElem?_map, List.getElem?_eq_getElem hlt]; rfl)
      have hT := Lib.hid (fun h => take_mem_snoc (P := fun x => defP l (K : Nat) x = false) hlt hA.out h)
      have hH := Lib.hid (fun h => firstF_hit (p := defP l (K : Nat)) hlt hA.out h)
      have hk0 : (0 : Int) ≤ (k : Int) := by omega
      have hk1 : (k : Int) < (I.length : Int) := by omega
      have hp := HP.out I[k]
      generalize I[k] = c at *
      obtain ⟨q, rfl⟩ := Int.eq_ofNat_of_zero_le c0
      have hq : q < l.length := by omega
      rw [kindF_in c0 c1'] at hp
      obtain ⟨r0, r1⟩ := kindF_range l (q : Nat)
      rw [kindF_in c0 c1'] at r0 r1
      cases hL : firesB (kOf l (q : Nat))
      · have HL := Lib.hid hL
        have hN := Lib.hid (hT.out (by rw [hp, hL]; rfl))
        clear hp hL
        go_wp2_with fail
        refine (ref16Kind_any l _ q hq hRP _ (hU.kept hb0r)).mono ?_
        rintro e w4 ⟨rfl, hb4⟩
        go_wp2_with fail
        refine (refIs5_any _ r0 r1 _).mono ?_
        rintro e w5 ⟨rfl, rfl⟩
        rw [HL.out]
        go_wp2_with fail
        go_roundw
        case rel => exact ⟨k + 1, by omega, by go_num, hN, bs hbel hb4⟩
        case measure => simp [intOf]; omega
      · have HL := Lib.hid hL
        by_cases hf : formF l (q : Nat) = K
        · have HF := Lib.hid ((formF_Form hRight.out (q : Nat)).trans hf)
          have hE := Lib.hid (hR.out.trans (hH.out (by rw [hp, hL, decide_eq_true hf]; rfl)))
          clear hp hL hf
          go_wp2_with fail
          refine (ref16Kind_any l _ q hq hRP _ (hU.kept hb0r)).mono ?_
          rintro e w4 ⟨rfl, hb4⟩
          have hb04 := bs hb0r hb4
          have hcc4 := cellK hb4 hgb hcc
          go_wp2_with fail
          refine (refIs5_any _ r0 r1 _).mono ?_
          rintro e w5 ⟨rfl, rfl⟩
          rw [HL.out]
          go_wp2_with fail
          refine (refForm_any l _ (q : Nat) hl hz _ (hU.kept hb04)).mono ?_
          rintro e w6 ⟨rfl, hb6⟩
          rw [HF.out]
          have hb06 := bs hb04 hb6
          have hcc6 := cellK hb6 (by have := hb4.size; omega) hcc4
          have hb36 := bs (bs hbel hb4) hb6
          go_wp2_with fail
          go_ret
          exact ⟨ret_int hE.out.symm, hb06⟩
        · have hN := Lib.hid (hT.out (by rw [hp, hL, decide_eq_false hf]; rfl))
          clear hp hL
          have q1 := intNe hf
          rw [← formF_Form hRight.out (q : Nat)] at q1
          have HQ := Lib.hid q1
          clear q1 hf
          go_wp2_with fail
          refine (ref16Kind_any l _ q hq hRP _ (hU.kept hb0r)).mono ?_
          rintro e w4 ⟨rfl, hb4⟩
          have hb04 := bs hb0r hb4
          have hcc4 := cellK hb4 hgb hcc
          go_wp2_with fail
          refine (refIs5_any _ r0 r1 _).mono ?_
          rintro e w5 ⟨rfl, rfl⟩
          rw [HL.out]
          go_wp2_with fail
          refine (refForm_any l _ (q : Nat) hl hz _ (hU.kept hb04)).mono ?_
          rintro e w6 ⟨rfl, hb6⟩
          have q1 := HQ.out
          go_wp2_with fail
          go_roundw
          case rel => exact ⟨k + 1, by omega, by go_num, hN, bs (bs hbel hb4) hb6⟩
          case measure => simp [intOf]; omega
    · obtain rfl : k = I.length := by omega
      have hN := Lib.hid (hR.out.trans (firstF_none (by have := hA.out; rwa [List.take_of_length_le (Nat.le_refl _)] at this)))
      go_wp2_with fail
      go_ret
      exact ⟨ret_int hN.out.symm, hb0r⟩
end Go.Proofs.Ytenicjebccdekaa

/-
  A RADIO BUTTON's GROUP: group.Members, ref17.Together, ref17.Members: the walks.
-/
namespace Go.Proofs.Ytenicjebccdekaa
set_option linter.unusedVariables false
set_option linter.unusedSimpArgs false
open Go.RowKit PT

/-- of one group, by the document -/
noncomputable def togB (l : List Nd) (a b : Int) : Bool := decide (a = b) || (decide ((nameF l a).size ≠ 0) && (decide (nameF l a = nameF l b) && (decide (FormF l a = FormF l b) && decide (topF l a = topF l b))))
theorem topB_in {l : List Nd} (h : RightP l) {k : Int} (h0 : 0 ≤ k) (h1 : k < l.length) : topB l k = topF l k := if_pos (hasB_yes h h0 h1)
theorem tog_key {l : List Nd} (h : RightP l) {a b : Int} (a0 : 0 ≤ a) (a1 : a < l.length) (b0 : 0 ≤ b) (b1 : b < l.length) : keyF l b = keyF l a ↔ togB l a b = true := by
  have hm := h.max
  obtain ⟨fa, _⟩ := Form_range (l := l) a hm
  obtain ⟨fb, _⟩ := Form_range (l := l) b hm
  unfold togB
  simp only [Bool.or_eq_true, Bool.and_eq_true, decide_eq_true_iff]
  rw [← topB_in h a0 a1, ← topB_in h b0 b1]
  unfold keyF
  by_cases ha : (nameF l a).size = 0
  · rw [if_pos ha]
    by_cases hb : (nameF l b).size = 0
    · rw [if_pos hb]
      constructor
      · intro e
        injection e with _ _ _ e
        exact .inl e.symm
      · rintro (e | e)
        · rw [e]
        · exact absurd ha e.1
    · rw [if_neg hb]
      constructor
      · intro e
        injection e with _ e
        omega
      · rintro (e | e)
        · rw [e] at ha; exact absurd ha hb
        · exact absurd ha e.1
  · rw [if_neg ha]
    by_cases hb : (nameF l b).size = 0
    · rw [if_pos hb]
      constructor
      · intro e
        injection e with _ e
        omega
      · rintro (e | e)
        · rw [e] at ha; exact absurd hb ha
        · rw [e.2.1] at ha; exact absurd hb ha
    · rw [if_neg hb]
      constructor
      · intro e
        injection e with e1 e2 e3
        exact .inr ⟨ha, e1.symm, e2.symm, e3.symm⟩
      · rintro (e | ⟨_, e1, e2, e3⟩)
        · rw [e]
        · rw [e1, e2, e3]
noncomputable def memF (l : List Nd) (id : Int) : List Int := if rightB l = true ∧ radB l id = true then atK l (treesF l l.length) (klF l id) else []
theorem rad_in {l : List Nd} {k : Int} (h : radB l k = true) : 0 ≤ k ∧ k < l.length := kindF_pos (l := l) (k := k) (by have := of_decide_eq_true h; omega)
theorem isK_tog {l : List Nd} (h : RightP l) {a c : Int} (a0 : 0 ≤ a) (a1 : a < l.length) (c0 : 0 ≤ c) (c1 : c < l.length) : isK l (klF l a) c = togB l a c := by
  have e : isK l (klF l a) c = true ↔ togB l a c = true := by
    rw [isK_iff, klF_iff h c0 c1 a0 a1]
    exact tog_key h a0 a1 c0 c1
  cases h1 : isK l (klF l a) c <;> cases h2 : togB l a c <;> simp_all
theorem tog_top {l : List Nd} {a c : Int} (ht : togB l a c = true) : topF l c = topF l a := by
  unfold togB at ht
  simp only [Bool.or_eq_true, Bool.and_eq_true, decide_eq_true_iff] at ht
  rcases ht with e | ⟨_, _, _, e⟩
  · rw [e]
  · exact e.symm
/-- a group by the document's order -/
theorem mem_doc {l : List Nd} (h : RightP l) {id : Int} (hr : radB l id = true) : memF l id = (ord l (topF l id)).filter (fun c => radB l c && togB l id c) := by
  obtain ⟨i0, i1⟩ := rad_in hr
  obtain ⟨t0, t1, tp, _⟩ := topF_all h _ id (Nat.le_refl _) i0 i1
  obtain ⟨r, hre⟩ := Int.eq_ofNat_of_zero_le t0
  rw [hre] at tp
  unfold memF atK
  rw [if_pos ⟨rightB_yes h, hr⟩, trees_filter h (isK l (klF l id)) (r := r) (fun c c0 c1 hc => by
    rw [isK_tog h i0 i1 c0 c1] at hc
    rw [← hre]
    exact tog_top hc) tp l.length (Nat.le_refl _), if_pos (by omega), hre, List.filter_filter]
  refine List.filter_congr (fun c hc => ?_)
  obtain ⟨c0, c1, _⟩ := ord_mem h (k := (r : Int)) (by omega) (by omega) hc
  rw [isK_tog h i0 i1 c0 c1, Bool.and_comm]
theorem mem_len {l : List Nd} (id : Int) : (memF l id).length ≤ 400 := by
  unfold memF
  split
  · rename_i hc
    have h := (rightB_iff l).1 hc.1
    have := mem_doc h hc.2
    unfold memF at this
    rw [if_pos hc] at this
    rw [this]
    obtain ⟨i0, i1⟩ := rad_in hc.2
    obtain ⟨t0, t1⟩ := topF_range h i0 i1
    exact Nat.le_trans (List.length_filter_le _ _) (Nat.le_trans (ord_len h t0 t1) h.max)
  · exact Nat.zero_le _
theorem mem_same {l : List Nd} {id k : Int} (hk : k ∈ memF l id) : memF l k = memF l id ∧ radB l k = true ∧ 0 ≤ k ∧ k < l.length := by
  unfold memF at hk
  split at hk
  · rename_i hc
    have h := (rightB_iff l).1 hc.1
    obtain ⟨h1, h2⟩ := List.mem_filter.1 hk
    obtain ⟨a, b, hr, _⟩ := trees_mem h _ (Nat.le_refl _) k h1
    have e := (isK_iff l _ k).1 h2
    refine ⟨?_, hr, a, b⟩
    unfold memF
    rw [if_pos ⟨hc.1, hr⟩, if_pos hc, e]
  · cases hk
set_option maxHeartbeats 4000000 in
set_option maxRecDepth 100000 in
theorem members_any (l : List Nd) (v : Value) (id : Int) (hl : l.length ≤ 1000000000000000000) (hz : ∀ x ∈ l, Fits x) (w : World) (hU : Nodes l v w) :
    Calls Try.prog 30 #[v, .int .i64 id] w fun e w' => ∃ vo, e = .returned vo ∧ OV w.heap.size 3 (ints (memF l id)) vo w' ∧ Below w.heap.size w w' := by
  obtain ⟨a, cap, rfl⟩ := hU.len
  cases hr : rightB l
  · have hR := Lib.hid (show memF l id = [] from if_neg (fun h => by rw [hr] at h; cases h.1))
    have HR := Lib.hid hr
    clear hr
    go_enter Try.func30, Try.ntmps30
    go_wp2_with fail
    refine (right_any l _ hl hz _ hU).mono ?_
    rintro e w' ⟨rfl, hb⟩
    rw [HR.out]
    go_wp2_with fail
    go_ret
    exact ⟨_, rfl, by rw [hR.out]; exact OV.nil _ _ _, hb⟩
  have HR := Lib.hid hr
  have hRP := (rightB_iff l).1 hr
  have hmax := hRP.max
  cases hd : radB l id
  · have hR := Lib.hid (show memF l id = [] from if_neg (fun h => by rw [hd] at h; cases h.2))
    have HD := Lib.hid hd
    clear hr hd
    go_enter Try.func30, Try.ntmps30
    go_wp2_with fail
    refine (right_any l _ hl hz _ hU).mono ?_
    rintro e w' ⟨rfl, hb⟩
    rw [HR.out]
    go_wp2_with fail
    refine (radio_any l _ id hl hRP _ (hU.kept hb)).mono ?_
    rintro e w2 ⟨rfl, hb2⟩
    rw [HD.out]
    go_wp2_with fail
    go_ret
    exact ⟨_, rfl, by rw [hR.out]; exact OV.nil _ _ _, bs hb hb2⟩
  obtain ⟨i0, i1⟩ := rad_in hd
  have hR := Lib.hid (show memF l id = atK l (treesF l l.length) (klF l id) from if_pos ⟨hr, hd⟩)
  have HD := Lib.hid hd
  have hkey := klF_of hRP i0 i1
  unfold keyV at hkey
  have HKey := Lib.hid hkey
  have htl := trees_len hRP l.length (Nat.le_refl _)
  have hz0 : ∀ u : World, (zeroValue 28).run Try.prog u = .ok (.slice none 0 0) u := fun u => by kernel_rfl
  have HZ0 := Lib.hid hz0
  clear hr hd hkey hz0
  go_enter Try.func30, Try.ntmps30
  go_wp2_with fail
  refine (right_any l _ hl hz _ hU).mono ?_
  rintro e w1 ⟨rfl, hb1⟩
  rw [HR.out]
  go_wp2_with fail
  refine (radio_any l _ id hl hRP _ (hU.kept hb1)).mono ?_
  rintro e w2 ⟨rfl, hb2⟩
  rw [HD.out]
  have hb02 := bs hb1 hb2
  go_wp2_with fail
  refine (groupAll_any l hRP _ _ hz (hU.kept hb02)).mono ?_
  rintro e w3 ⟨D, rfl, hG, hInv, hb3⟩
  have hb03 := bs hb02 hb3
  go_wp2_with fail
  refine (groupOf_any l _ id hl hz _ (hU.kept hb03)).mono ?_
  unfold keyV
  rintro e w4 ⟨rfl, hb4⟩
  have hG4 := og_below hG hb4
  generalize treesF l l.length = T at *
  have hTm : T.length < maxLen := by unfold maxLen; omega
  go_wp2_with (first
    | (at_lookup; refine wpList_lookup_groups (H := Unit) _ rfl _ _ 70 rfl 73 28 3 .i64 keyLaw Try.underlying70 (HZ0.out _) (w2.heap.size + 1) w2.heap.size T.length D rfl hG4 hTm _ _ rfl HKey.out ?_; intro va zs hat hoi hzl _))
  have hzs := Lib.hid (hInv.zs hoi hat)
  go_ret
  refine ⟨_, rfl, ?_, bs hb03 hb4⟩
  rw [hR.out, ← hzs.out]
  have hOV : OV (w2.heap.size + 1) 3 (ints zs) va w4 := by
    have h1 := hoi.1
    unfold OV
    rw [ints_len]
    exact h1
  exact ov_base hOV (by have := hb02.size; omega)
set_option maxHeartbeats 4000000 in
set_option maxRecDepth 100000 in
theorem together_any (l : List Nd) (v : Value) (K F : Nat) (hkl : K < l.length) (hfl : F < l.length) (hRP : RightP l) (hz : ∀ x ∈ l, Fits x) (w : World) (hU : Nodes l v w) :
    Calls Try.prog 79 #[v, .int .i64 K, .int .i64 F] w fun e w' => e = .returned (.bool (togB l K F)) ∧ Below w.heap.size w w' := by
  obtain ⟨a, cap, rfl⟩ := hU.len
  have hmax := hRP.max
  have hl : l.length ≤ 1000000000000000000 := by omega
  have hT := show togB l (K : Nat) (F : Nat) = (decide ((K : Int) = (F : Int)) || (decide ((nameF l (K : Nat)).size ≠ 0) && (decide (nameF l (K : Nat) = nameF l (F : Nat)) && (decide (FormF l (K : Nat) = FormF l (F : Nat)) && decide (topF l (K : Nat) = topF l (F : Nat)))))) from rfl
  by_cases e : K = F
  · subst e
    have hR := Lib.hid (show togB l (K : Nat) (K : Nat) = true by rw [hT, decide_eq_true rfl]; rfl)
    clear hT
    go_enter Try.func79, Try.ntmps79
    go_wp2_with fail
    go_ret
    exact ⟨ret_bool hR.out.symm, Below.refl _ _⟩
  have hKF : ((K : Int) == (F : Int)) = false := intNe (by omega)
  have hKF2 : (K == F) = false := by rw [beq_eq_false_iff_ne]; exact e
  rw [decide_eq_false (show ¬ (K : Int) = (F : Int) by omega), Bool.false_or] at hT
  have hnK := show nameF l (K : Nat) = (atO l[K].ats ⟨#[110, 97, 109, 101]⟩).getD ⟨#[]⟩ by unfold nameF attF; rw [if_pos (hasB_yes hRP (by omega) (by omega)), atsOf_at hkl]
  have hnF := show nameF l (F : Nat) = (atO l[F].ats ⟨#[110, 97, 109, 101]⟩).getD ⟨#[]⟩ by unfold nameF attF; rw [if_pos (hasB_yes hRP (by omega) (by omega)), atsOf_at hfl]
  have z1 := one_ats (hRP.node K _ (List.getElem?_eq_getElem hkl)).1
  have z2 := one_ats (hRP.node F _ (List.getElem?_eq_getElem hfl)).1
  obtain ⟨b, o, cap', va, vk, hv, hb, c0, c1, c2, c3, c4, hat, hks⟩ := hU.at hkl
  obtain ⟨b', o', cap'', va', vk', hv', hb', g0, g1, g2, g3, g4, hat', hks'⟩ := hU.at hfl
  rw [hv] at hv'
  cases hv
  cases hv'
  generalize l[K] = x at *
  generalize l[F] = y at *
  have hK0 : (0 : Int) ≤ (K : Int) := by omega
  have hK1 : (K : Int) < (l.length : Int) := by omega
  have hF0 : (0 : Int) ≤ (F : Int) := by omega
  have hF1 : (F : Int) < (l.length : Int) := by omega
  obtain ⟨s, hs⟩ : ∃ s, (atO x.ats ⟨#[110, 97, 109, 101]⟩).getD ⟨#[]⟩ = s := ⟨_, rfl⟩
  obtain ⟨t, ht⟩ : ∃ t, (atO y.ats ⟨#[110, 97, 109, 101]⟩).getD ⟨#[]⟩ = t := ⟨_, rfl⟩
  rw [hnK, hnF, hs, ht] at hT
  have HS := Lib.hid hs
  have HT := Lib.hid ht
  clear hs ht hnK hnF e
  by_cases h0 : s.size = 0
  · have hR := Lib.hid (show togB l (K : Nat) (F : Nat) = false by rw [hT, decide_eq_false (fun h => h h0)]; rfl)
    have h0' : ((s.size : Int) == 0) = true := by rw [h0]; rfl
    have h0'' : (s.size == 0) = true := by rw [h0]; rfl
    clear hT h0
    go_enter Try.func79, Try.ntmps79
    go_wp2_with fail
    refine (refAttr14_any x.ats _ ⟨#[110, 97, 109, 101]⟩ (by omega) _ hat).mono ?_
    rintro e w1 ⟨rfl, rfl⟩
    unfold atT
    rw [HS.out]
    go_wp2_with fail
    refine (refAttr14_any y.ats _ ⟨#[110, 97, 109, 101]⟩ (by omega) _ hat').mono ?_
    rintro e w1 ⟨rfl, rfl⟩
    unfold atT
    rw [HT.out]
    go_wp2_with fail
    go_ret
    exact ⟨ret_bool hR.out.symm, Below.refl _ _⟩
  have h0' : ((s.size : Int) == 0) = false := intNe (by omega)
  have h0'' : (s.size == 0) = false := by rw [beq_eq_false_iff_ne]; exact h0
  rw [decide_eq_true h0, Bool.true_and] at hT
  clear h0
  by_cases h1 : s = t
  case neg =>
    have hR := Lib.hid (show togB l (K : Nat) (F : Nat) = false by rw [hT, decide_eq_false h1]; rfl)
    have q1 := sFalse h1
    have q2 : (s.toList != t.toList) = true := by rw [bne, q1]; rfl
    clear hT h1
    go_enter Try.func79, Try.ntmps79
    go_wp2_with fail
    refine (refAttr14_any x.ats _ ⟨#[110, 97, 109, 101]⟩ (by omega) _ hat).mono ?_
    rintro e w1 ⟨rfl, rfl⟩
    unfold atT
    rw [HS.out]
    go_wp2_with fail
    refine (refAttr14_any y.ats _ ⟨#[110, 97, 109, 101]⟩ (by omega) _ hat').mono ?_
    rintro e w1 ⟨rfl, rfl⟩
    unfold atT
    rw [HT.out]
    go_wp2_with fail
    go_ret
    exact ⟨ret_bool hR.out.symm, Below.refl _ _⟩
  rw [decide_eq_true h1, Bool.true_and] at hT
  subst h1
  have HFK := Lib.hid (Eq.refl (FormF l (K : Nat)))
  by_cases h2 : FormF l (K : Nat) = FormF l (F : Nat)
  case neg =>
    have hR := Lib.hid (show togB l (K : Nat) (F : Nat) = false by rw [hT, decide_eq_false h2]; rfl)
    have q1 := Lib.hid (intNe h2)
    clear hT h2 HFK
    go_enter Try.func79, Try.ntmps79
    go_wp2_with fail
    refine (refAttr14_any x.ats _ ⟨#[110, 97, 109, 101]⟩ (by omega) _ hat).mono ?_
    rintro e w1 ⟨rfl, rfl⟩
    unfold atT
    rw [HS.out]
    go_wp2_with fail
    refine (refAttr14_any y.ats _ ⟨#[110, 97, 109, 101]⟩ (by omega) _ hat').mono ?_
    rintro e w1 ⟨rfl, rfl⟩
    unfold atT
    rw [HT.out]
    go_wp2_with fail
    refine (refForm_any l _ (K : Nat) hl hz _ hU).mono ?_
    rintro e w2 ⟨rfl, hb2⟩
    go_wp2_with fail
    refine (refForm_any l _ (F : Nat) hl hz _ (hU.kept hb2)).mono ?_
    rintro e w3 ⟨rfl, hb3⟩
    have q2 := q1.out
    go_wp2_with fail
    go_ret
    exact ⟨ret_bool hR.out.symm, bs hb2 hb3⟩
  rw [decide_eq_true h2, Bool.true_and] at hT
  have H2 := Lib.hid h2
  clear h2 HFK
  by_cases h3 : topF l (K : Nat) = topF l (F : Nat)
  · have hR := Lib.hid (hT.trans (decide_eq_true h3))
    have H3 := Lib.hid h3
    clear hT h3
    go_enter Try.func79, Try.ntmps79
    go_wp2_with fail
    refine (refAttr14_any x.ats _ ⟨#[110, 97, 109, 101]⟩ (by omega) _ hat).mono ?_
    rintro e w1 ⟨rfl, rfl⟩
    unfold atT
    rw [HS.out]
    go_wp2_with fail
    refine (refAttr14_any y.ats _ ⟨#[110, 97, 109, 101]⟩ (by omega) _ hat').mono ?_
    rintro e w1 ⟨rfl, rfl⟩
    unfold atT
    rw [HT.out]
    go_wp2_with fail
    refine (refForm_any l _ (K : Nat) hl hz _ hU).mono ?_
    rintro e w2 ⟨rfl, hb2⟩
    rw [H2.out]
    go_wp2_with fail
    refine (refForm_any l _ (F : Nat) hl hz _ (hU.kept hb2)).mono ?_
    generalize FormF l (F : Nat) = p
    rintro e w3 ⟨rfl, hb3⟩
    go_wp2_with fail
    refine (refTop_any l _ K hkl hRP _ (hU.kept (bs hb2 hb3))).mono ?_
    rintro e w4 ⟨rfl, rfl⟩
    rw [H3.out]
    go_wp2_with fail
    refine (refTop_any l _ F hfl hRP _ (hU.kept (bs hb2 hb3))).mono ?_
    generalize topF l (F : Nat) = p9
    rintro e w4 ⟨rfl, rfl⟩
    go_wp2_with fail
    go_ret
    exact ⟨ret_bool hR.out.symm, bs hb2 hb3⟩
  · have hR := Lib.hid (hT.trans (decide_eq_false h3))
    have q1 := Lib.hid (intNe h3)
    clear hT h3
    go_enter Try.func79, Try.ntmps79
    go_wp2_with fail
    refine (refAttr14_any x.ats _ ⟨#[110, 97, 109, 101]⟩ (by omega) _ hat).mono ?_
    rintro e w1 ⟨rfl, rfl⟩
    unfold atT
    rw [HS.out]
    go_wp2_with fail
    refine (refAttr14_any y.ats _ ⟨#[110, 97, 109, 101]⟩ (by omega) _ hat').mono ?_
    rintro e w1 ⟨rfl, rfl⟩
    unfold atT
    rw [HT.out]
    go_wp2_with fail
    refine (refForm_any l _ (K : Nat) hl hz _ hU).mono ?_
    rintro e w2 ⟨rfl, hb2⟩
    rw [H2.out]
    go_wp2_with fail
    refine (refForm_any l _ (F : Nat) hl hz _ (hU.kept hb2)).mono ?_
    generalize FormF l (F : Nat) = p
    rintro e w3 ⟨rfl, hb3⟩
    go_wp2_with fail
    refine (refTop_any l _ K hkl hRP _ (hU.kept (bs hb2 hb3))).mono ?_
    rintro e w4 ⟨rfl, rfl⟩
    go_wp2_with fail
    refine (refTop_any l _ F hfl hRP _ (hU.kept (bs hb2 hb3))).mono ?_
    rintro e w4 ⟨rfl, rfl⟩
    have q2 := q1.out
    go_wp2_with fail
    go_ret
    exact ⟨ret_bool hR.out.symm, bs hb2 hb3⟩
end Go.Proofs.Ytenicjebccdekaa
