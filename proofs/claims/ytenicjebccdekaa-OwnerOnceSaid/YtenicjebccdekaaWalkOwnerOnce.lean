/-
  The law OwnerOnce: the walk.
-/
import Derived.Test.YtenicjebccdekaaWakes16
import Derived.Test.YtenicjebccdekaaPlainOnce
namespace Go.Proofs.Ytenicjebccdekaa
set_option linter.unusedVariables false
set_option linter.unusedSimpArgs false
open Go.RowKit PT

theorem make_int (n : Nat) (hn : n ≤ 400) (W : World) : (Instr.makeSlice 28 (.int .i64 (n : Int)) (.int .i64 (n : Int))).run Try.prog W = .ok (.slice (some ⟨W.heap.size, 0, none⟩) n n) (W.alloc (.cells (rowN n (fun _ => 0)) 3)) := by
  rw [← rowN_made]
  exact run_make_row' (P := Try.prog) 28 3 (.int .i64 0) 8 (by kernel_rfl) (by kernel_rfl) rfl .i64 .i64 n (by omega) (by omega) W
theorem ov_set {base g i : Nat} {T : TypeId} {t : List Value} {v u : Value} {W : World} (h : OV base T t v W) (hg : g < base) : OV base T t v (W.setCell ⟨g, i, none⟩ u) := by
  refine World.ownsRow.kept h (grown_set u) ?_
  cases hv : v.ownBlock with
  | none => exact .inl rfl
  | some k =>
    refine .inr (fun e => ?_)
    have := (World.ownsRow.lt h k hv).1
    cases e
    omega
theorem row_cell {W : World} {g n : Nat} {f : Nat → Nat} {t : TypeId} (h : W.heap[g]? = some (.cells (rowN n f) t (0, 0))) {q : Nat} (hq : q < n) : W.cell? ⟨g, q, none⟩ = some (.int .i64 (f q : Nat)) ∧ W.frozen? ⟨g, q, none⟩ = false := by
  simp [World.cell?, World.frozen?, h, rowN_get f hq]
set_option maxHeartbeats 8000000 in
set_option maxRecDepth 100000 in
theorem ownerOnce_walk (l : List Nd) (v : Value) (w : World) (hC : Came l v w) :
    Calls Try.prog 6 #[v] w fun e w' => e = .returned (.bool true) ∧ Below w.heap.size w w' := by
  cases hr : rightB l
  · have HR := Lib.hid hr
    clear hr
    go_enter Try.func6, Try.ntmps6
    go_wp2_with fail
    refine (wakes16_any _).mono ?_
    rintro e w1 ⟨rfl, hb1⟩
    have hC1 := hC.kept hb1
    go_wp2_with fail
    refine (refRight_any l v hC1.len hC1.fits _ hC1.nodes).mono ?_
    rintro e w2 ⟨rfl, hb2⟩
    rw [HR.out]
    go_wp2_with fail
    go_ret
    exact ⟨rfl, bs hb1 hb2⟩
  have HR := Lib.hid hr
  have hRP := (rightB_iff l).1 hr
  have hmax := hRP.max
  have hlen := hC.len
  have hmk := make_int l.length hmax
  clear hr
  obtain ⟨a, cap, rfl⟩ := hC.nodes.len
  go_enter Try.func6, Try.ntmps6
  go_wp2_with fail
  refine (wakes16_any _).mono ?_
  rintro e w1 ⟨rfl, hb1⟩
  have hC1 := hC.kept hb1
  go_wp2_with fail
  refine (refRight_any l _ hlen hC1.fits _ hC1.nodes).mono ?_
  rintro e w2 ⟨rfl, hb2⟩
  rw [HR.out]
  have hb02 := bs hb1 hb2
  have hC2 := hC1.kept hb2
  go_wp2_with fail
  refine (copied_nodes l _ _ hC2).mono ?_
  rintro e w3 ⟨vo, rfl, hD3, hb3⟩
  have hb03 := bs hb02 hb3
  have hn0 := Go.heap_alloc_new w3 (.cells (rowN l.length (fun _ => 0)) 3)
  have hb4 := (Below.refl w3.heap.size w3).alloc (Nat.le_refl _) (.cells (rowN l.length (fun _ => 0)) 3)
  have hs4 : (w3.alloc (.cells (rowN l.length (fun _ => 0)) 3)).heap.size = w3.heap.size + 1 := by simp
  have hU0 := hC.nodes.kept hb03
  go_wp2_with fail
  generalize World.alloc _ _ = W4 at hn0 hb4 hs4 ⊢
  go_loopw [22] (fun i wr => ∃ k : Nat, k ≤ l.length ∧ i = .int .i64 k ∧ wr.heap[w3.heap.size]? = some (.cells (rowN l.length (cnt l k)) 3 (0, 0)) ∧ Below w3.heap.size w3 wr) (fun i _ => l.length - (intOf i).toNat)
  case atStart => exact ⟨0, Nat.zero_le _, rfl, hn0, hb4⟩
  case round =>
    obtain ⟨i, hi, rfl, hrow, hbel⟩ := hrel
    have hDr := hD3.kept hbel
    have hgb := (Array.getElem?_eq_some_iff.1 hrow).1
    by_cases hlt : i < l.length
    · have hii : (i : Int) < (l.length : Int) := by omega
      go_wp2_with fail
      refine (elements_any l vo (i : Int) hlen hDr.fits _ hDr.nodes).mono ?_
      have hrng := Lib.hid (fun k (h : k ∈ elemsF l (i : Nat)) => elems_range h)
      have hcs := Lib.hid (fun k : Nat => show cnt l (i + 1) k = cnt l i k + (elemsF l (i : Nat)).count (k : Int) from rfl)
      have hcl := Lib.hid (fun k : Nat => cnt_le hRP hi k)
      have hel : (elemsF l (i : Nat)).length ≤ 400 := Nat.le_trans (List.length_filter_le _ _) (Nat.le_trans (inF_len _) hmax)
      generalize elemsF l (i : Nat) = I at hrng hcs hel ⊢
      rintro e w5 ⟨v5, rfl, hov, hb5⟩
      obtain ⟨a5, c5, rfl, _⟩ := hov.form
      rw [ints_len] at hov ⊢
      have hrow5 := blk_kept hb5 hrow
      have hbel5 := hbel.trans (hb5.mono hbel.size)
      go_wp2_with fail
      go_loopw [29] (fun j ws => ∃ t : Nat, t ≤ I.length ∧ j = .int .i64 t ∧ ws.heap[w3.heap.size]? = some (.cells (rowN l.length (fun k => cnt l i k + (I.take t).count (k : Int))) 3 (0, 0)) ∧ OV wr.heap.size 3 (ints I) (.slice a5 I.length c5) ws ∧ Below w3.heap.size w3 ws) (fun j _ => I.length - (intOf j).toNat)
      case atStart => exact ⟨0, Nat.zero_le _, rfl, by simpa using hrow5, hov, hbel5⟩
      case round =>
        obtain ⟨t, ht, rfl, hrow, hov, hbel⟩ := hrel
        have hgb2 := (Array.getElem?_eq_some_iff.1 hrow).1
        by_cases hlt2 : t < I.length
        · obtain ⟨g, gc, hv, hgo, hcell⟩ := hov.at (by intro e; have := congrArg List.length e; rw [ints_len, List.length_nil] at this; omega)
          rw [ints_len] at hv
          cases hv
          have hcc := hcell t (.int .i64 I[t]) (by rw [ints, List.getElem?_map, List.getElem?_eq_getElem hlt2]; rfl)
          obtain ⟨d0, d1, dF⟩ := hrng.out I[t] (List.getElem_mem hlt2)
          have htk := Lib.hid (show I.take (t + 1) = I.take t ++ [I[t]] from List.take_succ_eq_append_getElem hlt2)
          have ht0 : (0 : Int) ≤ (t : Int) := by omega
          have ht1 : (t : Int) < (I.length : Int) := by omega
          generalize I[t] = c at *
          obtain ⟨q, rfl⟩ := Int.eq_ofNat_of_zero_le d0
          have hq : q < l.length := by omega
          have hFq := Lib.hid ((formF_Form HR.out (q : Nat)).trans dF)
          clear dF
          have hq0 : decide ((q : Int) < 0) = false := decide_eq_false (by omega)
          have hq1 : decide ((l.length : Int) ≤ (q : Int)) = false := decide_eq_false (by omega)
          have hDs := hD3.kept hbel
          go_wp2_with fail
          refine (ownerFormTop_any l vo (q : Nat) hlen hDs.fits _ hDs.nodes).mono ?_
          rintro e w6 ⟨rfl, hb6⟩
          rw [hFq.out]
          have hrow6 := blk_kept hb6 hrow
          have hov6 := hov.kept hb6
          have hbel6 := hbel.trans (hb6.mono hbel.size)
          obtain ⟨hce, hfz⟩ := row_cell hrow6 hq
          have hco : (I.take t).count (q : Int) ≤ 400 := Nat.le_trans List.count_le_length (Nat.le_trans (List.length_take_le _ _) (by omega))
          have hcq := hcl.out q
          have hnew := Lib.hid (show rowN l.length (fun k => if k = q then cnt l i q + (I.take t).count (q : Int) + 1 else cnt l i k + (I.take t).count (k : Int)) = rowN l.length (fun k => cnt l i k + (I.take (t + 1)).count (k : Int)) from rowN_congr (fun k _ => by
            rw [htk.out, List.count_append, List.count_singleton]
            by_cases e : k = q
            · subst e; rw [if_pos rfl]; simp; omega
            · rw [if_neg e]
              have : ((q : Int) == (k : Int)) = false := by rw [beq_eq_false_iff_ne]; omega
              rw [this]; simp))
          obtain ⟨z, hz⟩ : ∃ z, cnt l i q + (I.take t).count (q : Int) = z := ⟨_, rfl⟩
          rw [hz] at hce
          have hzl : z ≤ 1000 := by omega
          have hz' := Lib.hid hz
          clear hz hco hcq
          have hq2 : (0 : Int) ≤ (q : Int) := by omega
          have hq3 : (q : Int) < (l.length : Int) := by omega
          go_wp2_with fail
          go_roundw
          case rel =>
            refine ⟨t + 1, by omega, by go_num, ?_, ov_set hov6 hgb, hbel6.setCell (Nat.le_refl _) _⟩
            have := setCell_heap (i := q) (.int .i64 ((z : Int) + 1)) hrow6
            rw [show ((z : Int) + 1) = ((z + 1 : Nat) : Int) by omega, rowN_set] at this
            rw [← hnew.out, hz'.out]
            exact this
          case measure => simp [intOf]; omega
        · obtain rfl : t = I.length := by omega
          rw [List.take_of_length_le (Nat.le_refl _)] at hrow
          go_wp2_with fail
          exact ⟨⟨i + 1, by omega, by go_num, by rw [rowN_congr (g := fun k => cnt l i k + I.count (k : Int)) (fun k _ => hcs.out k)]; exact hrow, hbel⟩, by simp [intOf]; omega⟩
    · obtain rfl : i = l.length := by omega
      go_wp2_with fail
      go_loopw [58] (fun i wx => ∃ k : Nat, k ≤ l.length ∧ i = .int .i64 k ∧ Below wr.heap.size wr wx) (fun i _ => l.length - (intOf i).toNat)
      case atStart => exact ⟨0, Nat.zero_le _, rfl, Below.refl _ _⟩
      case round =>
        obtain ⟨k, hk, rfl, hbx⟩ := hrel
        have hbel0 := hbel.trans (hbx.mono hbel.size)
        have hb0x := hb03.trans (hbel0.mono hb03.size)
        have hrowx := blk_kept hbx hrow
        have hgx := (Array.getElem?_eq_some_iff.1 hrowx).1
        by_cases hlt2 : k < l.length
        · have hone := cnt_one hRP hlt2
          have hW := show wantP l k = (decide (0 ≤ formF l (k : Nat)) && (listB (kOf l (k : Nat)) && decide (topF l (k : Nat) = topF l (formF l (k : Nat))))) from rfl
          have hFF := formF_Form HR.out (k : Nat)
          have hDx := hD3.kept hbel0
          have hUx := hU0.kept hbel0
          obtain ⟨hce, _⟩ := row_cell hrowx hlt2
          have hkk := Lib.hid (kOf_at hlt2)
          have hok := (hRP.node k _ (List.getElem?_eq_getElem hlt2)).1
          have z1 := one_ats hok
          have z2 := one_vals hok
          obtain ⟨b, o, cap', va, vk, hv, hb, c0, c1, c2, c3, c4, hat, hks⟩ := hUx.at hlt2
          cases hv
          generalize l[k] = x at *
          clear hok
          obtain ⟨r0, r1⟩ := kindOf_range x
          obtain ⟨a1, cap1, rfl⟩ := hat.len
          obtain ⟨a2, cap2, rfl⟩ := hks.len
          have hk0 : (0 : Int) ≤ (k : Int) := by omega
          have hk1 : (k : Int) < (l.length : Int) := by omega
          by_cases hf : 0 ≤ formF l (k : Nat)
          case neg =>
            rw [hW, decide_eq_false hf] at hone
            have hone' : cnt l l.length k = 0 := hone
            rw [hone'] at hce
            have hneg := Lib.hid (show decide (0 ≤ FormF l (k : Nat)) = false by rw [hFF]; exact decide_eq_false hf)
            clear hone hone' hW hFF hf
            go_wp2_with fail
            refine (ownerFormTop_any l vo (k : Nat) hlen hDx.fits _ hDx.nodes).mono ?_
            rintro e w6 ⟨rfl, hb6⟩
            have hce6 := cellK hb6 hgx hce
            have hn9 := hneg.out
            generalize FormF l (k : Nat) = z at hn9 ⊢
            go_wp2_with fail
            go_roundw
            case rel => exact ⟨k + 1, by omega, by go_num, bs hbx hb6⟩
            case measure => simp [intOf]; omega
          have hkf := form_kind hRP hf
          obtain ⟨_, f1⟩ := kindF_pos (l := l) (k := formF l (k : Nat)) (by omega)
          rw [decide_eq_true hf, Bool.true_and] at hW
          obtain ⟨f, hfe⟩ := Int.eq_ofNat_of_zero_le hf
          rw [hfe] at hW hFF f1
          have hfl : f < l.length := by omega
          have hf0 : (0 : Int) ≤ (f : Int) := by omega
          have HF := Lib.hid hFF
          rw [hkk.out] at hW
          clear hf hkf hfe hFF
          cases hL : listB (kindOf x)
          case false =>
            rw [hW, hL] at hone
            have hone' : cnt l l.length k = 0 := hone
            rw [hone'] at hce
            have HL := Lib.hid hL
            clear hone hone' hW hL
            go_wp2_with fail
            refine (ownerFormTop_any l vo (k : Nat) hlen hDx.fits _ hDx.nodes).mono ?_
            rintro e w6 ⟨rfl, hb6⟩
            rw [HF.out]
            have hg6 := hb6.size
            have hce6 := cellK hb6 hgx hce
            have e0 := cellK hb6 hb c0
            have e1 := cellK hb6 hb c1
            have e2 := cellK hb6 hb c2
            have e3 := cellK hb6 hb c3
            have e4 := cellK hb6 hb c4
            go_wp2_with fail
            refine (refOf11_any x _ _ (by omega) (fun a ha => Nat.le_trans (z2 a ha) (by omega)) _ (hat.kept hb6)).mono ?_
            rintro e w7 ⟨rfl, hb7⟩
            have hce7 := cellK hb7 (by omega) hce6
            go_wp2_with fail
            refine (refIs1_any _ r0 r1 _).mono ?_
            rintro e w8 ⟨rfl, rfl⟩
            rw [HL.out]
            go_wp2_with fail
            go_roundw
            case rel => exact ⟨k + 1, by omega, by go_num, bs (bs hbx hb6) hb7⟩
            case measure => simp [intOf]; omega
          have HL := Lib.hid hL
          rw [hL, Bool.true_and] at hW
          clear hL
          by_cases ht : topF l (k : Nat) = topF l (f : Nat)
          · rw [hW, decide_eq_true ht, if_pos rfl] at hone
            rw [hone] at hce
            have HT := Lib.hid ht
            clear hone hW ht
            go_wp2_with fail
            refine (ownerFormTop_any l vo (k : Nat) hlen hDx.fits _ hDx.nodes).mono ?_
            rintro e w6 ⟨rfl, hb6⟩
            rw [HF.out]
            have hg6 := hb6.size
            have hce6 := cellK hb6 hgx hce
            have e0 := cellK hb6 hb c0
            have e1 := cellK hb6 hb c1
            have e2 := cellK hb6 hb c2
            have e3 := cellK hb6 hb c3
            have e4 := cellK hb6 hb c4
            go_wp2_with fail
            refine (refOf11_any x _ _ (by omega) (fun a ha => Nat.le_trans (z2 a ha) (by omega)) _ (hat.kept hb6)).mono ?_
            rintro e w7 ⟨rfl, hb7⟩
            have hg7 := hb7.size
            have hce7 := cellK hb7 (by omega) hce6
            have hU7 := (hUx.kept hb6).kept hb7
            have hD7 := (hDx.kept hb6).kept hb7
            go_wp2_with fail
            refine (refIs1_any _ r0 r1 _).mono ?_
            rintro e w8 ⟨rfl, rfl⟩
            rw [HL.out]
            go_wp2_with fail
            refine (refTop_any l _ k hlt2 hRP _ hU7).mono ?_
            rintro e w9 ⟨rfl, rfl⟩
            rw [HT.out]
            go_wp2_with fail
            refine (ownerFormTop_any l vo (k : Nat) hlen hD7.fits _ hD7.nodes).mono ?_
            rintro e w10 ⟨rfl, hb10⟩
            rw [HF.out]
            have hce10 := cellK hb10 (by omega) hce7
            go_wp2_with fail
            refine (refTop_any l _ f hfl hRP _ (hU7.kept hb10)).mono ?_
            generalize topF l (f : Nat) = z
            rintro e w11 ⟨rfl, rfl⟩
            go_wp2_with fail
            go_roundw
            case rel => exact ⟨k + 1, by omega, by go_num, bs (bs (bs hbx hb6) hb7) hb10⟩
            case measure => simp [intOf]; omega
          · rw [hW, decide_eq_false ht] at hone
            have hone' : cnt l l.length k = 0 := hone
            rw [hone'] at hce
            have HT := Lib.hid (intNe ht)
            clear hone hone' hW ht
            go_wp2_with fail
            refine (ownerFormTop_any l vo (k : Nat) hlen hDx.fits _ hDx.nodes).mono ?_
            rintro e w6 ⟨rfl, hb6⟩
            rw [HF.out]
            have hg6 := hb6.size
            have hce6 := cellK hb6 hgx hce
            have e0 := cellK hb6 hb c0
            have e1 := cellK hb6 hb c1
            have e2 := cellK hb6 hb c2
            have e3 := cellK hb6 hb c3
            have e4 := cellK hb6 hb c4
            go_wp2_with fail
            refine (refOf11_any x _ _ (by omega) (fun a ha => Nat.le_trans (z2 a ha) (by omega)) _ (hat.kept hb6)).mono ?_
            rintro e w7 ⟨rfl, hb7⟩
            have hg7 := hb7.size
            have hce7 := cellK hb7 (by omega) hce6
            have hU7 := (hUx.kept hb6).kept hb7
            have hD7 := (hDx.kept hb6).kept hb7
            go_wp2_with fail
            refine (refIs1_any _ r0 r1 _).mono ?_
            rintro e w8 ⟨rfl, rfl⟩
            rw [HL.out]
            go_wp2_with fail
            refine (refTop_any l _ k hlt2 hRP _ hU7).mono ?_
            rintro e w9 ⟨rfl, rfl⟩
            go_wp2_with fail
            refine (ownerFormTop_any l vo (k : Nat) hlen hD7.fits _ hD7.nodes).mono ?_
            rintro e w10 ⟨rfl, hb10⟩
            rw [HF.out]
            have hce10 := cellK hb10 (by omega) hce7
            go_wp2_with fail
            refine (refTop_any l _ f hfl hRP _ (hU7.kept hb10)).mono ?_
            rintro e w11 ⟨rfl, rfl⟩
            have q1 := HT.out
            go_wp2_with fail
            go_roundw
            case rel => exact ⟨k + 1, by omega, by go_num, bs (bs (bs hbx hb6) hb7) hb10⟩
            case measure => simp [intOf]; omega
        · obtain rfl : k = l.length := by omega
          go_wp2_with fail
          go_ret
          exact ⟨rfl, hb0x⟩
end Go.Proofs.Ytenicjebccdekaa
