/-
  The law PartsExact: the walk.
-/
import Derived.Test.YtapbljaohhcpoaaDoorWalkPartsDecodes
namespace Go.Proofs.YtapbljaohhcpoaaDoor
set_option linter.unusedVariables false
set_option linter.unusedSimpArgs false
open Go.RowKit PT

/-- is an entry told with nothing lost? -/
def Exact (x : Ent) : Prop := 37 ∉ x.n.data.toList ∧ 37 ∉ x.fn.data.toList ∧ (x.f = true → typ x.t.data.toList = x.t.data.toList)
theorem exact_n {x : Ent} (h : Exact x) : unn (nm x.n.data.toList) = ends [13, 10] x.n.data.toList := unn_nm _ h.1
theorem exact_fn {x : Ent} (h : Exact x) : unn (nm x.fn.data.toList) = ends [13, 10] x.fn.data.toList := unn_nm _ h.2.1
theorem mk_data (s : ByteArray) : (⟨s.data.toList.toArray⟩ : ByteArray) = s := rfl
theorem pcl_no (s : ByteArray) (k : Nat) (h : k < s.size) (hn : ∀ c ∈ s.data.toList.take k, c ≠ 37) (hc : s[k] ≠ 37) : ∀ c ∈ s.data.toList.take (k + 1), c ≠ 37 := by
  rw [take_snoc s k h]
  intro c hm
  rcases List.mem_append.1 hm with hm | hm
  · exact hn c hm
  · rw [List.mem_singleton] at hm; rw [hm]; exact hc
theorem pxS_kept {g p b q : Nat} {x0 x1 x2 x3 x4 y0 y1 y2 y3 y4 : Value} {w1 W W' : World}
    (h : W.cell? ⟨g, p, none⟩ = some x0 ∧ W.cell? ⟨g, p + 1, none⟩ = some x1 ∧ W.cell? ⟨g, p + 2, none⟩ = some x2 ∧ W.cell? ⟨g, p + 3, none⟩ = some x3 ∧ W.cell? ⟨g, p + 4, none⟩ = some x4 ∧ W.cell? ⟨b, q, none⟩ = some y0 ∧ W.cell? ⟨b, q + 1, none⟩ = some y1 ∧ W.cell? ⟨b, q + 2, none⟩ = some y2 ∧ W.cell? ⟨b, q + 3, none⟩ = some y3 ∧ W.cell? ⟨b, q + 4, none⟩ = some y4 ∧ g < w1.heap.size ∧ b < w1.heap.size ∧ Below w1.heap.size w1 W) (hb : Below W.heap.size W W') :
    W'.cell? ⟨g, p, none⟩ = some x0 ∧ W'.cell? ⟨g, p + 1, none⟩ = some x1 ∧ W'.cell? ⟨g, p + 2, none⟩ = some x2 ∧ W'.cell? ⟨g, p + 3, none⟩ = some x3 ∧ W'.cell? ⟨g, p + 4, none⟩ = some x4 ∧ W'.cell? ⟨b, q, none⟩ = some y0 ∧ W'.cell? ⟨b, q + 1, none⟩ = some y1 ∧ W'.cell? ⟨b, q + 2, none⟩ = some y2 ∧ W'.cell? ⟨b, q + 3, none⟩ = some y3 ∧ W'.cell? ⟨b, q + 4, none⟩ = some y4 ∧ g < w1.heap.size ∧ b < w1.heap.size ∧ Below w1.heap.size w1 W' := by
  obtain ⟨h0, h1, h2, h3, h4, k0, k1, k2, k3, k4, hg, hq, hbe⟩ := h
  have hs := hbe.size
  exact ⟨cellK hb (by omega) h0, cellK hb (by omega) h1, cellK hb (by omega) h2, cellK hb (by omega) h3, cellK hb (by omega) h4, cellK hb (by omega) k0, cellK hb (by omega) k1, cellK hb (by omega) k2, cellK hb (by omega) k3, cellK hb (by omega) k4, hg, hq, hbe.trans (hb.mono hs)⟩
theorem pxS_drew {g p b q : Nat} {x0 x1 x2 x3 x4 y0 y1 y2 y3 y4 : Value} {w1 W : World}
    (h : W.cell? ⟨g, p, none⟩ = some x0 ∧ W.cell? ⟨g, p + 1, none⟩ = some x1 ∧ W.cell? ⟨g, p + 2, none⟩ = some x2 ∧ W.cell? ⟨g, p + 3, none⟩ = some x3 ∧ W.cell? ⟨g, p + 4, none⟩ = some x4 ∧ W.cell? ⟨b, q, none⟩ = some y0 ∧ W.cell? ⟨b, q + 1, none⟩ = some y1 ∧ W.cell? ⟨b, q + 2, none⟩ = some y2 ∧ W.cell? ⟨b, q + 3, none⟩ = some y3 ∧ W.cell? ⟨b, q + 4, none⟩ = some y4 ∧ g < w1.heap.size ∧ b < w1.heap.size ∧ Below w1.heap.size w1 W) :
    W.drew.cell? ⟨g, p, none⟩ = some x0 ∧ W.drew.cell? ⟨g, p + 1, none⟩ = some x1 ∧ W.drew.cell? ⟨g, p + 2, none⟩ = some x2 ∧ W.drew.cell? ⟨g, p + 3, none⟩ = some x3 ∧ W.drew.cell? ⟨g, p + 4, none⟩ = some x4 ∧ W.drew.cell? ⟨b, q, none⟩ = some y0 ∧ W.drew.cell? ⟨b, q + 1, none⟩ = some y1 ∧ W.drew.cell? ⟨b, q + 2, none⟩ = some y2 ∧ W.drew.cell? ⟨b, q + 3, none⟩ = some y3 ∧ W.drew.cell? ⟨b, q + 4, none⟩ = some y4 ∧ g < w1.heap.size ∧ b < w1.heap.size ∧ Below w1.heap.size w1 W.drew := pxS_kept h ⟨rfl, rfl, rfl, Nat.le_refl _, fun _ _ => rfl⟩
theorem tld_n {x : Ent} (h : Exact x) : (tld x).n = ⟨(ends [13, 10] x.n.data.toList).toArray⟩ := by
  show (⟨(unn (nm x.n.data.toList)).toArray⟩ : ByteArray) = _
  rw [exact_n h]
theorem tld_v0 {x : Ent} (h : x.f = false) : (tld x).v = ⟨(ends [13, 10] x.v.data.toList).toArray⟩ := by
  unfold tld; rw [h]; rfl
theorem tld_v1 {x : Ent} (h : x.f = true) : (tld x).v = x.v := by
  unfold tld; rw [h]; rfl
theorem tld_fn1 {x : Ent} (h : Exact x) (hf : x.f = true) : (tld x).fn = ⟨(ends [13, 10] x.fn.data.toList).toArray⟩ := by
  unfold tld; rw [hf]; simp only [if_true]; rw [exact_fn h]
theorem tld_t1 {x : Ent} (h : Exact x) (hf : x.f = true) : (tld x).t = x.t := by
  unfold tld; rw [hf]; simp only [if_true]; rw [h.2.2 hf]
set_option maxHeartbeats 8000000 in
set_option maxRecDepth 100000 in
theorem partsExact_walk (es : List Ent) (u : Value) (b : ByteArray) (w : World) (hU : Ents es u w) (_hb : b.size ≤ maxLen) (hT : Tables w) :
    Calls Tryd.prog 8 #[u, .string b] w fun e w' => e = .returned (.bool true) ∧ Below w.heap.size w w' := by
  obtain ⟨a, cap, rfl⟩ := hU.len
  go_enter Tryd.func8, Tryd.ntmps8
  go_wp2_with fail
  refine (wakes20_any _ hT).mono ?_
  rintro e w1 ⟨rfl, hb1⟩
  have hU1 := hU.kept hb1
  have hT1 := hT.kept hb1
  go_wp2_with fail
  refine (long19_any es _ _ hU1).mono ?_
  rintro e w' ⟨rfl, rfl⟩
  cases hl : longB es
  · obtain ⟨h60, hS⟩ := long20_no hl
    clear hl
    by_cases h1000 : b.size ≤ 1000
    · have hP' : decide ((1000 : Int) < (b.size : Int)) = false := by simp; omega
      go_wp2_with fail
      go_loopw [24] (fun i wr => ∃ k : Nat, k ≤ es.length ∧ i = .int .i64 k ∧ Hid (∀ x ∈ es.take k, Exact x) ∧ Below w1.heap.size w1 wr) (fun i _ => es.length - (intOf i).toNat)
      case atStart => exact ⟨0, Nat.zero_le _, rfl, Lib.hid (by simp), Below.refl _ _⟩
      case round =>
        obtain ⟨k, hk, rfl, hX, hbel⟩ := hrel
        have hsz := hbel.size
        by_cases hlt : k < es.length
        · obtain ⟨bb, o, cap', hv, hbb, hc0, hc1, hc2, hc3, hc4⟩ := (hU1.kept hbel).five hlt
          cases hv
          have hTk := Lib.hid (List.take_succ_eq_append_getElem hlt)
          have hSk := hS es[k] (List.getElem_mem hlt)
          generalize es[k] = x at *
          obtain ⟨n, v, f, fn, t⟩ := x
          obtain ⟨s1, s2, s3, s4⟩ := hSk
          simp only at hc0 hc1 hc2 hc3 hc4 s1 s2 s3 s4
          have hk0 : (0 : Int) ≤ (k : Int) := by omega
          have hk1 : (k : Int) < (es.length : Int) := by omega
          have hcat : ¬ 9223372036854775807 < n.size + fn.size := by omega
          go_wp2_with fail
          go_quiet (fail)
          have hcz : (n ++ fn).size = n.size + fn.size := by rw [← size_list, ← size_list n, ← size_list fn]; simp
          have HD := Lib.hid (show (n ++ fn).data.toList = n.data.toList ++ fn.data.toList by simp)
          obtain ⟨S, hSe⟩ : ∃ S : ByteArray, n ++ fn = S := ⟨_, rfl⟩
          rw [hSe] at hcz HD ⊢
          have hSz : S.size ≤ 4000 := by omega
          clear hSe hcz hcat
          go_upto_region 10 with fail
          have hbW := hbel.trans ((below_draws wr nq).mono hsz)
          have hd1 : (wr.drewN nq).cell? ⟨bb, o + k * 5 + 2, none⟩ = some (.bool f) := hc2
          have hd2 : (wr.drewN nq).cell? ⟨bb, o + k * 5 + 4, none⟩ = some (.string t) := hc4
          generalize wr.drewN nq = W2 at hbW hd1 hd2 ⊢
          clear hc0 hc1 hc2 hc3 hc4 hbel
          go_loop [40] (fun i => ∃ j : Nat, j ≤ S.size ∧ i = .int .i64 j ∧ Hid (∀ c ∈ S.data.toList.take j, c ≠ 37)) (fun i => S.size - (intOf i).toNat)
          case atStart => exact ⟨0, Nat.zero_le _, rfl, Lib.hid (by simp)⟩
          case round =>
            obtain ⟨j, hj, rfl, hN⟩ := hrel
            by_cases hjl : j < S.size
            · by_cases h37 : S[j] = 37
              · have hc : ((S[j].toNat : Int) == 37) = true := byteEq_yes h37
                clear h37
                go_wp2_with fail
                go_ret
                exact ⟨rfl, bs hb1 hbW⟩
              · have hc : ((S[j].toNat : Int) == 37) = false := byteEq_no h37
                have hN2 := Lib.hid (pcl_no S j hjl hN.out h37)
                clear h37
                go_wp2_with fail
                go_round
                case rel => exact ⟨j + 1, by omega, by go_num, hN2⟩
                case measure => simp [intOf]; omega
            · obtain rfl : j = S.size := by omega
              have hno := hN.out
              rw [List.take_of_length_le (by rw [size_list]; exact Nat.le_refl _), HD.out] at hno
              have hn37 := Lib.hid (show 37 ∉ n.data.toList ∧ 37 ∉ fn.data.toList from ⟨fun m => hno 37 (List.mem_append_left _ m) rfl, fun m => hno 37 (List.mem_append_right _ m) rfl⟩)
              clear hno
              cases f
              · have hN2 := Lib.hid (show ∀ x ∈ es.take (k + 1), Exact x by
                  rw [hTk.out]
                  intro x hx
                  rcases List.mem_append.1 hx with hx | hx
                  · exact hX.out x hx
                  · rw [List.mem_singleton] at hx
                    rw [hx]
                    exact ⟨hn37.out.1, hn37.out.2, fun h => by cases h⟩)
                go_wp2_with fail
                go_quiet (fail)
                go_wp2_with fail
                exact ⟨⟨k + 1, by omega, by go_num, hN2, hbW.trans ((below_draws W2 _).mono hbW.size)⟩, by simp [intOf]; omega⟩
              · by_cases hty : typ t.data.toList = t.data.toList
                · have hN2 := Lib.hid (show ∀ x ∈ es.take (k + 1), Exact x by
                    rw [hTk.out]
                    intro x hx
                    rcases List.mem_append.1 hx with hx | hx
                    · exact hX.out x hx
                    · rw [List.mem_singleton] at hx
                      rw [hx]
                      exact ⟨hn37.out.1, hn37.out.2, fun _ => hty⟩)
                  have hTE := Lib.hid (show Calls Tryd.prog 27 #[.string t] W2 fun e w' => True from (refType_any t (by omega) W2).mono fun _ _ _ => trivial)
                  have HTY := Lib.hid (show (⟨(typ t.data.toList).toArray⟩ : ByteArray) = t by rw [hty])
                  clear hty
                  go_wp2_with fail
                  go_quiet ((go_at_call 27; exact Calls.quiet_of_same ((refType_any t (by omega) _).mono fun _ _ h => ⟨h.1.trans (by rw [HTY.out]), h.2.symm⟩)))
                  go_wp2_with fail
                  exact ⟨⟨k + 1, by omega, by go_num, hN2, hbW.trans ((below_draws W2 _).mono hbW.size)⟩, by simp [intOf]; omega⟩
                · have hq : (typ t.data.toList == t.toList) = false := by rw [ByteArray.toList_eq]; exact beq_eq_false_iff_ne.2 hty
                  clear hty
                  go_wp2_with fail
                  go_quiet ((go_at_call 27; exact Calls.quiet_of_same ((refType_any t (by omega) _).mono fun _ _ h => ⟨h.1, h.2.symm⟩)))
                  go_wp2_with fail
                  go_ret
                  exact ⟨rfl, bs hb1 (hbW.trans ((below_draws W2 _).mono hbW.size))⟩
        · obtain rfl : k = es.length := by omega
          have hX2 := hX.out
          rw [List.take_of_length_le (Nat.le_refl _)] at hX2
          have HX := Lib.hid hX2
          clear hX2
          have hUr := hU1.kept hbel
          have hTr := hT1.kept hbel
          go_wp2_with fail
          refine (partsEncode_any es _ b (by omega) hS _ hUr hTr).mono ?_
          rintro e w4 ⟨rfl, hb4⟩
          have hE4 := hUr.kept hb4
          have hT4 := hTr.kept hb4
          cases hC : clearB es b.data.toList
          · simp only [encV, hC, if_false, Bool.false_eq_true]
            go_wp2_with fail
            go_ret
            exact ⟨rfl, bs (bs hb1 hbel) hb4⟩
          · have hD := Lib.hid (decE_enc b.data.toList es hC)
            have hbz := clear_fit hC
            have hle : (encP20 b.data.toList es).length ≤ 3604636 := encP20_len b.data.toList (by rw [size_list]; omega) es h60 hS
            simp only [encV, hC, if_true]
            clear hC
            generalize encP20 b.data.toList es = E at *
            go_wp2_with fail
            refine (decode20_any ⟨E.toArray⟩ b (by rw [size_mk]; omega) _ hT4).mono ?_
            rintro e w5 ⟨⟨v5, rfl, hV5⟩, hb5⟩
            rw [show (ByteArray.mk E.toArray).data.toList = E from rfl, hD.out] at hV5 ⊢
            simp only [Option.isSome, if_true, Option.getD_some] at hV5 ⊢
            rw [List.map_map, show entOf ∘ tld5 = tld from funext tld5_ent] at hV5
            have hE5 := hE4.kept hb5
            have hbb := bs (bs (bs hb1 hbel) hb4) hb5
            obtain ⟨a5, cap5, rfl⟩ := hV5.len
            have hml : (es.map tld).length = es.length := List.length_map _
            rw [hml] at hV5 ⊢
            have HML := Lib.hid hml
            clear hb4 hb5 hbel hD hle hml hX hE4 hUr hT4 hTr
            go_wp2_with fail
            go_loopw [95] (fun i wr => ∃ k : Nat, k ≤ es.length ∧ i = .int .i64 k ∧ Below w5.heap.size w5 wr) (fun i _ => es.length - (intOf i).toNat)
            case atStart => exact ⟨0, Nat.zero_le _, rfl, Below.refl _ _⟩
            case round =>
              obtain ⟨k, hk, rfl, hbel⟩ := hrel
              have hsz := hbel.size
              by_cases hlt : k < es.length
              · obtain ⟨bb, o, cap', hv, hbb5, hc0, hc1, hc2, hc3, hc4⟩ := hE5.five hlt
                obtain ⟨g, p, capg, hvg, hbg5, hm0, hm1, hm2, hm3, hm4⟩ := hV5.five (k := k) (by rw [HML.out]; exact hlt)
                cases hv
                rw [HML.out] at hvg
                cases hvg
                rw [List.getElem_map] at hm0 hm1 hm2 hm3 hm4
                have hSk := hS es[k] (List.getElem_mem hlt)
                have hXk := HX.out es[k] (List.getElem_mem hlt)
                generalize es[k] = x at *
                obtain ⟨n, v, f, fn, t⟩ := x
                obtain ⟨s1, s2, s3, s4⟩ := hSk
                simp only at hc0 hc1 hc2 hc3 hc4 s1 s2 s3 s4
                rw [tld_n hXk] at hm0
                have hk0 : (0 : Int) ≤ (k : Int) := by omega
                have hk1 : (k : Int) < (es.length : Int) := by omega
                simp only at hm0
                generalize hN : ends [13, 10] n.data.toList = N at hm0
                have HN := Lib.hid hN
                clear hN
                cases f
                · rw [tld_v0 rfl] at hm1
                  simp only at hm1
                  generalize hV : ends [13, 10] v.data.toList = V at hm1
                  have HV := Lib.hid hV
                  clear hV
                  generalize (tld _).fn = mfn at hm3
                  generalize (tld _).t = mt at hm4
                  clear hXk
                  have hS7 : (fun W => W.cell? ⟨g, p + k * 5, none⟩ = some (.string ⟨N.toArray⟩) ∧ W.cell? ⟨g, p + k * 5 + 1, none⟩ = some (.string ⟨V.toArray⟩) ∧ W.cell? ⟨g, p + k * 5 + 2, none⟩ = some (.bool false) ∧ W.cell? ⟨g, p + k * 5 + 3, none⟩ = some (.string mfn) ∧ W.cell? ⟨g, p + k * 5 + 4, none⟩ = some (.string mt) ∧ W.cell? ⟨bb, o + k * 5, none⟩ = some (.string n) ∧ W.cell? ⟨bb, o + k * 5 + 1, none⟩ = some (.string v) ∧ W.cell? ⟨bb, o + k * 5 + 2, none⟩ = some (.bool false) ∧ W.cell? ⟨bb, o + k * 5 + 3, none⟩ = some (.string fn) ∧ W.cell? ⟨bb, o + k * 5 + 4, none⟩ = some (.string t) ∧ g < w5.heap.size ∧ bb < w5.heap.size ∧ Below w5.heap.size w5 W) wr := ⟨cellK hbel hbg5 hm0, cellK hbel hbg5 hm1, cellK hbel hbg5 hm2, cellK hbel hbg5 hm3, cellK hbel hbg5 hm4, cellK hbel hbb5 hc0, cellK hbel hbb5 hc1, cellK hbel hbb5 hc2, cellK hbel hbb5 hc3, cellK hbel hbb5 hc4, hbg5, hbb5, hbel⟩
                  dsimp only at hS7
                  clear hm0 hm1 hm2 hm3 hm4 hc0 hc1 hc2 hc3 hc4 hbel
                  go_wp2_with fail
                  first | go_region_held3 (fun W => W.cell? ⟨g, p + k * 5, none⟩ = some (.string ⟨N.toArray⟩) ∧ W.cell? ⟨g, p + k * 5 + 1, none⟩ = some (.string ⟨V.toArray⟩) ∧ W.cell? ⟨g, p + k * 5 + 2, none⟩ = some (.bool false) ∧ W.cell? ⟨g, p + k * 5 + 3, none⟩ = some (.string mfn) ∧ W.cell? ⟨g, p + k * 5 + 4, none⟩ = some (.string mt) ∧ W.cell? ⟨bb, o + k * 5, none⟩ = some (.string n) ∧ W.cell? ⟨bb, o + k * 5 + 1, none⟩ = some (.string v) ∧ W.cell? ⟨bb, o + k * 5 + 2, none⟩ = some (.bool false) ∧ W.cell? ⟨bb, o + k * 5 + 3, none⟩ = some (.string fn) ∧ W.cell? ⟨bb, o + k * 5 + 4, none⟩ = some (.string t) ∧ g < w5.heap.size ∧ bb < w5.heap.size ∧ Below w5.heap.size w5 W) (with_reducible first | assumption | exact pxS_drew (by assumption) | exact pxS_kept (by assumption) (by assumption)) (((go_at_call 28; refine (refPairs_any n (by omega) _).mono ?_; rintro e w8 ⟨rfl, hw8⟩; rw [HN.out]))) | fail
                  refine take_world (fun W => W.cell? ⟨g, p + k * 5, none⟩ = some (.string ⟨N.toArray⟩) ∧ W.cell? ⟨g, p + k * 5 + 1, none⟩ = some (.string ⟨V.toArray⟩) ∧ W.cell? ⟨g, p + k * 5 + 2, none⟩ = some (.bool false) ∧ W.cell? ⟨g, p + k * 5 + 3, none⟩ = some (.string mfn) ∧ W.cell? ⟨g, p + k * 5 + 4, none⟩ = some (.string mt) ∧ W.cell? ⟨bb, o + k * 5, none⟩ = some (.string n) ∧ W.cell? ⟨bb, o + k * 5 + 1, none⟩ = some (.string v) ∧ W.cell? ⟨bb, o + k * 5 + 2, none⟩ = some (.bool false) ∧ W.cell? ⟨bb, o + k * 5 + 3, none⟩ = some (.string fn) ∧ W.cell? ⟨bb, o + k * 5 + 4, none⟩ = some (.string t) ∧ g < w5.heap.size ∧ bb < w5.heap.size ∧ Below w5.heap.size w5 W) (by assumption) ?_
                  intro hS8
                  clear hS7
                  obtain ⟨_, _, _, _, _, _, _, _, _, _, _, _, _⟩ := id hS8
                  go_wp2_with fail
                  go_quiet (fail)
                  have hS9 := pxS_kept hS8 (below_draws w8 nq)
                  generalize w8.drewN nq = w9 at hS9 ⊢
                  clear hS8
                  go_wp2_with fail
                  first | go_region_held3 (fun W => W.cell? ⟨g, p + k * 5, none⟩ = some (.string ⟨N.toArray⟩) ∧ W.cell? ⟨g, p + k * 5 + 1, none⟩ = some (.string ⟨V.toArray⟩) ∧ W.cell? ⟨g, p + k * 5 + 2, none⟩ = some (.bool false) ∧ W.cell? ⟨g, p + k * 5 + 3, none⟩ = some (.string mfn) ∧ W.cell? ⟨g, p + k * 5 + 4, none⟩ = some (.string mt) ∧ W.cell? ⟨bb, o + k * 5, none⟩ = some (.string n) ∧ W.cell? ⟨bb, o + k * 5 + 1, none⟩ = some (.string v) ∧ W.cell? ⟨bb, o + k * 5 + 2, none⟩ = some (.bool false) ∧ W.cell? ⟨bb, o + k * 5 + 3, none⟩ = some (.string fn) ∧ W.cell? ⟨bb, o + k * 5 + 4, none⟩ = some (.string t) ∧ g < w5.heap.size ∧ bb < w5.heap.size ∧ Below w5.heap.size w5 W) (with_reducible first | assumption | exact pxS_drew (by assumption) | exact pxS_kept (by assumption) (by assumption)) (((go_at_call 28; refine (refPairs_any v (by omega) _).mono ?_; rintro e w10 ⟨rfl, hw10⟩; rw [HV.out]))) | fail
                  refine take_world (fun W => W.cell? ⟨g, p + k * 5, none⟩ = some (.string ⟨N.toArray⟩) ∧ W.cell? ⟨g, p + k * 5 + 1, none⟩ = some (.string ⟨V.toArray⟩) ∧ W.cell? ⟨g, p + k * 5 + 2, none⟩ = some (.bool false) ∧ W.cell? ⟨g, p + k * 5 + 3, none⟩ = some (.string mfn) ∧ W.cell? ⟨g, p + k * 5 + 4, none⟩ = some (.string mt) ∧ W.cell? ⟨bb, o + k * 5, none⟩ = some (.string n) ∧ W.cell? ⟨bb, o + k * 5 + 1, none⟩ = some (.string v) ∧ W.cell? ⟨bb, o + k * 5 + 2, none⟩ = some (.bool false) ∧ W.cell? ⟨bb, o + k * 5 + 3, none⟩ = some (.string fn) ∧ W.cell? ⟨bb, o + k * 5 + 4, none⟩ = some (.string t) ∧ g < w5.heap.size ∧ bb < w5.heap.size ∧ Below w5.heap.size w5 W) (by assumption) ?_
                  rintro ⟨_, _, _, _, _, _, _, _, _, _, _, _, hb9⟩
                  go_wp2_with fail
                  exact ⟨⟨k + 1, by omega, by go_num, hb9⟩, by simp [intOf]; omega⟩
                · rw [tld_v1 rfl] at hm1
                  rw [tld_fn1 hXk rfl] at hm3
                  rw [tld_t1 hXk rfl] at hm4
                  simp only at hm1 hm3 hm4
                  generalize hF : ends [13, 10] fn.data.toList = F at hm3
                  have HF := Lib.hid hF
                  clear hF hXk
                  have hS7 : (fun W => W.cell? ⟨g, p + k * 5, none⟩ = some (.string ⟨N.toArray⟩) ∧ W.cell? ⟨g, p + k * 5 + 1, none⟩ = some (.string v) ∧ W.cell? ⟨g, p + k * 5 + 2, none⟩ = some (.bool true) ∧ W.cell? ⟨g, p + k * 5 + 3, none⟩ = some (.string ⟨F.toArray⟩) ∧ W.cell? ⟨g, p + k * 5 + 4, none⟩ = some (.string t) ∧ W.cell? ⟨bb, o + k * 5, none⟩ = some (.string n) ∧ W.cell? ⟨bb, o + k * 5 + 1, none⟩ = some (.string v) ∧ W.cell? ⟨bb, o + k * 5 + 2, none⟩ = some (.bool true) ∧ W.cell? ⟨bb, o + k * 5 + 3, none⟩ = some (.string fn) ∧ W.cell? ⟨bb, o + k * 5 + 4, none⟩ = some (.string t) ∧ g < w5.heap.size ∧ bb < w5.heap.size ∧ Below w5.heap.size w5 W) wr := ⟨cellK hbel hbg5 hm0, cellK hbel hbg5 hm1, cellK hbel hbg5 hm2, cellK hbel hbg5 hm3, cellK hbel hbg5 hm4, cellK hbel hbb5 hc0, cellK hbel hbb5 hc1, cellK hbel hbb5 hc2, cellK hbel hbb5 hc3, cellK hbel hbb5 hc4, hbg5, hbb5, hbel⟩
                  dsimp only at hS7
                  clear hm0 hm1 hm2 hm3 hm4 hc0 hc1 hc2 hc3 hc4 hbel
                  go_wp2_with fail
                  first | go_region_held3 (fun W => W.cell? ⟨g, p + k * 5, none⟩ = some (.string ⟨N.toArray⟩) ∧ W.cell? ⟨g, p + k * 5 + 1, none⟩ = some (.string v) ∧ W.cell? ⟨g, p + k * 5 + 2, none⟩ = some (.bool true) ∧ W.cell? ⟨g, p + k * 5 + 3, none⟩ = some (.string ⟨F.toArray⟩) ∧ W.cell? ⟨g, p + k * 5 + 4, none⟩ = some (.string t) ∧ W.cell? ⟨bb, o + k * 5, none⟩ = some (.string n) ∧ W.cell? ⟨bb, o + k * 5 + 1, none⟩ = some (.string v) ∧ W.cell? ⟨bb, o + k * 5 + 2, none⟩ = some (.bool true) ∧ W.cell? ⟨bb, o + k * 5 + 3, none⟩ = some (.string fn) ∧ W.cell? ⟨bb, o + k * 5 + 4, none⟩ = some (.string t) ∧ g < w5.heap.size ∧ bb < w5.heap.size ∧ Below w5.heap.size w5 W) (with_reducible first | assumption | exact pxS_drew (by assumption) | exact pxS_kept (by assumption) (by assumption)) (((go_at_call 28; refine (refPairs_any n (by omega) _).mono ?_; rintro e w8 ⟨rfl, hw8⟩; rw [HN.out]))) | fail
                  refine take_world (fun W => W.cell? ⟨g, p + k * 5, none⟩ = some (.string ⟨N.toArray⟩) ∧ W.cell? ⟨g, p + k * 5 + 1, none⟩ = some (.string v) ∧ W.cell? ⟨g, p + k * 5 + 2, none⟩ = some (.bool true) ∧ W.cell? ⟨g, p + k * 5 + 3, none⟩ = some (.string ⟨F.toArray⟩) ∧ W.cell? ⟨g, p + k * 5 + 4, none⟩ = some (.string t) ∧ W.cell? ⟨bb, o + k * 5, none⟩ = some (.string n) ∧ W.cell? ⟨bb, o + k * 5 + 1, none⟩ = some (.string v) ∧ W.cell? ⟨bb, o + k * 5 + 2, none⟩ = some (.bool true) ∧ W.cell? ⟨bb, o + k * 5 + 3, none⟩ = some (.string fn) ∧ W.cell? ⟨bb, o + k * 5 + 4, none⟩ = some (.string t) ∧ g < w5.heap.size ∧ bb < w5.heap.size ∧ Below w5.heap.size w5 W) (by assumption) ?_
                  intro hS8
                  clear hS7
                  obtain ⟨_, _, _, _, _, _, _, _, _, _, _, _, _⟩ := id hS8
                  go_wp2_with fail
                  first | go_region_held3 (fun W => W.cell? ⟨g, p + k * 5, none⟩ = some (.string ⟨N.toArray⟩) ∧ W.cell? ⟨g, p + k * 5 + 1, none⟩ = some (.string v) ∧ W.cell? ⟨g, p + k * 5 + 2, none⟩ = some (.bool true) ∧ W.cell? ⟨g, p + k * 5 + 3, none⟩ = some (.string ⟨F.toArray⟩) ∧ W.cell? ⟨g, p + k * 5 + 4, none⟩ = some (.string t) ∧ W.cell? ⟨bb, o + k * 5, none⟩ = some (.string n) ∧ W.cell? ⟨bb, o + k * 5 + 1, none⟩ = some (.string v) ∧ W.cell? ⟨bb, o + k * 5 + 2, none⟩ = some (.bool true) ∧ W.cell? ⟨bb, o + k * 5 + 3, none⟩ = some (.string fn) ∧ W.cell? ⟨bb, o + k * 5 + 4, none⟩ = some (.string t) ∧ g < w5.heap.size ∧ bb < w5.heap.size ∧ Below w5.heap.size w5 W) (with_reducible first | assumption | exact pxS_drew (by assumption) | exact pxS_kept (by assumption) (by assumption)) (((go_at_call 28; refine (refPairs_any fn (by omega) _).mono ?_; rintro e w9 ⟨rfl, hw9⟩; rw [HF.out]))) | fail
                  refine take_world (fun W => W.cell? ⟨g, p + k * 5, none⟩ = some (.string ⟨N.toArray⟩) ∧ W.cell? ⟨g, p + k * 5 + 1, none⟩ = some (.string v) ∧ W.cell? ⟨g, p + k * 5 + 2, none⟩ = some (.bool true) ∧ W.cell? ⟨g, p + k * 5 + 3, none⟩ = some (.string ⟨F.toArray⟩) ∧ W.cell? ⟨g, p + k * 5 + 4, none⟩ = some (.string t) ∧ W.cell? ⟨bb, o + k * 5, none⟩ = some (.string n) ∧ W.cell? ⟨bb, o + k * 5 + 1, none⟩ = some (.string v) ∧ W.cell? ⟨bb, o + k * 5 + 2, none⟩ = some (.bool true) ∧ W.cell? ⟨bb, o + k * 5 + 3, none⟩ = some (.string fn) ∧ W.cell? ⟨bb, o + k * 5 + 4, none⟩ = some (.string t) ∧ g < w5.heap.size ∧ bb < w5.heap.size ∧ Below w5.heap.size w5 W) (by assumption) ?_
                  intro hS9
                  clear hS8
                  obtain ⟨_, _, _, _, _, _, _, _, _, _, _, _, hb9⟩ := id hS9
                  go_wp2_with fail
                  go_quiet (fail)
                  go_wp2_with fail
                  exact ⟨⟨k + 1, by omega, by go_num, hb9.trans ((below_draws w9 _).mono hb9.size)⟩, by simp [intOf]; omega⟩
              · obtain rfl : k = es.length := by omega
                go_wp2_with fail
                go_ret
                exact ⟨rfl, bs hbb hbel⟩
    · have hP' : (1000 : Int) < (b.size : Int) := by omega
      go_wp2_with fail
      go_ret
      exact ⟨rfl, hb1⟩
  · go_wp2_with fail
    go_ret
    exact ⟨rfl, hb1⟩
end Go.Proofs.YtapbljaohhcpoaaDoor
